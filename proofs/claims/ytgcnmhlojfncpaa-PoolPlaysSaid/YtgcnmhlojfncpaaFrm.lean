/- Contracts of the store of frames, in bounds: what only reads. -/
import Derived.Test.YtgcnmhlojfncpaaOctP
import Derived.Test.YtgcnmhlojfncpaaOnewayZeroWalk
import Derived.Deep.MidRow
import Derived.Laws.CopyOwn
import Derived.Stop.BytesEq
namespace Go.Proofs.Ytgcnmhlojfncpaa
open Go.ChangeShapes Go.WideShapes Go.ChangeAt Go.RowKit
set_option linter.unusedVariables false

theorem types_ne {w : World} {a b : Nat} {c1 c2 : Array Value} {t1 t2 : TypeId} {f1 f2 : Nat × Nat} (ha : w.heap[a]? = some (.cells c1 t1 f1)) (hb : w.heap[b]? = some (.cells c2 t2 f2)) (ht : t1 ≠ t2) : a ≠ b := by
  rintro rfl
  rw [ha] at hb
  cases hb
  exact ht rfl

/-- A store of n frames lies in block s, its bytes in block fb. -/
def StoAt (w : World) (s fb n : Nat) (G : Nat → Int) : Prop :=
  n ≤ 32 ∧ w.heap[s]? = some (.cells #[.slice (some ⟨fb, 0, none⟩) n n, .bool true] 68 (0, 0)) ∧
  (∃ cur : Array Value, w.heap[fb]? = some (.cells cur 79 (0, 0)) ∧ cur.size = n * 64 ∧ ∀ i, i < n * 64 → cur[i]? = some (.int .u8 (G i))) ∧ Byt G
theorem StoAt.ne {w : World} {s fb n : Nat} {G : Nat → Int} (h : StoAt w s fb n G) : s ≠ fb := let ⟨_, h1, ⟨_, h2, _⟩, _⟩ := h; types_ne h1 h2 (by decide)
theorem StoAt.below {w w' : World} {s fb n : Nat} {G : Nat → Int} (h : StoAt w s fb n G) (hb : Below w.heap.size w w') : StoAt w' s fb n G :=
  let ⟨hn, h1, ⟨cur, h2, h3⟩, h4⟩ := h
  ⟨hn, (hb.block s (lt_heap h1)).trans h1, ⟨cur, (hb.block fb (lt_heap h2)).trans h2, h3⟩, h4⟩
theorem StoAt.later {w : World} {s fb n : Nat} {G : Nat → Int} {x : Lat w} (h : StoAt w s fb n G) : StoAt (Proofs.Ytgcnmhlojfncpaa.later w x) s fb n G := h.below (later_below w x)
theorem StoAt.alloc {w : World} {s fb n : Nat} {G : Nat → Int} {o : Obj} (h : StoAt w s fb n G) : StoAt (w.alloc o) s fb n G := h.below (Bel.refl w).alloc.1
theorem StoAt.drew {w : World} {s fb n : Nat} {G : Nat → Int} (h : StoAt w s fb n G) : StoAt w.drew s fb n G := h
theorem StoAt.upd {w w' : World} {s fb n b : Nat} {G : Nat → Int} (h : StoAt w s fb n G) (hu : Upd b w w') (h1 : s ≠ b) (h2 : fb ≠ b) : StoAt w' s fb n G :=
  let ⟨hn, q1, ⟨cur, q2, q3⟩, q4⟩ := h
  ⟨hn, heap_upd q1 hu h1, ⟨cur, heap_upd q2 hu h2, q3⟩, q4⟩
theorem StoAt.cell0 {w : World} {s fb n : Nat} {G : Nat → Int} (h : StoAt w s fb n G) : w.cell? ⟨s, 0, none⟩ = some (.slice (some ⟨fb, 0, none⟩) n n) := by
  obtain ⟨_, h1, _⟩ := h
  simp [World.cell?, h1]
theorem StoAt.cell1 {w : World} {s fb n : Nat} {G : Nat → Int} (h : StoAt w s fb n G) : w.cell? ⟨s, 1, none⟩ = some (.bool true) := by
  obtain ⟨_, h1, _⟩ := h
  simp [World.cell?, h1]
theorem StoAt.made {w : World} {s fb n : Nat} {G : Nat → Int} (h : StoAt w s fb n G) : MadeAt w (some ⟨s, 0, none⟩) n := ⟨s, _, _, rfl, h.cell0, h.cell1⟩
theorem StoAt.lt {w : World} {s fb n : Nat} {G : Nat → Int} (h : StoAt w s fb n G) : s < w.heap.size := let ⟨_, h1, _⟩ := h; lt_heap h1
theorem StoAt.ltb {w : World} {s fb n : Nat} {G : Nat → Int} (h : StoAt w s fb n G) : fb < w.heap.size := let ⟨_, _, ⟨_, h1, _⟩, _⟩ := h; lt_heap h1

/-- A frame's bytes, of all bytes. -/
def fr (G : Nat → Int) (f : Nat) : Nat → Int := fun i => G (f * 64 + i)
theorem fr_byt {G : Nat → Int} (h : Byt G) (f : Nat) : Byt (fr G f) := fun i => h _
theorem StoAt.bat {w : World} {s fb n : Nat} {G : Nat → Int} (h : StoAt w s fb n G) {f : Nat} (hf : f < n) : BAt w fb (f * 64) 64 (fr G f) := by
  obtain ⟨_, _, ⟨cur, h1, h2, h3⟩, h4⟩ := h
  refine ⟨lt_heap h1, fun i hi => ?_, fr_byt h4 f⟩
  have hlt : f * 64 + i < n * 64 := by
    have : (f + 1) * 64 ≤ n * 64 := Nat.mul_le_mul_right _ hf
    omega
  rw [show w.cell? ⟨fb, f * 64 + i, none⟩ = cur[f * 64 + i]? by simp [World.cell?, h1]]
  exact h3 _ hlt

theorem may_in (s fb n f : Nat) (G : Nat → Int) (w : World) (h : StoAt w s fb n G) (hf : f < n) : Calls Try.prog 36 #[.pointer (some ⟨s, 0, none⟩), .int .i64 f] w fun e w' => e = .returned (.int .i64 0) ∧ Below w.heap.size w w' := by
  have hm := h.made
  have h0 := h.cell0
  have hl := h.lt
  have hn1 : ¬ (f : Int) < 0 := by omega
  have hn2 : ¬ (n : Int) ≤ f := by omega
  clear h
  go_enter Try.func36, Try.ntmps36
  go_wp2_with fail
  refine (Calls.lat (none_made _ _ _ hm)).mono ?_
  rintro e w' ⟨rfl, x, rfl⟩
  clear hm
  go_wp2
  go_ret
  exact ⟨rfl, (by refine (?_ : Bel _ _ _).1; repeat (first | exact hbel | exact Bel.refl _ | apply Bel.later | apply Bel.alloc | apply Bel.drew | (refine Bel.laterB ?_ (by first | exact Nat.le_refl _ | omega | (simp; omega) | simp)) | (refine Bel.setCell ?_ (by first | exact Nat.le_refl _ | omega | (simp; omega) | simp))))⟩

theorem len_of (s fb n : Nat) (G : Nat → Int) (w : World) (h : StoAt w s fb n G) : Calls Try.prog 28 #[.pointer (some ⟨s, 0, none⟩)] w fun e w' => e = .returned (.int .i64 n) ∧ Below w.heap.size w w' := by
  have hm := h.made
  have h0 := h.cell0
  have hl := h.lt
  clear h
  go_enter Try.func28, Try.ntmps28
  go_wp2_with fail
  refine (Calls.lat (none_made _ _ _ hm)).mono ?_
  rintro e w' ⟨rfl, x, rfl⟩
  clear hm
  go_wp2
  go_ret
  exact ⟨rfl, (by refine (?_ : Bel _ _ _).1; repeat (first | exact hbel | exact Bel.refl _ | apply Bel.later | apply Bel.alloc | apply Bel.drew | (refine Bel.laterB ?_ (by first | exact Nat.le_refl _ | omega | (simp; omega) | simp)) | (refine Bel.setCell ?_ (by first | exact Nat.le_refl _ | omega | (simp; omega) | simp))))⟩

end Go.Proofs.Ytgcnmhlojfncpaa
