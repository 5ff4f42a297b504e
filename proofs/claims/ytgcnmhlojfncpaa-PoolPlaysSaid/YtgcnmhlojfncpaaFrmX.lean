/- Contracts of the store of frames, in bounds: Clear, Bytes, Clean; New. -/
import Derived.Test.YtgcnmhlojfncpaaFrmW
namespace Go.Proofs.Ytgcnmhlojfncpaa
open Go.ChangeShapes Go.WideShapes Go.ChangeAt Go.RowKit
set_option linter.unusedVariables false

theorem setCells_upd {b : Nat} : ∀ (vs : List Value) (o : Nat) (w : World), Upd b w (w.setCells b o vs)
  | [], _, w => Upd.refl b w
  | v :: r, o, w => by
    rw [World.setCells]
    exact (Upd.setCell (Upd.refl b w)).trans (setCells_upd r (o + 1) _)
theorem setCells_heap {b : Nat} {t : TypeId} {fr : Nat × Nat} : ∀ (vs : List Value) (o : Nat) (w : World) (cur : Array Value), w.heap[b]? = some (.cells cur t fr) → o + vs.length ≤ cur.size →
    ∃ cur', (w.setCells b o vs).heap[b]? = some (.cells cur' t fr) ∧ cur'.size = cur.size ∧ ∀ i, cur'[i]? = if o ≤ i ∧ i < o + vs.length then vs[i - o]? else cur[i]?
  | [], o, w, cur, h, _ => ⟨cur, h, rfl, fun i => by rw [if_neg (by simp <;> omega)]⟩
  | v :: r, o, w, cur, h, hl => by
    rw [World.setCells]
    simp only [List.length_cons] at hl
    obtain ⟨cur', h1, h2, h3⟩ := setCells_heap r (o + 1) (w.setCell ⟨b, o, none⟩ v) _ (heap_setCell_at (o := o) (u := v) h) (by simp; omega)
    refine ⟨cur', h1, by simpa using h2, fun i => ?_⟩
    rw [h3 i]
    simp only [List.length_cons]
    by_cases e : i = o
    · subst e
      rw [if_neg (by omega), if_pos (by omega), Nat.sub_self]
      simp [show i < cur.size by omega]
    · by_cases h4 : o + 1 ≤ i ∧ i < o + 1 + r.length
      · rw [if_pos h4, if_pos (by omega), show i - o = (i - (o + 1)) + 1 by omega, List.getElem?_cons_succ]
      · rw [if_neg h4, if_neg (by omega), Array.getElem?_setIfInBounds_ne (by omega)]

def zeros64L : List Value := List.replicate 64 (.int .u8 0)

theorem byt_putF {G : Nat → Int} (h : Byt G) (a m : Nat) (v : Int) : Byt (putF G a m v) := putF_byt h a m v

theorem StoAt.zeroed {w : World} {s fb n f : Nat} {G : Nat → Int} (h : StoAt w s fb n G) (hf : f < n) : StoAt (w.setCells fb (f * 64) zeros64L) s fb n (putF G (f * 64) 64 0) := by
  have hne := h.ne
  obtain ⟨hn, h1, ⟨cur, h2, h3, h4⟩, h5⟩ := h
  have hf64 : f * 64 + 64 ≤ n * 64 := by
    have : (f + 1) * 64 ≤ n * 64 := Nat.mul_le_mul_right _ hf
    omega
  obtain ⟨cur', q1, q2, q3⟩ := setCells_heap zeros64L (f * 64) w cur h2 (by rw [h3]; simp [zeros64L]; omega)
  refine ⟨hn, heap_upd h1 (setCells_upd _ _ _) hne, ⟨cur', q1, q2.trans h3, fun i hi => ?_⟩, byt_putF h5 _ _ _⟩
  rw [q3 i]
  unfold putF
  have hlen : zeros64L.length = 64 := by simp [zeros64L]
  rw [hlen]
  by_cases hin : f * 64 ≤ i ∧ i < f * 64 + 64
  · rw [if_pos hin, if_pos hin]
    simp only [zeros64L, List.getElem?_replicate]
    rw [if_pos (by omega)]
    simp
  · rw [if_neg hin, if_neg hin]
    exact h4 i hi

theorem StoAt.there {w : World} {s fb n f : Nat} {G : Nat → Int} (h : StoAt w s fb n G) (hf : f < n) : w.there fb (f * 64) 64 := by
  intro j hj
  refine ⟨by rw [(h.bat hf).2.1 j hj]; rfl, ?_⟩
  obtain ⟨_, _, ⟨cur, h2, _⟩, _⟩ := h
  simp [World.frozen?, h2]

theorem wpList_zero64 {P : Program} {ops : Array Oper} {rest : List Oper} {op : Oper} {a : Act} {w : World} {Q : Exit → Act → World → Prop} (hgd : op.guard = none) (ty : TypeId) (x y : Operand) (ho : op.op = .store ty x y)
    (b o : Nat) (hx : a.eval x = .pointer (some ⟨b, o, none⟩)) (hy : a.eval y = .agg zeros64L.toArray) (ht : w.there b o 64) (hi : (P.info? ty).map (·.size) = some 64)
    (h : wpList P ops Q rest (a.put op.dst undef) (w.setCells b o zeros64L)) : wpList P ops Q (op :: rest) a w :=
  wpList_store_mid hgd ty x y ho b o zeros64L.toArray hx hy (by simpa [zeros64L] using ht) (by simpa [zeros64L] using hi) (all_oneCell_toArray (by intro v hv; rw [List.eq_of_mem_replicate hv]; rfl)) h

set_option maxHeartbeats 1000000 in
theorem clear_in (s fb n f : Nat) (G : Nat → Int) (w : World) (h : StoAt w s fb n G) (hf : f < n) :
    Calls Try.prog 41 #[.pointer (some ⟨s, 0, none⟩), .int .i64 f] w fun e w' => e = .returned (.int .i64 0) ∧ Upd fb w w' ∧ StoAt w' s fb n (putF G (f * 64) 64 0) := by
  have c0 := h.cell0
  have hl := h.lt
  have hn1 : ¬ (f : Int) < 0 := by omega
  have hn2 : (f : Int) < n := by omega
  go_enter Try.func41, Try.ntmps41
  go_wp2_with fail
  refine (Calls.lat (may_in _ _ _ _ _ _ h hf)).mono ?_
  rintro e w' ⟨rfl, x, rfl⟩
  have hz := h.later (x := x) |>.zeroed hf
  have ht := h.later (x := x) |>.there hf
  have hb : Upd fb w (later w x) := Upd.of_below (later_below w x)
  clear h
  go_wp2_with (refine wpList_zero64 rfl 79 (.tmp 18) (.tmp 17) rfl fb (f * 64) rfl rfl ht Try.frameSize ?_)
  go_wp2
  go_ret
  exact ⟨rfl, hb.trans (setCells_upd _ _ _), hz⟩

end Go.Proofs.Ytgcnmhlojfncpaa
