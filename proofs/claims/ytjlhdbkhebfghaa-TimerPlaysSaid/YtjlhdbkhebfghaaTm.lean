/- Timers: none, New, Len, Next, free. -/
import Derived.Test.YtjlhdbkhebfghaaHppT
namespace Go.Proofs.Ytjlhdbkhebfghaa
open Go.ChangeShapes Go.WideShapes Go.ChangeAt Go.RowKit
set_option linter.unusedVariables false

/-- The timers' block: u: which numbers are used; now: the last 'since'. -/
def tmBlk (u : Nat → Bool) (now : Nat) (v : Value) : Array Value := #[v, .bool (u 0), .bool (u 1), .bool (u 2), .bool (u 3), .int .i64 now, .bool true]
theorem tmBlk_ok (u : Nat → Bool) (now : Nat) : BlkOk (tmBlk u now) 0 := ⟨fun _ => rfl, fun _ _ => rfl⟩

/-- The timers at block t: the heap l. -/
structure TmAt (w : World) (t : Nat) (u : Nat → Bool) (now : Nat) (v : Value) (l : List trIt) : Prop where
  row : trRow w t (tmBlk u now) v l
  heap : HeapN trLt l l.length

section
variable {w : World} {t now : Nat} {u : Nat → Bool} {v : Value} {l : List trIt}
theorem TmAt.cells (h : TmAt w t u now v l) : w.cell? ⟨t, 0, none⟩ = some v ∧ (∀ k, k < 4 → w.cell? ⟨t, 1 + k, none⟩ = some (.bool (u k))) ∧ w.cell? ⟨t, 5, none⟩ = some (.int .i64 now) ∧ w.cell? ⟨t, 6, none⟩ = some (.bool true) := by
  have h1 := h.row.1
  refine ⟨by simp [World.cell?, h1, tmBlk], fun k hk => ?_, by simp [World.cell?, h1, tmBlk], by simp [World.cell?, h1, tmBlk]⟩
  match k, hk with
  | 0, _ => simp [World.cell?, h1, tmBlk]
  | 1, _ => simp [World.cell?, h1, tmBlk]
  | 2, _ => simp [World.cell?, h1, tmBlk]
  | 3, _ => simp [World.cell?, h1, tmBlk]
theorem TmAt.lt (h : TmAt w t u now v l) : t < w.heap.size := h.row.lt
theorem TmAt.below {w' : World} (h : TmAt w t u now v l) (hb : Below w.heap.size w w') : TmAt w' t u now v l := ⟨h.row.below hb, h.heap⟩
end

theorem tmNone (t now : Nat) (u : Nat → Bool) (v : Value) (l : List trIt) (w : World) (h : TmAt w t u now v l) :
    Calls Try.prog 32 #[.pointer (some ⟨t, 0, none⟩)] w fun e w' => e = .returned (.bool false) ∧ w = w' := by
  obtain ⟨_, _, _, c6⟩ := h.cells
  go_enter Try.func32, Try.ntmps32
  go_wp2
  go_ret
  exact ⟨rfl, rfl⟩

theorem tmNew (w : World) :
    Calls Try.prog 11 #[] w fun e w' => e = .returned (.pointer (some ⟨w.heap.size, 0, none⟩)) ∧ Below w.heap.size w w' ∧ TmAt w' w.heap.size (fun _ => false) 0 (.slice none 0 0) [] := by
  go_enter Try.func11, Try.ntmps11
  go_wp2
  go_ret
  refine ⟨rfl, (by refine (?_ : Bel _ _ _).1; repeat (first | exact hbel | exact Bel.refl _ | apply Bel.later | apply Bel.alloc | apply Bel.drew | (refine Bel.laterB ?_ (by first | exact Nat.le_refl _ | omega | (simp; omega) | simp)) | (refine Bel.setCell ?_ (by first | exact Nat.le_refl _ | omega | (simp; omega) | simp)))), ⟨⟨Go.heap_alloc_new w _, World.ownsRow_nil _ _ _ _⟩, fun x h0 hx => by simp at hx⟩⟩

theorem tmLen (t now : Nat) (u : Nat → Bool) (v : Value) (l : List trIt) (w : World) (h : TmAt w t u now v l) :
    Calls Try.prog 15 #[.pointer (some ⟨t, 0, none⟩)] w fun e w' => e = .returned (.int .i64 l.length) ∧ w = w' := by
  go_enter Try.func15, Try.ntmps15
  go_wp2_with fail
  refine (tmNone t now u v l _ h).mono ?_
  rintro e w' ⟨rfl, rfl⟩
  go_wp2_with fail
  refine (trLen t (tmBlk u now) v l _ (tmBlk_ok u now) h.row).mono ?_
  rintro e w' ⟨rfl, rfl⟩
  go_wp2
  go_ret
  exact ⟨rfl, rfl⟩

theorem tmNext (t now : Nat) (u : Nat → Bool) (v : Value) (l : List trIt) (w : World) (h : TmAt w t u now v l) :
    Calls Try.prog 13 #[.pointer (some ⟨t, 0, none⟩)] w fun e w' => e = .returned (if l.length = 0 then .tuple #[.int .i64 0, .bool false] else .tuple #[.int .i64 (atL l 0).due, .bool true]) ∧ w = w' := by
  obtain ⟨c0, _, _, _⟩ := h.cells
  by_cases hl : l.length = 0
  · have hl' : (l.length : Int) = 0 := by omega
    rw [if_pos hl]
    go_enter Try.func13, Try.ntmps13
    go_wp2_with fail
    refine (tmNone t now u v l _ h).mono ?_
    rintro e w' ⟨rfl, rfl⟩
    go_wp2_with fail
    refine (trLen t (tmBlk u now) v l _ (tmBlk_ok u now) h.row).mono ?_
    rintro e w' ⟨rfl, rfl⟩
    rw [hl']
    go_wp2
    go_ret2
    exact ⟨rfl, rfl⟩
  · have hl' : ¬ (l.length : Int) = 0 := by omega
    have hl0 : 0 < l.length := by omega
    rw [if_neg hl]
    obtain ⟨g, cap, hv, hle, hm, hbg, hg, hc, hf⟩ := h.row.item trEnc_length (i := 0) (by omega)
    have d0 := hc 0 (by omega) 0 (by omega)
    simp only [trEnc, List.getElem?_cons_zero, Nat.zero_mul, Nat.add_zero] at d0
    clear hc
    subst hv
    go_enter Try.func13, Try.ntmps13
    go_wp2_with fail
    refine (tmNone t now u _ l _ h).mono ?_
    rintro e w' ⟨rfl, rfl⟩
    go_wp2_with fail
    refine (trLen t (tmBlk u now) _ l _ (tmBlk_ok u now) h.row).mono ?_
    rintro e w' ⟨rfl, rfl⟩
    go_wp2
    go_ret2
    exact ⟨rfl, rfl⟩
end Go.Proofs.Ytjlhdbkhebfghaa
