/- Contracts of desc's fields, Put and Get. -/
import Derived.Test.YtclpbphofifojaaD21
import Derived.Test.YtclpbphofifojaaOctM
namespace Go.Proofs.Ytclpbphofifojaa
open Go.ChangeShapes Go.WideShapes Go.ChangeAt Go.RowKit
set_option linter.unusedVariables false

def four (a b c d : Int) : Nat → Int := fun i => if i = 0 then a else if i = 1 then b else if i = 2 then c else if i = 3 then d else 0

set_option maxHeartbeats 1000000 in
theorem fields_any (b : Nat) (x0 x1 x2 x3 : Value) (w : World) (hb : HasYet w b) :
    Calls Try.prog 45 #[.pointer (some ⟨b, 0, none⟩)] w fun e w' => e = .returned (.agg #[.pointer (some ⟨b, 0, none⟩), .pointer (some ⟨b, 1, none⟩), .pointer (some ⟨b, 2, none⟩), .pointer (some ⟨b, 3, none⟩)]) ∧ Below w.heap.size w w' := by
  go_enter Try.func45, Try.ntmps45
  go_wp2
  go_region
  go_wp2
  exact bodyPost_ret (v := .agg #[.pointer (some ⟨b, 0, none⟩), .pointer (some ⟨b, 1, none⟩), .pointer (some ⟨b, 2, none⟩), .pointer (some ⟨b, 3, none⟩)]) (by simp [results, Try.results45, go_sem]) rfl ⟨rfl, (by refine (?_ : Bel _ _ _).1; repeat (first | exact hbel | exact Bel.refl _ | apply Bel.later | apply Bel.alloc | apply Bel.drew | (refine Bel.laterB ?_ (by first | exact Nat.le_refl _ | omega | (simp; omega) | simp)) | (refine Bel.setCell ?_ (by first | exact Nat.le_refl _ | omega | (simp; omega) | simp))))⟩

set_option maxRecDepth 100000 in
set_option maxHeartbeats 4000000 in
theorem dput_any (a b c d : Int) (w : World) (ha : 0 ≤ a ∧ a ≤ 4294967295) (hb : 0 ≤ b ∧ b ≤ 4294967295) (hc : 0 ≤ c ∧ c ≤ 4294967295) (hd : 0 ≤ d ∧ d ≤ 4294967295) :
    Calls Try.prog 31 #[.agg #[.int .u32 a, .int .u32 b, .int .u32 c, .int .u32 d]] w fun e w' => ∃ g, e = .returned (.slice (some ⟨g, 0, none⟩) 16 16) ∧ w.heap.size ≤ g ∧ RowAt w' g 16 (wb (four a b c d) 4) ∧ Below w.heap.size w w' := by
  have hF : ∀ i, 0 ≤ four a b c d i ∧ four a b c d i ≤ 4294967295 := fun i => by
    unfold four
    (repeat' split) <;> omega
  go_enter Try.func31, Try.ntmps31
  go_wp2_with fail
  refine (Calls.lat (fields_any _ (.int .u32 a) (.int .u32 b) (.int .u32 c) (.int .u32 d) _ (by show _ < _; simp))).mono ?_
  rintro e w' ⟨rfl, x1, rfl⟩
  go_wp2_with fail
  refine wp_loop_rounds 5 ?_
  rw [rounds_succ]
  go_wp2_with (rw [rounds_succ])
  refine (bytes_any (some ⟨_, 0, none⟩) 4 4 (four a b c d) _ ⟨(fun h => by cases h), hF, fun _ => ⟨_, 0, rfl, ?h1, ?h2⟩⟩ (by omega)).mono ?_
  case h1 => show _ < _; simp
  case h2 =>
    intro i hi
    have : i = 0 ∨ i = 1 ∨ i = 2 ∨ i = 3 := by omega
    rcases this with rfl | rfl | rfl | rfl <;> simp [go_sem, four]
  rintro e w2 ⟨g, rfl, hgb, hr, hb2⟩
  go_wp2_with fail
  go_ret
  have hbel0 : Bel w.heap.size w _ := (by refine Bel.of ?_ hb2; repeat (first | exact Bel.refl _ | apply Bel.later | apply Bel.alloc | (refine Bel.setCell ?_ (by first | exact Nat.le_refl _ | omega | (simp; omega) | simp))))
  refine ⟨g, rfl, ?_, hr, hbel0.1⟩
  refine Nat.le_trans ?_ hgb
  have hx := later_size _ x1
  simp at hx ⊢
  omega

end Go.Proofs.Ytclpbphofifojaa
