/- The walk of hermitagelaw32.SlotsZero: true at every number. -/
import Derived.Test.YtkicmdflflknaaaS32
namespace Go.Proofs.Ytkicmdflflknaaa
open Go.ChangeShapes Go.WideShapes Go.ChangeAt Go.RowKit
set_option linter.unusedVariables false

set_option maxHeartbeats 1000000 in
theorem slotsZero_walk (a0 : Int) (w : World) (w0 : (Lit.int .i64 a0).wf = true) :
    Calls Try.prog 3 #[.int .i64 a0] w fun e w' => e = .returned (.bool true) ∧ Below w.heap.size w w' := by
  clear w0
  go_enter Try.func3, Try.ntmps3
  go_wp2_with fail
  refine (Calls.lat (at_zero _ _ _ (ZeroTab.nil _))).mono ?_
  rintro e w' ⟨rfl, x1, rfl⟩
  go_wp2_with fail
  refine (Calls.lat (at_zero _ _ _ (.inr ⟨_, rfl, by simp [go_sem]⟩))).mono ?_
  rintro e w' ⟨rfl, x2, rfl⟩
  go_wp2_with fail
  refine (Calls.lat (starts_zero _ _ _ (ZeroTab.nil _))).mono ?_
  rintro e w' ⟨rfl, x3, rfl⟩
  go_wp2_with fail
  refine (Calls.lat (starts_zero _ _ _ (.inr ⟨_, rfl, by simp [go_sem]⟩))).mono ?_
  rintro e w' ⟨rfl, x4, rfl⟩
  go_wp2_with fail
  refine (period_zero _ _ (ZeroTab.nil _)).mono ?_
  rintro e w' ⟨rfl, rfl⟩
  go_wp2_with fail
  refine (period_zero _ _ (.inr ⟨_, rfl, by simp [go_sem]⟩)).mono ?_
  rintro e w' ⟨rfl, rfl⟩
  go_wp2_with fail
  refine (share_zero _ _ _ (ZeroTab.nil _)).mono ?_
  rintro e w' ⟨rfl, rfl⟩
  go_wp2_with fail
  refine (share_zero _ _ _ (.inr ⟨_, rfl, by simp [go_sem]⟩)).mono ?_
  rintro e w' ⟨rfl, rfl⟩
  go_wp2_with fail
  go_ret
  exact ⟨rfl, by refine (?_ : Bel _ _ _).1; repeat (first | exact Bel.refl _ | apply Bel.later | apply Bel.alloc)⟩

end Go.Proofs.Ytkicmdflflknaaa
