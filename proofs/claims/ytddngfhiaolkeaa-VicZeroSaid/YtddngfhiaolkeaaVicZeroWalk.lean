/- The walk of hermitagelaw28.VicZero: true at every input. -/
import Derived.Test.YtddngfhiaolkeaaZ28
namespace Go.Proofs.Ytddngfhiaolkeaa
open Go.ChangeShapes Go.WideShapes Go.ChangeAt Go.RowKit
set_option linter.unusedVariables false

set_option maxRecDepth 100000 in
set_option maxHeartbeats 2000000 in
theorem vicZero_walk (a0 : Int) (a1 : Int) (a2 : Bool) (w : World) (w0 : (Lit.int .i64 a0).wf = true) (w1 : (Lit.int .i64 a1).wf = true) :
    Calls Try.prog 7 #[.int .i64 a0, .int .i64 a1, .bool a2] w fun e w' => e = .returned (.bool true) ∧ Below w.heap.size w w' := by
  go_enter Try.func7, Try.ntmps7
  go_wp2_with fail
  refine (Calls.lat (z_Next _ _ (ZeroAt.nil _))).mono ?_
  rintro e w' ⟨rfl, x1, rfl⟩
  go_wp2_with fail
  refine (Calls.lat (z_Take _ _ (.inr ⟨_, rfl, by simp [go_sem]⟩))).mono ?_
  rintro e w' ⟨rfl, x2, rfl⟩
  go_wp2_with fail
  refine (Calls.lat (z_Raise _ _ _ (ZeroAt.nil _))).mono ?_
  rintro e w' ⟨rfl, x3, rfl⟩
  go_wp2_with fail
  refine (Calls.lat (z_Raise _ _ _ (.inr ⟨_, rfl, by simp [go_sem]⟩))).mono ?_
  rintro e w' ⟨rfl, x4, rfl⟩
  go_wp2_with fail
  refine (Calls.lat (z_Clear _ _ _ (ZeroAt.nil _))).mono ?_
  rintro e w' ⟨rfl, x5, rfl⟩
  go_wp2_with fail
  refine (Calls.lat (z_Clear _ _ _ (.inr ⟨_, rfl, by simp [go_sem]⟩))).mono ?_
  rintro e w' ⟨rfl, x6, rfl⟩
  go_wp2_with fail
  refine (Calls.lat (z_Mask _ _ _ _ (ZeroAt.nil _))).mono ?_
  rintro e w' ⟨rfl, x7, rfl⟩
  go_wp2_with fail
  refine (Calls.lat (z_Prio _ _ _ _ (.inr ⟨_, rfl, by simp [go_sem]⟩))).mono ?_
  rintro e w' ⟨rfl, x8, rfl⟩
  go_wp2_with fail
  refine (Calls.lat (z_Reset _ _ (ZeroAt.nil _))).mono ?_
  rintro e w' ⟨rfl, x9, rfl⟩
  go_wp2_with fail
  refine (Calls.lat (z_Reset _ _ (.inr ⟨_, rfl, by simp [go_sem]⟩))).mono ?_
  rintro e w' ⟨rfl, x10, rfl⟩
  go_wp2_with fail
  refine (Calls.lat (z_Waits _ _ (ZeroAt.nil _))).mono ?_
  rintro e w' ⟨rfl, x11, rfl⟩
  go_wp2_with fail
  refine (Calls.lat (z_Waits _ _ (.inr ⟨_, rfl, by simp [go_sem]⟩))).mono ?_
  rintro e w' ⟨rfl, x12, rfl⟩
  go_wp2_with fail
  go_ret
  exact ⟨rfl, (by refine (?_ : Bel _ _ _).1; repeat (first | exact hbel | exact Bel.refl _ | apply Bel.later | apply Bel.alloc | apply Bel.drew | (refine Bel.laterB ?_ (by first | exact Nat.le_refl _ | omega | (simp; omega) | simp)) | (refine Bel.setCell ?_ (by first | exact Nat.le_refl _ | omega | (simp; omega) | simp))))⟩

end Go.Proofs.Ytddngfhiaolkeaa
