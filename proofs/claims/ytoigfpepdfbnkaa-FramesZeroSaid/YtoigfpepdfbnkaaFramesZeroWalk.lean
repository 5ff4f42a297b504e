/- The walk of hermitagelaw06.FramesZero: true at every input. -/
import Derived.Test.YtoigfpepdfbnkaaZ06
namespace Go.Proofs.Ytoigfpepdfbnkaa
open Go.ChangeShapes Go.WideShapes Go.ChangeAt Go.RowKit
set_option linter.unusedVariables false

set_option maxRecDepth 100000 in
set_option maxHeartbeats 2000000 in
theorem framesZero_walk (a0 : Int) (a1 : Int) (a2 : Int) (a3 : Int) (w : World) (w0 : (Lit.int .i64 a0).wf = true) (w1 : (Lit.int .i64 a1).wf = true) (w2 : (Lit.int .i64 a2).wf = true) (w3 : (Lit.int .u32 a3).wf = true) :
    Calls Try.prog 5 #[.int .i64 a0, .int .i64 a1, .int .i64 a2, .int .u32 a3] w fun e w' => e = .returned (.bool true) ∧ Below w.heap.size w w' := by
  go_enter Try.func5, Try.ntmps5
  go_wp2_with fail
  refine (Calls.lat (z_Load _ _ _ _ _ (ZeroAt.nil _))).mono ?_
  rintro e w' ⟨rfl, x1, rfl⟩
  go_wp2_with fail
  refine (Calls.lat (z_Bytes _ _ _ (.inr ⟨_, rfl, by simp [go_sem]⟩))).mono ?_
  rintro e w' ⟨rfl, x2, rfl⟩
  go_wp2_with fail
  refine (Calls.lat (z_Save _ _ _ _ _ _ (ZeroAt.nil _))).mono ?_
  rintro e w' ⟨rfl, x3, rfl⟩
  go_wp2_with fail
  refine (Calls.lat (z_Save _ _ _ _ _ _ (.inr ⟨_, rfl, by simp [go_sem]⟩))).mono ?_
  rintro e w' ⟨rfl, x4, rfl⟩
  go_wp2_with fail
  refine (Calls.lat (z_Clear _ _ _ (.inr ⟨_, rfl, by simp [go_sem]⟩))).mono ?_
  rintro e w' ⟨rfl, x5, rfl⟩
  go_wp2_with fail
  refine (Calls.lat (z_Len _ _ (ZeroAt.nil _))).mono ?_
  rintro e w' ⟨rfl, x6, rfl⟩
  go_wp2_with fail
  refine (Calls.lat (z_Len _ _ (.inr ⟨_, rfl, by simp [go_sem]⟩))).mono ?_
  rintro e w' ⟨rfl, x7, rfl⟩
  go_wp2_with fail
  refine (Calls.lat (z_Clean _ _ _ (ZeroAt.nil _))).mono ?_
  rintro e w' ⟨rfl, x8, rfl⟩
  go_wp2_with fail
  refine (Calls.lat (z_Clean _ _ _ (.inr ⟨_, rfl, by simp [go_sem]⟩))).mono ?_
  rintro e w' ⟨rfl, x9, rfl⟩
  go_wp2_with fail
  go_ret
  exact ⟨rfl, (by refine (?_ : Bel _ _ _).1; repeat (first | exact hbel | exact Bel.refl _ | apply Bel.later | apply Bel.alloc | apply Bel.drew | (refine Bel.laterB ?_ (by first | exact Nat.le_refl _ | omega | (simp; omega) | simp)) | (refine Bel.setCell ?_ (by first | exact Nat.le_refl _ | omega | (simp; omega) | simp))))⟩

end Go.Proofs.Ytoigfpepdfbnkaa
