/- The walk of hermitagelaw19.ShadowZero: true at every input. -/
import Derived.Test.YthppjkpejnaocaaZ19
namespace Go.Proofs.Ythppjkpejnaocaa
open Go.ChangeShapes Go.WideShapes Go.ChangeAt Go.RowKit
set_option linter.unusedVariables false

set_option maxRecDepth 100000 in
set_option maxHeartbeats 2000000 in
theorem shadowZero_walk (l0 : List Value) (w : World) (w0 : rowOk [some .i64, some .i64, some .i64, some .i64, some .i64, some .i64, some .i64, some .i64] l0) :
    Calls Try.prog 5 #[.agg l0.toArray] w fun e w' => e = .returned (.bool true) ∧ Below w.heap.size w w' := by
  obtain ⟨v0, r, rfl, ww0, w0⟩ := rowOk_int w0
  obtain ⟨v1, r, rfl, ww1, w0⟩ := rowOk_int w0
  obtain ⟨v2, r, rfl, ww2, w0⟩ := rowOk_int w0
  obtain ⟨v3, r, rfl, ww3, w0⟩ := rowOk_int w0
  obtain ⟨v4, r, rfl, ww4, w0⟩ := rowOk_int w0
  obtain ⟨v5, r, rfl, ww5, w0⟩ := rowOk_int w0
  obtain ⟨v6, r, rfl, ww6, w0⟩ := rowOk_int w0
  obtain ⟨v7, r, rfl, ww7, w0⟩ := rowOk_int w0
  obtain rfl := rowOk_nil w0
  simp only [List.toArray]
  go_enter Try.func5, Try.ntmps5
  go_wp2_with fail
  refine (Calls.lat (z_Fill _ _ _ _ _ _ _ _ _ (ZeroAt.nil _))).mono ?_
  rintro e w' ⟨rfl, x1, rfl⟩
  go_wp2_with fail
  refine (Calls.lat (z_Fill _ _ _ _ _ _ _ _ _ (.inr ⟨_, rfl, by simp [go_sem]⟩))).mono ?_
  rintro e w' ⟨rfl, x2, rfl⟩
  go_wp2_with fail
  refine (Calls.lat (z_Get _ _ _ _ (ZeroAt.nil _))).mono ?_
  rintro e w' ⟨rfl, x3, rfl⟩
  go_wp2_with fail
  refine (Calls.lat (z_Table _ _ _ (ZeroAt.nil _))).mono ?_
  rintro e w' ⟨rfl, x4, rfl⟩
  go_wp2_with fail
  refine (Calls.lat (z_Table _ _ _ (.inr ⟨_, rfl, by simp [go_sem]⟩))).mono ?_
  rintro e w' ⟨rfl, x5, rfl⟩
  go_wp2_with fail
  refine (Calls.lat (z_Wrote _ _ _ (ZeroAt.nil _))).mono ?_
  rintro e w' ⟨rfl, x6, rfl⟩
  go_wp2_with fail
  refine (Calls.lat (z_Gone _ _ _ (.inr ⟨_, rfl, by simp [go_sem]⟩))).mono ?_
  rintro e w' ⟨rfl, x7, rfl⟩
  go_wp2_with fail
  refine (Calls.lat (z_Flush _ _ (ZeroAt.nil _))).mono ?_
  rintro e w' ⟨rfl, x8, rfl⟩
  go_wp2_with fail
  refine (Calls.lat (z_Len _ _ (.inr ⟨_, rfl, by simp [go_sem]⟩))).mono ?_
  rintro e w' ⟨rfl, x9, rfl⟩
  go_wp2_with fail
  refine (Calls.lat (z_List _ _ (ZeroAt.nil _))).mono ?_
  rintro e w' ⟨rfl, x10, rfl⟩
  go_wp2_with fail
  refine (Calls.lat (z_List _ _ (.inr ⟨_, rfl, by simp [go_sem]⟩))).mono ?_
  rintro e w' ⟨rfl, x11, rfl⟩
  go_wp2_with fail
  go_ret
  exact ⟨rfl, (by refine (?_ : Bel _ _ _).1; repeat (first | exact hbel | exact Bel.refl _ | apply Bel.later | apply Bel.alloc | apply Bel.drew | (refine Bel.laterB ?_ (by first | exact Nat.le_refl _ | omega | (simp; omega) | simp)) | (refine Bel.setCell ?_ (by first | exact Nat.le_refl _ | omega | (simp; omega) | simp))))⟩

end Go.Proofs.Ythppjkpejnaocaa
