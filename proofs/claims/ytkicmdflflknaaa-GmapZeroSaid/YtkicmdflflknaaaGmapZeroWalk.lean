/- The walk of hermitagelaw15.GmapZero: true at every input. -/
import Derived.Test.YtkicmdflflknaaaG15z
namespace Go.Proofs.Ytkicmdflflknaaa
open Go.ChangeShapes Go.WideShapes Go.ChangeAt Go.RowKit
set_option linter.unusedVariables false

set_option maxHeartbeats 2000000 in
theorem gmapZero_core (n fr ri k : Int) (w : World) :
    Calls Try.prog 7 #[.int .i64 n, .agg #[.int .i64 fr, .int .i64 ri], .int .i64 k] w fun e w' => e = .returned (.bool true) ∧ Below w.heap.size w w' := by
  go_enter Try.func7, Try.ntmps7
  go_wp2_with fail
  refine (Calls.lat (gget_zero _ _ _ (ZeroGmap.nil _))).mono ?_
  rintro e w' ⟨rfl, x1, rfl⟩
  go_wp2_with fail
  refine (Calls.lat (gget_zero _ _ _ (.inr ⟨_, rfl, by simp [go_sem]⟩))).mono ?_
  rintro e w' ⟨rfl, x2, rfl⟩
  go_wp2_with fail
  refine (Calls.lat (gset_zero _ _ _ _ _ (ZeroGmap.nil _))).mono ?_
  rintro e w' ⟨rfl, x3, rfl⟩
  go_wp2_with fail
  refine (Calls.lat (gset_zero _ _ _ _ _ (.inr ⟨_, rfl, by simp [go_sem]⟩))).mono ?_
  rintro e w' ⟨rfl, x4, rfl⟩
  go_wp2_with fail
  refine (gdrop_zero _ _ _ (ZeroGmap.nil _)).mono ?_
  rintro e w' ⟨rfl, rfl⟩
  go_wp2_with fail
  refine (gdrop_zero _ _ _ (.inr ⟨_, rfl, by simp [go_sem]⟩)).mono ?_
  rintro e w' ⟨rfl, rfl⟩
  go_wp2_with fail
  refine (gpages_zero _ _ (ZeroGmap.nil _)).mono ?_
  rintro e w' ⟨rfl, rfl⟩
  go_wp2_with fail
  refine (gpages_zero _ _ (.inr ⟨_, rfl, by simp [go_sem]⟩)).mono ?_
  rintro e w' ⟨rfl, rfl⟩
  go_wp2_with fail
  refine (Calls.lat (gallows_zero _ _ _ _ (ZeroGmap.nil _))).mono ?_
  rintro e w' ⟨rfl, x5, rfl⟩
  go_wp2_with fail
  refine (Calls.lat (gallows_zero _ _ _ _ (.inr ⟨_, rfl, by simp [go_sem]⟩))).mono ?_
  rintro e w' ⟨rfl, x6, rfl⟩
  go_wp2_with fail
  go_ret
  exact ⟨rfl, (by refine (?_ : Bel _ _ _).1; repeat (first | exact Bel.refl _ | apply Bel.later | apply Bel.alloc | apply Bel.drew | (refine Bel.laterB ?_ (by first | omega | (simp; omega) | simp))))⟩

theorem gmapZero_walk (a0 : Int) (l1 : List Value) (a2 : Int) (w : World) (w0 : (Lit.int .i64 a0).wf = true) (w1 : rowOk [some .i64, some .i64] l1) (w2 : (Lit.int .i64 a2).wf = true) :
    Calls Try.prog 7 #[.int .i64 a0, .agg l1.toArray, .int .i64 a2] w fun e w' => e = .returned (.bool true) ∧ Below w.heap.size w w' := by
  obtain ⟨fr, r, rfl, _, w1⟩ := rowOk_int w1
  obtain ⟨ri, r, rfl, _, w1⟩ := rowOk_int w1
  obtain rfl := rowOk_nil w1
  exact gmapZero_core a0 fr ri a2 w

end Go.Proofs.Ytkicmdflflknaaa
