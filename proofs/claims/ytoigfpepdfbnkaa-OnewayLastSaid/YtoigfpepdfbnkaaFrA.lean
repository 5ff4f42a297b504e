/- The law package's awake (hermitagelaw06). -/
import Derived.Test.YtoigfpepdfbnkaaFrP
import Derived.Test.YtoigfpepdfbnkaaReg
namespace Go.Proofs.Ytoigfpepdfbnkaa
open Go.ChangeShapes Go.WideShapes Go.ChangeAt Go.RowKit
set_option linter.unusedVariables false

theorem awake06 (w : World) : Calls Try.prog 17 #[] w fun e w' => e = .returned (.bool true) ∧ Below w.heap.size w w' := by
  go_enter Try.func17, Try.ntmps17
  go_wp2_with fail
  refine (fnew_full 1 _ (by omega)).mono ?_
  rintro e w1 ⟨s, fb, rfl, hs, hfb, hst, hb1⟩
  have hbel1 : Bel w.heap.size w w1 := Bel.of (Bel.refl w) hb1
  go_wp2_with fail
  refine (Calls.lat (clean_in s fb 1 0 _ _ hst (by omega))).mono ?_
  rintro e w' ⟨rfl, x, rfl⟩
  rw [clean_zero]
  go_wp2_with fail
  refine (save_in s fb 1 0 60 4 1 _ _ hst.later (by omega) (by omega) (by omega) (by omega) (by omega)).mono ?_
  rintro e w2 ⟨rfl, hu, hst2⟩
  have hbel2 : Bel w.heap.size w w2 := (hbel1.later (x := x)).upd hu hfb
  go_wp2_with fail
  refine (Calls.lat (clean_in s fb 1 0 _ _ hst2 (by omega))).mono ?_
  rintro e w' ⟨rfl, x2, rfl⟩
  rw [clean_one]
  go_wp2_with fail
  go_ret
  exact ⟨rfl, hbel2.later.1⟩

end Go.Proofs.Ytoigfpepdfbnkaa
