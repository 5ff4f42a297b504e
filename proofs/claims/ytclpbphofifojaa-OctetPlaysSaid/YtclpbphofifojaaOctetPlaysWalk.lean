/- The walk of hermitagelaw02.OctetPlays: true at every input. -/
import Derived.Test.YtclpbphofifojaaOctR
namespace Go.Proofs.Ytclpbphofifojaa
open Go.ChangeShapes Go.WideShapes Go.ChangeAt Go.RowKit
set_option linter.unusedVariables false

set_option maxRecDepth 100000 in
set_option maxHeartbeats 2000000 in
theorem octetPlays_walk (p0 : Option Addr) (n0 c0 : Nat) (f0 : Nat → List Value) (a1 : Int) (a2 : Int) (a3 : Int) (w : World) (w0 : SliceOk [some .u8] w p0 n0 c0 f0) (hR0 : c0 * 1 ≤ 140737488351232) (w1 : (Lit.int .i64 a1).wf = true) (w2 : (Lit.int .i64 a2).wf = true) (w3 : (Lit.int .u32 a3).wf = true) :
    Calls Try.prog 5 #[.slice p0 n0 c0, .int .i64 a1, .int .i64 a2, .int .u32 a3] w fun e w' => e = .returned (.bool true) ∧ Below w.heap.size w w' := by
  have hnc := w0.1
  obtain ⟨f, hs⟩ := src_of_ok w0
  have b3 := bounds_u32 w3
  obtain ⟨b30, b31⟩ := b3
  have hnil := fun wx => conv_nil wx
  clear w0
  by_cases hin : inP n0 a1 a2
  · obtain ⟨a, m, rfl, rfl, hm, ham⟩ := hin.nat
    obtain ⟨b, o, rfl, hb⟩ := hs.2.2 (by omega)
    clear hin w1 w2 w3 hs
    go_enter Try.func5, Try.ntmps5
    go_wp2_with fail
    refine (get_in b o n0 c0 a m f _ hb hm ham hnc (by omega)).mono ?_
    rintro e w' ⟨rfl, rfl⟩
    go_wp2_with fail
    refine (rget_in b o n0 c0 a m f _ hb hm ham hnc (by omega)).mono ?_
    rintro e w' ⟨rfl, rfl⟩
    go_wp2_with fail
    refine (put_in b o n0 c0 a m a3 f _ hb hm ham (by omega) b30 b31).mono ?_
    rintro e w1 ⟨g1, cap1, rfl, hle1, hcm1, hgb1, hr1, hb1⟩
    go_wp2_with fail
    refine (rput_in b o n0 c0 a m a3 f _ (hb.below hb1) hm ham (by omega) b30 b31).mono ?_
    rintro e w2 ⟨g2, cap2, rfl, hle2, hcm2, hgb2, hr2, hb2⟩
    have k1 := conv_bytes (hr1.below hb2).bat cap1
    have k2 := conv_bytes hr2.bat cap2
    have hbel : Bel w.heap.size w w2 := Bel.of (Bel.of (Bel.refl w) hb1) hb2
    clear hr1 hr2 hb hb1 hb2
    go_wp2_with fail
    refine (sign_any _ _ _ b30 b31).mono ?_
    rintro e w' ⟨rfl, rfl⟩
    go_wp2_with fail
    refine (rsign_any _ _ _ b30 b31).mono ?_
    rintro e w' ⟨rfl, rfl⟩
    go_wp2_with fail
    refine (Calls.lat (awake02 _)).mono ?_
    rintro e w' ⟨rfl, x1, rfl⟩
    go_wp2_with fail
    go_ret
    exact ⟨rfl, (by refine (?_ : Bel _ _ _).1; repeat (first | exact hbel | exact Bel.refl _ | apply Bel.later | apply Bel.alloc | apply Bel.drew | (refine Bel.laterB ?_ (by first | exact Nat.le_refl _ | omega | (simp; omega) | simp)) | (refine Bel.setCell ?_ (by first | exact Nat.le_refl _ | omega | (simp; omega) | simp))))⟩
  · go_enter Try.func5, Try.ntmps5
    go_wp2_with fail
    refine (get_out _ _ _ _ _ _ hin (by omega) w2).mono ?_
    rintro e w' ⟨rfl, rfl⟩
    go_wp2_with fail
    refine (rget_out _ _ _ _ _ _ hin (by omega) w2).mono ?_
    rintro e w' ⟨rfl, rfl⟩
    go_wp2_with fail
    refine (Calls.lat (put_out _ _ _ _ _ _ f _ hs hin (by omega) w2)).mono ?_
    rintro e w' ⟨rfl, x1, rfl⟩
    go_wp2_with fail
    refine (rput_out _ _ _ _ _ _ _ hin (by omega) w2).mono ?_
    rintro e w' ⟨rfl, rfl⟩
    go_wp2_with fail
    refine (sign_any _ _ _ b30 b31).mono ?_
    rintro e w' ⟨rfl, rfl⟩
    go_wp2_with fail
    refine (rsign_any _ _ _ b30 b31).mono ?_
    rintro e w' ⟨rfl, rfl⟩
    go_wp2_with fail
    refine (Calls.lat (awake02 _)).mono ?_
    rintro e w' ⟨rfl, x2, rfl⟩
    go_wp2_with fail
    go_ret
    exact ⟨rfl, (by refine (?_ : Bel _ _ _).1; repeat (first | exact hbel | exact Bel.refl _ | apply Bel.later | apply Bel.alloc | apply Bel.drew | (refine Bel.laterB ?_ (by first | exact Nat.le_refl _ | omega | (simp; omega) | simp)) | (refine Bel.setCell ?_ (by first | exact Nat.le_refl _ | omega | (simp; omega) | simp))))⟩

end Go.Proofs.Ytclpbphofifojaa
