/- The walk of hermitagelaw06.FramesClears: true at every input. -/
import Derived.Test.YtoigfpepdfbnkaaFramesOneWalk
namespace Go.Proofs.Ytoigfpepdfbnkaa
open Go.ChangeShapes Go.WideShapes Go.ChangeAt Go.RowKit
set_option linter.unusedVariables false

set_option maxRecDepth 100000 in
set_option maxHeartbeats 4000000 in
theorem framesClears_walk (a0 : Int) (a1 : Int) (p2 : Option Addr) (n2 c2 : Nat) (f2 : Nat → List Value) (a3 : Int) (w : World) (w0 : (Lit.int .u8 a0).wf = true) (w1 : (Lit.int .i64 a1).wf = true) (w2 : SliceOk [some .u8] w p2 n2 c2 f2) (hR2 : c2 * 1 ≤ 140737488351232) (w3 : (Lit.int .u32 a3).wf = true) :
    Calls Try.prog 3 #[.int .u8 a0, .int .i64 a1, .slice p2 n2 c2, .int .u32 a3] w fun e w' => e = .returned (.bool true) ∧ Below w.heap.size w w' := by
  have b0 := bounds_u8 w0
  obtain ⟨b00, b01⟩ := b0
  have b3 := bounds_u32 w3
  obtain ⟨b30, b31⟩ := b3
  obtain ⟨N, hN, hN1, hN2⟩ : ∃ N : Nat, (1 + a0 % 32 : Int) = N ∧ 1 ≤ N ∧ N ≤ 32 := ⟨(1 + a0 % 32).toNat, by omega, by omega, by omega⟩
  have HN := Lib.hid hN
  clear hN w0 w3 hR2
  go_enter Try.func3, Try.ntmps3
  go_wp2_with fail
  rw [HN.out]
  refine (fnew_full N _ hN2).mono ?_
  rintro e wa ⟨s, fb, rfl, hs, hfb, hst, hba⟩
  have hbela : Bel w.heap.size w wa := Bel.of (Bel.refl w) hba
  obtain ⟨G0, hG0⟩ : ∃ G0 : Nat → Int, G0 = fun _ => 0 := ⟨_, rfl⟩
  rw [← hG0] at hst
  clear hG0 hba HN
  go_wp2_with fail
  go_loopw [11] (fun iv wr => ∃ (k : Nat) (G : Nat → Int), k ≤ 100 ∧ iv = .int .i64 k ∧ StoAt wr s fb N G ∧ Bel w.heap.size w wr) (fun iv _ => 100 - (intOf iv).toNat)
  case atStart => exact ⟨0, G0, Nat.zero_le _, rfl, hst, hbela⟩
  case round =>
    clear hst hbela
    obtain ⟨k, G, hk, rfl, hst, hbel⟩ := hrel
    by_cases hall : k < n2 ∧ k < 100
    · obtain ⟨i2, i100⟩ := hall
      obtain ⟨b2, o2, x, rfl, l2, _, wx, q2⟩ := w2.int1 i2
      have r2 := (hbel.1.cell (p := ⟨b2, o2 + k, none⟩) l2).trans q2
      have bx := bounds_u8 wx
      obtain ⟨bx0, bx1⟩ := bx
      have hB := hbel.2
      clear w2 wx
      go_wp2_with fail
      (refine wp_region_line 15 (fun x => ∃ y : LatF w.heap.size wr, x = laterF w.heap.size wr y) (by kernel_rfl) rfl ?_)
      (refine wpSeg (0 :: 1 :: 2 :: 3 :: 4 :: 5 :: 6 :: 7 :: 8 :: 9 :: 10 :: 11 :: 12 :: 13 :: []) 1 (l := _) rfl (by simp only [List.filterMap_cons, List.filterMap_nil, List.getElem?_toArray, List.getElem?_cons_succ, List.getElem?_cons_zero]; rfl) (by kernel_rfl) (fun _ _ _ _ _ h => h) laterF_drew ?_; show wpQuiet _ _ _ _ (_ :: _ :: _ :: _ :: _ :: _ :: _ :: _ :: _ :: _ :: _ :: _ :: _ :: _ :: []) _; (repeat (go_big_quiet_step (fail))); refine wpQuiet_nil ?_; show wpAnyH _ _ _ _ _ _ _ _ _)
      (refine wpOne 14 0 rfl rfl (by kernel_rfl) ?_; intro K hK; go_simp)
      refine (fsave_any s fb N _ _ _ _ G _ hst.drew (by decide) (by omega) (by omega)).mono ?_
      rintro e w3 ⟨rfl, hu, hst2⟩
      have hbel2 := hbel.drew.upd hu hfb
      have hb2 : Bel w.heap.size wr w3 := (Bel.here hB).drew.upd hu hfb
      (refine hK.out _ _ _ (fun _ h => h) (laterF_of hb2.1) ?_; clear hK K)
      refine wpAnyH_done (by kernel_rfl) ?_ _
      go_wp2
      go_roundw
      case rel => exact ⟨k + 1, _, by omega, by go_num, hst2, hbel2⟩
      case measure => simp [intOf]; omega
    · clear w2
      have hcase : ¬ k < n2 ∨ (k < n2 ∧ ¬ k < 100) := by omega
      clear hall
      by_cases hf : fin N a1
      · obtain ⟨F, rfl, hF⟩ := hf.nat
        have hother : ∀ i, i < F * 64 ∨ F * 64 + 64 ≤ i → putF G (F * 64) 64 0 i = G i := by
          intro i hi
          unfold putF
          rw [if_neg (by omega)]
        have hFk : F * 64 + 64 ≤ N * 64 := by
          have : (F + 1) * 64 ≤ N * 64 := Nat.mul_le_mul_right _ hF
          omega
        have hcz : cleanB (fr (putF G (F * 64) 64 0) F) = true := cleanB_true.2 (zero_fr G F)
        obtain ⟨G', hG'⟩ : ∃ G', putF G (F * 64) 64 0 = G' := ⟨_, rfl⟩
        rw [hG'] at hother hcz
        have hx1 := str_ahead (M := N * 64) hother (by omega)
        have hx2 := str_behind (M := N * 64) hother (by omega)
        have hszA := strF_size G' (N * 64)
        have hszB := strF_size G (N * 64)
        have HG := Lib.hid hG'
        have HC := Lib.hid hcz
        obtain ⟨M, hM⟩ : ∃ M, N * 64 = M := ⟨_, rfl⟩
        have hatM : F * 64 + 64 ≤ M := by omega
        have hMl : M ≤ 2048 := by omega
        obtain ⟨AT, hAT⟩ : ∃ AT, F * 64 = AT := ⟨_, rfl⟩
        have hATi : (64 * (F : Int)) = AT := by omega
        have HAT := Lib.hid hATi
        have HM := Lib.hid hM
        rw [hAT] at hatM
        have hat : (AT : Int) + 64 ≤ M := by omega
        rw [hAT, hM] at hx1 hx2
        rw [hM] at hszA hszB
        have HX1 := Lib.hid hx1
        have HX2 := Lib.hid hx2
        have HSA := Lib.hid hszA
        have HSB := Lib.hid hszB
        clear hM hAT hATi hother hG' hx1 hx2 hszA hszB hFk hcz hf
        rcases hcase with h | ⟨h, h'⟩
        all_goals
          go_wp2_with fail
          refine (Calls.lat (all_of _ _ _ _ _ hst)).mono ?_
          rintro e w' ⟨rfl, x2, rfl⟩
          go_wp2_with fail
          refine (clear_in s fb N F G _ hst.later hF).mono ?_
          rintro e w2 ⟨rfl, hu, hst2⟩
          rw [HG.out] at hst2
          have hbel2 := (hbel.later (x := x2)).upd hu hfb
          clear hst hbel hu
          go_wp2_with fail
          refine (Calls.lat (all_of _ _ _ _ _ hst2)).mono ?_
          rintro e w' ⟨rfl, x4, rfl⟩
          go_wp2_with fail
          rw [HAT.out, HM.out]
          have hx1 := HX1.out
          have hx2 := HX2.out
          have hsa := HSA.out
          have hsb := HSB.out
          have hbel4 := hbel2.later (x := x4)
          have hcl : ∀ y : Lat (later w2 x4), Calls Try.prog 16 #[.pointer (some ⟨s, 0, none⟩), .int .i64 F] (later (later w2 x4) y) fun e w' => e = .returned (.bool true) ∧ Below (later (later w2 x4) y).heap.size (later (later w2 x4) y) w' := by
            intro y
            refine (clean_in s fb N F G' _ hst2.later.later hF).mono ?_
            rintro e w' ⟨rfl, hb⟩
            exact ⟨by rw [HC.out], hb⟩
          clear HX1 HX2 HSA HSB HM HAT HG HC hst2 hbel2
          generalize strF G' M = A at *
          generalize strF G M = D at *
          refine wp_region_later (by kernel_rfl) (by kernel_rfl) ?_
          repeat (first | go_big_quiet_step (first
            | (go_at_call 16; exact Calls.later_of (hcl _))
            | (go_at_call 17; exact Calls.later_of (awake06 _))))
          refine wpQuiet_nil ?_
          intro _ hw'
          obtain ⟨x9, hw''⟩ := hw'
          subst hw''
          go_wp2_with fail
          go_ret
          exact ⟨rfl, hbel4.later.1⟩
      · have hE : clE N a1 = 1 := if_neg hf
        have hC : clB N G a1 = false := if_neg hf
        have hGG : clG N G a1 = G := if_neg hf
        have HE := Lib.hid hE
        have HC := Lib.hid hC
        have HGG := Lib.hid hGG
        clear hE hC hGG hf
        rcases hcase with h | ⟨h, h'⟩
        all_goals
          go_wp2_with fail
          refine (Calls.lat (all_of _ _ _ _ _ hst)).mono ?_
          rintro e w' ⟨rfl, x2, rfl⟩
          go_wp2_with fail
          refine (fclear_any s fb N a1 G _ hst.later).mono ?_
          rintro e w2 ⟨rfl, hu, hst2⟩
          rw [HGG.out] at hst2
          rw [HE.out]
          have hbel2 := (hbel.later (x := x2)).upd hu hfb
          clear hst hbel hu
          go_wp2_with fail
          refine (Calls.lat (all_of _ _ _ _ _ hst2)).mono ?_
          rintro e w' ⟨rfl, x4, rfl⟩
          go_wp2_with fail
          refine (Calls.lat (fclean_any s fb N a1 G _ hst2.later)).mono ?_
          rintro e w' ⟨rfl, x5, rfl⟩
          rw [HC.out]
          go_wp2_with fail
          refine (Calls.lat (awake06 _)).mono ?_
          rintro e w' ⟨rfl, x6, rfl⟩
          go_wp2_with fail
          go_ret
          exact ⟨rfl, hbel2.later.later.later.1⟩

end Go.Proofs.Ytoigfpepdfbnkaa
