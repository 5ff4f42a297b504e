/- The walk of hermitagelaw30.OnewayBlind: true at every input. -/
import Derived.Test.YtoigfpepdfbnkaaOwyA
namespace Go.Proofs.Ytoigfpepdfbnkaa
open Go.ChangeShapes Go.WideShapes Go.ChangeAt Go.RowKit
set_option linter.unusedVariables false

set_option maxRecDepth 100000 in
set_option maxHeartbeats 4000000 in
theorem onewayBlind_walk (p0 : Option Addr) (n0 c0 : Nat) (f0 : Nat → List Value) (p1 : Option Addr) (n1 c1 : Nat) (f1 : Nat → List Value) (a2 : Int) (w : World) (w0 : SliceOk [some .u32] w p0 n0 c0 f0) (hR0 : c0 * 4 ≤ 140737488351232) (w1 : SliceOk [some .u32] w p1 n1 c1 f1) (hR1 : c1 * 4 ≤ 140737488351232) (w2 : (Lit.int .u32 a2).wf = true) :
    Calls Try.prog 11 #[.slice p0 n0 c0, .slice p1 n1 c1, .int .u32 a2] w fun e w' => e = .returned (.bool true) ∧ Below w.heap.size w w' := by
  obtain ⟨L, hL⟩ := USrc.of_ok w0
  obtain ⟨X, hX⟩ := USrc.of_ok w1
  have b2 := bounds_u32 w2
  obtain ⟨b20, b21⟩ := b2
  clear w0 w1 w2 hR0 hR1
  go_enter Try.func11, Try.ntmps11
  go_wp2_with fail
  refine (made_any p0 n0 c0 L _ hL).mono ?_
  rintro e wa ⟨s, fb, t, rb, rfl, hs, hfb, _, _, _, _, hst, _, hba⟩
  have hbela : Bel w.heap.size w wa := Bel.of (Bel.refl w) hba
  go_wp2_with fail
  refine (made_any p0 n0 c0 L _ (hL.below hba)).mono ?_
  rintro e wb ⟨s', fb', t', rb', rfl, hs', hfb', _, _, _, _, hst', _, hbb⟩
  have hbelb : Bel w.heap.size w wb := Bel.of hbela hbb
  have hn1 : s' ≠ fb := by have := hst.ltb; omega
  have hn2 : fb' ≠ fb := by have := hst.ltb; omega
  have hn3 : s ≠ fb' := by have := hst.lt; omega
  have hn4 : fb ≠ fb' := fun h => hn2 h.symm
  replace hst := hst.below hbb
  replace hfb' : w.heap.size ≤ fb' := Nat.le_trans hbela.2 hfb'
  have hhd : hd (mkG L (min n0 16)) 0 = if 0 < n0 then L 0 else 0 := by
    by_cases h : 0 < n0
    · rw [if_pos h]
      obtain ⟨k, hk⟩ : ∃ k, min n0 16 = k + 1 := ⟨min n0 16 - 1, by omega⟩
      rw [hk]
      exact mkG_hd (hL.1 0 h).1 (hL.1 0 h).2 k
    · rw [if_neg h, show min n0 16 = 0 by omega]
      exact mkG_hd0 L
  obtain ⟨G, hG⟩ : ∃ G, mkG L (min n0 16) = G := ⟨_, rfl⟩
  have hGb : Byt G := by rw [← hG]; exact mkG_byt L _
  rw [hG] at hst hst' hhd
  have hhs := hd_send hGb 0 a2
  have HH := Lib.hid hhd
  have HS := Lib.hid hhs
  clear hhd hhs hba hbb hbela hG
  go_wp2_with fail
  go_loopw [11] (fun iv wr => ∃ k : Nat, k ≤ 30 ∧ iv = .int .i64 k ∧ Bel wb.heap.size wb wr) (fun iv _ => 30 - (intOf iv).toNat)
  case atStart => exact ⟨0, Nat.zero_le _, rfl, Bel.refl _⟩
  case round =>
    obtain ⟨k, hk, rfl, hbel⟩ := hrel
    by_cases hall : k < n1 ∧ k < 30
    · obtain ⟨hkn, hk16⟩ := hall
      have hLb := hX.1 k hkn
      obtain ⟨hL0, hL1⟩ := hLb
      obtain ⟨b, o, rfl, hb, hc⟩ := hX.2 (by omega)
      have r := (hbel.1.cell (p := ⟨b, o + k, none⟩) (Nat.lt_of_lt_of_le hb hbelb.2)).trans ((hbelb.1.cell (p := ⟨b, o + k, none⟩) hb).trans (hc k hkn))
      clear hX hc
      generalize X k = x at *
      have hst1 := hst.below hbel.1
      clear hst hst' hL hk
      go_wp2_with fail
      refine (Calls.lat (recv_in s fb 2 0 x G _ hst1 (by omega) hL0 hL1)).mono ?_
      rintro e w' ⟨rfl, y, rfl⟩
      go_wp2
      go_roundw
      case rel => exact ⟨k + 1, by omega, by go_num, hbel.later⟩
      case measure => simp [intOf]; omega
    · have hcase : ¬ k < n1 ∨ (k < n1 ∧ ¬ k < 30) := by omega
      have hst1 := hst.below hbel.1
      have hst1' := hst'.below hbel.1
      have hbel1 := hbelb.trans hbel hbelb.2
      clear hst hst' hX hall hk hbel
      rcases hcase with hc | ⟨hc, hc'⟩
      all_goals
        go_wp2_with fail
        refine (send_in s fb 2 0 a2 G _ hst1 (by omega) b20 b21).mono ?_
        rintro e w2 ⟨rfl, hu, hst2⟩
        have hst2' := hst1'.upd hu hn1 hn2
        have hbel2 := hbel1.upd hu hfb
        clear hst1 hst1' hu hbel1
        go_wp2_with fail
        refine (send_in s' fb' 2 0 a2 G _ hst2' (by omega) b20 b21).mono ?_
        rintro e w3 ⟨rfl, hu, hst3'⟩
        have hst3 := hst2.upd hu hn3 hn4
        have hbel3 := hbel2.upd hu hfb'
        clear hst2 hst2' hu hbel2
        obtain ⟨G', hG'⟩ : ∃ G', sendG G 0 a2 = G' := ⟨_, rfl⟩
        rw [hG'] at hst3 hst3'
        have HG := Lib.hid hG'
        clear hG' hc
        try clear hc'
        go_wp2_with fail
        go_loopw [12] (fun iv wr => ∃ k : Nat, k ≤ 2 ∧ iv = .int .i64 k ∧ Bel w3.heap.size w3 wr) (fun iv _ => 2 - (intOf iv).toNat)
        case atStart => exact ⟨0, Nat.zero_le _, rfl, Bel.refl _⟩
        case round =>
          obtain ⟨q, hq, rfl, hbel⟩ := hrel
          have hst4 := hst3.below hbel.1
          have hst4' := hst3'.below hbel.1
          by_cases hlt : q < 2
          · clear hst3 hst3' hL
            go_wp2_with fail
            refine (fbytes_in s fb 2 q G' _ hst4 hlt).mono ?_
            rintro e w5 ⟨g, rfl, hg, hr, hb5⟩
            go_wp2_with fail
            refine (fbytes_in s' fb' 2 q G' _ (hst4'.below hb5) hlt).mono ?_
            rintro e w6 ⟨g', rfl, hg', hr', hb6⟩
            have hbel6 := (hbel.of hb5).of hb6
            have k1 := conv_bytes (hr.below hb6).bat 64
            have k2 := conv_bytes hr'.bat 64
            clear hst4 hst4' hr hr' hb5 hb6
            go_wp2
            go_roundw
            case rel => exact ⟨q + 1, by omega, by go_num, hbel6⟩
            case measure => simp [intOf]; omega
          · have hbel4 := hbel3.trans hbel hbel3.2
            clear hst3 hst3'
            go_wp2_with fail
            refine (Calls.lat (head_in s fb 2 0 G' _ hst4 (by omega))).mono ?_
            rintro e w' ⟨rfl, y, rfl⟩
            have hh := HS.out
            rw [HG.out, HH.out] at hh
            rw [hh]
            have hbel5 := hbel4.later (x := y)
            have hL5 := hL.below hbel5.1
            clear hL hh HS HH HG hbel4 hst4
            by_cases h0 : 0 < n0
            · have hLb := hL5.1 0 h0
              obtain ⟨hL0, hL1⟩ := hLb
              obtain ⟨b, o, rfl, hb, hc⟩ := hL5.2 (by omega)
              have r := hc 0 h0
              simp only [Nat.add_zero] at r
              rw [if_pos h0]
              clear hc hL5
              generalize L 0 = x at *
              go_wp2_with fail
              refine (Calls.lat (awake30 _)).mono ?_
              rintro e w' ⟨rfl, y2, rfl⟩
              go_wp2_with fail
              go_ret
              exact ⟨rfl, hbel5.later.1⟩
            · obtain rfl : n0 = 0 := by omega
              rw [if_neg h0]
              go_wp2_with fail
              refine (Calls.lat (awake30 _)).mono ?_
              rintro e w' ⟨rfl, y2, rfl⟩
              go_wp2_with fail
              go_ret
              exact ⟨rfl, hbel5.later.1⟩

end Go.Proofs.Ytoigfpepdfbnkaa
