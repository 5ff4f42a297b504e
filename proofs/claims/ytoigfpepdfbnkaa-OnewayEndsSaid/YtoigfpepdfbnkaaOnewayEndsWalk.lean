/- The walk of hermitagelaw30.OnewayEnds: true at every input. -/
import Derived.Test.YtoigfpepdfbnkaaOwyA
namespace Go.Proofs.Ytoigfpepdfbnkaa
open Go.ChangeShapes Go.WideShapes Go.ChangeAt Go.RowKit
set_option linter.unusedVariables false

theorem gap_range (h a : Int) : 0 ≤ gapN h a ∧ gapN h a ≤ 4294967295 := by unfold gapN; omega
theorem gap_next {h a : Int} (h0 : 0 ≤ h) (h1 : h ≤ 4294967295) (a0 : 0 ≤ a) (a1 : a ≤ 4294967295) (hne : h ≠ a) :
    gapN h ((fromN h a + 1) % 4294967296) = gapN h a - lostN h a - 1 := by
  unfold fromN lostN
  by_cases h8 : 8 < gapN h a
  · rw [if_pos h8]
    unfold gapN at *
    omega
  · rw [if_neg h8]
    unfold gapN at *
    omega
theorem lost_le {h a : Int} : gapN h a - lostN h a ≤ 8 := by
  unfold lostN
  split <;> omega
theorem lost_zero {h a : Int} (h8 : gapN h a ≤ 8) : lostN h a = 0 := if_neg (by omega)

set_option maxRecDepth 100000 in
set_option maxHeartbeats 4000000 in
theorem onewayEnds_walk (p0 : Option Addr) (n0 c0 : Nat) (f0 : Nat → List Value) (a1 : Int) (w : World) (w0 : SliceOk [some .u32] w p0 n0 c0 f0) (hR0 : c0 * 4 ≤ 140737488351232) (w1 : (Lit.int .u32 a1).wf = true) :
    Calls Try.prog 8 #[.slice p0 n0 c0, .int .u32 a1] w fun e w' => e = .returned (.bool true) ∧ Below w.heap.size w w' := by
  obtain ⟨L, hL⟩ := USrc.of_ok w0
  have b1 := bounds_u32 w1
  obtain ⟨b10, b11⟩ := b1
  clear w0 w1 hR0
  go_enter Try.func8, Try.ntmps8
  go_wp2_with fail
  refine (made_any p0 n0 c0 L _ hL).mono ?_
  rintro e wa ⟨s, fb, t, rb, rfl, hs, hfb, _, _, _, _, hst, _, hba⟩
  have hbela : Bel w.heap.size w wa := Bel.of (Bel.refl w) hba
  have hGb := mkG_byt L (min n0 16)
  generalize mkG L (min n0 16) = G at *
  have hb := hd_bound hGb 0
  obtain ⟨H, hH⟩ : ∃ H, hd G 0 = H := ⟨_, rfl⟩
  rw [hH] at hb
  obtain ⟨hb0, hb1⟩ := hb
  have HH := Lib.hid hH
  clear hH hba hL hGb
  go_wp2_with fail
  go_loopw [7, 8, 9] (fun av nv iv wr => ∃ (k : Nat) (a : Int), k ≤ 8 ∧ iv = .int .i64 k ∧ nv = .int .i64 k ∧ av = .int .u32 a ∧ 0 ≤ a ∧ a ≤ 4294967295 ∧ (1 ≤ k → gapN H a + k ≤ 8) ∧ Bel wa.heap.size wa wr) (fun _ _ iv _ => 9 - (intOf iv).toNat)
  case atStart => exact ⟨0, a1, by omega, rfl, rfl, rfl, b10, b11, fun h => absurd h (by omega), Bel.refl _⟩
  case round =>
    obtain ⟨k, a, hk, rfl, rfl, rfl, ha0, ha1, hgk, hbel⟩ := hrel
    have hst1 := hst.below hbel.1
    have hgot : gotV G 0 a = if H = a then .agg #[.int .u32 0, .int .u32 a, .int .u32 0, .bool false]
      else .agg #[.int .u32 (wdI G 0 (fromN H a)), .int .u32 ((fromN H a + 1) % 4294967296), .int .u32 (lostN H a), .bool true] := by
      unfold gotV
      rw [HH.out]
    by_cases hne : H = a
    · subst hne
      rw [if_pos rfl] at hgot
      have HG := Lib.hid hgot
      clear hgot hgk
      go_wp2_with fail
      refine (Calls.lat (recv_in s fb 2 0 H G _ hst1 (by omega) ha0 ha1)).mono ?_
      rintro e w' ⟨rfl, x, rfl⟩
      rw [HG.out]
      have hsz := (hbel.later (x := x)).2
      go_wp2_with fail
      refine (Calls.lat (head_in s fb 2 0 G _ hst1.later.alloc (by omega))).mono ?_
      rintro e w' ⟨rfl, x2, rfl⟩
      rw [HH.out]
      go_wp2_with fail
      refine (Calls.lat (awake30 _)).mono ?_
      rintro e w' ⟨rfl, x3, rfl⟩
      go_wp2_with fail
      go_ret
      exact ⟨rfl, ((hbela.trans hbel hbela.2).later.alloc.later.later).1⟩
    · rw [if_neg hne] at hgot
      have hgn := gap_next hb0 hb1 ha0 ha1 hne
      have hll := @lost_le H a
      have hlz : 1 ≤ k → lostN H a = 0 := fun h => lost_zero (by have := hgk h; omega)
      have hgr := gap_range H a
      have hgr2 := gap_range H ((fromN H a + 1) % 4294967296)
      have hk8 : k < 8 := by
        by_cases h1 : 1 ≤ k
        · have := hgk h1
          have h0 : gapN H a ≠ 0 := by unfold gapN; omega
          omega
        · omega
      obtain ⟨N, hN⟩ : ∃ N, (fromN H a + 1) % 4294967296 = N := ⟨_, rfl⟩
      have hNb : 0 ≤ N ∧ N ≤ 4294967295 := by omega
      obtain ⟨hN0, hN1⟩ := hNb
      obtain ⟨LS, hLS⟩ : ∃ LS, lostN H a = LS := ⟨_, rfl⟩
      rw [hN] at hgn hgr2
      rw [hN, hLS] at hgot
      rw [hLS] at hgn hlz hll
      generalize wdI G 0 (fromN H a) = W at *
      have hnew : 1 ≤ k + 1 → gapN H N + ((k + 1 : Nat) : Int) ≤ 8 := fun _ => by
        by_cases h1 : 1 ≤ k
        · have := hgk h1
          have := hlz h1
          omega
        · omega
      have HNEW := Lib.hid hnew
      have HG := Lib.hid hgot
      have HLZ := Lib.hid hlz
      clear hgot hgk hgn hll hgr hgr2 hN hLS hnew hlz hne
      by_cases h1 : 1 ≤ k
      · have hz := HLZ.out h1
        subst hz
        go_wp2_with fail
        refine (Calls.lat (recv_in s fb 2 0 a G _ hst1 (by omega) ha0 ha1)).mono ?_
        rintro e w' ⟨rfl, x, rfl⟩
        rw [HG.out]
        have hsz := (hbel.later (x := x)).2
        go_wp2
        go_roundw
        case rel => exact ⟨k + 1, N, by omega, by go_num, by go_num, rfl, hN0, hN1, HNEW.out, hbel.later.alloc⟩
        case measure => simp [intOf]; omega
      · obtain rfl : k = 0 := by omega
        go_wp2_with fail
        refine (Calls.lat (recv_in s fb 2 0 a G _ hst1 (by omega) ha0 ha1)).mono ?_
        rintro e w' ⟨rfl, x, rfl⟩
        rw [HG.out]
        have hsz := (hbel.later (x := x)).2
        go_wp2
        go_roundw
        case rel => exact ⟨0 + 1, N, by omega, by go_num, by go_num, rfl, hN0, hN1, HNEW.out, hbel.later.alloc⟩
        case measure => simp [intOf]

end Go.Proofs.Ytoigfpepdfbnkaa
