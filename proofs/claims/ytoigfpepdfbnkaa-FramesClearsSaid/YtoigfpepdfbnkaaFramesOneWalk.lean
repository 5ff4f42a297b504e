/- The walk of hermitagelaw06.FramesOne: true at every input. -/
import Derived.Test.YtoigfpepdfbnkaaFrS
namespace Go.Proofs.Ytoigfpepdfbnkaa
open Go.ChangeShapes Go.WideShapes Go.ChangeAt Go.RowKit
set_option linter.unusedVariables false

/-- Ahead of what was written, and behind it, the strings are the same. -/
theorem str_ahead {G G' : Nat → Int} {M AT m : Nat} (h : ∀ i, i < AT ∨ AT + m ≤ i → G' i = G i) (hle : AT + m ≤ M) : (strF G' M).extract 0 AT = (strF G M).extract 0 AT := by
  rw [strF_extract _ _ _ _ (by omega), strF_extract _ _ _ _ (by omega)]
  refine strF_congr fun i hi => ?_
  rw [Nat.zero_add]
  exact h i (.inl (by omega))
theorem str_behind {G G' : Nat → Int} {M AT m : Nat} (h : ∀ i, i < AT ∨ AT + m ≤ i → G' i = G i) (hle : AT + m ≤ M) : (strF G' M).extract (AT + m) M = (strF G M).extract (AT + m) M := by
  rw [strF_extract _ _ _ _ (by omega), strF_extract _ _ _ _ (by omega)]
  exact strF_congr fun i hi => h _ (.inr (by omega))

set_option maxRecDepth 100000 in
set_option maxHeartbeats 4000000 in
theorem framesOne_walk (a0 : Int) (a1 : Int) (a2 : Int) (a3 : Bool) (a4 : Int) (w : World) (w0 : (Lit.int .u8 a0).wf = true) (w1 : (Lit.int .i64 a1).wf = true) (w2 : (Lit.int .i64 a2).wf = true) (w4 : (Lit.int .u32 a4).wf = true) :
    Calls Try.prog 4 #[.int .u8 a0, .int .i64 a1, .int .i64 a2, .bool a3, .int .u32 a4] w fun e w' => e = .returned (.bool true) ∧ Below w.heap.size w w' := by
  have b0 := bounds_u8 w0
  obtain ⟨b00, b01⟩ := b0
  have b4 := bounds_u32 w4
  obtain ⟨b40, b41⟩ := b4
  obtain ⟨N, hN, hN1, hN2⟩ : ∃ N : Nat, (1 + a0 % 32 : Int) = N ∧ 1 ≤ N ∧ N ≤ 32 := ⟨(1 + a0 % 32).toNat, by omega, by omega, by omega⟩
  have HN := Lib.hid hN
  clear hN w0 w4
  go_enter Try.func4, Try.ntmps4
  go_wp2_with fail
  rw [HN.out]
  refine (fnew_full N _ hN2).mono ?_
  rintro e wa ⟨s, fb, rfl, hs, hfb, hst, hba⟩
  have hbela : Bel w.heap.size w wa := Bel.of (Bel.refl w) hba
  obtain ⟨G0, hG0⟩ : ∃ G0 : Nat → Int, G0 = fun _ => 0 := ⟨_, rfl⟩
  rw [← hG0] at hst
  clear hG0 hba HN
  go_wp2_with fail
  go_loopw [13] (fun iv wr => ∃ (k : Nat) (G : Nat → Int), k ≤ N ∧ iv = .int .i64 k ∧ StoAt wr s fb N G ∧ Bel w.heap.size w wr) (fun iv _ => N - (intOf iv).toNat)
  case atStart => exact ⟨0, G0, Nat.zero_le _, rfl, hst, hbela⟩
  case round =>
    clear hst hbela
    obtain ⟨k, G, hk, rfl, hst, hbel⟩ := hrel
    by_cases hlt : k < N
    · go_wp2_with fail
      refine (Calls.lat (len_of _ _ _ _ _ hst)).mono ?_
      rintro e w' ⟨rfl, x, rfl⟩
      go_wp2_with fail
      refine (fsave_any s fb N _ _ _ _ G _ hst.later (by decide) (by omega) (by omega)).mono ?_
      rintro e w2 ⟨rfl, hu, hst2⟩
      have hbel2 := (hbel.later (x := x)).upd hu hfb
      go_wp2
      go_roundw
      case rel => exact ⟨k + 1, _, by omega, by go_num, hst2, hbel2⟩
      case measure => simp [intOf]; omega
    · obtain rfl : k = N := by omega
      go_wp2_with fail
      refine (Calls.lat (len_of _ _ _ _ _ hst)).mono ?_
      rintro e w' ⟨rfl, x, rfl⟩
      replace hst := hst.later (x := x)
      replace hbel := hbel.later (x := x)
      go_wp2_with fail
      refine (Calls.lat (all_of _ _ _ _ _ hst)).mono ?_
      rintro e w' ⟨rfl, x2, rfl⟩
      replace hst := hst.later (x := x2)
      replace hbel := hbel.later (x := x2)
      have hGb := hst.2.2.2
      cases a3
      case' true => obtain ⟨m, hm, hml⟩ : ∃ m : Nat, m = 1 ∧ (m = 1 ∨ m = 2 ∨ m = 4) := ⟨1, rfl, by omega⟩
      case' false => obtain ⟨m, hm, hml⟩ : ∃ m : Nat, m = 4 ∧ (m = 1 ∨ m = 2 ∨ m = 4) := ⟨4, rfl, by omega⟩
      all_goals
        by_cases hin : fin k a1 ∧ inP 64 a2 m
        · obtain ⟨hf, hp⟩ := hin
          obtain ⟨F, rfl, hF⟩ := hf.nat
          obtain ⟨a, m', rfl, hm', _, ham⟩ := hp.nat
          obtain rfl : m' = m := by omega
          have hother : ∀ i, i < F * 64 + a ∨ F * 64 + a + m' ≤ i → putF G (F * 64 + a) m' a4 i = G i := by
            intro i hi
            unfold putF
            rw [if_neg (by omega)]
          have hFk : F * 64 + 64 ≤ k * 64 := by
            have : (F + 1) * 64 ≤ k * 64 := Nat.mul_le_mul_right _ hF
            omega
          have hgv1 : m' = 1 → getV (fr (putF G (F * 64 + a) m' a4) F) a m' = a4 % 256 := fun e => by rw [← putF_fr, e]; exact get_put1 _ a a4
          have hgv4 : m' = 4 → getV (fr (putF G (F * 64 + a) m' a4) F) a m' = a4 := fun e => by rw [← putF_fr, e]; exact get_put4 _ a a4 b40 (by omega)
          obtain ⟨G', hG'⟩ : ∃ G', putF G (F * 64 + a) m' a4 = G' := ⟨_, rfl⟩
          rw [hG'] at hother hgv1 hgv4
          have hx1 := str_ahead (M := k * 64) hother (by omega)
          have hx2 := str_behind (M := k * 64) hother (by omega)
          have hszA := strF_size G' (k * 64)
          have hszB := strF_size G (k * 64)
          obtain ⟨V, hV⟩ : ∃ V, getV (fr G' F) a m' = V := ⟨_, rfl⟩
          rw [hV] at hgv1 hgv4
          have HV := Lib.hid hV
          have HG := Lib.hid hG'
          obtain ⟨M, hM⟩ : ∃ M, k * 64 = M := ⟨_, rfl⟩
          have hatM : F * 64 + a + m' ≤ M := by omega
          have hMl : M ≤ 2048 := by omega
          obtain ⟨AT, hAT⟩ : ∃ AT, F * 64 + a = AT := ⟨_, rfl⟩
          have hATi : (64 * (F : Int) + a) = AT := by omega
          have HAT := Lib.hid hATi
          have HM := Lib.hid hM
          rw [hAT] at hatM
          have hat1 : m' = 1 → (AT : Int) + 1 ≤ M := by omega
          have hat4 : m' = 4 → (AT : Int) + 4 ≤ M := by omega
          subst hm
          simp at hgv1 hgv4 hat1 hat4
          rw [hAT, hM] at hx1 hx2
          rw [hM] at hszA hszB
          have HX1 := Lib.hid hx1
          have HX2 := Lib.hid hx2
          have HSA := Lib.hid hszA
          have HSB := Lib.hid hszB
          clear hV hM hAT hATi hother hp hf hml hm' hG' hx1 hx2 hszA hszB hFk
          go_wp2_with fail
          refine (save_in s fb k F a _ a4 G _ hst hF (by omega) ham b40 b41).mono ?_
          rintro e w2 ⟨rfl, hu, hst2⟩
          rw [HG.out] at hst2
          have hbel2 := hbel.upd hu hfb
          clear hst hbel hu
          go_wp2_with fail
          refine (Calls.lat (load_in s fb k F a _ G' _ hst2 hF (by omega) ham)).mono ?_
          rintro e w' ⟨rfl, x3, rfl⟩
          rw [HV.out]
          first | subst hgv1 | subst hgv4
          go_wp2_with fail
          refine (Calls.lat (all_of _ _ _ _ _ hst2.later)).mono ?_
          rintro e w' ⟨rfl, x4, rfl⟩
          go_wp2_with fail
          rw [HAT.out, HM.out]
          have hx1 := HX1.out
          have hx2 := HX2.out
          have hsa := HSA.out
          have hsb := HSB.out
          have hbel4 := (hbel2.later (x := x3)).later (x := x4)
          clear HX1 HX2 HSA HSB HM HAT HG HV hst2 hGb hbel2
          generalize strF G' M = A at *
          generalize strF G M = D at *
          refine wp_region_later (by kernel_rfl) (by kernel_rfl) ?_
          repeat (first | go_big_quiet_step (first
            | (go_at_call 17; exact Calls.later_of (awake06 _))))
          refine wpQuiet_nil ?_
          intro _ hw'
          obtain ⟨x9, hw''⟩ := hw'
          subst hw''
          go_wp2_with fail
          go_ret
          exact ⟨rfl, hbel4.later.1⟩
        · have hE : svE k a1 a2 m = 1 := if_neg hin
          have hGG : svG k G a1 a2 m a4 = G := if_neg hin
          subst hm
          have HE := Lib.hid hE
          have HGG := Lib.hid hGG
          clear hE hGG hin hml
          go_wp2_with fail
          refine (fsave_any s fb k _ _ _ _ G _ hst (by decide) (by omega) (by omega)).mono ?_
          rintro e w2 ⟨rfl, hu, hst2⟩
          have hE := HE.out
          have hGG := HGG.out
          simp only [Int.cast_ofNat_Int] at hE hGG
          rw [hGG] at hst2
          rw [hE]
          have hbel2 := hbel.upd hu hfb
          clear hE hGG HE HGG hu hst hbel
          go_wp2_with fail
          refine (Calls.lat (all_of _ _ _ _ _ hst2)).mono ?_
          rintro e w' ⟨rfl, x4, rfl⟩
          go_wp2_with fail
          refine (Calls.lat (awake06 _)).mono ?_
          rintro e w' ⟨rfl, x5, rfl⟩
          go_wp2_with fail
          go_ret
          exact ⟨rfl, hbel2.later.later.1⟩

end Go.Proofs.Ytoigfpepdfbnkaa
