/- The walk of hermitagelaw32.SlotsExact: true at every table and frame. -/
import Derived.Test.YtkicmdflflknaaaS32a
namespace Go.Proofs.Ytkicmdflflknaaa
open Go.ChangeShapes Go.WideShapes Go.ChangeAt Go.RowKit
set_option linter.unusedVariables false

set_option maxRecDepth 100000 in
set_option maxHeartbeats 2000000 in
theorem slotsExact_walk (p0 : Option Addr) (m c0 : Nat) (f0 : Nat → List Value) (a1 : Int) (w : World) (w0 : SliceOk [some .i64, some .i64] w p0 m c0 f0) (hR0 : c0 * 16 ≤ 140737488351232) (w1 : (Lit.int .u16 a1).wf = true) :
    Calls Try.prog 6 #[.slice p0 m c0, .int .u16 a1] w fun e w' => e = .returned (.bool true) ∧ Below w.heap.size w w' := by
  have b1 := bounds_u16 w1
  obtain ⟨b1, b1'⟩ := b1
  obtain ⟨L, hL⟩ := HasSlots.of_ok w0
  clear w0 hR0 w1
  go_enter Try.func6, Try.ntmps6
  go_wp2_with fail
  refine (new_any _ _ _ L _ hL).mono ?_
  rintro e wa ⟨hba, ⟨hok, t, g, cap, rfl, ht⟩ | ⟨hn, rfl⟩⟩
  · have hbela : Bel w.heap.size w wa := Bel.of (Bel.refl w) hba
    obtain ⟨b, o, rfl, hb, hin⟩ := (hL.below hba) hok.1
    have hsum := sumB_bound hok.2.2 m (Nat.le_refl _)
    have hm1 := hok.1
    have hm8 := hok.2.1
    obtain ⟨P, hP⟩ : ∃ P, a1 * sumB L m = P := ⟨_, rfl⟩
    have hP0 : 0 ≤ P := by rw [← hP]; exact Int.mul_nonneg b1 (by omega)
    have hP1 : P ≤ 16776960 := by
      rw [← hP]
      have : a1 * sumB L m ≤ 65535 * 256 := Int.mul_le_mul b1' (by omega) (by omega) (by omega)
      omega
    have hP2 : (1 + a1) * sumB L m = P + sumB L m := by rw [Int.add_mul, hP]; omega
    have hP2' : (a1 + 1) * sumB L m = P + sumB L m := by rw [Int.add_mul, hP]; omega
    have ht0 : 0 ≤ sumB L m := by omega
    have ht1 : sumB L m ≤ 256 := by omega
    have HP := Lib.hid hP
    clear hsum
    go_wp2_with fail
    refine (Calls.lat (tperiod _ _ _ _ _ _ ht hok)).mono ?_
    rintro e w' ⟨rfl, x1, rfl⟩
    go_wp2_with fail
    clear hP
    go_loopw [7, 8] (fun nv iv wr => ∃ i : Nat, i ≤ m ∧ iv = .int .i64 i ∧ nv = .int .i64 (P + sumB L i) ∧ Bel wa.heap.size wa wr) (fun _ iv _ => m - (intOf iv).toNat)
    case atStart => exact ⟨0, Nat.zero_le _, rfl, by simp [sumB], (by repeat (first | exact hbel | exact Bel.refl _ | apply Bel.later | apply Bel.alloc | apply Bel.drew | (refine Bel.laterB ?_ (by first | exact Nat.le_refl _ | omega | (simp; omega) | simp)) | (refine Bel.setCell ?_ (by first | exact Nat.le_refl _ | omega | (simp; omega) | simp))))⟩
    case round =>
      obtain ⟨i, hi, rfl, rfl, hbel⟩ := hrel
      obtain ⟨wo, rfl⟩ : ∃ wo : World, wo = wr := ⟨_, rfl⟩
      have hbi := sumB_bound hok.2.2 i hi
      have hs0 : 0 ≤ sumB L i := by omega
      have hs1 : sumB L i ≤ 256 := by omega
      clear hbi
      by_cases hlt : i < m
      · have hbud : 1 ≤ (L i).2 ∧ (L i).2 ≤ 32 := by have := hok.2.2 i hlt; unfold okSlot at this; omega
        obtain ⟨hbud1, hbud2⟩ := hbud
        have hi8 : (i : Int) < 8 := by omega
        have hin' := hin.below hbel.1 hb
        obtain ⟨c1, c2⟩ := hin' i hlt
        have hb' : b < wo.heap.size := Nat.lt_of_lt_of_le hb hbel.2
        have ht' := ht.below hbel.1
        have hsucc := sumB_succ L i
        have Hs := Lib.hid hsucc
        clear hsucc hin'
        go_wp2_with fail
        go_loopw [7, 9] (fun nv kv wr => ∃ k : Nat, (k : Int) ≤ (L i).2 ∧ kv = .int .i64 k ∧ nv = .int .i64 (P + sumB L i + k) ∧ Bel wo.heap.size wo wr) (fun _ kv _ => (L i).2.toNat - (intOf kv).toNat)
        case atStart => exact ⟨0, by omega, rfl, by simp, Bel.refl _⟩
        case round =>
          obtain ⟨k, hk, rfl, rfl, hbel2⟩ := hrel
          have hb2 : b < wr.heap.size := Nat.lt_of_lt_of_le hb' hbel2.2
          have d1 : wr.cell? ⟨b, o + i * 2, none⟩ = some (.int .i64 (L i).1) := (hbel2.1.cell (p := ⟨b, o + i * 2, none⟩) hb').trans c1
          have d2 : wr.cell? ⟨b, o + i * 2 + 1, none⟩ = some (.int .i64 (L i).2) := (hbel2.1.cell (p := ⟨b, o + i * 2 + 1, none⟩) hb').trans c2
          have ht2 := ht'.below hbel2.1
          by_cases hkl : (k : Int) < (L i).2
          · have hst : StepAt L m (P + sumB L i + k) a1 i k := ⟨hlt, by omega, hkl, b1, by rw [HP.out]; omega⟩
            go_wp2_with fail
            refine (Calls.lat (tat _ _ _ _ _ _ a1 i k _ ht2 hok hst (by omega))).mono ?_
            rintro e w' ⟨rfl, x2, rfl⟩
            go_wp2_with fail
            refine wp_region_later (by kernel_rfl) (by kernel_rfl) ?_
            repeat (first | go_big_quiet_step (first | (go_at_call 12; exact Calls.later_of (tstarts _ _ _ _ _ _ a1 i k _ ht2.later.alloc.later hok hst (by omega)))))
            refine wpQuiet_nil ?_
            intro _ hw'
            obtain ⟨x9, hw''⟩ := hw'
            subst hw''
            go_wp2_with fail
            go_roundw
            case rel => exact ⟨k + 1, by omega, by go_num, by go_num, by have hbel := hbel2; exact (by repeat (first | exact hbel | exact Bel.refl _ | apply Bel.later | apply Bel.alloc | apply Bel.drew | (refine Bel.laterB ?_ (by first | exact Nat.le_refl _ | omega | (simp; omega) | simp)) | (refine Bel.setCell ?_ (by first | exact Nat.le_refl _ | omega | (simp; omega) | simp))))⟩
            case measure => simp [intOf]; omega
          · have hkb : (k : Int) = (L i).2 := by omega
            have Hk := Lib.hid hkb
            clear hkb
            go_wp2_with fail
            go_roundw
            case rel => exact ⟨i + 1, by omega, by go_num, by rw [Hs.out, Hk.out]; congr 1; omega, hbel.trans hbel2 hbel.2⟩
            case measure => simp [intOf]; omega
      · obtain rfl : i = m := by omega
        have ht' := ht.below hbel.1
        go_wp2_with fail
        refine (Calls.lat (tperiod _ _ _ _ _ _ ht' hok)).mono ?_
        rintro e w' ⟨rfl, x2, rfl⟩
        go_wp2_with fail
        refine (Calls.lat (awake32 _)).mono ?_
        rintro e w' ⟨rfl, x3, rfl⟩
        go_wp2_with fail
        go_ret
        exact ⟨rfl, ((hbela.trans hbel hbela.2).later.later).1⟩
  · go_wp2_with fail
    refine (Calls.lat (awake32 _)).mono ?_
    rintro e w' ⟨rfl, x1, rfl⟩
    have hbel : Bel w.heap.size w wa := Bel.of (Bel.refl w) hba
    go_wp2_with fail
    go_ret
    exact ⟨rfl, (by refine (?_ : Bel _ _ _).1; repeat (first | exact hbel | exact Bel.refl _ | apply Bel.later | apply Bel.alloc | apply Bel.drew | (refine Bel.laterB ?_ (by first | exact Nat.le_refl _ | omega | (simp; omega) | simp)) | (refine Bel.setCell ?_ (by first | exact Nat.le_refl _ | omega | (simp; omega) | simp))))⟩

end Go.Proofs.Ytkicmdflflknaaa
