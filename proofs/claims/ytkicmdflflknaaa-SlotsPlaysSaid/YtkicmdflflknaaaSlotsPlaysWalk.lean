/- The walk of hermitagelaw32.SlotsPlays: true at every table and every steps. -/
import Derived.Test.YtkicmdflflknaaaR32
namespace Go.Proofs.Ytkicmdflflknaaa
open Go.ChangeShapes Go.WideShapes Go.ChangeAt Go.RowKit
set_option linter.unusedVariables false

theorem HasSlots.long {w w' : World} {p : Option Addr} {n c : Nat} {L : Nat → Int × Int} (h : ¬ n ≤ 8) : Calls Try.prog 22 #[.slice p n c] w fun e w' => e = .returned (.tuple #[.pointer none, .int .i64 17]) ∧ w = w' := new_long p n c w (by omega)

set_option maxRecDepth 100000 in
set_option maxHeartbeats 4000000 in
theorem slotsPlays_walk (p0 : Option Addr) (n0 c0 : Nat) (f0 : Nat → List Value) (p1 : Option Addr) (n1 c1 : Nat) (f1 : Nat → List Value) (w : World) (w0 : SliceOk [some .i64, some .i64] w p0 n0 c0 f0) (hR0 : c0 * 16 ≤ 140737488351232) (w1 : SliceOk [some .i64] w p1 n1 c1 f1) (hR1 : c1 * 8 ≤ 140737488351232) :
    Calls Try.prog 10 #[.slice p0 n0 c0, .slice p1 n1 c1] w fun e w' => e = .returned (.bool true) ∧ Below w.heap.size w w' := by
  obtain ⟨L, hL⟩ := HasSlots.of_ok w0
  clear w0 hR0 hR1
  by_cases h50 : 50 < n0
  · go_enter Try.func10, Try.ntmps10
    go_wp2_with fail
    refine (new_long _ n0 _ _ (by omega)).mono ?_
    rintro e w' ⟨rfl, rfl⟩
    go_wp2_with fail
    refine (Calls.lat (awake32 _)).mono ?_
    rintro e w' ⟨rfl, x1, rfl⟩
    go_wp2_with fail
    go_ret
    exact ⟨rfl, (by refine (?_ : Bel _ _ _).1; repeat (first | exact hbel | exact Bel.refl _ | apply Bel.later | apply Bel.alloc | apply Bel.drew | (refine Bel.laterB ?_ (by first | exact Nat.le_refl _ | omega | (simp; omega) | simp)) | (refine Bel.setCell ?_ (by first | exact Nat.le_refl _ | omega | (simp; omega) | simp))))⟩
  go_enter Try.func10, Try.ntmps10
  go_wp2_with fail
  refine (new_any _ _ _ L _ hL).mono ?_
  rintro e wa ⟨hba, ⟨hok, t, g, cap, rfl, ht⟩ | ⟨hn, rfl⟩⟩
  · have hbela : Bel w.heap.size w wa := Bel.of (Bel.refl w) hba
    go_wp2_with fail
    refine (rnew_any _ _ _ L _ (hL.below hba)).mono ?_
    rintro e wb ⟨hbb, ⟨_, t', g', cap', rfl, hr⟩ | ⟨hn, _⟩⟩
    case inr => exact absurd hok hn
    have hbelb : Bel w.heap.size w wb := Bel.of hbela hbb
    replace ht := ht.below hbb
    clear hba hbb hbela hL
    go_wp2_with fail
    go_loopw [11] (fun iv wr => ∃ i : Nat, i ≤ 60 ∧ iv = .int .i64 i ∧ Bel wb.heap.size wb wr) (fun iv _ => 60 - (intOf iv).toNat)
    case atStart => exact ⟨0, Nat.zero_le _, rfl, Bel.refl _⟩
    case round =>
      obtain ⟨i, hi, rfl, hbel⟩ := hrel
      have ht' := ht.below hbel.1
      have hr' := hr.below hbel.1
      have lt' := lt_heap ht'.1
      by_cases hall : i < n1 ∧ i < 60
      · obtain ⟨i1, i60⟩ := hall
        obtain ⟨b1, o1, st, rfl, l1, _, wst, q1⟩ := w1.int1 i1
        have hbz : w.heap.size ≤ wb.heap.size := hbelb.2
        have r1 : wr.cell? ⟨b1, o1 + i, none⟩ = some (.int .i64 st) := (hbel.1.cell (p := ⟨b1, o1 + i, none⟩) (by show b1 < _; omega)).trans ((hbelb.1.cell (p := ⟨b1, o1 + i, none⟩) l1).trans q1)
        have lb1 : b1 < wr.heap.size := by have := hbel.2; omega
        have bst := bounds_i64 wst
        obtain ⟨bs0, bs1⟩ := bst
        clear w1 wst q1 l1 hbz
        by_cases hneg : st < 0
        · go_wp2_with fail
          refine (Calls.lat (tat_neg _ _ _ _ _ _ _ ht' hok hneg)).mono ?_
          rintro e w' ⟨rfl, x1, rfl⟩
          go_wp2_with fail
          refine (Calls.lat (rat_neg _ 0 0 0 L _ _ hneg)).mono ?_
          rintro e w' ⟨rfl, x2, rfl⟩
          go_wp2_with fail
          refine wp_region_later (by kernel_rfl) (by kernel_rfl) ?_
          repeat (first | go_big_quiet_step (first
            | (go_at_call 12; exact Calls.later_of (tstarts_neg _ _ _ _ _ _ _ (by repeat (first | exact ht' | apply TabAt.later | apply TabAt.alloc)) hok hneg))
            | (go_at_call 14; exact Calls.later_of (tshare _ _ _ _ _ _ _ (by repeat (first | exact ht' | apply TabAt.later | apply TabAt.alloc)) hok))
            | (go_at_call 32; exact Calls.later_same (rshare _ _ _ _ _ _ _ (by repeat (first | exact hr' | apply RefAt.later | apply RefAt.alloc)) hok))))
          refine wpQuiet_nil ?_
          intro _ hw'
          obtain ⟨x9, hw''⟩ := hw'
          subst hw''
          go_wp2_with fail
          go_roundw
          case rel => exact ⟨i + 1, by omega, by go_num, (by repeat (first | exact hbel | exact Bel.refl _ | apply Bel.later | apply Bel.alloc | apply Bel.drew | (refine Bel.laterB ?_ (by first | exact Nat.le_refl _ | omega | (simp; omega) | simp)) | (refine Bel.setCell ?_ (by first | exact Nat.le_refl _ | omega | (simp; omega) | simp))))⟩
          case measure => simp [intOf]; omega
        · obtain ⟨q, k, off, hst⟩ := StepAt.find hok.2.2 hok.1 st (by omega)
          go_wp2_with fail
          refine (Calls.lat (tat _ _ _ _ _ _ q k off _ ht' hok hst (by omega))).mono ?_
          rintro e w' ⟨rfl, x1, rfl⟩
          go_wp2_with fail
          refine (Calls.lat (rat _ _ _ _ _ _ q k off _ hr'.later.alloc hok hst (by omega))).mono ?_
          rintro e w' ⟨rfl, x2, rfl⟩
          go_wp2_with fail
          refine wp_region_later (by kernel_rfl) (by kernel_rfl) ?_
          repeat (first | go_big_quiet_step (first
            | (go_at_call 12; exact Calls.later_of (tstarts _ _ _ _ _ _ q k off _ (by repeat (first | exact ht' | apply TabAt.later | apply TabAt.alloc)) hok hst (by omega)))
            | (go_at_call 14; exact Calls.later_of (tshare _ _ _ _ _ _ _ (by repeat (first | exact ht' | apply TabAt.later | apply TabAt.alloc)) hok))
            | (go_at_call 32; exact Calls.later_same (rshare _ _ _ _ _ _ _ (by repeat (first | exact hr' | apply RefAt.later | apply RefAt.alloc)) hok))))
          refine wpQuiet_nil ?_
          intro _ hw'
          obtain ⟨x9, hw''⟩ := hw'
          subst hw''
          go_wp2_with fail
          go_roundw
          case rel => exact ⟨i + 1, by omega, by go_num, (by repeat (first | exact hbel | exact Bel.refl _ | apply Bel.later | apply Bel.alloc | apply Bel.drew | (refine Bel.laterB ?_ (by first | exact Nat.le_refl _ | omega | (simp; omega) | simp)) | (refine Bel.setCell ?_ (by first | exact Nat.le_refl _ | omega | (simp; omega) | simp))))⟩
          case measure => simp [intOf]; omega
      · clear w1
        have hcase : ¬ i < n1 ∨ (i < n1 ∧ ¬ i < 60) := by omega
        clear hall
        rcases hcase with h | ⟨h, h'⟩
        all_goals
          go_wp2_with fail
          refine (Calls.lat (tperiod _ _ _ _ _ _ ht' hok)).mono ?_
          rintro e w' ⟨rfl, x1, rfl⟩
          go_wp2_with fail
          refine (rperiod _ _ _ _ _ _ hr'.later hok).mono ?_
          rintro e w' ⟨rfl, rfl⟩
          go_wp2_with fail
          refine (Calls.lat (awake32 _)).mono ?_
          rintro e w' ⟨rfl, x2, rfl⟩
          go_wp2_with fail
          go_ret
          exact ⟨rfl, ((hbelb.trans hbel hbelb.2).later.later).1⟩
  · have hbela : Bel w.heap.size w wa := Bel.of (Bel.refl w) hba
    go_wp2_with fail
    refine (rnew_any _ _ _ L _ (hL.below hba)).mono ?_
    rintro e wb ⟨hbb, ⟨hok, _⟩ | ⟨_, rfl⟩⟩
    case inl => exact absurd hok hn
    have hbel : Bel w.heap.size w wb := Bel.of hbela hbb
    go_wp2_with fail
    refine (Calls.lat (awake32 _)).mono ?_
    rintro e w' ⟨rfl, x1, rfl⟩
    go_wp2_with fail
    go_ret
    exact ⟨rfl, (by refine (?_ : Bel _ _ _).1; repeat (first | exact hbel | exact Bel.refl _ | apply Bel.later | apply Bel.alloc | apply Bel.drew | (refine Bel.laterB ?_ (by first | exact Nat.le_refl _ | omega | (simp; omega) | simp)) | (refine Bel.setCell ?_ (by first | exact Nat.le_refl _ | omega | (simp; omega) | simp))))⟩

end Go.Proofs.Ytkicmdflflknaaa
