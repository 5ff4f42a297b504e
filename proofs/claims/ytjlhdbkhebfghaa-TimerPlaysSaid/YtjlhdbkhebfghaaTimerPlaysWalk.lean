/- law 29: TimerPlays. -/
import Derived.Test.YtjlhdbkhebfghaaTmq
import Derived.Test.YtjlhdbkhebfghaaInts
import Derived.Deep.RegionHeld3
namespace Go.Proofs.Ytjlhdbkhebfghaa
open Go.ChangeShapes Go.WideShapes Go.ChangeAt Go.RowKit
set_option linter.unusedVariables false

set_option maxRecDepth 100000 in
set_option maxHeartbeats 4000000 in
theorem timerPlays_walk (p0 : Option Addr) (n0 c0 : Nat) (f0 : Nat → List Value) (w : World) (w0 : SliceOk [some .i64, some .i64] w p0 n0 c0 f0) (hR0 : c0 * 16 ≤ 140737488351232) :
    Calls Try.prog 9 #[.slice p0 n0 c0] w fun e w' => e = .returned (.bool true) ∧ Below w.heap.size w w' := by
  go_enter Try.func9, Try.ntmps9
  go_wp2_with fail
  refine (tmNew _).mono ?_
  rintro e wa ⟨rfl, b1, t1⟩
  have hT0 := t1.lt
  have hPlay : Play w (wa.alloc (.cells #[.slice none 0 0] 68)) wa.heap.size (fun _ => false) 0 (.slice none 0 0) [] (.slice none 0 0) [] :=
    ⟨t1.below (Bel.refl wa).alloc.1, ⟨Go.heap_alloc_new wa _, World.ownsRow_nil _ _ _ _⟩, hT0, Bel.alloc ⟨b1, b1.size⟩, List.Perm.refl _, Ids.nil (fun _ _ => rfl), List.Pairwise.nil, fun x hx => (by cases hx)⟩
  have hlen : n0 ≤ 140737488351232 := by
    have := w0.1
    omega
  go_wp2_with fail
  go_loopw [4, 5] (fun rbv iv wr => ∃ (i : Nat) (u : Nat → Bool) (now : Nat) (v : Value) (l : List trIt) (rv : Value) (m : List trIt), i ≤ 100 ∧ iv = .int .i64 i ∧ now ≤ i ∧ ∃ rb, rbv = .pointer (some ⟨rb, 0, none⟩) ∧ Play w wr rb u now v l rv m) (fun _ iv _ => 100 - (intOf iv).toNat)
  case atStart => exact ⟨0, _, 0, _, _, _, _, Nat.zero_le _, rfl, Nat.le_refl _, _, rfl, hPlay⟩
  case round =>
    obtain ⟨i, u, now, v, l, rv, m, hi, rfl, hnow, rb, rfl, hP⟩ := hrel
    obtain ⟨wo, rfl⟩ : ∃ wo : World, wo = wr := ⟨_, rfl⟩
    clear hPlay t1 b1
    by_cases hall : i < n0 ∧ i < 100
    · obtain ⟨i0, i100⟩ := hall
      obtain ⟨b0, o0, kd, nn, rfl, l0, _, _, _, q0, q1⟩ := w0.int2 i0
      have r0 : wo.cell? ⟨b0, o0 + i * 2, none⟩ = some (.int .i64 kd) := (hP.bel.1.cell (p := ⟨b0, o0 + i * 2, none⟩) l0).trans q0
      have r1 : wo.cell? ⟨b0, o0 + i * 2 + 1, none⟩ = some (.int .i64 nn) := (hP.bel.1.cell (p := ⟨b0, o0 + i * 2 + 1, none⟩) l0).trans q1
      clear q0 q1 w0
      have hA : (wo.alloc (.cells #[.int .i64 kd, .int .i64 nn] 39)).heap[wo.heap.size]? = some (.cells #[.int .i64 kd, .int .i64 nn] 39 (0, 0)) := Go.heap_alloc_new wo _
      have hP1 := hP.below (Bel.refl wo).alloc.1 (w2 := wo.alloc (.cells #[.int .i64 kd, .int .i64 nn] 39))
      obtain ⟨ll4, hml⟩ := hP.le
      rcases (by omega : kd = 0 ∨ kd = 1 ∨ kd = 2 ∨ (kd ≠ 0 ∧ kd ≠ 1 ∧ kd ≠ 2)) with rfl | rfl | rfl | ⟨k0, k1, k2⟩
      · by_cases hd : nn < 0
        · go_wp2_with fail
          refine (tmArmNeg w.heap.size now u v l nn _ hP1.tm hd).mono ?_
          rintro e w' ⟨rfl, rfl⟩
          go_wp2_with fail
          refine (rArmNo rb rv m nn _ hP1.rf (by omega) (.inl hd)).mono ?_
          rintro e w' ⟨rfl, rfl⟩
          rw [if_pos hd]
          go_wp2_with fail
          obtain ⟨wz, hwz, hP2⟩ : ∃ wz, wz = _ ∧ Play w wz rb u now v l rv m := ⟨_, rfl, hP1⟩
          rw [← hwz]
          obtain ⟨u2, now2, v2, l2, rv2, m2, hn2, hP2⟩ : ∃ u2 now2 v2 l2 rv2 m2, now2 ≤ i + 1 ∧ Play w wz rb u2 now2 v2 l2 rv2 m2 := ⟨_, _, _, _, _, _, by omega, hP2⟩
          clear hA hP1 r0 r1 hwz hP
          obtain ⟨rb2, rfl⟩ : ∃ r, r = rb := ⟨_, rfl⟩
          have hT2 := hP2.tm
          have hfirst := hP2.first
          obtain ⟨hl4, hml⟩ := hP2.le
          have hlt2 := hP2.rf.lt
          have hq0 := hP2.rf.field rfBlk_ok
          have hmli : (m2.length : Int) = l2.length := by omega
          refine (tmNext w.heap.size now2 u2 v2 l2 _ hT2).mono ?_
          rintro e w' ⟨rfl, rfl⟩
          by_cases hl0 : l2.length = 0
          · rw [if_pos hl0]
            have hm0 : m2.length = 0 := by omega
            go_wp2_with fail
            refine (rNext rb2 rv2 m2 _ hP2.rf (by omega)).mono ?_
            rintro e w7 ⟨rfl, b7⟩
            rw [if_pos hm0]
            clear hfirst
            have hP3 := hP2.below b7
            have q7 := (b7.cell (p := ⟨rb2, 0, none⟩) hlt2).trans hq0
            have hlt7 := hP3.rf.lt
            obtain ⟨a7, c7, rfl⟩ := hP2.rf.shape
            have hT3 := hP3.tm
            clear hP2 hT2 hq0 hlt2 b7 hl0 hm0
            go_wp2_with fail
            refine wp_region_later (by kernel_rfl) (by kernel_rfl) ?_
            (repeat (go_big_quiet_step (first | (go_at_call 15; exact Calls.later_same (tmLen _ _ _ _ _ _ (hT3.below (later_below _ _)))))))
            refine wpQuiet_nil ?_
            intro _ hw'
            obtain ⟨x8, hw''⟩ := hw'
            subst hw''
            go_wp2
            go_roundw
            case rel => exact ⟨i + 1, u2, now2, v2, l2, _, m2, by omega, by go_num, by omega, rb2, rfl, hP3.below (later_below _ _)⟩
            case measure => simp [intOf]; omega
          · rw [if_neg hl0]
            have hm0 : ¬ m2.length = 0 := by omega
            go_wp2_with fail
            refine (rNext rb2 rv2 m2 _ hP2.rf (by omega)).mono ?_
            rintro e w7 ⟨rfl, b7⟩
            rw [if_neg hm0, hfirst hl0]
            generalize (atL l2 0).due = dd at *
            clear hfirst
            have hP3 := hP2.below b7
            have q7 := (b7.cell (p := ⟨rb2, 0, none⟩) hlt2).trans hq0
            have hlt7 := hP3.rf.lt
            obtain ⟨a7, c7, rfl⟩ := hP2.rf.shape
            have hT3 := hP3.tm
            clear hP2 hT2 hq0 hlt2 b7 hl0 hm0
            go_wp2_with fail
            refine wp_region_later (by kernel_rfl) (by kernel_rfl) ?_
            (repeat (go_big_quiet_step (first | (go_at_call 15; exact Calls.later_same (tmLen _ _ _ _ _ _ (hT3.below (later_below _ _)))))))
            refine wpQuiet_nil ?_
            intro _ hw'
            obtain ⟨x8, hw''⟩ := hw'
            subst hw''
            go_wp2
            go_roundw
            case rel => exact ⟨i + 1, u2, now2, v2, l2, _, m2, by omega, by go_num, by omega, rb2, rfl, hP3.below (later_below _ _)⟩
            case measure => simp [intOf]; omega
        · rcases freeU_spec u with ⟨hf, hu⟩ | ⟨hk, hu, hbef⟩
          · have hfull := hP.ids.full hu
            go_wp2_with fail
            refine (tmArmFull w.heap.size now u v l nn _ hP1.tm (by omega) hf).mono ?_
            rintro e w' ⟨rfl, rfl⟩
            go_wp2_with fail
            refine (rArmNo rb rv m nn _ hP1.rf (by omega) (.inr (by omega))).mono ?_
            rintro e w' ⟨rfl, rfl⟩
            rw [if_neg (by omega)]
            go_wp2_with fail
            obtain ⟨wz, hwz, hP2⟩ : ∃ wz, wz = _ ∧ Play w wz rb u now v l rv m := ⟨_, rfl, hP1⟩
            rw [← hwz]
            obtain ⟨u2, now2, v2, l2, rv2, m2, hn2, hP2⟩ : ∃ u2 now2 v2 l2 rv2 m2, now2 ≤ i + 1 ∧ Play w wz rb u2 now2 v2 l2 rv2 m2 := ⟨_, _, _, _, _, _, by omega, hP2⟩
            clear hA hP1 r0 r1 hwz hP
            obtain ⟨rb2, rfl⟩ : ∃ r, r = rb := ⟨_, rfl⟩
            have hT2 := hP2.tm
            have hfirst := hP2.first
            obtain ⟨hl4, hml⟩ := hP2.le
            have hlt2 := hP2.rf.lt
            have hq0 := hP2.rf.field rfBlk_ok
            have hmli : (m2.length : Int) = l2.length := by omega
            refine (tmNext w.heap.size now2 u2 v2 l2 _ hT2).mono ?_
            rintro e w' ⟨rfl, rfl⟩
            by_cases hl0 : l2.length = 0
            · rw [if_pos hl0]
              have hm0 : m2.length = 0 := by omega
              go_wp2_with fail
              refine (rNext rb2 rv2 m2 _ hP2.rf (by omega)).mono ?_
              rintro e w7 ⟨rfl, b7⟩
              rw [if_pos hm0]
              clear hfirst
              have hP3 := hP2.below b7
              have q7 := (b7.cell (p := ⟨rb2, 0, none⟩) hlt2).trans hq0
              have hlt7 := hP3.rf.lt
              obtain ⟨a7, c7, rfl⟩ := hP2.rf.shape
              have hT3 := hP3.tm
              clear hP2 hT2 hq0 hlt2 b7 hl0 hm0
              go_wp2_with fail
              refine wp_region_later (by kernel_rfl) (by kernel_rfl) ?_
              (repeat (go_big_quiet_step (first | (go_at_call 15; exact Calls.later_same (tmLen _ _ _ _ _ _ (hT3.below (later_below _ _)))))))
              refine wpQuiet_nil ?_
              intro _ hw'
              obtain ⟨x8, hw''⟩ := hw'
              subst hw''
              go_wp2
              go_roundw
              case rel => exact ⟨i + 1, u2, now2, v2, l2, _, m2, by omega, by go_num, by omega, rb2, rfl, hP3.below (later_below _ _)⟩
              case measure => simp [intOf]; omega
            · rw [if_neg hl0]
              have hm0 : ¬ m2.length = 0 := by omega
              go_wp2_with fail
              refine (rNext rb2 rv2 m2 _ hP2.rf (by omega)).mono ?_
              rintro e w7 ⟨rfl, b7⟩
              rw [if_neg hm0, hfirst hl0]
              generalize (atL l2 0).due = dd at *
              clear hfirst
              have hP3 := hP2.below b7
              have q7 := (b7.cell (p := ⟨rb2, 0, none⟩) hlt2).trans hq0
              have hlt7 := hP3.rf.lt
              obtain ⟨a7, c7, rfl⟩ := hP2.rf.shape
              have hT3 := hP3.tm
              clear hP2 hT2 hq0 hlt2 b7 hl0 hm0
              go_wp2_with fail
              refine wp_region_later (by kernel_rfl) (by kernel_rfl) ?_
              (repeat (go_big_quiet_step (first | (go_at_call 15; exact Calls.later_same (tmLen _ _ _ _ _ _ (hT3.below (later_below _ _)))))))
              refine wpQuiet_nil ?_
              intro _ hw'
              obtain ⟨x8, hw''⟩ := hw'
              subst hw''
              go_wp2
              go_roundw
              case rel => exact ⟨i + 1, u2, now2, v2, l2, _, m2, by omega, by go_num, by omega, rb2, rfl, hP3.below (later_below _ _)⟩
              case measure => simp [intOf]; omega
          · obtain ⟨k, hf⟩ : ∃ k, freeU u = k := ⟨_, rfl⟩
            rw [hf] at hk hu hbef
            have hroom := hP.ids.room hk hu
            have hall2 : ∀ j, j < k → hasM m j = true := fun j hj => by rw [hP.hasU (by omega)]; exact hbef j hj
            have hno2 : hasM m k = false := by rw [hP.hasU hk]; exact hu
            have HF := Lib.hid hf
            have HU := Lib.hid hu
            have HA2 := Lib.hid hall2
            have HN2 := Lib.hid hno2
            clear hf hu hbef hall2 hno2
            go_wp2_with fail
            refine (tmArm w.heap.size now u v l nn k _ hP1.tm (by omega) HF.out hk (by omega) (by omega)).mono ?_
            rintro e w2 ⟨rfl, v2, l2, t2, p2, f2⟩
            have hr2 := hP1.rf2 f2
            have hact2 : w2.cell? ⟨wo.heap.size, 1, none⟩ = some (.int .i64 nn) := cell_of_row _ _ _ _ _ _ (f2.other hP1.tm.row hA (by decide) (by decide))
            go_wp2_with fail
            refine (rArm rb rv m nn (now + 1 : Nat) k _ hr2 (by omega) (by omega) hk HA2.out HN2.out).mono ?_
            rintro e wz ⟨rfl, rv3, r3, f3⟩
            have hP2 := hP1.armed hk HU.out t2 p2 f2 r3 f3
            clear hact2 hr2 f2 f3 r3 t2 p2 HF HU HA2 HN2
            go_wp2_with fail
            obtain ⟨u2, now2, v2, l2, rv2, m2, hn2, hP2⟩ : ∃ u2 now2 v2 l2 rv2 m2, now2 ≤ i + 1 ∧ Play w wz rb u2 now2 v2 l2 rv2 m2 := ⟨_, _, _, _, _, _, by omega, hP2⟩
            clear hA hP1 r0 r1 hP
            obtain ⟨rb2, rfl⟩ : ∃ r, r = rb := ⟨_, rfl⟩
            have hT2 := hP2.tm
            have hfirst := hP2.first
            obtain ⟨hl4, hml⟩ := hP2.le
            have hlt2 := hP2.rf.lt
            have hq0 := hP2.rf.field rfBlk_ok
            have hmli : (m2.length : Int) = l2.length := by omega
            refine (tmNext w.heap.size now2 u2 v2 l2 _ hT2).mono ?_
            rintro e w' ⟨rfl, rfl⟩
            by_cases hl0 : l2.length = 0
            · rw [if_pos hl0]
              have hm0 : m2.length = 0 := by omega
              go_wp2_with fail
              refine (rNext rb2 rv2 m2 _ hP2.rf (by omega)).mono ?_
              rintro e w7 ⟨rfl, b7⟩
              rw [if_pos hm0]
              clear hfirst
              have hP3 := hP2.below b7
              have q7 := (b7.cell (p := ⟨rb2, 0, none⟩) hlt2).trans hq0
              have hlt7 := hP3.rf.lt
              obtain ⟨a7, c7, rfl⟩ := hP2.rf.shape
              have hT3 := hP3.tm
              clear hP2 hT2 hq0 hlt2 b7 hl0 hm0
              go_wp2_with fail
              refine wp_region_later (by kernel_rfl) (by kernel_rfl) ?_
              (repeat (go_big_quiet_step (first | (go_at_call 15; exact Calls.later_same (tmLen _ _ _ _ _ _ (hT3.below (later_below _ _)))))))
              refine wpQuiet_nil ?_
              intro _ hw'
              obtain ⟨x8, hw''⟩ := hw'
              subst hw''
              go_wp2
              go_roundw
              case rel => exact ⟨i + 1, u2, now2, v2, l2, _, m2, by omega, by go_num, by omega, rb2, rfl, hP3.below (later_below _ _)⟩
              case measure => simp [intOf]; omega
            · rw [if_neg hl0]
              have hm0 : ¬ m2.length = 0 := by omega
              go_wp2_with fail
              refine (rNext rb2 rv2 m2 _ hP2.rf (by omega)).mono ?_
              rintro e w7 ⟨rfl, b7⟩
              rw [if_neg hm0, hfirst hl0]
              generalize (atL l2 0).due = dd at *
              clear hfirst
              have hP3 := hP2.below b7
              have q7 := (b7.cell (p := ⟨rb2, 0, none⟩) hlt2).trans hq0
              have hlt7 := hP3.rf.lt
              obtain ⟨a7, c7, rfl⟩ := hP2.rf.shape
              have hT3 := hP3.tm
              clear hP2 hT2 hq0 hlt2 b7 hl0 hm0
              go_wp2_with fail
              refine wp_region_later (by kernel_rfl) (by kernel_rfl) ?_
              (repeat (go_big_quiet_step (first | (go_at_call 15; exact Calls.later_same (tmLen _ _ _ _ _ _ (hT3.below (later_below _ _)))))))
              refine wpQuiet_nil ?_
              intro _ hw'
              obtain ⟨x8, hw''⟩ := hw'
              subst hw''
              go_wp2
              go_roundw
              case rel => exact ⟨i + 1, u2, now2, v2, l2, _, m2, by omega, by go_num, by omega, rb2, rfl, hP3.below (later_below _ _)⟩
              case measure => simp [intOf]; omega
      · by_cases hno : nn < 0 ∨ 4 ≤ nn ∨ ∃ k : Nat, k < 4 ∧ nn = k ∧ u k = false
        · have hhas : hasM m nn = false := by
            rcases hno with h1 | h1 | ⟨k, hk, rfl, hu⟩
            · exact hP.hasNo (.inl h1)
            · exact hP.hasNo (.inr h1)
            · rw [hP.hasU hk]; exact hu
          go_wp2_with fail
          obtain ⟨wq, hwq, hA', hP1'⟩ : ∃ wq, wq = _ ∧ wq.heap[wo.heap.size]? = _ ∧ Play w wq rb u now v l rv m := ⟨_, rfl, hA, hP1⟩
          rw [← hwq]
          clear hA hP1 hwq
          have hA := hA'
          have hP1 := hP1'
          clear hA' hP1'
          have hPd : Play w wq.drew rb u now v l rv m := hP1.below (Bel.refl wq).drew.1
          have hqa : wq.cell? ⟨wo.heap.size, 1, none⟩ = some (.int .i64 _) := cell_of_row _ _ _ _ _ _ hA
          go_region_held3 (fun w' : World => w'.cell? ⟨wo.heap.size, 1, none⟩ = some (.int .i64 nn)) (first | exact hqa | assumption) (first
            | (go_at_call 17; refine (tmCancelNo w.heap.size now u v l nn wq.drew hPd.tm hno).mono ?_; rintro e wx ⟨rfl, hwx⟩; have s1 : wx.cell? ⟨wo.heap.size, 1, none⟩ = some (.int .i64 nn) := by rw [← hwx]; exact hqa)
            | (go_at_call 27; refine (rCancelT rb rv m nn false wx (by rw [← hwx]; exact hP1.rf) (by omega) hhas).mono ?_; rintro e wz ⟨rfl, rv3, r3, f3⟩; have s2 : wz.cell? ⟨wo.heap.size, 1, none⟩ = some (.int .i64 nn) := cell_of_row _ _ _ _ _ _ (f3.other (show RfAt wx rb rv m by rw [← hwx]; exact hP1.rf) (show wx.heap[wo.heap.size]? = _ by rw [← hwx]; exact hA) (by decide) (by decide))))
          have hP2 : Play w wz rb u now v l rv3 m := by
            rw [lessM_no hhas] at r3
            subst hwx
            exact hPd.move hPd.tm (Frm.refl _ _ _) r3 f3 hPd.perm hPd.ids hPd.since hPd.max
          clear f3 r3 s1 s2 hqa hPd
          go_wp2_with fail
          obtain ⟨u2, now2, v2, l2, rv2, m2, hn2, hP2⟩ : ∃ u2 now2 v2 l2 rv2 m2, now2 ≤ i + 1 ∧ Play w wz rb u2 now2 v2 l2 rv2 m2 := ⟨_, _, _, _, _, _, by omega, hP2⟩
          clear hA hP1 r0 r1 hP
          obtain ⟨rb2, rfl⟩ : ∃ r, r = rb := ⟨_, rfl⟩
          have hT2 := hP2.tm
          have hfirst := hP2.first
          obtain ⟨hl4, hml⟩ := hP2.le
          have hlt2 := hP2.rf.lt
          have hq0 := hP2.rf.field rfBlk_ok
          have hmli : (m2.length : Int) = l2.length := by omega
          refine (tmNext w.heap.size now2 u2 v2 l2 _ hT2).mono ?_
          rintro e w' ⟨rfl, rfl⟩
          by_cases hl0 : l2.length = 0
          · rw [if_pos hl0]
            have hm0 : m2.length = 0 := by omega
            go_wp2_with fail
            refine (rNext rb2 rv2 m2 _ hP2.rf (by omega)).mono ?_
            rintro e w7 ⟨rfl, b7⟩
            rw [if_pos hm0]
            clear hfirst
            have hP3 := hP2.below b7
            have q7 := (b7.cell (p := ⟨rb2, 0, none⟩) hlt2).trans hq0
            have hlt7 := hP3.rf.lt
            obtain ⟨a7, c7, rfl⟩ := hP2.rf.shape
            have hT3 := hP3.tm
            clear hP2 hT2 hq0 hlt2 b7 hl0 hm0
            go_wp2_with fail
            refine wp_region_later (by kernel_rfl) (by kernel_rfl) ?_
            (repeat (go_big_quiet_step (first | (go_at_call 15; exact Calls.later_same (tmLen _ _ _ _ _ _ (hT3.below (later_below _ _)))))))
            refine wpQuiet_nil ?_
            intro _ hw'
            obtain ⟨x8, hw''⟩ := hw'
            subst hw''
            go_wp2
            go_roundw
            case rel => exact ⟨i + 1, u2, now2, v2, l2, _, m2, by omega, by go_num, by omega, rb2, rfl, hP3.below (later_below _ _)⟩
            case measure => simp [intOf]; omega
          · rw [if_neg hl0]
            have hm0 : ¬ m2.length = 0 := by omega
            go_wp2_with fail
            refine (rNext rb2 rv2 m2 _ hP2.rf (by omega)).mono ?_
            rintro e w7 ⟨rfl, b7⟩
            rw [if_neg hm0, hfirst hl0]
            generalize (atL l2 0).due = dd at *
            clear hfirst
            have hP3 := hP2.below b7
            have q7 := (b7.cell (p := ⟨rb2, 0, none⟩) hlt2).trans hq0
            have hlt7 := hP3.rf.lt
            obtain ⟨a7, c7, rfl⟩ := hP2.rf.shape
            have hT3 := hP3.tm
            clear hP2 hT2 hq0 hlt2 b7 hl0 hm0
            go_wp2_with fail
            refine wp_region_later (by kernel_rfl) (by kernel_rfl) ?_
            (repeat (go_big_quiet_step (first | (go_at_call 15; exact Calls.later_same (tmLen _ _ _ _ _ _ (hT3.below (later_below _ _)))))))
            refine wpQuiet_nil ?_
            intro _ hw'
            obtain ⟨x8, hw''⟩ := hw'
            subst hw''
            go_wp2
            go_roundw
            case rel => exact ⟨i + 1, u2, now2, v2, l2, _, m2, by omega, by go_num, by omega, rb2, rfl, hP3.below (later_below _ _)⟩
            case measure => simp [intOf]; omega
        · obtain ⟨k, rfl⟩ : ∃ k : Nat, nn = k := ⟨nn.toNat, by omega⟩
          have hk : k < 4 := by omega
          have hu : u k = true := by
            cases h : u k
            · exact absurd (.inr (.inr ⟨k, hk, rfl, h⟩)) hno
            · rfl
          have hhas : hasM m k = true := by rw [hP.hasU hk]; exact hu
          have hin := hP.ids.all k hk hu
          have HU := Lib.hid hu
          clear hno hu
          go_wp2_with fail
          obtain ⟨wq, hwq, hA', hP1'⟩ : ∃ wq, wq = _ ∧ wq.heap[wo.heap.size]? = _ ∧ Play w wq rb u now v l rv m := ⟨_, rfl, hA, hP1⟩
          rw [← hwq]
          clear hA hP1 hwq
          have hA := hA'
          have hP1 := hP1'
          clear hA' hP1'
          have hPd : Play w wq.drew rb u now v l rv m := hP1.below (Bel.refl wq).drew.1
          have hqa : wq.cell? ⟨wo.heap.size, 1, none⟩ = some (.int .i64 _) := cell_of_row _ _ _ _ _ _ hA
          go_region_held3 (fun w' : World => w'.cell? ⟨wo.heap.size, 1, none⟩ = some (.int .i64 k)) (first | exact hqa | assumption) (first
            | (go_at_call 17; refine (tmCancel w.heap.size now u v l k wq.drew hPd.tm hk HU.out hin (by omega)).mono ?_; rintro e wx ⟨rfl, v2, l2, x2, hx2, hxk2, p2, t2, f2⟩; have s1 : wx.cell? ⟨wo.heap.size, 1, none⟩ = some (.int .i64 k) := cell_of_row _ _ _ _ _ _ (f2.other hPd.tm.row (show wq.drew.heap[wo.heap.size]? = _ from hA) (by decide) (by decide)))
            | (go_at_call 27; refine (rCancelT rb rv m k true wx (hPd.rf2 f2) (by omega) hhas).mono ?_; rintro e wz ⟨rfl, rv3, r3, f3⟩; have s2 : wz.cell? ⟨wo.heap.size, 1, none⟩ = some (.int .i64 k) := cell_of_row _ _ _ _ _ _ (f3.other (hPd.rf2 f2) (f2.other hPd.tm.row (show wq.drew.heap[wo.heap.size]? = _ from hA) (by decide) (by decide)) (by decide) (by decide))))
          have hP2 := hPd.cancelled hk hxk2 p2 t2 f2 r3 f3
          clear f3 r3 s1 s2 hqa hPd t2 f2 p2 hxk2 hx2 hin HU hhas
          go_wp2_with fail
          obtain ⟨u2, now2, v2, l2, rv2, m2, hn2, hP2⟩ : ∃ u2 now2 v2 l2 rv2 m2, now2 ≤ i + 1 ∧ Play w wz rb u2 now2 v2 l2 rv2 m2 := ⟨_, _, _, _, _, _, by omega, hP2⟩
          clear hA hP1 r0 r1 hP
          obtain ⟨rb2, rfl⟩ : ∃ r, r = rb := ⟨_, rfl⟩
          have hT2 := hP2.tm
          have hfirst := hP2.first
          obtain ⟨hl4, hml⟩ := hP2.le
          have hlt2 := hP2.rf.lt
          have hq0 := hP2.rf.field rfBlk_ok
          have hmli : (m2.length : Int) = l2.length := by omega
          refine (tmNext w.heap.size now2 u2 v2 l2 _ hT2).mono ?_
          rintro e w' ⟨rfl, rfl⟩
          by_cases hl0 : l2.length = 0
          · rw [if_pos hl0]
            have hm0 : m2.length = 0 := by omega
            go_wp2_with fail
            refine (rNext rb2 rv2 m2 _ hP2.rf (by omega)).mono ?_
            rintro e w7 ⟨rfl, b7⟩
            rw [if_pos hm0]
            clear hfirst
            have hP3 := hP2.below b7
            have q7 := (b7.cell (p := ⟨rb2, 0, none⟩) hlt2).trans hq0
            have hlt7 := hP3.rf.lt
            obtain ⟨a7, c7, rfl⟩ := hP2.rf.shape
            have hT3 := hP3.tm
            clear hP2 hT2 hq0 hlt2 b7 hl0 hm0
            go_wp2_with fail
            refine wp_region_later (by kernel_rfl) (by kernel_rfl) ?_
            (repeat (go_big_quiet_step (first | (go_at_call 15; exact Calls.later_same (tmLen _ _ _ _ _ _ (hT3.below (later_below _ _)))))))
            refine wpQuiet_nil ?_
            intro _ hw'
            obtain ⟨x8, hw''⟩ := hw'
            subst hw''
            go_wp2
            go_roundw
            case rel => exact ⟨i + 1, u2, now2, v2, l2, _, m2, by omega, by go_num, by omega, rb2, rfl, hP3.below (later_below _ _)⟩
            case measure => simp [intOf]; omega
          · rw [if_neg hl0]
            have hm0 : ¬ m2.length = 0 := by omega
            go_wp2_with fail
            refine (rNext rb2 rv2 m2 _ hP2.rf (by omega)).mono ?_
            rintro e w7 ⟨rfl, b7⟩
            rw [if_neg hm0, hfirst hl0]
            generalize (atL l2 0).due = dd at *
            clear hfirst
            have hP3 := hP2.below b7
            have q7 := (b7.cell (p := ⟨rb2, 0, none⟩) hlt2).trans hq0
            have hlt7 := hP3.rf.lt
            obtain ⟨a7, c7, rfl⟩ := hP2.rf.shape
            have hT3 := hP3.tm
            clear hP2 hT2 hq0 hlt2 b7 hl0 hm0
            go_wp2_with fail
            refine wp_region_later (by kernel_rfl) (by kernel_rfl) ?_
            (repeat (go_big_quiet_step (first | (go_at_call 15; exact Calls.later_same (tmLen _ _ _ _ _ _ (hT3.below (later_below _ _)))))))
            refine wpQuiet_nil ?_
            intro _ hw'
            obtain ⟨x8, hw''⟩ := hw'
            subst hw''
            go_wp2
            go_roundw
            case rel => exact ⟨i + 1, u2, now2, v2, l2, _, m2, by omega, by go_num, by omega, rb2, rfl, hP3.below (later_below _ _)⟩
            case measure => simp [intOf]; omega
      · go_wp2_with fail
        have hPb := hP1.below (Bel.refl _).alloc.1 (w2 := (wo.alloc (.cells #[.int .i64 2, .int .i64 nn] 39)).alloc (.cells #[.slice none 0 0] 68))
        have hnew : ((wo.alloc (.cells #[.int .i64 2, .int .i64 nn] 39)).alloc (.cells #[.slice none 0 0] 68)).heap[wo.heap.size + 1]? = some (.cells #[.slice none 0 0] 68 (0, 0)) := by
          have := Go.heap_alloc_new (wo.alloc (.cells #[.int .i64 2, .int .i64 nn] 39)) (.cells #[.slice none 0 0] 68)
          rw [show (wo.alloc (.cells #[.int .i64 2, .int .i64 nn] 39)).heap.size = wo.heap.size + 1 by simp] at this
          exact this
        have hltb : w.heap.size < wo.heap.size + 1 := by have := hP.tm.lt; omega
        refine (tmReset w.heap.size now u v l _ hPb.tm).mono ?_
        rintro e wz ⟨rfl, t2, f2⟩
        have hP2 : Play w wz (wo.heap.size + 1) (fun _ => false) 0 (.slice none 0 0) [] (.slice none 0 0) [] := by
          refine ⟨t2, ⟨f2.other hPb.tm.row hnew (by decide) (by decide), World.ownsRow_nil _ _ _ _⟩, hltb, hPb.bel.frm f2 (Nat.le_refl _) (fun g hg => Nat.le_of_lt (hPb.tm.row.own g hg).1), List.Perm.refl _, Ids.nil (fun _ _ => rfl), List.Pairwise.nil, fun x hx => (by cases hx)⟩
        clear t2 f2 hnew hltb hPb
        go_wp2_with fail
        obtain ⟨rb2, hrb2⟩ : ∃ r, r = wo.heap.size + 1 := ⟨_, rfl⟩
        rw [← hrb2] at hP2 ⊢
        obtain ⟨u2, now2, v2, l2, rv2, m2, hn2, hP2⟩ : ∃ u2 now2 v2 l2 rv2 m2, now2 ≤ i + 1 ∧ Play w wz rb2 u2 now2 v2 l2 rv2 m2 := ⟨_, _, _, _, _, _, by omega, hP2⟩
        clear hA hP1 r0 r1 hP hrb2
        have hT2 := hP2.tm
        have hfirst := hP2.first
        obtain ⟨hl4, hml⟩ := hP2.le
        have hlt2 := hP2.rf.lt
        have hq0 := hP2.rf.field rfBlk_ok
        have hmli : (m2.length : Int) = l2.length := by omega
        refine (tmNext w.heap.size now2 u2 v2 l2 _ hT2).mono ?_
        rintro e w' ⟨rfl, rfl⟩
        by_cases hl0 : l2.length = 0
        · rw [if_pos hl0]
          have hm0 : m2.length = 0 := by omega
          go_wp2_with fail
          refine (rNext rb2 rv2 m2 _ hP2.rf (by omega)).mono ?_
          rintro e w7 ⟨rfl, b7⟩
          rw [if_pos hm0]
          clear hfirst
          have hP3 := hP2.below b7
          have q7 := (b7.cell (p := ⟨rb2, 0, none⟩) hlt2).trans hq0
          have hlt7 := hP3.rf.lt
          obtain ⟨a7, c7, rfl⟩ := hP2.rf.shape
          have hT3 := hP3.tm
          clear hP2 hT2 hq0 hlt2 b7 hl0 hm0
          go_wp2_with fail
          refine wp_region_later (by kernel_rfl) (by kernel_rfl) ?_
          (repeat (go_big_quiet_step (first | (go_at_call 15; exact Calls.later_same (tmLen _ _ _ _ _ _ (hT3.below (later_below _ _)))))))
          refine wpQuiet_nil ?_
          intro _ hw'
          obtain ⟨x8, hw''⟩ := hw'
          subst hw''
          go_wp2
          go_roundw
          case rel => exact ⟨i + 1, u2, now2, v2, l2, _, m2, by omega, by go_num, by omega, rb2, rfl, hP3.below (later_below _ _)⟩
          case measure => simp [intOf]; omega
        · rw [if_neg hl0]
          have hm0 : ¬ m2.length = 0 := by omega
          go_wp2_with fail
          refine (rNext rb2 rv2 m2 _ hP2.rf (by omega)).mono ?_
          rintro e w7 ⟨rfl, b7⟩
          rw [if_neg hm0, hfirst hl0]
          generalize (atL l2 0).due = dd at *
          clear hfirst
          have hP3 := hP2.below b7
          have q7 := (b7.cell (p := ⟨rb2, 0, none⟩) hlt2).trans hq0
          have hlt7 := hP3.rf.lt
          obtain ⟨a7, c7, rfl⟩ := hP2.rf.shape
          have hT3 := hP3.tm
          clear hP2 hT2 hq0 hlt2 b7 hl0 hm0
          go_wp2_with fail
          refine wp_region_later (by kernel_rfl) (by kernel_rfl) ?_
          (repeat (go_big_quiet_step (first | (go_at_call 15; exact Calls.later_same (tmLen _ _ _ _ _ _ (hT3.below (later_below _ _)))))))
          refine wpQuiet_nil ?_
          intro _ hw'
          obtain ⟨x8, hw''⟩ := hw'
          subst hw''
          go_wp2
          go_roundw
          case rel => exact ⟨i + 1, u2, now2, v2, l2, _, m2, by omega, by go_num, by omega, rb2, rfl, hP3.below (later_below _ _)⟩
          case measure => simp [intOf]; omega
      · go_wp2_with fail
        obtain ⟨wq, hwq, hA', hP1'⟩ : ∃ wq, wq = _ ∧ wq.heap[wo.heap.size]? = _ ∧ Play w wq rb u now v l rv m := ⟨_, rfl, hA, hP1⟩
        rw [← hwq]
        clear hA hP1 hwq
        have hA := hA'
        have hP1 := hP1'
        clear hA' hP1'
        have hPd : Play w wq.drew rb u now v l rv m := hP1.below (Bel.refl wq).drew.1
        have hqa : wq.cell? ⟨wo.heap.size, 1, none⟩ = some (.int .i64 _) := cell_of_row _ _ _ _ _ _ hA
        go_region_held3 (fun w' : World => w'.cell? ⟨wo.heap.size, 1, none⟩ = some (.int .i64 nn)) (first | exact hqa | assumption) (first
          | (go_at_call 14; refine (tmFire w.heap.size now u v l nn wq.drew hPd.tm hPd.ids.rng' (by omega)).mono ?_; rintro e wx ⟨out, xs, l2, v2, rfl, hF, hr, t2, o2, f2⟩; obtain ⟨ao, co, rfl⟩ := ownsRow_shape o2; have s1 : wx.cell? ⟨wo.heap.size, 1, none⟩ = some (.int .i64 nn) := cell_of_row _ _ _ _ _ _ (f2.other hPd.tm.row (show wq.drew.heap[wo.heap.size]? = _ from hA) (by decide) (by decide)))
          | (go_at_call 30; refine (rFire rb rv m xs l2 nn wx (hPd.rf2 f2) (by omega) hPd.armedM ⟨hF.perm.trans hPd.perm, hF.due, hF.sorted, hF.behind⟩ hr).mono ?_; rintro e wz ⟨out, rv3, rfl, r3, o3, f3⟩; obtain ⟨bo, cb, rfl⟩ := ownsRow_shape o3; have o4 := ownsRow_other f3 (hPd.rf2 f2) o2 (by decide) (by decide); have s2 : wz.cell? ⟨wo.heap.size, 1, none⟩ = some (.int .i64 nn) := cell_of_row _ _ _ _ _ _ (f3.other (hPd.rf2 f2) (f2.other hPd.tm.row (show wq.drew.heap[wo.heap.size]? = _ from hA) (by decide) (by decide)) (by decide) (by decide)))
          | (go_at_call 29; refine (intsSame ao bo xs.length xs.length co cb (xs.map trIt.id) wz (ids_at o4) (ids_at o3) (by have := hF.perm.length_eq; rw [List.length_append] at this; omega) (by have := hF.perm.length_eq; rw [List.length_append] at this; omega)).mono ?_; rintro e wy ⟨rfl, by3⟩; have s3 : wy.cell? ⟨wo.heap.size, 1, none⟩ = some (.int .i64 nn) := (by3.cell (p := ⟨wo.heap.size, 1, none⟩) (block_lt_of_cell s2)).trans s2))
        have hP2 := (hPd.fired hF t2 f2 r3 f3).below by3
        clear f3 r3 s1 s2 s3 hqa hPd t2 f2 o2 o3 o4 by3 hr hF
        obtain ⟨wz, rfl⟩ : ∃ wz : World, wz = wy := ⟨_, rfl⟩
        go_wp2_with fail
        obtain ⟨u2, now2, v2, l2, rv2, m2, hn2, hP2⟩ : ∃ u2 now2 v2 l2 rv2 m2, now2 ≤ i + 1 ∧ Play w wz rb u2 now2 v2 l2 rv2 m2 := ⟨_, _, _, _, _, _, by omega, hP2⟩
        clear hA hP1 r0 r1 hP
        obtain ⟨rb2, rfl⟩ : ∃ r, r = rb := ⟨_, rfl⟩
        have hT2 := hP2.tm
        have hfirst := hP2.first
        obtain ⟨hl4, hml⟩ := hP2.le
        have hlt2 := hP2.rf.lt
        have hq0 := hP2.rf.field rfBlk_ok
        have hmli : (m2.length : Int) = l2.length := by omega
        refine (tmNext w.heap.size now2 u2 v2 l2 _ hT2).mono ?_
        rintro e w' ⟨rfl, rfl⟩
        by_cases hl0 : l2.length = 0
        · rw [if_pos hl0]
          have hm0 : m2.length = 0 := by omega
          go_wp2_with fail
          refine (rNext rb2 rv2 m2 _ hP2.rf (by omega)).mono ?_
          rintro e w7 ⟨rfl, b7⟩
          rw [if_pos hm0]
          clear hfirst
          have hP3 := hP2.below b7
          have q7 := (b7.cell (p := ⟨rb2, 0, none⟩) hlt2).trans hq0
          have hlt7 := hP3.rf.lt
          obtain ⟨a7, c7, rfl⟩ := hP2.rf.shape
          have hT3 := hP3.tm
          clear hP2 hT2 hq0 hlt2 b7 hl0 hm0
          go_wp2_with fail
          refine wp_region_later (by kernel_rfl) (by kernel_rfl) ?_
          (repeat (go_big_quiet_step (first | (go_at_call 15; exact Calls.later_same (tmLen _ _ _ _ _ _ (hT3.below (later_below _ _)))))))
          refine wpQuiet_nil ?_
          intro _ hw'
          obtain ⟨x8, hw''⟩ := hw'
          subst hw''
          go_wp2
          go_roundw
          case rel => exact ⟨i + 1, u2, now2, v2, l2, _, m2, by omega, by go_num, by omega, rb2, rfl, hP3.below (later_below _ _)⟩
          case measure => simp [intOf]; omega
        · rw [if_neg hl0]
          have hm0 : ¬ m2.length = 0 := by omega
          go_wp2_with fail
          refine (rNext rb2 rv2 m2 _ hP2.rf (by omega)).mono ?_
          rintro e w7 ⟨rfl, b7⟩
          rw [if_neg hm0, hfirst hl0]
          generalize (atL l2 0).due = dd at *
          clear hfirst
          have hP3 := hP2.below b7
          have q7 := (b7.cell (p := ⟨rb2, 0, none⟩) hlt2).trans hq0
          have hlt7 := hP3.rf.lt
          obtain ⟨a7, c7, rfl⟩ := hP2.rf.shape
          have hT3 := hP3.tm
          clear hP2 hT2 hq0 hlt2 b7 hl0 hm0
          go_wp2_with fail
          refine wp_region_later (by kernel_rfl) (by kernel_rfl) ?_
          (repeat (go_big_quiet_step (first | (go_at_call 15; exact Calls.later_same (tmLen _ _ _ _ _ _ (hT3.below (later_below _ _)))))))
          refine wpQuiet_nil ?_
          intro _ hw'
          obtain ⟨x8, hw''⟩ := hw'
          subst hw''
          go_wp2
          go_roundw
          case rel => exact ⟨i + 1, u2, now2, v2, l2, _, m2, by omega, by go_num, by omega, rb2, rfl, hP3.below (later_below _ _)⟩
          case measure => simp [intOf]; omega
    · go_wp2_with fail
      all_goals
        refine (awake29 _).mono ?_
        rintro e w7 ⟨rfl, b7⟩
        go_wp2
        go_ret
        exact ⟨rfl, (hP.bel.of b7).1⟩
end Go.Proofs.Ytjlhdbkhebfghaa
