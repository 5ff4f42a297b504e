/- law 19: ShadowDrops. -/
import Derived.Test.YthppjkpejnaocaaShV
namespace Go.Proofs.Ythppjkpejnaocaa
open Go.ChangeShapes Go.WideShapes Go.ChangeAt Go.RowKit
set_option linter.unusedVariables false

set_option maxRecDepth 100000 in
set_option maxHeartbeats 8000000 in
theorem shadowDrops_walk (p0 : Option Addr) (n0 c0 : Nat) (f0 : Nat → List Value) (a1 : Int) (w : World) (w0 : SliceOk [some .i64, some .i64, some .i64, some .i64, some .i64, some .i64, some .i64, some .i64] w p0 n0 c0 f0) (hR0 : c0 * 64 ≤ 140737488351232) (w1 : (Lit.int .u8 a1).wf = true) :
    Calls Try.prog 4 #[.slice p0 n0 c0, .int .u8 a1] w fun e w' => e = .returned (.bool true) ∧ Below w.heap.size w w' := by
  clear hR0
  have hm0 : n0 ≤ 9223372036854775807 := Nat.le_trans w0.1 w0.2.1
  obtain ⟨hq0, hq1⟩ := bounds_u8 w1
  clear w1
  obtain ⟨P, hP8⟩ : ∃ P : Int, a1 % 8 = P := ⟨_, rfl⟩
  have hPa : 0 ≤ P ∧ P < 8 := by omega
  obtain ⟨hPa0, hPa1⟩ := hPa
  go_enter Try.func4, Try.ntmps4
  go_wp2_with fail
  refine (sh_new _).mono ?_
  rintro e w1 ⟨rfl, h1, b1, _⟩
  have hB1 : Bel w.heap.size w w1 := Bel.of (Bel.refl w) b1
  obtain ⟨b, hb⟩ : ∃ b, w.heap.size = b := ⟨_, rfl⟩
  rw [hb] at h1
  go_wp2_with fail
  go_loopw [6] (fun iv wr => ∃ (i : Nat) (v : Value) (l : List ln), i ≤ 60 ∧ iv = .int .i64 i ∧ ShIn wr b v l ∧ PInv l ∧ Bel w.heap.size w wr) (fun iv _ => 60 - (intOf iv).toNat)
  case atStart => exact ⟨0, _, [], Nat.zero_le _, rfl, h1, PInv.nil, hB1⟩
  case round =>
    clear h1 hB1 b1
    obtain ⟨i, v, l, hi, rfl, hr, hP, hB⟩ := hrel
    by_cases hall : i < n0 ∧ i < 60
    · obtain ⟨i0, i100⟩ := hall
      obtain ⟨b1, o1, a, rfl, hA⟩ := acts_at w0 i0
      have hA2 := hA.below hB.1 (Nat.le_refl _)
      clear w0 hA
      have r0 := hA2.c0
      have r1 := hA2.c1
      have r2 := hA2.c2
      have r3 := hA2.c3
      have r4 := hA2.c4
      have r5 := hA2.c5
      have r6 := hA2.c6
      have r7 := hA2.c7
      have hd := sh_does a wr hr hP.1
      unfold actV at hd
      have hP2 := hP.act a
      obtain ⟨kd, ⟨k0, k1, e0, e1, e2, rt, lf⟩⟩ := a
      clear hA2
      go_wp2_with fail
      refine hd.mono ?_
      rintro e w2 ⟨u1, u2, v2, rfl, _, h2, f2⟩
      have hB2 := hB.frm f2 (Nat.le_of_eq hb) (fun g hg => by have := (hr.own g hg).1; omega)
      generalize doL l ⟨kd, ⟨k0, k1, e0, e1, e2, rt, lf⟩⟩ = l2 at *
      clear hd r0 r1 r2 r3 r4 r5 r6 r7 hr hP f2 hB
      go_wp2
      go_roundw
      case rel => exact ⟨i + 1, v2, l2, by omega, by go_num, h2, hP2, hB2⟩
      case measure => simp [intOf]; omega
    · have hcase : ¬ i < n0 ∨ (i < n0 ∧ ¬ i < 60) := by omega
      have hl := hP.1
      clear hall w0 hP
      rcases hcase with hc | ⟨hc1, hc⟩
      all_goals
        go_wp2_with fail
        refine (sh_list _ hr (by omega)).mono ?_
        rintro e w2 ⟨u, rfl, hold, b2⟩
        obtain ⟨oa, oc, rfl⟩ := ownsRow_shape hold
        have hr2 := hr.below b2
        have hB2 := hB.of b2
        clear b2 hr hB
        go_wp2_with fail
        refine (sh_wrote P _ hr2 (by omega)).mono ?_
        rintro e w3 ⟨u, rfl, v3, hk, hr3, f3⟩
        have hold3 := ownsRow_other f3 hr2 hold (by decide) (by decide)
        obtain ⟨ka, kc, rfl⟩ := ownsRow_shape hk
        have hB3 := hB2.frm f3 (Nat.le_of_eq hb) (fun g hg => by have := (hr2.own g hg).1; omega)
        clear hold hk f3 hr2 hB2
        have hsp := len_split (thrB P) l
        have hln : ∀ x ∈ l.filter fun x => !thrB P x, x ∈ l := fun x hx => (List.mem_filter.1 hx).1
        have ht3 := table_wrote l P
        have hn3 := none_wrote l P
        have hs3 := some_wrote l P
        generalize (l.filter (thrB P)).length = nk at *
        generalize (l.filter fun x => !thrB P x) = l3 at *
        go_wp2_with fail
        refine (sh_list _ hr3 (by omega)).mono ?_
        rintro e w4 ⟨u, rfl, hnow, b4⟩
        obtain ⟨na, nc, rfl⟩ := ownsRow_shape hnow
        have hr4 := hr3.below b4
        have hB4 := hB3.of b4
        have hold4 := ownsRow_below hold3 b4
        clear b4 hr3 hB3 hold3
        have hT4 := sh_table P w4 hr4 (by omega)
        rw [ht3] at hT4
        go_wp2_with fail
        refine hT4.mono ?_
        rintro e w5 ⟨rfl, rfl⟩
        clear hT4
        have hsum : ((l3.length : Int) + (nk : Int)) = (l.length : Int) := by omega
        go_wp2_with fail
        refine (sh_wrote P _ hr4 (by omega)).mono ?_
        rintro e w6 ⟨u, rfl, v6, hk, hr6, f6⟩
        rw [hn3] at hk
        rw [hs3] at hr6
        have hold6 := ownsRow_other f6 hr4 hold4 (by decide) (by decide)
        have hnow6 := ownsRow_other f6 hr4 hnow (by decide) (by decide)
        obtain ⟨ka2, kc2, rfl⟩ := ownsRow_shape hk
        have hB6 := hB4.frm f6 (Nat.le_of_eq hb) (fun g hg => by have := (hr4.own g hg).1; omega)
        clear hold4 hk f6 hr4 hB4 hnow ht3 hn3 hs3 hsum
        obtain ⟨_, _, eo, _, _, hio, _⟩ := items_of_owned kpEnc_length hold6
        obtain ⟨_, _, en, _, _, hin, _⟩ := items_of_owned kpEnc_length hnow6
        simp only [Value.slice.injEq, true_and] at eo en
        obtain ⟨rfl, rfl⟩ := eo
        obtain ⟨rfl, rfl⟩ := en
        clear hold6 hnow6
        have hl3 : l3.length ≤ 32 := by omega
        have HLN := Lib.hid hln
        clear hln
        go_wp2_with fail
        go_loopw [11] (fun iv wr => ∃ i : Nat, i ≤ l3.length ∧ iv = .int .i64 i ∧ Below w6.heap.size w6 wr) (fun iv _ => l3.length - (intOf iv).toNat)
        case atStart => exact ⟨0, Nat.zero_le _, rfl, Below.refl _ _⟩
        case round =>
          obtain ⟨i2, hi2, rfl, hb2⟩ := hrel
          by_cases hil : i2 < l3.length
          · go_wp2_with fail
            go_loopw [12, 13] (fun ov jv wr => ∃ (j : Nat) (ob : Bool), j ≤ l.length ∧ ov = .bool ob ∧ jv = .int .i64 j ∧ Hid (ob = (l.take j).any fun x => kpB x (atL l3 i2)) ∧ Below w6.heap.size w6 wr) (fun _ jv _ => l.length - (intOf jv).toNat)
            case atStart => exact ⟨0, false, Nat.zero_le _, rfl, rfl, Lib.hid rfl, hb2⟩
            case round =>
              clear hb2
              obtain ⟨j, ob, hj, rfl, rfl, HO, hb3⟩ := hrel
              have hin3 := hin.below hb3
              have hio3 := hio.below hb3
              by_cases hjl : j < l.length
              · obtain ⟨g, o, rfl, hg, hc1⟩ := hio3.2 (by omega)
                obtain ⟨g', o', rfl, hg', hc2⟩ := hin3.2 (by omega)
                have d0 := hc1 j hjl 0 (by omega)
                have d1 := hc1 j hjl 1 (by omega)
                have d2 := hc1 j hjl 2 (by omega)
                have d3 := hc1 j hjl 3 (by omega)
                have d4 := hc1 j hjl 4 (by omega)
                have y0 := hc2 i2 hil 0 (by omega)
                have y1 := hc2 i2 hil 1 (by omega)
                have y2 := hc2 i2 hil 2 (by omega)
                have y3 := hc2 i2 hil 3 (by omega)
                have y4 := hc2 i2 hil 4 (by omega)
                simp only [kpEnc, List.getElem?_cons_succ, List.getElem?_cons_zero, Nat.add_zero] at d0 d1 d2 d3 d4 y0 y1 y2 y3 y4
                have hsu : ((l.take (j + 1)).any fun x => kpB x (atL l3 i2)) = (((l.take j).any fun x => kpB x (atL l3 i2)) || kpB (atL l j) (atL l3 i2)) := by
                  rw [take_succ_atL hjl, List.any_append]
                  simp
                have HSU := Lib.hid hsu
                clear hsu hc1 hc2 hin hio hin3 hio3
                have hkp : kp10 (atL l j).kr (atL l j).kp (atL l j).ep (atL l j).ef (atL l j).er (atL l3 i2).kr (atL l3 i2).kp (atL l3 i2).ep (atL l3 i2).ef (atL l3 i2).er = kpB (atL l j) (atL l3 i2) := rfl
                generalize kpB (atL l j) (atL l3 i2) = X at *
                cases ob
                all_goals
                  go_wp2_with fail
                  refine wp_region_later (by kernel_rfl) (by kernel_rfl) ?_
                  repeat (first | go_big_quiet_step (first | fail))
                  refine wpQuiet_nil ?_
                  intro w9 hw'
                  have hb9 : Below wr.heap.size wr w9 := by
                    obtain ⟨x9, hw''⟩ := hw'
                    subst hw''
                    exact later_below wr x9
                  clear hw'
                  have HOUT := HO.out
                  clear HO
                  go_wp2_with fail
                  go_roundw
                  case rel => exact ⟨j + 1, _, by omega, rfl, by go_num, Lib.hid (by rw [HSU.out, ← HOUT]; simp), hb3.trans (hb9.mono hb3.size)⟩
                  case measure => simp [intOf]; omega
              · obtain rfl : j = l.length := by omega
                have hob : ob = true := by
                  rw [HO.out, List.take_length, List.any_eq_true]
                  exact ⟨_, HLN.out _ (mem_atL hil), kpB_refl _⟩
                subst hob
                clear HO hio hin hio3 hin3
                go_wp2
                go_roundw
                case rel => exact ⟨i2 + 1, by omega, by go_num, hb3⟩
                case measure => simp [intOf]; omega
          · obtain rfl : i2 = l3.length := by omega
            have hr7 := hr6.below hb2
            have hB7 := hB6.of hb2
            clear hio hin hr6 hB6 hb2
            go_wp2_with fail
            refine (sh_gone P _ hr7 (by omega)).mono ?_
            rintro e w8 ⟨u, rfl, v8, hk, hr8, f8⟩
            have hB8 := hB7.frm f8 (Nat.le_of_eq hb) (fun g hg => by have := (hr7.own g hg).1; omega)
            have hl8 : (l3.filter fun x => !goneB P x).length ≤ 32 := Nat.le_trans (List.length_filter_le _ _) hl3
            have hep : ∀ x ∈ l3.filter fun x => !goneB P x, (x.ep == P) = false := fun x hx => ep_gone hx
            have ht8 := table_gone l3 P
            generalize (l3.filter fun x => !goneB P x) = l8 at *
            clear hk f8 hr7 hB7
            go_wp2_with fail
            refine (sh_list _ hr8 (by omega)).mono ?_
            rintro e w9 ⟨u, rfl, hown, b9⟩
            obtain ⟨ua, uc, rfl, _, _, hit, _⟩ := items_of_owned kpEnc_length hown
            have hr9 := hr8.below b9
            have hB9 := hB8.of b9
            clear hown b9 hr8 hB8
            go_wp2_with fail
            go_loopw [15] (fun iv wr => ∃ i : Nat, i ≤ l8.length ∧ iv = .int .i64 i ∧ wr = w9) (fun iv _ => l8.length - (intOf iv).toNat)
            case atStart => exact ⟨0, Nat.zero_le _, rfl, rfl⟩
            case round =>
              obtain ⟨i3, hi3, rfl, rfl⟩ := hrel
              by_cases hil3 : i3 < l8.length
              · obtain ⟨g, o, rfl, hg, hc1⟩ := hit.2 (by omega)
                have d2 := hc1 i3 hil3 2 (by omega)
                simp only [kpEnc, List.getElem?_cons_succ, List.getElem?_cons_zero] at d2
                have hne := hep _ (mem_atL hil3)
                clear hc1 hit
                go_wp2
                go_roundw
                case rel => exact ⟨i3 + 1, by omega, by go_num, by trivial⟩
                case measure => simp [intOf]; omega
              · obtain rfl : i3 = l8.length := by omega
                have hT9 := sh_table P wr hr9 (by omega)
                rw [ht8] at hT9
                clear hit
                go_wp2_with fail
                refine hT9.mono ?_
                rintro e w10 ⟨rfl, rfl⟩
                go_wp2_with fail
                refine (awake19 _).mono ?_
                rintro e w11 ⟨rfl, b11⟩
                have hBb := hB9.of b11
                go_wp2
                go_ret
                exact ⟨rfl, hBb.1⟩
end Go.Proofs.Ythppjkpejnaocaa
