/- container/heap over a row: down. -/
import Derived.Test.YtgcnmhlojfncpaaHupP
namespace Go.Proofs.Ytgcnmhlojfncpaa
open Go.ChangeShapes Go.WideShapes Go.ChangeAt Go.RowKit
set_option linter.unusedVariables false
variable {o : Nat}

set_option maxRecDepth 20000 in
set_option maxHeartbeats 1000000 in
theorem plDown (b : Nat) (blk : Value → Array Value) (v : Value) (l : List plIt) (i m : Nat) (w : World) (hb : BlkOk blk o) (h : plRow w b blk v l) (hi : i < l.length) (hm : m ≤ l.length) (hn : l.length ≤ 1000000) :
    Calls Try.prog 42 #[.iface 72 (.pointer (some ⟨b, o, none⟩)), .int .i64 i, .int .i64 m] w fun e w' => e = .returned (.bool (decide (i < (downL plLt m m l i).2))) ∧ plRow w' b blk v (downL plLt m m l i).1 ∧ Frm b v v w w' := by
  go_enter Try.func42, Try.ntmps42
  go_wp2
  go_loopw [7] (fun x wr => ∃ (k : Nat) (l' : List plIt) (f : Nat), x = .int .i64 k ∧ m ≤ f + k ∧ downL plLt m f l' k = downL plLt m m l i ∧ k < l.length ∧ l'.length = l.length ∧ plRow wr b blk v l' ∧ Frm b v v w wr) (fun x _ => m - (intOf x).toNat)
  case atStart => exact ⟨i, l, m, rfl, by omega, rfl, hi, rfl, h, Frm.refl _ _ _⟩
  case round =>
    obtain ⟨k, l', f, rfl, hf, hu, hk, hl', hr, hF⟩ := hrel
    have hmL : ∀ w' : World, (method 210 72 (.pointer (some ⟨b, o, none⟩)) "Less").run Try.prog w' = .ok (64, .pointer (some ⟨b, o, none⟩)) w' := fun _ => by kernel_rfl
    have hmS : ∀ w' : World, (method 210 72 (.pointer (some ⟨b, o, none⟩)) "Swap").run Try.prog w' = .ok (67, .pointer (some ⟨b, o, none⟩)) w' := fun _ => by kernel_rfl
    obtain ⟨q1, hq1⟩ : ∃ q1, q1 = 2 * k + 1 := ⟨_, rfl⟩
    obtain ⟨q2, hq2⟩ : ∃ q2, q2 = 2 * k + 2 := ⟨_, rfl⟩
    have i1 : 2 * (k : Int) + 1 = (q1 : Int) := by omega
    have i2 : (q1 : Int) + 1 = (q2 : Int) := by omega
    have b1 : q1 ≤ 3000000 := by omega
    have b2 : q2 ≤ 3000000 := by omega
    have kq1 : k < q1 := by omega
    have kq2 : k < q2 := by omega
    have h1 := Lib.hid hq1
    have h2 := Lib.hid hq2
    clear hq1 hq2
    by_cases hend : m ≤ q1
    · have hd : downL plLt m m l i = (l', k) := by
        rw [← hu]
        have := h1.out
        cases f with
        | zero => rfl
        | succ f => simp only [downL]; rw [if_pos (by omega)]
      clear hu
      go_wp2_with fail
      go_ret
      refine ⟨by rw [hd]; simp, by rw [hd]; exact hr, hF⟩
    · obtain ⟨f, rfl⟩ : ∃ f', f = f' + 1 := ⟨f - 1, by have := h1.out; omega⟩
      have hne : ¬ m ≤ 2 * k + 1 := by rw [← h1.out]; exact hend
      have hq1m : q1 < m := by omega
      by_cases h2m : q2 < m
      · cases hc : plLt (atL l' q2) (atL l' q1)
        · have hkid : kid plLt m l' k = q1 := by simp only [kid]; rw [← h2.out, ← h1.out, if_neg (by simp [hc])]
          cases ht : plLt (atL l' q1) (atL l' k)
          · have hd : downL plLt m m l i = (l', k) := by
              rw [← hu, downL, if_neg hne, hkid, if_neg (by simp [ht])]
            clear hne hu hkid
            go_wp2_with fail
            refine (plLess b blk v l' q2 q1 _ hb hr (by omega) (by omega)).mono ?_
            rintro e w1 ⟨rfl, hb1⟩
            rw [hc]
            go_wp2_with fail
            refine (plLess b blk v l' q1 k _ hb (hr.below hb1) (by omega) (by omega)).mono ?_
            rintro e w2 ⟨rfl, hb2⟩
            rw [ht]
            go_wp2_with fail
            go_ret
            refine ⟨by rw [hd]; simp, by rw [hd]; exact (hr.below hb1).below hb2, (hF.trans (.of_below hb1)).trans (.of_below hb2)⟩
          · have hd : downL plLt m f (swapL l' k q1) q1 = downL plLt m m l i := by
              rw [← hu, downL, if_neg hne, hkid, if_pos (by simp [ht])]
            clear hne hu hkid
            go_wp2_with fail
            refine (plLess b blk v l' q2 q1 _ hb hr (by omega) (by omega)).mono ?_
            rintro e w1 ⟨rfl, hb1⟩
            rw [hc]
            go_wp2_with fail
            refine (plLess b blk v l' q1 k _ hb (hr.below hb1) (by omega) (by omega)).mono ?_
            rintro e w2 ⟨rfl, hb2⟩
            rw [ht]
            have hr2 := (hr.below hb1).below hb2
            go_wp2_with fail
            refine (plSwap b blk v l' k q1 _ hb hr2 (by omega) (by omega)).mono ?_
            rintro e w3 ⟨rfl, hr3, hF3⟩
            go_wp2
            go_roundw
            case rel => exact ⟨q1, _, f, rfl, by omega, hd, by omega, (swapL_length _ _ _).trans hl', hr3, ((hF.trans (.of_below hb1)).trans (.of_below hb2)).trans hF3⟩
            case measure => simp [intOf]; omega
        · have hkid : kid plLt m l' k = q2 := by simp only [kid]; rw [← h2.out, ← h1.out, if_pos ⟨h2m, hc⟩]
          cases ht : plLt (atL l' q2) (atL l' k)
          · have hd : downL plLt m m l i = (l', k) := by
              rw [← hu, downL, if_neg hne, hkid, if_neg (by simp [ht])]
            clear hne hu hkid
            go_wp2_with fail
            refine (plLess b blk v l' q2 q1 _ hb hr (by omega) (by omega)).mono ?_
            rintro e w1 ⟨rfl, hb1⟩
            rw [hc]
            go_wp2_with fail
            refine (plLess b blk v l' q2 k _ hb (hr.below hb1) (by omega) (by omega)).mono ?_
            rintro e w2 ⟨rfl, hb2⟩
            rw [ht]
            go_wp2_with fail
            go_ret
            refine ⟨by rw [hd]; simp, by rw [hd]; exact (hr.below hb1).below hb2, (hF.trans (.of_below hb1)).trans (.of_below hb2)⟩
          · have hd : downL plLt m f (swapL l' k q2) q2 = downL plLt m m l i := by
              rw [← hu, downL, if_neg hne, hkid, if_pos (by simp [ht])]
            clear hne hu hkid
            go_wp2_with fail
            refine (plLess b blk v l' q2 q1 _ hb hr (by omega) (by omega)).mono ?_
            rintro e w1 ⟨rfl, hb1⟩
            rw [hc]
            go_wp2_with fail
            refine (plLess b blk v l' q2 k _ hb (hr.below hb1) (by omega) (by omega)).mono ?_
            rintro e w2 ⟨rfl, hb2⟩
            rw [ht]
            have hr2 := (hr.below hb1).below hb2
            go_wp2_with fail
            refine (plSwap b blk v l' k q2 _ hb hr2 (by omega) (by omega)).mono ?_
            rintro e w3 ⟨rfl, hr3, hF3⟩
            go_wp2
            go_roundw
            case rel => exact ⟨q2, _, f, rfl, by omega, hd, by omega, (swapL_length _ _ _).trans hl', hr3, ((hF.trans (.of_below hb1)).trans (.of_below hb2)).trans hF3⟩
            case measure => simp [intOf]; omega
      · have hkid : kid plLt m l' k = q1 := by simp only [kid]; rw [← h2.out, ← h1.out, if_neg (by simp [h2m])]
        cases ht : plLt (atL l' q1) (atL l' k)
        · have hd : downL plLt m m l i = (l', k) := by
            rw [← hu, downL, if_neg hne, hkid, if_neg (by simp [ht])]
          clear hne hu hkid
          go_wp2_with fail
          refine (plLess b blk v l' q1 k _ hb hr (by omega) (by omega)).mono ?_
          rintro e w2 ⟨rfl, hb2⟩
          rw [ht]
          go_wp2_with fail
          go_ret
          refine ⟨by rw [hd]; simp, by rw [hd]; exact hr.below hb2, hF.trans (.of_below hb2)⟩
        · have hd : downL plLt m f (swapL l' k q1) q1 = downL plLt m m l i := by
            rw [← hu, downL, if_neg hne, hkid, if_pos (by simp [ht])]
          clear hne hu hkid
          go_wp2_with fail
          refine (plLess b blk v l' q1 k _ hb hr (by omega) (by omega)).mono ?_
          rintro e w2 ⟨rfl, hb2⟩
          rw [ht]
          have hr2 := hr.below hb2
          go_wp2_with fail
          refine (plSwap b blk v l' k q1 _ hb hr2 (by omega) (by omega)).mono ?_
          rintro e w3 ⟨rfl, hr3, hF3⟩
          go_wp2
          go_roundw
          case rel => exact ⟨q1, _, f, rfl, by omega, hd, by omega, (swapL_length _ _ _).trans hl', hr3, (hF.trans (.of_below hb2)).trans hF3⟩
          case measure => simp [intOf]; omega
end Go.Proofs.Ytgcnmhlojfncpaa
