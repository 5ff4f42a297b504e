/- container/heap over a row: Push, Pop, Remove. -/
import Derived.Test.YtjlhdbkhebfghaaHdnI
import Derived.Test.YtjlhdbkhebfghaaHeap2
namespace Go.Proofs.Ytjlhdbkhebfghaa
open Go.ChangeShapes Go.WideShapes Go.ChangeAt Go.RowKit
set_option linter.unusedVariables false
variable {o : Nat}

set_option maxRecDepth 20000 in
theorem inHPush (b : Nat) (blk : Value → Array Value) (v : Value) (l : List inIt) (x : inIt) (w : World) (hb : BlkOk blk o) (h : inRow w b blk v l) (hh : HeapN inLt l l.length) (hn : l.length < 1000000) :
    Calls Try.prog 34 #[.iface 86 (.pointer (some ⟨b, o, none⟩)), inVal x] w fun e w' => e = .returned (.tuple #[]) ∧ ∃ v' l', inRow w' b blk v' l' ∧ HeapN inLt l' l'.length ∧ l'.Perm (l ++ [x]) ∧ Frm b v v' w w' := by
  have hm1 : ∀ w' : World, (method 219 86 (.pointer (some ⟨b, o, none⟩)) "Push").run Try.prog w' = .ok (68, .pointer (some ⟨b, o, none⟩)) w' := fun _ => by kernel_rfl
  have hm2 : ∀ w' : World, (method 219 86 (.pointer (some ⟨b, o, none⟩)) "Len").run Try.prog w' = .ok (40, .pointer (some ⟨b, o, none⟩)) w' := fun _ => by kernel_rfl
  obtain ⟨n, hln⟩ : ∃ n, l.length = n := ⟨_, rfl⟩
  obtain ⟨p1, p2, p3⟩ := push_heap inLt_ordered hln x (by rw [← hln]; exact hh)
  go_enter Try.func34, Try.ntmps34
  go_wp2_with fail
  refine (inPush b blk v l x _ hb h (by omega)).mono ?_
  rintro e w1 ⟨rfl, v1, h1, f1⟩
  have hl1 : (l ++ [x]).length = n + 1 := by simp [hln]
  have hi : ((l ++ [x]).length : Int) = n + 1 := by omega
  go_wp2_with fail
  refine (inLen b blk v1 _ _ hb h1).mono ?_
  rintro e w2 ⟨rfl, rfl⟩
  rw [hi]
  go_wp2_with fail
  refine (inUp b blk v1 _ n _ hb h1 (by omega) (by omega)).mono ?_
  rintro e w3 ⟨rfl, h3, f3⟩
  go_wp2
  go_end0
  exact ⟨rfl, v1, _, h3, by rw [p3]; exact p1, p2, f1.trans f3⟩

set_option maxRecDepth 20000 in
theorem inHPop (b : Nat) (blk : Value → Array Value) (v : Value) (l : List inIt) (n : Nat) (w : World) (hb : BlkOk blk o) (h : inRow w b blk v l) (hl : l.length = n + 1) (hh : HeapN inLt l l.length) (hn : l.length ≤ 1000000) :
    Calls Try.prog 36 #[.iface 86 (.pointer (some ⟨b, o, none⟩))] w fun e w' => e = .returned (inVal (atL l 0)) ∧ ∃ v' l', inRow w' b blk v' l' ∧ HeapN inLt l' l'.length ∧ l'.length = n ∧ (atL l 0 :: l').Perm l ∧ Frm b v v' w w' := by
  have hm1 : ∀ w' : World, (method 219 86 (.pointer (some ⟨b, o, none⟩)) "Pop").run Try.prog w' = .ok (67, .pointer (some ⟨b, o, none⟩)) w' := fun _ => by kernel_rfl
  have hm2 : ∀ w' : World, (method 219 86 (.pointer (some ⟨b, o, none⟩)) "Len").run Try.prog w' = .ok (40, .pointer (some ⟨b, o, none⟩)) w' := fun _ => by kernel_rfl
  have hm3 : ∀ w' : World, (method 219 86 (.pointer (some ⟨b, o, none⟩)) "Swap").run Try.prog w' = .ok (69, .pointer (some ⟨b, o, none⟩)) w' := fun _ => by kernel_rfl
  rw [hl] at hh
  obtain ⟨p1, p2, p3⟩ := pop_heap inLt_ordered hl hh
  have hi : (l.length : Int) = n + 1 := by omega
  have hs : (swapL l 0 n).length = n + 1 := by rw [swapL_length]; exact hl
  have hd : (downL inLt n n (swapL l 0 n) 0).1.length = n + 1 := by rw [downL_length]; exact hs
  have ht : ((downL inLt n n (swapL l 0 n) 0).1.take n).length = n := by rw [List.length_take]; omega
  go_enter Try.func36, Try.ntmps36
  go_wp2_with fail
  refine (inLen b blk v _ _ hb h).mono ?_
  rintro e w1 ⟨rfl, rfl⟩
  rw [hi]
  go_wp2_with fail
  refine (inSwap b blk v l 0 n _ hb h (by omega) (by omega)).mono ?_
  rintro e w2 ⟨rfl, h2, f2⟩
  go_wp2_with fail
  refine (inDown b blk v _ 0 n _ hb h2 (by omega) (by omega) (by omega)).mono ?_
  rintro e w3 ⟨rfl, h3, f3⟩
  go_wp2_with fail
  refine (inPop b blk v _ n _ hb h3 hd).mono ?_
  rintro e w4 ⟨rfl, v4, h4, f4⟩
  go_wp2
  go_ret
  exact ⟨by first | rfl | rw [p2], v4, _, h4, by rw [ht]; exact p1, ht, p3, (f2.trans f3).trans f4⟩

set_option maxRecDepth 20000 in
set_option maxHeartbeats 1000000 in
theorem inHRem (b : Nat) (blk : Value → Array Value) (v : Value) (l : List inIt) (n i : Nat) (w : World) (hb : BlkOk blk o) (h : inRow w b blk v l) (hl : l.length = n + 1) (hi : i ≤ n) (hh : HeapN inLt l l.length) (hn : l.length ≤ 1000000) :
    Calls Try.prog 37 #[.iface 86 (.pointer (some ⟨b, o, none⟩)), .int .i64 i] w fun e w' => e = .returned (inVal (atL l i)) ∧ ∃ v' l', inRow w' b blk v' l' ∧ HeapN inLt l' l'.length ∧ l'.length = n ∧ (atL l i :: l').Perm l ∧ Frm b v v' w w' := by
  have hm1 : ∀ w' : World, (method 219 86 (.pointer (some ⟨b, o, none⟩)) "Pop").run Try.prog w' = .ok (67, .pointer (some ⟨b, o, none⟩)) w' := fun _ => by kernel_rfl
  have hm2 : ∀ w' : World, (method 219 86 (.pointer (some ⟨b, o, none⟩)) "Len").run Try.prog w' = .ok (40, .pointer (some ⟨b, o, none⟩)) w' := fun _ => by kernel_rfl
  have hm3 : ∀ w' : World, (method 219 86 (.pointer (some ⟨b, o, none⟩)) "Swap").run Try.prog w' = .ok (69, .pointer (some ⟨b, o, none⟩)) w' := fun _ => by kernel_rfl
  rw [hl] at hh
  obtain ⟨p1, p2, p3, p4⟩ := remove_heap inLt_ordered hl hi hh
  have hli : (l.length : Int) = n + 1 := by omega
  have ht : ((remL inLt n l i).take n).length = n := by rw [List.length_take]; omega
  have hs : (swapL l i n).length = n + 1 := by rw [swapL_length]; exact hl
  have hdl : (downL inLt n n (swapL l i n) i).1.length = n + 1 := by rw [downL_length]; exact hs
  have P1 := Lib.hid p1
  have P2 := Lib.hid p2
  have P3 := Lib.hid p3
  have P4 := Lib.hid p4
  have HT := Lib.hid ht
  clear p1 p2 p3 p4 hh ht
  by_cases hin : n = i
  · subst hin
    have hrm : l = remL inLt n l n := by unfold remL; rw [if_pos rfl]
    have h' := h
    rw [hrm] at h'
    have HR := Lib.hid hrm
    clear hrm hdl hs
    go_enter Try.func37, Try.ntmps37
    go_wp2_with fail
    refine (inLen b blk v _ _ hb h).mono ?_
    rintro e w1 ⟨rfl, rfl⟩
    rw [hli]
    go_wp2_with fail
    refine (inPop b blk v _ n _ hb h' P2.out).mono ?_
    rintro e w4 ⟨rfl, v4, h4, f4⟩
    go_wp2
    go_ret
    exact ⟨by rw [P3.out]; rfl, v4, _, h4, by rw [HT.out]; exact P1.out, HT.out, P4.out, f4⟩
  · have hin' : ¬ (n : Int) = i := by omega
    have hin2 : ¬ i = n := by omega
    by_cases hmv : i < (downL inLt n n (swapL l i n) i).2
    · have hrm : (downL inLt n n (swapL l i n) i).1 = remL inLt n l i := by unfold remL; rw [if_neg hin, if_pos hmv]
      have HR := Lib.hid hrm
      have HM := Lib.hid hmv
      clear hrm hmv
      go_enter Try.func37, Try.ntmps37
      go_wp2_with fail
      refine (inLen b blk v _ _ hb h).mono ?_
      rintro e w1 ⟨rfl, rfl⟩
      rw [hli]
      go_wp2_with fail
      refine (inSwap b blk v l i n _ hb h (by omega) (by omega)).mono ?_
      rintro e w2 ⟨rfl, h2, f2⟩
      go_wp2_with fail
      refine (inDown b blk v _ i n _ hb h2 (by omega) (by omega) (by omega)).mono ?_
      rintro e w3 ⟨rfl, h3, f3⟩
      rw [show decide (i < (downL inLt n n (swapL l i n) i).2) = true by simpa using HM.out]
      rw [HR.out] at h3
      go_wp2_with fail
      refine (inPop b blk v _ n _ hb h3 P2.out).mono ?_
      rintro e w4 ⟨rfl, v4, h4, f4⟩
      go_wp2
      go_ret
      exact ⟨by rw [P3.out]; rfl, v4, _, h4, by rw [HT.out]; exact P1.out, HT.out, P4.out, (f2.trans f3).trans f4⟩
    · have hrm : upL inLt i (downL inLt n n (swapL l i n) i).1 i = remL inLt n l i := by unfold remL; rw [if_neg hin, if_neg hmv]
      have HR := Lib.hid hrm
      have HM := Lib.hid hmv
      clear hrm hmv
      go_enter Try.func37, Try.ntmps37
      go_wp2_with fail
      refine (inLen b blk v _ _ hb h).mono ?_
      rintro e w1 ⟨rfl, rfl⟩
      rw [hli]
      go_wp2_with fail
      refine (inSwap b blk v l i n _ hb h (by omega) (by omega)).mono ?_
      rintro e w2 ⟨rfl, h2, f2⟩
      go_wp2_with fail
      refine (inDown b blk v _ i n _ hb h2 (by omega) (by omega) (by omega)).mono ?_
      rintro e w3 ⟨rfl, h3, f3⟩
      rw [show decide (i < (downL inLt n n (swapL l i n) i).2) = false by simpa using HM.out]
      go_wp2_with fail
      refine (inUp b blk v _ i _ hb h3 (by omega) (by omega)).mono ?_
      rintro e w3b ⟨rfl, h3b, f3b⟩
      rw [HR.out] at h3b
      go_wp2_with fail
      refine (inPop b blk v _ n _ hb h3b P2.out).mono ?_
      rintro e w4 ⟨rfl, v4, h4, f4⟩
      go_wp2
      go_ret
      exact ⟨by rw [P3.out]; rfl, v4, _, h4, by rw [HT.out]; exact P1.out, HT.out, P4.out, ((f2.trans f3).trans f3b).trans f4⟩
end Go.Proofs.Ytjlhdbkhebfghaa
