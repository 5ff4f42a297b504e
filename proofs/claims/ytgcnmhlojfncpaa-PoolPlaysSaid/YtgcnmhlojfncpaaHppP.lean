/- container/heap over a row: Push, Pop, Remove. -/
import Derived.Test.YtgcnmhlojfncpaaHdnP
import Derived.Test.YtgcnmhlojfncpaaHeap2
namespace Go.Proofs.Ytgcnmhlojfncpaa
open Go.ChangeShapes Go.WideShapes Go.ChangeAt Go.RowKit
set_option linter.unusedVariables false
variable {o : Nat}

set_option maxRecDepth 20000 in
theorem plHPush (b : Nat) (blk : Value → Array Value) (v : Value) (l : List plIt) (x : plIt) (w : World) (hb : BlkOk blk o) (h : plRow w b blk v l) (hh : HeapN plLt l l.length) (hn : l.length < 1000000) :
    Calls Try.prog 40 #[.iface 72 (.pointer (some ⟨b, o, none⟩)), plVal x] w fun e w' => e = .returned (.tuple #[]) ∧ ∃ v' l', plRow w' b blk v' l' ∧ HeapN plLt l' l'.length ∧ l'.Perm (l ++ [x]) ∧ Frm b v v' w w' := by
  have hm1 : ∀ w' : World, (method 210 72 (.pointer (some ⟨b, o, none⟩)) "Push").run Try.prog w' = .ok (66, .pointer (some ⟨b, o, none⟩)) w' := fun _ => by kernel_rfl
  have hm2 : ∀ w' : World, (method 210 72 (.pointer (some ⟨b, o, none⟩)) "Len").run Try.prog w' = .ok (33, .pointer (some ⟨b, o, none⟩)) w' := fun _ => by kernel_rfl
  obtain ⟨n, hln⟩ : ∃ n, l.length = n := ⟨_, rfl⟩
  obtain ⟨p1, p2, p3⟩ := push_heap plLt_ordered hln x (by rw [← hln]; exact hh)
  go_enter Try.func40, Try.ntmps40
  go_wp2_with fail
  refine (plPush b blk v l x _ hb h (by omega)).mono ?_
  rintro e w1 ⟨rfl, v1, h1, f1⟩
  have hl1 : (l ++ [x]).length = n + 1 := by simp [hln]
  have hi : ((l ++ [x]).length : Int) = n + 1 := by omega
  go_wp2_with fail
  refine (plLen b blk v1 _ _ hb h1).mono ?_
  rintro e w2 ⟨rfl, rfl⟩
  rw [hi]
  go_wp2_with fail
  refine (plUp b blk v1 _ n _ hb h1 (by omega) (by omega)).mono ?_
  rintro e w3 ⟨rfl, h3, f3⟩
  go_wp2
  go_end0
  exact ⟨rfl, v1, _, h3, by rw [p3]; exact p1, p2, f1.trans f3⟩

set_option maxRecDepth 20000 in
theorem plHPop (b : Nat) (blk : Value → Array Value) (v : Value) (l : List plIt) (n : Nat) (w : World) (hb : BlkOk blk o) (h : plRow w b blk v l) (hl : l.length = n + 1) (hh : HeapN plLt l l.length) (hn : l.length ≤ 1000000) :
    Calls Try.prog 34 #[.iface 72 (.pointer (some ⟨b, o, none⟩))] w fun e w' => e = .returned (plVal (atL l 0)) ∧ ∃ v' l', plRow w' b blk v' l' ∧ HeapN plLt l' l'.length ∧ l'.length = n ∧ (atL l 0 :: l').Perm l ∧ Frm b v v' w w' := by
  have hm1 : ∀ w' : World, (method 210 72 (.pointer (some ⟨b, o, none⟩)) "Pop").run Try.prog w' = .ok (65, .pointer (some ⟨b, o, none⟩)) w' := fun _ => by kernel_rfl
  have hm2 : ∀ w' : World, (method 210 72 (.pointer (some ⟨b, o, none⟩)) "Len").run Try.prog w' = .ok (33, .pointer (some ⟨b, o, none⟩)) w' := fun _ => by kernel_rfl
  have hm3 : ∀ w' : World, (method 210 72 (.pointer (some ⟨b, o, none⟩)) "Swap").run Try.prog w' = .ok (67, .pointer (some ⟨b, o, none⟩)) w' := fun _ => by kernel_rfl
  rw [hl] at hh
  obtain ⟨p1, p2, p3⟩ := pop_heap plLt_ordered hl hh
  have hi : (l.length : Int) = n + 1 := by omega
  have hs : (swapL l 0 n).length = n + 1 := by rw [swapL_length]; exact hl
  have hd : (downL plLt n n (swapL l 0 n) 0).1.length = n + 1 := by rw [downL_length]; exact hs
  have ht : ((downL plLt n n (swapL l 0 n) 0).1.take n).length = n := by rw [List.length_take]; omega
  go_enter Try.func34, Try.ntmps34
  go_wp2_with fail
  refine (plLen b blk v _ _ hb h).mono ?_
  rintro e w1 ⟨rfl, rfl⟩
  rw [hi]
  go_wp2_with fail
  refine (plSwap b blk v l 0 n _ hb h (by omega) (by omega)).mono ?_
  rintro e w2 ⟨rfl, h2, f2⟩
  go_wp2_with fail
  refine (plDown b blk v _ 0 n _ hb h2 (by omega) (by omega) (by omega)).mono ?_
  rintro e w3 ⟨rfl, h3, f3⟩
  go_wp2_with fail
  refine (plPop b blk v _ n _ hb h3 hd).mono ?_
  rintro e w4 ⟨rfl, v4, h4, f4⟩
  go_wp2
  go_ret
  exact ⟨by first | rfl | rw [p2], v4, _, h4, by rw [ht]; exact p1, ht, p3, (f2.trans f3).trans f4⟩
end Go.Proofs.Ytgcnmhlojfncpaa
