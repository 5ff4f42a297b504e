/- The lines: where they lie; none, may, out, set. -/
import Derived.Test.YtddngfhiaolkeaaHppV
import Derived.Test.YtddngfhiaolkeaaVcp
import Derived.Test.YtddngfhiaolkeaaRowG
import Derived.Test.YtddngfhiaolkeaaReg7
namespace Go.Proofs.Ytddngfhiaolkeaa
open Go.ChangeShapes Go.WideShapes Go.ChangeAt Go.RowKit
set_option linter.unusedVariables false

structure VcAt (w : World) (b : Nat) (s : Nat → vcLn) (now : Nat) (v : Value) (l : List vcIt) : Prop where
  row : vcRow w b (vcBlk s now) v l
  heap : HeapN vcLt l l.length
  perm : l.Perm (itemsOf s)
section
variable {w w' : World} {b now : Nat} {s : Nat → vcLn} {v : Value} {l : List vcIt}
theorem vcRow.wt (h : vcRow w b (vcBlk s now) v l) {i : Nat} (hi : i < 8) : w.cell? ⟨b, i * 4, none⟩ = some (.bool (s i).wt) := (cell_of_row _ _ _ _ _ _ h.1).trans (vcBlk_wt s now v i hi)
theorem vcRow.ms (h : vcRow w b (vcBlk s now) v l) {i : Nat} (hi : i < 8) : w.cell? ⟨b, i * 4 + 1, none⟩ = some (.bool (s i).ms) := (cell_of_row _ _ _ _ _ _ h.1).trans (vcBlk_mk s now v i hi)
theorem vcRow.pr (h : vcRow w b (vcBlk s now) v l) {i : Nat} (hi : i < 8) : w.cell? ⟨b, i * 4 + 2, none⟩ = some (.int .i64 (s i).pr) := (cell_of_row _ _ _ _ _ _ h.1).trans (vcBlk_pr s now v i hi)
theorem vcRow.sn (h : vcRow w b (vcBlk s now) v l) {i : Nat} (hi : i < 8) : w.cell? ⟨b, i * 4 + 3, none⟩ = some (.int .i64 (s i).sn) := (cell_of_row _ _ _ _ _ _ h.1).trans (vcBlk_sn s now v i hi)
theorem vcRow.nowC (h : vcRow w b (vcBlk s now) v l) : w.cell? ⟨b, 33, none⟩ = some (.int .i64 now) := (cell_of_row _ _ _ _ _ _ h.1).trans rfl
theorem vcRow.made (h : vcRow w b (vcBlk s now) v l) : w.cell? ⟨b, 34, none⟩ = some (.bool true) := (cell_of_row _ _ _ _ _ _ h.1).trans rfl
theorem VcAt.lt (h : VcAt w b s now v l) : b < w.heap.size := h.row.lt
theorem VcAt.below (h : VcAt w b s now v l) (hb : Below w.heap.size w w') : VcAt w' b s now v l := ⟨h.row.below hb, h.heap, h.perm⟩
theorem VcAt.nodup (h : VcAt w b s now v l) : (l.map vcIt.ln).Nodup := perm_ln h.perm (items_nodup List.nodup_range)
theorem VcAt.le (h : VcAt w b s now v l) : l.length ≤ 8 := by
  rw [h.perm.length_eq]
  exact items_length
end

theorem vcNone (b now : Nat) (s : Nat → vcLn) (v : Value) (l : List vcIt) (w : World) (h : vcRow w b (vcBlk s now) v l) :
    Calls Try.prog 28 #[.pointer (some ⟨b, 0, none⟩)] w fun e w' => e = .returned (.bool false) ∧ w = w' := by
  have c6 := h.made
  go_enter Try.func28, Try.ntmps28
  go_wp2
  go_ret
  exact ⟨rfl, rfl⟩
theorem vcMay (b now : Nat) (s : Nat → vcLn) (v : Value) (l : List vcIt) (n : Nat) (w : World) (h : vcRow w b (vcBlk s now) v l) (hn : n < 8) :
    Calls Try.prog 26 #[.pointer (some ⟨b, 0, none⟩), .int .i64 n] w fun e w' => e = .returned (.int .i64 0) ∧ w = w' := by
  have h0 : ¬ (n : Int) < 0 := by omega
  have h8 : ¬ 8 ≤ n := by omega
  go_enter Try.func26, Try.ntmps26
  go_wp2_with fail
  refine (vcNone b now s v l _ h).mono ?_
  rintro e w' ⟨rfl, rfl⟩
  go_wp2
  go_ret
  exact ⟨rfl, rfl⟩
theorem vcMayNo (b now : Nat) (s : Nat → vcLn) (v : Value) (l : List vcIt) (n : Int) (w : World) (h : vcRow w b (vcBlk s now) v l) (hn : n < 0 ∨ 8 ≤ n) :
    Calls Try.prog 26 #[.pointer (some ⟨b, 0, none⟩), .int .i64 n] w fun e w' => e = .returned (.int .i64 1) ∧ w = w' := by
  by_cases h0 : n < 0
  · go_enter Try.func26, Try.ntmps26
    go_wp2_with fail
    refine (vcNone b now s v l _ h).mono ?_
    rintro e w' ⟨rfl, rfl⟩
    go_wp2
    go_ret
    exact ⟨rfl, rfl⟩
  · have h8 : 8 ≤ n := by omega
    go_enter Try.func26, Try.ntmps26
    go_wp2_with fail
    refine (vcNone b now s v l _ h).mono ?_
    rintro e w' ⟨rfl, rfl⟩
    go_wp2
    go_ret
    exact ⟨rfl, rfl⟩

set_option maxRecDepth 20000 in
set_option maxHeartbeats 2000000 in
theorem vcOut (b now : Nat) (s : Nat → vcLn) (v : Value) (l : List vcIt) (n : Nat) (w : World) (h : vcRow w b (vcBlk s now) v l) (hh : HeapN vcLt l l.length) (hnd : (l.map vcIt.ln).Nodup) (hl : l.length ≤ 1000) :
    Calls Try.prog 33 #[.pointer (some ⟨b, 0, none⟩), .int .i64 n] w fun e w' => e = .returned (.tuple #[]) ∧ ∃ v' l', vcRow w' b (vcBlk s now) v' l' ∧ HeapN vcLt l' l'.length ∧ l'.Perm (l.filter (notLn n)) ∧ Frm b v v' w w' := by
  have hlt := h.lt
  have c0 := h.field (vcBlk_ok s now)
  obtain ⟨a, c, rfl⟩ := h.shape
  have HND := Lib.hid hnd
  clear hnd
  go_enter Try.func33, Try.ntmps33
  go_wp2_with fail
  go_loopw [12] (fun x wr => ∃ j : Nat, x = .int .i64 j ∧ j ≤ l.length ∧ (∀ i, i < j → (atL l i).ln ≠ n) ∧ Bel w.heap.size w wr) (fun x _ => l.length - (intOf x).toNat)
  case atStart => exact ⟨0, rfl, Nat.zero_le _, fun i hi => by omega, Bel.refl w⟩
  case round =>
    obtain ⟨j, rfl, hj, hbefore, hbel⟩ := hrel
    have HB := Lib.hid hbefore
    clear hbefore
    by_cases hjl : j < l.length
    · obtain ⟨g, rfl, hle, hmx, hbg, hg, hc, hf⟩ := h.at vcEnc_length hjl
      have b0 := (hbel.1.cell (p := ⟨g, j * 3, none⟩) hg).trans (hc j hjl 0 (by omega))
      have b1 := (hbel.1.cell (p := ⟨g, j * 3 + 1, none⟩) hg).trans (hc j hjl 1 (by omega))
      have b2 := (hbel.1.cell (p := ⟨g, j * 3 + 2, none⟩) hg).trans (hc j hjl 2 (by omega))
      simp only [vcEnc, List.getElem?_cons_zero, List.getElem?_cons_succ] at b0 b1 b2
      clear hc
      by_cases hid : (atL l j).ln = n
      · have hT := h.below hbel.1
        obtain ⟨m, hm1⟩ : ∃ m, l.length = m + 1 := ⟨l.length - 1, by omega⟩
        have HJ := Lib.hid hid
        rw [hid] at b0
        clear hid
        go_wp2_with fail
        refine (vcHRem b (vcBlk s now) _ l m j _ (vcBlk_ok _ _) (hT.alloc) hm1 (by omega) hh (by omega)).mono ?_
        rintro e w2 ⟨rfl, v2, l2, h2, hh2, hl2, p2, f2⟩
        go_wp2
        refine bodyPost_ret (results_none rfl _ _ _) rfl ?_
        exact ⟨rfl, v2, l2, h2, hh2, perm_gone p2 HJ.out HND.out, ((Frm.of_below hbel.1).trans (Frm.of_below (Bel.refl wr).alloc.1)).trans f2⟩
      · go_wp2
        go_roundw
        case rel => exact ⟨j + 1, by go_num, by omega, fun i hi => by
          rcases Nat.lt_succ_iff_lt_or_eq.1 hi with h1 | h1
          · exact HB.out i h1
          · subst h1; exact hid, by repeat (first | exact hbel | apply Bel.alloc)⟩
        case measure => simp [intOf]; omega
    · obtain rfl : j = l.length := by omega
      go_wp2
      go_end0
      refine ⟨rfl, _, l, h.below hbel.1, hh, ?_, Frm.of_below hbel.1⟩
      rw [List.filter_eq_self.2 fun y hy => ?_]
      obtain ⟨i, hi, rfl⟩ := mem_is_atL hy
      have := HB.out i hi
      simpa [notLn] using this

theorem set_perm {s : Nat → vcLn} {x : vcLn} {n : Nat} (hn : n < 8) {l l1 : List vcIt} (hp : l.Perm (itemsOf s)) (h1 : l1.Perm (l.filter (notLn n))) : ((actOf (putF s n x) n).toList ++ l1).Perm (itemsOf (putF s n x)) :=
  ((List.Perm.append_left _ (h1.trans (hp.filter _))).trans (items_put (List.mem_range.2 hn) List.nodup_range).symm)

set_option maxRecDepth 20000 in
set_option maxHeartbeats 2000000 in
/-- The line n was written; the row is brought to what it is now. -/
theorem vcSet (b now : Nat) (s : Nat → vcLn) (v : Value) (l : List vcIt) (n : Nat) (x : vcLn) (w : World) (h : vcRow w b (vcBlk (putF s n x) now) v l) (hh : HeapN vcLt l l.length) (hp : l.Perm (itemsOf s)) (hn : n < 8) :
    Calls Try.prog 27 #[.pointer (some ⟨b, 0, none⟩), .int .i64 n] w fun e w' => e = .returned (.tuple #[]) ∧ ∃ v' l', VcAt w' b (putF s n x) now v' l' ∧ Frm b v v' w w' := by
  have hnd : (l.map vcIt.ln).Nodup := perm_ln hp (items_nodup List.nodup_range)
  have hl8 : l.length ≤ 8 := by
    rw [hp.length_eq]
    exact items_length
  go_enter Try.func27, Try.ntmps27
  go_wp2_with fail
  refine (vcOut b now _ v l n _ h hh hnd (by omega)).mono ?_
  rintro e w1 ⟨rfl, v1, l1, h1, hh1, p1, f1⟩
  have hl1 : l1.length ≤ 8 := by
    rw [p1.length_eq]
    have := List.length_filter_le (notLn n) l
    omega
  have hsp := set_perm (x := x) hn hp p1
  have HSP := Lib.hid hsp
  have d0 := h1.wt hn
  have d1 := h1.ms hn
  have d2 := h1.pr hn
  have d3 := h1.sn hn
  have hlt1 := h1.lt
  simp only [putF_at] at d0 d1 d2 d3
  obtain ⟨xw, xm, xp, xs⟩ := x
  simp only at d0 d1 d2 d3
  clear hsp
  cases xw
  · go_wp2
    go_end0
    refine ⟨rfl, v1, l1, ⟨h1.alloc, hh1, ?_⟩, f1.trans (Frm.of_below (Bel.refl w1).alloc.1)⟩
    have := HSP.out
    rw [actOf, if_neg (by simp [isAct, putF_at])] at this
    exact this
  · cases xm
    · have hq := h1.alloc (ob := .cells #[.bool true, .bool false, .int .i64 xp, .int .i64 xs] 53)
      go_wp2_with fail
      have hv : (w1.alloc (.cells #[.bool true, .bool false, .int .i64 xp, .int .i64 xs] 53)).heap[w1.heap.size]? = some (.cells #[.bool true, .bool false, .int .i64 xp, .int .i64 xs] 53 (0, 0)) := Go.heap_alloc_new w1 _
      have fa : Frm b v1 v1 w1 (w1.alloc (.cells #[.bool true, .bool false, .int .i64 xp, .int .i64 xs] 53)) := Frm.of_below (Bel.refl w1).alloc.1
      generalize (w1.alloc (.cells #[.bool true, .bool false, .int .i64 xp, .int .i64 xs] 53)) = w2 at hq hv fa ⊢
      obtain ⟨g, hg⟩ : ∃ g, w1.heap.size = g := ⟨_, rfl⟩
      rw [hg] at hv ⊢
      have e2 : w2.cell? ⟨g, 2, none⟩ = some (.int .i64 xp) := cell_of_row _ _ _ _ _ _ hv
      have e3 : w2.cell? ⟨g, 3, none⟩ = some (.int .i64 xs) := cell_of_row _ _ _ _ _ _ hv
      clear d0 d1 d2 d3
      (refine wp_region_line 12 (fun x => ∃ y : LatH w2 g, x = laterH w2 g y) (by kernel_rfl) rfl ?_)
      (refine wpSeg (0 :: 1 :: 2 :: 3 :: 4 :: 5 :: 6 :: 7 :: 8 :: 9 :: 10 :: []) 1 (l := _) rfl (by simp only [List.filterMap_cons, List.filterMap_nil, List.getElem?_toArray, List.getElem?_cons_succ, List.getElem?_cons_zero]; rfl) (by kernel_rfl) (fun _ _ _ _ _ h => h) (laterH_of (w := w2.drew) rfl) ?_; show wpQuiet _ _ _ _ (_ :: _ :: _ :: _ :: _ :: _ :: _ :: _ :: _ :: _ :: _ :: []) _; (repeat (go_big_quiet_step (fail))); refine wpQuiet_nil ?_; show wpAnyH _ _ _ _ _ _ _ _ _)
      (refine wpOne 11 0 rfl rfl (by kernel_rfl) ?_; intro K hK; go_simp)
      refine (vcHPush b (vcBlk _ now) v1 l1 ⟨n, xp, xs⟩ _ (vcBlk_ok _ _) hq.drew hh1 (by omega)).mono ?_
      rintro e w3 ⟨rfl, v3, l3, h3, hh3, p3, f3⟩
      have hv3 : w3.heap[g]? = w2.heap[g]? := (f3.other hq.drew (show w2.drew.heap[g]? = _ from hv) (by decide) (by decide)).trans hv.symm
      (refine hK.out _ _ _ (fun _ h => h) (laterH_of hv3) ?_; clear hK K)
      refine wpAnyH_done (by kernel_rfl) ?_ _
      go_wp2
      go_end0
      have := HSP.out
      rw [actOf, if_pos (by simp [isAct, putF_at])] at this
      simp only [itOf, putF_at, Option.toList_some] at this
      exact ⟨rfl, v3, l3, ⟨h3, hh3, (p3.trans List.perm_append_comm).trans this⟩, (f1.trans fa).trans ⟨f3.os, f3.tape, f3.output, f3.size, f3.block, f3.own⟩⟩
    · go_wp2
      go_end0
      refine ⟨rfl, v1, l1, ⟨h1.alloc, hh1, ?_⟩, f1.trans (Frm.of_below (Bel.refl w1).alloc.1)⟩
      have := HSP.out
      rw [actOf, if_neg (by simp [isAct, putF_at])] at this
      exact this
end Go.Proofs.Ytddngfhiaolkeaa
