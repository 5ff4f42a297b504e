/- The lines: Next, Take, Reset, Waits. -/
import Derived.Test.YtddngfhiaolkeaaVd
import Derived.Laws.AppendOwnNone
namespace Go.Proofs.Ytddngfhiaolkeaa
open Go.ChangeShapes Go.WideShapes Go.ChangeAt Go.RowKit
set_option linter.unusedVariables false

section
variable (b now : Nat) (s : Nat → vcLn) (v : Value) (l : List vcIt)
theorem vcNext (w : World) (h : VcAt w b s now v l) :
    Calls Try.prog 15 #[.pointer (some ⟨b, 0, none⟩)] w fun e w' => e = .returned (if l.length = 0 then .tuple #[.int .i64 0, .bool false] else .tuple #[.int .i64 (atL l 0).ln, .bool true]) ∧ w = w' := by
  by_cases hl : l.length = 0
  · have hl' : (l.length : Int) = 0 := by omega
    rw [if_pos hl]
    go_enter Try.func15, Try.ntmps15
    go_wp2_with fail
    refine (vcNone b now s v l _ h.row).mono ?_
    rintro e w' ⟨rfl, rfl⟩
    go_wp2_with fail
    refine (vcLen b (vcBlk s now) v l _ (vcBlk_ok s now) h.row).mono ?_
    rintro e w' ⟨rfl, rfl⟩
    rw [hl']
    go_wp2
    go_ret2
    exact ⟨rfl, rfl⟩
  · have hl' : ¬ (l.length : Int) = 0 := by omega
    have hl0 : 0 < l.length := by omega
    rw [if_neg hl]
    have c0 := h.row.field (vcBlk_ok s now)
    obtain ⟨g, cap, rfl, hle, hm, hbg, hg, hc, hf⟩ := h.row.item vcEnc_length hl0
    have d0 := hc 0 hl0 0 (by omega)
    simp only [vcEnc, List.getElem?_cons_zero, Nat.zero_mul, Nat.add_zero] at d0
    clear hc
    go_enter Try.func15, Try.ntmps15
    go_wp2_with fail
    refine (vcNone b now s _ l _ h.row).mono ?_
    rintro e w' ⟨rfl, rfl⟩
    go_wp2_with fail
    refine (vcLen b (vcBlk s now) _ l _ (vcBlk_ok s now) h.row).mono ?_
    rintro e w' ⟨rfl, rfl⟩
    go_wp2
    go_ret2
    exact ⟨rfl, rfl⟩

theorem vcTakeNo (w : World) (h : VcAt w b s now v l) (hl : l.length = 0) :
    Calls Try.prog 12 #[.pointer (some ⟨b, 0, none⟩)] w fun e w' => e = .returned (.tuple #[.int .i64 0, .bool false]) ∧ w = w' := by
  have hl' : (l.length : Int) = 0 := by omega
  go_enter Try.func12, Try.ntmps12
  go_wp2_with fail
  refine (vcNone b now s v l _ h.row).mono ?_
  rintro e w' ⟨rfl, rfl⟩
  go_wp2_with fail
  refine (vcLen b (vcBlk s now) v l _ (vcBlk_ok s now) h.row).mono ?_
  rintro e w' ⟨rfl, rfl⟩
  rw [hl']
  go_wp2
  go_ret2
  exact ⟨rfl, rfl⟩
set_option maxRecDepth 20000 in
set_option maxHeartbeats 1000000 in
theorem vcTake (n : Nat) (w : World) (h : VcAt w b s now v l) (hl : 0 < l.length) (hn : n < 8) (hx : (atL l 0).ln = n) :
    Calls Try.prog 12 #[.pointer (some ⟨b, 0, none⟩)] w fun e w' => e = .returned (.tuple #[.int .i64 n, .bool true]) ∧ ∃ v' l', VcAt w' b (putF s n { s n with wt := false }) now v' l' ∧ Frm b v v' w w' := by
  have hl' : ¬ (l.length : Int) = 0 := by omega
  obtain ⟨m, hm⟩ : ∃ m, l.length = m + 1 := ⟨l.length - 1, by omega⟩
  obtain ⟨xn, xp, xs, hxe⟩ : ∃ xn xp xs, atL l 0 = (⟨xn, xp, xs⟩ : vcIt) := ⟨_, _, _, rfl⟩
  rw [hxe] at hx
  simp only at hx
  subst hx
  have hta : ∀ w' : World, (Instr.typeAssert (.iface 64 (.agg #[.int .i64 n, .int .i64 xp, .int .i64 xs])) 20 64 false).run Try.prog w' = .ok (.agg #[.int .i64 n, .int .i64 xp, .int .i64 xs]) w' := fun _ => by kernel_rfl
  have hval : vcVal (atL l 0) = .iface 64 (.agg #[.int .i64 n, .int .i64 xp, .int .i64 xs]) := by rw [hxe]; rfl
  have HV := Lib.hid hval
  have HX := Lib.hid hxe
  have hle := h.le
  clear hval hxe
  go_enter Try.func12, Try.ntmps12
  go_wp2_with fail
  refine (vcNone b now s v l _ h.row).mono ?_
  rintro e w' ⟨rfl, rfl⟩
  go_wp2_with fail
  refine (vcLen b (vcBlk s now) v l _ (vcBlk_ok s now) h.row).mono ?_
  rintro e w' ⟨rfl, rfl⟩
  go_wp2_with fail
  refine (vcHPop b (vcBlk s now) v l m _ (vcBlk_ok s now) h.row hm h.heap (by omega)).mono ?_
  rintro e w2 ⟨rfl, v2, l2, h2, hh2, hl2, p2, f2⟩
  rw [HV.out]
  have hq : vcRow _ b (vcBlk s now) v2 l2 := h2.alloc (ob := .cells #[.int .i64 n, .int .i64 xp, .int .i64 xs] 64)
  have hlt2 := h2.lt
  go_wp2_with fail
  have hv : (w2.alloc (.cells #[.int .i64 n, .int .i64 xp, .int .i64 xs] 64)).heap[w2.heap.size]? = some (.cells #[.int .i64 n, .int .i64 xp, .int .i64 xs] 64 (0, 0)) := Go.heap_alloc_new w2 _
  have fa : Frm b v2 v2 w2 (w2.alloc (.cells #[.int .i64 n, .int .i64 xp, .int .i64 xs] 64)) := Frm.of_below (Bel.refl w2).alloc.1
  generalize (w2.alloc (.cells #[.int .i64 n, .int .i64 xp, .int .i64 xs] 64)) = w3 at hq hv fa ⊢
  obtain ⟨g, hg⟩ : ∃ g, w2.heap.size = g := ⟨_, rfl⟩
  rw [hg] at hv hlt2 ⊢
  have e0 : w3.cell? ⟨g, 0, none⟩ = some (.int .i64 n) := cell_of_row _ _ _ _ _ _ hv
  have hgb : g ≠ b := by omega
  have d0 := vcRow.wt hq hn
  have z0 : w3.frozen? ⟨b, n * 4, none⟩ = false := hq.free _
  have u1 : (w3.setCell ⟨b, n * 4, none⟩ (.bool false)).drew.heap[g]? = w3.heap[g]? := heap_setCell_ne' hgb
  (refine wp_region_line 8 (fun x => ∃ y : LatH w3 g, x = laterH w3 g y) (by kernel_rfl) rfl ?_)
  (refine wpSeg (0 :: 1 :: 2 :: 3 :: 4 :: 5 :: 6 :: []) 1 (l := _) rfl (by simp only [List.filterMap_cons, List.filterMap_nil, List.getElem?_toArray, List.getElem?_cons_succ, List.getElem?_cons_zero]; rfl) (by kernel_rfl) (fun _ _ _ _ _ h => h) (laterH_of (w := w3.drew) rfl) ?_; show wpQuiet _ _ _ _ (_ :: _ :: _ :: _ :: _ :: _ :: _ :: []) _; (repeat (go_big_quiet_step (fail))); refine wpQuiet_nil ?_; show wpAnyH _ _ _ _ _ _ _ _ _)
  (refine wpOne 7 0 rfl rfl (by kernel_rfl) ?_; intro K hK; go_simp)
  (refine hK.out _ _ _ (fun _ h => h) (laterH_of u1) ?_; clear hK K)
  refine wpAnyH_done (by kernel_rfl) ?_ _
  have g3 : (w3.setCell ⟨b, n * 4, none⟩ (.bool false)).drew.heap[b]? = some (.cells (vcBlk (putF s n { s n with wt := false }) now v2) 59 (0, 0)) := by
    have := heap_setCell_at (o := n * 4) (u := .bool false) hq.1
    rw [vcBlk_setWt _ _ _ _ _ hn] at this
    exact this
  have fu : Upd b w3 (w3.setCell ⟨b, n * 4, none⟩ (.bool false)).drew := (Upd.refl b w3).setCell.drew
  have e4 : (w3.setCell ⟨b, n * 4, none⟩ (.bool false)).drew.cell? ⟨g, 0, none⟩ = some (.int .i64 n) := (World.cell?_of_block (w := w3) u1).trans e0
  clear d0 z0 e0 u1
  generalize (w3.setCell ⟨b, n * 4, none⟩ (.bool false)).drew = w4 at g3 fu e4 ⊢
  go_wp2
  go_ret2
  have hr4 : vcRow w4 b (vcBlk (putF s n { s n with wt := false }) now) v2 l2 := hq.reblk fu g3
  refine ⟨rfl, v2, ⟨l2, hr4, hh2, ?_⟩, (f2.trans fa).trans (Frm.of_own fu)⟩
  have hp := set_perm (x := { s n with wt := false }) hn h.perm (perm_gone (n := n) p2 (by rw [HX.out]) h.nodup)
  rw [actOf, if_neg (by simp [isAct, putF_at])] at hp
  exact hp
end

section
variable (b now : Nat) (s : Nat → vcLn) (v : Value) (l : List vcIt)
/-- The lines that wait, of the first j. -/
def waitL (s : Nat → vcLn) (j : Nat) : List Nat := (List.range j).filter fun i => (s i).wt
theorem waitL_succ (s : Nat → vcLn) (j : Nat) : waitL s (j + 1) = if (s j).wt = true then waitL s j ++ [j] else waitL s j := by
  unfold waitL
  rw [List.range_succ, List.filter_append]
  split
  · rename_i h; simp [h]
  · rename_i h; simp [h]
theorem waitL_le (s : Nat → vcLn) (j : Nat) : (waitL s j).length ≤ j := by
  have := List.length_filter_le (fun i => (s i).wt) (List.range j)
  simpa [waitL] using this
def nEnc (i : Nat) : List Value := [.int .i64 i]
theorem nEnc_length (i : Nat) : (nEnc i).length = 1 := rfl
theorem Try.intRow : (Try.prog.info? 3).map (fun i => (i.zero, i.size, i.bytes)) = some (some (.int .i64 0), 1, 8) := by kernel_rfl
/-- The eight lines' cells. -/
def vcCells (s : Nat → vcLn) : List Value := lnC (s 0) ++ (lnC (s 1) ++ (lnC (s 2) ++ (lnC (s 3) ++ (lnC (s 4) ++ (lnC (s 5) ++ (lnC (s 6) ++ lnC (s 7)))))))
theorem vcRow.range {w : World} (h : vcRow w b (vcBlk s now) v l) : w.rangeAt b 0 (vcCells s) := by
  intro j u hj
  rw [Nat.zero_add, cell_of_row _ _ _ _ _ _ h.1]
  rw [show vcBlk s now v = (vcCells s ++ (v :: .int .i64 now :: .bool true :: [])).toArray from rfl, List.getElem?_toArray, List.getElem?_append_left (List.getElem?_eq_some_iff.1 hj).1]
  exact hj
theorem line_index (s : Nat → vcLn) : ∀ k, k < 8 → ∀ w' : World, (Instr.index 54 (.agg (vcCells s).toArray) (.int .i64 (k : Nat))).run Try.prog w' = .ok (.agg #[.bool (s k).wt, .bool (s k).ms, .int .i64 (s k).pr, .int .i64 (s k).sn]) w' := by
  apply eight <;> (intro w'; kernel_rfl)
theorem Try.lineSize : (Try.prog.info? 54).map (·.size) = some 32 := by kernel_rfl
set_option maxRecDepth 100000 in
set_option maxHeartbeats 4000000 in
theorem vcWaits (w : World) (h : VcAt w b s now v l) :
    Calls Try.prog 13 #[.pointer (some ⟨b, 0, none⟩)] w fun e w' => ∃ out, e = .returned out ∧ w'.ownsRow w.heap.size 3 1 out (waitL s 8).length ((waitL s 8).flatMap nEnc) ∧ Below w.heap.size w w' := by
  obtain ⟨i0, hi, hz0, hz1, hz2⟩ := info_parts Try.intRow
  have hr := vcRow.range b now s v l h.row
  have hx := line_index s
  have hsz : (Try.prog.info? 54).map (·.size) = some (vcCells s).length := Try.lineSize
  have HX := Lib.hid hx
  clear hx
  generalize vcCells s = cs at hr hsz HX
  go_enter Try.func13, Try.ntmps13
  go_wp2_with fail
  refine (vcNone b now s v l _ h.row).mono ?_
  rintro e w' ⟨rfl, rfl⟩
  go_wp2_with (refine wpList_load_mid rfl 54 (.tmp 10) rfl b 0 rfl cs (.array 8 53) hr Try.underlying54 rfl hsz ?_)
  go_loopw [3, 12] (fun ov kv wr => ∃ k : Nat, k ≤ 8 ∧ kv = .int .i64 k ∧ wr.ownsRow w.heap.size 3 1 ov (waitL s k).length ((waitL s k).flatMap nEnc) ∧ Bel w.heap.size w wr) (fun _ kv _ => 8 - (intOf kv).toNat)
  case atStart => exact ⟨0, Nat.zero_le _, rfl, World.ownsRow_nil _ _ _ _, Bel.refl w⟩
  case round =>
    obtain ⟨k, hk, rfl, hown, hbel⟩ := hrel
    have hbz := hbel.2
    have hwle := waitL_le s k
    have hws := waitL_succ s k
    obtain ⟨ao, co, rfl⟩ := ownsRow_shape hown
    by_cases hk8 : k < 8
    · have hxk := HX.out k hk8
      obtain ⟨ln, hln⟩ : ∃ x, s k = x := ⟨_, rfl⟩
      rw [hln] at hxk hws
      obtain ⟨c0, c1, c2, c3⟩ := ln
      simp only at hxk hws
      clear hln
      generalize waitL s k = L at hown hwle hws
      have hkn : ((k : Int) < 8) = True := by simp; omega
      cases c0
      · rw [if_neg (by simp)] at hws
        have HS := Lib.hid hws
        clear hws
        go_wp2
        go_roundw
        case rel => exact ⟨k + 1, by omega, by go_num, by rw [HS.out]; exact World.ownsRow.alloc hown _, hbel.alloc⟩
        case measure => simp [intOf]; omega
      · rw [if_pos rfl] at hws
        have HS := Lib.hid hws
        clear hws
        go_wp2_with (at_builtin; refine wpList_append_lies _ rfl _ _ 26 rfl w.heap.size 3 i0 (.int .i64 0) 1 8 Try.underlying26 hi hz0 hz1 hz2 rfl (by decide) _ _ _ rfl (World.ownsRow.alloc (World.ownsRow.alloc hown _) _) ⟨wr.heap.size + 1, 0, none⟩ 1 1 [.int .i64 k] rfl rfl ?c1 ?c2 (by decide) ?c3 ?c4 ?c5 (wr.heap.size + 2) ?c6 ?_)
        case c1 =>
          intro x u hx
          match x, hx with
          | 0, hx => simp at hx; subst hx; simp [Addr.add]
        case c2 => intro u hu; simp at hu; subst hu; rfl
        case c3 => unfold maxLen; omega
        case c4 => omega
        case c5 => simp; omega
        case c6 => simp
        intro g4 cap4 w4 hown4 hgrow hat hlt4
        go_wp2
        go_roundw
        case rel =>
          refine ⟨k + 1, by omega, by go_num, ?_, ?_⟩
          · rw [HS.out]; simpa [nEnc] using hown4
          · exact hbel.alloc.append (World.ownsRow.alloc hown _) hgrow
        case measure => simp [intOf]; omega
    · obtain rfl : k = 8 := by omega
      go_wp2
      go_ret
      exact ⟨_, rfl, hown, hbel.1⟩
end
end Go.Proofs.Ytddngfhiaolkeaa
