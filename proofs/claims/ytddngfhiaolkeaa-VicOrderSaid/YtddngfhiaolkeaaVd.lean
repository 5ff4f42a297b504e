/- The lines: New, Raise, Clear, Mask, Prio, Next, Take, Reset. -/
import Derived.Test.YtddngfhiaolkeaaVc
namespace Go.Proofs.Ytddngfhiaolkeaa
open Go.ChangeShapes Go.WideShapes Go.ChangeAt Go.RowKit
set_option linter.unusedVariables false

/-- Lines that nobody touched. -/
def vc0 : Nat → vcLn := fun _ => ⟨false, false, 0, 0⟩
theorem items0 : itemsOf vc0 = [] := rfl
theorem vcNew (w : World) :
    Calls Try.prog 8 #[] w fun e w' => e = .returned (.pointer (some ⟨w.heap.size, 0, none⟩)) ∧ Below w.heap.size w w' ∧ VcAt w' w.heap.size vc0 0 (.slice none 0 0) [] := by
  go_enter Try.func8, Try.ntmps8
  go_wp2
  go_ret
  exact ⟨rfl, (by refine (?_ : Bel _ _ _).1; repeat (first | exact hbel | exact Bel.refl _ | apply Bel.later | apply Bel.alloc | apply Bel.drew | (refine Bel.laterB ?_ (by first | exact Nat.le_refl _ | omega | (simp; omega) | simp)) | (refine Bel.setCell ?_ (by first | exact Nat.le_refl _ | omega | (simp; omega) | simp)))), ⟨⟨Go.heap_alloc_new w _, World.ownsRow_nil _ _ _ _⟩, fun x h0 hx => by simp at hx, List.Perm.refl _⟩⟩

section
variable (b now : Nat) (s : Nat → vcLn) (v : Value) (l : List vcIt)
theorem vcRaiseNo (n : Int) (w : World) (h : VcAt w b s now v l) (hno : n < 0 ∨ 8 ≤ n) :
    Calls Try.prog 9 #[.pointer (some ⟨b, 0, none⟩), .int .i64 n] w fun e w' => e = .returned (.int .i64 1) ∧ w = w' := by
  go_enter Try.func9, Try.ntmps9
  go_wp2_with fail
  refine (vcMayNo b now s v l n _ h.row hno).mono ?_
  rintro e w' ⟨rfl, rfl⟩
  go_wp2
  go_ret
  exact ⟨rfl, rfl⟩
theorem vcRaiseOld (n : Nat) (w : World) (h : VcAt w b s now v l) (hn : n < 8) (hw : (s n).wt = true) :
    Calls Try.prog 9 #[.pointer (some ⟨b, 0, none⟩), .int .i64 n] w fun e w' => e = .returned (.int .i64 0) ∧ w = w' := by
  have d0 := h.row.wt hn
  rw [hw] at d0
  go_enter Try.func9, Try.ntmps9
  go_wp2_with fail
  refine (vcMay b now s v l n _ h.row hn).mono ?_
  rintro e w' ⟨rfl, rfl⟩
  go_wp2
  go_ret
  exact ⟨rfl, rfl⟩
set_option maxRecDepth 20000 in
set_option maxHeartbeats 1000000 in
theorem vcRaise (n : Nat) (w : World) (h : VcAt w b s now v l) (hn : n < 8) (hw : (s n).wt = false) (hnow : now ≤ 1000000) :
    Calls Try.prog 9 #[.pointer (some ⟨b, 0, none⟩), .int .i64 n] w fun e w' => e = .returned (.int .i64 0) ∧ ∃ v' l', VcAt w' b (putF s n ⟨true, (s n).ms, (s n).pr, (now + 1 : Nat)⟩) (now + 1) v' l' ∧ Frm b v v' w w' := by
  have d0 := h.row.wt hn
  have c1 := h.row.nowC
  have hlt := h.lt
  rw [hw] at d0
  obtain ⟨m, hm⟩ : ∃ m, now + 1 = m := ⟨_, rfl⟩
  have e1 : (now : Int) + 1 = (m : Nat) := by omega
  have hmb : m ≤ 1000001 := by omega
  have z1 : w.frozen? ⟨b, 33, none⟩ = false := h.row.free 33
  have HM := Lib.hid hm
  rw [hm]
  clear hm
  go_enter Try.func9, Try.ntmps9
  go_wp2_with fail
  refine (vcMay b now s v l n _ h.row hn).mono ?_
  rintro e w' ⟨rfl, rfl⟩
  go_wp2_with fail
  have g1 : (w.setCell ⟨b, 33, none⟩ (.int .i64 m)).heap[b]? = some (.cells (vcBlk s m v) 59 (0, 0)) := by
    have := heap_setCell_at (o := 33) (u := .int .i64 m) h.row.1
    rw [vcBlk_setNow] at this
    exact this
  have fu : Upd b w (w.setCell ⟨b, 33, none⟩ (.int .i64 m)) := (Upd.refl b w).setCell
  generalize (w.setCell ⟨b, 33, none⟩ (.int .i64 m)) = w2 at g1 fu ⊢
  have r2 : vcRow w2 b (vcBlk s m) v l := h.row.reblk fu g1
  have c2 := r2.nowC
  have d2 := r2.wt hn
  have d3 := r2.sn hn
  have z2 : w2.frozen? ⟨b, n * 4, none⟩ = false := r2.free _
  have z3 : w2.frozen? ⟨b, n * 4 + 3, none⟩ = false := r2.free _
  have hlt2 : b < w2.heap.size := r2.lt
  have u1 : (w2.setCell ⟨b, n * 4, none⟩ (.bool true)).drew.cell? ⟨b, 33, none⟩ = w2.cell? ⟨b, 33, none⟩ := World.cell?_setCell_other _ _ _ _ (by simp <;> omega)
  have u2 : ((w2.setCell ⟨b, n * 4, none⟩ (.bool true)).setCell ⟨b, n * 4 + 3, none⟩ (.int .i64 m)).drew.cell? ⟨b, 33, none⟩ = w2.cell? ⟨b, 33, none⟩ := (World.cell?_setCell_other _ _ _ _ (by simp <;> omega)).trans u1
  have u3 : (w2.setCell ⟨b, n * 4, none⟩ (.bool true)).cell? ⟨b, n * 4 + 3, none⟩ = some (.int .i64 (s n).sn) := (World.cell?_setCell_other _ _ _ _ (by simp)).trans d3
  (refine wp_region_line 18 (fun x => ∃ y : LatC w2 ⟨b, 33, none⟩, x = laterC w2 ⟨b, 33, none⟩ y) (by kernel_rfl) rfl ?_)
  (refine wpSeg (0 :: 1 :: 2 :: 3 :: 4 :: 5 :: 6 :: 7 :: 8 :: 9 :: 10 :: 11 :: 13 :: 14 :: []) 4 (l := _) rfl (by simp only [List.filterMap_cons, List.filterMap_nil, List.getElem?_toArray, List.getElem?_cons_succ, List.getElem?_cons_zero]; rfl) (by kernel_rfl) (fun _ _ _ _ _ h => h) (laterC_of (w := w2.drew) rfl) ?_; show wpQuiet _ _ _ _ (_ :: _ :: _ :: _ :: _ :: _ :: _ :: _ :: _ :: _ :: _ :: _ :: _ :: _ :: []) _; (repeat (go_big_quiet_step (fail))); refine wpQuiet_nil ?_; show wpAnyH _ _ _ _ _ _ _ _ _)
  (refine wpOne 12 3 rfl rfl (by kernel_rfl) ?_; intro K hK; go_simp)
  (refine hK.out _ _ _ (fun _ h => h) (laterC_of u1) ?_; clear hK K)
  (refine wpSeg (15 :: 16 :: []) 1 (l := _) rfl (by simp only [List.filterMap_cons, List.filterMap_nil, List.getElem?_toArray, List.getElem?_cons_succ, List.getElem?_cons_zero]; rfl) (by kernel_rfl) (fun _ _ _ _ _ h => h) (laterC_of u1) ?_; show wpQuiet _ _ _ _ (_ :: _ :: []) _; (repeat (go_big_quiet_step (fail))); refine wpQuiet_nil ?_; show wpAnyH _ _ _ _ _ _ _ _ _)
  (refine wpOne 17 0 rfl rfl (by kernel_rfl) ?_; intro K hK; go_simp)
  (refine hK.out _ _ _ (fun _ h => h) (laterC_of u2) ?_; clear hK K)
  refine wpAnyH_done (by kernel_rfl) ?_ _
  have g3 : ((w2.setCell ⟨b, n * 4, none⟩ (.bool true)).setCell ⟨b, n * 4 + 3, none⟩ (.int .i64 m)).drew.heap[b]? = some (.cells (vcBlk (putF s n ⟨true, (s n).ms, (s n).pr, m⟩) m v) 59 (0, 0)) := by
    have := heap_setCell_at (o := n * 4 + 3) (u := .int .i64 m) (heap_setCell_at (o := n * 4) (u := .bool true) r2.1)
    rw [vcBlk_setWt _ _ _ _ _ hn, vcBlk_setSn _ _ _ _ _ hn, putF_at, putF_put] at this
    exact this
  have fu3 : Upd b w2 ((w2.setCell ⟨b, n * 4, none⟩ (.bool true)).setCell ⟨b, n * 4 + 3, none⟩ (.int .i64 m)).drew := (Upd.refl b w2).setCell.setCell.drew
  have r3 := r2.reblk fu3 g3
  clear u1 u2 u3 z2 z3 d2 d3 c2
  generalize ((w2.setCell ⟨b, n * 4, none⟩ (.bool true)).setCell ⟨b, n * 4 + 3, none⟩ (.int .i64 m)).drew = w3 at r3 fu3 ⊢
  clear g3
  go_wp2_with fail
  refine (vcSet b m s v l n _ _ r3 h.heap h.perm hn).mono ?_
  rintro e w4 ⟨rfl, v4, l4, h4, f4⟩
  go_wp2
  go_ret
  exact ⟨rfl, v4, l4, h4, ((Frm.of_own fu).trans (Frm.of_own fu3)).trans f4⟩

theorem vcClearNo (n : Int) (w : World) (h : VcAt w b s now v l) (hno : n < 0 ∨ 8 ≤ n ∨ ∃ k : Nat, k < 8 ∧ n = k ∧ (s k).wt = false) :
    Calls Try.prog 16 #[.pointer (some ⟨b, 0, none⟩), .int .i64 n] w fun e w' => e = .returned (.bool false) ∧ w = w' := by
  by_cases hr : n < 0 ∨ 8 ≤ n
  · go_enter Try.func16, Try.ntmps16
    go_wp2_with fail
    refine (vcMayNo b now s v l n _ h.row hr).mono ?_
    rintro e w' ⟨rfl, rfl⟩
    go_wp2
    go_ret
    exact ⟨rfl, rfl⟩
  · obtain ⟨k, hk, rfl, hw⟩ : ∃ k : Nat, k < 8 ∧ n = k ∧ (s k).wt = false := by
      rcases hno with h1 | h1 | h1
      · exact absurd (.inl h1) hr
      · exact absurd (.inr h1) hr
      · exact h1
    have d0 := h.row.wt hk
    rw [hw] at d0
    clear hr hno
    go_enter Try.func16, Try.ntmps16
    go_wp2_with fail
    refine (vcMay b now s v l k _ h.row hk).mono ?_
    rintro e w' ⟨rfl, rfl⟩
    go_wp2
    go_ret
    exact ⟨rfl, rfl⟩
set_option maxRecDepth 20000 in
set_option maxHeartbeats 1000000 in
theorem vcClear (n : Nat) (w : World) (h : VcAt w b s now v l) (hn : n < 8) (hw : (s n).wt = true) :
    Calls Try.prog 16 #[.pointer (some ⟨b, 0, none⟩), .int .i64 n] w fun e w' => e = .returned (.bool true) ∧ ∃ v' l', VcAt w' b (putF s n { s n with wt := false }) now v' l' ∧ Frm b v v' w w' := by
  have d0 := h.row.wt hn
  have z0 : w.frozen? ⟨b, n * 4, none⟩ = false := h.row.free _
  rw [hw] at d0
  go_enter Try.func16, Try.ntmps16
  go_wp2_with fail
  refine (vcMay b now s v l n _ h.row hn).mono ?_
  rintro e w' ⟨rfl, rfl⟩
  go_wp2_with fail
  have g3 : (w.setCell ⟨b, n * 4, none⟩ (.bool false)).heap[b]? = some (.cells (vcBlk (putF s n { s n with wt := false }) now v) 59 (0, 0)) := by
    have := heap_setCell_at (o := n * 4) (u := .bool false) h.row.1
    rw [vcBlk_setWt _ _ _ _ _ hn] at this
    exact this
  have fu : Upd b w (w.setCell ⟨b, n * 4, none⟩ (.bool false)) := (Upd.refl b w).setCell
  refine (vcSet b now s v l n _ _ (h.row.reblk fu g3) h.heap h.perm hn).mono ?_
  rintro e w4 ⟨rfl, v4, l4, h4, f4⟩
  go_wp2
  go_ret
  exact ⟨rfl, v4, l4, h4, (Frm.of_own fu).trans f4⟩

theorem vcMaskNo (n : Int) (c : Bool) (w : World) (h : VcAt w b s now v l) (hno : n < 0 ∨ 8 ≤ n) :
    Calls Try.prog 11 #[.pointer (some ⟨b, 0, none⟩), .int .i64 n, .bool c] w fun e w' => e = .returned (.int .i64 1) ∧ w = w' := by
  go_enter Try.func11, Try.ntmps11
  go_wp2_with fail
  refine (vcMayNo b now s v l n _ h.row hno).mono ?_
  rintro e w' ⟨rfl, rfl⟩
  go_wp2
  go_ret
  exact ⟨rfl, rfl⟩
set_option maxRecDepth 20000 in
set_option maxHeartbeats 1000000 in
theorem vcMask (n : Nat) (c : Bool) (w : World) (h : VcAt w b s now v l) (hn : n < 8) :
    Calls Try.prog 11 #[.pointer (some ⟨b, 0, none⟩), .int .i64 n, .bool c] w fun e w' => e = .returned (.int .i64 0) ∧ ∃ v' l', VcAt w' b (putF s n { s n with ms := c }) now v' l' ∧ Frm b v v' w w' := by
  have d0 := h.row.ms hn
  have z0 : w.frozen? ⟨b, n * 4 + 1, none⟩ = false := h.row.free _
  go_enter Try.func11, Try.ntmps11
  go_wp2_with fail
  refine (vcMay b now s v l n _ h.row hn).mono ?_
  rintro e w' ⟨rfl, rfl⟩
  go_wp2_with fail
  have g3 : (w.setCell ⟨b, n * 4 + 1, none⟩ (.bool c)).heap[b]? = some (.cells (vcBlk (putF s n { s n with ms := c }) now v) 59 (0, 0)) := by
    have := heap_setCell_at (o := n * 4 + 1) (u := .bool c) h.row.1
    rw [vcBlk_setMk _ _ _ _ _ hn] at this
    exact this
  have fu : Upd b w (w.setCell ⟨b, n * 4 + 1, none⟩ (.bool c)) := (Upd.refl b w).setCell
  refine (vcSet b now s v l n _ _ (h.row.reblk fu g3) h.heap h.perm hn).mono ?_
  rintro e w4 ⟨rfl, v4, l4, h4, f4⟩
  go_wp2
  go_ret
  exact ⟨rfl, v4, l4, h4, (Frm.of_own fu).trans f4⟩

theorem vcPrioNo (n p : Int) (w : World) (h : VcAt w b s now v l) (hno : n < 0 ∨ 8 ≤ n ∨ p < 0 ∨ 3 < p) :
    Calls Try.prog 10 #[.pointer (some ⟨b, 0, none⟩), .int .i64 n, .int .i64 p] w fun e w' => e = .returned (.int .i64 1) ∧ w = w' := by
  by_cases hr : n < 0 ∨ 8 ≤ n
  · go_enter Try.func10, Try.ntmps10
    go_wp2_with fail
    refine (vcMayNo b now s v l n _ h.row hr).mono ?_
    rintro e w' ⟨rfl, rfl⟩
    go_wp2
    go_ret
    exact ⟨rfl, rfl⟩
  · obtain ⟨k, rfl⟩ : ∃ k : Nat, n = k := ⟨n.toNat, by omega⟩
    have hk : k < 8 := by omega
    by_cases hp : p < 0
    · go_enter Try.func10, Try.ntmps10
      go_wp2_with fail
      refine (vcMay b now s v l k _ h.row hk).mono ?_
      rintro e w' ⟨rfl, rfl⟩
      go_wp2
      go_ret
      exact ⟨rfl, rfl⟩
    · have hp3 : 3 < p := by omega
      go_enter Try.func10, Try.ntmps10
      go_wp2_with fail
      refine (vcMay b now s v l k _ h.row hk).mono ?_
      rintro e w' ⟨rfl, rfl⟩
      go_wp2
      go_ret
      exact ⟨rfl, rfl⟩
set_option maxRecDepth 20000 in
set_option maxHeartbeats 1000000 in
theorem vcPrio (n : Nat) (p : Int) (w : World) (h : VcAt w b s now v l) (hn : n < 8) (hp0 : 0 ≤ p) (hp3 : p ≤ 3) :
    Calls Try.prog 10 #[.pointer (some ⟨b, 0, none⟩), .int .i64 n, .int .i64 p] w fun e w' => e = .returned (.int .i64 0) ∧ ∃ v' l', VcAt w' b (putF s n { s n with pr := p }) now v' l' ∧ Frm b v v' w w' := by
  have d0 := h.row.pr hn
  have z0 : w.frozen? ⟨b, n * 4 + 2, none⟩ = false := h.row.free _
  have hq0 : ¬ p < 0 := by omega
  have hq3 : ¬ 3 < p := by omega
  go_enter Try.func10, Try.ntmps10
  go_wp2_with fail
  refine (vcMay b now s v l n _ h.row hn).mono ?_
  rintro e w' ⟨rfl, rfl⟩
  go_wp2_with fail
  have g3 : (w.setCell ⟨b, n * 4 + 2, none⟩ (.int .i64 p)).heap[b]? = some (.cells (vcBlk (putF s n { s n with pr := p }) now v) 59 (0, 0)) := by
    have := heap_setCell_at (o := n * 4 + 2) (u := .int .i64 p) h.row.1
    rw [vcBlk_setPr _ _ _ _ _ hn] at this
    exact this
  have fu : Upd b w (w.setCell ⟨b, n * 4 + 2, none⟩ (.int .i64 p)) := (Upd.refl b w).setCell
  refine (vcSet b now s v l n _ _ (h.row.reblk fu g3) h.heap h.perm hn).mono ?_
  rintro e w4 ⟨rfl, v4, l4, h4, f4⟩
  go_wp2
  go_ret
  exact ⟨rfl, v4, l4, h4, (Frm.of_own fu).trans f4⟩
end
end Go.Proofs.Ytddngfhiaolkeaa
