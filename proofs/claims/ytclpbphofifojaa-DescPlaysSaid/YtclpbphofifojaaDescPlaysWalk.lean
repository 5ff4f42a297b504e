/- The walk of hermitagelaw21.DescPlays: true at every input. -/
import Derived.Test.YtclpbphofifojaaR21
import Derived.Test.YtclpbphofifojaaR21p
import Derived.Test.YtclpbphofifojaaReg2
namespace Go.Proofs.Ytclpbphofifojaa
open Go.ChangeShapes Go.WideShapes Go.ChangeAt Go.RowKit
set_option linter.unusedVariables false

def Four (w : World) (b : Nat) (v0 v1 v2 v3 : Value) : Prop := b < w.heap.size ∧ w.cell? ⟨b, 0, none⟩ = some v0 ∧ w.cell? ⟨b, 1, none⟩ = some v1 ∧ w.cell? ⟨b, 2, none⟩ = some v2 ∧ w.cell? ⟨b, 3, none⟩ = some v3
theorem Four.below {w w' : World} {b : Nat} {v0 v1 v2 v3 : Value} (h : Four w b v0 v1 v2 v3) (hb : Below w.heap.size w w') : Four w' b v0 v1 v2 v3 :=
  let ⟨hl, h0, h1, h2, h3⟩ := h
  ⟨Nat.lt_of_lt_of_le hl hb.size, (hb.cell (p := ⟨b, 0, none⟩) hl).trans h0, (hb.cell (p := ⟨b, 1, none⟩) hl).trans h1, (hb.cell (p := ⟨b, 2, none⟩) hl).trans h2, (hb.cell (p := ⟨b, 3, none⟩) hl).trans h3⟩
theorem four_new (w : World) (v0 v1 v2 v3 : Value) (t : TypeId) : Four (w.alloc (.cells #[v0, v1, v2, v3] t)) w.heap.size v0 v1 v2 v3 := by
  refine ⟨by simp, ?_, ?_, ?_, ?_⟩ <;> simp [go_sem]

/-- From behind both Gets on. -/
def GetsSame (p1 : Option Addr) (n1 c1 : Nat) (w : World) (A B C D E : Int) : Prop :=
  ∀ w', Below w.heap.size w w' → (Calls Try.prog 32 #[.slice p1 n1 c1] w' fun e w'' => e = .returned (.tuple #[.agg #[.int .u32 A, .int .u32 B, .int .u32 C, .int .u32 D], .int .i64 E]) ∧ Below w'.heap.size w' w'') ∧
    (Calls Try.prog 33 #[.slice p1 n1 c1] w' fun e w'' => e = .returned (.tuple #[.agg #[.int .u32 A, .int .u32 B, .int .u32 C, .int .u32 D], .int .i64 E]) ∧ Below w'.heap.size w' w'')
theorem gets_same (p1 : Option Addr) (n1 c1 : Nat) (f : Nat → Int) (w : World) (hs : SrcAt w p1 n1 f) (hc : n1 ≤ c1) : ∃ A B C D E, GetsSame p1 n1 c1 w A B C D E := by
  by_cases h : n1 = 16
  · subst h
    exact ⟨_, _, _, _, _, fun w' hb => ⟨dget_in p1 c1 f w' (hs.below hb) hc, rdget_in p1 c1 f w' (hs.below hb) hc⟩⟩
  · exact ⟨_, _, _, _, _, fun w' hb => ⟨dget_no p1 n1 c1 w' h, rdget_no p1 n1 c1 w' h⟩⟩

set_option maxRecDepth 100000 in
set_option maxHeartbeats 8000000 in
theorem descPlays_walk (l0 : List Value) (p1 : Option Addr) (n1 c1 : Nat) (f1 : Nat → List Value) (a2 : Int) (a3 : Int) (l4 : List Value) (w : World) (w0 : rowOk [some .u32, some .u32, some .u32, some .u32] l0) (w1 : SliceOk [some .u8] w p1 n1 c1 f1) (hR1 : c1 * 1 ≤ 140737488351232) (w2 : (Lit.int .i64 a2).wf = true) (w3 : (Lit.int .i64 a3).wf = true) (w4 : rowOk [some .u32, some .u32, some .u32, some .i64] l4) :
    Calls Try.prog 10 #[.agg l0.toArray, .slice p1 n1 c1, .int .i64 a2, .int .i64 a3, .agg l4.toArray] w fun e w' => e = .returned (.bool true) ∧ Below w.heap.size w w' := by
  obtain ⟨a, r, rfl, wa, w0⟩ := rowOk_int w0
  obtain ⟨b, r, rfl, wb', w0⟩ := rowOk_int w0
  obtain ⟨c, r, rfl, wc, w0⟩ := rowOk_int w0
  obtain ⟨d, r, rfl, wd, w0⟩ := rowOk_int w0
  obtain rfl := rowOk_nil w0
  obtain ⟨ra, r, rfl, wra, w4⟩ := rowOk_int w4
  obtain ⟨rb, r, rfl, wrb, w4⟩ := rowOk_int w4
  obtain ⟨rc, r, rfl, wrc, w4⟩ := rowOk_int w4
  obtain ⟨rn, r, rfl, wrn, w4⟩ := rowOk_int w4
  obtain rfl := rowOk_nil w4
  have ba := bounds_u32 wa
  have bb := bounds_u32 wb'
  have bc := bounds_u32 wc
  have bd := bounds_u32 wd
  have rba := (bounds_u32 wra).1
  have rbb := (bounds_u32 wrb).1
  have rbc := (bounds_u32 wrc).1
  obtain ⟨f, hs⟩ := src_of_ok w1
  obtain ⟨A, B, C, D, E, hG⟩ := gets_same p1 n1 c1 f w hs w1.1
  clear w0 w4 wa wb' wc wd wra wrb wrc wrn w2 w3 w1 hs
  go_enter Try.func10, Try.ntmps10
  go_wp2_with fail
  have fa := (four_new w (.int .u32 a) (.int .u32 b) (.int .u32 c) (.int .u32 d) 30).below (Bel.refl _).alloc.1 (w' := (w.alloc (.cells #[.int .u32 a, .int .u32 b, .int .u32 c, .int .u32 d] 30)).alloc (.cells #[.int .u32 ra, .int .u32 rb, .int .u32 rc, .int .i64 rn] 28))
  have fr := four_new (w.alloc (.cells #[.int .u32 a, .int .u32 b, .int .u32 c, .int .u32 d] 30)) (.int .u32 ra) (.int .u32 rb) (.int .u32 rc) (.int .i64 rn) 28
  rw [show (w.alloc (.cells #[.int .u32 a, .int .u32 b, .int .u32 c, .int .u32 d] 30)).heap.size = w.heap.size + 1 from by simp] at fr
  refine (hG _ (Bel.refl w).alloc.alloc.1).1.mono ?_
  rintro e w3 ⟨rfl, hb3⟩
  have hbel3 : Bel w.heap.size w w3 := Bel.of (Bel.refl w).alloc.alloc hb3
  replace fa := (fa.below hb3).below (Bel.refl _).alloc.1 (w' := w3.alloc (.cells #[.int .u32 A, .int .u32 B, .int .u32 C, .int .u32 D] 30))
  replace fr := (fr.below hb3).below (Bel.refl _).alloc.1 (w' := w3.alloc (.cells #[.int .u32 A, .int .u32 B, .int .u32 C, .int .u32 D] 30))
  have fx := four_new w3 (.int .u32 A) (.int .u32 B) (.int .u32 C) (.int .u32 D) 30
  go_wp2_with fail
  refine (hG _ hbel3.alloc.1).2.mono ?_
  rintro e w4 ⟨rfl, hb4⟩
  have hbel : Bel w.heap.size w w4 := hbel3.alloc.of hb4
  replace fa := (fa.below hb4).below (Bel.refl _).alloc.1 (w' := w4.alloc (.cells #[.int .u32 A, .int .u32 B, .int .u32 C, .int .u32 D] 30))
  replace fr := (fr.below hb4).below (Bel.refl _).alloc.1 (w' := w4.alloc (.cells #[.int .u32 A, .int .u32 B, .int .u32 C, .int .u32 D] 30))
  replace fx := (fx.below hb4).below (Bel.refl _).alloc.1 (w' := w4.alloc (.cells #[.int .u32 A, .int .u32 B, .int .u32 C, .int .u32 D] 30))
  have fy := four_new w4 (.int .u32 A) (.int .u32 B) (.int .u32 C) (.int .u32 D) 30
  have hbW := hbel.alloc (o := .cells #[.int .u32 A, .int .u32 B, .int .u32 C, .int .u32 D] 30)
  clear hb3 hb4 hG hbel3 hbel
  go_wp2_with fail
  generalize hW : World.alloc _ _ = W
  rw [hW] at fa fr fx fy hbW
  clear hW
  obtain ⟨la, a0, a1, a2', a3'⟩ := id fa
  obtain ⟨lx, x0, x1, x2, x3⟩ := fx
  obtain ⟨ly, y0, y1, y2, y3⟩ := fy
  (refine wp_region_line 26 (fun x => ∃ y : Lat W, x = later W y) (by kernel_rfl) rfl ?_)
  (refine wpSeg (0 :: 1 :: 2 :: 3 :: 4 :: 5 :: 6 :: 7 :: 8 :: 9 :: 12 :: []) 15 (l := _) rfl (by simp only [List.filterMap_cons, List.filterMap_nil, List.getElem?_toArray, List.getElem?_cons_succ, List.getElem?_cons_zero]; rfl) (by kernel_rfl) (fun _ _ _ _ _ h => h) (later_drew) ?_; show wpQuiet _ _ _ _ (_ :: _ :: _ :: _ :: _ :: _ :: _ :: _ :: _ :: _ :: _ :: []) _; (repeat (go_big_quiet_step (fail))); refine wpQuiet_nil ?_; show wpAnyH _ _ _ _ _ _ _ _ _)
  clear x0 x1 x2 x3 y0 y1 y2 y3 lx ly
  (refine wpOne 10 14 rfl rfl (by kernel_rfl) ?_; intro K hK; go_simp)
  refine (dput_any a b c d _ ba bb bc bd).mono ?_
  rintro e w5 ⟨gp, rfl, _, hrp, hb5⟩
  have hB5 : Below W.heap.size W w5 := (Bel.refl W).drew.of hb5 |>.1
  have kp : ∀ y : Lat w5, (convert 34 9 (.slice (some ⟨gp, 0, none⟩) 16 16)).run Try.prog (later w5 y) = .ok (.string (strF (wb (four a b c d) 4) 16)) (later w5 y) := fun y => conv_bytes (hrp.bat.below (later_below w5 y)) 16
  (refine hK.out (fun x => ∃ y : Lat w5, x = later w5 y) _ _ (later_narrow (hB5)) later_self ?_; clear hK K)
  (refine wpSeg (11 :: []) 13 (l := _) rfl (by simp only [List.filterMap_cons, List.filterMap_nil, List.getElem?_toArray, List.getElem?_cons_succ, List.getElem?_cons_zero]; rfl) (by kernel_rfl) (fun _ _ _ _ _ h => h) (later_self) ?_; show wpQuiet _ _ _ _ (_ :: []) _; (repeat (go_big_quiet_step (fail))); refine wpQuiet_nil ?_; show wpAnyH _ _ _ _ _ _ _ _ _)
  clear kp hrp
  (refine wpOne 13 12 rfl rfl (by kernel_rfl) ?_; intro K hK; go_simp)
  refine (rput_any a b c d _ ba bb bc bd).mono ?_
  rintro e w6 ⟨gr, capr, rfl, hrr, hb6⟩
  have kr : ∀ y : Lat w6, (convert 34 9 (.slice (some ⟨gr, 0, none⟩) 16 capr)).run Try.prog (later w6 y) = .ok (.string (strF (wb (four a b c d) 4) 16)) (later w6 y) := fun y => conv_bytes (hrr.bat.below (later_below w6 y)) capr
  have hB6 : Below W.heap.size W w6 := hB5.trans (hb6.mono hB5.size)
  obtain ⟨la, a0, a1, a2', a3'⟩ := fa.below hB6
  (refine hK.out (fun x => ∃ y : Lat w6, x = later w6 y) _ _ (later_narrow (hb6)) later_self ?_; clear hK K)
  (refine wpSeg (14 :: 15 :: 16 :: 17 :: 18 :: 19 :: 21 :: 22 :: []) 4 (l := _) rfl (by simp only [List.filterMap_cons, List.filterMap_nil, List.getElem?_toArray, List.getElem?_cons_succ, List.getElem?_cons_zero]; rfl) (by kernel_rfl) (fun _ _ _ _ _ h => h) (later_self) ?_; show wpQuiet _ _ _ _ (_ :: _ :: _ :: _ :: _ :: _ :: _ :: _ :: []) _; (repeat (go_big_quiet_step (fail))); refine wpQuiet_nil ?_; show wpAnyH _ _ _ _ _ _ _ _ _)
  clear kr hrr
  (refine wpOne 20 3 rfl rfl (by kernel_rfl) ?_; intro K hK; go_simp)
  refine (check_any a b c d a3 bc.1 bc.2 bd.1 bd.2 _).mono ?_
  rintro e w7 ⟨rfl, hb7⟩
  have hB7 : Below W.heap.size W w7 := hB6.trans (hb7.mono hB6.size)
  (refine hK.out (fun x => ∃ y : Lat w7, x = later w7 y) _ _ (later_narrow (hb7)) later_self ?_; clear hK K)
  (refine wpOne 23 2 rfl rfl (by kernel_rfl) ?_; intro K hK; go_simp)
  refine (rcheck_any a b c d a3 bc.1 bc.2 bd.1 bd.2 _).mono ?_
  rintro e w8 ⟨rfl, hb8⟩
  have hB8 : Below W.heap.size W w8 := hB7.trans (hb8.mono hB7.size)
  (refine hK.out (fun x => ∃ y : Lat w8, x = later w8 y) _ _ (later_narrow (hb8)) later_self ?_; clear hK K)
  (refine wpSeg (24 :: 25 :: []) 0 (l := _) rfl (by simp only [List.filterMap_cons, List.filterMap_nil, List.getElem?_toArray, List.getElem?_cons_succ, List.getElem?_cons_zero]; rfl) (by kernel_rfl) (fun _ _ _ _ _ h => h) (later_self) ?_; show wpQuiet _ _ _ _ (_ :: _ :: []) _; (repeat (go_big_quiet_step (fail))); refine wpQuiet_nil ?_; show wpAnyH _ _ _ _ _ _ _ _ _)
  refine wpAnyH_done (by kernel_rfl) ?_ _
  obtain ⟨lr, r0, r1, r2, r3⟩ := fr.below hB8
  have hbel8 := hbW.trans (⟨hB8, hB8.size⟩ : Bel W.heap.size W w8) hbW.2
  clear hb5 hb6 hb7 hb8 hB5 hB6 hB7 hB8 fa fr a0 a1 a2' a3' la hbW
  go_wp2_with fail
  refine wp_region_later (by kernel_rfl) (by kernel_rfl) ?_
  repeat (first | go_big_quiet_step (first
    | (go_at_call 12; exact Calls.later_same (sized_any _ _))
    | (go_at_call 36; exact Calls.later_same (rsized_any _ _))
    | (go_at_call 11; exact Calls.later_same (size_any _ _ _))
    | (go_at_call 37; exact Calls.later_same (rsize_any _ _ _))
    | (go_at_call 14; exact Calls.later_of (right_any _ _ _ _ rba rbb rbc _))
    | (go_at_call 38; exact Calls.later_of (rright_any _ _ _ _ rba rbb rbc _))
    | (go_at_call 13; exact Calls.later_of (awake21 _))))
  refine wpQuiet_nil ?_
  intro _ hw'
  obtain ⟨x9, hw''⟩ := hw'
  subst hw''
  go_wp2_with fail
  go_ret
  exact ⟨rfl, hbel8.later.1⟩

end Go.Proofs.Ytclpbphofifojaa
