/- law 33: InputsPlays. -/
import Derived.Test.YtjlhdbkhebfghaaR33d
namespace Go.Proofs.Ytjlhdbkhebfghaa
open Go.ChangeShapes Go.WideShapes Go.ChangeAt Go.RowKit
set_option linter.unusedVariables false

structure IPl (w0 w : World) (bx rb n : Nat) (V : Nat → Value) (L : Nat → List inIt) (VL : Value) (U : List Value) (R : Nat → List inIt) : Prop where
  x : InAt w bx n V L
  rf : RiAt w rb n VL U R
  bel : Bel w0.heap.size w0 w
  basex : w0.heap.size ≤ bx
  baser : w0.heap.size ≤ rb
  perm : ∀ g, g < n → (L g).Perm (R g)
  inc : ∀ g, g < n → Inc (R g)
section
variable {w0 w w1 w2 : World} {bx rb n : Nat} {V : Nat → Value} {L : Nat → List inIt} {VL : Value} {U U' : List Value} {R : Nat → List inIt}
theorem IPl.below (h : IPl w0 w bx rb n V L VL U R) (hb : Below w.heap.size w w1) : IPl w0 w1 bx rb n V L VL U R := ⟨h.x.below hb, h.rf.below hb, h.bel.of hb, h.basex, h.baser, h.perm, h.inc⟩
/-- What the object does leaves the reference as it is. -/
theorem RiAt.frmX {v v' : Value} {g : Nat} (h : RiAt w rb n VL U R) (hx : InAt w bx n V L) (hg : g < 4) (f : Frm bx (V g) v' w w1) : RiAt w1 rb n VL U R := by
  have hr := hx.row hg
  exact ⟨h.row.frm hr f (by decide) (by decide) (by decide) (by decide), h.len, fun q hq => ownsRow_other f hr (h.own q hq) (by decide) (by decide)⟩
theorem InAt.frmR {v' : Value} (hx : InAt w bx n V L) (h : RiAt w rb n VL U R) (f : Frm rb VL v' w w1) : InAt w1 bx n V L := by
  refine ⟨?_, fun q hq => ownsRow_other f h.row (hx.rows q hq) (by decide) (by decide), hx.heap, hx.apart⟩
  exact f.other h.row hx.blk (by decide) (by decide)
theorem IPl.step {g : Nat} {v' : Value} {l2 l3 : List inIt} (h : IPl w0 w bx rb n V L VL U R) (hg : g < n) (hn : n ≤ 4) (hI : InAt w1 bx n (putF V g v') (putF L g l2)) (f1 : Frm bx (V g) v' w w1) (hR : RiAt w2 rb n VL U' (putF R g l3)) (f2 : Frm rb VL VL w1 w2) (hp : l2.Perm l3) (hi : Inc l3) : IPl w0 w2 bx rb n (putF V g v') (putF L g l2) VL U' (putF R g l3) := by
  have hR1 := h.rf.frmX (v := v') (v' := v') h.x (by omega) f1
  refine ⟨hI.frmR hR1 f2, hR, ?_, h.basex, h.baser, fun q hq => ?_, fun q hq => ?_⟩
  · refine (h.bel.frm f1 h.basex (fun a ha => ?_)).frm f2 h.baser (fun a ha => ?_)
    · have := ((h.x.rows g (by omega)).lt a ha).1
      have := h.basex
      omega
    · have := (hR1.row.own a ha).1
      have := h.baser
      omega
  · by_cases e : q = g
    · subst e; rw [putF_at, putF_at]; exact hp
    · rw [putF_ne _ _ e, putF_ne _ _ e]; exact h.perm q hq
  · by_cases e : q = g
    · subst e; rw [putF_at]; exact hi
    · rw [putF_ne _ _ e]; exact h.inc q hq
end
/-- Both give the same. -/
theorem took_same {m : Int} {l r xs ys l' l'' : List inIt} (p : l.Perm r) (hi : Inc r) (t1 : Took inLt (dueBy m) l xs l') (t2 : Took inLt (dueBy m) r ys l'') (h1 : xs.length ≤ 4) (h2 : ys.length ≤ 4)
    (r1 : xs.length = 4 ∨ ∀ y ∈ l', m < y.tat) (r2 : ys.length = 4 ∨ ∀ y ∈ l'', m < y.tat) : xs = ys ∧ l'.Perm l'' := by
  have t3 := t1.of_perm p
  have hl : xs.length = ys.length := by rw [t3.many h1 r1, t2.many h2 r2]
  have ht : Total inLt r := fun x hx y hy h3 h4 => by
    obtain ⟨i, hil, rfl⟩ := mem_is_atL hx
    obtain ⟨j, hjl, rfl⟩ := mem_is_atL hy
    rw [inLt_false] at h3 h4
    rcases Nat.lt_trichotomy i j with h | h | h
    · have := hi.at h hjl; omega
    · rw [h]
    · have := hi.at h hil; omega
  have e := Took.same inLt_ordered ht t3 t2 hl
  subst e
  exact ⟨rfl, t3.rest t2⟩
theorem inc_of_pl {A : List inIt} (h : ∀ i, i < A.length → (atL A i).pl = i) : Inc A := by
  unfold Inc
  rw [List.pairwise_iff_getElem]
  intro i j hi hj hij
  have h1 := h i hi
  have h2 := h j hj
  rw [atL_eq hi] at h1
  rw [atL_eq hj] at h2
  omega
theorem dueN (b n : Nat) (V : Nat → Value) (L : Nat → List inIt) (g : Nat) (m : Int) (w : World) (h : InAt w b n V L) (hn : n ≤ 4) (hg : g < n) (hl : (L g).length ≤ 1000) :
    Calls Try.prog 22 #[.pointer (some ⟨b, 0, none⟩), .int .i64 g, .int .i64 m] w fun e w' => ∃ a c xs l' v', e = .returned (.slice a xs.length c) ∧ Took inLt (dueBy m) (L g) xs l' ∧ xs.length ≤ 4 ∧ (xs.length = 4 ∨ ∀ y ∈ l', m < y.tat) ∧ InAt w' b n (putF V g v') (putF L g l') ∧ w'.ownsRow w.heap.size 55 5 (.slice a xs.length c) xs.length (xs.flatMap inArg) ∧ Frm b (V g) v' w w' :=
  (inDue b n V L g m w h hn hg hl).mono fun e w' ⟨out, xs, l', v', he, hT, h4, hr, hI, ho, f⟩ => by
    obtain ⟨a, c, rfl⟩ := ownsRow_shape ho
    exact ⟨a, c, xs, l', v', he, hT, h4, hr, hI, ho, f⟩

set_option maxRecDepth 100000 in
set_option maxHeartbeats 4000000 in
theorem inputsPlays_walk (a0 : Int) (p1 : Option Addr) (n1 c1 : Nat) (f1 : Nat → List Value) (p2 : Option Addr) (n2 c2 : Nat) (f2 : Nat → List Value) (p3 : Option Addr) (n3 c3 : Nat) (f3 : Nat → List Value) (w : World) (w0 : (Lit.int .i64 a0).wf = true) (w1 : SliceOkS [.int .i64, .int .i64, .int .i64, .int .i64, .str] w p1 n1 c1 f1) (hR1 : c1 * 48 ≤ 140737488351232) (w2 : SliceOk [some .i64] w p2 n2 c2 f2) (hR2 : c2 * 8 ≤ 140737488351232) (w3 : SliceOk [some .i64] w p3 n3 c3 f3) (hR3 : c3 * 8 ≤ 140737488351232) :
    Calls Try.prog 5 #[.int .i64 a0, .slice p1 n1 c1, .slice p2 n2 c2, .slice p3 n3 c3] w fun e w' => e = .returned (.bool true) ∧ Below w.heap.size w w' := by
  obtain ⟨A, hA, hpl⟩ := items_of_arg w1
  have hn1 : n1 ≤ 140737488351232 := by have := w1.1; omega
  have hn2 : n2 ≤ 140737488351232 := by have := w2.1; omega
  have hn3 : n3 ≤ 140737488351232 := by have := w3.1; omega
  clear w0 w1 hR1 hR2 hR3
  by_cases hbig : 60 < n1
  · by_cases hno : a0 < 1 ∨ 4 < a0
    · have hcases : a0 < 1 ∨ (¬ a0 < 1 ∧ 4 < a0) := by omega
      rcases hcases with ha | ⟨ha, hb⟩
      · have hA1 : decide (1 ≤ a0) = false := decide_eq_false (by omega)
        go_enter Try.func5, Try.ntmps5
        go_wp2_with fail
        refine (inNewNo a0 p1 n1 c1 _ hno).mono ?_
        rintro e w' ⟨rfl, rfl⟩
        go_wp2_with fail
        refine (awake33 _).mono ?_
        rintro e w7 ⟨rfl, b7⟩
        go_wp2
        go_ret
        exact ⟨rfl, b7⟩
      · have hA1 : decide (1 ≤ a0) = true := decide_eq_true (by omega)
        have hA4 : decide (a0 ≤ 4) = false := decide_eq_false (by omega)
        go_enter Try.func5, Try.ntmps5
        go_wp2_with fail
        refine (inNewNo a0 p1 n1 c1 _ hno).mono ?_
        rintro e w' ⟨rfl, rfl⟩
        go_wp2_with fail
        refine (awake33 _).mono ?_
        rintro e w7 ⟨rfl, b7⟩
        go_wp2
        go_ret
        exact ⟨rfl, b7⟩
    · obtain ⟨gn, rfl⟩ : ∃ gn : Nat, a0 = gn := ⟨a0.toNat, by omega⟩
      have hg1 : 1 ≤ gn := by omega
      have hg4 : gn ≤ 4 := by omega
      clear hno
      by_cases hlong : 256 < n1
      · have hA5 : decide ((n1 : Int) ≤ 256) = false := decide_eq_false (by omega)
        go_enter Try.func5, Try.ntmps5
        go_wp2_with fail
        refine (inNewLong gn p1 n1 c1 _ (by omega) (by omega) hlong).mono ?_
        rintro e w' ⟨rfl, rfl⟩
        go_wp2_with fail
        refine (awake33 _).mono ?_
        rintro e w7 ⟨rfl, b7⟩
        go_wp2
        go_ret
        exact ⟨rfl, b7⟩
      · have hA5 : decide (n1 ≤ 256) = true := decide_eq_true (by omega)
        go_enter Try.func5, Try.ntmps5
        go_wp2_with fail
        refine (inNew gn p1 n1 c1 A _ hg1 hg4 (by omega) hA hpl).mono ?_
        rintro e wx ⟨VX, LX, rfl, hIX, hpX, hbx⟩
        go_wp2_with fail
        refine (awake33 _).mono ?_
        rintro e w7 ⟨rfl, b7⟩
        go_wp2
        go_ret
        exact ⟨rfl, (Bel.of ⟨hbx, hbx.size⟩ b7).1⟩
  · by_cases hno : a0 < 1 ∨ 4 < a0
    · go_enter Try.func5, Try.ntmps5
      go_wp2_with fail
      refine (inNewNo a0 p1 n1 c1 _ hno).mono ?_
      rintro e w' ⟨rfl, rfl⟩
      go_wp2_with fail
      refine (riNewNo a0 p1 n1 c1 _ hno).mono ?_
      rintro e w' ⟨rfl, rfl⟩
      go_wp2_with fail
      refine (awake33 _).mono ?_
      rintro e w7 ⟨rfl, b7⟩
      go_wp2
      go_ret
      exact ⟨rfl, b7⟩
    · obtain ⟨gn, rfl⟩ : ∃ gn : Nat, a0 = gn := ⟨a0.toNat, by omega⟩
      have hg1 : 1 ≤ gn := by omega
      have hg4 : gn ≤ 4 := by omega
      have hn60 : n1 ≤ 60 := by omega
      clear hno
      go_enter Try.func5, Try.ntmps5
      go_wp2_with fail
      refine (inNew gn p1 n1 c1 A _ hg1 hg4 (by omega) hA hpl).mono ?_
      rintro e wx ⟨VX, LX, rfl, hIX, hpX, hbx⟩
      have hAx := hA.below hbx
      go_wp2_with fail
      refine (riNew gn p1 n1 c1 A _ hg1 hg4 (by omega) hAx).mono ?_
      rintro e wy ⟨VL, U, rfl, hRY, hby⟩
      have hP0 : IPl w wy w.heap.size wx.heap.size gn VX LX VL U (fun g => cntR A g n1) := by
        refine ⟨hIX.below hby, hRY, Bel.of ⟨hbx, hbx.size⟩ hby, Nat.le_refl _, hbx.size, fun g hg => ?_, fun g hg => ?_⟩
        · have := hpX g (by omega)
          rwa [cntL, if_pos hg] at this
        · have hl := hA.1
          have h1 : Inc A := inc_of_pl fun i hi => hpl i (by omega)
          exact (h1.sublist (List.take_sublist ..)).filter _
      have hB0 : Hid (∀ g, g < gn → (cntR A g n1).length ≤ 1000) := Lib.hid fun g hg => by have := cntR_le A g n1; omega
      clear hIX hpX hbx hAx hRY hby hpl
      go_wp2_with fail
      go_loopw [15] (fun iv wr => ∃ (i : Nat) (V : Nat → Value) (L : Nat → List inIt) (VL : Value) (U : List Value) (R : Nat → List inIt), i ≤ 60 ∧ iv = .int .i64 i ∧ IPl w wr w.heap.size wx.heap.size gn V L VL U R ∧ Hid (∀ g, g < gn → (R g).length ≤ 1000)) (fun iv _ => 60 - (intOf iv).toNat)
      case atStart => exact ⟨0, VX, LX, VL, U, _, Nat.zero_le _, rfl, hP0, hB0⟩
      case round =>
        obtain ⟨i, V, L, VL, U, R, hi60, rfl, hP, HB⟩ := hrel
        clear hP0 hB0
        by_cases hall : i < n2 ∧ i < n3 ∧ i < 60
        · obtain ⟨hi2, hi3, hi6⟩ := hall
          obtain ⟨b2, o2, q, rfl, l2, _, _, q2⟩ := w2.int1 hi2
          obtain ⟨b3, o3, m, rfl, l3, _, _, q3⟩ := w3.int1 hi3
          clear w2 w3 hA
          obtain ⟨wq, rfl⟩ : ∃ wq : World, wq = wr := ⟨_, rfl⟩
          have hPd : IPl w wq.drew w.heap.size wx.heap.size gn V L VL U R := hP.below (Bel.refl wq).drew.1
          go_wp2_with fail
          (refine wp_region_line 37 (fun x => ∃ y : LatF w.heap.size w, x = laterF w.heap.size w y) (by kernel_rfl) rfl ?_)
          (refine wpSeg (0 :: 1 :: 2 :: 3 :: 4 :: 5 :: 6 :: 7 :: 8 :: 10 :: 11 :: 12 :: 13 :: 14 :: 15 :: 16 :: 17 :: 18 :: []) 19 (l := _) rfl (by simp only [List.filterMap_cons, List.filterMap_nil, List.getElem?_toArray, List.getElem?_cons_succ, List.getElem?_cons_zero]; rfl) (by kernel_rfl) (fun _ _ _ _ _ h => h) (laterF_of hPd.bel.1) ?_; show wpQuiet _ _ _ _ (_ :: _ :: _ :: _ :: _ :: _ :: _ :: _ :: _ :: _ :: _ :: _ :: _ :: _ :: _ :: _ :: _ :: _ :: []) _; (repeat (go_big_quiet_step (fail))); refine wpQuiet_nil ?_; show wpAnyH _ _ _ _ _ _ _ _ _)
          (refine wpOne 9 18 rfl rfl (by kernel_rfl) ?_; intro K hK; go_simp)
          by_cases hno : q < 0 ∨ (gn : Int) ≤ q
          · refine (inDueNo (some ⟨w.heap.size, 0, none⟩) q m _ (xRowNo w.heap.size gn V L q _ hPd.x hno)).mono ?_
            rintro e w' ⟨rfl, rfl⟩
            (refine hK.out _ _ _ (fun _ h => h) (laterF_of hPd.bel.1) ?_; clear hK K)
            (refine wpOne 19 17 rfl rfl (by kernel_rfl) ?_; intro K hK; go_simp)
            refine (riDueNo wx.heap.size gn VL U R q m _ hPd.rf hno).mono ?_
            rintro e w' ⟨rfl, rfl⟩
            (refine hK.out _ _ _ (fun _ h => h) (laterF_of hPd.bel.1) ?_; clear hK K)
            (refine wpOne 20 16 rfl rfl (by kernel_rfl) ?_; intro K hK; go_simp)
            refine (sameSame none none 0 0 0 [] _ ⟨rfl, fun h => by omega⟩ ⟨rfl, fun h => by omega⟩ (by omega)).mono ?_
            rintro e we ⟨rfl, hbe⟩
            have hPe := hPd.below hbe
            (refine hK.out _ _ _ (fun _ h => h) (laterF_of hPe.bel.1) ?_; clear hK K)
            (refine wpSeg (21 :: 22 :: 23 :: 24 :: 25 :: 26 :: 27 :: 29 :: 30 :: 31 :: 32 :: 33 :: []) 4 (l := _) rfl (by simp only [List.filterMap_cons, List.filterMap_nil, List.getElem?_toArray, List.getElem?_cons_succ, List.getElem?_cons_zero]; rfl) (by kernel_rfl) (fun _ _ _ _ _ h => h) (laterF_of hPe.bel.1) ?_; show wpQuiet _ _ _ _ (_ :: _ :: _ :: _ :: _ :: _ :: _ :: _ :: _ :: _ :: _ :: _ :: []) _; (repeat (go_big_quiet_step (fail))); refine wpQuiet_nil ?_; show wpAnyH _ _ _ _ _ _ _ _ _)
            (refine wpOne 28 3 rfl rfl (by kernel_rfl) ?_; intro K hK; go_simp)
            refine (inLeftNo (some ⟨w.heap.size, 0, none⟩) q _ (xRowNo w.heap.size gn V L q _ hPe.x hno)).mono ?_
            rintro e w' ⟨rfl, rfl⟩
            (refine hK.out _ _ _ (fun _ h => h) (laterF_of hPe.bel.1) ?_; clear hK K)
            (refine wpOne 34 2 rfl rfl (by kernel_rfl) ?_; intro K hK; go_simp)
            refine (riLeftNo wx.heap.size gn VL U R q _ hPe.rf hno).mono ?_
            rintro e w' ⟨rfl, rfl⟩
            (refine hK.out _ _ _ (fun _ h => h) (laterF_of hPe.bel.1) ?_; clear hK K)
            (refine wpSeg (35 :: 36 :: []) 0 (l := _) rfl (by simp only [List.filterMap_cons, List.filterMap_nil, List.getElem?_toArray, List.getElem?_cons_succ, List.getElem?_cons_zero]; rfl) (by kernel_rfl) (fun _ _ _ _ _ h => h) (laterF_of hPe.bel.1) ?_; show wpQuiet _ _ _ _ (_ :: _ :: []) _; (repeat (go_big_quiet_step (fail))); refine wpQuiet_nil ?_; show wpAnyH _ _ _ _ _ _ _ _ _)
            refine wpAnyH_done (by kernel_rfl) ?_ _
            clear hPd hno hbe
            go_wp2
            go_roundw
            case rel => exact ⟨i + 1, V, L, VL, U, R, by omega, by go_num, hPe, HB⟩
            case measure => simp [intOf]; omega
          · obtain ⟨g, rfl⟩ : ∃ g : Nat, q = g := ⟨q.toNat, by omega⟩
            have hg : g < gn := by omega
            clear hno
            have hLR := (hPd.perm g hg).length_eq
            have hRl := HB.out g hg
            refine (dueN w.heap.size gn V L g m _ hPd.x hg4 hg (by omega)).mono ?_
            rintro e wc ⟨a5, c5, xs, l5, v5, rfl, hT5, hx5, hr5, hI5, ow5, fr5⟩
            have hRc := hPd.rf.frmX (v := v5) hPd.x (by omega) fr5
            have hbc : Bel w.heap.size w wc := hPd.bel.frm fr5 (Nat.le_refl _) (fun a ha => by have := ((hPd.x.rows g (by omega)).lt a ha).1; omega)
            (refine hK.out _ _ _ (fun _ h => h) (laterF_of hbc.1) ?_; clear hK K)
            (refine wpOne 19 17 rfl rfl (by kernel_rfl) ?_; intro K hK; go_simp)
            refine (riDue wx.heap.size gn VL U R g m _ hRc hg4 hg hRl (hPd.inc g hg)).mono ?_
            rintro e wd ⟨a6, c6, ys, l6, U6, rfl, hT6, hx6, hr6, hI6, hR6, ow6, fr6⟩
            obtain ⟨hxy, hp56⟩ := took_same (hPd.perm g hg) (hPd.inc g hg) hT5 hT6 hx5 hx6 hr5 hr6
            subst hxy
            have hPd2 : IPl w wd w.heap.size wx.heap.size gn (putF V g v5) (putF L g l5) VL U6 (putF R g l6) := hPd.step hg hg4 hI5 fr5 hR6 fr6 hp56 hI6
            have ow5b := ownsRow_other fr6 hRc.row ow5 (by decide) (by decide)
            (refine hK.out _ _ _ (fun _ h => h) (laterF_of hPd2.bel.1) ?_; clear hK K)
            (refine wpOne 20 16 rfl rfl (by kernel_rfl) ?_; intro K hK; go_simp)
            refine (sameSame a5 a6 xs.length c5 c6 xs wd (items_at ow5b) (items_at ow6) (by omega)).mono ?_
            rintro e we ⟨rfl, hbe⟩
            have hPe := hPd2.below hbe
            (refine hK.out _ _ _ (fun _ h => h) (laterF_of hPe.bel.1) ?_; clear hK K)
            (refine wpSeg (21 :: 22 :: 23 :: 24 :: 25 :: 26 :: 27 :: 29 :: 30 :: 31 :: 32 :: 33 :: []) 4 (l := _) rfl (by simp only [List.filterMap_cons, List.filterMap_nil, List.getElem?_toArray, List.getElem?_cons_succ, List.getElem?_cons_zero]; rfl) (by kernel_rfl) (fun _ _ _ _ _ h => h) (laterF_of hPe.bel.1) ?_; show wpQuiet _ _ _ _ (_ :: _ :: _ :: _ :: _ :: _ :: _ :: _ :: _ :: _ :: _ :: _ :: []) _; (repeat (go_big_quiet_step (fail))); refine wpQuiet_nil ?_; show wpAnyH _ _ _ _ _ _ _ _ _)
            (refine wpOne 28 3 rfl rfl (by kernel_rfl) ?_; intro K hK; go_simp)
            refine (inLeft w.heap.size gn _ _ g _ hPe.x hg4 hg).mono ?_
            rintro e w' ⟨rfl, rfl⟩
            (refine hK.out _ _ _ (fun _ h => h) (laterF_of hPe.bel.1) ?_; clear hK K)
            (refine wpOne 34 2 rfl rfl (by kernel_rfl) ?_; intro K hK; go_simp)
            refine (riLeft wx.heap.size gn VL U6 _ g _ hPe.rf hg4 hg).mono ?_
            rintro e w' ⟨rfl, rfl⟩
            (refine hK.out _ _ _ (fun _ h => h) (laterF_of hPe.bel.1) ?_; clear hK K)
            have hll : (((putF L g l5 g).length : Int) != (putF R g l6 g).length) = false := by rw [(hPe.perm g hg).length_eq]; simp
            (refine wpSeg (35 :: 36 :: []) 0 (l := _) rfl (by simp only [List.filterMap_cons, List.filterMap_nil, List.getElem?_toArray, List.getElem?_cons_succ, List.getElem?_cons_zero]; rfl) (by kernel_rfl) (fun _ _ _ _ _ h => h) (laterF_of hPe.bel.1) ?_; show wpQuiet _ _ _ _ (_ :: _ :: []) _; (repeat (go_big_quiet_step (fail))); refine wpQuiet_nil ?_; show wpAnyH _ _ _ _ _ _ _ _ _)
            refine wpAnyH_done (by kernel_rfl) ?_ _
            have HB2 : Hid (∀ k, k < gn → (putF R g l6 k).length ≤ 1000) := Lib.hid fun k hk => by
              by_cases e : k = g
              · subst e; rw [putF_at]; have := hT6.length; omega
              · rw [putF_ne _ _ e]; exact HB.out k hk
            clear hPd hPd2 hbe hT5 hT6 hr5 hr6 hI5 hI6 hR6 ow5 ow5b ow6 fr5 fr6 hRc hbc hp56 hll
            go_wp2
            go_roundw
            case rel => exact ⟨i + 1, _, _, VL, U6, _, by omega, by go_num, hPe, HB2⟩
            case measure => simp [intOf]; omega
        · go_wp2_with fail
          all_goals
            refine (awake33 _).mono ?_
            rintro e w7 ⟨rfl, b7⟩
            go_wp2
            go_ret
            exact ⟨rfl, (hP.bel.of b7).1⟩
end Go.Proofs.Ytjlhdbkhebfghaa
