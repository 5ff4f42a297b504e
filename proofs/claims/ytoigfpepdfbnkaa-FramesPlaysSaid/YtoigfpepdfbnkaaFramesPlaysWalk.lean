/- The walk of hermitagelaw06.FramesPlays: true at every input. -/
import Derived.Test.YtoigfpepdfbnkaaFrA
namespace Go.Proofs.Ytoigfpepdfbnkaa
open Go.ChangeShapes Go.WideShapes Go.ChangeAt Go.RowKit
set_option linter.unusedVariables false

theorem SrcAt.later {w : World} {p : Option Addr} {n : Nat} {f : Nat → Int} {x : Lat w} (h : SrcAt w p n f) : SrcAt (Proofs.Ytoigfpepdfbnkaa.later w x) p n f := h.below (later_below w x)

set_option maxRecDepth 100000 in
set_option maxHeartbeats 4000000 in
theorem framesPlays_walk (a0 : Int) (p1 : Option Addr) (n1 c1 : Nat) (f1 : Nat → List Value) (p2 : Option Addr) (n2 c2 : Nat) (f2 : Nat → List Value) (p3 : Option Addr) (n3 c3 : Nat) (f3 : Nat → List Value) (p4 : Option Addr) (n4 c4 : Nat) (f4 : Nat → List Value) (p5 : Option Addr) (n5 c5 : Nat) (f5 : Nat → List Value) (w : World) (w0 : (Lit.int .i64 a0).wf = true) (w1 : SliceOk [some .u8] w p1 n1 c1 f1) (hR1 : c1 * 1 ≤ 140737488351232) (w2 : SliceOk [some .i64] w p2 n2 c2 f2) (hR2 : c2 * 8 ≤ 140737488351232) (w3 : SliceOk [some .i64] w p3 n3 c3 f3) (hR3 : c3 * 8 ≤ 140737488351232) (w4 : SliceOk [some .i64] w p4 n4 c4 f4) (hR4 : c4 * 8 ≤ 140737488351232) (w5 : SliceOk [some .u32] w p5 n5 c5 f5) (hR5 : c5 * 4 ≤ 140737488351232) :
    Calls Try.prog 6 #[.int .i64 a0, .slice p1 n1 c1, .slice p2 n2 c2, .slice p3 n3 c3, .slice p4 n4 c4, .slice p5 n5 c5] w fun e w' => e = .returned (.bool true) ∧ Below w.heap.size w w' := by
  clear hR1 hR2 hR3 hR4 hR5
  by_cases hr : a0 < 0 ∨ 32 < a0
  · go_enter Try.func6, Try.ntmps6
    go_wp2_with fail
    refine (fnew_err _ _ hr).mono ?_
    rintro e w' ⟨rfl, rfl⟩
    go_wp2_with fail
    refine (rnew_err _ _ hr).mono ?_
    rintro e w' ⟨rfl, rfl⟩
    go_wp2_with fail
    refine (Calls.lat (awake06 _)).mono ?_
    rintro e w' ⟨rfl, x, rfl⟩
    go_wp2_with fail
    go_ret
    exact ⟨rfl, (by refine (?_ : Bel _ _ _).1; repeat (first | exact hbel | exact Bel.refl _ | apply Bel.later | apply Bel.alloc | apply Bel.drew | (refine Bel.laterB ?_ (by first | exact Nat.le_refl _ | omega | (simp; omega) | simp)) | (refine Bel.setCell ?_ (by first | exact Nat.le_refl _ | omega | (simp; omega) | simp))))⟩
  obtain ⟨n, rfl, hn⟩ : ∃ n : Nat, a0 = n ∧ n ≤ 32 := ⟨a0.toNat, by omega, by omega⟩
  clear hr w0
  go_enter Try.func6, Try.ntmps6
  go_wp2_with fail
  refine (fnew_full n _ hn).mono ?_
  rintro e wa ⟨s, fb, rfl, hs, hfb, hst, hba⟩
  have hbela : Bel w.heap.size w wa := Bel.of (Bel.refl w) hba
  go_wp2_with fail
  refine (rnew_full n _ hn).mono ?_
  rintro e wb ⟨t, rb, rfl, ht, hrb, hrst, hbb⟩
  have hbelb : Bel w.heap.size w wb := Bel.of hbela hbb
  have hn1 : s ≠ rb := by have := hst.lt; omega
  have hn2 : fb ≠ rb := by have := hst.ltb; omega
  replace hst := hst.below hbb
  replace hrb : w.heap.size ≤ rb := Nat.le_trans hbela.2 hrb
  replace ht : w.heap.size ≤ t := Nat.le_trans hbela.2 ht
  clear hba hbb hbela
  obtain ⟨G0, hG0⟩ : ∃ G0 : Nat → Int, G0 = fun _ => 0 := ⟨_, rfl⟩
  rw [← hG0] at hst hrst
  clear hG0
  go_wp2_with fail
  go_loopw [17] (fun iv wr => ∃ (i : Nat) (G : Nat → Int), i ≤ 60 ∧ iv = .int .i64 i ∧ Bel w.heap.size w wr ∧ StoAt wr s fb n G ∧ RStoAt wr t rb n G) (fun iv _ => 60 - (intOf iv).toNat)
  case atStart => exact ⟨0, G0, Nat.zero_le _, rfl, hbelb, hst, hrst⟩
  case round =>
    clear hst hrst hbelb
    obtain ⟨i, G, hi, rfl, hbel, hst, hrst⟩ := hrel
    have hB := hbel.2
    by_cases hall : i < n1 ∧ i < n2 ∧ i < n3 ∧ i < n4 ∧ i < n5 ∧ i < 60
    · obtain ⟨i1, i2, i3, i4, i5, i60⟩ := hall
      obtain ⟨b1, o1, kd, rfl, l1, _, wkd, q1⟩ := w1.int1 i1
      obtain ⟨b2, o2, f, rfl, l2, _, wf2, q2⟩ := w2.int1 i2
      obtain ⟨b3, o3, o, rfl, l3, _, wf3, q3⟩ := w3.int1 i3
      obtain ⟨b4, o4, k, rfl, l4, _, wf4, q4⟩ := w4.int1 i4
      obtain ⟨b5, o5, v, rfl, l5, _, wf5, q5⟩ := w5.int1 i5
      clear w1 w2 w3 w4 w5
      have hv := bounds_u32 wf5
      obtain ⟨hv0, hv1⟩ := hv
      have bkd := bounds_u8 wkd
      obtain ⟨bk0, bk1⟩ := bkd
      clear wkd
      have r1 := (hbel.1.cell (p := ⟨b1, o1 + i, none⟩) l1).trans q1
      have r2 := (hbel.1.cell (p := ⟨b2, o2 + i, none⟩) l2).trans q2
      have r3 := (hbel.1.cell (p := ⟨b3, o3 + i, none⟩) l3).trans q3
      have r4 := (hbel.1.cell (p := ⟨b4, o4 + i, none⟩) l4).trans q4
      have r5 := (hbel.1.cell (p := ⟨b5, o5 + i, none⟩) l5).trans q5
      clear wf5
      have Hf := Lib.hid wf2
      have Hk := Lib.hid wf4
      clear wf2 wf3 wf4
      cases he : (kd % 5 == 4)
      case' true =>
        go_wp2_with fail
        (refine wp_region_line 13 (fun x => ∃ y : LatF w.heap.size wr, x = laterF w.heap.size wr y) (by kernel_rfl) rfl ?_)
        (refine wpSeg (0 :: 1 :: 2 :: 3 :: 4 :: 6 :: 7 :: 8 :: 9 :: 10 :: []) 3 (l := _) rfl (by simp only [List.filterMap_cons, List.filterMap_nil, List.getElem?_toArray, List.getElem?_cons_succ, List.getElem?_cons_zero]; rfl) (by kernel_rfl) (fun _ _ _ _ _ h => h) laterF_drew ?_; show wpQuiet _ _ _ _ (_ :: _ :: _ :: _ :: _ :: _ :: _ :: _ :: _ :: _ :: []) _; (repeat (go_big_quiet_step (fail))); refine wpQuiet_nil ?_; show wpAnyH _ _ _ _ _ _ _ _ _)
        (refine wpOne 5 2 rfl rfl (by kernel_rfl) ?_; intro K hK; go_simp)
        refine (fclear_any s fb n f G _ hst.drew).mono ?_
        rintro e w1 ⟨rfl, hu1, hst1⟩
        have hb1 : Bel w.heap.size wr w1 := (Bel.here hB).drew.upd hu1 hfb
        have hrst1 : RStoAt w1 t rb n G := by
          obtain ⟨_, _, ⟨cur, hc, _⟩, _⟩ := hst
          exact hrst.drew.upd hu1 (show wr.drew.heap[fb]? = _ from hc) (by decide) (by decide) (by decide)
        (refine hK.out _ _ _ (fun _ h => h) (laterF_of hb1.1) ?_; clear hK K)
        (refine wpOne 11 1 rfl rfl (by kernel_rfl) ?_; intro K hK; go_simp)
        refine (rclear_any t rb n f G _ hrst1 Hf.out).mono ?_
        rintro e w2 ⟨rfl, hu2, hrst2⟩
        have hst2 := hst1.upd hu2 hn1 hn2
        have hb2 : Bel w.heap.size wr w2 := hb1.upd hu2 hrb
        (refine hK.out _ _ _ (fun _ h => h) (laterF_of hb2.1) ?_; clear hK K)
        (refine wpSeg (12 :: []) 0 (l := _) rfl (by simp only [List.filterMap_cons, List.filterMap_nil, List.getElem?_toArray, List.getElem?_cons_succ, List.getElem?_cons_zero]; rfl) (by kernel_rfl) (fun _ _ _ _ _ h => h) (laterF_of hb2.1) ?_; show wpQuiet _ _ _ _ (_ :: []) _; (repeat (go_big_quiet_step (fail))); refine wpQuiet_nil ?_; show wpAnyH _ _ _ _ _ _ _ _ _)
        refine wpAnyH_done (by kernel_rfl) ?_ _
        generalize clG n G f = G' at *
      case' false =>
        go_wp2_with fail
        (refine wp_region_line 37 (fun x => ∃ y : LatF w.heap.size wr, x = laterF w.heap.size wr y) (by kernel_rfl) rfl ?_)
        (refine wpSeg (0 :: 1 :: 2 :: 3 :: 4 :: 5 :: 6 :: 7 :: 8 :: 9 :: 10 :: 11 :: 12 :: 13 :: 14 :: 15 :: 16 :: 18 :: 19 :: 20 :: 21 :: 22 :: 23 :: 24 :: 25 :: 26 :: 27 :: 28 :: 29 :: 30 :: 31 :: 32 :: 33 :: 34 :: []) 3 (l := _) rfl (by simp only [List.filterMap_cons, List.filterMap_nil, List.getElem?_toArray, List.getElem?_cons_succ, List.getElem?_cons_zero]; rfl) (by kernel_rfl) (fun _ _ _ _ _ h => h) laterF_drew ?_; show wpQuiet _ _ _ _ (_ :: _ :: _ :: _ :: _ :: _ :: _ :: _ :: _ :: _ :: _ :: _ :: _ :: _ :: _ :: _ :: _ :: _ :: _ :: _ :: _ :: _ :: _ :: _ :: _ :: _ :: _ :: _ :: _ :: _ :: _ :: _ :: _ :: _ :: []) _; (repeat (go_big_quiet_step (fail))); refine wpQuiet_nil ?_; show wpAnyH _ _ _ _ _ _ _ _ _)
        (refine wpOne 17 2 rfl rfl (by kernel_rfl) ?_; intro K hK; go_simp)
        refine (fsave_any s fb n f o k v G _ hst.drew Hk.out hv0 hv1).mono ?_
        rintro e w1 ⟨rfl, hu1, hst1⟩
        have hb1 : Bel w.heap.size wr w1 := (Bel.here hB).drew.upd hu1 hfb
        have hrst1 : RStoAt w1 t rb n G := by
          obtain ⟨_, _, ⟨cur, hc, _⟩, _⟩ := hst
          exact hrst.drew.upd hu1 (show wr.drew.heap[fb]? = _ from hc) (by decide) (by decide) (by decide)
        (refine hK.out _ _ _ (fun _ h => h) (laterF_of hb1.1) ?_; clear hK K)
        (refine wpOne 35 1 rfl rfl (by kernel_rfl) ?_; intro K hK; go_simp)
        refine (rsave_any t rb n f o k v G _ hrst1 Hf.out Hk.out hv0 hv1).mono ?_
        rintro e w2 ⟨rfl, hu2, hrst2⟩
        have hst2 := hst1.upd hu2 hn1 hn2
        have hb2 : Bel w.heap.size wr w2 := hb1.upd hu2 hrb
        (refine hK.out _ _ _ (fun _ h => h) (laterF_of hb2.1) ?_; clear hK K)
        (refine wpSeg (36 :: []) 0 (l := _) rfl (by simp only [List.filterMap_cons, List.filterMap_nil, List.getElem?_toArray, List.getElem?_cons_succ, List.getElem?_cons_zero]; rfl) (by kernel_rfl) (fun _ _ _ _ _ h => h) (laterF_of hb2.1) ?_; show wpQuiet _ _ _ _ (_ :: []) _; (repeat (go_big_quiet_step (fail))); refine wpQuiet_nil ?_; show wpAnyH _ _ _ _ _ _ _ _ _)
        refine wpAnyH_done (by kernel_rfl) ?_ _
        generalize svG n G f o k v = G' at *
      all_goals
        have hbel2 : Bel w.heap.size w w2 := hbel.trans hb2 (Nat.le_refl _)
        have hB2 := hbel2.2
        replace r2 := (hb2.1.cell (p := ⟨b2, o2 + i, none⟩) l2).trans r2
        replace r3 := (hb2.1.cell (p := ⟨b3, o3 + i, none⟩) l3).trans r3
        replace r4 := (hb2.1.cell (p := ⟨b4, o4 + i, none⟩) l4).trans r4
        clear hst hrst hst1 hrst1 hu1 hu2 hb1 hb2 r1 r5 hbel
        go_wp2_with fail
        (refine wp_region_line 19 (fun x => ∃ y : LatF w.heap.size w2, x = laterF w.heap.size w2 y) (by kernel_rfl) rfl ?_)
        (refine wpSeg (0 :: 1 :: 2 :: 3 :: 4 :: 5 :: 6 :: 7 :: 8 :: 9 :: 10 :: 11 :: 12 :: []) 6 (l := _) rfl (by simp only [List.filterMap_cons, List.filterMap_nil, List.getElem?_toArray, List.getElem?_cons_succ, List.getElem?_cons_zero]; rfl) (by kernel_rfl) (fun _ _ _ _ _ h => h) laterF_drew ?_; show wpQuiet _ _ _ _ (_ :: _ :: _ :: _ :: _ :: _ :: _ :: _ :: _ :: _ :: _ :: _ :: _ :: []) _; (repeat (go_big_quiet_step (fail))); refine wpQuiet_nil ?_; show wpAnyH _ _ _ _ _ _ _ _ _)
        (refine wpOne 13 5 rfl rfl (by kernel_rfl) ?_; intro K hK; go_simp)
        refine (fload_any s fb n f o k G' _ hst2.drew Hk.out).mono ?_
        rintro e w3 ⟨rfl, hb3⟩
        have hbel3 : Bel w.heap.size w w3 := hbel2.drew.of hb3
        have hbf3 : Bel w.heap.size w2 w3 := (Bel.here hB2).drew.of hb3
        have hst3 := hst2.drew.below hb3
        have hrst3 := hrst2.drew.below hb3
        (refine hK.out _ _ _ (fun _ h => h) (laterF_of hbf3.1) ?_; clear hK K)
        (refine wpSeg (14 :: 15 :: 16 :: 17 :: 18 :: []) 0 (l := _) rfl (by simp only [List.filterMap_cons, List.filterMap_nil, List.getElem?_toArray, List.getElem?_cons_succ, List.getElem?_cons_zero]; rfl) (by kernel_rfl) (fun _ _ _ _ _ h => h) (laterF_of hbf3.1) ?_; show wpQuiet _ _ _ _ (_ :: _ :: _ :: _ :: _ :: []) _; (repeat (go_big_quiet_step (fail))); refine wpQuiet_nil ?_; show wpAnyH _ _ _ _ _ _ _ _ _)
        refine wpAnyH_done (by kernel_rfl) ?_ _
        replace r2 := (hbf3.1.cell (p := ⟨b2, o2 + i, none⟩) l2).trans r2
        replace r3 := (hbf3.1.cell (p := ⟨b3, o3 + i, none⟩) l3).trans r3
        replace r4 := (hbf3.1.cell (p := ⟨b4, o4 + i, none⟩) l4).trans r4
        clear hst2 hrst2 hbel2 hb3 hbf3
        go_wp2_with fail
        (refine wp_region_line 19 (fun x => ∃ y : LatF w.heap.size w3, x = laterF w.heap.size w3 y) (by kernel_rfl) rfl ?_)
        (refine wpSeg (0 :: 1 :: 2 :: 3 :: 4 :: 5 :: 6 :: 7 :: 8 :: 9 :: 10 :: 11 :: 12 :: []) 6 (l := _) rfl (by simp only [List.filterMap_cons, List.filterMap_nil, List.getElem?_toArray, List.getElem?_cons_succ, List.getElem?_cons_zero]; rfl) (by kernel_rfl) (fun _ _ _ _ _ h => h) laterF_drew ?_; show wpQuiet _ _ _ _ (_ :: _ :: _ :: _ :: _ :: _ :: _ :: _ :: _ :: _ :: _ :: _ :: _ :: []) _; (repeat (go_big_quiet_step (fail))); refine wpQuiet_nil ?_; show wpAnyH _ _ _ _ _ _ _ _ _)
        (refine wpOne 13 5 rfl rfl (by kernel_rfl) ?_; intro K hK; go_simp)
        refine (rload_any t rb n f o k G' _ hrst3.drew Hf.out Hk.out).mono ?_
        rintro e w' ⟨rfl, rfl⟩
        (refine hK.out _ _ _ (fun _ h => h) (laterF_drew) ?_; clear hK K)
        (refine wpSeg (14 :: 15 :: 16 :: 17 :: 18 :: []) 0 (l := _) rfl (by simp only [List.filterMap_cons, List.filterMap_nil, List.getElem?_toArray, List.getElem?_cons_succ, List.getElem?_cons_zero]; rfl) (by kernel_rfl) (fun _ _ _ _ _ h => h) laterF_drew ?_; show wpQuiet _ _ _ _ (_ :: _ :: _ :: _ :: _ :: []) _; (repeat (go_big_quiet_step (fail))); refine wpQuiet_nil ?_; show wpAnyH _ _ _ _ _ _ _ _ _)
        refine wpAnyH_done (by kernel_rfl) ?_ _
        clear r3 r4
        go_wp2_with fail
        refine (fbytes_any s fb n f G' _ hst3.drew).mono ?_
        rintro e w4 ⟨pa, ca, rfl, hsa, hb4⟩
        have hbel4 : Bel w.heap.size w w4 := hbel3.drew.of hb4
        have hst4 := hst3.drew.below hb4
        have hrst4 := hrst3.drew.below hb4
        replace r2 := (hb4.cell (p := ⟨b2, o2 + i, none⟩) (by have := hbel3.2; show b2 < w3.heap.size; omega)).trans (show w3.drew.cell? _ = _ from r2)
        clear hst3 hrst3
        go_wp2_with fail
        refine (rbytes_any t rb n f G' _ hrst4 Hf.out).mono ?_
        rintro e w5 ⟨pc, cc, rfl, hsc, hb5⟩
        have hbel5 : Bel w.heap.size w w5 := hbel4.of hb5
        have hst5 := hst4.below hb5
        have hrst5 := hrst4.below hb5
        replace hsa := hsa.below hb5
        replace r2 := (hb5.cell (p := ⟨b2, o2 + i, none⟩) (by have := hbel4.2; show b2 < w4.heap.size; omega)).trans r2
        clear hst4 hrst4 hbel3 hbel4 hb4 hb5
        have kA : ∀ y : Lat w5, (convert 22 9 (.slice pa (byN n f) ca)).run Try.prog (later w5 y) = .ok (.string (strF (fr G' f.toNat) (byN n f))) (later w5 y) := fun y => conv_src hsa.later ca
        have kC : ∀ y : Lat w5, (convert 22 9 (.slice pc (byN n f) cc)).run Try.prog (later w5 y) = .ok (.string (strF (fr G' f.toNat) (byN n f))) (later w5 y) := fun y => conv_src hsc.later cc
        have lb2 : b2 < w5.heap.size := by have := hbel5.2; omega
        have ltt := hrst5.lt
        obtain ⟨qr, cr, d0⟩ := hrst5.cell0
        clear hsa hsc hs ht hrb hfb
        go_wp2_with fail
        refine wp_region_later (by kernel_rfl) (by kernel_rfl) ?_
        repeat (first | go_big_quiet_step (first
          | (go_at_call 16; exact Calls.later_of (fclean_any _ _ _ _ _ _ hst5.later))
          | (go_at_call 18; exact Calls.later_of (len_of _ _ _ _ _ hst5.later))
          | (go_at_call 26; exact Calls.later_same (rclean_any _ _ _ _ _ _ hrst5.later Hf.out))))
        refine wpQuiet_nil ?_
        intro _ hw'
        obtain ⟨x9, hw''⟩ := hw'
        subst hw''
        go_wp2_with fail
        go_roundw
        case rel => exact ⟨i + 1, G', by omega, by go_num, hbel5.later, hst5.later, hrst5.later⟩
        case measure => simp [intOf]; omega
    · clear w1 w2 w3 w4 w5
      have hcase : ¬ i < n1 ∨ (i < n1 ∧ ¬ i < n2) ∨ (i < n1 ∧ i < n2 ∧ ¬ i < n3) ∨ (i < n1 ∧ i < n2 ∧ i < n3 ∧ ¬ i < n4) ∨ (i < n1 ∧ i < n2 ∧ i < n3 ∧ i < n4 ∧ ¬ i < n5) ∨ (i < n1 ∧ i < n2 ∧ i < n3 ∧ i < n4 ∧ i < n5 ∧ ¬ i < 60) := by omega
      clear hall
      rcases hcase with h | ⟨h1, h⟩ | ⟨h1, h2, h⟩ | ⟨h1, h2, h3, h⟩ | ⟨h1, h2, h3, h4, h⟩ | ⟨h1, h2, h3, h4, h5, h⟩
      all_goals
        go_wp2_with fail
        refine (Calls.lat (awake06 _)).mono ?_
        rintro e w' ⟨rfl, y4, rfl⟩
        go_wp2_with fail
        go_ret
        exact ⟨rfl, hbel.later.1⟩

end Go.Proofs.Ytoigfpepdfbnkaa
