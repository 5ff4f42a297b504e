/- The walk of hermitagelaw30.OnewayPlays: true at every input. -/
import Derived.Test.YtoigfpepdfbnkaaOwyA
import Derived.Test.YtoigfpepdfbnkaaReg2
namespace Go.Proofs.Ytoigfpepdfbnkaa
open Go.ChangeShapes Go.WideShapes Go.ChangeAt Go.RowKit
set_option linter.unusedVariables false

theorem SliceOk.bool1 {w : World} {a : Option Addr} {len cap : Nat} {f : Nat → List Value} (h : SliceOk [Option.none] w a len cap f) {i : Nat} (hi : i < len) :
    ∃ b off n, a = some ⟨b, off, none⟩ ∧ b < w.heap.size ∧ f i = [.bool n] ∧ w.cell? ⟨b, off + i, none⟩ = some (.bool n) := by
  obtain ⟨b, off, ha, hb, hr, hc⟩ := h.at hi
  obtain ⟨n, r, hf, hr⟩ := rowOk_bool hr
  obtain rfl := rowOk_nil hr
  have := hc 0 (by simp)
  rw [hf] at this
  exact ⟨b, off, n, ha, hb, hf, by simpa using this⟩

theorem set4 {w : World} {g : Nat} {x0 x1 x2 x3 a b c d : Value} {t : TypeId} {fr : Nat × Nat} (h : w.heap[g]? = some (.cells #[x0, x1, x2, x3] t fr)) :
    ((((w.setCell ⟨g, 0, none⟩ a).setCell ⟨g, 1, none⟩ b).setCell ⟨g, 2, none⟩ c).setCell ⟨g, 3, none⟩ d).heap[g]? = some (.cells #[a, b, c, d] t fr) := by
  have := heap_setCell_at (o := 3) (u := d) (heap_setCell_at (o := 2) (u := c) (heap_setCell_at (o := 1) (u := b) (heap_setCell_at (o := 0) (u := a) h)))
  simpa using this
theorem cells4 {w : World} {g : Nat} {a b c d : Value} {t : TypeId} (h : w.heap[g]? = some (.cells #[a, b, c, d] t (0, 0))) :
    (w.cell? ⟨g, 0, none⟩ = some a ∧ w.cell? ⟨g, 1, none⟩ = some b ∧ w.cell? ⟨g, 2, none⟩ = some c ∧ w.cell? ⟨g, 3, none⟩ = some d) ∧
    (w.frozen? ⟨g, 0, none⟩ = false ∧ w.frozen? ⟨g, 1, none⟩ = false ∧ w.frozen? ⟨g, 2, none⟩ = false ∧ w.frozen? ⟨g, 3, none⟩ = false) := by
  simp [World.cell?, World.frozen?, h]

set_option maxRecDepth 100000 in
set_option maxHeartbeats 4000000 in
theorem onewayPlays_walk (p0 : Option Addr) (n0 c0 : Nat) (f0 : Nat → List Value) (p1 : Option Addr) (n1 c1 : Nat) (f1 : Nat → List Value) (p2 : Option Addr) (n2 c2 : Nat) (f2 : Nat → List Value) (p3 : Option Addr) (n3 c3 : Nat) (f3 : Nat → List Value) (w : World) (w0 : SliceOk [some .u32] w p0 n0 c0 f0) (hR0 : c0 * 4 ≤ 140737488351232) (w1 : SliceOk [some .i64] w p1 n1 c1 f1) (hR1 : c1 * 8 ≤ 140737488351232) (w2 : SliceOk [some .u32] w p2 n2 c2 f2) (hR2 : c2 * 4 ≤ 140737488351232) (w3 : SliceOk [Option.none] w p3 n3 c3 f3) (hR3 : c3 * 1 ≤ 140737488351232) :
    Calls Try.prog 10 #[.slice p0 n0 c0, .slice p1 n1 c1, .slice p2 n2 c2, .slice p3 n3 c3] w fun e w' => e = .returned (.bool true) ∧ Below w.heap.size w w' := by
  clear hR0 hR1 hR2 hR3
  obtain ⟨L, hL⟩ := USrc.of_ok w0
  clear w0
  go_enter Try.func10, Try.ntmps10
  go_wp2_with fail
  refine (made_any p0 n0 c0 L _ hL).mono ?_
  rintro e wa ⟨s, fb, t, rb, rfl, hs, hfb, ht, hrb, hn1, hn2, hst, hrst, hba⟩
  have hbela : Bel w.heap.size w wa := Bel.of (Bel.refl w) hba
  generalize mkG L (min n0 16) = G0 at *
  clear hba hL
  go_wp2_with fail
  go_loopw [11] (fun iv wr => ∃ (i : Nat) (G : Nat → Int), i ≤ 60 ∧ iv = .int .i64 i ∧ Bel w.heap.size w wr ∧ StoAt wr s fb 2 G ∧ RStoAt wr t rb 2 G) (fun iv _ => 60 - (intOf iv).toNat)
  case atStart => exact ⟨0, G0, Nat.zero_le _, rfl, hbela, hst, hrst⟩
  case round =>
    clear hst hrst hbela
    obtain ⟨i, G, hi, rfl, hbel, hst, hrst⟩ := hrel
    have hB := hbel.2
    by_cases hall : i < n1 ∧ i < n2 ∧ i < n3 ∧ i < 60
    · obtain ⟨i1, i2, i3, i60⟩ := hall
      obtain ⟨b1, o1, f, rfl, l1, _, wf1, q1⟩ := w1.int1 i1
      obtain ⟨b2, o2, v, rfl, l2, _, wf2, q2⟩ := w2.int1 i2
      obtain ⟨b3, o3, sd, rfl, l3, _, q3⟩ := w3.bool1 i3
      clear w1 w2 w3
      have hv := bounds_u32 wf2
      obtain ⟨hv0, hv1⟩ := hv
      have r1 := (hbel.1.cell (p := ⟨b1, o1 + i, none⟩) l1).trans q1
      have r2 := (hbel.1.cell (p := ⟨b2, o2 + i, none⟩) l2).trans q2
      have r3 := (hbel.1.cell (p := ⟨b3, o3 + i, none⟩) l3).trans q3
      have Hf := Lib.hid wf1
      clear wf1 wf2 q1 q2 q3
      cases sd
      case' true =>
        go_wp2_with fail
        (refine wp_region_line 21 (fun x => ∃ y : LatF w.heap.size wr, x = laterF w.heap.size wr y) (by kernel_rfl) rfl ?_)
        (refine wpSeg (0 :: 1 :: 2 :: 3 :: 4 :: 5 :: 6 :: 7 :: 8 :: 10 :: 11 :: 12 :: 13 :: 14 :: 15 :: 16 :: 17 :: 18 :: []) 3 (l := _) rfl (by simp only [List.filterMap_cons, List.filterMap_nil, List.getElem?_toArray, List.getElem?_cons_succ, List.getElem?_cons_zero]; rfl) (by kernel_rfl) (fun _ _ _ _ _ h => h) laterF_drew ?_; show wpQuiet _ _ _ _ (_ :: _ :: _ :: _ :: _ :: _ :: _ :: _ :: _ :: _ :: _ :: _ :: _ :: _ :: _ :: _ :: _ :: _ :: []) _; (repeat (go_big_quiet_step (fail))); refine wpQuiet_nil ?_; show wpAnyH _ _ _ _ _ _ _ _ _)
        (refine wpOne 9 2 rfl rfl (by kernel_rfl) ?_; intro K hK; go_simp)
        refine (send_any s fb 2 f v G _ hst.drew hv0 hv1).mono ?_
        rintro e w1 ⟨rfl, hu1, hst1⟩
        have hb1 : Bel w.heap.size wr w1 := (Bel.here hB).drew.upd hu1 hfb
        have hrst1 : RStoAt w1 t rb 2 G := by
          obtain ⟨_, _, ⟨cur, hc, _⟩, _⟩ := hst
          exact hrst.drew.upd hu1 (show wr.drew.heap[fb]? = _ from hc) (by decide) (by decide) (by decide)
        (refine hK.out _ _ _ (fun _ h => h) (laterF_of hb1.1) ?_; clear hK K)
        (refine wpOne 19 1 rfl rfl (by kernel_rfl) ?_; intro K hK; go_simp)
        refine (rsend_any t rb 2 f v G _ hrst1 Hf.out hv0 hv1).mono ?_
        rintro e w2 ⟨rfl, hu2, hrst2⟩
        have hst2 := hst1.upd hu2 hn1 hn2
        have hb2 : Bel w.heap.size wr w2 := hb1.upd hu2 hrb
        (refine hK.out _ _ _ (fun _ h => h) (laterF_of hb2.1) ?_; clear hK K)
        (refine wpSeg (20 :: []) 0 (l := _) rfl (by simp only [List.filterMap_cons, List.filterMap_nil, List.getElem?_toArray, List.getElem?_cons_succ, List.getElem?_cons_zero]; rfl) (by kernel_rfl) (fun _ _ _ _ _ h => h) (laterF_of hb2.1) ?_; show wpQuiet _ _ _ _ (_ :: []) _; (repeat (go_big_quiet_step (fail))); refine wpQuiet_nil ?_; show wpAnyH _ _ _ _ _ _ _ _ _)
        refine wpAnyH_done (by kernel_rfl) ?_ _
        generalize snG 2 G f v = G' at *
        clear hst hrst hst1 hrst1 hu1 hu2 hb1 r3
      case' false =>
        obtain ⟨w2, hw2⟩ : ∃ w2, w2 = wr := ⟨_, rfl⟩
        have hst2 : StoAt w2 s fb 2 G := by rw [hw2]; exact hst
        have hrst2 : RStoAt w2 t rb 2 G := by rw [hw2]; exact hrst
        have hb2 : Bel w.heap.size wr w2 := by rw [hw2]; exact Bel.here hB
        have hE : wr = w2 := hw2.symm
        clear hw2
        obtain ⟨G', hG'⟩ : ∃ G', G' = G := ⟨_, rfl⟩
        rw [← hG'] at hst2 hrst2
        clear hst hrst hG'
        have HE := Lib.hid hE
        clear hE
        go_wp2_with fail
        rw [HE.out]
        clear HE r3
      all_goals
        have hbel2 : Bel w.heap.size w w2 := hbel.trans hb2 (Nat.le_refl _)
        have hB2 := hbel2.2
        replace r1 := (hb2.1.cell (p := ⟨b1, o1 + i, none⟩) l1).trans r1
        replace r2 := (hb2.1.cell (p := ⟨b2, o2 + i, none⟩) l2).trans r2
        clear hb2 hbel
        obtain ⟨ga, gb, gc, gd, hgv⟩ := rcV_agg 2 G' f v
        have HGV := Lib.hid hgv
        clear hgv
        go_wp2_with fail
        (refine wp_region_line 16 (fun x => ∃ y : LatF w.heap.size w2, x = laterF w.heap.size w2 y) (by kernel_rfl) rfl ?_)
        (refine wpSeg (0 :: 1 :: 2 :: 3 :: 4 :: 5 :: 6 :: 7 :: 8 :: []) 7 (l := _) rfl (by simp only [List.filterMap_cons, List.filterMap_nil, List.getElem?_toArray, List.getElem?_cons_succ, List.getElem?_cons_zero]; rfl) (by kernel_rfl) (fun _ _ _ _ _ h => h) laterF_drew ?_; show wpQuiet _ _ _ _ (_ :: _ :: _ :: _ :: _ :: _ :: _ :: _ :: _ :: []) _; (repeat (go_big_quiet_step (fail))); refine wpQuiet_nil ?_; show wpAnyH _ _ _ _ _ _ _ _ _)
        refine wpCallAlloc 9 13 2 (10 :: 11 :: 12 :: []) (l := _) 29 #[.pointer (some ⟨s, 0, none⟩), .int .i64 f, .int .u32 v] (.tuple #[.agg #[.int .u32 ga, .int .u32 gb, .int .u32 gc, .bool gd], .int .i64 (clE 2 f)]) (.cells #[.int .u32 0, .int .u32 0, .int .u32 0, .bool false] 63) 85 12 rfl rfl rfl (by simp only [List.filterMap_cons, List.filterMap_nil, List.getElem?_toArray, List.getElem?_cons_succ, List.getElem?_cons_zero]; rfl) rfl rfl rfl rfl (by intro cs b h; cases h) (by kernel_rfl) (by kernel_rfl) (by kernel_rfl) (by kernel_rfl) (by kernel_rfl) (by kernel_rfl) (fun _ _ _ _ _ h => h) (by intro w1; go_simp) (by intro ρ w1; go_simp) ?_ ?_ ?_
        · exact fun x hx => laterF_of ((Bel.here hB2).drew.of hx).1
        · intro w1 hb
          refine (recv_any s fb 2 f v G' _ (hst2.drew.below hb) hv0 hv1).mono ?_
          rintro e w' ⟨he, hb'⟩
          exact ⟨by rw [he, HGV.out], hb'⟩
        (simp only [Act.put, List.setIfInBounds_toArray, List.set_cons_zero, List.set_cons_succ]; show wpQuiet _ _ _ _ (_ :: _ :: _ :: []) _; (repeat (go_big_quiet_step (fail))); refine wpQuiet_nil ?_)
        intro g w3 hg hb3 hgc
        simp only [List.setIfInBounds_toArray, List.set_cons_zero, List.set_cons_succ]
        obtain ⟨⟨x0, x1, x2, x3⟩, y0, y1, y2, y3⟩ := cells4 hgc
        have hB3 : Bel w.heap.size w2 w3 := (Bel.here hB2).drew.of hb3
        have hBg : w.heap.size ≤ g := Nat.le_trans hB2 hg
        have hst3 := hst2.drew.below hb3
        have hrst3 := hrst2.drew.below hb3
        have hge : Bel w3.heap.size w3 w3 := Bel.refl _
        (refine wpOne 14 1 rfl rfl (by kernel_rfl) ?_; intro K hK; go_simp)
        generalize hW : World.setCell _ _ _ = w4
        have hg4 : w4.heap[g]? = some (.cells #[.int .u32 ga, .int .u32 gb, .int .u32 gc, .bool gd] 63 (0, 0)) := by rw [← hW]; exact set4 hgc
        have hu4 : Upd g w3 w4 := by rw [← hW]; exact ((((Upd.refl g w3).setCell).setCell).setCell).setCell
        have hB4 : Bel w.heap.size w2 w4 := hB3.upd hu4 hBg
        have hst4 := hst3.upd hu4 (by have := hst2.lt; have : s < w2.drew.heap.size := this; omega) (by have := hst2.ltb; have : fb < w2.drew.heap.size := this; omega)
        have hrst4 := hrst3.upd hu4 hgc (by decide) (by decide) (by decide)
        clear hW x0 x1 x2 x3 y0 y1 y2 y3 hge
        (refine hK.out _ _ _ (fun _ h => h) (laterF_of hB4.1) ?_; clear hK K)
        (refine wpSeg (15 :: []) 0 (l := _) rfl (by simp only [List.filterMap_cons, List.filterMap_nil, List.getElem?_toArray, List.getElem?_cons_succ, List.getElem?_cons_zero]; rfl) (by kernel_rfl) (fun _ _ _ _ _ h => h) (laterF_of hB4.1) ?_; show wpQuiet _ _ _ _ (_ :: []) _; (repeat (go_big_quiet_step (fail))); refine wpQuiet_nil ?_; show wpAnyH _ _ _ _ _ _ _ _ _)
        refine wpAnyH_done (by kernel_rfl) ?_ _
        have hbel4 := hbel2.trans hB4 (Nat.le_refl _)
        have hBB4 := hbel4.2
        replace r1 := (hB4.1.cell (p := ⟨b1, o1 + i, none⟩) l1).trans r1
        replace r2 := (hB4.1.cell (p := ⟨b2, o2 + i, none⟩) l2).trans r2
        clear hst2 hrst2 hst3 hrst3 hgc hu4 hb3 hB3 hB4 hbel2 hB2
        go_wp2_with fail
        (refine wp_region_line 16 (fun x => ∃ y : LatF w.heap.size w4, x = laterF w.heap.size w4 y) (by kernel_rfl) rfl ?_)
        (refine wpSeg (0 :: 1 :: 2 :: 3 :: 4 :: 5 :: 6 :: 7 :: 8 :: []) 7 (l := _) rfl (by simp only [List.filterMap_cons, List.filterMap_nil, List.getElem?_toArray, List.getElem?_cons_succ, List.getElem?_cons_zero]; rfl) (by kernel_rfl) (fun _ _ _ _ _ h => h) laterF_drew ?_; show wpQuiet _ _ _ _ (_ :: _ :: _ :: _ :: _ :: _ :: _ :: _ :: _ :: []) _; (repeat (go_big_quiet_step (fail))); refine wpQuiet_nil ?_; show wpAnyH _ _ _ _ _ _ _ _ _)
        refine wpCallAlloc 9 13 2 (10 :: 11 :: 12 :: []) (l := _) 33 #[.pointer (some ⟨t, 0, none⟩), .int .i64 f, .int .u32 v] (.tuple #[.agg #[.int .u32 ga, .int .u32 gb, .int .u32 gc, .bool gd], .int .i64 (clE 2 f)]) (.cells #[.int .u32 0, .int .u32 0, .int .u32 0, .bool false] 63) 98 14 rfl rfl rfl (by simp only [List.filterMap_cons, List.filterMap_nil, List.getElem?_toArray, List.getElem?_cons_succ, List.getElem?_cons_zero]; rfl) rfl rfl rfl rfl (by intro cs b h; cases h) (by kernel_rfl) (by kernel_rfl) (by kernel_rfl) (by kernel_rfl) (by kernel_rfl) (by kernel_rfl) (fun _ _ _ _ _ h => h) (by intro w1; go_simp) (by intro ρ w1; go_simp) ?_ ?_ ?_
        · exact fun x hx => laterF_of ((Bel.here hBB4).drew.of hx).1
        · intro w1 hb
          refine (rrecv_any t rb 2 f v G' _ (hrst4.drew.below hb) Hf.out hv0 hv1).mono ?_
          rintro e w' ⟨he, hb'⟩
          exact ⟨by rw [he, HGV.out], hb'⟩
        (simp only [Act.put, List.setIfInBounds_toArray, List.set_cons_zero, List.set_cons_succ]; show wpQuiet _ _ _ _ (_ :: _ :: _ :: []) _; (repeat (go_big_quiet_step (fail))); refine wpQuiet_nil ?_)
        intro g' w5 hg' hb5 hgc
        simp only [List.setIfInBounds_toArray, List.set_cons_zero, List.set_cons_succ]
        obtain ⟨⟨x0, x1, x2, x3⟩, y0, y1, y2, y3⟩ := cells4 hgc
        have hB5 : Bel w.heap.size w4 w5 := (Bel.here hBB4).drew.of hb5
        have hBg' : w.heap.size ≤ g' := Nat.le_trans hBB4 hg'
        have hst5 := hst4.drew.below hb5
        have hrst5 := hrst4.drew.below hb5
        have hg5 : w5.heap[g]? = _ := (hb5.block g (lt_heap hg4)).trans hg4
        have hgg : g ≠ g' := by have := lt_heap hg4; have : g < w4.drew.heap.size := this; omega
        (refine wpOne 14 1 rfl rfl (by kernel_rfl) ?_; intro K hK; go_simp)
        generalize hW : World.setCell _ _ _ = w6
        have hg6' : w6.heap[g']? = some (.cells #[.int .u32 ga, .int .u32 gb, .int .u32 gc, .bool gd] 63 (0, 0)) := by rw [← hW]; exact set4 hgc
        have hu6 : Upd g' w5 w6 := by rw [← hW]; exact ((((Upd.refl g' w5).setCell).setCell).setCell).setCell
        have hB6 : Bel w.heap.size w4 w6 := hB5.upd hu6 hBg'
        have hst6 := hst5.upd hu6 (by have := hst4.lt; have : s < w4.drew.heap.size := this; omega) (by have := hst4.ltb; have : fb < w4.drew.heap.size := this; omega)
        have hrst6 := hrst5.upd hu6 hgc (by decide) (by decide) (by decide)
        have hg6 := heap_upd hg5 hu6 hgg
        clear hW x0 x1 x2 x3 y0 y1 y2 y3
        (refine hK.out _ _ _ (fun _ h => h) (laterF_of hB6.1) ?_; clear hK K)
        (refine wpSeg (15 :: []) 0 (l := _) rfl (by simp only [List.filterMap_cons, List.filterMap_nil, List.getElem?_toArray, List.getElem?_cons_succ, List.getElem?_cons_zero]; rfl) (by kernel_rfl) (fun _ _ _ _ _ h => h) (laterF_of hB6.1) ?_; show wpQuiet _ _ _ _ (_ :: []) _; (repeat (go_big_quiet_step (fail))); refine wpQuiet_nil ?_; show wpAnyH _ _ _ _ _ _ _ _ _)
        refine wpAnyH_done (by kernel_rfl) ?_ _
        have hbel6 := hbel4.trans hB6 (Nat.le_refl _)
        replace r1 := (hB6.1.cell (p := ⟨b1, o1 + i, none⟩) l1).trans r1
        clear r2 hst4 hrst4 hst5 hrst5 hgc hu6 hb5 hB5 hB6 hbel4 hBB4 hg5 hg4
        go_wp2_with fail
        refine (head_any s fb 2 f G' _ hst6).mono ?_
        rintro e w7 ⟨rfl, hb7⟩
        have hbel7 := hbel6.of hb7
        have hst7 := hst6.below hb7
        have hrst7 := hrst6.below hb7
        have hg7 := (hb7.block g (lt_heap hg6)).trans hg6
        have hg7' := (hb7.block g' (lt_heap hg6')).trans hg6'
        replace r1 := (hb7.cell (p := ⟨b1, o1 + i, none⟩) (Nat.lt_of_lt_of_le l1 hbel6.2)).trans r1
        clear hst6 hrst6 hg6 hg6' hb7 hbel6
        go_wp2_with fail
        refine (rhead_any t rb 2 f G' _ hrst7 Hf.out).mono ?_
        rintro e w' ⟨rfl, rfl⟩
        obtain ⟨⟨x0, x1, x2, x3⟩, _⟩ := cells4 hg7
        obtain ⟨⟨z0, z1, z2, z3⟩, _⟩ := cells4 hg7'
        clear hg7 hg7' r1
        go_wp2_with fail
        clear x0 x1 x2 x3 z0 z1 z2 z3
        go_loopw [20] (fun kv wr => ∃ k : Nat, k ≤ 2 ∧ kv = .int .i64 k ∧ Bel w7.heap.size w7 wr) (fun kv _ => 2 - (intOf kv).toNat)
        case atStart => exact ⟨0, Nat.zero_le _, rfl, Bel.refl _⟩
        case round =>
          obtain ⟨k, hk, rfl, hbel⟩ := hrel
          have hst8 := hst7.below hbel.1
          have hrst8 := hrst7.below hbel.1
          by_cases hlt : k < 2
          · go_wp2_with fail
            refine (fbytes_in s fb 2 k G' _ hst8 hlt).mono ?_
            rintro e w9 ⟨ga', rfl, _, hr9, hb9⟩
            have hrst9 := hrst8.below hb9
            have hbel9 := hbel.of hb9
            obtain ⟨cq, gq, cq', d0, hnc, hcm, hrb9, d1, d2, h64, hcm', hrr⟩ := hrst9.row hlt
            have hsa := hr9.bat.src
            have hsc := hrr.bat.src
            have kA : ∀ y : Lat w9, (convert 22 9 (.slice (some ⟨ga', 0, none⟩) 64 64)).run Try.prog (later w9 y) = .ok (.string (strF (fr G' k) 64)) (later w9 y) := fun y => conv_src (hsa.below (later_below w9 y)) 64
            have kC : ∀ y : Lat w9, (convert 22 9 (.slice (some ⟨gq, 0, none⟩) 64 cq')).run Try.prog (later w9 y) = .ok (.string (strF (fr G' k) 64)) (later w9 y) := fun y => conv_src (hsc.below (later_below w9 y)) cq'
            have ltt := hrst9.lt
            clear hst8 hrst8 hrst9 hsa hsc hr9 hrr hb9 hst7 hrst7
            go_wp2_with fail
            refine wp_region_later (by kernel_rfl) (by kernel_rfl) ?_
            repeat (first | go_big_quiet_step (fail))
            refine wpQuiet_nil ?_
            intro _ hw'
            obtain ⟨x9, hw''⟩ := hw'
            subst hw''
            go_wp2_with fail
            go_roundw
            case rel => exact ⟨k + 1, by omega, by go_num, hbel9.later⟩
            case measure => simp [intOf]; omega
          · have hbel8 := hbel7.trans hbel hbel7.2
            clear hst7 hrst7
            go_wp2_with fail
            go_roundw
            case rel => exact ⟨i + 1, G', by omega, by go_num, hbel8, hst8, hrst8⟩
            case measure => simp [intOf]; omega
    · clear w1 w2 w3
      have hcase : ¬ i < n1 ∨ (i < n1 ∧ ¬ i < n2) ∨ (i < n1 ∧ i < n2 ∧ ¬ i < n3) ∨ (i < n1 ∧ i < n2 ∧ i < n3 ∧ ¬ i < 60) := by omega
      clear hall
      rcases hcase with h | ⟨h1, h⟩ | ⟨h1, h2, h⟩ | ⟨h1, h2, h3, h⟩
      all_goals
        go_wp2_with fail
        refine (Calls.lat (awake30 _)).mono ?_
        rintro e w' ⟨rfl, y4, rfl⟩
        go_wp2_with fail
        go_ret
        exact ⟨rfl, hbel.later.1⟩

end Go.Proofs.Ytoigfpepdfbnkaa
