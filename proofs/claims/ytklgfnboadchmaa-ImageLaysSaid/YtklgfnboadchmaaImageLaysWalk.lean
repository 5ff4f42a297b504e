/- law 35: ImageLays. -/
import Derived.Test.YtklgfnboadchmaaImT
namespace Go.Proofs.Ytklgfnboadchmaa
open Go.ChangeShapes Go.WideShapes Go.ChangeAt Go.RowKit
set_option linter.unusedVariables false
set_option maxRecDepth 20000

set_option maxRecDepth 100000 in
set_option maxHeartbeats 4000000 in
theorem imageLays_walk (a0 : Int) (p1 : Option Addr) (n1 c1 : Nat) (f1 : Nat → List Value) (p2 : Option Addr) (n2 c2 : Nat) (f2 : Nat → List Value) (p3 : Option Addr) (n3 c3 : Nat) (p4 : Option Addr) (n4 c4 : Nat) (f4 : Nat → List Value) (w : World) (w0 : (Lit.int .u8 a0).wf = true) (w1 : SliceOk [some .i64] w p1 n1 c1 f1) (hR1 : c1 * 8 ≤ 140737488351232) (w2 : SliceOk [some .i64] w p2 n2 c2 f2) (hR2 : c2 * 8 ≤ 140737488351232) (w3 : RowsU w p3 n3 c3) (w4 : SliceOk [some .u8] w p4 n4 c4 f4) (hR4 : c4 * 1 ≤ 140737488351232) :
    Calls Try.prog 4 #[.int .u8 a0, .slice p1 n1 c1, .slice p2 n2 c2, .slice p3 n3 c3, .slice p4 n4 c4] w fun e w' => e = .returned (.bool true) ∧ Below w.heap.size w w' := by
  clear hR1 hR2 hR4
  have b0 := bounds_u8 w0
  obtain ⟨b00, b01⟩ := b0
  obtain ⟨n, hN, hn1, hn32⟩ : ∃ n : Nat, (1 + a0 % 32 : Int) = n ∧ 1 ≤ n ∧ n ≤ 32 := ⟨(1 + a0 % 32).toNat, by omega, by omega, by omega⟩
  have hm1 : n1 ≤ 9223372036854775807 := Nat.le_trans w1.1 w1.2.1
  have hm2 : n2 ≤ 9223372036854775807 := Nat.le_trans w2.1 w2.2.1
  have hm3 : n3 ≤ 9223372036854775807 := Nat.le_trans w3.1 w3.2.1
  have hm4 : n4 ≤ 9223372036854775807 := Nat.le_trans w4.1 w4.2.1
  go_enter Try.func4, Try.ntmps4
  go_wp2_with fail
  refine (host_any a0 n hN b00 b01 _).mono ?_
  rintro e wa ⟨b, s, fb, q, t, rb, V, L, st, uv, tv, rfl, hP⟩
  have hB := hP.bel
  clear hN w0
  go_wp2_with fail
  refine (new_map2 _).mono ?_
  rintro e wm ⟨mb, rfl, hmb, hm, b3⟩
  have hP2 := hP.below b3
  have hB2 := hB.of b3
  have hP3 := hP2.below (Bel.refl wm).alloc.1 (w' := wm.alloc (.cells (rmapCells zeroMap).toArray 49))
  obtain ⟨A, hT0⟩ := hP3.two (mb := mb) (kb := wm.heap.size) (heap_alloc hm) (Go.heap_alloc_new wm _) (Nat.le_trans hB.2 hmb) hB2.2
  clear hP hB hmb b3 hP2 hB2 hP3 hm
  go_wp2_with fail
  obtain ⟨kb, hkb⟩ : ∃ kb, wm.heap.size = kb := ⟨_, rfl⟩
  rw [hkb] at hT0 ⊢
  clear hkb
  go_loopw [17] (fun iv wr => ∃ (i : Nat) (A : Nat → Prop) (x : Im3), i ≤ 20 ∧ iv = .int .i64 i ∧ TwoI w wr A b s fb mb n x.G x.S x.M q t rb kb uv tv x.G x.S x.M) (fun iv _ => 20 - (intOf iv).toNat)
  case atStart => exact ⟨0, A, ⟨_, _, _⟩, Nat.zero_le _, rfl, hT0⟩
  case round =>
    clear hT0 A
    obtain ⟨i, A, x, hi, rfl, hT⟩ := hrel
    by_cases hall : i < n1 ∧ i < n2 ∧ i < n3 ∧ i < n4 ∧ i < 20
    · obtain ⟨i1, i2, i3, i4, i20⟩ := hall
      obtain ⟨b1, o1, who, rfl, l1, _, wf1, q1⟩ := w1.int1 i1
      obtain ⟨b2, o2, pages, rfl, l2, _, wf2, q2⟩ := w2.int1 i2
      obtain ⟨b3, o3, P, N, C, W, rfl, l3, q3, hNC, hPC, hNb, hU⟩ := w3.2.2.2 i i3
      obtain ⟨b4, o4, kd, rfl, l4, _, wf4, q4⟩ := w4.int1 i4
      have bkd := bounds_u8 wf4
      obtain ⟨bk0, bk1⟩ := bkd
      clear w1 w2 w3 w4 wf1 wf2 wf4
      have r1 := (hT.bel.1.cell (p := ⟨b1, o1 + i, none⟩) l1).trans q1
      have r2 := (hT.bel.1.cell (p := ⟨b2, o2 + i, none⟩) l2).trans q2
      have r3 := (hT.bel.1.cell (p := ⟨b3, o3 + i, none⟩) l3).trans q3
      have r4 := (hT.bel.1.cell (p := ⟨b4, o4 + i, none⟩) l4).trans q4
      have hB0 := hT.bel.2
      by_cases hk : kd % 3 = 2
      · have hS2 := fun w h => iStrip (A := A) (b := b) (s := s) (fb := fb) (mb := mb) (n := n) (x := x) w h
        have hS3 := fun w h => rStrip (q := q) (t := t) (rb := rb) (kb := kb) (n := n) (uv := uv) (tv := tv) x w h
        generalize cntT x.M 8 = X at *
        go_wp2_with fail
        refine (hS2 _ hT.i).mono ?_
        rintro e wx ⟨rfl, A1, h1, m1⟩
        have hT1 := hT.stepI h1 m1
        clear h1 m1
        go_wp2_with fail
        refine (hS3 _ hT1.r).mono ?_
        rintro e wz ⟨rfl, h2, m2⟩
        have hT2 := hT1.stepR h2 m2
        clear hT hT1 h2 m2 r1 r2 r3 r4 hS2 hS3 hU
        generalize strTo x 8 = y at *
        go_wp2_with fail
        go_loopw [18] (fun jv wr => ∃ j : Nat, j ≤ 8 ∧ jv = .int .i64 j ∧ Below wz.heap.size wz wr) (fun jv _ => 8 - (intOf jv).toNat)
        case atStart => exact ⟨0, Nat.zero_le _, rfl, Below.refl _ _⟩
        case round =>
          obtain ⟨j, hj, rfl, hbj⟩ := hrel
          have hTj := hT2.below hbj
          by_cases hj8 : j < 8
          · go_wp2_with fail
            refine (iGet j _ hTj.i).mono ?_
            rintro e w5 ⟨rfl, b5⟩
            have hb5 := hbj.trans (b5.mono hbj.size)
            have hT5 := hTj.below b5
            clear hTj hbj b5
            go_wp2_with fail
            refine (rget_any kb y.M j _ (hT5.r.alloc).m).mono ?_
            rintro e w6 ⟨rfl, b6⟩
            have hb6 : Below wz.heap.size wz w6 := ((Bel.alloc (o := .cells #[.int .i64 (getF y.M j), .int .i64 (getR y.M j)] 32) ⟨hb5, hb5.size⟩).of b6).1
            have s1 := (b6.cell (p := ⟨w5.heap.size, 0, none⟩) (by show _ < _; simp)).trans (show (w5.alloc (.cells #[.int .i64 (getF y.M j), .int .i64 (getR y.M j)] 32)).cell? ⟨w5.heap.size, 0, none⟩ = some (.int .i64 (getF y.M j)) by simp [go_sem])
            have s2 := (b6.cell (p := ⟨w5.heap.size, 1, none⟩) (by show _ < _; simp)).trans (show (w5.alloc (.cells #[.int .i64 (getF y.M j), .int .i64 (getR y.M j)] 32)).cell? ⟨w5.heap.size, 1, none⟩ = some (.int .i64 (getR y.M j)) by simp [go_sem])
            have hs5 : w5.heap.size < w6.heap.size := by have := b6.size; simp at this; omega
            generalize getF y.M (j : Int) = gF at *
            generalize getR y.M (j : Int) = gR at *
            generalize getT y.M (j : Int) = gT at *
            generalize w5.heap.size = xb at *
            clear hb5 b6 hT5
            go_wp2_with fail
            go_roundw
            case rel => exact ⟨j + 1, by omega, by go_num, hb6.alloc hb6.size _⟩
            case measure => simp [intOf]; omega
          · have hge : ¬ (j : Int) < 8 := by omega
            clear hT2 hj8 hj hbj
            obtain ⟨wy, rfl⟩ : ∃ wy : World, wy = wr := ⟨_, rfl⟩
            go_wp2_with fail
            go_loopw [23] (fun fv wr => ∃ f : Nat, f ≤ n ∧ fv = .int .i64 f ∧ Below wy.heap.size wy wr) (fun fv _ => n - (intOf fv).toNat)
            case atStart => exact ⟨0, Nat.zero_le _, rfl, Below.refl _ _⟩
            case round =>
              clear hge
              obtain ⟨f, hf, rfl, hbf⟩ := hrel
              have hTf := hTj.below hbf
              have hbf' := hbf
              clear hTj hbf
              have hrs := hTf.r.p.sto
              obtain ⟨_, hByt, v, ht0, hv⟩ := hrs
              rcases hv with ⟨h0, _⟩ | ⟨tc, cur, rfl, hc1, hc2, hcur, hsz, hrow⟩
              · omega
              have d0 := (cell_of_row _ _ 0 _ _ _ ht0).trans rfl
              have ltt := lt_heap ht0
              have ltr := lt_heap hcur
              by_cases hfn : f < n
              · obtain ⟨gr, cr, hrf, hcr1, hcr2, hrowf⟩ := hrow f hfn
                have d1 := (cell_of_row _ _ f _ _ _ hcur).trans hrf
                obtain ⟨gt, capt, hvt, hct1, hct2, hgtl, hd, hfzt⟩ := hTf.r.p.itemT hfn
                have d2 := hTf.r.p.cell2
                have ltq := hTf.r.p.lt
                rw [hvt] at d2
                have d3 := hd f hfn
                have hTk := fun w h => iTaken (A := A1) (b := b) (s := s) (fb := fb) (mb := mb) (n := n) (G := y.G) (S := y.S) (M := y.M) f w h
                have hTkv : takenB y.S f = (atL y.S f).tk := by rw [takenB, hTf.i.len, if_pos ⟨by omega, by omega⟩, Int.toNat_natCast]
                rw [hTkv] at hTk
                generalize (atL y.S f).tk = X at d3 hTk
                clear hd hfzt hrow ht0 hcur hvt hTkv
                have hB6 := hTf.bel.2
                go_wp2_with fail
                refine (fbytes_in s fb n f y.G _ hTf.i.sto hfn).mono ?_
                rintro e w7 ⟨g7, rfl, hg7, hr7, b7⟩
                have d0' := (b7.cell (p := ⟨t, 0, none⟩) ltt).trans d0
                have d1' := (b7.cell (p := ⟨rb, f, none⟩) ltr).trans d1
                have d2' := (b7.cell (p := ⟨q, 2, none⟩) ltq).trans d2
                have d3' := (b7.cell (p := ⟨gt, f, none⟩) hgtl).trans d3
                have hT7 := hTf.below b7
                have hb7 : Below wy.heap.size wy w7 := hbf'.trans (b7.mono hbf'.size)
                have lt7 := b7.size
                have e1 : t < w7.heap.size := by omega
                have e2 : rb < w7.heap.size := by omega
                have e3 : q < w7.heap.size := by omega
                have e4 : gt < w7.heap.size := by omega
                have hsc := (hrowf.below b7).bat
                have hsa := hr7.bat
                have kA : ∀ (y' : Lat w7) (c : Nat), (convert 45 9 (.slice (some ⟨g7, 0, none⟩) 64 c)).run Try.prog (later w7 y') = .ok (.string (strF (fr y.G f) 64)) (later w7 y') := fun y' c => conv_bytes hsa.later c
                have kC : ∀ (y' : Lat w7) (c : Nat), (convert 45 9 (.slice (some ⟨gr, 0, none⟩) 64 c)).run Try.prog (later w7 y') = .ok (.string (strF (fr y.G f) 64)) (later w7 y') := fun y' c => conv_bytes hsc.later c
                clear d0 d1 d2 d3 hsa hsc hr7 hrowf hTf b7 ltt ltr ltq hgtl hbf'
                go_wp2_with fail
                refine wp_region_later (by kernel_rfl) (by kernel_rfl) ?_
                try dsimp only [List.append_eq, List.cons_append, List.nil_append]
                repeat (first | go_big_quiet_step (first
                  | (go_at_call 19; exact Calls.later_same (hTk _ hT7.later.i))))
                refine wpQuiet_nil ?_
                intro w9 hw'
                have hb9 : Below wy.heap.size wy w9 := by
                  obtain ⟨x9, hw''⟩ := hw'
                  subst hw''
                  exact hb7.trans ((later_below w7 x9).mono hb7.size)
                clear hw' hT7 kA kC d0' d1' d2' d3' hb7 hTk
                go_wp2_with fail
                go_roundw
                case rel => exact ⟨f + 1, by omega, by go_num, hb9⟩
                case measure => simp [intOf]; omega
              · have hge : ¬ (f : Int) < n := by omega
                clear hrow ht0 hcur
                go_wp2_with fail
                go_roundw
                case rel => exact ⟨i + 1, A1, y, by omega, by go_num, hTf⟩
                case measure => simp [intOf]; omega
      · have hk2 : (kd % 3 == 2) = false := by simpa using hk
        have hS2 := fun w h hU hp => iLay (A := A) (b := b) (s := s) (fb := fb) (mb := mb) (n := n) (x := x) who pages P N C W hNb w h hU hp
        have hS3 := fun w h hU hp => rLay (q := q) (t := t) (rb := rb) (kb := kb) (n := n) (uv := uv) (tv := tv) x who pages P N C W hNC hNb hPC w h hU hp
        generalize layE x.S x.M who pages = E at *
        generalize layX n x who pages W (cutN N pages) = y at *
        go_wp2_with fail
        (refine wp_region_line 33 (fun x => ∃ y : LatF w.heap.size wr, x = laterF w.heap.size wr y) (by kernel_rfl) rfl ?_)
        (refine wpSeg (0 :: 1 :: 2 :: 3 :: 4 :: 5 :: 6 :: 7 :: 8 :: 9 :: 10 :: 11 :: 12 :: 13 :: 14 :: 16 :: 17 :: 18 :: 19 :: 20 :: 21 :: 22 :: 23 :: 24 :: 25 :: 26 :: 27 :: 28 :: 29 :: 30 :: []) 3 (l := _) rfl (by simp only [List.filterMap_cons, List.filterMap_nil, List.getElem?_toArray, List.getElem?_cons_succ, List.getElem?_cons_zero]; rfl) (by kernel_rfl) (fun _ _ _ _ _ h => h) laterF_drew ?_; show wpQuiet _ _ _ _ (_ :: _ :: _ :: _ :: _ :: _ :: _ :: _ :: _ :: _ :: _ :: _ :: _ :: _ :: _ :: _ :: _ :: _ :: _ :: _ :: _ :: _ :: _ :: _ :: _ :: _ :: _ :: _ :: _ :: _ :: []) _; (repeat (go_big_quiet_step (fail))); refine wpQuiet_nil ?_; show wpAnyH _ _ _ _ _ _ _ _ _)
        (refine wpOne 15 2 rfl rfl (by kernel_rfl) ?_; intro K hK; go_simp)
        refine (hS2 _ hT.drew.i (hU.below hT.drew.bel.1) (hU.out hT.lo)).mono ?_
        rintro e wx ⟨rfl, A1, h1, m1⟩
        have hT1 := hT.drew.stepI h1 m1
        have hb1 := m1.bel (Bel.here hB0).drew hT.lo
        (refine hK.out _ _ _ (fun _ h => h) (laterF_of hb1.1) ?_; clear hK K)
        (refine wpOne 31 1 rfl rfl (by kernel_rfl) ?_; intro K hK; go_simp)
        refine (hS3 _ hT1.r (hU.below hT1.bel.1) (hU.out hT.lr)).mono ?_
        rintro e wz ⟨rfl, h2, m2⟩
        have hT2 := hT1.stepR h2 m2
        have hbz := m2.bel hb1 hT.lr
        (refine hK.out _ _ _ (fun _ h => h) (laterF_of hbz.1) ?_; clear hK K)
        (refine wpSeg (32 :: []) 0 (l := _) rfl (by simp only [List.filterMap_cons, List.filterMap_nil, List.getElem?_toArray, List.getElem?_cons_succ, List.getElem?_cons_zero]; rfl) (by kernel_rfl) (fun _ _ _ _ _ h => h) (laterF_of hbz.1) ?_; show wpQuiet _ _ _ _ (_ :: []) _; (repeat (go_big_quiet_step (fail))); refine wpQuiet_nil ?_; show wpAnyH _ _ _ _ _ _ _ _ _)
        refine wpAnyH_done (by kernel_rfl) ?_ _
        clear hT hT1 h1 h2 m1 m2 r1 r2 r3 r4 hS2 hS3 hU hbz hb1
        go_wp2_with fail
        go_loopw [18] (fun jv wr => ∃ j : Nat, j ≤ 8 ∧ jv = .int .i64 j ∧ Below wz.heap.size wz wr) (fun jv _ => 8 - (intOf jv).toNat)
        case atStart => exact ⟨0, Nat.zero_le _, rfl, Below.refl _ _⟩
        case round =>
          obtain ⟨j, hj, rfl, hbj⟩ := hrel
          have hTj := hT2.below hbj
          by_cases hj8 : j < 8
          · go_wp2_with fail
            refine (iGet j _ hTj.i).mono ?_
            rintro e w5 ⟨rfl, b5⟩
            have hb5 := hbj.trans (b5.mono hbj.size)
            have hT5 := hTj.below b5
            clear hTj hbj b5
            go_wp2_with fail
            refine (rget_any kb y.M j _ (hT5.r.alloc).m).mono ?_
            rintro e w6 ⟨rfl, b6⟩
            have hb6 : Below wz.heap.size wz w6 := ((Bel.alloc (o := .cells #[.int .i64 (getF y.M j), .int .i64 (getR y.M j)] 32) ⟨hb5, hb5.size⟩).of b6).1
            have s1 := (b6.cell (p := ⟨w5.heap.size, 0, none⟩) (by show _ < _; simp)).trans (show (w5.alloc (.cells #[.int .i64 (getF y.M j), .int .i64 (getR y.M j)] 32)).cell? ⟨w5.heap.size, 0, none⟩ = some (.int .i64 (getF y.M j)) by simp [go_sem])
            have s2 := (b6.cell (p := ⟨w5.heap.size, 1, none⟩) (by show _ < _; simp)).trans (show (w5.alloc (.cells #[.int .i64 (getF y.M j), .int .i64 (getR y.M j)] 32)).cell? ⟨w5.heap.size, 1, none⟩ = some (.int .i64 (getR y.M j)) by simp [go_sem])
            have hs5 : w5.heap.size < w6.heap.size := by have := b6.size; simp at this; omega
            generalize getF y.M (j : Int) = gF at *
            generalize getR y.M (j : Int) = gR at *
            generalize getT y.M (j : Int) = gT at *
            generalize w5.heap.size = xb at *
            clear hb5 b6 hT5
            go_wp2_with fail
            go_roundw
            case rel => exact ⟨j + 1, by omega, by go_num, hb6.alloc hb6.size _⟩
            case measure => simp [intOf]; omega
          · have hge : ¬ (j : Int) < 8 := by omega
            clear hT2 hj8 hj hbj
            obtain ⟨wy, rfl⟩ : ∃ wy : World, wy = wr := ⟨_, rfl⟩
            go_wp2_with fail
            go_loopw [23] (fun fv wr => ∃ f : Nat, f ≤ n ∧ fv = .int .i64 f ∧ Below wy.heap.size wy wr) (fun fv _ => n - (intOf fv).toNat)
            case atStart => exact ⟨0, Nat.zero_le _, rfl, Below.refl _ _⟩
            case round =>
              clear hge
              obtain ⟨f, hf, rfl, hbf⟩ := hrel
              have hTf := hTj.below hbf
              have hbf' := hbf
              clear hTj hbf
              have hrs := hTf.r.p.sto
              obtain ⟨_, hByt, v, ht0, hv⟩ := hrs
              rcases hv with ⟨h0, _⟩ | ⟨tc, cur, rfl, hc1, hc2, hcur, hsz, hrow⟩
              · omega
              have d0 := (cell_of_row _ _ 0 _ _ _ ht0).trans rfl
              have ltt := lt_heap ht0
              have ltr := lt_heap hcur
              by_cases hfn : f < n
              · obtain ⟨gr, cr, hrf, hcr1, hcr2, hrowf⟩ := hrow f hfn
                have d1 := (cell_of_row _ _ f _ _ _ hcur).trans hrf
                obtain ⟨gt, capt, hvt, hct1, hct2, hgtl, hd, hfzt⟩ := hTf.r.p.itemT hfn
                have d2 := hTf.r.p.cell2
                have ltq := hTf.r.p.lt
                rw [hvt] at d2
                have d3 := hd f hfn
                have hTk := fun w h => iTaken (A := A1) (b := b) (s := s) (fb := fb) (mb := mb) (n := n) (G := y.G) (S := y.S) (M := y.M) f w h
                have hTkv : takenB y.S f = (atL y.S f).tk := by rw [takenB, hTf.i.len, if_pos ⟨by omega, by omega⟩, Int.toNat_natCast]
                rw [hTkv] at hTk
                generalize (atL y.S f).tk = X at d3 hTk
                clear hd hfzt hrow ht0 hcur hvt hTkv
                have hB6 := hTf.bel.2
                go_wp2_with fail
                refine (fbytes_in s fb n f y.G _ hTf.i.sto hfn).mono ?_
                rintro e w7 ⟨g7, rfl, hg7, hr7, b7⟩
                have d0' := (b7.cell (p := ⟨t, 0, none⟩) ltt).trans d0
                have d1' := (b7.cell (p := ⟨rb, f, none⟩) ltr).trans d1
                have d2' := (b7.cell (p := ⟨q, 2, none⟩) ltq).trans d2
                have d3' := (b7.cell (p := ⟨gt, f, none⟩) hgtl).trans d3
                have hT7 := hTf.below b7
                have hb7 : Below wy.heap.size wy w7 := hbf'.trans (b7.mono hbf'.size)
                have lt7 := b7.size
                have e1 : t < w7.heap.size := by omega
                have e2 : rb < w7.heap.size := by omega
                have e3 : q < w7.heap.size := by omega
                have e4 : gt < w7.heap.size := by omega
                have hsc := (hrowf.below b7).bat
                have hsa := hr7.bat
                have kA : ∀ (y' : Lat w7) (c : Nat), (convert 45 9 (.slice (some ⟨g7, 0, none⟩) 64 c)).run Try.prog (later w7 y') = .ok (.string (strF (fr y.G f) 64)) (later w7 y') := fun y' c => conv_bytes hsa.later c
                have kC : ∀ (y' : Lat w7) (c : Nat), (convert 45 9 (.slice (some ⟨gr, 0, none⟩) 64 c)).run Try.prog (later w7 y') = .ok (.string (strF (fr y.G f) 64)) (later w7 y') := fun y' c => conv_bytes hsc.later c
                clear d0 d1 d2 d3 hsa hsc hr7 hrowf hTf b7 ltt ltr ltq hgtl hbf'
                go_wp2_with fail
                refine wp_region_later (by kernel_rfl) (by kernel_rfl) ?_
                try dsimp only [List.append_eq, List.cons_append, List.nil_append]
                repeat (first | go_big_quiet_step (first
                  | (go_at_call 19; exact Calls.later_same (hTk _ hT7.later.i))))
                refine wpQuiet_nil ?_
                intro w9 hw'
                have hb9 : Below wy.heap.size wy w9 := by
                  obtain ⟨x9, hw''⟩ := hw'
                  subst hw''
                  exact hb7.trans ((later_below w7 x9).mono hb7.size)
                clear hw' hT7 kA kC d0' d1' d2' d3' hb7 hTk
                go_wp2_with fail
                go_roundw
                case rel => exact ⟨f + 1, by omega, by go_num, hb9⟩
                case measure => simp [intOf]; omega
              · have hge : ¬ (f : Int) < n := by omega
                clear hrow ht0 hcur
                go_wp2_with fail
                go_roundw
                case rel => exact ⟨i + 1, A1, y, by omega, by go_num, hTf⟩
                case measure => simp [intOf]; omega
    · clear w1 w2 w3 w4
      have hcase : ¬ i < n1 ∨ (i < n1 ∧ ¬ i < n2) ∨ (i < n1 ∧ i < n2 ∧ ¬ i < n3) ∨ (i < n1 ∧ i < n2 ∧ i < n3 ∧ ¬ i < n4) ∨ (i < n1 ∧ i < n2 ∧ i < n3 ∧ i < n4 ∧ ¬ i < 20) := by omega
      clear hall
      have hbel := hT.bel
      clear hT
      rcases hcase with h | ⟨h1, h⟩ | ⟨h1, h2, h⟩ | ⟨h1, h2, h3, h⟩ | ⟨h1, h2, h3, h4, h⟩
      all_goals
        go_wp2_with fail
        refine (awake35 _).mono ?_
        rintro e w' ⟨rfl, b4⟩
        have hb := hbel.of b4
        go_wp2
        go_ret
        exact ⟨rfl, hb.1⟩
end Go.Proofs.Ytklgfnboadchmaa
