/- law 07: PoolPlays. -/
import Derived.Test.YtgcnmhlojfncpaaR07p
import Derived.Deep.CutRange
import Derived.Deep.CutBlock
namespace Go.Proofs.Ytgcnmhlojfncpaa
open Go.ChangeShapes Go.WideShapes Go.ChangeAt Go.RowKit
set_option linter.unusedVariables false

section
variable {w0 w w' : World} {n b s fb : Nat} {G : Nat → Int} {V : Nat → Value} {L : Nat → List plIt} {st : Value} {S : List stIt} {q t rb : Nat} {G2 : Nat → Int} {uv tv : Value} {S2 : List stIt}
theorem PP.later (h : PP w0 w n b s fb G V L st S q t rb G2 uv tv S2) {x : Lat w} : PP w0 (Proofs.Ytgcnmhlojfncpaa.later w x) n b s fb G V L st S q t rb G2 uv tv S2 := h.below (later_below w x)
theorem PP.drew (h : PP w0 w n b s fb G V L st S q t rb G2 uv tv S2) : PP w0 w.drew n b s fb G V L st S q t rb G2 uv tv S2 := h.below (Bel.refl w).drew.1
theorem PMove.bel {B : Nat} {a : World} (m : PMove w w' b s fb n G V L st S) (hF : From B b s fb V st) (h : Bel B a w) : Bel B a w' := by
  obtain ⟨g, v', l', hg, hp, f, ho⟩ := m
  exact f.bel h (hF.tch hg)
theorem PP.rbel {a : World} (hP : PP w0 w n b s fb G V L st S q t rb G2 uv tv S2) {G' : Nat → Int} {S' : List stIt} (m : RMove w w' q t rb n G' uv tv S') (h : Bel w0.heap.size a w) : Bel w0.heap.size a w' := by
  refine m.2.bel h fun i hi => ?_
  rcases hi with rfl | e | e
  · exact hP.frb
  · exact hP.fu i e.symm
  · exact hP.ft i e.symm
end
set_option maxRecDepth 100000 in
set_option maxHeartbeats 4000000 in
theorem poolPlays_walk (a0 : Int) (p1 : Option Addr) (n1 c1 : Nat) (f1 : Nat → List Value) (p2 : Option Addr) (n2 c2 : Nat) (f2 : Nat → List Value) (p3 : Option Addr) (n3 c3 : Nat) (f3 : Nat → List Value) (w : World) (w0 : (Lit.int .u8 a0).wf = true) (w1 : SliceOk [some .u8] w p1 n1 c1 f1) (hR1 : c1 * 1 ≤ 140737488351232) (w2 : SliceOk [some .i64] w p2 n2 c2 f2) (hR2 : c2 * 8 ≤ 140737488351232) (w3 : SliceOk [some .i64] w p3 n3 c3 f3) (hR3 : c3 * 8 ≤ 140737488351232) :
    Calls Try.prog 5 #[.int .u8 a0, .slice p1 n1 c1, .slice p2 n2 c2, .slice p3 n3 c3] w fun e w' => e = .returned (.bool true) ∧ Below w.heap.size w w' := by
  clear hR1 hR2 hR3
  have b0 := bounds_u8 w0
  obtain ⟨b00, b01⟩ := b0
  obtain ⟨n, hN, hn⟩ : ∃ n : Nat, (a0 % 33 : Int) = n ∧ n ≤ 32 := ⟨(a0 % 33).toNat, by omega, by omega⟩
  have HN := Lib.hid hN
  clear hN w0
  go_enter Try.func5, Try.ntmps5
  go_wp2_with fail
  rw [HN.out]
  refine (fnew_full n _ hn).mono ?_
  rintro e wa ⟨s, fb, rfl, hs, hfb, hst, hba⟩
  have hbela : Bel w.heap.size w wa := Bel.of (Bel.refl w) hba
  go_wp2_with fail
  rw [HN.out]
  refine (rnew_full n _ hn).mono ?_
  rintro e wb ⟨t, rb, rfl, ht, hrb, hrst, hbb⟩
  have hbelb : Bel w.heap.size w wb := Bel.of hbela hbb
  replace hst := hst.below hbb
  replace hrb : w.heap.size ≤ rb := Nat.le_trans hbela.2 hrb
  clear HN
  by_cases hz : n = 0
  · subst hz
    clear w1 w2 w3
    go_wp2_with fail
    refine (plNewNo s fb _ _ hst).mono ?_
    rintro e wc ⟨rfl, b3⟩
    have hbelc := hbelb.of b3
    go_wp2_with fail
    refine (rpNewNo t rb _ _ (hrst.below b3)).mono ?_
    rintro e wd ⟨rfl, rfl⟩
    go_wp2_with fail
    refine (awake07 _).mono ?_
    rintro e w4 ⟨rfl, b4⟩
    have hb := hbelc.of b4
    go_wp2
    go_ret
    exact ⟨rfl, hb.1⟩
  have hn0 : 0 < n := by omega
  clear hz
  go_wp2_with fail
  refine (plNew s fb n _ _ hst hn0).mono ?_
  rintro e wc ⟨b, st, rfl, hb, hp, hbc, hstc⟩
  have hrst3 := hrst.below hbc
  have hbelc := hbelb.of hbc
  go_wp2_with fail
  refine (rpNew t rb n _ _ hrst3 hn0).mono ?_
  rintro e wd ⟨q, uv, tv, rfl, hq, hr, hbd, hfu, hft⟩
  have hPP : PP w wd n b s fb (fun _ => 0) nilV (fun _ => []) st (List.replicate n ⟨-1, false⟩) q t rb (fun _ => 0) uv tv (List.replicate n ⟨-1, false⟩) := by
    have h1 := hbela.2
    have h2 := hbelb.2
    have h3 := hbelc.2
    exact ⟨hp.below hbd, hr, ⟨by omega, by omega, by omega, fun g hg a ha => (by cases ha), fun a ha => by have := hstc a ha; omega⟩, hrb, fun a ha => by have := hfu a ha; omega, fun a ha => by have := hft a ha; omega, fun g hg a ha => (by cases ha), hbelc.of hbd⟩
  clear hst hrst hp hrst3 hr hba hbb hbc hbd hbela hbelb hbelc hs hfb ht hrb hb hq hstc hfu hft
  go_wp2_with fail
  go_loopw [17] (fun iv wr => ∃ (i : Nat) (G : Nat → Int) (V : Nat → Value) (L : Nat → List plIt) (S : List stIt), i ≤ 100 ∧ iv = .int .i64 i ∧ PP w wr n b s fb G V L st S q t rb G uv tv S) (fun iv _ => 100 - (intOf iv).toNat)
  case atStart => exact ⟨0, _, _, _, _, Nat.zero_le _, rfl, hPP⟩
  case round =>
    clear hPP
    obtain ⟨i, G, V, L, S, hi, rfl, hP0⟩ := hrel
    by_cases hall : i < n1 ∧ i < n2 ∧ i < n3 ∧ i < 100
    · obtain ⟨i1, i2, i3, i100⟩ := hall
      obtain ⟨b1, o1, kd, rfl, l1, _, wkd, q1⟩ := w1.int1 i1
      obtain ⟨b2, o2, f, rfl, l2, _, wf2, q2⟩ := w2.int1 i2
      obtain ⟨b3, o3, who, rfl, l3, _, wf3, q3⟩ := w3.int1 i3
      clear w1 w2 w3
      have bkd := bounds_u8 wkd
      obtain ⟨bk0, bk1⟩ := bkd
      have r1 := (hP0.bel.1.cell (p := ⟨b1, o1 + i, none⟩) l1).trans q1
      have r2 := (hP0.bel.1.cell (p := ⟨b2, o2 + i, none⟩) l2).trans q2
      have r3 := (hP0.bel.1.cell (p := ⟨b3, o3 + i, none⟩) l3).trans q3
      have Hf := Lib.hid wf2
      clear wkd wf2 wf3
      have hB0 := hP0.bel.2
      have hSw := hP0.r.who
      have hln := hP0.r.len
      obtain ⟨c, hc, hc4⟩ : ∃ c : Nat, (kd % 4 : Int) = c ∧ c < 4 := ⟨(kd % 4).toNat, by omega, by omega⟩
      have HC := Lib.hid hc
      clear hc
      go_upto_block 2 with (fail)
      go_cut [18, 19, 20, 21] from 63 to 288 (fun _ _ _ _ wx => ∃ (G' : Nat → Int) (V' : Nat → Value) (L' : Nat → List plIt) (S' : List stIt), PP w wx n b s fb G' V' L' st S' q t rb G' uv tv S')
      case first =>
        have hc := HC.out
        clear HC
        rcases (by omega : c = 0 ∨ c = 1 ∨ c = 2 ∨ c = 3) with rfl | rfl | rfl | rfl
        · as_aux_lemma =>
            have hb0 : (kd % 4 == 0) = true := by simp; omega
            have hb1 : (kd % 4 == 1) = false := by simp; omega
            have hb2 : (kd % 4 == 2) = false := by simp; omega
            obtain ⟨E, G', S', hOP, hOR⟩ := own_both n G S f who Hf.out hn0 hSw
            clear hSw hln
            go_wp2_with fail
            (refine wp_region_line 21 (fun x => ∃ y : LatF w.heap.size wr, x = laterF w.heap.size wr y) (by kernel_rfl) rfl ?_)
            (refine wpSeg (0 :: 1 :: 2 :: 3 :: 4 :: 5 :: 6 :: 7 :: 8 :: 10 :: 11 :: 12 :: 13 :: 14 :: 15 :: 16 :: 17 :: 18 :: []) 3 (l := _) rfl (by simp only [List.filterMap_cons, List.filterMap_nil, List.getElem?_toArray, List.getElem?_cons_succ, List.getElem?_cons_zero]; rfl) (by kernel_rfl) (fun _ _ _ _ _ h => h) laterF_drew ?_; show wpQuiet _ _ _ _ (_ :: _ :: _ :: _ :: _ :: _ :: _ :: _ :: _ :: _ :: _ :: _ :: _ :: _ :: _ :: _ :: _ :: _ :: []) _; (repeat (go_big_quiet_step (fail))); refine wpQuiet_nil ?_; show wpAnyH _ _ _ _ _ _ _ _ _)
            (refine wpOne 9 2 rfl rfl (by kernel_rfl) ?_; intro K hK; go_simp)
            refine (hOP _ _ _ _ _ _ _ hP0.drew.p).mono ?_
            rintro e wx ⟨rfl, mx⟩
            obtain ⟨V', L', hP1⟩ := hP0.drew.stepP mx
            have hb1 := mx.bel hP0.fp (Bel.here hB0).drew
            (refine hK.out _ _ _ (fun _ h => h) (laterF_of hb1.1) ?_; clear hK K)
            (refine wpOne 19 1 rfl rfl (by kernel_rfl) ?_; intro K hK; go_simp)
            refine (hOR _ _ _ _ _ _ hP1.r).mono ?_
            rintro e wz ⟨rfl, my⟩
            have hP := hP1.stepR my
            have hbz := hP1.rbel my hb1
            (refine hK.out _ _ _ (fun _ h => h) (laterF_of hbz.1) ?_; clear hK K)
            (refine wpSeg (20 :: []) 0 (l := _) rfl (by simp only [List.filterMap_cons, List.filterMap_nil, List.getElem?_toArray, List.getElem?_cons_succ, List.getElem?_cons_zero]; rfl) (by kernel_rfl) (fun _ _ _ _ _ h => h) (laterF_of hbz.1) ?_; show wpQuiet _ _ _ _ (_ :: []) _; (repeat (go_big_quiet_step (fail))); refine wpQuiet_nil ?_; show wpAnyH _ _ _ _ _ _ _ _ _)
            refine wpAnyH_done (by kernel_rfl) ?_ _
            clear hOP hOR mx my hP1 hb1
            clear hbz
            go_wp2_with fail
            go_meet
            case rel => exact ⟨_, _, _, _, hP⟩
        · as_aux_lemma =>
            have hb0 : (kd % 4 == 0) = false := by simp; omega
            have hb1 : (kd % 4 == 1) = true := by simp; omega
            have hb2 : (kd % 4 == 2) = false := by simp; omega
            obtain ⟨X, E, S', hOP, hOR⟩ := take_both n G S who hn0 hln
            obtain ⟨G', hG'⟩ : ∃ G', G' = G := ⟨_, rfl⟩
            clear hSw hln
            go_wp2_with fail
            refine (hOP _ _ _ _ _ _ _ hP0.p).mono ?_
            rintro e wx ⟨rfl, mx⟩
            obtain ⟨V', L', hP1⟩ := hP0.stepP mx
            have hb1 := mx.bel hP0.fp (Bel.here hB0)
            have r3x := (hb1.1.cell (p := ⟨b3, o3 + i, none⟩) l3).trans r3
            have hB1 := hb1.2
            go_wp2_with fail
            refine (hOR _ _ _ _ _ _ hP1.r).mono ?_
            rintro e wz ⟨rfl, my⟩
            have hP := hP1.stepR my
            have hbz := hP1.rbel my hb1
            rw [← hG'] at hP
            clear hOP hOR mx my hP1 hb1 r3x hB1 hG'
            clear hbz
            go_wp2_with fail
            go_meet
            case rel => exact ⟨_, _, _, _, hP⟩
        · as_aux_lemma =>
            have hb0 : (kd % 4 == 0) = false := by simp; omega
            have hb1 : (kd % 4 == 1) = false := by simp; omega
            have hb2 : (kd % 4 == 2) = true := by simp; omega
            obtain ⟨E, G', S', hOP, hOR⟩ := back_both n G S f Hf.out hn0 hSw
            clear hSw hln
            go_wp2_with fail
            (refine wp_region_line 13 (fun x => ∃ y : LatF w.heap.size wr, x = laterF w.heap.size wr y) (by kernel_rfl) rfl ?_)
            (refine wpSeg (0 :: 1 :: 2 :: 3 :: 4 :: 6 :: 7 :: 8 :: 9 :: 10 :: []) 3 (l := _) rfl (by simp only [List.filterMap_cons, List.filterMap_nil, List.getElem?_toArray, List.getElem?_cons_succ, List.getElem?_cons_zero]; rfl) (by kernel_rfl) (fun _ _ _ _ _ h => h) laterF_drew ?_; show wpQuiet _ _ _ _ (_ :: _ :: _ :: _ :: _ :: _ :: _ :: _ :: _ :: _ :: []) _; (repeat (go_big_quiet_step (fail))); refine wpQuiet_nil ?_; show wpAnyH _ _ _ _ _ _ _ _ _)
            (refine wpOne 5 2 rfl rfl (by kernel_rfl) ?_; intro K hK; go_simp)
            refine (hOP _ _ _ _ _ _ _ hP0.drew.p).mono ?_
            rintro e wx ⟨rfl, mx⟩
            obtain ⟨V', L', hP1⟩ := hP0.drew.stepP mx
            have hb1 := mx.bel hP0.fp (Bel.here hB0).drew
            (refine hK.out _ _ _ (fun _ h => h) (laterF_of hb1.1) ?_; clear hK K)
            (refine wpOne 11 1 rfl rfl (by kernel_rfl) ?_; intro K hK; go_simp)
            refine (hOR _ _ _ _ _ _ hP1.r).mono ?_
            rintro e wz ⟨rfl, my⟩
            have hP := hP1.stepR my
            have hbz := hP1.rbel my hb1
            (refine hK.out _ _ _ (fun _ h => h) (laterF_of hbz.1) ?_; clear hK K)
            (refine wpSeg (12 :: []) 0 (l := _) rfl (by simp only [List.filterMap_cons, List.filterMap_nil, List.getElem?_toArray, List.getElem?_cons_succ, List.getElem?_cons_zero]; rfl) (by kernel_rfl) (fun _ _ _ _ _ h => h) (laterF_of hbz.1) ?_; show wpQuiet _ _ _ _ (_ :: []) _; (repeat (go_big_quiet_step (fail))); refine wpQuiet_nil ?_; show wpAnyH _ _ _ _ _ _ _ _ _)
            refine wpAnyH_done (by kernel_rfl) ?_ _
            clear hOP hOR mx my hP1 hb1
            clear hbz
            go_wp2_with fail
            go_meet
            case rel => exact ⟨_, _, _, _, hP⟩
        · as_aux_lemma =>
            have hb0 : (kd % 4 == 0) = false := by simp; omega
            have hb1 : (kd % 4 == 1) = false := by simp; omega
            have hb2 : (kd % 4 == 2) = false := by simp; omega
            obtain ⟨S', hS'⟩ : ∃ S', S' = S := ⟨_, rfl⟩
            obtain ⟨V', hV'⟩ : ∃ V', V' = V := ⟨_, rfl⟩
            obtain ⟨L', hL'⟩ : ∃ L', L' = L := ⟨_, rfl⟩
            rw [← hS', ← hV', ← hL'] at hP0
            clear hSw hln hS' hV' hL'
            go_wp2_with fail
            refine (fsave_any s fb n f 0 4 77 G _ hP0.p.sto (by decide) (by decide) (by decide)).mono ?_
            rintro e wx ⟨rfl, hu1, hs1⟩
            have hP1 := hP0.saveP hu1 hs1
            have hb1 := (Bel.here hB0).upd hu1 hP0.fp.fb
            have r2x := (hb1.1.cell (p := ⟨b2, o2 + i, none⟩) l2).trans r2
            have hB1 := hb1.2
            go_wp2_with fail
            refine (rsave_any t rb n f 0 4 77 G _ hP1.r.sto Hf.out (by decide) (by decide) (by decide)).mono ?_
            rintro e wz ⟨rfl, hu2, hs2⟩
            have hP := hP1.saveR hu2 hs2
            have hbz := hb1.upd hu2 hP0.frb
            obtain ⟨G', hG'⟩ : ∃ G', svG n G f 0 4 77 = G' := ⟨_, rfl⟩
            rw [hG'] at hP
            clear hG' hs1 hs2 hu1 hu2 hP1 hb1 r2x hB1
            clear hbz
            go_wp2_with fail
            go_meet
            case rel => exact ⟨_, _, _, _, hP⟩
      case rest => as_aux_lemma =>
        obtain ⟨G', V', L', S', hP⟩ := hcut
        clear HC hP0 r1 r2 r3 hB0 hSw hln
        have hB9 := hP.bel.2
        obtain ⟨wz, rfl⟩ : ∃ wz : World, wz = wc := ⟨_, rfl⟩
        have r2 := (hP.bel.1.cell (p := ⟨b2, o2 + i, none⟩) l2).trans q2
        have r3 := (hP.bel.1.cell (p := ⟨b3, o3 + i, none⟩) l3).trans q3
        have hB := hP.bel.2
        have hSw := hP.r.who
        have hln := hP.r.len
        have hn0 := hP.p.pos
        obtain ⟨XW, BW, hWP, hWR⟩ := who_both n G' S' f Hf.out hn0 hSw
        obtain ⟨XL, hLP, hLR⟩ := left_both n G' S' who hn0 hln hSw
        clear hSw hln
        go_wp2_with fail
        refine (hWP _ _ _ _ _ _ _ hP.p).mono ?_
        rintro e wx ⟨rfl, rfl⟩
        go_wp2_with fail
        refine (hWR _ _ _ _ _ _ hP.r).mono ?_
        rintro e wx ⟨rfl, rfl⟩
        clear hWP hWR
        have lz2 : b2 < wz.heap.size := by omega
        have lz3 : b3 < wz.heap.size := by omega
        go_wp2_with fail
        refine wp_region_later (by kernel_rfl) (by kernel_rfl) ?_
        repeat (first | go_big_quiet_step (first
          | (go_at_call 12; exact Calls.later_same (hLP _ _ _ _ _ _ _ hP.later.p))
          | (go_at_call 24; exact Calls.later_same (hLR _ _ _ _ _ _ hP.later.r))
          | (go_at_call 25; exact Calls.later_of (fclean_any _ _ _ _ _ _ hP.later.p.sto))
          | (go_at_call 26; exact Calls.later_same (rclean_any _ _ _ _ _ _ hP.later.r.sto Hf.out))))
        refine wpQuiet_nil ?_
        intro w6 hw'
        have hb6 : Below wz.heap.size wz w6 := by
          obtain ⟨x9, hw''⟩ := hw'
          subst hw''
          exact later_below _ _
        clear hw'
        have hP6 := hP.below hb6
        replace r2 := (hb6.cell (p := ⟨b2, o2 + i, none⟩) lz2).trans r2
        have hB6 := hP6.bel.2
        have lz6 : b2 < w6.heap.size := by omega
        clear hP hb6 r3 lz2 lz3 hLP hLR hB
        go_wp2_with fail
        refine wp_region_later (by kernel_rfl) (by kernel_rfl) ?_
        try dsimp only [List.append_eq, List.cons_append, List.nil_append]
        by_cases hfin : fin n f
        · as_aux_lemma =>
            obtain ⟨k, rfl, hk⟩ := hfin.nat
            obtain ⟨gt, capt, hvt, _, _, hgtl, hd, hfzt⟩ := hP6.r.itemT hk
            have hc2 := hP6.r.cell2
            have hqlt := hP6.r.lt
            rw [hvt] at hc2
            have hdf := hd k hk
            have hTk := fun (w : World) (h : PlIn w b s fb n G' V' L' st S') => plTaken k w h hk
            generalize (atL S' k).tk = y at hdf hTk
            have hk0 : (k : Int) ≥ 0 := by omega
            have hkn : (k : Int) < n := by omega
            clear hd hfzt hvt hfin
            repeat (first | go_big_quiet_step (first
              | (go_at_call 15; exact Calls.later_same (hTk _ hP6.later.p.toPlIn))
              | (go_at_call 28; exact Calls.later_of (len_of _ _ _ _ _ hP6.later.p.sto))
              | (go_at_call 27; exact Calls.later_same (is_yes t rb n k _ _ hP6.later.r.sto hk))))
            refine wpQuiet_nil ?_
            intro w7 hw'
            have hP7 : PP w w7 n b s fb G' V' L' st S' q t rb G' uv tv S' := by
              obtain ⟨x9, hw''⟩ := hw'
              subst hw''
              exact hP6.later
            clear hw' hP6
            go_wp2_with fail
            go_roundw
            case rel => exact ⟨i + 1, _, _, _, _, by omega, by go_num, hP7⟩
            case measure => simp [intOf]; omega
        · have hout := fin.out hfin
          have hcase : (f < 0 ∧ ¬ 0 ≤ f ∧ decide (0 ≤ f) = false) ∨ (0 ≤ f ∧ ¬ f < n ∧ ((n : Int) ≤ f ∧ decide (f < (n : Int)) = false)) := by
            rcases hout with h | h
            · exact .inl ⟨h, by omega, decide_eq_false (by omega)⟩
            · exact .inr ⟨by omega, by omega, h, decide_eq_false (by omega)⟩
          clear hfin
          rcases hcase with ⟨hf0, hf1, hf2⟩ | ⟨hf0, hf1, hf2, hf3⟩
          all_goals
            as_aux_lemma =>
              repeat (first | go_big_quiet_step (first
                | (go_at_call 15; exact Calls.later_same (plTakenNo f _ hP6.later.p.toPlIn hn0 hout))
                | (go_at_call 28; exact Calls.later_of (len_of _ _ _ _ _ hP6.later.p.sto))
                | (go_at_call 27; exact Calls.later_same (is_no t rb n f _ _ hP6.later.r.sto Hf.out hout))))
              refine wpQuiet_nil ?_
              intro w7 hw'
              have hP7 : PP w w7 n b s fb G' V' L' st S' q t rb G' uv tv S' := by
                obtain ⟨x9, hw''⟩ := hw'
                subst hw''
                exact hP6.later
              clear hw' hP6
              go_wp2_with fail
              go_roundw
              case rel => exact ⟨i + 1, _, _, _, _, by omega, by go_num, hP7⟩
              case measure => simp [intOf]; omega
    · clear w1 w2 w3
      have hcase : ¬ i < n1 ∨ (i < n1 ∧ ¬ i < n2) ∨ (i < n1 ∧ i < n2 ∧ ¬ i < n3) ∨ (i < n1 ∧ i < n2 ∧ i < n3 ∧ ¬ i < 100) := by omega
      clear hall
      have hbel := hP0.bel
      clear hP0
      rcases hcase with h | ⟨h1, h⟩ | ⟨h1, h2, h⟩ | ⟨h1, h2, h3, h⟩
      all_goals
        go_wp2_with fail
        refine (awake07 _).mono ?_
        rintro e w4 ⟨rfl, b4⟩
        have hb := hbel.of b4
        go_wp2
        go_ret
        exact ⟨rfl, hb.1⟩
end Go.Proofs.Ytgcnmhlojfncpaa
