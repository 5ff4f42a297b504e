/- law 28: VicPlays. -/
import Derived.Test.YtddngfhiaolkeaaVr
namespace Go.Proofs.Ytddngfhiaolkeaa
open Go.ChangeShapes Go.WideShapes Go.ChangeAt Go.RowKit
set_option linter.unusedVariables false

theorem SliceOk.int3 {k k' k'' : IntKind} {w : World} {a : Option Addr} {len cap : Nat} {f : Nat → List Value} (h : SliceOk [some k, some k', some k''] w a len cap f) {i : Nat} (hi : i < len) :
    ∃ b off n n' n'', a = some ⟨b, off, none⟩ ∧ b < w.heap.size ∧ w.cell? ⟨b, off + i * 3, none⟩ = some (.int k n) ∧ w.cell? ⟨b, off + i * 3 + 1, none⟩ = some (.int k' n') ∧ w.cell? ⟨b, off + i * 3 + 2, none⟩ = some (.int k'' n'') := by
  obtain ⟨b, off, ha, hb, hr, hc⟩ := h.at hi
  obtain ⟨n, r, hf, hw, hr⟩ := rowOk_int hr
  obtain ⟨n', r, rfl, hw', hr⟩ := rowOk_int hr
  obtain ⟨n'', r, rfl, hw'', hr⟩ := rowOk_int hr
  have h0 := hc 0 (by simp)
  have h1 := hc 1 (by simp)
  have h2 := hc 2 (by simp)
  rw [hf] at h0 h1 h2
  exact ⟨b, off, n, n', n'', ha, hb, by simpa using h0, by simpa [Nat.add_assoc] using h1, by simpa [Nat.add_assoc] using h2⟩

theorem VQ.hasNo {s : Nat → vcLn} {now : Nat} {q : List Nat} (h : VQ s now q) {n : Int} (hn : n < 0 ∨ 8 ≤ n) : hasQ q n = false := by
  refine hasQ_false fun i hi => ?_
  have := h.at8 i hi
  omega
theorem lessQ_no {q : List Nat} {n : Int} (h : hasQ q n = false) : lessQ q n = q := by
  unfold lessQ
  rw [List.filter_eq_self]
  intro a ha
  unfold hasQ at h
  rw [List.any_eq_false] at h
  simpa using h a ha
theorem rvClearT {b : Nat} {mk : Nat → Bool} {pr : Nat → Int} {v : Value} {q : List Nat} (n : Int) (c : Bool) (w : World) (h : RvAt w b mk pr v q) (hm : q.length ≤ 1000000) (hc : hasQ q n = c) :
    Calls Try.prog 18 #[.pointer (some ⟨b, 0, none⟩), .int .i64 n] w fun e w' => e = .returned (.bool c) ∧ ∃ v', RvAt w' b mk pr v' (lessQ q n) ∧ Frm b v v' w w' := by
  have := rvClear b mk pr v q n w h hm
  rwa [hc] at this

theorem rv_same {w : World} {rb n : Nat} {s : Nat → vcLn} {x : vcLn} {rv : Value} {q : List Nat} (r : RvAt w rb (msOf s) (prOf s) rv q) (h1 : x.ms = (s n).ms) (h2 : x.pr = (s n).pr) : RvAt w rb (msOf (putF s n x)) (prOf (putF s n x)) rv q := by
  rw [msOf_same h1, prOf_same h2]; exact r
theorem rv_mask {w : World} {rb n : Nat} {s : Nat → vcLn} {x : vcLn} {rv : Value} {q : List Nat} {c : Bool} (r : RvAt w rb (putF (msOf s) n c) (prOf s) rv q) (h1 : x.ms = c) (h2 : x.pr = (s n).pr) : RvAt w rb (msOf (putF s n x)) (prOf (putF s n x)) rv q := by
  rw [msOf_put, h1, prOf_same h2]; exact r
theorem rv_prio {w : World} {rb n : Nat} {s : Nat → vcLn} {x : vcLn} {rv : Value} {q : List Nat} {p : Int} (r : RvAt w rb (msOf s) (putF (prOf s) n p) rv q) (h1 : x.ms = (s n).ms) (h2 : x.pr = p) : RvAt w rb (msOf (putF s n x)) (prOf (putF s n x)) rv q := by
  rw [msOf_same h1, prOf_put, h2]; exact r

set_option maxRecDepth 100000 in
set_option maxHeartbeats 4000000 in
theorem vicPlays_walk (p0 : Option Addr) (n0 c0 : Nat) (f0 : Nat → List Value) (w : World) (w0 : SliceOk [some .i64, some .i64, some .i64] w p0 n0 c0 f0) (hR0 : c0 * 24 ≤ 140737488351232) :
    Calls Try.prog 6 #[.slice p0 n0 c0] w fun e w' => e = .returned (.bool true) ∧ Below w.heap.size w w' := by
  have hlen : n0 ≤ 140737488351232 := by
    have := w0.1
    omega
  go_enter Try.func6, Try.ntmps6
  go_wp2_with fail
  refine (vcNew _).mono ?_
  rintro e wa ⟨rfl, b1, h1⟩
  have hVPl : VPl w (wa.alloc (.cells (rvBlk (msOf vc0) (prOf vc0) (.slice none 0 0)) 46)) wa.heap.size vc0 0 (.slice none 0 0) [] (.slice none 0 0) [] :=
    ⟨h1.below (Bel.refl wa).alloc.1, ⟨Go.heap_alloc_new wa _, World.ownsRow_nil _ _ _ _⟩, h1.lt, Bel.alloc ⟨b1, b1.size⟩, VQ.nil⟩
  have hT0 := h1.lt
  go_wp2_with fail
  go_loopw [4, 5] (fun rbv iv wr => ∃ (i : Nat) (s : Nat → vcLn) (now : Nat) (v : Value) (l : List vcIt) (rv : Value) (q : List Nat), i ≤ 100 ∧ iv = .int .i64 i ∧ now ≤ i ∧ q.length ≤ i ∧ ∃ rb, rbv = .pointer (some ⟨rb, 0, none⟩) ∧ VPl w wr rb s now v l rv q) (fun _ iv _ => 100 - (intOf iv).toNat)
  case atStart => exact ⟨0, _, 0, _, _, _, _, Nat.zero_le _, rfl, Nat.le_refl _, Nat.le_refl _, _, rfl, hVPl⟩
  case round =>
    obtain ⟨i, s, now, v, l, rv, q, hi, rfl, hnow, hqi, rb, rfl, hP⟩ := hrel
    obtain ⟨wo, rfl⟩ : ∃ wo : World, wo = wr := ⟨_, rfl⟩
    clear hVPl h1 b1
    by_cases hall : i < n0 ∧ i < 100
    · obtain ⟨i0, i100⟩ := hall
      obtain ⟨b0, o0, kd, ln, pp, rfl, l0, q0, q1, q2⟩ := SliceOk.int3 w0 i0
      have r0 : wo.cell? ⟨b0, o0 + i * 3, none⟩ = some (.int .i64 kd) := (hP.bel.1.cell (p := ⟨b0, o0 + i * 3, none⟩) l0).trans q0
      have r1 : wo.cell? ⟨b0, o0 + i * 3 + 1, none⟩ = some (.int .i64 ln) := (hP.bel.1.cell (p := ⟨b0, o0 + i * 3 + 1, none⟩) l0).trans q1
      have r2 : wo.cell? ⟨b0, o0 + i * 3 + 2, none⟩ = some (.int .i64 pp) := (hP.bel.1.cell (p := ⟨b0, o0 + i * 3 + 2, none⟩) l0).trans q2
      clear q0 q1 q2 w0
      have hA : (wo.alloc (.cells #[.int .i64 kd, .int .i64 ln, .int .i64 pp] 39)).heap[wo.heap.size]? = some (.cells #[.int .i64 kd, .int .i64 ln, .int .i64 pp] 39 (0, 0)) := Go.heap_alloc_new wo _
      have hP1 : VPl w (wo.alloc (.cells #[.int .i64 kd, .int .i64 ln, .int .i64 pp] 39)) rb s now v l rv q := hP.below (Bel.refl wo).alloc.1
      have hlo : w.heap.size < wo.heap.size := hP.vc.lt
      clear hP
      rcases (by omega : kd = 0 ∨ kd = 1 ∨ kd = 2 ∨ kd = 3 ∨ kd = 4 ∨ (kd ≠ 0 ∧ kd ≠ 1 ∧ kd ≠ 2 ∧ kd ≠ 3 ∧ kd ≠ 4)) with rfl | rfl | rfl | rfl | rfl | ⟨kd0, kd1, kd2, kd3, kd4⟩
      · go_wp2_with fail
        generalize (wo.alloc (.cells #[.int .i64 0, .int .i64 ln, .int .i64 pp] 39)) = wq at hA hP1 ⊢
        have k0 : True := trivial
        have k1 : wq.cell? ⟨wo.heap.size, 1, none⟩ = some (.int .i64 ln) := cell_of_row _ _ _ _ _ _ hA
        have k2 : True := trivial
        have hPd : VPl w wq.drew rb s now v l rv q := hP1.below (Bel.refl wq).drew.1
        have hAd : wq.drew.heap[wo.heap.size]? = _ := hA
        (refine wp_region_line 9 (fun x => ∃ y : LatH wq wo.heap.size, x = laterH wq wo.heap.size y) (by kernel_rfl) rfl ?_)
        (refine wpSeg (0 :: 1 :: 2 :: 4 :: 5 :: 6 :: []) 3 (l := _) rfl (by simp only [List.filterMap_cons, List.filterMap_nil, List.getElem?_toArray, List.getElem?_cons_succ, List.getElem?_cons_zero]; rfl) (by kernel_rfl) (fun _ _ _ _ _ h => h) (laterH_of (w := wq.drew) rfl) ?_; show wpQuiet _ _ _ _ (_ :: _ :: _ :: _ :: _ :: _ :: []) _; (repeat (go_big_quiet_step (fail))); refine wpQuiet_nil ?_; show wpAnyH _ _ _ _ _ _ _ _ _)
        (refine wpOne 3 2 rfl rfl (by kernel_rfl) ?_; intro K hK; go_simp)
        by_cases hno : ln < 0 ∨ 8 ≤ ln
        · refine (vcRaiseNo w.heap.size now s v l ln _ hPd.vc hno).mono ?_
          rintro e w' ⟨rfl, rfl⟩
          (refine hK.out _ _ _ (fun _ h => h) (laterH_of (w := wq.drew) rfl) ?_; clear hK K)
          (refine wpOne 7 1 rfl rfl (by kernel_rfl) ?_; intro K hK; go_simp)
          refine (rvRaiseNo rb ln _ hno).mono ?_
          rintro e w' ⟨rfl, rfl⟩
          (refine hK.out _ _ _ (fun _ h => h) (laterH_of (w := wq.drew) rfl) ?_; clear hK K)
          (refine wpSeg (8 :: []) 0 (l := _) rfl (by simp only [List.filterMap_cons, List.filterMap_nil, List.getElem?_toArray, List.getElem?_cons_succ, List.getElem?_cons_zero]; rfl) (by kernel_rfl) (fun _ _ _ _ _ h => h) (laterH_of (w := wq.drew) rfl) ?_; show wpQuiet _ _ _ _ (_ :: []) _; (repeat (go_big_quiet_step (fail))); refine wpQuiet_nil ?_; show wpAnyH _ _ _ _ _ _ _ _ _)
          refine wpAnyH_done (by kernel_rfl) ?_ _
          clear hno
          generalize wq.drew = wz at hPd ⊢
          obtain ⟨s2, now2, v2, l2, rv2, q2, hn2, hq2, hP2⟩ : ∃ s2 now2 v2 l2 rv2 q2, now2 ≤ i + 1 ∧ q2.length ≤ i + 1 ∧ VPl w wz rb s2 now2 v2 l2 rv2 q2 := ⟨_, _, _, _, _, _, by omega, by omega, hPd⟩
          clear hA hP1 k0 k1 k2 hPd
          obtain ⟨rb2, rfl⟩ : ∃ r, r = rb := ⟨_, rfl⟩
          go_wp2_with fail
          have hq8 := hP2.q.at8
          have hwq := hP2.q.waits
          have hql2 : q2.length ≤ 1000000 := by omega
          rcases hP2.q.best with ⟨hb0, hno⟩ | ⟨n9, hb0, htop, _⟩
          · have HQ8 := Lib.hid hq8
            have HNO := Lib.hid hno
            have HWQ := Lib.hid hwq
            have HB0 := Lib.hid hb0
            clear hq8 hno hwq hb0
            go_wp2_with fail
            refine (vcNextNo _ hP2.vc HNO.out).mono ?_
            rintro e w' ⟨rfl, rfl⟩
            go_wp2_with fail
            refine (rvNextNo rb2 _ _ rv2 q2 _ hP2.rf hql2 HQ8.out HB0.out).mono ?_
            rintro e w7 ⟨rfl, b7⟩
            have hP3 := hP2.below b7
            clear hP2 b7
            go_wp2_with fail
            refine (vcWaits w.heap.size now2 s2 v2 l2 _ hP3.vc).mono ?_
            rintro e w8 ⟨o8, rfl, own8, b8⟩
            have hP4 := hP3.below b8
            obtain ⟨a8, c8, rfl⟩ := ownsRow_shape own8
            clear hP3 b8
            go_wp2_with fail
            refine (rvWaits rb2 _ _ rv2 q2 _ hP4.rf hql2).mono ?_
            rintro e w9 ⟨o9, rfl, own9, b9⟩
            have own8b := ownsRow_below own8 b9
            have hP5 := hP4.below b9
            obtain ⟨a9, c9, rfl⟩ := ownsRow_shape own9
            rw [HWQ.out] at own9 ⊢
            have hwl : (waitL s2 8).length ≤ 8 := waitL_le s2 8
            clear hP4 b9 own8
            go_wp2_with fail
            refine (intsSame a8 a9 _ _ c8 c9 _ _ (ints_at own8b).2 (ints_at own9).2 (by omega) (by omega)).mono ?_
            rintro e wy ⟨rfl, by3⟩
            have hP6 := hP5.below by3
            clear hP5 own8b own9 by3
            go_wp2
            go_roundw
            case rel => exact ⟨i + 1, s2, now2, v2, l2, rv2, q2, by omega, by go_num, by omega, by omega, rb2, rfl, hP6⟩
            case measure => simp [intOf]; omega
          · have HQ8 := Lib.hid hq8
            have HT := Lib.hid htop
            have HWQ := Lib.hid hwq
            have HB0 := Lib.hid hb0
            clear hq8 htop hwq hb0
            go_wp2_with fail
            refine (vcNextIs _ hP2.vc HT.out).mono ?_
            rintro e w' ⟨rfl, rfl⟩
            go_wp2_with fail
            refine (rvNextIs rb2 _ _ rv2 q2 n9 _ hP2.rf hql2 HQ8.out HB0.out).mono ?_
            rintro e w7 ⟨rfl, b7⟩
            have hP3 := hP2.below b7
            clear hP2 b7
            go_wp2_with fail
            refine (vcWaits w.heap.size now2 s2 v2 l2 _ hP3.vc).mono ?_
            rintro e w8 ⟨o8, rfl, own8, b8⟩
            have hP4 := hP3.below b8
            obtain ⟨a8, c8, rfl⟩ := ownsRow_shape own8
            clear hP3 b8
            go_wp2_with fail
            refine (rvWaits rb2 _ _ rv2 q2 _ hP4.rf hql2).mono ?_
            rintro e w9 ⟨o9, rfl, own9, b9⟩
            have own8b := ownsRow_below own8 b9
            have hP5 := hP4.below b9
            obtain ⟨a9, c9, rfl⟩ := ownsRow_shape own9
            rw [HWQ.out] at own9 ⊢
            have hwl : (waitL s2 8).length ≤ 8 := waitL_le s2 8
            clear hP4 b9 own8
            go_wp2_with fail
            refine (intsSame a8 a9 _ _ c8 c9 _ _ (ints_at own8b).2 (ints_at own9).2 (by omega) (by omega)).mono ?_
            rintro e wy ⟨rfl, by3⟩
            have hP6 := hP5.below by3
            clear hP5 own8b own9 by3
            go_wp2
            go_roundw
            case rel => exact ⟨i + 1, s2, now2, v2, l2, rv2, q2, by omega, by go_num, by omega, by omega, rb2, rfl, hP6⟩
            case measure => simp [intOf]; omega
        · obtain ⟨k, rfl⟩ : ∃ k : Nat, ln = k := ⟨ln.toNat, by omega⟩
          have hk : k < 8 := by omega
          clear hno
          by_cases hmem : k ∈ q
          · have hw := (hPd.q.wt k hk).2 hmem
            refine (vcRaiseOld w.heap.size now s v l k _ hPd.vc hk hw).mono ?_
            rintro e w' ⟨rfl, rfl⟩
            (refine hK.out _ _ _ (fun _ h => h) (laterH_of (w := wq.drew) rfl) ?_; clear hK K)
            (refine wpOne 7 1 rfl rfl (by kernel_rfl) ?_; intro K hK; go_simp)
            refine (rvRaiseOld rb _ _ rv q k _ hPd.rf (by omega) hk hmem).mono ?_
            rintro e w' ⟨rfl, rfl⟩
            (refine hK.out _ _ _ (fun _ h => h) (laterH_of (w := wq.drew) rfl) ?_; clear hK K)
            (refine wpSeg (8 :: []) 0 (l := _) rfl (by simp only [List.filterMap_cons, List.filterMap_nil, List.getElem?_toArray, List.getElem?_cons_succ, List.getElem?_cons_zero]; rfl) (by kernel_rfl) (fun _ _ _ _ _ h => h) (laterH_of (w := wq.drew) rfl) ?_; show wpQuiet _ _ _ _ (_ :: []) _; (repeat (go_big_quiet_step (fail))); refine wpQuiet_nil ?_; show wpAnyH _ _ _ _ _ _ _ _ _)
            refine wpAnyH_done (by kernel_rfl) ?_ _
            clear hmem hw
            generalize wq.drew = wz at hPd ⊢
            obtain ⟨s2, now2, v2, l2, rv2, q2, hn2, hq2, hP2⟩ : ∃ s2 now2 v2 l2 rv2 q2, now2 ≤ i + 1 ∧ q2.length ≤ i + 1 ∧ VPl w wz rb s2 now2 v2 l2 rv2 q2 := ⟨_, _, _, _, _, _, by omega, by omega, hPd⟩
            clear hA hP1 k0 k1 k2 hPd
            obtain ⟨rb2, rfl⟩ : ∃ r, r = rb := ⟨_, rfl⟩
            go_wp2_with fail
            have hq8 := hP2.q.at8
            have hwq := hP2.q.waits
            have hql2 : q2.length ≤ 1000000 := by omega
            rcases hP2.q.best with ⟨hb0, hno⟩ | ⟨n9, hb0, htop, _⟩
            · have HQ8 := Lib.hid hq8
              have HNO := Lib.hid hno
              have HWQ := Lib.hid hwq
              have HB0 := Lib.hid hb0
              clear hq8 hno hwq hb0
              go_wp2_with fail
              refine (vcNextNo _ hP2.vc HNO.out).mono ?_
              rintro e w' ⟨rfl, rfl⟩
              go_wp2_with fail
              refine (rvNextNo rb2 _ _ rv2 q2 _ hP2.rf hql2 HQ8.out HB0.out).mono ?_
              rintro e w7 ⟨rfl, b7⟩
              have hP3 := hP2.below b7
              clear hP2 b7
              go_wp2_with fail
              refine (vcWaits w.heap.size now2 s2 v2 l2 _ hP3.vc).mono ?_
              rintro e w8 ⟨o8, rfl, own8, b8⟩
              have hP4 := hP3.below b8
              obtain ⟨a8, c8, rfl⟩ := ownsRow_shape own8
              clear hP3 b8
              go_wp2_with fail
              refine (rvWaits rb2 _ _ rv2 q2 _ hP4.rf hql2).mono ?_
              rintro e w9 ⟨o9, rfl, own9, b9⟩
              have own8b := ownsRow_below own8 b9
              have hP5 := hP4.below b9
              obtain ⟨a9, c9, rfl⟩ := ownsRow_shape own9
              rw [HWQ.out] at own9 ⊢
              have hwl : (waitL s2 8).length ≤ 8 := waitL_le s2 8
              clear hP4 b9 own8
              go_wp2_with fail
              refine (intsSame a8 a9 _ _ c8 c9 _ _ (ints_at own8b).2 (ints_at own9).2 (by omega) (by omega)).mono ?_
              rintro e wy ⟨rfl, by3⟩
              have hP6 := hP5.below by3
              clear hP5 own8b own9 by3
              go_wp2
              go_roundw
              case rel => exact ⟨i + 1, s2, now2, v2, l2, rv2, q2, by omega, by go_num, by omega, by omega, rb2, rfl, hP6⟩
              case measure => simp [intOf]; omega
            · have HQ8 := Lib.hid hq8
              have HT := Lib.hid htop
              have HWQ := Lib.hid hwq
              have HB0 := Lib.hid hb0
              clear hq8 htop hwq hb0
              go_wp2_with fail
              refine (vcNextIs _ hP2.vc HT.out).mono ?_
              rintro e w' ⟨rfl, rfl⟩
              go_wp2_with fail
              refine (rvNextIs rb2 _ _ rv2 q2 n9 _ hP2.rf hql2 HQ8.out HB0.out).mono ?_
              rintro e w7 ⟨rfl, b7⟩
              have hP3 := hP2.below b7
              clear hP2 b7
              go_wp2_with fail
              refine (vcWaits w.heap.size now2 s2 v2 l2 _ hP3.vc).mono ?_
              rintro e w8 ⟨o8, rfl, own8, b8⟩
              have hP4 := hP3.below b8
              obtain ⟨a8, c8, rfl⟩ := ownsRow_shape own8
              clear hP3 b8
              go_wp2_with fail
              refine (rvWaits rb2 _ _ rv2 q2 _ hP4.rf hql2).mono ?_
              rintro e w9 ⟨o9, rfl, own9, b9⟩
              have own8b := ownsRow_below own8 b9
              have hP5 := hP4.below b9
              obtain ⟨a9, c9, rfl⟩ := ownsRow_shape own9
              rw [HWQ.out] at own9 ⊢
              have hwl : (waitL s2 8).length ≤ 8 := waitL_le s2 8
              clear hP4 b9 own8
              go_wp2_with fail
              refine (intsSame a8 a9 _ _ c8 c9 _ _ (ints_at own8b).2 (ints_at own9).2 (by omega) (by omega)).mono ?_
              rintro e wy ⟨rfl, by3⟩
              have hP6 := hP5.below by3
              clear hP5 own8b own9 by3
              go_wp2
              go_roundw
              case rel => exact ⟨i + 1, s2, now2, v2, l2, rv2, q2, by omega, by go_num, by omega, by omega, rb2, rfl, hP6⟩
              case measure => simp [intOf]; omega
          · have hw : (s k).wt = false := by
              cases h : (s k).wt
              · rfl
              · exact absurd ((hPd.q.wt k hk).1 h) hmem
            have hvq := hPd.q.raise (m := (s k).ms) (p := (s k).pr) hk hmem
            have hql : (q ++ [k]).length ≤ i + 1 := by simp; omega
            refine (vcRaise w.heap.size now s v l k _ hPd.vc hk hw (by omega)).mono ?_
            rintro e w1 ⟨rfl, v1, l1, t1, f1⟩
            have hr1 := hPd.rf2 f1
            have hA1 := f1.other hPd.vc.row hAd (by decide) (by decide)
            (refine hK.out _ _ _ (fun _ h => h) (laterH_of (hA1.trans hA.symm)) ?_; clear hK K)
            (refine wpOne 7 1 rfl rfl (by kernel_rfl) ?_; intro K hK; go_simp)
            refine (rvRaise rb _ _ rv q k _ hr1 (by omega) hk hmem).mono ?_
            rintro e wz ⟨rfl, rv3, r3, f3⟩
            have hAz := f3.other hr1 hA1 (by decide) (by decide)
            (refine hK.out _ _ _ (fun _ h => h) (laterH_of (hAz.trans hA.symm)) ?_; clear hK K)
            (refine wpSeg (8 :: []) 0 (l := _) rfl (by simp only [List.filterMap_cons, List.filterMap_nil, List.getElem?_toArray, List.getElem?_cons_succ, List.getElem?_cons_zero]; rfl) (by kernel_rfl) (fun _ _ _ _ _ h => h) (laterH_of (hAz.trans hA.symm)) ?_; show wpQuiet _ _ _ _ (_ :: []) _; (repeat (go_big_quiet_step (fail))); refine wpQuiet_nil ?_; show wpAnyH _ _ _ _ _ _ _ _ _)
            refine wpAnyH_done (by kernel_rfl) ?_ _
            have hP2 : VPl w wz rb (putF s k ⟨true, (s k).ms, (s k).pr, (now + 1 : Nat)⟩) (now + 1) v1 l1 rv3 (q ++ [k]) := hPd.move t1 f1 (rv_same r3 rfl rfl) f3 hvq
            clear hvq hmem hw
            clear hAz hA1 hr1 t1 f1 r3 f3
            obtain ⟨s2, now2, v2, l2, rv2, q2, hn2, hq2, hP2⟩ : ∃ s2 now2 v2 l2 rv2 q2, now2 ≤ i + 1 ∧ q2.length ≤ i + 1 ∧ VPl w wz rb s2 now2 v2 l2 rv2 q2 := ⟨_, _, _, _, _, _, by omega, hql, hP2⟩
            clear hA hP1 k0 k1 k2 hPd hql
            obtain ⟨rb2, rfl⟩ : ∃ r, r = rb := ⟨_, rfl⟩
            go_wp2_with fail
            have hq8 := hP2.q.at8
            have hwq := hP2.q.waits
            have hql2 : q2.length ≤ 1000000 := by omega
            rcases hP2.q.best with ⟨hb0, hno⟩ | ⟨n9, hb0, htop, _⟩
            · have HQ8 := Lib.hid hq8
              have HNO := Lib.hid hno
              have HWQ := Lib.hid hwq
              have HB0 := Lib.hid hb0
              clear hq8 hno hwq hb0
              go_wp2_with fail
              refine (vcNextNo _ hP2.vc HNO.out).mono ?_
              rintro e w' ⟨rfl, rfl⟩
              go_wp2_with fail
              refine (rvNextNo rb2 _ _ rv2 q2 _ hP2.rf hql2 HQ8.out HB0.out).mono ?_
              rintro e w7 ⟨rfl, b7⟩
              have hP3 := hP2.below b7
              clear hP2 b7
              go_wp2_with fail
              refine (vcWaits w.heap.size now2 s2 v2 l2 _ hP3.vc).mono ?_
              rintro e w8 ⟨o8, rfl, own8, b8⟩
              have hP4 := hP3.below b8
              obtain ⟨a8, c8, rfl⟩ := ownsRow_shape own8
              clear hP3 b8
              go_wp2_with fail
              refine (rvWaits rb2 _ _ rv2 q2 _ hP4.rf hql2).mono ?_
              rintro e w9 ⟨o9, rfl, own9, b9⟩
              have own8b := ownsRow_below own8 b9
              have hP5 := hP4.below b9
              obtain ⟨a9, c9, rfl⟩ := ownsRow_shape own9
              rw [HWQ.out] at own9 ⊢
              have hwl : (waitL s2 8).length ≤ 8 := waitL_le s2 8
              clear hP4 b9 own8
              go_wp2_with fail
              refine (intsSame a8 a9 _ _ c8 c9 _ _ (ints_at own8b).2 (ints_at own9).2 (by omega) (by omega)).mono ?_
              rintro e wy ⟨rfl, by3⟩
              have hP6 := hP5.below by3
              clear hP5 own8b own9 by3
              go_wp2
              go_roundw
              case rel => exact ⟨i + 1, s2, now2, v2, l2, rv2, q2, by omega, by go_num, by omega, by omega, rb2, rfl, hP6⟩
              case measure => simp [intOf]; omega
            · have HQ8 := Lib.hid hq8
              have HT := Lib.hid htop
              have HWQ := Lib.hid hwq
              have HB0 := Lib.hid hb0
              clear hq8 htop hwq hb0
              go_wp2_with fail
              refine (vcNextIs _ hP2.vc HT.out).mono ?_
              rintro e w' ⟨rfl, rfl⟩
              go_wp2_with fail
              refine (rvNextIs rb2 _ _ rv2 q2 n9 _ hP2.rf hql2 HQ8.out HB0.out).mono ?_
              rintro e w7 ⟨rfl, b7⟩
              have hP3 := hP2.below b7
              clear hP2 b7
              go_wp2_with fail
              refine (vcWaits w.heap.size now2 s2 v2 l2 _ hP3.vc).mono ?_
              rintro e w8 ⟨o8, rfl, own8, b8⟩
              have hP4 := hP3.below b8
              obtain ⟨a8, c8, rfl⟩ := ownsRow_shape own8
              clear hP3 b8
              go_wp2_with fail
              refine (rvWaits rb2 _ _ rv2 q2 _ hP4.rf hql2).mono ?_
              rintro e w9 ⟨o9, rfl, own9, b9⟩
              have own8b := ownsRow_below own8 b9
              have hP5 := hP4.below b9
              obtain ⟨a9, c9, rfl⟩ := ownsRow_shape own9
              rw [HWQ.out] at own9 ⊢
              have hwl : (waitL s2 8).length ≤ 8 := waitL_le s2 8
              clear hP4 b9 own8
              go_wp2_with fail
              refine (intsSame a8 a9 _ _ c8 c9 _ _ (ints_at own8b).2 (ints_at own9).2 (by omega) (by omega)).mono ?_
              rintro e wy ⟨rfl, by3⟩
              have hP6 := hP5.below by3
              clear hP5 own8b own9 by3
              go_wp2
              go_roundw
              case rel => exact ⟨i + 1, s2, now2, v2, l2, rv2, q2, by omega, by go_num, by omega, by omega, rb2, rfl, hP6⟩
              case measure => simp [intOf]; omega
      · go_wp2_with fail
        generalize (wo.alloc (.cells #[.int .i64 1, .int .i64 ln, .int .i64 pp] 39)) = wq at hA hP1 ⊢
        have k0 : True := trivial
        have k1 : wq.cell? ⟨wo.heap.size, 1, none⟩ = some (.int .i64 ln) := cell_of_row _ _ _ _ _ _ hA
        have k2 : wq.cell? ⟨wo.heap.size, 2, none⟩ = some (.int .i64 pp) := cell_of_row _ _ _ _ _ _ hA
        have hPd : VPl w wq.drew rb s now v l rv q := hP1.below (Bel.refl wq).drew.1
        have hAd : wq.drew.heap[wo.heap.size]? = _ := hA
        (refine wp_region_line 9 (fun x => ∃ y : LatH wq wo.heap.size, x = laterH wq wo.heap.size y) (by kernel_rfl) rfl ?_)
        (refine wpSeg (0 :: 1 :: 2 :: 4 :: 5 :: 6 :: []) 3 (l := _) rfl (by simp only [List.filterMap_cons, List.filterMap_nil, List.getElem?_toArray, List.getElem?_cons_succ, List.getElem?_cons_zero]; rfl) (by kernel_rfl) (fun _ _ _ _ _ h => h) (laterH_of (w := wq.drew) rfl) ?_; show wpQuiet _ _ _ _ (_ :: _ :: _ :: _ :: _ :: _ :: []) _; (repeat (go_big_quiet_step (fail))); refine wpQuiet_nil ?_; show wpAnyH _ _ _ _ _ _ _ _ _)
        (refine wpOne 3 2 rfl rfl (by kernel_rfl) ?_; intro K hK; go_simp)
        by_cases hno : ln < 0 ∨ 8 ≤ ln ∨ ∃ k : Nat, k < 8 ∧ ln = k ∧ (s k).wt = false
        · have hhas : hasQ q ln = false := by
            rcases hno with h1 | h1 | ⟨k, hk, rfl, hw⟩
            · exact hPd.q.hasNo (.inl h1)
            · exact hPd.q.hasNo (.inr h1)
            · cases h : hasQ q k
              · rfl
              · have := (hPd.q.wt k hk).2 (hasQ_mem.1 h)
                rw [hw] at this
                cases this
          have hle := lessQ_no hhas
          refine (vcClearNo w.heap.size now s v l ln _ hPd.vc hno).mono ?_
          rintro e w' ⟨rfl, rfl⟩
          (refine hK.out _ _ _ (fun _ h => h) (laterH_of (w := wq.drew) rfl) ?_; clear hK K)
          (refine wpOne 7 1 rfl rfl (by kernel_rfl) ?_; intro K hK; go_simp)
          refine (rvClearT ln false _ hPd.rf (by omega) hhas).mono ?_
          rintro e wz ⟨rfl, rv3, r3, f3⟩
          have hAz := f3.other hPd.rf hAd (by decide) (by decide)
          (refine hK.out _ _ _ (fun _ h => h) (laterH_of (hAz.trans hA.symm)) ?_; clear hK K)
          (refine wpSeg (8 :: []) 0 (l := _) rfl (by simp only [List.filterMap_cons, List.filterMap_nil, List.getElem?_toArray, List.getElem?_cons_succ, List.getElem?_cons_zero]; rfl) (by kernel_rfl) (fun _ _ _ _ _ h => h) (laterH_of (hAz.trans hA.symm)) ?_; show wpQuiet _ _ _ _ (_ :: []) _; (repeat (go_big_quiet_step (fail))); refine wpQuiet_nil ?_; show wpAnyH _ _ _ _ _ _ _ _ _)
          refine wpAnyH_done (by kernel_rfl) ?_ _
          have hP2 : VPl w wz rb s now v l rv3 q := hPd.move hPd.vc (Frm.refl _ _ _) (by rw [hle] at r3; exact r3) f3 hPd.q
          have hql : q.length ≤ i + 1 := by omega
          clear hAz r3 f3 hno hhas hle
          obtain ⟨s2, now2, v2, l2, rv2, q2, hn2, hq2, hP2⟩ : ∃ s2 now2 v2 l2 rv2 q2, now2 ≤ i + 1 ∧ q2.length ≤ i + 1 ∧ VPl w wz rb s2 now2 v2 l2 rv2 q2 := ⟨_, _, _, _, _, _, by omega, hql, hP2⟩
          clear hA hP1 k0 k1 k2 hPd hql
          obtain ⟨rb2, rfl⟩ : ∃ r, r = rb := ⟨_, rfl⟩
          go_wp2_with fail
          have hq8 := hP2.q.at8
          have hwq := hP2.q.waits
          have hql2 : q2.length ≤ 1000000 := by omega
          rcases hP2.q.best with ⟨hb0, hno⟩ | ⟨n9, hb0, htop, _⟩
          · have HQ8 := Lib.hid hq8
            have HNO := Lib.hid hno
            have HWQ := Lib.hid hwq
            have HB0 := Lib.hid hb0
            clear hq8 hno hwq hb0
            go_wp2_with fail
            refine (vcNextNo _ hP2.vc HNO.out).mono ?_
            rintro e w' ⟨rfl, rfl⟩
            go_wp2_with fail
            refine (rvNextNo rb2 _ _ rv2 q2 _ hP2.rf hql2 HQ8.out HB0.out).mono ?_
            rintro e w7 ⟨rfl, b7⟩
            have hP3 := hP2.below b7
            clear hP2 b7
            go_wp2_with fail
            refine (vcWaits w.heap.size now2 s2 v2 l2 _ hP3.vc).mono ?_
            rintro e w8 ⟨o8, rfl, own8, b8⟩
            have hP4 := hP3.below b8
            obtain ⟨a8, c8, rfl⟩ := ownsRow_shape own8
            clear hP3 b8
            go_wp2_with fail
            refine (rvWaits rb2 _ _ rv2 q2 _ hP4.rf hql2).mono ?_
            rintro e w9 ⟨o9, rfl, own9, b9⟩
            have own8b := ownsRow_below own8 b9
            have hP5 := hP4.below b9
            obtain ⟨a9, c9, rfl⟩ := ownsRow_shape own9
            rw [HWQ.out] at own9 ⊢
            have hwl : (waitL s2 8).length ≤ 8 := waitL_le s2 8
            clear hP4 b9 own8
            go_wp2_with fail
            refine (intsSame a8 a9 _ _ c8 c9 _ _ (ints_at own8b).2 (ints_at own9).2 (by omega) (by omega)).mono ?_
            rintro e wy ⟨rfl, by3⟩
            have hP6 := hP5.below by3
            clear hP5 own8b own9 by3
            go_wp2
            go_roundw
            case rel => exact ⟨i + 1, s2, now2, v2, l2, rv2, q2, by omega, by go_num, by omega, by omega, rb2, rfl, hP6⟩
            case measure => simp [intOf]; omega
          · have HQ8 := Lib.hid hq8
            have HT := Lib.hid htop
            have HWQ := Lib.hid hwq
            have HB0 := Lib.hid hb0
            clear hq8 htop hwq hb0
            go_wp2_with fail
            refine (vcNextIs _ hP2.vc HT.out).mono ?_
            rintro e w' ⟨rfl, rfl⟩
            go_wp2_with fail
            refine (rvNextIs rb2 _ _ rv2 q2 n9 _ hP2.rf hql2 HQ8.out HB0.out).mono ?_
            rintro e w7 ⟨rfl, b7⟩
            have hP3 := hP2.below b7
            clear hP2 b7
            go_wp2_with fail
            refine (vcWaits w.heap.size now2 s2 v2 l2 _ hP3.vc).mono ?_
            rintro e w8 ⟨o8, rfl, own8, b8⟩
            have hP4 := hP3.below b8
            obtain ⟨a8, c8, rfl⟩ := ownsRow_shape own8
            clear hP3 b8
            go_wp2_with fail
            refine (rvWaits rb2 _ _ rv2 q2 _ hP4.rf hql2).mono ?_
            rintro e w9 ⟨o9, rfl, own9, b9⟩
            have own8b := ownsRow_below own8 b9
            have hP5 := hP4.below b9
            obtain ⟨a9, c9, rfl⟩ := ownsRow_shape own9
            rw [HWQ.out] at own9 ⊢
            have hwl : (waitL s2 8).length ≤ 8 := waitL_le s2 8
            clear hP4 b9 own8
            go_wp2_with fail
            refine (intsSame a8 a9 _ _ c8 c9 _ _ (ints_at own8b).2 (ints_at own9).2 (by omega) (by omega)).mono ?_
            rintro e wy ⟨rfl, by3⟩
            have hP6 := hP5.below by3
            clear hP5 own8b own9 by3
            go_wp2
            go_roundw
            case rel => exact ⟨i + 1, s2, now2, v2, l2, rv2, q2, by omega, by go_num, by omega, by omega, rb2, rfl, hP6⟩
            case measure => simp [intOf]; omega
        · obtain ⟨k, rfl⟩ : ∃ k : Nat, ln = k := ⟨ln.toNat, by omega⟩
          have hk : k < 8 := by omega
          have hw : (s k).wt = true := by
            cases h : (s k).wt
            · exact absurd (.inr (.inr ⟨k, hk, rfl, h⟩)) hno
            · rfl
          have hhas : hasQ q k = true := hasQ_mem.2 ((hPd.q.wt k hk).1 hw)
          clear hno
          have hvq := hPd.q.drop (m := (s k).ms) (p := (s k).pr) (t := (s k).sn) hk
          have hql : (lessQ q k).length ≤ i + 1 := by have := lessQ_le q k; omega
          refine (vcClear w.heap.size now s v l k _ hPd.vc hk hw).mono ?_
          rintro e w1 ⟨rfl, v1, l1, t1, f1⟩
          have hr1 := hPd.rf2 f1
          have hA1 := f1.other hPd.vc.row hAd (by decide) (by decide)
          (refine hK.out _ _ _ (fun _ h => h) (laterH_of (hA1.trans hA.symm)) ?_; clear hK K)
          (refine wpOne 7 1 rfl rfl (by kernel_rfl) ?_; intro K hK; go_simp)
          refine (rvClearT k true _ hr1 (by omega) hhas).mono ?_
          rintro e wz ⟨rfl, rv3, r3, f3⟩
          have hAz := f3.other hr1 hA1 (by decide) (by decide)
          (refine hK.out _ _ _ (fun _ h => h) (laterH_of (hAz.trans hA.symm)) ?_; clear hK K)
          (refine wpSeg (8 :: []) 0 (l := _) rfl (by simp only [List.filterMap_cons, List.filterMap_nil, List.getElem?_toArray, List.getElem?_cons_succ, List.getElem?_cons_zero]; rfl) (by kernel_rfl) (fun _ _ _ _ _ h => h) (laterH_of (hAz.trans hA.symm)) ?_; show wpQuiet _ _ _ _ (_ :: []) _; (repeat (go_big_quiet_step (fail))); refine wpQuiet_nil ?_; show wpAnyH _ _ _ _ _ _ _ _ _)
          refine wpAnyH_done (by kernel_rfl) ?_ _
          have hP2 : VPl w wz rb (putF s k ⟨false, (s k).ms, (s k).pr, (s k).sn⟩) now v1 l1 rv3 (lessQ q k) := hPd.move t1 f1 (rv_same r3 rfl rfl) f3 hvq
          clear hvq hhas hw
          clear hAz hA1 hr1 t1 f1 r3 f3
          obtain ⟨s2, now2, v2, l2, rv2, q2, hn2, hq2, hP2⟩ : ∃ s2 now2 v2 l2 rv2 q2, now2 ≤ i + 1 ∧ q2.length ≤ i + 1 ∧ VPl w wz rb s2 now2 v2 l2 rv2 q2 := ⟨_, _, _, _, _, _, by omega, hql, hP2⟩
          clear hA hP1 k0 k1 k2 hPd hql
          obtain ⟨rb2, rfl⟩ : ∃ r, r = rb := ⟨_, rfl⟩
          go_wp2_with fail
          have hq8 := hP2.q.at8
          have hwq := hP2.q.waits
          have hql2 : q2.length ≤ 1000000 := by omega
          rcases hP2.q.best with ⟨hb0, hno⟩ | ⟨n9, hb0, htop, _⟩
          · have HQ8 := Lib.hid hq8
            have HNO := Lib.hid hno
            have HWQ := Lib.hid hwq
            have HB0 := Lib.hid hb0
            clear hq8 hno hwq hb0
            go_wp2_with fail
            refine (vcNextNo _ hP2.vc HNO.out).mono ?_
            rintro e w' ⟨rfl, rfl⟩
            go_wp2_with fail
            refine (rvNextNo rb2 _ _ rv2 q2 _ hP2.rf hql2 HQ8.out HB0.out).mono ?_
            rintro e w7 ⟨rfl, b7⟩
            have hP3 := hP2.below b7
            clear hP2 b7
            go_wp2_with fail
            refine (vcWaits w.heap.size now2 s2 v2 l2 _ hP3.vc).mono ?_
            rintro e w8 ⟨o8, rfl, own8, b8⟩
            have hP4 := hP3.below b8
            obtain ⟨a8, c8, rfl⟩ := ownsRow_shape own8
            clear hP3 b8
            go_wp2_with fail
            refine (rvWaits rb2 _ _ rv2 q2 _ hP4.rf hql2).mono ?_
            rintro e w9 ⟨o9, rfl, own9, b9⟩
            have own8b := ownsRow_below own8 b9
            have hP5 := hP4.below b9
            obtain ⟨a9, c9, rfl⟩ := ownsRow_shape own9
            rw [HWQ.out] at own9 ⊢
            have hwl : (waitL s2 8).length ≤ 8 := waitL_le s2 8
            clear hP4 b9 own8
            go_wp2_with fail
            refine (intsSame a8 a9 _ _ c8 c9 _ _ (ints_at own8b).2 (ints_at own9).2 (by omega) (by omega)).mono ?_
            rintro e wy ⟨rfl, by3⟩
            have hP6 := hP5.below by3
            clear hP5 own8b own9 by3
            go_wp2
            go_roundw
            case rel => exact ⟨i + 1, s2, now2, v2, l2, rv2, q2, by omega, by go_num, by omega, by omega, rb2, rfl, hP6⟩
            case measure => simp [intOf]; omega
          · have HQ8 := Lib.hid hq8
            have HT := Lib.hid htop
            have HWQ := Lib.hid hwq
            have HB0 := Lib.hid hb0
            clear hq8 htop hwq hb0
            go_wp2_with fail
            refine (vcNextIs _ hP2.vc HT.out).mono ?_
            rintro e w' ⟨rfl, rfl⟩
            go_wp2_with fail
            refine (rvNextIs rb2 _ _ rv2 q2 n9 _ hP2.rf hql2 HQ8.out HB0.out).mono ?_
            rintro e w7 ⟨rfl, b7⟩
            have hP3 := hP2.below b7
            clear hP2 b7
            go_wp2_with fail
            refine (vcWaits w.heap.size now2 s2 v2 l2 _ hP3.vc).mono ?_
            rintro e w8 ⟨o8, rfl, own8, b8⟩
            have hP4 := hP3.below b8
            obtain ⟨a8, c8, rfl⟩ := ownsRow_shape own8
            clear hP3 b8
            go_wp2_with fail
            refine (rvWaits rb2 _ _ rv2 q2 _ hP4.rf hql2).mono ?_
            rintro e w9 ⟨o9, rfl, own9, b9⟩
            have own8b := ownsRow_below own8 b9
            have hP5 := hP4.below b9
            obtain ⟨a9, c9, rfl⟩ := ownsRow_shape own9
            rw [HWQ.out] at own9 ⊢
            have hwl : (waitL s2 8).length ≤ 8 := waitL_le s2 8
            clear hP4 b9 own8
            go_wp2_with fail
            refine (intsSame a8 a9 _ _ c8 c9 _ _ (ints_at own8b).2 (ints_at own9).2 (by omega) (by omega)).mono ?_
            rintro e wy ⟨rfl, by3⟩
            have hP6 := hP5.below by3
            clear hP5 own8b own9 by3
            go_wp2
            go_roundw
            case rel => exact ⟨i + 1, s2, now2, v2, l2, rv2, q2, by omega, by go_num, by omega, by omega, rb2, rfl, hP6⟩
            case measure => simp [intOf]; omega
      · go_wp2_with fail
        generalize (wo.alloc (.cells #[.int .i64 2, .int .i64 ln, .int .i64 pp] 39)) = wq at hA hP1 ⊢
        have k0 : True := trivial
        have k1 : wq.cell? ⟨wo.heap.size, 1, none⟩ = some (.int .i64 ln) := cell_of_row _ _ _ _ _ _ hA
        have k2 : wq.cell? ⟨wo.heap.size, 2, none⟩ = some (.int .i64 pp) := cell_of_row _ _ _ _ _ _ hA
        have hPd : VPl w wq.drew rb s now v l rv q := hP1.below (Bel.refl wq).drew.1
        have hAd : wq.drew.heap[wo.heap.size]? = _ := hA
        (refine wp_region_line 17 (fun x => ∃ y : LatH wq wo.heap.size, x = laterH wq wo.heap.size y) (by kernel_rfl) rfl ?_)
        (refine wpSeg (0 :: 1 :: 2 :: 3 :: 4 :: 5 :: 6 :: 8 :: 9 :: 10 :: 11 :: 12 :: 13 :: 14 :: []) 3 (l := _) rfl (by simp only [List.filterMap_cons, List.filterMap_nil, List.getElem?_toArray, List.getElem?_cons_succ, List.getElem?_cons_zero]; rfl) (by kernel_rfl) (fun _ _ _ _ _ h => h) (laterH_of (w := wq.drew) rfl) ?_; show wpQuiet _ _ _ _ (_ :: _ :: _ :: _ :: _ :: _ :: _ :: _ :: _ :: _ :: _ :: _ :: _ :: _ :: []) _; (repeat (go_big_quiet_step (fail))); refine wpQuiet_nil ?_; show wpAnyH _ _ _ _ _ _ _ _ _)
        (refine wpOne 7 2 rfl rfl (by kernel_rfl) ?_; intro K hK; go_simp)
        by_cases hno : ln < 0 ∨ 8 ≤ ln
        · refine (vcMaskNo w.heap.size now s v l ln _ _ hPd.vc hno).mono ?_
          rintro e w' ⟨rfl, rfl⟩
          (refine hK.out _ _ _ (fun _ h => h) (laterH_of (w := wq.drew) rfl) ?_; clear hK K)
          (refine wpOne 15 1 rfl rfl (by kernel_rfl) ?_; intro K hK; go_simp)
          refine (rvMaskNo rb ln _ _ hno).mono ?_
          rintro e w' ⟨rfl, rfl⟩
          (refine hK.out _ _ _ (fun _ h => h) (laterH_of (w := wq.drew) rfl) ?_; clear hK K)
          (refine wpSeg (16 :: []) 0 (l := _) rfl (by simp only [List.filterMap_cons, List.filterMap_nil, List.getElem?_toArray, List.getElem?_cons_succ, List.getElem?_cons_zero]; rfl) (by kernel_rfl) (fun _ _ _ _ _ h => h) (laterH_of (w := wq.drew) rfl) ?_; show wpQuiet _ _ _ _ (_ :: []) _; (repeat (go_big_quiet_step (fail))); refine wpQuiet_nil ?_; show wpAnyH _ _ _ _ _ _ _ _ _)
          refine wpAnyH_done (by kernel_rfl) ?_ _
          clear hno
          generalize wq.drew = wz at hPd ⊢
          obtain ⟨s2, now2, v2, l2, rv2, q2, hn2, hq2, hP2⟩ : ∃ s2 now2 v2 l2 rv2 q2, now2 ≤ i + 1 ∧ q2.length ≤ i + 1 ∧ VPl w wz rb s2 now2 v2 l2 rv2 q2 := ⟨_, _, _, _, _, _, by omega, by omega, hPd⟩
          clear hA hP1 k0 k1 k2 hPd
          obtain ⟨rb2, rfl⟩ : ∃ r, r = rb := ⟨_, rfl⟩
          go_wp2_with fail
          have hq8 := hP2.q.at8
          have hwq := hP2.q.waits
          have hql2 : q2.length ≤ 1000000 := by omega
          rcases hP2.q.best with ⟨hb0, hno⟩ | ⟨n9, hb0, htop, _⟩
          · have HQ8 := Lib.hid hq8
            have HNO := Lib.hid hno
            have HWQ := Lib.hid hwq
            have HB0 := Lib.hid hb0
            clear hq8 hno hwq hb0
            go_wp2_with fail
            refine (vcNextNo _ hP2.vc HNO.out).mono ?_
            rintro e w' ⟨rfl, rfl⟩
            go_wp2_with fail
            refine (rvNextNo rb2 _ _ rv2 q2 _ hP2.rf hql2 HQ8.out HB0.out).mono ?_
            rintro e w7 ⟨rfl, b7⟩
            have hP3 := hP2.below b7
            clear hP2 b7
            go_wp2_with fail
            refine (vcWaits w.heap.size now2 s2 v2 l2 _ hP3.vc).mono ?_
            rintro e w8 ⟨o8, rfl, own8, b8⟩
            have hP4 := hP3.below b8
            obtain ⟨a8, c8, rfl⟩ := ownsRow_shape own8
            clear hP3 b8
            go_wp2_with fail
            refine (rvWaits rb2 _ _ rv2 q2 _ hP4.rf hql2).mono ?_
            rintro e w9 ⟨o9, rfl, own9, b9⟩
            have own8b := ownsRow_below own8 b9
            have hP5 := hP4.below b9
            obtain ⟨a9, c9, rfl⟩ := ownsRow_shape own9
            rw [HWQ.out] at own9 ⊢
            have hwl : (waitL s2 8).length ≤ 8 := waitL_le s2 8
            clear hP4 b9 own8
            go_wp2_with fail
            refine (intsSame a8 a9 _ _ c8 c9 _ _ (ints_at own8b).2 (ints_at own9).2 (by omega) (by omega)).mono ?_
            rintro e wy ⟨rfl, by3⟩
            have hP6 := hP5.below by3
            clear hP5 own8b own9 by3
            go_wp2
            go_roundw
            case rel => exact ⟨i + 1, s2, now2, v2, l2, rv2, q2, by omega, by go_num, by omega, by omega, rb2, rfl, hP6⟩
            case measure => simp [intOf]; omega
          · have HQ8 := Lib.hid hq8
            have HT := Lib.hid htop
            have HWQ := Lib.hid hwq
            have HB0 := Lib.hid hb0
            clear hq8 htop hwq hb0
            go_wp2_with fail
            refine (vcNextIs _ hP2.vc HT.out).mono ?_
            rintro e w' ⟨rfl, rfl⟩
            go_wp2_with fail
            refine (rvNextIs rb2 _ _ rv2 q2 n9 _ hP2.rf hql2 HQ8.out HB0.out).mono ?_
            rintro e w7 ⟨rfl, b7⟩
            have hP3 := hP2.below b7
            clear hP2 b7
            go_wp2_with fail
            refine (vcWaits w.heap.size now2 s2 v2 l2 _ hP3.vc).mono ?_
            rintro e w8 ⟨o8, rfl, own8, b8⟩
            have hP4 := hP3.below b8
            obtain ⟨a8, c8, rfl⟩ := ownsRow_shape own8
            clear hP3 b8
            go_wp2_with fail
            refine (rvWaits rb2 _ _ rv2 q2 _ hP4.rf hql2).mono ?_
            rintro e w9 ⟨o9, rfl, own9, b9⟩
            have own8b := ownsRow_below own8 b9
            have hP5 := hP4.below b9
            obtain ⟨a9, c9, rfl⟩ := ownsRow_shape own9
            rw [HWQ.out] at own9 ⊢
            have hwl : (waitL s2 8).length ≤ 8 := waitL_le s2 8
            clear hP4 b9 own8
            go_wp2_with fail
            refine (intsSame a8 a9 _ _ c8 c9 _ _ (ints_at own8b).2 (ints_at own9).2 (by omega) (by omega)).mono ?_
            rintro e wy ⟨rfl, by3⟩
            have hP6 := hP5.below by3
            clear hP5 own8b own9 by3
            go_wp2
            go_roundw
            case rel => exact ⟨i + 1, s2, now2, v2, l2, rv2, q2, by omega, by go_num, by omega, by omega, rb2, rfl, hP6⟩
            case measure => simp [intOf]; omega
        · obtain ⟨k, rfl⟩ : ∃ k : Nat, ln = k := ⟨ln.toNat, by omega⟩
          have hk : k < 8 := by omega
          clear hno
          have hvq := fun c => hPd.q.keep (x := ⟨(s k).wt, c, (s k).pr, (s k).sn⟩) hk rfl rfl
          have hql : q.length ≤ i + 1 := by omega
          refine (vcMask w.heap.size now s v l k _ _ hPd.vc hk).mono ?_
          rintro e w1 ⟨rfl, v1, l1, t1, f1⟩
          have hr1 := hPd.rf2 f1
          have hA1 := f1.other hPd.vc.row hAd (by decide) (by decide)
          (refine hK.out _ _ _ (fun _ h => h) (laterH_of (hA1.trans hA.symm)) ?_; clear hK K)
          (refine wpOne 15 1 rfl rfl (by kernel_rfl) ?_; intro K hK; go_simp)
          refine (rvMask rb _ _ rv q k _ _ hr1 hk).mono ?_
          rintro e wz ⟨rfl, r3, f3⟩
          have hAz := f3.other hr1 hA1 (by decide) (by decide)
          (refine hK.out _ _ _ (fun _ h => h) (laterH_of (hAz.trans hA.symm)) ?_; clear hK K)
          (refine wpSeg (16 :: []) 0 (l := _) rfl (by simp only [List.filterMap_cons, List.filterMap_nil, List.getElem?_toArray, List.getElem?_cons_succ, List.getElem?_cons_zero]; rfl) (by kernel_rfl) (fun _ _ _ _ _ h => h) (laterH_of (hAz.trans hA.symm)) ?_; show wpQuiet _ _ _ _ (_ :: []) _; (repeat (go_big_quiet_step (fail))); refine wpQuiet_nil ?_; show wpAnyH _ _ _ _ _ _ _ _ _)
          refine wpAnyH_done (by kernel_rfl) ?_ _
          have hP2 := hPd.move t1 f1 (rv_mask r3 rfl rfl) f3 (hvq _)
          clear hvq
          clear hAz hA1 hr1 t1 f1 r3 f3
          obtain ⟨s2, now2, v2, l2, rv2, q2, hn2, hq2, hP2⟩ : ∃ s2 now2 v2 l2 rv2 q2, now2 ≤ i + 1 ∧ q2.length ≤ i + 1 ∧ VPl w wz rb s2 now2 v2 l2 rv2 q2 := ⟨_, _, _, _, _, _, by omega, hql, hP2⟩
          clear hA hP1 k0 k1 k2 hPd hql
          obtain ⟨rb2, rfl⟩ : ∃ r, r = rb := ⟨_, rfl⟩
          go_wp2_with fail
          have hq8 := hP2.q.at8
          have hwq := hP2.q.waits
          have hql2 : q2.length ≤ 1000000 := by omega
          rcases hP2.q.best with ⟨hb0, hno⟩ | ⟨n9, hb0, htop, _⟩
          · have HQ8 := Lib.hid hq8
            have HNO := Lib.hid hno
            have HWQ := Lib.hid hwq
            have HB0 := Lib.hid hb0
            clear hq8 hno hwq hb0
            go_wp2_with fail
            refine (vcNextNo _ hP2.vc HNO.out).mono ?_
            rintro e w' ⟨rfl, rfl⟩
            go_wp2_with fail
            refine (rvNextNo rb2 _ _ rv2 q2 _ hP2.rf hql2 HQ8.out HB0.out).mono ?_
            rintro e w7 ⟨rfl, b7⟩
            have hP3 := hP2.below b7
            clear hP2 b7
            go_wp2_with fail
            refine (vcWaits w.heap.size now2 s2 v2 l2 _ hP3.vc).mono ?_
            rintro e w8 ⟨o8, rfl, own8, b8⟩
            have hP4 := hP3.below b8
            obtain ⟨a8, c8, rfl⟩ := ownsRow_shape own8
            clear hP3 b8
            go_wp2_with fail
            refine (rvWaits rb2 _ _ rv2 q2 _ hP4.rf hql2).mono ?_
            rintro e w9 ⟨o9, rfl, own9, b9⟩
            have own8b := ownsRow_below own8 b9
            have hP5 := hP4.below b9
            obtain ⟨a9, c9, rfl⟩ := ownsRow_shape own9
            rw [HWQ.out] at own9 ⊢
            have hwl : (waitL s2 8).length ≤ 8 := waitL_le s2 8
            clear hP4 b9 own8
            go_wp2_with fail
            refine (intsSame a8 a9 _ _ c8 c9 _ _ (ints_at own8b).2 (ints_at own9).2 (by omega) (by omega)).mono ?_
            rintro e wy ⟨rfl, by3⟩
            have hP6 := hP5.below by3
            clear hP5 own8b own9 by3
            go_wp2
            go_roundw
            case rel => exact ⟨i + 1, s2, now2, v2, l2, rv2, q2, by omega, by go_num, by omega, by omega, rb2, rfl, hP6⟩
            case measure => simp [intOf]; omega
          · have HQ8 := Lib.hid hq8
            have HT := Lib.hid htop
            have HWQ := Lib.hid hwq
            have HB0 := Lib.hid hb0
            clear hq8 htop hwq hb0
            go_wp2_with fail
            refine (vcNextIs _ hP2.vc HT.out).mono ?_
            rintro e w' ⟨rfl, rfl⟩
            go_wp2_with fail
            refine (rvNextIs rb2 _ _ rv2 q2 n9 _ hP2.rf hql2 HQ8.out HB0.out).mono ?_
            rintro e w7 ⟨rfl, b7⟩
            have hP3 := hP2.below b7
            clear hP2 b7
            go_wp2_with fail
            refine (vcWaits w.heap.size now2 s2 v2 l2 _ hP3.vc).mono ?_
            rintro e w8 ⟨o8, rfl, own8, b8⟩
            have hP4 := hP3.below b8
            obtain ⟨a8, c8, rfl⟩ := ownsRow_shape own8
            clear hP3 b8
            go_wp2_with fail
            refine (rvWaits rb2 _ _ rv2 q2 _ hP4.rf hql2).mono ?_
            rintro e w9 ⟨o9, rfl, own9, b9⟩
            have own8b := ownsRow_below own8 b9
            have hP5 := hP4.below b9
            obtain ⟨a9, c9, rfl⟩ := ownsRow_shape own9
            rw [HWQ.out] at own9 ⊢
            have hwl : (waitL s2 8).length ≤ 8 := waitL_le s2 8
            clear hP4 b9 own8
            go_wp2_with fail
            refine (intsSame a8 a9 _ _ c8 c9 _ _ (ints_at own8b).2 (ints_at own9).2 (by omega) (by omega)).mono ?_
            rintro e wy ⟨rfl, by3⟩
            have hP6 := hP5.below by3
            clear hP5 own8b own9 by3
            go_wp2
            go_roundw
            case rel => exact ⟨i + 1, s2, now2, v2, l2, rv2, q2, by omega, by go_num, by omega, by omega, rb2, rfl, hP6⟩
            case measure => simp [intOf]; omega
      · go_wp2_with fail
        generalize (wo.alloc (.cells #[.int .i64 3, .int .i64 ln, .int .i64 pp] 39)) = wq at hA hP1 ⊢
        have k0 : True := trivial
        have k1 : wq.cell? ⟨wo.heap.size, 1, none⟩ = some (.int .i64 ln) := cell_of_row _ _ _ _ _ _ hA
        have k2 : wq.cell? ⟨wo.heap.size, 2, none⟩ = some (.int .i64 pp) := cell_of_row _ _ _ _ _ _ hA
        have hPd : VPl w wq.drew rb s now v l rv q := hP1.below (Bel.refl wq).drew.1
        have hAd : wq.drew.heap[wo.heap.size]? = _ := hA
        (refine wp_region_line 13 (fun x => ∃ y : LatH wq wo.heap.size, x = laterH wq wo.heap.size y) (by kernel_rfl) rfl ?_)
        (refine wpSeg (0 :: 1 :: 2 :: 3 :: 4 :: 6 :: 7 :: 8 :: 9 :: 10 :: []) 3 (l := _) rfl (by simp only [List.filterMap_cons, List.filterMap_nil, List.getElem?_toArray, List.getElem?_cons_succ, List.getElem?_cons_zero]; rfl) (by kernel_rfl) (fun _ _ _ _ _ h => h) (laterH_of (w := wq.drew) rfl) ?_; show wpQuiet _ _ _ _ (_ :: _ :: _ :: _ :: _ :: _ :: _ :: _ :: _ :: _ :: []) _; (repeat (go_big_quiet_step (fail))); refine wpQuiet_nil ?_; show wpAnyH _ _ _ _ _ _ _ _ _)
        (refine wpOne 5 2 rfl rfl (by kernel_rfl) ?_; intro K hK; go_simp)
        by_cases hno : ln < 0 ∨ 8 ≤ ln ∨ pp < 0 ∨ 3 < pp
        · refine (vcPrioNo w.heap.size now s v l ln pp _ hPd.vc hno).mono ?_
          rintro e w' ⟨rfl, rfl⟩
          (refine hK.out _ _ _ (fun _ h => h) (laterH_of (w := wq.drew) rfl) ?_; clear hK K)
          (refine wpOne 11 1 rfl rfl (by kernel_rfl) ?_; intro K hK; go_simp)
          refine (rvPrioNo rb ln pp _ hno).mono ?_
          rintro e w' ⟨rfl, rfl⟩
          (refine hK.out _ _ _ (fun _ h => h) (laterH_of (w := wq.drew) rfl) ?_; clear hK K)
          (refine wpSeg (12 :: []) 0 (l := _) rfl (by simp only [List.filterMap_cons, List.filterMap_nil, List.getElem?_toArray, List.getElem?_cons_succ, List.getElem?_cons_zero]; rfl) (by kernel_rfl) (fun _ _ _ _ _ h => h) (laterH_of (w := wq.drew) rfl) ?_; show wpQuiet _ _ _ _ (_ :: []) _; (repeat (go_big_quiet_step (fail))); refine wpQuiet_nil ?_; show wpAnyH _ _ _ _ _ _ _ _ _)
          refine wpAnyH_done (by kernel_rfl) ?_ _
          clear hno
          generalize wq.drew = wz at hPd ⊢
          obtain ⟨s2, now2, v2, l2, rv2, q2, hn2, hq2, hP2⟩ : ∃ s2 now2 v2 l2 rv2 q2, now2 ≤ i + 1 ∧ q2.length ≤ i + 1 ∧ VPl w wz rb s2 now2 v2 l2 rv2 q2 := ⟨_, _, _, _, _, _, by omega, by omega, hPd⟩
          clear hA hP1 k0 k1 k2 hPd
          obtain ⟨rb2, rfl⟩ : ∃ r, r = rb := ⟨_, rfl⟩
          go_wp2_with fail
          have hq8 := hP2.q.at8
          have hwq := hP2.q.waits
          have hql2 : q2.length ≤ 1000000 := by omega
          rcases hP2.q.best with ⟨hb0, hno⟩ | ⟨n9, hb0, htop, _⟩
          · have HQ8 := Lib.hid hq8
            have HNO := Lib.hid hno
            have HWQ := Lib.hid hwq
            have HB0 := Lib.hid hb0
            clear hq8 hno hwq hb0
            go_wp2_with fail
            refine (vcNextNo _ hP2.vc HNO.out).mono ?_
            rintro e w' ⟨rfl, rfl⟩
            go_wp2_with fail
            refine (rvNextNo rb2 _ _ rv2 q2 _ hP2.rf hql2 HQ8.out HB0.out).mono ?_
            rintro e w7 ⟨rfl, b7⟩
            have hP3 := hP2.below b7
            clear hP2 b7
            go_wp2_with fail
            refine (vcWaits w.heap.size now2 s2 v2 l2 _ hP3.vc).mono ?_
            rintro e w8 ⟨o8, rfl, own8, b8⟩
            have hP4 := hP3.below b8
            obtain ⟨a8, c8, rfl⟩ := ownsRow_shape own8
            clear hP3 b8
            go_wp2_with fail
            refine (rvWaits rb2 _ _ rv2 q2 _ hP4.rf hql2).mono ?_
            rintro e w9 ⟨o9, rfl, own9, b9⟩
            have own8b := ownsRow_below own8 b9
            have hP5 := hP4.below b9
            obtain ⟨a9, c9, rfl⟩ := ownsRow_shape own9
            rw [HWQ.out] at own9 ⊢
            have hwl : (waitL s2 8).length ≤ 8 := waitL_le s2 8
            clear hP4 b9 own8
            go_wp2_with fail
            refine (intsSame a8 a9 _ _ c8 c9 _ _ (ints_at own8b).2 (ints_at own9).2 (by omega) (by omega)).mono ?_
            rintro e wy ⟨rfl, by3⟩
            have hP6 := hP5.below by3
            clear hP5 own8b own9 by3
            go_wp2
            go_roundw
            case rel => exact ⟨i + 1, s2, now2, v2, l2, rv2, q2, by omega, by go_num, by omega, by omega, rb2, rfl, hP6⟩
            case measure => simp [intOf]; omega
          · have HQ8 := Lib.hid hq8
            have HT := Lib.hid htop
            have HWQ := Lib.hid hwq
            have HB0 := Lib.hid hb0
            clear hq8 htop hwq hb0
            go_wp2_with fail
            refine (vcNextIs _ hP2.vc HT.out).mono ?_
            rintro e w' ⟨rfl, rfl⟩
            go_wp2_with fail
            refine (rvNextIs rb2 _ _ rv2 q2 n9 _ hP2.rf hql2 HQ8.out HB0.out).mono ?_
            rintro e w7 ⟨rfl, b7⟩
            have hP3 := hP2.below b7
            clear hP2 b7
            go_wp2_with fail
            refine (vcWaits w.heap.size now2 s2 v2 l2 _ hP3.vc).mono ?_
            rintro e w8 ⟨o8, rfl, own8, b8⟩
            have hP4 := hP3.below b8
            obtain ⟨a8, c8, rfl⟩ := ownsRow_shape own8
            clear hP3 b8
            go_wp2_with fail
            refine (rvWaits rb2 _ _ rv2 q2 _ hP4.rf hql2).mono ?_
            rintro e w9 ⟨o9, rfl, own9, b9⟩
            have own8b := ownsRow_below own8 b9
            have hP5 := hP4.below b9
            obtain ⟨a9, c9, rfl⟩ := ownsRow_shape own9
            rw [HWQ.out] at own9 ⊢
            have hwl : (waitL s2 8).length ≤ 8 := waitL_le s2 8
            clear hP4 b9 own8
            go_wp2_with fail
            refine (intsSame a8 a9 _ _ c8 c9 _ _ (ints_at own8b).2 (ints_at own9).2 (by omega) (by omega)).mono ?_
            rintro e wy ⟨rfl, by3⟩
            have hP6 := hP5.below by3
            clear hP5 own8b own9 by3
            go_wp2
            go_roundw
            case rel => exact ⟨i + 1, s2, now2, v2, l2, rv2, q2, by omega, by go_num, by omega, by omega, rb2, rfl, hP6⟩
            case measure => simp [intOf]; omega
        · obtain ⟨k, rfl⟩ : ∃ k : Nat, ln = k := ⟨ln.toNat, by omega⟩
          have hk : k < 8 := by omega
          have hp0 : 0 ≤ pp := by omega
          have hp3 : pp ≤ 3 := by omega
          clear hno
          have hvq := hPd.q.keep (x := ⟨(s k).wt, (s k).ms, pp, (s k).sn⟩) hk rfl rfl
          have hql : q.length ≤ i + 1 := by omega
          refine (vcPrio w.heap.size now s v l k pp _ hPd.vc hk hp0 hp3).mono ?_
          rintro e w1 ⟨rfl, v1, l1, t1, f1⟩
          have hr1 := hPd.rf2 f1
          have hA1 := f1.other hPd.vc.row hAd (by decide) (by decide)
          (refine hK.out _ _ _ (fun _ h => h) (laterH_of (hA1.trans hA.symm)) ?_; clear hK K)
          (refine wpOne 11 1 rfl rfl (by kernel_rfl) ?_; intro K hK; go_simp)
          refine (rvPrio rb _ _ rv q k pp _ hr1 hk hp0 hp3).mono ?_
          rintro e wz ⟨rfl, r3, f3⟩
          have hAz := f3.other hr1 hA1 (by decide) (by decide)
          (refine hK.out _ _ _ (fun _ h => h) (laterH_of (hAz.trans hA.symm)) ?_; clear hK K)
          (refine wpSeg (12 :: []) 0 (l := _) rfl (by simp only [List.filterMap_cons, List.filterMap_nil, List.getElem?_toArray, List.getElem?_cons_succ, List.getElem?_cons_zero]; rfl) (by kernel_rfl) (fun _ _ _ _ _ h => h) (laterH_of (hAz.trans hA.symm)) ?_; show wpQuiet _ _ _ _ (_ :: []) _; (repeat (go_big_quiet_step (fail))); refine wpQuiet_nil ?_; show wpAnyH _ _ _ _ _ _ _ _ _)
          refine wpAnyH_done (by kernel_rfl) ?_ _
          have hP2 : VPl w wz rb (putF s k ⟨(s k).wt, (s k).ms, pp, (s k).sn⟩) now v1 l1 rv q := hPd.move t1 f1 (rv_prio r3 rfl rfl) f3 hvq
          clear hvq
          clear hAz hA1 hr1 t1 f1 r3 f3
          obtain ⟨s2, now2, v2, l2, rv2, q2, hn2, hq2, hP2⟩ : ∃ s2 now2 v2 l2 rv2 q2, now2 ≤ i + 1 ∧ q2.length ≤ i + 1 ∧ VPl w wz rb s2 now2 v2 l2 rv2 q2 := ⟨_, _, _, _, _, _, by omega, hql, hP2⟩
          clear hA hP1 k0 k1 k2 hPd hql
          obtain ⟨rb2, rfl⟩ : ∃ r, r = rb := ⟨_, rfl⟩
          go_wp2_with fail
          have hq8 := hP2.q.at8
          have hwq := hP2.q.waits
          have hql2 : q2.length ≤ 1000000 := by omega
          rcases hP2.q.best with ⟨hb0, hno⟩ | ⟨n9, hb0, htop, _⟩
          · have HQ8 := Lib.hid hq8
            have HNO := Lib.hid hno
            have HWQ := Lib.hid hwq
            have HB0 := Lib.hid hb0
            clear hq8 hno hwq hb0
            go_wp2_with fail
            refine (vcNextNo _ hP2.vc HNO.out).mono ?_
            rintro e w' ⟨rfl, rfl⟩
            go_wp2_with fail
            refine (rvNextNo rb2 _ _ rv2 q2 _ hP2.rf hql2 HQ8.out HB0.out).mono ?_
            rintro e w7 ⟨rfl, b7⟩
            have hP3 := hP2.below b7
            clear hP2 b7
            go_wp2_with fail
            refine (vcWaits w.heap.size now2 s2 v2 l2 _ hP3.vc).mono ?_
            rintro e w8 ⟨o8, rfl, own8, b8⟩
            have hP4 := hP3.below b8
            obtain ⟨a8, c8, rfl⟩ := ownsRow_shape own8
            clear hP3 b8
            go_wp2_with fail
            refine (rvWaits rb2 _ _ rv2 q2 _ hP4.rf hql2).mono ?_
            rintro e w9 ⟨o9, rfl, own9, b9⟩
            have own8b := ownsRow_below own8 b9
            have hP5 := hP4.below b9
            obtain ⟨a9, c9, rfl⟩ := ownsRow_shape own9
            rw [HWQ.out] at own9 ⊢
            have hwl : (waitL s2 8).length ≤ 8 := waitL_le s2 8
            clear hP4 b9 own8
            go_wp2_with fail
            refine (intsSame a8 a9 _ _ c8 c9 _ _ (ints_at own8b).2 (ints_at own9).2 (by omega) (by omega)).mono ?_
            rintro e wy ⟨rfl, by3⟩
            have hP6 := hP5.below by3
            clear hP5 own8b own9 by3
            go_wp2
            go_roundw
            case rel => exact ⟨i + 1, s2, now2, v2, l2, rv2, q2, by omega, by go_num, by omega, by omega, rb2, rfl, hP6⟩
            case measure => simp [intOf]; omega
          · have HQ8 := Lib.hid hq8
            have HT := Lib.hid htop
            have HWQ := Lib.hid hwq
            have HB0 := Lib.hid hb0
            clear hq8 htop hwq hb0
            go_wp2_with fail
            refine (vcNextIs _ hP2.vc HT.out).mono ?_
            rintro e w' ⟨rfl, rfl⟩
            go_wp2_with fail
            refine (rvNextIs rb2 _ _ rv2 q2 n9 _ hP2.rf hql2 HQ8.out HB0.out).mono ?_
            rintro e w7 ⟨rfl, b7⟩
            have hP3 := hP2.below b7
            clear hP2 b7
            go_wp2_with fail
            refine (vcWaits w.heap.size now2 s2 v2 l2 _ hP3.vc).mono ?_
            rintro e w8 ⟨o8, rfl, own8, b8⟩
            have hP4 := hP3.below b8
            obtain ⟨a8, c8, rfl⟩ := ownsRow_shape own8
            clear hP3 b8
            go_wp2_with fail
            refine (rvWaits rb2 _ _ rv2 q2 _ hP4.rf hql2).mono ?_
            rintro e w9 ⟨o9, rfl, own9, b9⟩
            have own8b := ownsRow_below own8 b9
            have hP5 := hP4.below b9
            obtain ⟨a9, c9, rfl⟩ := ownsRow_shape own9
            rw [HWQ.out] at own9 ⊢
            have hwl : (waitL s2 8).length ≤ 8 := waitL_le s2 8
            clear hP4 b9 own8
            go_wp2_with fail
            refine (intsSame a8 a9 _ _ c8 c9 _ _ (ints_at own8b).2 (ints_at own9).2 (by omega) (by omega)).mono ?_
            rintro e wy ⟨rfl, by3⟩
            have hP6 := hP5.below by3
            clear hP5 own8b own9 by3
            go_wp2
            go_roundw
            case rel => exact ⟨i + 1, s2, now2, v2, l2, rv2, q2, by omega, by go_num, by omega, by omega, rb2, rfl, hP6⟩
            case measure => simp [intOf]; omega
      · go_wp2_with fail
        have hPb := hP1.below (Bel.refl _).alloc.1 (w2 := (wo.alloc (.cells #[.int .i64 4, .int .i64 ln, .int .i64 pp] 39)).alloc (.cells (rvBlk (msOf vc0) (prOf vc0) (.slice none 0 0)) 46))
        have hnew : ((wo.alloc (.cells #[.int .i64 4, .int .i64 ln, .int .i64 pp] 39)).alloc (.cells (rvBlk (msOf vc0) (prOf vc0) (.slice none 0 0)) 46)).heap[wo.heap.size + 1]? = some (.cells (rvBlk (msOf vc0) (prOf vc0) (.slice none 0 0)) 46 (0, 0)) := by
          have := Go.heap_alloc_new (wo.alloc (.cells #[.int .i64 4, .int .i64 ln, .int .i64 pp] 39)) (.cells (rvBlk (msOf vc0) (prOf vc0) (.slice none 0 0)) 46)
          rw [show (wo.alloc (.cells #[.int .i64 4, .int .i64 ln, .int .i64 pp] 39)).heap.size = wo.heap.size + 1 by simp] at this
          exact this
        have hltb : w.heap.size < wo.heap.size + 1 := by omega
        refine (vcReset w.heap.size now s v l _ hPb.vc).mono ?_
        rintro e wz ⟨rfl, t2, f2⟩
        have hP2 : VPl w wz (wo.heap.size + 1) vc0 0 (.slice none 0 0) [] (.slice none 0 0) [] :=
          ⟨t2, ⟨f2.other hPb.vc.row hnew (by decide) (by decide), World.ownsRow_nil _ _ _ _⟩, hltb, hPb.vc.grow hPb.bel (Nat.le_refl _) f2, VQ.nil⟩
        clear t2 f2 hnew hltb hPb
        go_wp2_with fail
        obtain ⟨rb2, hrb2⟩ : ∃ r, r = wo.heap.size + 1 := ⟨_, rfl⟩
        rw [← hrb2] at hP2 ⊢
        obtain ⟨s2, now2, v2, l2, rv2, q2, hn2, hq2, hP2⟩ : ∃ s2 now2 v2 l2 rv2 q2, now2 ≤ i + 1 ∧ q2.length ≤ i + 1 ∧ VPl w wz rb2 s2 now2 v2 l2 rv2 q2 := ⟨_, _, _, _, _, _, by omega, by simp, hP2⟩
        clear hA hP1 r0 r1 r2 hrb2
        have hq8 := hP2.q.at8
        have hwq := hP2.q.waits
        have hql2 : q2.length ≤ 1000000 := by omega
        rcases hP2.q.best with ⟨hb0, hno⟩ | ⟨n9, hb0, htop, _⟩
        · have HQ8 := Lib.hid hq8
          have HNO := Lib.hid hno
          have HWQ := Lib.hid hwq
          have HB0 := Lib.hid hb0
          clear hq8 hno hwq hb0
          go_wp2_with fail
          refine (vcNextNo _ hP2.vc HNO.out).mono ?_
          rintro e w' ⟨rfl, rfl⟩
          go_wp2_with fail
          refine (rvNextNo rb2 _ _ rv2 q2 _ hP2.rf hql2 HQ8.out HB0.out).mono ?_
          rintro e w7 ⟨rfl, b7⟩
          have hP3 := hP2.below b7
          clear hP2 b7
          go_wp2_with fail
          refine (vcWaits w.heap.size now2 s2 v2 l2 _ hP3.vc).mono ?_
          rintro e w8 ⟨o8, rfl, own8, b8⟩
          have hP4 := hP3.below b8
          obtain ⟨a8, c8, rfl⟩ := ownsRow_shape own8
          clear hP3 b8
          go_wp2_with fail
          refine (rvWaits rb2 _ _ rv2 q2 _ hP4.rf hql2).mono ?_
          rintro e w9 ⟨o9, rfl, own9, b9⟩
          have own8b := ownsRow_below own8 b9
          have hP5 := hP4.below b9
          obtain ⟨a9, c9, rfl⟩ := ownsRow_shape own9
          rw [HWQ.out] at own9 ⊢
          have hwl : (waitL s2 8).length ≤ 8 := waitL_le s2 8
          clear hP4 b9 own8
          go_wp2_with fail
          refine (intsSame a8 a9 _ _ c8 c9 _ _ (ints_at own8b).2 (ints_at own9).2 (by omega) (by omega)).mono ?_
          rintro e wy ⟨rfl, by3⟩
          have hP6 := hP5.below by3
          clear hP5 own8b own9 by3
          go_wp2
          go_roundw
          case rel => exact ⟨i + 1, s2, now2, v2, l2, rv2, q2, by omega, by go_num, by omega, by omega, rb2, rfl, hP6⟩
          case measure => simp [intOf]; omega
        · have HQ8 := Lib.hid hq8
          have HT := Lib.hid htop
          have HWQ := Lib.hid hwq
          have HB0 := Lib.hid hb0
          clear hq8 htop hwq hb0
          go_wp2_with fail
          refine (vcNextIs _ hP2.vc HT.out).mono ?_
          rintro e w' ⟨rfl, rfl⟩
          go_wp2_with fail
          refine (rvNextIs rb2 _ _ rv2 q2 n9 _ hP2.rf hql2 HQ8.out HB0.out).mono ?_
          rintro e w7 ⟨rfl, b7⟩
          have hP3 := hP2.below b7
          clear hP2 b7
          go_wp2_with fail
          refine (vcWaits w.heap.size now2 s2 v2 l2 _ hP3.vc).mono ?_
          rintro e w8 ⟨o8, rfl, own8, b8⟩
          have hP4 := hP3.below b8
          obtain ⟨a8, c8, rfl⟩ := ownsRow_shape own8
          clear hP3 b8
          go_wp2_with fail
          refine (rvWaits rb2 _ _ rv2 q2 _ hP4.rf hql2).mono ?_
          rintro e w9 ⟨o9, rfl, own9, b9⟩
          have own8b := ownsRow_below own8 b9
          have hP5 := hP4.below b9
          obtain ⟨a9, c9, rfl⟩ := ownsRow_shape own9
          rw [HWQ.out] at own9 ⊢
          have hwl : (waitL s2 8).length ≤ 8 := waitL_le s2 8
          clear hP4 b9 own8
          go_wp2_with fail
          refine (intsSame a8 a9 _ _ c8 c9 _ _ (ints_at own8b).2 (ints_at own9).2 (by omega) (by omega)).mono ?_
          rintro e wy ⟨rfl, by3⟩
          have hP6 := hP5.below by3
          clear hP5 own8b own9 by3
          go_wp2
          go_roundw
          case rel => exact ⟨i + 1, s2, now2, v2, l2, rv2, q2, by omega, by go_num, by omega, by omega, rb2, rfl, hP6⟩
          case measure => simp [intOf]; omega
      · have hql1 : q.length ≤ 1000000 := by omega
        rcases hP1.q.best with ⟨hb0, hno⟩ | ⟨n8, hb0, htop, hmem⟩
        · have HQ8 := Lib.hid hP1.q.at8
          have HNO := Lib.hid hno
          have HB0 := Lib.hid hb0
          clear hno hb0
          go_wp2_with fail
          refine (vcTakeNone _ hP1.vc HNO.out).mono ?_
          rintro e w' ⟨rfl, rfl⟩
          go_wp2_with fail
          refine (rvTakeNo rb _ _ rv q _ hP1.rf hql1 HQ8.out HB0.out).mono ?_
          rintro e wz ⟨rfl, bz⟩
          have hP2 := hP1.below bz
          have hql : q.length ≤ i + 1 := by omega
          have k0 : True := trivial
          have k1 : True := trivial
          have k2 : True := trivial
          have hPd : True := trivial
          clear HNO HB0 HQ8 bz r0 r1 r2
          obtain ⟨s2, now2, v2, l2, rv2, q2, hn2, hq2, hP2⟩ : ∃ s2 now2 v2 l2 rv2 q2, now2 ≤ i + 1 ∧ q2.length ≤ i + 1 ∧ VPl w wz rb s2 now2 v2 l2 rv2 q2 := ⟨_, _, _, _, _, _, by omega, hql, hP2⟩
          clear hA hP1 k0 k1 k2 hPd hql
          obtain ⟨rb2, rfl⟩ : ∃ r, r = rb := ⟨_, rfl⟩
          go_wp2_with fail
          have hq8 := hP2.q.at8
          have hwq := hP2.q.waits
          have hql2 : q2.length ≤ 1000000 := by omega
          rcases hP2.q.best with ⟨hb0, hno⟩ | ⟨n9, hb0, htop, _⟩
          · have HQ8 := Lib.hid hq8
            have HNO := Lib.hid hno
            have HWQ := Lib.hid hwq
            have HB0 := Lib.hid hb0
            clear hq8 hno hwq hb0
            go_wp2_with fail
            refine (vcNextNo _ hP2.vc HNO.out).mono ?_
            rintro e w' ⟨rfl, rfl⟩
            go_wp2_with fail
            refine (rvNextNo rb2 _ _ rv2 q2 _ hP2.rf hql2 HQ8.out HB0.out).mono ?_
            rintro e w7 ⟨rfl, b7⟩
            have hP3 := hP2.below b7
            clear hP2 b7
            go_wp2_with fail
            refine (vcWaits w.heap.size now2 s2 v2 l2 _ hP3.vc).mono ?_
            rintro e w8 ⟨o8, rfl, own8, b8⟩
            have hP4 := hP3.below b8
            obtain ⟨a8, c8, rfl⟩ := ownsRow_shape own8
            clear hP3 b8
            go_wp2_with fail
            refine (rvWaits rb2 _ _ rv2 q2 _ hP4.rf hql2).mono ?_
            rintro e w9 ⟨o9, rfl, own9, b9⟩
            have own8b := ownsRow_below own8 b9
            have hP5 := hP4.below b9
            obtain ⟨a9, c9, rfl⟩ := ownsRow_shape own9
            rw [HWQ.out] at own9 ⊢
            have hwl : (waitL s2 8).length ≤ 8 := waitL_le s2 8
            clear hP4 b9 own8
            go_wp2_with fail
            refine (intsSame a8 a9 _ _ c8 c9 _ _ (ints_at own8b).2 (ints_at own9).2 (by omega) (by omega)).mono ?_
            rintro e wy ⟨rfl, by3⟩
            have hP6 := hP5.below by3
            clear hP5 own8b own9 by3
            go_wp2
            go_roundw
            case rel => exact ⟨i + 1, s2, now2, v2, l2, rv2, q2, by omega, by go_num, by omega, by omega, rb2, rfl, hP6⟩
            case measure => simp [intOf]; omega
          · have HQ8 := Lib.hid hq8
            have HT := Lib.hid htop
            have HWQ := Lib.hid hwq
            have HB0 := Lib.hid hb0
            clear hq8 htop hwq hb0
            go_wp2_with fail
            refine (vcNextIs _ hP2.vc HT.out).mono ?_
            rintro e w' ⟨rfl, rfl⟩
            go_wp2_with fail
            refine (rvNextIs rb2 _ _ rv2 q2 n9 _ hP2.rf hql2 HQ8.out HB0.out).mono ?_
            rintro e w7 ⟨rfl, b7⟩
            have hP3 := hP2.below b7
            clear hP2 b7
            go_wp2_with fail
            refine (vcWaits w.heap.size now2 s2 v2 l2 _ hP3.vc).mono ?_
            rintro e w8 ⟨o8, rfl, own8, b8⟩
            have hP4 := hP3.below b8
            obtain ⟨a8, c8, rfl⟩ := ownsRow_shape own8
            clear hP3 b8
            go_wp2_with fail
            refine (rvWaits rb2 _ _ rv2 q2 _ hP4.rf hql2).mono ?_
            rintro e w9 ⟨o9, rfl, own9, b9⟩
            have own8b := ownsRow_below own8 b9
            have hP5 := hP4.below b9
            obtain ⟨a9, c9, rfl⟩ := ownsRow_shape own9
            rw [HWQ.out] at own9 ⊢
            have hwl : (waitL s2 8).length ≤ 8 := waitL_le s2 8
            clear hP4 b9 own8
            go_wp2_with fail
            refine (intsSame a8 a9 _ _ c8 c9 _ _ (ints_at own8b).2 (ints_at own9).2 (by omega) (by omega)).mono ?_
            rintro e wy ⟨rfl, by3⟩
            have hP6 := hP5.below by3
            clear hP5 own8b own9 by3
            go_wp2
            go_roundw
            case rel => exact ⟨i + 1, s2, now2, v2, l2, rv2, q2, by omega, by go_num, by omega, by omega, rb2, rfl, hP6⟩
            case measure => simp [intOf]; omega
        · have HQ8 := Lib.hid hP1.q.at8
          have HT := Lib.hid htop
          have HB0 := Lib.hid hb0
          have hvq := hP1.q.drop (m := (s n8).ms) (p := (s n8).pr) (t := (s n8).sn) htop.lt
          have hql : (lessQ q n8).length ≤ i + 1 := by have := lessQ_le q n8; omega
          have HVQ := Lib.hid hvq
          clear hvq htop hb0 hmem
          go_wp2_with fail
          refine (vcTakeIs _ hP1.vc HT.out).mono ?_
          rintro e w1 ⟨rfl, v1, l1, t1, f1⟩
          have hr1 := hP1.rf2 f1
          go_wp2_with fail
          refine (rvTakeIs rb _ _ rv q n8 _ hr1 hql1 HQ8.out HB0.out).mono ?_
          rintro e wz ⟨rfl, rv3, r3, f3⟩
          have hP2 : VPl w wz rb (putF s n8 ⟨false, (s n8).ms, (s n8).pr, (s n8).sn⟩) now v1 l1 rv3 (lessQ q n8) := hP1.move t1 f1 (rv_same r3 rfl rfl) f3 HVQ.out
          have k0 : True := trivial
          have k1 : True := trivial
          have k2 : True := trivial
          have hPd : True := trivial
          clear HT HB0 HQ8 HVQ t1 f1 hr1 r3 f3 r0 r1 r2
          obtain ⟨s2, now2, v2, l2, rv2, q2, hn2, hq2, hP2⟩ : ∃ s2 now2 v2 l2 rv2 q2, now2 ≤ i + 1 ∧ q2.length ≤ i + 1 ∧ VPl w wz rb s2 now2 v2 l2 rv2 q2 := ⟨_, _, _, _, _, _, by omega, hql, hP2⟩
          clear hA hP1 k0 k1 k2 hPd hql
          obtain ⟨rb2, rfl⟩ : ∃ r, r = rb := ⟨_, rfl⟩
          go_wp2_with fail
          have hq8 := hP2.q.at8
          have hwq := hP2.q.waits
          have hql2 : q2.length ≤ 1000000 := by omega
          rcases hP2.q.best with ⟨hb0, hno⟩ | ⟨n9, hb0, htop, _⟩
          · have HQ8 := Lib.hid hq8
            have HNO := Lib.hid hno
            have HWQ := Lib.hid hwq
            have HB0 := Lib.hid hb0
            clear hq8 hno hwq hb0
            go_wp2_with fail
            refine (vcNextNo _ hP2.vc HNO.out).mono ?_
            rintro e w' ⟨rfl, rfl⟩
            go_wp2_with fail
            refine (rvNextNo rb2 _ _ rv2 q2 _ hP2.rf hql2 HQ8.out HB0.out).mono ?_
            rintro e w7 ⟨rfl, b7⟩
            have hP3 := hP2.below b7
            clear hP2 b7
            go_wp2_with fail
            refine (vcWaits w.heap.size now2 s2 v2 l2 _ hP3.vc).mono ?_
            rintro e w8 ⟨o8, rfl, own8, b8⟩
            have hP4 := hP3.below b8
            obtain ⟨a8, c8, rfl⟩ := ownsRow_shape own8
            clear hP3 b8
            go_wp2_with fail
            refine (rvWaits rb2 _ _ rv2 q2 _ hP4.rf hql2).mono ?_
            rintro e w9 ⟨o9, rfl, own9, b9⟩
            have own8b := ownsRow_below own8 b9
            have hP5 := hP4.below b9
            obtain ⟨a9, c9, rfl⟩ := ownsRow_shape own9
            rw [HWQ.out] at own9 ⊢
            have hwl : (waitL s2 8).length ≤ 8 := waitL_le s2 8
            clear hP4 b9 own8
            go_wp2_with fail
            refine (intsSame a8 a9 _ _ c8 c9 _ _ (ints_at own8b).2 (ints_at own9).2 (by omega) (by omega)).mono ?_
            rintro e wy ⟨rfl, by3⟩
            have hP6 := hP5.below by3
            clear hP5 own8b own9 by3
            go_wp2
            go_roundw
            case rel => exact ⟨i + 1, s2, now2, v2, l2, rv2, q2, by omega, by go_num, by omega, by omega, rb2, rfl, hP6⟩
            case measure => simp [intOf]; omega
          · have HQ8 := Lib.hid hq8
            have HT := Lib.hid htop
            have HWQ := Lib.hid hwq
            have HB0 := Lib.hid hb0
            clear hq8 htop hwq hb0
            go_wp2_with fail
            refine (vcNextIs _ hP2.vc HT.out).mono ?_
            rintro e w' ⟨rfl, rfl⟩
            go_wp2_with fail
            refine (rvNextIs rb2 _ _ rv2 q2 n9 _ hP2.rf hql2 HQ8.out HB0.out).mono ?_
            rintro e w7 ⟨rfl, b7⟩
            have hP3 := hP2.below b7
            clear hP2 b7
            go_wp2_with fail
            refine (vcWaits w.heap.size now2 s2 v2 l2 _ hP3.vc).mono ?_
            rintro e w8 ⟨o8, rfl, own8, b8⟩
            have hP4 := hP3.below b8
            obtain ⟨a8, c8, rfl⟩ := ownsRow_shape own8
            clear hP3 b8
            go_wp2_with fail
            refine (rvWaits rb2 _ _ rv2 q2 _ hP4.rf hql2).mono ?_
            rintro e w9 ⟨o9, rfl, own9, b9⟩
            have own8b := ownsRow_below own8 b9
            have hP5 := hP4.below b9
            obtain ⟨a9, c9, rfl⟩ := ownsRow_shape own9
            rw [HWQ.out] at own9 ⊢
            have hwl : (waitL s2 8).length ≤ 8 := waitL_le s2 8
            clear hP4 b9 own8
            go_wp2_with fail
            refine (intsSame a8 a9 _ _ c8 c9 _ _ (ints_at own8b).2 (ints_at own9).2 (by omega) (by omega)).mono ?_
            rintro e wy ⟨rfl, by3⟩
            have hP6 := hP5.below by3
            clear hP5 own8b own9 by3
            go_wp2
            go_roundw
            case rel => exact ⟨i + 1, s2, now2, v2, l2, rv2, q2, by omega, by go_num, by omega, by omega, rb2, rfl, hP6⟩
            case measure => simp [intOf]; omega
    · go_wp2_with fail
      all_goals
        refine (awake28 _).mono ?_
        rintro e w7 ⟨rfl, b7⟩
        go_wp2
        go_ret
        exact ⟨rfl, (hP.bel.of b7).1⟩
end Go.Proofs.Ytddngfhiaolkeaa
