/- The walk of hermitagelaw02.OctetLists: true at every input. -/
import Derived.Test.YtclpbphofifojaaOctF
import Derived.Test.YtclpbphofifojaaOctM
import Derived.Test.YtclpbphofifojaaR21p
import Derived.Test.YtclpbphofifojaaReg2
namespace Go.Proofs.Ytclpbphofifojaa
open Go.ChangeShapes Go.WideShapes Go.ChangeAt Go.RowKit
set_option linter.unusedVariables false

theorem rbytes_zero (p : Option Addr) (c : Nat) (w : World) : Calls Try.prog 27 #[.slice p 0 c] w fun e w' => e = .returned (.slice none 0 0) ∧ Below w.heap.size w w' := by
  go_enter Try.func27, Try.ntmps27
  go_wp2_with fail
  refine wp_loop_rounds 1 ?_
  rw [rounds_succ]
  go_wp2
  go_ret
  exact ⟨rfl, (by refine (?_ : Bel _ _ _).1; repeat (first | exact hbel | exact Bel.refl _ | apply Bel.later | apply Bel.alloc | apply Bel.drew | (refine Bel.laterB ?_ (by first | exact Nat.le_refl _ | omega | (simp; omega) | simp)) | (refine Bel.setCell ?_ (by first | exact Nat.le_refl _ | omega | (simp; omega) | simp))))⟩
theorem rbytes_src (p : Option Addr) (n c : Nat) (L : Nat → Int) (w : World) (h : WSrc w p n L) (hn : 4 * n ≤ 140737488355328) :
    Calls Try.prog 27 #[.slice p n c] w fun e w' => ∃ q c', e = .returned (.slice q (4 * n) c') ∧ SrcAt w' q (4 * n) (wb L n) ∧ Below w.heap.size w w' := by
  by_cases h0 : 1 ≤ n
  · obtain ⟨b, o, rfl, hl, hc⟩ := h.2.2 h0
    refine (rbytes_any b o n c L w hl hc h.2.1 hn).mono ?_
    rintro e w' ⟨v, rfl, hown, hb⟩
    obtain ⟨g, cap, rfl, _, _, _, hr⟩ := (row_of_owned hown (wb_byt L n)).2 (by omega)
    exact ⟨_, _, rfl, hr.bat.src, hb⟩
  · obtain rfl : n = 0 := by omega
    refine (rbytes_zero p c w).mono ?_
    rintro e w' ⟨rfl, hb⟩
    exact ⟨none, 0, rfl, ⟨fun _ => rfl, wb_byt L 0, fun h => absurd h (by omega)⟩, hb⟩
theorem rfit_src (s : ByteArray) (n : Int) (w : World) (hs : s.size ≤ 140737488355328) : Calls Try.prog 29 #[.string s, .int .i64 n] w fun e w' => ∃ q c', e = .returned (.slice q (fitN n) c') ∧ SrcAt w' q (fitN n) (fitF s) ∧ Below w.heap.size w w' := by
  refine (rfit_any s n w hs).mono ?_
  rintro e w' ⟨v, rfl, hown, hb⟩
  have ho := row_of_owned hown (fitF_byt s)
  by_cases h0 : 1 ≤ fitN n
  · obtain ⟨g, cap, rfl, _, _, _, hr⟩ := ho.2 h0
    exact ⟨_, _, rfl, hr.bat.src, hb⟩
  · rcases hown.2 with ⟨rfl, hx⟩ | ⟨g, cap, cur, rfl, hgb, hg, hle, hm, hsz, ht⟩
    · rw [hx]
      exact ⟨none, 0, rfl, ⟨fun _ => rfl, fitF_byt s, fun h => absurd h (by omega)⟩, hb⟩
    · exact ⟨_, cap, rfl, ⟨(fun h => by cases h), fitF_byt s, fun h => absurd h h0⟩, hb⟩

theorem strF_fit (s : ByteArray) : strF (fitF s) s.size = s := by
  apply ByteArray.ext
  apply Array.toList_inj.1
  unfold strF
  rw [strOfNums_data, List.map_map]
  refine List.ext_getElem? fun i => ?_
  by_cases hi : i < s.size
  · have h3 : i < s.data.size := hi
    rw [List.getElem?_map, List.getElem?_range hi, Array.getElem?_toList, Array.getElem?_eq_getElem h3]
    simp only [Option.map_some, Function.comp_apply, fitF_lt hi]
    congr 1
    apply UInt8.toNat_inj.1
    have := (s[i]'hi).toNat_lt
    simp
    rfl
  · rw [List.getElem?_eq_none (by simp; omega), List.getElem?_eq_none (by have : s.data.size = s.size := rfl; simp; omega)]

theorem str_src (w : World) (s : ByteArray) (cap : Nat) (t : TypeId) (fr : Nat × Nat) : SrcAt (w.alloc (.cells (bytesRow s cap) t fr)).drew (some ⟨w.heap.size, 0, none⟩) s.size (fitF s) := by
  refine ⟨(fun h => by cases h), fitF_byt s, fun _ => ⟨w.heap.size, 0, rfl, ?_, fun i hi => ?_, fitF_byt s⟩⟩
  · show w.heap.size < (w.alloc _).heap.size
    simp
  · have h1 := Go.heap_alloc_new w (.cells (bytesRow s cap) t fr)
    show (w.alloc _).cell? ⟨w.heap.size, 0 + i, none⟩ = _
    have h3 : i < s.data.size := hi
    simp only [World.cell?, h1, Nat.zero_add]
    unfold bytesRow
    rw [Array.getElem?_append_left (by simpa using h3), Array.getElem?_map, Array.getElem?_eq_getElem h3, fitF_lt hi]
    rfl

set_option maxRecDepth 100000 in
set_option maxHeartbeats 4000000 in
theorem octetLists_walk (p0 : Option Addr) (n0 c0 : Nat) (f0 : Nat → List Value) (p1 : Option Addr) (n1 c1 : Nat) (f1 : Nat → List Value) (s2 : ByteArray) (a3 : Int) (w : World) (w0 : SliceOk [some .u8] w p0 n0 c0 f0) (hR0 : c0 * 1 ≤ 140737488351232) (w1 : SliceOk [some .u32] w p1 n1 c1 f1) (hR1 : c1 * 4 ≤ 140737488351232) (hR2 : s2.size ≤ 140737488351232) (w3 : (Lit.int .i64 a3).wf = true) :
    Calls Try.prog 8 #[.slice p0 n0 c0, .slice p1 n1 c1, .string s2, .int .i64 a3] w fun e w' => e = .returned (.bool true) ∧ Below w.heap.size w w' := by
  have hnc0 := w0.1
  have hnc1 := w1.1
  obtain ⟨f, hs⟩ := src_of_ok w0
  obtain ⟨L, hL⟩ := wsrc_of_ok w1
  clear w0 w1 w3
  go_enter Try.func8, Try.ntmps8
  go_wp2_with fail
  (refine wp_region_line 15 (fun x => ∃ y : Lat w, x = later w y) (by kernel_rfl) rfl ?_)
  (refine wpSeg (0 :: 2 :: []) 13 (l := _) rfl (by simp only [List.filterMap_cons, List.filterMap_nil, List.getElem?_toArray, List.getElem?_cons_succ, List.getElem?_cons_zero]; rfl) (by kernel_rfl) (fun _ _ _ _ _ h => h) (later_drew) ?_; show wpQuiet _ _ _ _ (_ :: _ :: []) _; (repeat (go_big_quiet_step (fail))); refine wpQuiet_nil ?_; show wpAnyH _ _ _ _ _ _ _ _ _)
  (refine wpOne 1 12 rfl rfl (by kernel_rfl) ?_; intro K hK; go_simp)
  refine (words_any p0 n0 c0 f _ (hs.below (Bel.refl w).drew.1) hnc0 (by omega)).mono ?_
  rintro e wa ⟨v1, rfl, hown1, hb1⟩
  have hB1 : Below w.heap.size w wa := (Bel.refl w).drew.of hb1 |>.1
  obtain ⟨pa, ca, rfl, hca, hcma, hia, _⟩ := ints_of_owned hown1
  (refine hK.out (fun x => ∃ y : Lat wa, x = later wa y) _ _ (later_narrow (hB1)) later_self ?_; clear hK K)
  (refine wpOne 3 11 rfl rfl (by kernel_rfl) ?_; intro K hK; go_simp)
  refine (rwords_any p0 n0 c0 f _ (hs.below hB1) hnc0 (by omega)).mono ?_
  rintro e wbb ⟨v2, rfl, hown2, hb2⟩
  have hB2 : Below w.heap.size w wbb := hB1.trans (hb2.mono hB1.size)
  obtain ⟨pb, cb, rfl, hcb, hcmb, hib, _⟩ := ints_of_owned hown2
  (refine hK.out (fun x => ∃ y : Lat wbb, x = later wbb y) _ _ (later_narrow (hb2)) later_self ?_; clear hK K)
  (refine wpOne 4 10 rfl rfl (by kernel_rfl) ?_; intro K hK; go_simp)
  refine (wcmp_any _ _ _ _ _ _ _ _ _ (hia.bel ⟨hb2, hb2.size⟩) hib (by unfold maxLen at hcma; omega) (by unfold maxLen at hcmb; omega)).mono ?_
  rintro e wc ⟨he, hb3⟩
  rw [beq_self_eq_true] at he
  subst he
  have hB3 : Below w.heap.size w wc := hB2.trans (hb3.mono hB2.size)
  clear hown1 hown2 hia hib
  (refine hK.out (fun x => ∃ y : Lat wc, x = later wc y) _ _ (later_narrow (hb3)) later_self ?_; clear hK K)
  (refine wpSeg (5 :: 6 :: 7 :: 10 :: []) 6 (l := _) rfl (by simp only [List.filterMap_cons, List.filterMap_nil, List.getElem?_toArray, List.getElem?_cons_succ, List.getElem?_cons_zero]; rfl) (by kernel_rfl) (fun _ _ _ _ _ h => h) (later_self) ?_; show wpQuiet _ _ _ _ (_ :: _ :: _ :: _ :: []) _; (repeat (go_big_quiet_step (fail))); refine wpQuiet_nil ?_; show wpAnyH _ _ _ _ _ _ _ _ _)
  (refine wpOne 8 5 rfl rfl (by kernel_rfl) ?_; intro K hK; go_simp)
  refine (bytes_any p1 n1 c1 L _ (hL.below hB3) (by omega)).mono ?_
  rintro e wd ⟨g, rfl, _, hr4, hb4⟩
  have hB4 : Below w.heap.size w wd := hB3.trans (hb4.mono hB3.size)
  have k4 : ∀ y : Lat wd, (convert 34 9 (.slice (some ⟨g, 0, none⟩) (4 * n1) (4 * n1))).run Try.prog (later wd y) = .ok (.string (strF (wb L n1) (4 * n1))) (later wd y) := fun y => conv_bytes (hr4.bat.below (later_below wd y)) (4 * n1)
  (refine hK.out (fun x => ∃ y : Lat wd, x = later wd y) _ _ (later_narrow (hb4)) later_self ?_; clear hK K)
  (refine wpSeg (9 :: []) 4 (l := _) rfl (by simp only [List.filterMap_cons, List.filterMap_nil, List.getElem?_toArray, List.getElem?_cons_succ, List.getElem?_cons_zero]; rfl) (by kernel_rfl) (fun _ _ _ _ _ h => h) (later_self) ?_; show wpQuiet _ _ _ _ (_ :: []) _; (repeat (go_big_quiet_step (fail))); refine wpQuiet_nil ?_; show wpAnyH _ _ _ _ _ _ _ _ _)
  clear k4 hr4
  (refine wpOne 11 3 rfl rfl (by kernel_rfl) ?_; intro K hK; go_simp)
  refine (rbytes_src p1 n1 c1 L _ (hL.below hB4) (by omega)).mono ?_
  rintro e we ⟨q5, c5, rfl, hs5, hb5⟩
  have hB5 : Below w.heap.size w we := hB4.trans (hb5.mono hB4.size)
  have k5 : ∀ y : Lat we, (convert 34 9 (.slice q5 (4 * n1) c5)).run Try.prog (later we y) = .ok (.string (strF (wb L n1) (4 * n1))) (later we y) := fun y => conv_src (hs5.below (later_below we y)) c5
  (refine hK.out (fun x => ∃ y : Lat we, x = later we y) _ _ (later_narrow (hb5)) later_self ?_; clear hK K)
  (refine wpSeg (12 :: 13 :: 14 :: []) 0 (l := _) rfl (by simp only [List.filterMap_cons, List.filterMap_nil, List.getElem?_toArray, List.getElem?_cons_succ, List.getElem?_cons_zero]; rfl) (by kernel_rfl) (fun _ _ _ _ _ h => h) (later_self) ?_; show wpQuiet _ _ _ _ (_ :: _ :: _ :: []) _; (repeat (go_big_quiet_step (fail))); refine wpQuiet_nil ?_; show wpAnyH _ _ _ _ _ _ _ _ _)
  clear k5 hs5
  refine wpAnyH_done (by kernel_rfl) ?_ _
  have hse := hs.below hB5
  clear hs hL hb1 hb2 hb3 hb4 hb5 hB1 hB2 hB3 hB4
  go_wp2_with fail
  (refine wp_region_line 24 (fun x => ∃ y : Lat we, x = later we y) (by kernel_rfl) rfl ?_)
  (refine wpSeg (0 :: 1 :: 4 :: 5 :: []) 20 (l := _) rfl (by simp only [List.filterMap_cons, List.filterMap_nil, List.getElem?_toArray, List.getElem?_cons_succ, List.getElem?_cons_zero]; rfl) (by kernel_rfl) (fun _ _ _ _ _ h => h) (later_drew) ?_; show wpQuiet _ _ _ _ (_ :: _ :: _ :: _ :: []) _; (repeat (go_big_quiet_step (fail))); refine wpQuiet_nil ?_; show wpAnyH _ _ _ _ _ _ _ _ _)
  (refine wpOne 2 19 rfl rfl (by kernel_rfl) ?_; intro K hK; go_simp)
  refine (fit_any s2 a3 _).mono ?_
  rintro e wf ⟨g, rfl, hr6, hb6⟩
  have hB6 : Below we.heap.size we wf := (Bel.refl we).drew.of hb6 |>.1
  have k6 : ∀ y : Lat wf, (convert 34 9 (.slice (some ⟨g, 0, none⟩) (fitN a3) (fitN a3))).run Try.prog (later wf y) = .ok (.string (strF (fitF s2) (fitN a3))) (later wf y) := fun y => conv_bytes (hr6.bat.below (later_below wf y)) (fitN a3)
  (refine hK.out (fun x => ∃ y : Lat wf, x = later wf y) _ _ (later_narrow (hB6)) later_self ?_; clear hK K)
  (refine wpSeg (3 :: []) 18 (l := _) rfl (by simp only [List.filterMap_cons, List.filterMap_nil, List.getElem?_toArray, List.getElem?_cons_succ, List.getElem?_cons_zero]; rfl) (by kernel_rfl) (fun _ _ _ _ _ h => h) (later_self) ?_; show wpQuiet _ _ _ _ (_ :: []) _; (repeat (go_big_quiet_step (fail))); refine wpQuiet_nil ?_; show wpAnyH _ _ _ _ _ _ _ _ _)
  clear k6 hr6
  (refine wpOne 6 17 rfl rfl (by kernel_rfl) ?_; intro K hK; go_simp)
  refine (rfit_src s2 a3 _ (by omega)).mono ?_
  rintro e wg ⟨q7, c7, rfl, hs7, hb7⟩
  have hB7 : Below we.heap.size we wg := hB6.trans (hb7.mono hB6.size)
  have hsg := hse.below hB7
  have k7 : ∀ y : Lat wg, (convert 34 9 (.slice q7 (fitN a3) c7)).run Try.prog (later wg y) = .ok (.string (strF (fitF s2) (fitN a3))) (later wg y) := fun y => conv_src (hs7.below (later_below wg y)) c7
  have k8 : ∀ y : Lat wg, (convert 34 9 (.slice p0 n0 c0)).run Try.prog (later wg y) = .ok (.string (strF f n0)) (later wg y) := fun y => conv_src (hsg.below (later_below wg y)) c0
  (refine hK.out (fun x => ∃ y : Lat wg, x = later wg y) _ _ (later_narrow (hb7)) later_self ?_; clear hK K)
  (refine wpSeg (7 :: 8 :: 9 :: 10 :: 11 :: 14 :: 15 :: 16 :: 17 :: []) 8 (l := _) rfl (by simp only [List.filterMap_cons, List.filterMap_nil, List.getElem?_toArray, List.getElem?_cons_succ, List.getElem?_cons_zero]; rfl) (by kernel_rfl) (fun _ _ _ _ _ h => h) (later_self) ?_; show wpQuiet _ _ _ _ (_ :: _ :: _ :: _ :: _ :: _ :: _ :: _ :: _ :: []) _; (repeat (go_big_quiet_step (fail))); refine wpQuiet_nil ?_; show wpAnyH _ _ _ _ _ _ _ _ _)
  clear k7 k8 hs7
  have hcv := run_bytes_of_string (P := Try.prog) wg 9 34 5 s2 Try.underlying9 Try.underlying34 Try.underlying5
  (refine wpOne 12 7 rfl rfl (by kernel_rfl) ?_; intro K hK; go_simp)
  have hsh := str_src wg s2 (grownCap wg s2.size 0 5) 5 ((bytesRow s2 (grownCap wg s2.size 0 5)).size, (bytesRow s2 (grownCap wg s2.size 0 5)).size + 1)
  have hb8 : Below wg.heap.size wg (wg.alloc (.cells (bytesRow s2 (grownCap wg s2.size 0 5)) 5 ((bytesRow s2 (grownCap wg s2.size 0 5)).size, (bytesRow s2 (grownCap wg s2.size 0 5)).size + 1))).drew := ((Bel.refl wg).alloc.drew).1
  generalize grownCap wg s2.size 0 5 = cap at *
  generalize hW : World.drew _ = wh
  rw [hW] at hsh hb8
  clear hW hcv
  have hB8 : Below we.heap.size we wh := hB7.trans (hb8.mono hB7.size)
  (refine hK.out (fun x => ∃ y : Lat wh, x = later wh y) _ _ (later_narrow (hb8)) later_self ?_; clear hK K)
  (refine wpOne 13 6 rfl rfl (by kernel_rfl) ?_; intro K hK; go_simp)
  refine (same_any p0 _ n0 s2.size c0 cap f (fitF s2) _ (hsg.below hb8) hsh).mono ?_
  rintro e w' ⟨rfl, rfl⟩
  rw [strF_fit]
  (refine hK.out (fun x => ∃ y : Lat wh, x = later wh y) _ _ (later_narrow (Below.refl _ _)) later_self ?_; clear hK K)
  (refine wpSeg (18 :: 19 :: 20 :: []) 3 (l := _) rfl (by simp only [List.filterMap_cons, List.filterMap_nil, List.getElem?_toArray, List.getElem?_cons_succ, List.getElem?_cons_zero]; rfl) (by kernel_rfl) (fun _ _ _ _ _ h => h) (later_self) ?_; show wpQuiet _ _ _ _ (_ :: _ :: _ :: []) _; (repeat (go_big_quiet_step (fail))); refine wpQuiet_nil ?_; show wpAnyH _ _ _ _ _ _ _ _ _)
  (refine wpOne 21 2 rfl rfl (by kernel_rfl) ?_; intro K hK; go_simp)
  refine (awake02 _).mono ?_
  rintro e wi ⟨rfl, hb9⟩
  (refine hK.out (fun x => ∃ y : Lat wi, x = later wi y) _ _ (later_narrow (hb9)) later_self ?_; clear hK K)
  (refine wpSeg (22 :: 23 :: []) 0 (l := _) rfl (by simp only [List.filterMap_cons, List.filterMap_nil, List.getElem?_toArray, List.getElem?_cons_succ, List.getElem?_cons_zero]; rfl) (by kernel_rfl) (fun _ _ _ _ _ h => h) (later_self) ?_; show wpQuiet _ _ _ _ (_ :: _ :: []) _; (repeat (go_big_quiet_step (fail))); refine wpQuiet_nil ?_; show wpAnyH _ _ _ _ _ _ _ _ _)
  refine wpAnyH_done (by kernel_rfl) ?_ _
  have hbel := hB5.trans ((hB8.trans (hb9.mono hB8.size)).mono hB5.size)
  go_wp2_with fail
  go_ret
  exact ⟨rfl, hbel⟩

end Go.Proofs.Ytclpbphofifojaa
