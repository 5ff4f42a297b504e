/- law 19: ShadowPlays. -/
import Derived.Test.YthppjkpejnaocaaShY
namespace Go.Proofs.Ythppjkpejnaocaa
open Go.ChangeShapes Go.WideShapes Go.ChangeAt Go.RowKit
set_option linter.unusedVariables false

set_option maxRecDepth 100000 in
set_option maxHeartbeats 40000000 in
theorem shadowPlays_walk (p0 : Option Addr) (n0 c0 : Nat) (f0 : Nat → List Value) (w : World) (w0 : SliceOk [some .i64, some .i64, some .i64, some .i64, some .i64, some .i64, some .i64, some .i64] w p0 n0 c0 f0) (hR0 : c0 * 64 ≤ 140737488351232) :
    Calls Try.prog 6 #[.slice p0 n0 c0] w fun e w' => e = .returned (.bool true) ∧ Below w.heap.size w w' := by
  clear hR0
  have hm0 : n0 ≤ 9223372036854775807 := Nat.le_trans w0.1 w0.2.1
  go_enter Try.func6, Try.ntmps6
  go_wp2_with fail
  refine (sh_new _).mono ?_
  rintro e w1 ⟨rfl, h1, b1, hs1⟩
  have hB1 : Bel w.heap.size w w1 := Bel.of (Bel.refl w) b1
  have hlt1 : w.heap.size < w1.heap.size := by omega
  clear hs1 b1
  have h1A := h1.alloc (ob := .cells #[.slice none 0 0] 57)
  have hRA : RfIn (w1.alloc (.cells #[.slice none 0 0] 57)) w1.heap.size (.slice none 0 0) [] := ⟨Go.heap_alloc_new _ _, World.ownsRow_nil _ _ _ _⟩
  have hBA := hB1.alloc (o := .cells #[.slice none 0 0] 57)
  obtain ⟨wA, hwA⟩ : ∃ wA, w1.alloc (.cells #[.slice none 0 0] 57) = wA := ⟨_, rfl⟩
  rw [hwA] at h1A hRA hBA
  obtain ⟨b, hb⟩ : ∃ b, w.heap.size = b := ⟨_, rfl⟩
  rw [hb] at h1A hlt1
  clear h1 hB1
  go_wp2_with fail
  clear hwA
  generalize w1.heap.size = b2 at *
  go_loopw [5] (fun iv wr => ∃ (i : Nat) (v v2 : Value) (l : List ln), i ≤ 100 ∧ iv = .int .i64 i ∧ ShIn wr b v l ∧ RfIn wr b2 v2 l ∧ PInv l ∧ Bel w.heap.size w wr) (fun iv _ => 100 - (intOf iv).toNat)
  case atStart => exact ⟨0, _, _, [], Nat.zero_le _, rfl, h1A, hRA, PInv.nil, hBA⟩
  case round =>
    clear h1A hRA hBA
    obtain ⟨i, v, v2, l, hi, rfl, hr, hr2, hP, hB⟩ := hrel
    by_cases hall : i < n0 ∧ i < 100
    · obtain ⟨i0, i100⟩ := hall
      obtain ⟨b1, o1, a, rfl, hA⟩ := acts_at w0 i0
      have hA2 := hA.below hB.1 (Nat.le_refl _)
      clear w0 hA
      have r0 := hA2.c0
      have r1 := hA2.c1
      have r2 := hA2.c2
      have r3 := hA2.c3
      have r4 := hA2.c4
      have r5 := hA2.c5
      have r6 := hA2.c6
      have r7 := hA2.c7
      clear hA2
      obtain ⟨kd, ⟨k0, k1, e0, e1, e2, rt, lf⟩⟩ := a
      simp only at r0 r1 r2 r3 r4 r5 r6 r7
      have hA := Go.heap_alloc_new wr (.cells #[.int .i64 kd, .int .i64 k0, .int .i64 k1, .int .i64 e0, .int .i64 e1, .int .i64 e2, .int .i64 rt, .int .i64 lf] 34)
      have hrA := hr.alloc (ob := .cells #[.int .i64 kd, .int .i64 k0, .int .i64 k1, .int .i64 e0, .int .i64 e1, .int .i64 e2, .int .i64 rt, .int .i64 lf] 34)
      have hr2A := hr2.alloc (ob := .cells #[.int .i64 kd, .int .i64 k0, .int .i64 k1, .int .i64 e0, .int .i64 e1, .int .i64 e2, .int .i64 rt, .int .i64 lf] 34)
      have hBA := hB.alloc (o := .cells #[.int .i64 kd, .int .i64 k0, .int .i64 k1, .int .i64 e0, .int .i64 e1, .int .i64 e2, .int .i64 rt, .int .i64 lf] 34)
      have hPL := hP.act ⟨kd, ⟨k0, k1, e0, e1, e2, rt, lf⟩⟩
      have hn := hP.1
      clear hr hr2 hB hP
      go_wp2_with fail
      clear r0 r1 r2 r3 r4 r5 r6 r7
      generalize wr.alloc (.cells #[.int .i64 kd, .int .i64 k0, .int .i64 k1, .int .i64 e0, .int .i64 e1, .int .i64 e2, .int .i64 rt, .int .i64 lf] 34) = wq at *
      generalize wr.heap.size = ab at *
      have hd := sh_does ⟨kd, ⟨k0, k1, e0, e1, e2, rt, lf⟩⟩ wq hrA hn
      unfold actV at hd
      refine hd.mono ?_
      rintro e w2 ⟨u1, u2, vs, rfl, hTo, h2, f2⟩
      have hA2 := f2.other hrA hA (by decide) (by decide)
      have hR2 := hr2A.frm hrA f2 (by decide) (by decide) (by decide) (by decide)
      have hB2 := hBA.frm f2 (Nat.le_of_eq hb) (fun g hg => by have := (hrA.own g hg).1; omega)
      have hbw := hr2A.lt
      have hvw : ∀ g, v2.ownBlock = some g → g < wq.heap.size := fun g hg => (hr2A.own g hg).2
      clear hd hA hrA hr2A hBA f2
      have a0 : w2.cell? ⟨ab, 0, none⟩ = some (.int .i64 kd) := (cell_of_row _ _ 0 _ _ _ hA2).trans rfl
      have a1 : w2.cell? ⟨ab, 1, none⟩ = some (.int .i64 k0) := (cell_of_row _ _ 1 _ _ _ hA2).trans rfl
      have a2 : w2.cell? ⟨ab, 2, none⟩ = some (.int .i64 k1) := (cell_of_row _ _ 2 _ _ _ hA2).trans rfl
      have a3 : w2.cell? ⟨ab, 3, none⟩ = some (.int .i64 e0) := (cell_of_row _ _ 3 _ _ _ hA2).trans rfl
      have a4 : w2.cell? ⟨ab, 4, none⟩ = some (.int .i64 e1) := (cell_of_row _ _ 4 _ _ _ hA2).trans rfl
      have a5 : w2.cell? ⟨ab, 5, none⟩ = some (.int .i64 e2) := (cell_of_row _ _ 5 _ _ _ hA2).trans rfl
      have a6 : w2.cell? ⟨ab, 6, none⟩ = some (.int .i64 rt) := (cell_of_row _ _ 6 _ _ _ hA2).trans rfl
      have a7 : w2.cell? ⟨ab, 7, none⟩ = some (.int .i64 lf) := (cell_of_row _ _ 7 _ _ _ hA2).trans rfl
      have lab := lt_heap hA2
      by_cases c0 : kd = 0
      · subst c0
        have hL : doL l ⟨0, ⟨k0, k1, e0, e1, e2, rt, lf⟩⟩ = l.filter fun x => !thrB rt x := by rw [doL, if_pos rfl]
        have hK : doK l ⟨0, ⟨k0, k1, e0, e1, e2, rt, lf⟩⟩ = l.filter (thrB rt) := by rw [doK, if_pos rfl]
        have hN : doN l ⟨0, ⟨k0, k1, e0, e1, e2, rt, lf⟩⟩ = 0 := by rw [doN, if_pos rfl]
        have hks := hTo.ks
        rw [hK] at hks
        rw [hL] at h2 hPL
        rw [hN]
        obtain ⟨ka, kc, rfl, hki, hkg⟩ := hks
        clear hL hK hN hTo
        have hf := List.length_filter_le (thrB rt) l
        have hw2 := rf_wrote rt false w2 hR2 (by omega)
        rw [tooB_false] at hw2
        go_wp2_with fail
        refine hw2.mono ?_
        rintro e w3 ⟨u, vr, rfl, hown, hR3, f3⟩
        have hk3 := hki.frmB f3 hkg hbw hvw
        obtain ⟨kb, kc2, rfl, _, _, hit, _⟩ := items_of_owned kyEnc_length hown
        have hAct := f3.other hR2 hA2 (by decide) (by decide)
        have hS3 := h2.frm hR2 f3 (by decide) (by decide) (by decide) (by decide)
        have hB3 := hB2.frm f3 (by omega) (fun g hg => by have := (hR2.own g hg).1; omega)
        clear hw2 hown f3 h2 hR2 hA2 hB2 hki a0 a1 a2 a3 a4 a5 a6 a7 lab hkg hvw
        generalize l.filter (thrB rt) = kl at *
        generalize (l.filter fun x => !thrB rt x) = L at *
        go_wp2_with fail
        refine (keys_eq ka kb kl.length kc kc2 kl w3 hk3 hit (by omega)).mono ?_
        rintro e wt ⟨rfl, b4⟩
        have hS := hS3.below b4
        have hR := hR3.below b4
        have hBt := hB3.of b4
        have hAc := (b4.block _ (lt_heap hAct)).trans hAct
        clear hS3 hR3 hB3 hAct b4 hk3 hit
        have lt2 := hS.lt
        have hab := lt_heap hAc
        have y1 : wt.cell? ⟨ab, 1, none⟩ = some (.int .i64 k0) := (cell_of_row _ _ 1 _ _ _ hAc).trans rfl
        have y2 : wt.cell? ⟨ab, 2, none⟩ = some (.int .i64 k1) := (cell_of_row _ _ 2 _ _ _ hAc).trans rfl
        have hl32 := hPL.1
        obtain ⟨X, hX⟩ : ∃ X, getX L k0 k1 = X := ⟨_, rfl⟩
        obtain ⟨G, hG⟩ : ∃ G, getB L k0 k1 = G := ⟨_, rfl⟩
        have hg1 := sh_get k0 k1 wt hS (by omega)
        rw [hX, hG] at hg1
        go_wp2_with fail
        refine hg1.mono ?_
        rintro e w5 ⟨rfl, b5⟩
        have hS5 := (hS.below b5).alloc (ob := .cells #[.int .i64 X.ep, .int .i64 X.ef, .int .i64 X.er] 32)
        have hR5 := (hR.below b5).alloc (ob := .cells #[.int .i64 X.ep, .int .i64 X.ef, .int .i64 X.er] 32)
        have hAc5 := heap_alloc (o' := .cells #[.int .i64 X.ep, .int .i64 X.ef, .int .i64 X.er] 32) ((b5.block _ hab).trans hAc)
        have hB5 := (hBt.of b5).alloc (o := .cells #[.int .i64 X.ep, .int .i64 X.ef, .int .i64 X.er] 32)
        have hE5 := Go.heap_alloc_new w5 (.cells #[.int .i64 X.ep, .int .i64 X.ef, .int .i64 X.er] 32)
        obtain ⟨w6, hw6⟩ : ∃ w6, w5.alloc (.cells #[.int .i64 X.ep, .int .i64 X.ef, .int .i64 X.er] 32) = w6 := ⟨_, rfl⟩
        rw [hw6] at hS5 hR5 hAc5 hB5 hE5
        clear hg1 y1 y2 hS hR hAc hBt b5 hab lt2
        have hab := lt_heap hAc5
        have y1 : w6.cell? ⟨ab, 1, none⟩ = some (.int .i64 k0) := (cell_of_row _ _ 1 _ _ _ hAc5).trans rfl
        have y2 : w6.cell? ⟨ab, 2, none⟩ = some (.int .i64 k1) := (cell_of_row _ _ 2 _ _ _ hAc5).trans rfl
        have hg2 := rf_get k0 k1 w6 hR5 (by omega)
        rw [hX, hG] at hg2
        clear hX hG
        go_wp2_with fail
        clear hw6
        generalize w5.heap.size = ea at *
        refine hg2.mono ?_
        rintro e w7 ⟨rfl, b7⟩
        have hS7 := (hS5.below b7).alloc (ob := .cells #[.int .i64 X.ep, .int .i64 X.ef, .int .i64 X.er] 32)
        have hR7 := (hR5.below b7).alloc (ob := .cells #[.int .i64 X.ep, .int .i64 X.ef, .int .i64 X.er] 32)
        have hAc7 := heap_alloc (o' := .cells #[.int .i64 X.ep, .int .i64 X.ef, .int .i64 X.er] 32) ((b7.block _ hab).trans hAc5)
        have hE7 := heap_alloc (o' := .cells #[.int .i64 X.ep, .int .i64 X.ef, .int .i64 X.er] 32) ((b7.block _ (lt_heap hE5)).trans hE5)
        have hB7 := (hB5.of b7).alloc (o := .cells #[.int .i64 X.ep, .int .i64 X.ef, .int .i64 X.er] 32)
        have hF7 := Go.heap_alloc_new w7 (.cells #[.int .i64 X.ep, .int .i64 X.ef, .int .i64 X.er] 32)
        obtain ⟨wh, hwh⟩ : ∃ wh, w7.alloc (.cells #[.int .i64 X.ep, .int .i64 X.ef, .int .i64 X.er] 32) = wh := ⟨_, rfl⟩
        rw [hwh] at hS7 hR7 hAc7 hE7 hB7 hF7
        clear hg2 y1 y2 hS5 hR5 hAc5 hB5 hE5 b7 hab
        obtain ⟨va, vc, hv⟩ := ownsRow_shape hR7.2
        have x1 := hS7.lt
        have x2 := hR7.lt
        have x3 := lt_heap hAc7
        have x4 := lt_heap hE7
        have x5 := lt_heap hF7
        have z0 := rfField _ hR7
        rw [hv] at z0
        have y3 : wh.cell? ⟨ab, 3, none⟩ = some (.int .i64 e0) := (cell_of_row _ _ 3 _ _ _ hAc7).trans rfl
        have y6 : wh.cell? ⟨ab, 6, none⟩ = some (.int .i64 rt) := (cell_of_row _ _ 6 _ _ _ hAc7).trans rfl
        have s0 : wh.cell? ⟨ea, 0, none⟩ = some (.int .i64 X.ep) := (cell_of_row _ _ 0 _ _ _ hE7).trans rfl
        have s1 : wh.cell? ⟨ea, 1, none⟩ = some (.int .i64 X.ef) := (cell_of_row _ _ 1 _ _ _ hE7).trans rfl
        have s2 : wh.cell? ⟨ea, 2, none⟩ = some (.int .i64 X.er) := (cell_of_row _ _ 2 _ _ _ hE7).trans rfl
        have q0 : wh.cell? ⟨w7.heap.size, 0, none⟩ = some (.int .i64 X.ep) := (cell_of_row _ _ 0 _ _ _ hF7).trans rfl
        have q1 : wh.cell? ⟨w7.heap.size, 1, none⟩ = some (.int .i64 X.ef) := (cell_of_row _ _ 1 _ _ _ hF7).trans rfl
        have q2 : wh.cell? ⟨w7.heap.size, 2, none⟩ = some (.int .i64 X.er) := (cell_of_row _ _ 2 _ _ _ hF7).trans rfl
        have nE := neq_entS X.ep X.ef X.er
        have nG := neq_boolS G
        have nT1 := neq_boolS (tableB L rt)
        have nT2 := neq_boolS (tableB L e0)
        clear hE7 hF7 hAc7
        go_wp2_with fail
        clear hwh
        generalize w7.heap.size = fa at *
        (refine wp_region_line 50 (fun x => ∃ y : LatF wh.heap.size wh, x = laterF wh.heap.size wh y) (by kernel_rfl) rfl ?_)
        (refine wpSeg (0 :: 1 :: 2 :: 3 :: 4 :: 5 :: 6 :: 7 :: 8 :: 9 :: 11 :: 12 :: 13 :: 14 :: 15 :: []) 35 (l := _) rfl (by simp only [List.filterMap_cons, List.filterMap_nil, List.getElem?_toArray, List.getElem?_cons_succ, List.getElem?_cons_zero]; rfl) (by kernel_rfl) (fun _ _ _ _ _ h => h) laterF_drew ?_; show wpQuiet _ _ _ _ (_ :: _ :: _ :: _ :: _ :: _ :: _ :: _ :: _ :: _ :: _ :: _ :: _ :: _ :: _ :: []) _; (repeat (go_big_quiet_step (fail))); refine wpQuiet_nil ?_; show wpAnyH _ _ _ _ _ _ _ _ _)
        (refine wpOne 10 34 rfl rfl (by kernel_rfl) ?_; intro K hK; go_simp)
        have hSd : ShIn wh.drew b vs L := hS7
        have hRd : RfIn wh.drew b2 vr L := hR7
        refine (sh_len _ hSd).mono ?_
        rintro e w8 ⟨rfl, rfl⟩
        (refine hK.out _ _ _ (fun _ h => h) (laterF_drew) ?_; clear hK K)
        (refine wpSeg (16 :: 17 :: 18 :: 19 :: 21 :: []) 29 (l := _) rfl (by simp only [List.filterMap_cons, List.filterMap_nil, List.getElem?_toArray, List.getElem?_cons_succ, List.getElem?_cons_zero]; rfl) (by kernel_rfl) (fun _ _ _ _ _ h => h) laterF_drew ?_; show wpQuiet _ _ _ _ (_ :: _ :: _ :: _ :: _ :: []) _; (repeat (go_big_quiet_step (fail))); refine wpQuiet_nil ?_; show wpAnyH _ _ _ _ _ _ _ _ _)
        (refine wpOne 20 28 rfl rfl (by kernel_rfl) ?_; intro K hK; go_simp)
        refine (sh_list _ hSd (by omega)).mono ?_
        rintro e w9 ⟨u, rfl, hown1, b9⟩
        obtain ⟨ua, uc, rfl, _, _, hi1, _⟩ := items_of_owned kpEnc_length hown1
        have hb9 : Below wh.heap.size wh w9 := (Below.refl wh.heap.size wh).drew.trans b9
        (refine hK.out _ _ _ (fun _ h => h) (laterF_of hb9) ?_; clear hK K)
        (refine wpOne 22 27 rfl rfl (by kernel_rfl) ?_; intro K hK; go_simp)
        refine (rf_list _ (hRd.below b9) (by omega)).mono ?_
        rintro e w10 ⟨u, rfl, hown2, b10⟩
        obtain ⟨ub, uc2, rfl, _, _, hi2, _⟩ := items_of_owned kpEnc_length hown2
        have hb10 : Below wh.heap.size wh w10 := hb9.trans (b10.mono hb9.size)
        have hi1' := hi1.below b10
        (refine hK.out _ _ _ (fun _ h => h) (laterF_of hb10) ?_; clear hK K)
        (refine wpOne 23 26 rfl rfl (by kernel_rfl) ?_; intro K hK; go_simp)
        refine (same_eq ua ub L.length uc uc2 L w10 hi1' hi2 (by omega)).mono ?_
        rintro e w11 ⟨rfl, b11⟩
        have hb11 : Below wh.heap.size wh w11 := hb10.trans (b11.mono hb10.size)
        have hS11 := hS7.below hb11
        have hR11 := hR7.below hb11
        have hB11 := hB7.of hb11
        clear hown1 hown2 hi1 hi2 hi1' b9 b10 b11 hb9 hb10 hSd hRd
        (refine hK.out _ _ _ (fun _ h => h) (laterF_of hb11) ?_; clear hK K)
        (refine wpSeg (24 :: 25 :: 26 :: 27 :: 28 :: 29 :: 31 :: 32 :: 33 :: []) 17 (l := _) rfl (by simp only [List.filterMap_cons, List.filterMap_nil, List.getElem?_toArray, List.getElem?_cons_succ, List.getElem?_cons_zero]; rfl) (by kernel_rfl) (fun _ _ _ _ _ h => h) (laterF_of hb11) ?_; show wpQuiet _ _ _ _ (_ :: _ :: _ :: _ :: _ :: _ :: _ :: _ :: _ :: []) _; (repeat (go_big_quiet_step (fail))); refine wpQuiet_nil ?_; show wpAnyH _ _ _ _ _ _ _ _ _)
        (refine wpOne 30 16 rfl rfl (by kernel_rfl) ?_; intro K hK; go_simp)
        refine (sh_table rt _ hS11 (by omega)).mono ?_
        rintro e w12 ⟨rfl, rfl⟩
        (refine hK.out _ _ _ (fun _ h => h) (laterF_of hb11) ?_; clear hK K)
        (refine wpOne 34 15 rfl rfl (by kernel_rfl) ?_; intro K hK; go_simp)
        refine (rf_table rt _ hR11 (by omega)).mono ?_
        rintro e w12 ⟨rfl, rfl⟩
        (refine hK.out _ _ _ (fun _ h => h) (laterF_of hb11) ?_; clear hK K)
        (refine wpSeg (35 :: 36 :: 37 :: 38 :: 39 :: 40 :: 41 :: 43 :: 44 :: 45 :: 46 :: []) 4 (l := _) rfl (by simp only [List.filterMap_cons, List.filterMap_nil, List.getElem?_toArray, List.getElem?_cons_succ, List.getElem?_cons_zero]; rfl) (by kernel_rfl) (fun _ _ _ _ _ h => h) (laterF_of hb11) ?_; show wpQuiet _ _ _ _ (_ :: _ :: _ :: _ :: _ :: _ :: _ :: _ :: _ :: _ :: _ :: []) _; (repeat (go_big_quiet_step (fail))); refine wpQuiet_nil ?_; show wpAnyH _ _ _ _ _ _ _ _ _)
        (refine wpOne 42 3 rfl rfl (by kernel_rfl) ?_; intro K hK; go_simp)
        refine (sh_table e0 _ hS11 (by omega)).mono ?_
        rintro e w12 ⟨rfl, rfl⟩
        (refine hK.out _ _ _ (fun _ h => h) (laterF_of hb11) ?_; clear hK K)
        (refine wpOne 47 2 rfl rfl (by kernel_rfl) ?_; intro K hK; go_simp)
        refine (rf_table e0 _ hR11 (by omega)).mono ?_
        rintro e w12 ⟨rfl, rfl⟩
        (refine hK.out _ _ _ (fun _ h => h) (laterF_of hb11) ?_; clear hK K)
        (refine wpSeg (48 :: 49 :: []) 0 (l := _) rfl (by simp only [List.filterMap_cons, List.filterMap_nil, List.getElem?_toArray, List.getElem?_cons_succ, List.getElem?_cons_zero]; rfl) (by kernel_rfl) (fun _ _ _ _ _ h => h) (laterF_of hb11) ?_; show wpQuiet _ _ _ _ (_ :: _ :: []) _; (repeat (go_big_quiet_step (fail))); refine wpQuiet_nil ?_; show wpAnyH _ _ _ _ _ _ _ _ _)
        refine wpAnyH_done (by kernel_rfl) ?_ _
        clear z0 y3 y6 s0 s1 s2 q0 q1 q2 hS7 hR7 hB7
        go_wp2
        go_roundw
        case rel => exact ⟨i + 1, vs, vr, L, by omega, by go_num, hS11, hR11, hPL, hB11⟩
        case measure => simp [intOf]; omega
      by_cases c1 : kd = 1
      · subst c1
        clear c0
        have hL : doL l ⟨1, ⟨k0, k1, e0, e1, e2, rt, lf⟩⟩ = l.filter fun x => !goneB rt x := by rw [doL, if_neg (by simp), if_pos rfl]
        have hK : doK l ⟨1, ⟨k0, k1, e0, e1, e2, rt, lf⟩⟩ = l.filter (goneB rt) := by rw [doK, if_neg (by simp), if_pos rfl]
        have hN : doN l ⟨1, ⟨k0, k1, e0, e1, e2, rt, lf⟩⟩ = 0 := by rw [doN, if_neg (by simp), if_pos rfl]
        have hks := hTo.ks
        rw [hK] at hks
        rw [hL] at h2 hPL
        rw [hN]
        obtain ⟨ka, kc, rfl, hki, hkg⟩ := hks
        clear hL hK hN hTo
        have hf := List.length_filter_le (goneB rt) l
        have hw2 := rf_wrote rt true w2 hR2 (by omega)
        rw [tooB_true] at hw2
        go_wp2_with fail
        refine hw2.mono ?_
        rintro e w3 ⟨u, vr, rfl, hown, hR3, f3⟩
        have hk3 := hki.frmB f3 hkg hbw hvw
        obtain ⟨kb, kc2, rfl, _, _, hit, _⟩ := items_of_owned kyEnc_length hown
        have hAct := f3.other hR2 hA2 (by decide) (by decide)
        have hS3 := h2.frm hR2 f3 (by decide) (by decide) (by decide) (by decide)
        have hB3 := hB2.frm f3 (by omega) (fun g hg => by have := (hR2.own g hg).1; omega)
        clear hw2 hown f3 h2 hR2 hA2 hB2 hki a0 a1 a2 a3 a4 a5 a6 a7 lab hkg hvw
        generalize l.filter (goneB rt) = kl at *
        generalize (l.filter fun x => !goneB rt x) = L at *
        go_wp2_with fail
        refine (keys_eq ka kb kl.length kc kc2 kl w3 hk3 hit (by omega)).mono ?_
        rintro e wt ⟨rfl, b4⟩
        have hS := hS3.below b4
        have hR := hR3.below b4
        have hBt := hB3.of b4
        have hAc := (b4.block _ (lt_heap hAct)).trans hAct
        clear hS3 hR3 hB3 hAct b4 hk3 hit
        have lt2 := hS.lt
        have hab := lt_heap hAc
        have y1 : wt.cell? ⟨ab, 1, none⟩ = some (.int .i64 k0) := (cell_of_row _ _ 1 _ _ _ hAc).trans rfl
        have y2 : wt.cell? ⟨ab, 2, none⟩ = some (.int .i64 k1) := (cell_of_row _ _ 2 _ _ _ hAc).trans rfl
        have hl32 := hPL.1
        obtain ⟨X, hX⟩ : ∃ X, getX L k0 k1 = X := ⟨_, rfl⟩
        obtain ⟨G, hG⟩ : ∃ G, getB L k0 k1 = G := ⟨_, rfl⟩
        have hg1 := sh_get k0 k1 wt hS (by omega)
        rw [hX, hG] at hg1
        go_wp2_with fail
        refine hg1.mono ?_
        rintro e w5 ⟨rfl, b5⟩
        have hS5 := (hS.below b5).alloc (ob := .cells #[.int .i64 X.ep, .int .i64 X.ef, .int .i64 X.er] 32)
        have hR5 := (hR.below b5).alloc (ob := .cells #[.int .i64 X.ep, .int .i64 X.ef, .int .i64 X.er] 32)
        have hAc5 := heap_alloc (o' := .cells #[.int .i64 X.ep, .int .i64 X.ef, .int .i64 X.er] 32) ((b5.block _ hab).trans hAc)
        have hB5 := (hBt.of b5).alloc (o := .cells #[.int .i64 X.ep, .int .i64 X.ef, .int .i64 X.er] 32)
        have hE5 := Go.heap_alloc_new w5 (.cells #[.int .i64 X.ep, .int .i64 X.ef, .int .i64 X.er] 32)
        obtain ⟨w6, hw6⟩ : ∃ w6, w5.alloc (.cells #[.int .i64 X.ep, .int .i64 X.ef, .int .i64 X.er] 32) = w6 := ⟨_, rfl⟩
        rw [hw6] at hS5 hR5 hAc5 hB5 hE5
        clear hg1 y1 y2 hS hR hAc hBt b5 hab lt2
        have hab := lt_heap hAc5
        have y1 : w6.cell? ⟨ab, 1, none⟩ = some (.int .i64 k0) := (cell_of_row _ _ 1 _ _ _ hAc5).trans rfl
        have y2 : w6.cell? ⟨ab, 2, none⟩ = some (.int .i64 k1) := (cell_of_row _ _ 2 _ _ _ hAc5).trans rfl
        have hg2 := rf_get k0 k1 w6 hR5 (by omega)
        rw [hX, hG] at hg2
        clear hX hG
        go_wp2_with fail
        clear hw6
        generalize w5.heap.size = ea at *
        refine hg2.mono ?_
        rintro e w7 ⟨rfl, b7⟩
        have hS7 := (hS5.below b7).alloc (ob := .cells #[.int .i64 X.ep, .int .i64 X.ef, .int .i64 X.er] 32)
        have hR7 := (hR5.below b7).alloc (ob := .cells #[.int .i64 X.ep, .int .i64 X.ef, .int .i64 X.er] 32)
        have hAc7 := heap_alloc (o' := .cells #[.int .i64 X.ep, .int .i64 X.ef, .int .i64 X.er] 32) ((b7.block _ hab).trans hAc5)
        have hE7 := heap_alloc (o' := .cells #[.int .i64 X.ep, .int .i64 X.ef, .int .i64 X.er] 32) ((b7.block _ (lt_heap hE5)).trans hE5)
        have hB7 := (hB5.of b7).alloc (o := .cells #[.int .i64 X.ep, .int .i64 X.ef, .int .i64 X.er] 32)
        have hF7 := Go.heap_alloc_new w7 (.cells #[.int .i64 X.ep, .int .i64 X.ef, .int .i64 X.er] 32)
        obtain ⟨wh, hwh⟩ : ∃ wh, w7.alloc (.cells #[.int .i64 X.ep, .int .i64 X.ef, .int .i64 X.er] 32) = wh := ⟨_, rfl⟩
        rw [hwh] at hS7 hR7 hAc7 hE7 hB7 hF7
        clear hg2 y1 y2 hS5 hR5 hAc5 hB5 hE5 b7 hab
        obtain ⟨va, vc, hv⟩ := ownsRow_shape hR7.2
        have x1 := hS7.lt
        have x2 := hR7.lt
        have x3 := lt_heap hAc7
        have x4 := lt_heap hE7
        have x5 := lt_heap hF7
        have z0 := rfField _ hR7
        rw [hv] at z0
        have y3 : wh.cell? ⟨ab, 3, none⟩ = some (.int .i64 e0) := (cell_of_row _ _ 3 _ _ _ hAc7).trans rfl
        have y6 : wh.cell? ⟨ab, 6, none⟩ = some (.int .i64 rt) := (cell_of_row _ _ 6 _ _ _ hAc7).trans rfl
        have s0 : wh.cell? ⟨ea, 0, none⟩ = some (.int .i64 X.ep) := (cell_of_row _ _ 0 _ _ _ hE7).trans rfl
        have s1 : wh.cell? ⟨ea, 1, none⟩ = some (.int .i64 X.ef) := (cell_of_row _ _ 1 _ _ _ hE7).trans rfl
        have s2 : wh.cell? ⟨ea, 2, none⟩ = some (.int .i64 X.er) := (cell_of_row _ _ 2 _ _ _ hE7).trans rfl
        have q0 : wh.cell? ⟨w7.heap.size, 0, none⟩ = some (.int .i64 X.ep) := (cell_of_row _ _ 0 _ _ _ hF7).trans rfl
        have q1 : wh.cell? ⟨w7.heap.size, 1, none⟩ = some (.int .i64 X.ef) := (cell_of_row _ _ 1 _ _ _ hF7).trans rfl
        have q2 : wh.cell? ⟨w7.heap.size, 2, none⟩ = some (.int .i64 X.er) := (cell_of_row _ _ 2 _ _ _ hF7).trans rfl
        have nE := neq_entS X.ep X.ef X.er
        have nG := neq_boolS G
        have nT1 := neq_boolS (tableB L rt)
        have nT2 := neq_boolS (tableB L e0)
        clear hE7 hF7 hAc7
        go_wp2_with fail
        clear hwh
        generalize w7.heap.size = fa at *
        (refine wp_region_line 50 (fun x => ∃ y : LatF wh.heap.size wh, x = laterF wh.heap.size wh y) (by kernel_rfl) rfl ?_)
        (refine wpSeg (0 :: 1 :: 2 :: 3 :: 4 :: 5 :: 6 :: 7 :: 8 :: 9 :: 11 :: 12 :: 13 :: 14 :: 15 :: []) 35 (l := _) rfl (by simp only [List.filterMap_cons, List.filterMap_nil, List.getElem?_toArray, List.getElem?_cons_succ, List.getElem?_cons_zero]; rfl) (by kernel_rfl) (fun _ _ _ _ _ h => h) laterF_drew ?_; show wpQuiet _ _ _ _ (_ :: _ :: _ :: _ :: _ :: _ :: _ :: _ :: _ :: _ :: _ :: _ :: _ :: _ :: _ :: []) _; (repeat (go_big_quiet_step (fail))); refine wpQuiet_nil ?_; show wpAnyH _ _ _ _ _ _ _ _ _)
        (refine wpOne 10 34 rfl rfl (by kernel_rfl) ?_; intro K hK; go_simp)
        have hSd : ShIn wh.drew b vs L := hS7
        have hRd : RfIn wh.drew b2 vr L := hR7
        refine (sh_len _ hSd).mono ?_
        rintro e w8 ⟨rfl, rfl⟩
        (refine hK.out _ _ _ (fun _ h => h) (laterF_drew) ?_; clear hK K)
        (refine wpSeg (16 :: 17 :: 18 :: 19 :: 21 :: []) 29 (l := _) rfl (by simp only [List.filterMap_cons, List.filterMap_nil, List.getElem?_toArray, List.getElem?_cons_succ, List.getElem?_cons_zero]; rfl) (by kernel_rfl) (fun _ _ _ _ _ h => h) laterF_drew ?_; show wpQuiet _ _ _ _ (_ :: _ :: _ :: _ :: _ :: []) _; (repeat (go_big_quiet_step (fail))); refine wpQuiet_nil ?_; show wpAnyH _ _ _ _ _ _ _ _ _)
        (refine wpOne 20 28 rfl rfl (by kernel_rfl) ?_; intro K hK; go_simp)
        refine (sh_list _ hSd (by omega)).mono ?_
        rintro e w9 ⟨u, rfl, hown1, b9⟩
        obtain ⟨ua, uc, rfl, _, _, hi1, _⟩ := items_of_owned kpEnc_length hown1
        have hb9 : Below wh.heap.size wh w9 := (Below.refl wh.heap.size wh).drew.trans b9
        (refine hK.out _ _ _ (fun _ h => h) (laterF_of hb9) ?_; clear hK K)
        (refine wpOne 22 27 rfl rfl (by kernel_rfl) ?_; intro K hK; go_simp)
        refine (rf_list _ (hRd.below b9) (by omega)).mono ?_
        rintro e w10 ⟨u, rfl, hown2, b10⟩
        obtain ⟨ub, uc2, rfl, _, _, hi2, _⟩ := items_of_owned kpEnc_length hown2
        have hb10 : Below wh.heap.size wh w10 := hb9.trans (b10.mono hb9.size)
        have hi1' := hi1.below b10
        (refine hK.out _ _ _ (fun _ h => h) (laterF_of hb10) ?_; clear hK K)
        (refine wpOne 23 26 rfl rfl (by kernel_rfl) ?_; intro K hK; go_simp)
        refine (same_eq ua ub L.length uc uc2 L w10 hi1' hi2 (by omega)).mono ?_
        rintro e w11 ⟨rfl, b11⟩
        have hb11 : Below wh.heap.size wh w11 := hb10.trans (b11.mono hb10.size)
        have hS11 := hS7.below hb11
        have hR11 := hR7.below hb11
        have hB11 := hB7.of hb11
        clear hown1 hown2 hi1 hi2 hi1' b9 b10 b11 hb9 hb10 hSd hRd
        (refine hK.out _ _ _ (fun _ h => h) (laterF_of hb11) ?_; clear hK K)
        (refine wpSeg (24 :: 25 :: 26 :: 27 :: 28 :: 29 :: 31 :: 32 :: 33 :: []) 17 (l := _) rfl (by simp only [List.filterMap_cons, List.filterMap_nil, List.getElem?_toArray, List.getElem?_cons_succ, List.getElem?_cons_zero]; rfl) (by kernel_rfl) (fun _ _ _ _ _ h => h) (laterF_of hb11) ?_; show wpQuiet _ _ _ _ (_ :: _ :: _ :: _ :: _ :: _ :: _ :: _ :: _ :: []) _; (repeat (go_big_quiet_step (fail))); refine wpQuiet_nil ?_; show wpAnyH _ _ _ _ _ _ _ _ _)
        (refine wpOne 30 16 rfl rfl (by kernel_rfl) ?_; intro K hK; go_simp)
        refine (sh_table rt _ hS11 (by omega)).mono ?_
        rintro e w12 ⟨rfl, rfl⟩
        (refine hK.out _ _ _ (fun _ h => h) (laterF_of hb11) ?_; clear hK K)
        (refine wpOne 34 15 rfl rfl (by kernel_rfl) ?_; intro K hK; go_simp)
        refine (rf_table rt _ hR11 (by omega)).mono ?_
        rintro e w12 ⟨rfl, rfl⟩
        (refine hK.out _ _ _ (fun _ h => h) (laterF_of hb11) ?_; clear hK K)
        (refine wpSeg (35 :: 36 :: 37 :: 38 :: 39 :: 40 :: 41 :: 43 :: 44 :: 45 :: 46 :: []) 4 (l := _) rfl (by simp only [List.filterMap_cons, List.filterMap_nil, List.getElem?_toArray, List.getElem?_cons_succ, List.getElem?_cons_zero]; rfl) (by kernel_rfl) (fun _ _ _ _ _ h => h) (laterF_of hb11) ?_; show wpQuiet _ _ _ _ (_ :: _ :: _ :: _ :: _ :: _ :: _ :: _ :: _ :: _ :: _ :: []) _; (repeat (go_big_quiet_step (fail))); refine wpQuiet_nil ?_; show wpAnyH _ _ _ _ _ _ _ _ _)
        (refine wpOne 42 3 rfl rfl (by kernel_rfl) ?_; intro K hK; go_simp)
        refine (sh_table e0 _ hS11 (by omega)).mono ?_
        rintro e w12 ⟨rfl, rfl⟩
        (refine hK.out _ _ _ (fun _ h => h) (laterF_of hb11) ?_; clear hK K)
        (refine wpOne 47 2 rfl rfl (by kernel_rfl) ?_; intro K hK; go_simp)
        refine (rf_table e0 _ hR11 (by omega)).mono ?_
        rintro e w12 ⟨rfl, rfl⟩
        (refine hK.out _ _ _ (fun _ h => h) (laterF_of hb11) ?_; clear hK K)
        (refine wpSeg (48 :: 49 :: []) 0 (l := _) rfl (by simp only [List.filterMap_cons, List.filterMap_nil, List.getElem?_toArray, List.getElem?_cons_succ, List.getElem?_cons_zero]; rfl) (by kernel_rfl) (fun _ _ _ _ _ h => h) (laterF_of hb11) ?_; show wpQuiet _ _ _ _ (_ :: _ :: []) _; (repeat (go_big_quiet_step (fail))); refine wpQuiet_nil ?_; show wpAnyH _ _ _ _ _ _ _ _ _)
        refine wpAnyH_done (by kernel_rfl) ?_ _
        clear z0 y3 y6 s0 s1 s2 q0 q1 q2 hS7 hR7 hB7
        go_wp2
        go_roundw
        case rel => exact ⟨i + 1, vs, vr, L, by omega, by go_num, hS11, hR11, hPL, hB11⟩
        case measure => simp [intOf]; omega
      by_cases c2 : kd = 2
      · subst c2
        clear c0 c1
        have hL : doL l ⟨2, ⟨k0, k1, e0, e1, e2, rt, lf⟩⟩ = [] := by rw [doL, if_neg (by simp), if_neg (by simp), if_pos rfl]
        have hN : doN l ⟨2, ⟨k0, k1, e0, e1, e2, rt, lf⟩⟩ = l.length := by rw [doN, if_neg (by simp), if_neg (by simp), if_pos rfl]
        rw [hL] at h2 hPL
        rw [hN]
        clear hL hN hTo
        obtain ⟨va0, vc0, hv0⟩ := ownsRow_shape hR2.2
        have g0 := rfField _ hR2
        have gz := hR2.free 0
        have gl := hR2.lt
        obtain ⟨hR, f3⟩ := rf_stored (u := .slice none 0 0) (L := []) hR2 (Bel.refl w2) (World.ownsRow_nil _ _ _ _)
        have hAct := f3.other hR2 hA2 (by decide) (by decide)
        have hS3 := h2.frm hR2 f3 (by decide) (by decide) (by decide) (by decide)
        have hB3 := hB2.frm f3 (by omega) (fun g hg => by have := (hR2.own g hg).1; omega)
        rw [hv0] at g0
        obtain ⟨wt, hwt⟩ : ∃ wt, w2.setCell ⟨b2, 0, none⟩ (.slice none 0 0) = wt := ⟨_, rfl⟩
        rw [hwt] at hR hAct hS3 hB3
        obtain ⟨vr, hvr⟩ : ∃ u, Value.slice none 0 0 = u := ⟨_, rfl⟩
        rw [hvr] at hR
        obtain ⟨L, hL⟩ : ∃ L : List ln, [] = L := ⟨_, rfl⟩
        rw [hL] at hR hS3 hPL
        clear hvr hL f3 h2 hR2 hA2 hB2 hvw hv0
        have hS := hS3
        have hBt := hB3
        have hAc := hAct
        clear hS3 hB3 hAct
        have lt2 := hS.lt
        have hab := lt_heap hAc
        have y1 : wt.cell? ⟨ab, 1, none⟩ = some (.int .i64 k0) := (cell_of_row _ _ 1 _ _ _ hAc).trans rfl
        have y2 : wt.cell? ⟨ab, 2, none⟩ = some (.int .i64 k1) := (cell_of_row _ _ 2 _ _ _ hAc).trans rfl
        have hl32 := hPL.1
        obtain ⟨X, hX⟩ : ∃ X, getX L k0 k1 = X := ⟨_, rfl⟩
        obtain ⟨G, hG⟩ : ∃ G, getB L k0 k1 = G := ⟨_, rfl⟩
        have hg1 := sh_get k0 k1 wt hS (by omega)
        rw [hX, hG] at hg1
        go_wp2_with fail
        refine hg1.mono ?_
        rintro e w5 ⟨rfl, b5⟩
        have hS5 := (hS.below b5).alloc (ob := .cells #[.int .i64 X.ep, .int .i64 X.ef, .int .i64 X.er] 32)
        have hR5 := (hR.below b5).alloc (ob := .cells #[.int .i64 X.ep, .int .i64 X.ef, .int .i64 X.er] 32)
        have hAc5 := heap_alloc (o' := .cells #[.int .i64 X.ep, .int .i64 X.ef, .int .i64 X.er] 32) ((b5.block _ hab).trans hAc)
        have hB5 := (hBt.of b5).alloc (o := .cells #[.int .i64 X.ep, .int .i64 X.ef, .int .i64 X.er] 32)
        have hE5 := Go.heap_alloc_new w5 (.cells #[.int .i64 X.ep, .int .i64 X.ef, .int .i64 X.er] 32)
        obtain ⟨w6, hw6⟩ : ∃ w6, w5.alloc (.cells #[.int .i64 X.ep, .int .i64 X.ef, .int .i64 X.er] 32) = w6 := ⟨_, rfl⟩
        rw [hw6] at hS5 hR5 hAc5 hB5 hE5
        clear hg1 y1 y2 hS hR hAc hBt b5 hab lt2
        have hab := lt_heap hAc5
        have y1 : w6.cell? ⟨ab, 1, none⟩ = some (.int .i64 k0) := (cell_of_row _ _ 1 _ _ _ hAc5).trans rfl
        have y2 : w6.cell? ⟨ab, 2, none⟩ = some (.int .i64 k1) := (cell_of_row _ _ 2 _ _ _ hAc5).trans rfl
        have hg2 := rf_get k0 k1 w6 hR5 (by omega)
        rw [hX, hG] at hg2
        clear hX hG
        go_wp2_with fail
        clear hw6
        generalize w5.heap.size = ea at *
        refine hg2.mono ?_
        rintro e w7 ⟨rfl, b7⟩
        have hS7 := (hS5.below b7).alloc (ob := .cells #[.int .i64 X.ep, .int .i64 X.ef, .int .i64 X.er] 32)
        have hR7 := (hR5.below b7).alloc (ob := .cells #[.int .i64 X.ep, .int .i64 X.ef, .int .i64 X.er] 32)
        have hAc7 := heap_alloc (o' := .cells #[.int .i64 X.ep, .int .i64 X.ef, .int .i64 X.er] 32) ((b7.block _ hab).trans hAc5)
        have hE7 := heap_alloc (o' := .cells #[.int .i64 X.ep, .int .i64 X.ef, .int .i64 X.er] 32) ((b7.block _ (lt_heap hE5)).trans hE5)
        have hB7 := (hB5.of b7).alloc (o := .cells #[.int .i64 X.ep, .int .i64 X.ef, .int .i64 X.er] 32)
        have hF7 := Go.heap_alloc_new w7 (.cells #[.int .i64 X.ep, .int .i64 X.ef, .int .i64 X.er] 32)
        obtain ⟨wh, hwh⟩ : ∃ wh, w7.alloc (.cells #[.int .i64 X.ep, .int .i64 X.ef, .int .i64 X.er] 32) = wh := ⟨_, rfl⟩
        rw [hwh] at hS7 hR7 hAc7 hE7 hB7 hF7
        clear hg2 y1 y2 hS5 hR5 hAc5 hB5 hE5 b7 hab
        obtain ⟨va, vc, hv⟩ := ownsRow_shape hR7.2
        have x1 := hS7.lt
        have x2 := hR7.lt
        have x3 := lt_heap hAc7
        have x4 := lt_heap hE7
        have x5 := lt_heap hF7
        have z0 := rfField _ hR7
        rw [hv] at z0
        have y3 : wh.cell? ⟨ab, 3, none⟩ = some (.int .i64 e0) := (cell_of_row _ _ 3 _ _ _ hAc7).trans rfl
        have y6 : wh.cell? ⟨ab, 6, none⟩ = some (.int .i64 rt) := (cell_of_row _ _ 6 _ _ _ hAc7).trans rfl
        have s0 : wh.cell? ⟨ea, 0, none⟩ = some (.int .i64 X.ep) := (cell_of_row _ _ 0 _ _ _ hE7).trans rfl
        have s1 : wh.cell? ⟨ea, 1, none⟩ = some (.int .i64 X.ef) := (cell_of_row _ _ 1 _ _ _ hE7).trans rfl
        have s2 : wh.cell? ⟨ea, 2, none⟩ = some (.int .i64 X.er) := (cell_of_row _ _ 2 _ _ _ hE7).trans rfl
        have q0 : wh.cell? ⟨w7.heap.size, 0, none⟩ = some (.int .i64 X.ep) := (cell_of_row _ _ 0 _ _ _ hF7).trans rfl
        have q1 : wh.cell? ⟨w7.heap.size, 1, none⟩ = some (.int .i64 X.ef) := (cell_of_row _ _ 1 _ _ _ hF7).trans rfl
        have q2 : wh.cell? ⟨w7.heap.size, 2, none⟩ = some (.int .i64 X.er) := (cell_of_row _ _ 2 _ _ _ hF7).trans rfl
        have nE := neq_entS X.ep X.ef X.er
        have nG := neq_boolS G
        have nT1 := neq_boolS (tableB L rt)
        have nT2 := neq_boolS (tableB L e0)
        clear hE7 hF7 hAc7
        go_wp2_with fail
        clear hwh
        generalize w7.heap.size = fa at *
        (refine wp_region_line 50 (fun x => ∃ y : LatF wh.heap.size wh, x = laterF wh.heap.size wh y) (by kernel_rfl) rfl ?_)
        (refine wpSeg (0 :: 1 :: 2 :: 3 :: 4 :: 5 :: 6 :: 7 :: 8 :: 9 :: 11 :: 12 :: 13 :: 14 :: 15 :: []) 35 (l := _) rfl (by simp only [List.filterMap_cons, List.filterMap_nil, List.getElem?_toArray, List.getElem?_cons_succ, List.getElem?_cons_zero]; rfl) (by kernel_rfl) (fun _ _ _ _ _ h => h) laterF_drew ?_; show wpQuiet _ _ _ _ (_ :: _ :: _ :: _ :: _ :: _ :: _ :: _ :: _ :: _ :: _ :: _ :: _ :: _ :: _ :: []) _; (repeat (go_big_quiet_step (fail))); refine wpQuiet_nil ?_; show wpAnyH _ _ _ _ _ _ _ _ _)
        (refine wpOne 10 34 rfl rfl (by kernel_rfl) ?_; intro K hK; go_simp)
        have hSd : ShIn wh.drew b vs L := hS7
        have hRd : RfIn wh.drew b2 vr L := hR7
        refine (sh_len _ hSd).mono ?_
        rintro e w8 ⟨rfl, rfl⟩
        (refine hK.out _ _ _ (fun _ h => h) (laterF_drew) ?_; clear hK K)
        (refine wpSeg (16 :: 17 :: 18 :: 19 :: 21 :: []) 29 (l := _) rfl (by simp only [List.filterMap_cons, List.filterMap_nil, List.getElem?_toArray, List.getElem?_cons_succ, List.getElem?_cons_zero]; rfl) (by kernel_rfl) (fun _ _ _ _ _ h => h) laterF_drew ?_; show wpQuiet _ _ _ _ (_ :: _ :: _ :: _ :: _ :: []) _; (repeat (go_big_quiet_step (fail))); refine wpQuiet_nil ?_; show wpAnyH _ _ _ _ _ _ _ _ _)
        (refine wpOne 20 28 rfl rfl (by kernel_rfl) ?_; intro K hK; go_simp)
        refine (sh_list _ hSd (by omega)).mono ?_
        rintro e w9 ⟨u, rfl, hown1, b9⟩
        obtain ⟨ua, uc, rfl, _, _, hi1, _⟩ := items_of_owned kpEnc_length hown1
        have hb9 : Below wh.heap.size wh w9 := (Below.refl wh.heap.size wh).drew.trans b9
        (refine hK.out _ _ _ (fun _ h => h) (laterF_of hb9) ?_; clear hK K)
        (refine wpOne 22 27 rfl rfl (by kernel_rfl) ?_; intro K hK; go_simp)
        refine (rf_list _ (hRd.below b9) (by omega)).mono ?_
        rintro e w10 ⟨u, rfl, hown2, b10⟩
        obtain ⟨ub, uc2, rfl, _, _, hi2, _⟩ := items_of_owned kpEnc_length hown2
        have hb10 : Below wh.heap.size wh w10 := hb9.trans (b10.mono hb9.size)
        have hi1' := hi1.below b10
        (refine hK.out _ _ _ (fun _ h => h) (laterF_of hb10) ?_; clear hK K)
        (refine wpOne 23 26 rfl rfl (by kernel_rfl) ?_; intro K hK; go_simp)
        refine (same_eq ua ub L.length uc uc2 L w10 hi1' hi2 (by omega)).mono ?_
        rintro e w11 ⟨rfl, b11⟩
        have hb11 : Below wh.heap.size wh w11 := hb10.trans (b11.mono hb10.size)
        have hS11 := hS7.below hb11
        have hR11 := hR7.below hb11
        have hB11 := hB7.of hb11
        clear hown1 hown2 hi1 hi2 hi1' b9 b10 b11 hb9 hb10 hSd hRd
        (refine hK.out _ _ _ (fun _ h => h) (laterF_of hb11) ?_; clear hK K)
        (refine wpSeg (24 :: 25 :: 26 :: 27 :: 28 :: 29 :: 31 :: 32 :: 33 :: []) 17 (l := _) rfl (by simp only [List.filterMap_cons, List.filterMap_nil, List.getElem?_toArray, List.getElem?_cons_succ, List.getElem?_cons_zero]; rfl) (by kernel_rfl) (fun _ _ _ _ _ h => h) (laterF_of hb11) ?_; show wpQuiet _ _ _ _ (_ :: _ :: _ :: _ :: _ :: _ :: _ :: _ :: _ :: []) _; (repeat (go_big_quiet_step (fail))); refine wpQuiet_nil ?_; show wpAnyH _ _ _ _ _ _ _ _ _)
        (refine wpOne 30 16 rfl rfl (by kernel_rfl) ?_; intro K hK; go_simp)
        refine (sh_table rt _ hS11 (by omega)).mono ?_
        rintro e w12 ⟨rfl, rfl⟩
        (refine hK.out _ _ _ (fun _ h => h) (laterF_of hb11) ?_; clear hK K)
        (refine wpOne 34 15 rfl rfl (by kernel_rfl) ?_; intro K hK; go_simp)
        refine (rf_table rt _ hR11 (by omega)).mono ?_
        rintro e w12 ⟨rfl, rfl⟩
        (refine hK.out _ _ _ (fun _ h => h) (laterF_of hb11) ?_; clear hK K)
        (refine wpSeg (35 :: 36 :: 37 :: 38 :: 39 :: 40 :: 41 :: 43 :: 44 :: 45 :: 46 :: []) 4 (l := _) rfl (by simp only [List.filterMap_cons, List.filterMap_nil, List.getElem?_toArray, List.getElem?_cons_succ, List.getElem?_cons_zero]; rfl) (by kernel_rfl) (fun _ _ _ _ _ h => h) (laterF_of hb11) ?_; show wpQuiet _ _ _ _ (_ :: _ :: _ :: _ :: _ :: _ :: _ :: _ :: _ :: _ :: _ :: []) _; (repeat (go_big_quiet_step (fail))); refine wpQuiet_nil ?_; show wpAnyH _ _ _ _ _ _ _ _ _)
        (refine wpOne 42 3 rfl rfl (by kernel_rfl) ?_; intro K hK; go_simp)
        refine (sh_table e0 _ hS11 (by omega)).mono ?_
        rintro e w12 ⟨rfl, rfl⟩
        (refine hK.out _ _ _ (fun _ h => h) (laterF_of hb11) ?_; clear hK K)
        (refine wpOne 47 2 rfl rfl (by kernel_rfl) ?_; intro K hK; go_simp)
        refine (rf_table e0 _ hR11 (by omega)).mono ?_
        rintro e w12 ⟨rfl, rfl⟩
        (refine hK.out _ _ _ (fun _ h => h) (laterF_of hb11) ?_; clear hK K)
        (refine wpSeg (48 :: 49 :: []) 0 (l := _) rfl (by simp only [List.filterMap_cons, List.filterMap_nil, List.getElem?_toArray, List.getElem?_cons_succ, List.getElem?_cons_zero]; rfl) (by kernel_rfl) (fun _ _ _ _ _ h => h) (laterF_of hb11) ?_; show wpQuiet _ _ _ _ (_ :: _ :: []) _; (repeat (go_big_quiet_step (fail))); refine wpQuiet_nil ?_; show wpAnyH _ _ _ _ _ _ _ _ _)
        refine wpAnyH_done (by kernel_rfl) ?_ _
        clear z0 y3 y6 s0 s1 s2 q0 q1 q2 hS7 hR7 hB7
        go_wp2
        go_roundw
        case rel => exact ⟨i + 1, vs, vr, L, by omega, by go_num, hS11, hR11, hPL, hB11⟩
        case measure => simp [intOf]; omega
      have d0 : (kd == 0) = false := by simpa using c0
      have d1 : (kd == 1) = false := by simpa using c1
      have d2 : (kd == 2) = false := by simpa using c2
      by_cases ho : (0 ≤ rt ∧ rt < 8) ∧ (0 ≤ lf ∧ lf < 8)
      · have hok : ok8 ⟨k0, k1, e0, e1, e2, rt, lf⟩ = true := by simp [ok8]; omega
        have hL : doL l ⟨kd, ⟨k0, k1, e0, e1, e2, rt, lf⟩⟩ = fillL l ⟨k0, k1, e0, e1, e2, rt, lf⟩ := by rw [doL, if_neg c0, if_neg c1, if_neg c2, if_pos hok]
        have hT : doT l ⟨kd, ⟨k0, k1, e0, e1, e2, rt, lf⟩⟩ = freshL l rt lf := by rw [doT, if_neg c0, if_neg c1, if_neg c2, if_pos hok]
        have hN : doN l ⟨kd, ⟨k0, k1, e0, e1, e2, rt, lf⟩⟩ = 0 := by rw [doN, if_neg c0, if_neg c1, if_neg c2, if_pos hok]
        have hts := hTo.ts
        rw [hT] at hts
        rw [hL] at h2 hPL
        rw [hN]
        obtain ⟨ta, tc, rfl, hti, htg⟩ := hts
        clear hL hT hN hTo c0 c1 c2 hok
        have hfl := fresh_two l rt lf
        have hw2 := rf_fill k0 k1 e0 e1 e2 rt lf w2 hR2 hn ho.1 ho.2
        clear ho
        go_wp2_with fail
        refine hw2.mono ?_
        rintro e w3 ⟨tb, tc2, vr, rfl, hit, hR3, f3⟩
        have ht3 := hti.frmB f3 htg hbw hvw
        have hAct := f3.other hR2 hA2 (by decide) (by decide)
        have hS3 := h2.frm hR2 f3 (by decide) (by decide) (by decide) (by decide)
        have hB3 := hB2.frm f3 (by omega) (fun g hg => by have := (hR2.own g hg).1; omega)
        clear hw2 f3 h2 hR2 hA2 hB2 hti a0 a1 a2 a3 a4 a5 a6 a7 lab htg hvw d0 d1 d2
        generalize freshL l rt lf = T at *
        generalize fillL l ⟨k0, k1, e0, e1, e2, rt, lf⟩ = L at *
        have hq := ints_any ta tb T.length T.length tc tc2 T T w3 ht3 hit (by omega) (by omega)
        rw [beq_self_eq_true] at hq
        go_wp2_with fail
        refine hq.mono ?_
        rintro e wt ⟨rfl, b4⟩
        have hS := hS3.below b4
        have hR := hR3.below b4
        have hBt := hB3.of b4
        have hAc := (b4.block _ (lt_heap hAct)).trans hAct
        clear hS3 hR3 hB3 hAct b4 ht3 hit hq
        have lt2 := hS.lt
        have hab := lt_heap hAc
        have y1 : wt.cell? ⟨ab, 1, none⟩ = some (.int .i64 k0) := (cell_of_row _ _ 1 _ _ _ hAc).trans rfl
        have y2 : wt.cell? ⟨ab, 2, none⟩ = some (.int .i64 k1) := (cell_of_row _ _ 2 _ _ _ hAc).trans rfl
        have hl32 := hPL.1
        obtain ⟨X, hX⟩ : ∃ X, getX L k0 k1 = X := ⟨_, rfl⟩
        obtain ⟨G, hG⟩ : ∃ G, getB L k0 k1 = G := ⟨_, rfl⟩
        have hg1 := sh_get k0 k1 wt hS (by omega)
        rw [hX, hG] at hg1
        go_wp2_with fail
        refine hg1.mono ?_
        rintro e w5 ⟨rfl, b5⟩
        have hS5 := (hS.below b5).alloc (ob := .cells #[.int .i64 X.ep, .int .i64 X.ef, .int .i64 X.er] 32)
        have hR5 := (hR.below b5).alloc (ob := .cells #[.int .i64 X.ep, .int .i64 X.ef, .int .i64 X.er] 32)
        have hAc5 := heap_alloc (o' := .cells #[.int .i64 X.ep, .int .i64 X.ef, .int .i64 X.er] 32) ((b5.block _ hab).trans hAc)
        have hB5 := (hBt.of b5).alloc (o := .cells #[.int .i64 X.ep, .int .i64 X.ef, .int .i64 X.er] 32)
        have hE5 := Go.heap_alloc_new w5 (.cells #[.int .i64 X.ep, .int .i64 X.ef, .int .i64 X.er] 32)
        obtain ⟨w6, hw6⟩ : ∃ w6, w5.alloc (.cells #[.int .i64 X.ep, .int .i64 X.ef, .int .i64 X.er] 32) = w6 := ⟨_, rfl⟩
        rw [hw6] at hS5 hR5 hAc5 hB5 hE5
        clear hg1 y1 y2 hS hR hAc hBt b5 hab lt2
        have hab := lt_heap hAc5
        have y1 : w6.cell? ⟨ab, 1, none⟩ = some (.int .i64 k0) := (cell_of_row _ _ 1 _ _ _ hAc5).trans rfl
        have y2 : w6.cell? ⟨ab, 2, none⟩ = some (.int .i64 k1) := (cell_of_row _ _ 2 _ _ _ hAc5).trans rfl
        have hg2 := rf_get k0 k1 w6 hR5 (by omega)
        rw [hX, hG] at hg2
        clear hX hG
        go_wp2_with fail
        clear hw6
        generalize w5.heap.size = ea at *
        refine hg2.mono ?_
        rintro e w7 ⟨rfl, b7⟩
        have hS7 := (hS5.below b7).alloc (ob := .cells #[.int .i64 X.ep, .int .i64 X.ef, .int .i64 X.er] 32)
        have hR7 := (hR5.below b7).alloc (ob := .cells #[.int .i64 X.ep, .int .i64 X.ef, .int .i64 X.er] 32)
        have hAc7 := heap_alloc (o' := .cells #[.int .i64 X.ep, .int .i64 X.ef, .int .i64 X.er] 32) ((b7.block _ hab).trans hAc5)
        have hE7 := heap_alloc (o' := .cells #[.int .i64 X.ep, .int .i64 X.ef, .int .i64 X.er] 32) ((b7.block _ (lt_heap hE5)).trans hE5)
        have hB7 := (hB5.of b7).alloc (o := .cells #[.int .i64 X.ep, .int .i64 X.ef, .int .i64 X.er] 32)
        have hF7 := Go.heap_alloc_new w7 (.cells #[.int .i64 X.ep, .int .i64 X.ef, .int .i64 X.er] 32)
        obtain ⟨wh, hwh⟩ : ∃ wh, w7.alloc (.cells #[.int .i64 X.ep, .int .i64 X.ef, .int .i64 X.er] 32) = wh := ⟨_, rfl⟩
        rw [hwh] at hS7 hR7 hAc7 hE7 hB7 hF7
        clear hg2 y1 y2 hS5 hR5 hAc5 hB5 hE5 b7 hab
        obtain ⟨va, vc, hv⟩ := ownsRow_shape hR7.2
        have x1 := hS7.lt
        have x2 := hR7.lt
        have x3 := lt_heap hAc7
        have x4 := lt_heap hE7
        have x5 := lt_heap hF7
        have z0 := rfField _ hR7
        rw [hv] at z0
        have y3 : wh.cell? ⟨ab, 3, none⟩ = some (.int .i64 e0) := (cell_of_row _ _ 3 _ _ _ hAc7).trans rfl
        have y6 : wh.cell? ⟨ab, 6, none⟩ = some (.int .i64 rt) := (cell_of_row _ _ 6 _ _ _ hAc7).trans rfl
        have s0 : wh.cell? ⟨ea, 0, none⟩ = some (.int .i64 X.ep) := (cell_of_row _ _ 0 _ _ _ hE7).trans rfl
        have s1 : wh.cell? ⟨ea, 1, none⟩ = some (.int .i64 X.ef) := (cell_of_row _ _ 1 _ _ _ hE7).trans rfl
        have s2 : wh.cell? ⟨ea, 2, none⟩ = some (.int .i64 X.er) := (cell_of_row _ _ 2 _ _ _ hE7).trans rfl
        have q0 : wh.cell? ⟨w7.heap.size, 0, none⟩ = some (.int .i64 X.ep) := (cell_of_row _ _ 0 _ _ _ hF7).trans rfl
        have q1 : wh.cell? ⟨w7.heap.size, 1, none⟩ = some (.int .i64 X.ef) := (cell_of_row _ _ 1 _ _ _ hF7).trans rfl
        have q2 : wh.cell? ⟨w7.heap.size, 2, none⟩ = some (.int .i64 X.er) := (cell_of_row _ _ 2 _ _ _ hF7).trans rfl
        have nE := neq_entS X.ep X.ef X.er
        have nG := neq_boolS G
        have nT1 := neq_boolS (tableB L rt)
        have nT2 := neq_boolS (tableB L e0)
        clear hE7 hF7 hAc7
        go_wp2_with fail
        clear hwh
        generalize w7.heap.size = fa at *
        (refine wp_region_line 50 (fun x => ∃ y : LatF wh.heap.size wh, x = laterF wh.heap.size wh y) (by kernel_rfl) rfl ?_)
        (refine wpSeg (0 :: 1 :: 2 :: 3 :: 4 :: 5 :: 6 :: 7 :: 8 :: 9 :: 11 :: 12 :: 13 :: 14 :: 15 :: []) 35 (l := _) rfl (by simp only [List.filterMap_cons, List.filterMap_nil, List.getElem?_toArray, List.getElem?_cons_succ, List.getElem?_cons_zero]; rfl) (by kernel_rfl) (fun _ _ _ _ _ h => h) laterF_drew ?_; show wpQuiet _ _ _ _ (_ :: _ :: _ :: _ :: _ :: _ :: _ :: _ :: _ :: _ :: _ :: _ :: _ :: _ :: _ :: []) _; (repeat (go_big_quiet_step (fail))); refine wpQuiet_nil ?_; show wpAnyH _ _ _ _ _ _ _ _ _)
        (refine wpOne 10 34 rfl rfl (by kernel_rfl) ?_; intro K hK; go_simp)
        have hSd : ShIn wh.drew b vs L := hS7
        have hRd : RfIn wh.drew b2 vr L := hR7
        refine (sh_len _ hSd).mono ?_
        rintro e w8 ⟨rfl, rfl⟩
        (refine hK.out _ _ _ (fun _ h => h) (laterF_drew) ?_; clear hK K)
        (refine wpSeg (16 :: 17 :: 18 :: 19 :: 21 :: []) 29 (l := _) rfl (by simp only [List.filterMap_cons, List.filterMap_nil, List.getElem?_toArray, List.getElem?_cons_succ, List.getElem?_cons_zero]; rfl) (by kernel_rfl) (fun _ _ _ _ _ h => h) laterF_drew ?_; show wpQuiet _ _ _ _ (_ :: _ :: _ :: _ :: _ :: []) _; (repeat (go_big_quiet_step (fail))); refine wpQuiet_nil ?_; show wpAnyH _ _ _ _ _ _ _ _ _)
        (refine wpOne 20 28 rfl rfl (by kernel_rfl) ?_; intro K hK; go_simp)
        refine (sh_list _ hSd (by omega)).mono ?_
        rintro e w9 ⟨u, rfl, hown1, b9⟩
        obtain ⟨ua, uc, rfl, _, _, hi1, _⟩ := items_of_owned kpEnc_length hown1
        have hb9 : Below wh.heap.size wh w9 := (Below.refl wh.heap.size wh).drew.trans b9
        (refine hK.out _ _ _ (fun _ h => h) (laterF_of hb9) ?_; clear hK K)
        (refine wpOne 22 27 rfl rfl (by kernel_rfl) ?_; intro K hK; go_simp)
        refine (rf_list _ (hRd.below b9) (by omega)).mono ?_
        rintro e w10 ⟨u, rfl, hown2, b10⟩
        obtain ⟨ub, uc2, rfl, _, _, hi2, _⟩ := items_of_owned kpEnc_length hown2
        have hb10 : Below wh.heap.size wh w10 := hb9.trans (b10.mono hb9.size)
        have hi1' := hi1.below b10
        (refine hK.out _ _ _ (fun _ h => h) (laterF_of hb10) ?_; clear hK K)
        (refine wpOne 23 26 rfl rfl (by kernel_rfl) ?_; intro K hK; go_simp)
        refine (same_eq ua ub L.length uc uc2 L w10 hi1' hi2 (by omega)).mono ?_
        rintro e w11 ⟨rfl, b11⟩
        have hb11 : Below wh.heap.size wh w11 := hb10.trans (b11.mono hb10.size)
        have hS11 := hS7.below hb11
        have hR11 := hR7.below hb11
        have hB11 := hB7.of hb11
        clear hown1 hown2 hi1 hi2 hi1' b9 b10 b11 hb9 hb10 hSd hRd
        (refine hK.out _ _ _ (fun _ h => h) (laterF_of hb11) ?_; clear hK K)
        (refine wpSeg (24 :: 25 :: 26 :: 27 :: 28 :: 29 :: 31 :: 32 :: 33 :: []) 17 (l := _) rfl (by simp only [List.filterMap_cons, List.filterMap_nil, List.getElem?_toArray, List.getElem?_cons_succ, List.getElem?_cons_zero]; rfl) (by kernel_rfl) (fun _ _ _ _ _ h => h) (laterF_of hb11) ?_; show wpQuiet _ _ _ _ (_ :: _ :: _ :: _ :: _ :: _ :: _ :: _ :: _ :: []) _; (repeat (go_big_quiet_step (fail))); refine wpQuiet_nil ?_; show wpAnyH _ _ _ _ _ _ _ _ _)
        (refine wpOne 30 16 rfl rfl (by kernel_rfl) ?_; intro K hK; go_simp)
        refine (sh_table rt _ hS11 (by omega)).mono ?_
        rintro e w12 ⟨rfl, rfl⟩
        (refine hK.out _ _ _ (fun _ h => h) (laterF_of hb11) ?_; clear hK K)
        (refine wpOne 34 15 rfl rfl (by kernel_rfl) ?_; intro K hK; go_simp)
        refine (rf_table rt _ hR11 (by omega)).mono ?_
        rintro e w12 ⟨rfl, rfl⟩
        (refine hK.out _ _ _ (fun _ h => h) (laterF_of hb11) ?_; clear hK K)
        (refine wpSeg (35 :: 36 :: 37 :: 38 :: 39 :: 40 :: 41 :: 43 :: 44 :: 45 :: 46 :: []) 4 (l := _) rfl (by simp only [List.filterMap_cons, List.filterMap_nil, List.getElem?_toArray, List.getElem?_cons_succ, List.getElem?_cons_zero]; rfl) (by kernel_rfl) (fun _ _ _ _ _ h => h) (laterF_of hb11) ?_; show wpQuiet _ _ _ _ (_ :: _ :: _ :: _ :: _ :: _ :: _ :: _ :: _ :: _ :: _ :: []) _; (repeat (go_big_quiet_step (fail))); refine wpQuiet_nil ?_; show wpAnyH _ _ _ _ _ _ _ _ _)
        (refine wpOne 42 3 rfl rfl (by kernel_rfl) ?_; intro K hK; go_simp)
        refine (sh_table e0 _ hS11 (by omega)).mono ?_
        rintro e w12 ⟨rfl, rfl⟩
        (refine hK.out _ _ _ (fun _ h => h) (laterF_of hb11) ?_; clear hK K)
        (refine wpOne 47 2 rfl rfl (by kernel_rfl) ?_; intro K hK; go_simp)
        refine (rf_table e0 _ hR11 (by omega)).mono ?_
        rintro e w12 ⟨rfl, rfl⟩
        (refine hK.out _ _ _ (fun _ h => h) (laterF_of hb11) ?_; clear hK K)
        (refine wpSeg (48 :: 49 :: []) 0 (l := _) rfl (by simp only [List.filterMap_cons, List.filterMap_nil, List.getElem?_toArray, List.getElem?_cons_succ, List.getElem?_cons_zero]; rfl) (by kernel_rfl) (fun _ _ _ _ _ h => h) (laterF_of hb11) ?_; show wpQuiet _ _ _ _ (_ :: _ :: []) _; (repeat (go_big_quiet_step (fail))); refine wpQuiet_nil ?_; show wpAnyH _ _ _ _ _ _ _ _ _)
        refine wpAnyH_done (by kernel_rfl) ?_ _
        clear z0 y3 y6 s0 s1 s2 q0 q1 q2 hS7 hR7 hB7
        go_wp2
        go_roundw
        case rel => exact ⟨i + 1, vs, vr, L, by omega, by go_num, hS11, hR11, hPL, hB11⟩
        case measure => simp [intOf]; omega
      · have hok : ok8 ⟨k0, k1, e0, e1, e2, rt, lf⟩ = false := by
          rw [Bool.eq_false_iff]
          intro hx
          simp [ok8] at hx
          omega
        have hL : doL l ⟨kd, ⟨k0, k1, e0, e1, e2, rt, lf⟩⟩ = l := by rw [doL, if_neg c0, if_neg c1, if_neg c2, if_neg (by simp [hok])]
        have hT : doT l ⟨kd, ⟨k0, k1, e0, e1, e2, rt, lf⟩⟩ = [] := by rw [doT, if_neg c0, if_neg c1, if_neg c2, if_neg (by simp [hok])]
        have hN : doN l ⟨kd, ⟨k0, k1, e0, e1, e2, rt, lf⟩⟩ = 1 := by rw [doN, if_neg c0, if_neg c1, if_neg c2, if_neg (by simp [hok])]
        have hts := hTo.ts
        rw [hT] at hts
        rw [hL] at h2 hPL
        rw [hN]
        obtain ⟨ta, tc, rfl, hti, htg⟩ := hts
        clear hL hT hN hTo c0 c1 c2 hok
        have hw2 := rf_fillNo (b := b2) k0 k1 e0 e1 e2 rt lf w2 ho
        clear ho
        simp only [List.length_nil]
        go_wp2_with fail
        refine hw2.mono ?_
        rintro e w3 ⟨rfl, b3⟩
        have hS3 := h2.below b3
        have hR3 := hR2.below b3
        have hB3 := hB2.of b3
        have hAct := (b3.block _ (lt_heap hA2)).trans hA2
        clear hw2 h2 hR2 hA2 hB2 hti a0 a1 a2 a3 a4 a5 a6 a7 lab htg hvw d0 d1 d2 b3
        obtain ⟨L, rfl⟩ : ∃ L, L = l := ⟨_, rfl⟩
        obtain ⟨vr, rfl⟩ : ∃ u, u = v2 := ⟨_, rfl⟩
        have hq := ints_any ta none 0 0 tc 0 [] [] w3 ⟨rfl, fun h => absurd h (by omega)⟩ ⟨rfl, fun h => absurd h (by omega)⟩ (by omega) (by omega)
        rw [beq_self_eq_true] at hq
        go_wp2_with fail
        refine hq.mono ?_
        rintro e wt ⟨rfl, b4⟩
        have hS := hS3.below b4
        have hR := hR3.below b4
        have hBt := hB3.of b4
        have hAc := (b4.block _ (lt_heap hAct)).trans hAct
        clear hS3 hR3 hB3 hAct b4 hq
        have lt2 := hS.lt
        have hab := lt_heap hAc
        have y1 : wt.cell? ⟨ab, 1, none⟩ = some (.int .i64 k0) := (cell_of_row _ _ 1 _ _ _ hAc).trans rfl
        have y2 : wt.cell? ⟨ab, 2, none⟩ = some (.int .i64 k1) := (cell_of_row _ _ 2 _ _ _ hAc).trans rfl
        have hl32 := hPL.1
        obtain ⟨X, hX⟩ : ∃ X, getX L k0 k1 = X := ⟨_, rfl⟩
        obtain ⟨G, hG⟩ : ∃ G, getB L k0 k1 = G := ⟨_, rfl⟩
        have hg1 := sh_get k0 k1 wt hS (by omega)
        rw [hX, hG] at hg1
        go_wp2_with fail
        refine hg1.mono ?_
        rintro e w5 ⟨rfl, b5⟩
        have hS5 := (hS.below b5).alloc (ob := .cells #[.int .i64 X.ep, .int .i64 X.ef, .int .i64 X.er] 32)
        have hR5 := (hR.below b5).alloc (ob := .cells #[.int .i64 X.ep, .int .i64 X.ef, .int .i64 X.er] 32)
        have hAc5 := heap_alloc (o' := .cells #[.int .i64 X.ep, .int .i64 X.ef, .int .i64 X.er] 32) ((b5.block _ hab).trans hAc)
        have hB5 := (hBt.of b5).alloc (o := .cells #[.int .i64 X.ep, .int .i64 X.ef, .int .i64 X.er] 32)
        have hE5 := Go.heap_alloc_new w5 (.cells #[.int .i64 X.ep, .int .i64 X.ef, .int .i64 X.er] 32)
        obtain ⟨w6, hw6⟩ : ∃ w6, w5.alloc (.cells #[.int .i64 X.ep, .int .i64 X.ef, .int .i64 X.er] 32) = w6 := ⟨_, rfl⟩
        rw [hw6] at hS5 hR5 hAc5 hB5 hE5
        clear hg1 y1 y2 hS hR hAc hBt b5 hab lt2
        have hab := lt_heap hAc5
        have y1 : w6.cell? ⟨ab, 1, none⟩ = some (.int .i64 k0) := (cell_of_row _ _ 1 _ _ _ hAc5).trans rfl
        have y2 : w6.cell? ⟨ab, 2, none⟩ = some (.int .i64 k1) := (cell_of_row _ _ 2 _ _ _ hAc5).trans rfl
        have hg2 := rf_get k0 k1 w6 hR5 (by omega)
        rw [hX, hG] at hg2
        clear hX hG
        go_wp2_with fail
        clear hw6
        generalize w5.heap.size = ea at *
        refine hg2.mono ?_
        rintro e w7 ⟨rfl, b7⟩
        have hS7 := (hS5.below b7).alloc (ob := .cells #[.int .i64 X.ep, .int .i64 X.ef, .int .i64 X.er] 32)
        have hR7 := (hR5.below b7).alloc (ob := .cells #[.int .i64 X.ep, .int .i64 X.ef, .int .i64 X.er] 32)
        have hAc7 := heap_alloc (o' := .cells #[.int .i64 X.ep, .int .i64 X.ef, .int .i64 X.er] 32) ((b7.block _ hab).trans hAc5)
        have hE7 := heap_alloc (o' := .cells #[.int .i64 X.ep, .int .i64 X.ef, .int .i64 X.er] 32) ((b7.block _ (lt_heap hE5)).trans hE5)
        have hB7 := (hB5.of b7).alloc (o := .cells #[.int .i64 X.ep, .int .i64 X.ef, .int .i64 X.er] 32)
        have hF7 := Go.heap_alloc_new w7 (.cells #[.int .i64 X.ep, .int .i64 X.ef, .int .i64 X.er] 32)
        obtain ⟨wh, hwh⟩ : ∃ wh, w7.alloc (.cells #[.int .i64 X.ep, .int .i64 X.ef, .int .i64 X.er] 32) = wh := ⟨_, rfl⟩
        rw [hwh] at hS7 hR7 hAc7 hE7 hB7 hF7
        clear hg2 y1 y2 hS5 hR5 hAc5 hB5 hE5 b7 hab
        obtain ⟨va, vc, hv⟩ := ownsRow_shape hR7.2
        have x1 := hS7.lt
        have x2 := hR7.lt
        have x3 := lt_heap hAc7
        have x4 := lt_heap hE7
        have x5 := lt_heap hF7
        have z0 := rfField _ hR7
        rw [hv] at z0
        have y3 : wh.cell? ⟨ab, 3, none⟩ = some (.int .i64 e0) := (cell_of_row _ _ 3 _ _ _ hAc7).trans rfl
        have y6 : wh.cell? ⟨ab, 6, none⟩ = some (.int .i64 rt) := (cell_of_row _ _ 6 _ _ _ hAc7).trans rfl
        have s0 : wh.cell? ⟨ea, 0, none⟩ = some (.int .i64 X.ep) := (cell_of_row _ _ 0 _ _ _ hE7).trans rfl
        have s1 : wh.cell? ⟨ea, 1, none⟩ = some (.int .i64 X.ef) := (cell_of_row _ _ 1 _ _ _ hE7).trans rfl
        have s2 : wh.cell? ⟨ea, 2, none⟩ = some (.int .i64 X.er) := (cell_of_row _ _ 2 _ _ _ hE7).trans rfl
        have q0 : wh.cell? ⟨w7.heap.size, 0, none⟩ = some (.int .i64 X.ep) := (cell_of_row _ _ 0 _ _ _ hF7).trans rfl
        have q1 : wh.cell? ⟨w7.heap.size, 1, none⟩ = some (.int .i64 X.ef) := (cell_of_row _ _ 1 _ _ _ hF7).trans rfl
        have q2 : wh.cell? ⟨w7.heap.size, 2, none⟩ = some (.int .i64 X.er) := (cell_of_row _ _ 2 _ _ _ hF7).trans rfl
        have nE := neq_entS X.ep X.ef X.er
        have nG := neq_boolS G
        have nT1 := neq_boolS (tableB L rt)
        have nT2 := neq_boolS (tableB L e0)
        clear hE7 hF7 hAc7
        go_wp2_with fail
        clear hwh
        generalize w7.heap.size = fa at *
        (refine wp_region_line 50 (fun x => ∃ y : LatF wh.heap.size wh, x = laterF wh.heap.size wh y) (by kernel_rfl) rfl ?_)
        (refine wpSeg (0 :: 1 :: 2 :: 3 :: 4 :: 5 :: 6 :: 7 :: 8 :: 9 :: 11 :: 12 :: 13 :: 14 :: 15 :: []) 35 (l := _) rfl (by simp only [List.filterMap_cons, List.filterMap_nil, List.getElem?_toArray, List.getElem?_cons_succ, List.getElem?_cons_zero]; rfl) (by kernel_rfl) (fun _ _ _ _ _ h => h) laterF_drew ?_; show wpQuiet _ _ _ _ (_ :: _ :: _ :: _ :: _ :: _ :: _ :: _ :: _ :: _ :: _ :: _ :: _ :: _ :: _ :: []) _; (repeat (go_big_quiet_step (fail))); refine wpQuiet_nil ?_; show wpAnyH _ _ _ _ _ _ _ _ _)
        (refine wpOne 10 34 rfl rfl (by kernel_rfl) ?_; intro K hK; go_simp)
        have hSd : ShIn wh.drew b vs L := hS7
        have hRd : RfIn wh.drew b2 vr L := hR7
        refine (sh_len _ hSd).mono ?_
        rintro e w8 ⟨rfl, rfl⟩
        (refine hK.out _ _ _ (fun _ h => h) (laterF_drew) ?_; clear hK K)
        (refine wpSeg (16 :: 17 :: 18 :: 19 :: 21 :: []) 29 (l := _) rfl (by simp only [List.filterMap_cons, List.filterMap_nil, List.getElem?_toArray, List.getElem?_cons_succ, List.getElem?_cons_zero]; rfl) (by kernel_rfl) (fun _ _ _ _ _ h => h) laterF_drew ?_; show wpQuiet _ _ _ _ (_ :: _ :: _ :: _ :: _ :: []) _; (repeat (go_big_quiet_step (fail))); refine wpQuiet_nil ?_; show wpAnyH _ _ _ _ _ _ _ _ _)
        (refine wpOne 20 28 rfl rfl (by kernel_rfl) ?_; intro K hK; go_simp)
        refine (sh_list _ hSd (by omega)).mono ?_
        rintro e w9 ⟨u, rfl, hown1, b9⟩
        obtain ⟨ua, uc, rfl, _, _, hi1, _⟩ := items_of_owned kpEnc_length hown1
        have hb9 : Below wh.heap.size wh w9 := (Below.refl wh.heap.size wh).drew.trans b9
        (refine hK.out _ _ _ (fun _ h => h) (laterF_of hb9) ?_; clear hK K)
        (refine wpOne 22 27 rfl rfl (by kernel_rfl) ?_; intro K hK; go_simp)
        refine (rf_list _ (hRd.below b9) (by omega)).mono ?_
        rintro e w10 ⟨u, rfl, hown2, b10⟩
        obtain ⟨ub, uc2, rfl, _, _, hi2, _⟩ := items_of_owned kpEnc_length hown2
        have hb10 : Below wh.heap.size wh w10 := hb9.trans (b10.mono hb9.size)
        have hi1' := hi1.below b10
        (refine hK.out _ _ _ (fun _ h => h) (laterF_of hb10) ?_; clear hK K)
        (refine wpOne 23 26 rfl rfl (by kernel_rfl) ?_; intro K hK; go_simp)
        refine (same_eq ua ub L.length uc uc2 L w10 hi1' hi2 (by omega)).mono ?_
        rintro e w11 ⟨rfl, b11⟩
        have hb11 : Below wh.heap.size wh w11 := hb10.trans (b11.mono hb10.size)
        have hS11 := hS7.below hb11
        have hR11 := hR7.below hb11
        have hB11 := hB7.of hb11
        clear hown1 hown2 hi1 hi2 hi1' b9 b10 b11 hb9 hb10 hSd hRd
        (refine hK.out _ _ _ (fun _ h => h) (laterF_of hb11) ?_; clear hK K)
        (refine wpSeg (24 :: 25 :: 26 :: 27 :: 28 :: 29 :: 31 :: 32 :: 33 :: []) 17 (l := _) rfl (by simp only [List.filterMap_cons, List.filterMap_nil, List.getElem?_toArray, List.getElem?_cons_succ, List.getElem?_cons_zero]; rfl) (by kernel_rfl) (fun _ _ _ _ _ h => h) (laterF_of hb11) ?_; show wpQuiet _ _ _ _ (_ :: _ :: _ :: _ :: _ :: _ :: _ :: _ :: _ :: []) _; (repeat (go_big_quiet_step (fail))); refine wpQuiet_nil ?_; show wpAnyH _ _ _ _ _ _ _ _ _)
        (refine wpOne 30 16 rfl rfl (by kernel_rfl) ?_; intro K hK; go_simp)
        refine (sh_table rt _ hS11 (by omega)).mono ?_
        rintro e w12 ⟨rfl, rfl⟩
        (refine hK.out _ _ _ (fun _ h => h) (laterF_of hb11) ?_; clear hK K)
        (refine wpOne 34 15 rfl rfl (by kernel_rfl) ?_; intro K hK; go_simp)
        refine (rf_table rt _ hR11 (by omega)).mono ?_
        rintro e w12 ⟨rfl, rfl⟩
        (refine hK.out _ _ _ (fun _ h => h) (laterF_of hb11) ?_; clear hK K)
        (refine wpSeg (35 :: 36 :: 37 :: 38 :: 39 :: 40 :: 41 :: 43 :: 44 :: 45 :: 46 :: []) 4 (l := _) rfl (by simp only [List.filterMap_cons, List.filterMap_nil, List.getElem?_toArray, List.getElem?_cons_succ, List.getElem?_cons_zero]; rfl) (by kernel_rfl) (fun _ _ _ _ _ h => h) (laterF_of hb11) ?_; show wpQuiet _ _ _ _ (_ :: _ :: _ :: _ :: _ :: _ :: _ :: _ :: _ :: _ :: _ :: []) _; (repeat (go_big_quiet_step (fail))); refine wpQuiet_nil ?_; show wpAnyH _ _ _ _ _ _ _ _ _)
        (refine wpOne 42 3 rfl rfl (by kernel_rfl) ?_; intro K hK; go_simp)
        refine (sh_table e0 _ hS11 (by omega)).mono ?_
        rintro e w12 ⟨rfl, rfl⟩
        (refine hK.out _ _ _ (fun _ h => h) (laterF_of hb11) ?_; clear hK K)
        (refine wpOne 47 2 rfl rfl (by kernel_rfl) ?_; intro K hK; go_simp)
        refine (rf_table e0 _ hR11 (by omega)).mono ?_
        rintro e w12 ⟨rfl, rfl⟩
        (refine hK.out _ _ _ (fun _ h => h) (laterF_of hb11) ?_; clear hK K)
        (refine wpSeg (48 :: 49 :: []) 0 (l := _) rfl (by simp only [List.filterMap_cons, List.filterMap_nil, List.getElem?_toArray, List.getElem?_cons_succ, List.getElem?_cons_zero]; rfl) (by kernel_rfl) (fun _ _ _ _ _ h => h) (laterF_of hb11) ?_; show wpQuiet _ _ _ _ (_ :: _ :: []) _; (repeat (go_big_quiet_step (fail))); refine wpQuiet_nil ?_; show wpAnyH _ _ _ _ _ _ _ _ _)
        refine wpAnyH_done (by kernel_rfl) ?_ _
        clear z0 y3 y6 s0 s1 s2 q0 q1 q2 hS7 hR7 hB7
        go_wp2
        go_roundw
        case rel => exact ⟨i + 1, vs, vr, L, by omega, by go_num, hS11, hR11, hPL, hB11⟩
        case measure => simp [intOf]; omega
    · have hcase : ¬ i < n0 ∨ (i < n0 ∧ ¬ i < 100) := by omega
      clear hall w0 hr hr2 hP
      rcases hcase with hc | ⟨hc1, hc⟩
      all_goals
        go_wp2_with fail
        refine (awake19 _).mono ?_
        rintro e w4 ⟨rfl, b4⟩
        have hBb := hB.of b4
        go_wp2
        go_ret
        exact ⟨rfl, hBb.1⟩
end Go.Proofs.Ythppjkpejnaocaa
