/- The pool: its methods. -/
import Derived.Test.YtgcnmhlojfncpaaPm
import Derived.Test.YtgcnmhlojfncpaaReg8
namespace Go.Proofs.Ytgcnmhlojfncpaa
open Go.ChangeShapes Go.WideShapes Go.ChangeAt Go.RowKit
set_option linter.unusedVariables false

section
variable {b s fb n : Nat} {G : Nat → Int} {V : Nat → Value} {L : Nat → List plIt} {st : Value} {S : List stIt}
theorem PlIn.stShape {w : World} (h : PlIn w b s fb n G V L st S) : ∃ a c, st = .slice a n c := by
  obtain ⟨a, c, hv⟩ := ownsRow_shape h.seats
  rw [h.len] at hv
  exact ⟨a, c, hv⟩
theorem plNone (w : World) (h : PlIn w b s fb n G V L st S) (hn : 0 < n) :
    Calls Try.prog 29 #[.pointer (some ⟨b, 0, none⟩)] w fun e w' => e = .returned (.bool false) ∧ w = w' := by
  have c1 := h.cellT
  obtain ⟨a, c, rfl⟩ := h.stShape
  have hn0 : ((n : Int) == 0) = false := by rw [beq_eq_false_iff_ne]; omega
  go_enter Try.func29, Try.ntmps29
  go_wp2
  go_ret
  exact ⟨rfl, rfl⟩
theorem plIs (f : Nat) (w : World) (h : PlIn w b s fb n G V L st S) (hf : f < n) :
    Calls Try.prog 30 #[.pointer (some ⟨b, 0, none⟩), .int .i64 f] w fun e w' => e = .returned (.bool true) ∧ w = w' := by
  have c1 := h.cellT
  obtain ⟨a, c, rfl⟩ := h.stShape
  go_enter Try.func30, Try.ntmps30
  go_wp2
  go_ret
  exact ⟨rfl, rfl⟩
theorem plIsNo (f : Int) (w : World) (h : PlIn w b s fb n G V L st S) (hf : f < 0 ∨ (n : Int) ≤ f) :
    Calls Try.prog 30 #[.pointer (some ⟨b, 0, none⟩), .int .i64 f] w fun e w' => e = .returned (.bool false) ∧ w = w' := by
  have c1 := h.cellT
  obtain ⟨a, c, rfl⟩ := h.stShape
  by_cases h0 : f < 0
  · have h1 : ¬ 0 ≤ f := by omega
    go_enter Try.func30, Try.ntmps30
    go_wp2
    go_ret
    exact ⟨rfl, rfl⟩
  · have h1 : 0 ≤ f := by omega
    have h2 : ¬ f < n := by omega
    go_enter Try.func30, Try.ntmps30
    go_wp2
    go_ret
    exact ⟨rfl, rfl⟩
theorem plPart (g : Nat) (w : World) (hg : g < 16) : Calls Try.prog 31 #[.int .i64 g] w fun e w' => e = .returned (.bool true) ∧ w = w' := by
  have h1 : (g : Int) < 16 := by omega
  go_enter Try.func31, Try.ntmps31
  go_wp2
  go_ret
  exact ⟨rfl, rfl⟩
theorem plPartNo (g : Int) (w : World) (hg : g < 0 ∨ 16 ≤ g) : Calls Try.prog 31 #[.int .i64 g] w fun e w' => e = .returned (.bool false) ∧ w = w' := by
  by_cases h0 : g < 0
  · have h1 : ¬ 0 ≤ g := by omega
    go_enter Try.func31, Try.ntmps31
    go_wp2
    go_ret
    exact ⟨rfl, rfl⟩
  · have h1 : 0 ≤ g := by omega
    have h2 : ¬ g < 16 := by omega
    go_enter Try.func31, Try.ntmps31
    go_wp2
    go_ret
    exact ⟨rfl, rfl⟩

theorem own_st {w : World} (h : PlIn w b s fb n G V L st S) {g cap : Nat} (hv : st = .slice (some ⟨g, 0, none⟩) n cap) : some g = st.ownBlock := by rw [hv]; rfl

set_option maxRecDepth 20000 in
set_option maxHeartbeats 1000000 in
/-- A frame is put among those that are left. -/
theorem plPut (f g : Nat) (w : World) (h : PlIn w b s fb n G V L st S) (hf : f < n) (hg : g < 16) (hw : (atL S f).who = g) (hp : ∀ q, q < 16 → (L q).Perm (leftL (S.set f ⟨g, true⟩) q)) :
    Calls Try.prog 32 #[.pointer (some ⟨b, 0, none⟩), .int .i64 f] w fun e w' => e = .returned (.int .i64 0) ∧ ∃ v' l', PlAt w' b s fb n (putF G (f * 64) 64 0) (setV V g v') (setV L g l') st (S.set f ⟨g, false⟩) ∧ Frs (tch b fb (V g) st) w w' ∧ (v'.ownBlock = (V g).ownBlock ∨ ∀ a, v'.ownBlock = some a → w.heap.size ≤ a) := by
  have hfS : f < S.length := by rw [h.len]; exact hf
  have hn32 := h.sto.1
  have hlL : (L g).length ≤ 32 := by
    have h1 := (hp g hg).length_eq
    have h2 := left_le (S := S.set f ⟨g, true⟩) (q := g)
    rw [List.length_set, h.len] at h2
    omega
  obtain ⟨sb, cap, hv, hnc, hcm, hbs, hsb, d0, d1, hz⟩ := h.seat hf
  rw [hw] at d0
  have hzz := hz (f * 2 + 1)
  have c1 := h.cellT
  have hst := own_st h hv
  have hlt := h.lt
  have HP := Lib.hid hp
  have HV := Lib.hid hv
  have HZ := Lib.hid hz
  clear hp hz
  rw [hv] at c1
  go_enter Try.func32, Try.ntmps32
  go_wp2_with fail
  have h1 : PlIn (w.setCell ⟨sb, f * 2 + 1, none⟩ (.bool false)) b s fb n G V L st (S.set f ⟨g, false⟩) := h.seatSet (x := ⟨g, false⟩) hf HV.out (j := 1) (by omega) (by rw [stEnc, stEnc, hw]; rfl) (.inr ⟨g, hg, rfl⟩)
  have f1 : Frs (tch b fb (V g) st) w (w.setCell ⟨sb, f * 2 + 1, none⟩ (.bool false)) := Frs.of_upd (Upd.refl sb w).setCell (.inr (.inr (.inr hst)))
  have z1 : (w.setCell ⟨sb, f * 2 + 1, none⟩ (.bool false)).heap.size = w.heap.size := by simp [World.setCell]
  generalize (w.setCell ⟨sb, f * 2 + 1, none⟩ (.bool false)) = w1 at h1 f1 z1 ⊢
  have k1 := h1.cellT
  rw [HV.out] at k1
  obtain ⟨sb', cap', hv', _, _, _, _, k0, _, _⟩ := h1.seat hf
  rw [HV.out] at hv'
  obtain ⟨rfl, rfl⟩ : sb = sb' ∧ cap = cap' := by cases hv'; exact ⟨rfl, rfl⟩
  rw [atL_setS hfS, if_pos rfl] at k0
  simp only at k0
  clear hv' c1 d0 d1 hzz
  go_wp2_with fail
  (refine wp_region_line 16 (fun x => ∃ y : LatD w1 ⟨b, 1, none⟩ ⟨sb, f * 2, none⟩, x = laterD w1 ⟨b, 1, none⟩ ⟨sb, f * 2, none⟩ y) (by kernel_rfl) rfl ?_)
  (refine wpSeg (0 :: 1 :: 2 :: 3 :: 4 :: 5 :: 6 :: 7 :: 8 :: 9 :: 10 :: 11 :: 12 :: 13 :: 14 :: []) 1 (l := _) rfl (by simp only [List.filterMap_cons, List.filterMap_nil, List.getElem?_toArray, List.getElem?_cons_succ, List.getElem?_cons_zero]; rfl) (by kernel_rfl) (fun _ _ _ _ _ h => h) (laterD_of (w := w1.drew) rfl rfl) ?_; show wpQuiet _ _ _ _ (_ :: _ :: _ :: _ :: _ :: _ :: _ :: _ :: _ :: _ :: _ :: _ :: _ :: _ :: _ :: []) _; (repeat (go_big_quiet_step (fail))); refine wpQuiet_nil ?_; show wpAnyH _ _ _ _ _ _ _ _ _)
  (refine wpOne 15 0 rfl rfl (by kernel_rfl) ?_; intro K hK; go_simp)
  refine (plHPush b _ (V g) (L g) ⟨f⟩ _ (plBlk_ok _ _ V hg) (h1.row hg).drew (h1.heap g hg) (by omega)).mono ?_
  rintro e w3 ⟨rfl, v3, l3, r3, hh3, p3, f3⟩
  have f3' : Frm b (V g) v3 w1 w3 := ⟨f3.os, f3.tape, f3.output, f3.size, f3.block, f3.own⟩
  have h3 := h1.put hg r3 hh3 f3'
  have k1' := h3.cellT
  rw [HV.out] at k1'
  obtain ⟨sb', cap', hv', _, _, _, _, k0', _, _⟩ := h3.seat hf
  rw [HV.out] at hv'
  obtain ⟨rfl, rfl⟩ : sb = sb' ∧ cap = cap' := by cases hv'; exact ⟨rfl, rfl⟩
  rw [atL_setS hfS, if_pos rfl] at k0'
  simp only at k0'
  (refine hK.out _ _ _ (fun _ h => h) (laterD_of (k1'.trans k1.symm) (k0'.trans k0.symm)) ?_; clear hK K)
  refine wpAnyH_done (by kernel_rfl) ?_ _
  have f13 := f1.trans (Frs.of_frm f3' (.inl rfl) (fun i hi => .inr (.inr (.inl hi))))
  have kS := h3.cellS
  clear k1 k0 k1' k0' hv' f3 r3
  go_wp2_with fail
  refine (clear_in s fb n f G _ h3.sto hf).mono ?_
  rintro e w4 ⟨rfl, u4, s4⟩
  have h4 := h3.stored u4 s4
  go_wp2
  go_ret
  refine ⟨rfl, v3, l3, ⟨h4, fun q hq => ?_, by omega⟩, f13.trans (Frs.of_upd u4 (.inr (.inl rfl))), ?_⟩
  · by_cases e : q = g
    · subst e
      rw [setV_at]
      refine p3.trans (List.Perm.trans ?_ (left_set hfS).symm)
      rw [if_pos ⟨rfl, rfl⟩]
      refine (List.perm_append_comm).trans (List.Perm.append_left _ ((HP.out q hq).trans ((left_set hfS).trans ?_)))
      rw [if_neg (by simp)]
      exact List.Perm.refl _
    · rw [setV_ne _ _ e]
      exact (HP.out q hq).trans (left_same hfS (by simp; omega))
  · rcases f3'.own with ho | ho
    · exact .inl ho
    · exact .inr fun a ha => by have := ho a ha; omega

theorem plOwnNo (f who : Int) (w : World) (h : PlIn w b s fb n G V L st S) (hn : 0 < n) (hno : f < 0 ∨ (n : Int) ≤ f ∨ who < 0 ∨ 16 ≤ who) :
    Calls Try.prog 9 #[.pointer (some ⟨b, 0, none⟩), .int .i64 f, .int .i64 who] w fun e w' => e = .returned (.int .i64 1) ∧ w = w' := by
  by_cases hf : f < 0 ∨ (n : Int) ≤ f
  · go_enter Try.func9, Try.ntmps9
    go_wp2_with fail
    refine (plNone _ h hn).mono ?_
    rintro e w' ⟨rfl, rfl⟩
    go_wp2_with fail
    refine (plIsNo f _ h hf).mono ?_
    rintro e w' ⟨rfl, rfl⟩
    go_wp2
    go_ret
    exact ⟨rfl, rfl⟩
  · obtain ⟨k, rfl⟩ : ∃ k : Nat, f = k := ⟨f.toNat, by omega⟩
    have hk : k < n := by omega
    have hwho : who < 0 ∨ 16 ≤ who := by omega
    go_enter Try.func9, Try.ntmps9
    go_wp2_with fail
    refine (plNone _ h hn).mono ?_
    rintro e w' ⟨rfl, rfl⟩
    go_wp2_with fail
    refine (plIs k _ h hk).mono ?_
    rintro e w' ⟨rfl, rfl⟩
    go_wp2_with fail
    refine (plPartNo who _ hwho).mono ?_
    rintro e w' ⟨rfl, rfl⟩
    go_wp2
    go_ret
    exact ⟨rfl, rfl⟩
theorem plOwnUsed (f g : Nat) (w : World) (h : PlIn w b s fb n G V L st S) (hf : f < n) (hg : g < 16) (hw : (atL S f).who ≠ -1) :
    Calls Try.prog 9 #[.pointer (some ⟨b, 0, none⟩), .int .i64 f, .int .i64 g] w fun e w' => e = .returned (.int .i64 5) ∧ w = w' := by
  obtain ⟨sb, cap, hv, hnc, hcm, hbs, hsb, d0, d1, hz⟩ := h.seat hf
  have c1 := h.cellT
  rw [hv] at c1
  obtain ⟨x, hx⟩ : ∃ x, (atL S f).who = x := ⟨_, rfl⟩
  rw [hx] at d0 hw
  clear hz d1 hx
  go_enter Try.func9, Try.ntmps9
  go_wp2_with fail
  refine (plNone _ h (by omega)).mono ?_
  rintro e w' ⟨rfl, rfl⟩
  go_wp2_with fail
  refine (plIs f _ h hf).mono ?_
  rintro e w' ⟨rfl, rfl⟩
  go_wp2_with fail
  refine (plPart g _ hg).mono ?_
  rintro e w' ⟨rfl, rfl⟩
  go_wp2
  go_ret
  exact ⟨rfl, rfl⟩
set_option maxRecDepth 20000 in
set_option maxHeartbeats 1000000 in
theorem plOwn (f g : Nat) (w : World) (h : PlAt w b s fb n G V L st S) (hf : f < n) (hg : g < 16) (hw : (atL S f).who = -1) :
    Calls Try.prog 9 #[.pointer (some ⟨b, 0, none⟩), .int .i64 f, .int .i64 g] w fun e w' => e = .returned (.int .i64 0) ∧ ∃ v' l', PlAt w' b s fb n (putF G (f * 64) 64 0) (setV V g v') (setV L g l') st (S.set f ⟨g, false⟩) ∧ Frs (tch b fb (V g) st) w w' ∧ (v'.ownBlock = (V g).ownBlock ∨ ∀ a, v'.ownBlock = some a → w.heap.size ≤ a) := by
  have hfS : f < S.length := by rw [h.len]; exact hf
  have htk : (atL S f).tk = false := by
    rcases h.who f hf with h1 | ⟨q, _, h1⟩
    · exact h1.2
    · rw [hw] at h1; omega
  obtain ⟨sb, cap, hv, hnc, hcm, hbs, hsb, d0, d1, hz⟩ := h.seat hf
  rw [hw] at d0
  have c1 := h.cellT
  have hst := own_st h.toPlIn hv
  have HV := Lib.hid hv
  rw [hv] at c1
  have hzz := hz (f * 2)
  clear hz d1
  go_enter Try.func9, Try.ntmps9
  go_wp2_with fail
  refine (plNone _ h.toPlIn (by omega)).mono ?_
  rintro e w' ⟨rfl, rfl⟩
  go_wp2_with fail
  refine (plIs f _ h.toPlIn hf).mono ?_
  rintro e w' ⟨rfl, rfl⟩
  go_wp2_with fail
  refine (plPart g _ hg).mono ?_
  rintro e w' ⟨rfl, rfl⟩
  go_wp2_with fail
  have h1 : PlIn (w.setCell ⟨sb, f * 2, none⟩ (.int .i64 g)) b s fb n G V L st (S.set f ⟨g, false⟩) := h.toPlIn.seatSet (x := ⟨g, false⟩) hf HV.out (j := 0) (by omega) (by rw [stEnc, stEnc, htk]; rfl) (.inr ⟨g, hg, rfl⟩)
  have f1 : Frs (tch b fb (V g) st) w (w.setCell ⟨sb, f * 2, none⟩ (.int .i64 g)) := Frs.of_upd (Upd.refl sb w).setCell (.inr (.inr (.inr hst)))
  have z1 : (w.setCell ⟨sb, f * 2, none⟩ (.int .i64 g)).heap.size = w.heap.size := by simp [World.setCell]
  generalize (w.setCell ⟨sb, f * 2, none⟩ (.int .i64 g)) = w1 at h1 f1 z1 ⊢
  refine (plPut f g _ h1 hf hg (by rw [atL_setS hfS, if_pos rfl]) (fun q hq => ?_)).mono ?_
  · rw [List.set_set]
    refine (h.perm q hq).trans ?_
    have := left_same (S := S) (q := q) (x := atL S f) (y := ⟨g, true⟩) hfS (by rw [hw]; simp <;> omega)
    rwa [set_self hfS] at this
  rintro e w2 ⟨rfl, v2, l2, h2, f2, o2⟩
  rw [List.set_set] at h2
  go_wp2
  go_ret
  exact ⟨rfl, v2, l2, h2, f1.trans f2, by rw [← z1]; exact o2⟩

theorem plTakeBad (g : Int) (w : World) (h : PlIn w b s fb n G V L st S) (hn : 0 < n) (hg : g < 0 ∨ 16 ≤ g) :
    Calls Try.prog 10 #[.pointer (some ⟨b, 0, none⟩), .int .i64 g] w fun e w' => e = .returned (.tuple #[.int .i64 0, .int .i64 1]) ∧ w = w' := by
  go_enter Try.func10, Try.ntmps10
  go_wp2_with fail
  refine (plNone _ h hn).mono ?_
  rintro e w' ⟨rfl, rfl⟩
  go_wp2_with fail
  refine (plPartNo g _ hg).mono ?_
  rintro e w' ⟨rfl, rfl⟩
  go_wp2
  go_ret2
  exact ⟨rfl, rfl⟩
theorem plTakeFull (g : Nat) (w : World) (h : PlIn w b s fb n G V L st S) (hn : 0 < n) (hg : g < 16) (hl : (L g).length = 0) :
    Calls Try.prog 10 #[.pointer (some ⟨b, 0, none⟩), .int .i64 g] w fun e w' => e = .returned (.tuple #[.int .i64 0, .int .i64 2]) ∧ w = w' := by
  have hl' : ((L g).length : Int) = 0 := by omega
  go_enter Try.func10, Try.ntmps10
  go_wp2_with fail
  refine (plNone _ h hn).mono ?_
  rintro e w' ⟨rfl, rfl⟩
  go_wp2_with fail
  refine (plPart g _ hg).mono ?_
  rintro e w' ⟨rfl, rfl⟩
  go_wp2_with fail
  refine (plLen b _ (V g) (L g) _ (plBlk_ok _ _ V hg) (h.row hg)).mono ?_
  rintro e w' ⟨rfl, rfl⟩
  rw [hl']
  go_wp2
  go_ret2
  exact ⟨rfl, rfl⟩
/-- The lowest that is left. -/
structure Low (S : List stIt) (g f : Nat) : Prop where
  lt : f < S.length
  who : (atL S f).who = g
  tk : (atL S f).tk = false
  low : ∀ k, k < f → ¬ ((atL S k).who = g ∧ (atL S k).tk = false)
theorem PlAt.top {w : World} (h : PlAt w b s fb n G V L st S) {g : Nat} (hg : g < 16) (hl : 0 < (L g).length) : ∃ f, Low S g f ∧ atL (L g) 0 = ⟨f⟩ := by
  obtain ⟨k, hk, h1, h2, h3⟩ := mem_leftL.1 ((h.perm g hg).subset (mem_atL hl))
  refine ⟨k, ⟨hk, h1, h2, fun j hj hc => ?_⟩, h3⟩
  have hin : (⟨j⟩ : plIt) ∈ L g := (h.perm g hg).symm.subset (mem_leftL.2 ⟨j, by omega, hc.1, hc.2, rfl⟩)
  obtain ⟨i, hi, hie⟩ := mem_is_atL hin
  have := heap_min plLt_ordered (h.heap g hg) i hi
  rw [← hie, h3] at this
  simp only [plLt, decide_eq_false_iff_not] at this
  omega
theorem PlAt.none_left {w : World} (h : PlAt w b s fb n G V L st S) {g : Nat} (hg : g < 16) (hl : (L g).length = 0) : ∀ k, k < n → ¬ ((atL S k).who = g ∧ (atL S k).tk = false) := by
  intro k hk hc
  have hin : (⟨k⟩ : plIt) ∈ L g := (h.perm g hg).symm.subset (mem_leftL.2 ⟨k, by rw [h.len]; exact hk, hc.1, hc.2, rfl⟩)
  rw [List.length_eq_zero_iff.1 hl] at hin
  cases hin
set_option maxRecDepth 20000 in
set_option maxHeartbeats 1000000 in
theorem plTake (g f : Nat) (w : World) (h : PlAt w b s fb n G V L st S) (hg : g < 16) (hl : 0 < (L g).length) (hlow : Low S g f) (ht : atL (L g) 0 = ⟨f⟩) :
    Calls Try.prog 10 #[.pointer (some ⟨b, 0, none⟩), .int .i64 g] w fun e w' => e = .returned (.tuple #[.int .i64 f, .int .i64 0]) ∧ ∃ v' l', PlAt w' b s fb n G (setV V g v') (setV L g l') st (S.set f ⟨g, true⟩) ∧ Frs (tch b fb (V g) st) w w' ∧ (v'.ownBlock = (V g).ownBlock ∨ ∀ a, v'.ownBlock = some a → w.heap.size ≤ a) := by
  have hl' : ¬ ((L g).length : Int) = 0 := by omega
  have hl'' : (((L g).length : Int) == 0) = false := by rw [beq_eq_false_iff_ne]; omega
  have hfS := hlow.lt
  have hf : f < n := by rw [← h.len]; exact hfS
  obtain ⟨m, hm⟩ : ∃ m, (L g).length = m + 1 := ⟨(L g).length - 1, by omega⟩
  have hlL : (L g).length ≤ 32 := by
    have h1 := (h.perm g hg).length_eq
    have h2 := left_le (S := S) (q := g)
    rw [h.len] at h2
    have := h.sto.1
    omega
  have hval : plVal (atL (L g) 0) = .iface 3 (.int .i64 f) := by rw [ht]
  have hta : ∀ w' : World, (Instr.typeAssert (.iface 3 (.int .i64 f)) 20 3 false).run Try.prog w' = .ok (.int .i64 f) w' := fun _ => by kernel_rfl
  have HV2 := Lib.hid hval
  clear hval
  go_enter Try.func10, Try.ntmps10
  go_wp2_with fail
  refine (plNone _ h.toPlIn h.pos).mono ?_
  rintro e w' ⟨rfl, rfl⟩
  go_wp2_with fail
  refine (plPart g _ hg).mono ?_
  rintro e w' ⟨rfl, rfl⟩
  go_wp2_with fail
  refine (plLen b _ (V g) (L g) _ (plBlk_ok _ _ V hg) (h.row hg)).mono ?_
  rintro e w' ⟨rfl, rfl⟩
  go_wp2_with fail
  refine (plHPop b _ (V g) (L g) m _ (plBlk_ok _ _ V hg) (h.row hg) hm (h.heap g hg) (by omega)).mono ?_
  rintro e w2 ⟨rfl, v2, l2, r2, hh2, hl2, p2, f2⟩
  rw [HV2.out]
  have h2 := h.toPlIn.put hg r2 hh2 f2
  obtain ⟨sb, cap, hv, hnc, hcm, hbs, hsb, d0, d1, hz⟩ := h2.seat hf
  have c1 := h2.cellT
  have hst := own_st h2 hv
  have HV := Lib.hid hv
  rw [hv] at c1
  have hzz := hz (f * 2 + 1)
  clear hz d0
  go_wp2
  go_ret2
  have h3 : PlIn (w2.setCell ⟨sb, f * 2 + 1, none⟩ (.bool true)) b s fb n G (setV V g v2) (setV L g l2) st (S.set f ⟨g, true⟩) := h2.seatSet (x := ⟨g, true⟩) hf HV.out (j := 1) (by omega) (by rw [stEnc, stEnc, hlow.who]; rfl) (.inr ⟨g, hg, rfl⟩)
  refine ⟨rfl, v2, l2, ⟨h3, fun q hq => ?_, h.pos⟩, (Frs.of_frm f2 (.inl rfl) (fun i hi => .inr (.inr (.inl hi)))).trans (Frs.of_upd (Upd.refl sb w2).setCell (.inr (.inr (.inr hst)))), f2.own⟩
  have hself := set_self hfS
  by_cases e : q = g
  · subst e
    rw [setV_at]
    refine List.Perm.trans ?_ (left_set hfS).symm
    rw [if_neg (by simp)]
    have h5 := left_set (S := S) (q := q) (x := atL S f) hfS
    rw [hself, if_pos ⟨hlow.who, hlow.tk⟩] at h5
    have h6 := (p2.trans (h.perm q hq)).trans h5
    rw [ht] at h6
    exact List.Perm.cons_inv (a := (⟨f⟩ : plIt)) h6
  · rw [setV_ne _ _ e]
    refine (h.perm q hq).trans ?_
    have := left_same (S := S) (q := q) (x := atL S f) (y := ⟨g, true⟩) hfS (by rw [hlow.who]; simp; omega)
    rwa [hself] at this

theorem plBackNo (f : Int) (w : World) (h : PlIn w b s fb n G V L st S) (hn : 0 < n) (hf : f < 0 ∨ (n : Int) ≤ f) :
    Calls Try.prog 11 #[.pointer (some ⟨b, 0, none⟩), .int .i64 f] w fun e w' => e = .returned (.int .i64 1) ∧ w = w' := by
  go_enter Try.func11, Try.ntmps11
  go_wp2_with fail
  refine (plNone _ h hn).mono ?_
  rintro e w' ⟨rfl, rfl⟩
  go_wp2_with fail
  refine (plIsNo f _ h hf).mono ?_
  rintro e w' ⟨rfl, rfl⟩
  go_wp2
  go_ret
  exact ⟨rfl, rfl⟩
theorem plBackFree (f : Nat) (w : World) (h : PlIn w b s fb n G V L st S) (hf : f < n) (ht : (atL S f).tk = false) :
    Calls Try.prog 11 #[.pointer (some ⟨b, 0, none⟩), .int .i64 f] w fun e w' => e = .returned (.int .i64 3) ∧ w = w' := by
  obtain ⟨sb, cap, hv, hnc, hcm, hbs, hsb, d0, d1, hz⟩ := h.seat hf
  have c1 := h.cellT
  rw [hv] at c1
  rw [ht] at d1
  clear hz d0
  go_enter Try.func11, Try.ntmps11
  go_wp2_with fail
  refine (plNone _ h (by omega)).mono ?_
  rintro e w' ⟨rfl, rfl⟩
  go_wp2_with fail
  refine (plIs f _ h hf).mono ?_
  rintro e w' ⟨rfl, rfl⟩
  go_wp2
  go_ret
  exact ⟨rfl, rfl⟩
theorem plBack (f : Nat) (w : World) (h : PlAt w b s fb n G V L st S) (hf : f < n) (ht : (atL S f).tk = true) :
    Calls Try.prog 11 #[.pointer (some ⟨b, 0, none⟩), .int .i64 f] w fun e w' => e = .returned (.int .i64 0) ∧ ∃ g v' l', g < 16 ∧ (atL S f).who = (g : Nat) ∧ PlAt w' b s fb n (putF G (f * 64) 64 0) (setV V g v') (setV L g l') st (S.set f ⟨g, false⟩) ∧ Frs (tch b fb (V g) st) w w' ∧ (v'.ownBlock = (V g).ownBlock ∨ ∀ a, v'.ownBlock = some a → w.heap.size ≤ a) := by
  have hfS : f < S.length := by rw [h.len]; exact hf
  obtain ⟨g, hg, hw⟩ : ∃ g : Nat, g < 16 ∧ (atL S f).who = g := by
    rcases h.who f hf with h1 | h1
    · rw [ht] at h1; cases h1.2
    · exact h1
  obtain ⟨sb, cap, hv, hnc, hcm, hbs, hsb, d0, d1, hz⟩ := h.seat hf
  have c1 := h.cellT
  rw [hv] at c1
  rw [ht] at d1
  clear hz d0 hv
  have hself : S.set f ⟨g, true⟩ = S := by
    have e : atL S f = ⟨g, true⟩ := by
      cases h' : atL S f with
      | mk a c =>
        rw [h'] at hw ht
        simp only at hw ht
        rw [hw, ht]
    rw [← e]; exact set_self hfS
  go_enter Try.func11, Try.ntmps11
  go_wp2_with fail
  refine (plNone _ h.toPlIn h.pos).mono ?_
  rintro e w' ⟨rfl, rfl⟩
  go_wp2_with fail
  refine (plIs f _ h.toPlIn hf).mono ?_
  rintro e w' ⟨rfl, rfl⟩
  go_wp2_with fail
  refine (plPut f g _ h.toPlIn hf hg hw (fun q hq => by rw [hself]; exact h.perm q hq)).mono ?_
  rintro e w2 ⟨rfl, v2, l2, h2, f2, o2⟩
  go_wp2
  go_ret
  exact ⟨rfl, g, v2, l2, hg, hw, h2, f2, o2⟩

theorem plWhoNo (f : Int) (w : World) (h : PlIn w b s fb n G V L st S) (hn : 0 < n) (hf : f < 0 ∨ (n : Int) ≤ f) :
    Calls Try.prog 14 #[.pointer (some ⟨b, 0, none⟩), .int .i64 f] w fun e w' => e = .returned (.tuple #[.int .i64 0, .bool false]) ∧ w = w' := by
  go_enter Try.func14, Try.ntmps14
  go_wp2_with fail
  refine (plNone _ h hn).mono ?_
  rintro e w' ⟨rfl, rfl⟩
  go_wp2_with fail
  refine (plIsNo f _ h hf).mono ?_
  rintro e w' ⟨rfl, rfl⟩
  go_wp2
  go_ret2
  exact ⟨rfl, rfl⟩
theorem plWhoNobody (f : Nat) (w : World) (h : PlIn w b s fb n G V L st S) (hf : f < n) (hw : (atL S f).who = -1) :
    Calls Try.prog 14 #[.pointer (some ⟨b, 0, none⟩), .int .i64 f] w fun e w' => e = .returned (.tuple #[.int .i64 0, .bool false]) ∧ w = w' := by
  obtain ⟨sb, cap, hv, hnc, hcm, hbs, hsb, d0, d1, hz⟩ := h.seat hf
  have c1 := h.cellT
  rw [hv] at c1
  rw [hw] at d0
  clear hz d1
  go_enter Try.func14, Try.ntmps14
  go_wp2_with fail
  refine (plNone _ h (by omega)).mono ?_
  rintro e w' ⟨rfl, rfl⟩
  go_wp2_with fail
  refine (plIs f _ h hf).mono ?_
  rintro e w' ⟨rfl, rfl⟩
  go_wp2
  go_ret2
  exact ⟨rfl, rfl⟩
theorem plWho (f g : Nat) (w : World) (h : PlIn w b s fb n G V L st S) (hf : f < n) (hw : (atL S f).who = g) :
    Calls Try.prog 14 #[.pointer (some ⟨b, 0, none⟩), .int .i64 f] w fun e w' => e = .returned (.tuple #[.int .i64 g, .bool true]) ∧ w = w' := by
  obtain ⟨sb, cap, hv, hnc, hcm, hbs, hsb, d0, d1, hz⟩ := h.seat hf
  have c1 := h.cellT
  rw [hv] at c1
  rw [hw] at d0
  have hg1 : ((g : Int) == -1) = false := by rw [beq_eq_false_iff_ne]; omega
  clear hz d1
  go_enter Try.func14, Try.ntmps14
  go_wp2_with fail
  refine (plNone _ h (by omega)).mono ?_
  rintro e w' ⟨rfl, rfl⟩
  go_wp2_with fail
  refine (plIs f _ h hf).mono ?_
  rintro e w' ⟨rfl, rfl⟩
  go_wp2
  go_ret2
  exact ⟨rfl, rfl⟩
theorem plTakenNo (f : Int) (w : World) (h : PlIn w b s fb n G V L st S) (hn : 0 < n) (hf : f < 0 ∨ (n : Int) ≤ f) :
    Calls Try.prog 15 #[.pointer (some ⟨b, 0, none⟩), .int .i64 f] w fun e w' => e = .returned (.bool false) ∧ w = w' := by
  go_enter Try.func15, Try.ntmps15
  go_wp2_with fail
  refine (plNone _ h hn).mono ?_
  rintro e w' ⟨rfl, rfl⟩
  go_wp2_with fail
  refine (plIsNo f _ h hf).mono ?_
  rintro e w' ⟨rfl, rfl⟩
  go_wp2
  go_ret
  exact ⟨rfl, rfl⟩
theorem plTaken (f : Nat) (w : World) (h : PlIn w b s fb n G V L st S) (hf : f < n) :
    Calls Try.prog 15 #[.pointer (some ⟨b, 0, none⟩), .int .i64 f] w fun e w' => e = .returned (.bool (atL S f).tk) ∧ w = w' := by
  obtain ⟨sb, cap, hv, hnc, hcm, hbs, hsb, d0, d1, hz⟩ := h.seat hf
  have c1 := h.cellT
  rw [hv] at c1
  clear hz d0
  go_enter Try.func15, Try.ntmps15
  go_wp2_with fail
  refine (plNone _ h (by omega)).mono ?_
  rintro e w' ⟨rfl, rfl⟩
  go_wp2_with fail
  refine (plIs f _ h hf).mono ?_
  rintro e w' ⟨rfl, rfl⟩
  go_wp2
  go_ret
  exact ⟨rfl, rfl⟩
theorem plLeftNo (g : Int) (w : World) (h : PlIn w b s fb n G V L st S) (hn : 0 < n) (hg : g < 0 ∨ 16 ≤ g) :
    Calls Try.prog 12 #[.pointer (some ⟨b, 0, none⟩), .int .i64 g] w fun e w' => e = .returned (.int .i64 0) ∧ w = w' := by
  go_enter Try.func12, Try.ntmps12
  go_wp2_with fail
  refine (plNone _ h hn).mono ?_
  rintro e w' ⟨rfl, rfl⟩
  go_wp2_with fail
  refine (plPartNo g _ hg).mono ?_
  rintro e w' ⟨rfl, rfl⟩
  go_wp2
  go_ret
  exact ⟨rfl, rfl⟩
theorem plLeft (g : Nat) (w : World) (h : PlIn w b s fb n G V L st S) (hn : 0 < n) (hg : g < 16) :
    Calls Try.prog 12 #[.pointer (some ⟨b, 0, none⟩), .int .i64 g] w fun e w' => e = .returned (.int .i64 (L g).length) ∧ w = w' := by
  go_enter Try.func12, Try.ntmps12
  go_wp2_with fail
  refine (plNone _ h hn).mono ?_
  rintro e w' ⟨rfl, rfl⟩
  go_wp2_with fail
  refine (plPart g _ hg).mono ?_
  rintro e w' ⟨rfl, rfl⟩
  go_wp2_with fail
  refine (plLen b _ (V g) (L g) _ (plBlk_ok _ _ V hg) (h.row hg)).mono ?_
  rintro e w' ⟨rfl, rfl⟩
  go_wp2
  go_ret
  exact ⟨rfl, rfl⟩
end
end Go.Proofs.Ytgcnmhlojfncpaa
