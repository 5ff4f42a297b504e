/- The reference's store of frames: Is, Load, Save, Clear, Bytes, Clean. -/
import Derived.Test.YtgcnmhlojfncpaaR06x
import Derived.Deep.RegionHeld3
namespace Go.Proofs.Ytgcnmhlojfncpaa
open Go.ChangeShapes Go.WideShapes Go.ChangeAt Go.RowKit
set_option linter.unusedVariables false

theorem is_of (t rb n : Nat) (f : Int) (G : Nat → Int) (w : World) (h : RStoAt w t rb n G) (hw : (Lit.int .i64 f).wf = true) : Calls Try.prog 27 #[.pointer (some ⟨t, 0, none⟩), .int .i64 f] w fun e w' => e = .returned (.bool (decide (0 ≤ f ∧ f < n))) ∧ w = w' := by
  obtain ⟨q, c, h0⟩ := h.cell0
  clear h
  by_cases h1 : 0 ≤ f
  · go_enter Try.func27, Try.ntmps27
    go_wp2
    go_ret
    exact ⟨ret_bool (by simp [h1]), rfl⟩
  · go_enter Try.func27, Try.ntmps27
    go_wp2
    go_ret
    exact ⟨ret_bool (by simp; omega), rfl⟩
theorem is_yes (t rb n f : Nat) (G : Nat → Int) (w : World) (h : RStoAt w t rb n G) (hf : f < n) : Calls Try.prog 27 #[.pointer (some ⟨t, 0, none⟩), .int .i64 f] w fun e w' => e = .returned (.bool true) ∧ w = w' := by
  have hn := h.1
  refine (is_of t rb n f G w h (by simp [Lit.wf, IntKind.min, IntKind.max, IntKind.bits, IntKind.signed]; omega)).mono ?_
  rintro e w' ⟨rfl, rfl⟩
  exact ⟨ret_bool (by simp; omega), rfl⟩
theorem is_no (t rb n : Nat) (f : Int) (G : Nat → Int) (w : World) (h : RStoAt w t rb n G) (hw : (Lit.int .i64 f).wf = true) (hf : f < 0 ∨ (n : Int) ≤ f) : Calls Try.prog 27 #[.pointer (some ⟨t, 0, none⟩), .int .i64 f] w fun e w' => e = .returned (.bool false) ∧ w = w' := by
  refine (is_of t rb n f G w h hw).mono ?_
  rintro e w' ⟨rfl, rfl⟩
  exact ⟨ret_bool (by simp; omega), rfl⟩

theorem rsave_in (t rb n f a m : Nat) (v : Int) (G : Nat → Int) (w : World) (h : RStoAt w t rb n G) (hf : f < n) (hm : m = 1 ∨ m = 2 ∨ m = 4) (ha : a + m ≤ 64) (hv0 : 0 ≤ v) (hv1 : v ≤ 4294967295) :
    Calls Try.prog 22 #[.pointer (some ⟨t, 0, none⟩), .int .i64 f, .int .i64 a, .int .i64 m, .int .u32 v] w fun e w' => e = .returned (.int .i64 0) ∧ Upd rb w w' ∧ RStoAt w' t rb n (putF G (f * 64 + a) m v) := by
  obtain ⟨c, g, c', h0, hnc, hcm, hrb, h1, h2, h64, hcm', hr⟩ := h.row hf
  have hn1 : (0 : Int) ≤ f := by omega
  have hn2 : (f : Int) < n := by omega
  have hty : (Lit.int .i64 (f : Int)).wf = true := by
    have := h.1
    simp [Lit.wf, IntKind.min, IntKind.max, IntKind.bits, IntKind.signed]; omega
  go_enter Try.func22, Try.ntmps22
  go_wp2_with fail
  refine (is_yes _ _ _ _ _ _ h hf).mono ?_
  rintro e w' ⟨rfl, rfl⟩
  go_wp2_with fail
  refine (rput_in g 0 64 c' a m v _ _ hr.bat hm ha (by omega) hv0 hv1).mono ?_
  rintro e w2 ⟨g2, cap, rfl, hle, hcm2, hgb, hrow, hb2⟩
  have hst := h.below hb2
  obtain ⟨c, g, c', d0, _, _, _, d1, d2, _, _, _⟩ := hst.row hf
  rw [putF_fr] at hrow
  have hfin := hst.set (G' := putF G (f * 64 + a) m v) hf (byt_putF h.2.1 _ _ _) (fun k _ hk i hi => fr_other G f k a m v ha hk i hi) hle hcm2 hrow
  have hb : Upd rb w w2 := .of_below hb2
  clear h hr h0 h1 h2 hst hrow hm
  go_wp2
  go_ret
  exact ⟨rfl, hb.setCell, hfin⟩
theorem rsave_out (t rb n f : Nat) (a m v : Int) (G : Nat → Int) (w : World) (h : RStoAt w t rb n G) (hf : f < n) (hi : ¬ inP 64 a m) (hm : (Lit.int .i64 m).wf = true) :
    Calls Try.prog 22 #[.pointer (some ⟨t, 0, none⟩), .int .i64 f, .int .i64 a, .int .i64 m, .int .u32 v] w fun e w' => e = .returned (.int .i64 1) ∧ w = w' := by
  obtain ⟨c, g, c', h0, hnc, hcm, hrb, h1, h2, h64, hcm', hr⟩ := h.row hf
  have hn1 : (0 : Int) ≤ f := by omega
  have hn2 : (f : Int) < n := by omega
  go_enter Try.func22, Try.ntmps22
  go_wp2_with fail
  refine (is_yes _ _ _ _ _ _ h hf).mono ?_
  rintro e w' ⟨rfl, rfl⟩
  go_wp2_with fail
  refine (rput_out _ _ _ _ _ _ _ hi (by omega) hm).mono ?_
  rintro e w' ⟨rfl, rfl⟩
  go_wp2_with fail
  go_ret
  exact ⟨rfl, rfl⟩
theorem rsave_no (t rb n : Nat) (f a m v : Int) (G : Nat → Int) (w : World) (h : RStoAt w t rb n G) (hw : (Lit.int .i64 f).wf = true) (hf : f < 0 ∨ (n : Int) ≤ f) :
    Calls Try.prog 22 #[.pointer (some ⟨t, 0, none⟩), .int .i64 f, .int .i64 a, .int .i64 m, .int .u32 v] w fun e w' => e = .returned (.int .i64 1) ∧ w = w' := by
  go_enter Try.func22, Try.ntmps22
  go_wp2_with fail
  refine (is_no _ _ _ _ _ _ h hw hf).mono ?_
  rintro e w' ⟨rfl, rfl⟩
  go_wp2_with fail
  go_ret
  exact ⟨rfl, rfl⟩

theorem zero_fr (G : Nat → Int) (f : Nat) : ∀ i, i < 64 → fr (putF G (f * 64) 64 0) f i = 0 := by
  intro i hi
  unfold fr putF
  rw [if_pos (by omega)]
  simp

set_option maxHeartbeats 1000000 in
theorem rclear_in (t rb n f : Nat) (G : Nat → Int) (w : World) (h : RStoAt w t rb n G) (hf : f < n) :
    Calls Try.prog 35 #[.pointer (some ⟨t, 0, none⟩), .int .i64 f] w fun e w' => e = .returned (.int .i64 0) ∧ Upd rb w w' ∧ RStoAt w' t rb n (putF G (f * 64) 64 0) := by
  obtain ⟨c, g, c', h0, hnc, hcm, hrb, h1, h2, h64, hcm', hr⟩ := h.row hf
  have hn1 : (0 : Int) ≤ f := by omega
  have hn2 : (f : Int) < n := by omega
  have ht := h.lt
  have hmk : ∀ w : World, (Instr.makeSlice 22 (.int .i64 64) (.int .i64 64)).run Try.prog w = .ok (.slice (some ⟨w.heap.size, 0, none⟩) 64 64) (w.alloc (.cells zeros64 5)) := fun _ => by kernel_rfl
  have hnew : RowAt ((w.drew).alloc (.cells zeros64 5)) w.heap.size 64 (fr (putF G (f * 64) 64 0) f) := by
    refine ⟨_, Go.heap_alloc_new w.drew _, fun i hi => ?_, fr_byt (byt_putF h.2.1 _ _ _) f⟩
    rw [zero_fr G f i hi]
    simp [zeros64, hi]
  have hfin := (h.drew.alloc (o := .cells zeros64 5)).set (G' := putF G (f * 64) 64 0) hf (byt_putF h.2.1 _ _ _) (fun k _ hk i hi => fr_other G f k 0 64 0 (by omega) hk i hi) (Nat.le_refl 64) (by unfold maxLen; omega) hnew
  have hu : Upd rb w ((w.drew).alloc (.cells zeros64 5)) := (Upd.refl rb w).drew.alloc
  go_enter Try.func35, Try.ntmps35
  go_wp2_with fail
  refine (is_yes _ _ _ _ _ _ h hf).mono ?_
  rintro e w' ⟨rfl, rfl⟩
  have hcomm : (w.drew.alloc (.cells zeros64 5)).setCell ⟨rb, f, none⟩ (.slice (some ⟨w.heap.size, 0, none⟩) 64 64) = ((w.setCell ⟨rb, f, none⟩ (.slice (some ⟨w.heap.size, 0, none⟩) 64 64)).alloc (.cells zeros64 5)).drew := by simp [go_sem, hrb]
  have hu2 := hu.setCell (o := f) (s := none) (u := .slice (some ⟨w.heap.size, 0, none⟩) 64 64)
  rw [hcomm] at hfin hu2
  have H := Lib.hid hfin
  have Hu := Lib.hid hu2
  clear h hr hfin hnew hu hu2 hcomm
  go_wp2_with fail
  go_region
  all_goals
    go_wp2
    go_ret
    exact ⟨rfl, Hu.out, H.out⟩
theorem rclear_no (t rb n : Nat) (f : Int) (G : Nat → Int) (w : World) (h : RStoAt w t rb n G) (hw : (Lit.int .i64 f).wf = true) (hf : f < 0 ∨ (n : Int) ≤ f) :
    Calls Try.prog 35 #[.pointer (some ⟨t, 0, none⟩), .int .i64 f] w fun e w' => e = .returned (.int .i64 1) ∧ w = w' := by
  go_enter Try.func35, Try.ntmps35
  go_wp2_with fail
  refine (is_no _ _ _ _ _ _ h hw hf).mono ?_
  rintro e w' ⟨rfl, rfl⟩
  go_wp2_with fail
  go_ret
  exact ⟨rfl, rfl⟩

end Go.Proofs.Ytgcnmhlojfncpaa
