/- The walk of hermitagelaw30.OnewayZero: true at every input. -/
import Derived.Test.YtoigfpepdfbnkaaZ06
import Derived.Test.YtoigfpepdfbnkaaR06
namespace Go.Proofs.Ytoigfpepdfbnkaa
open Go.ChangeShapes Go.WideShapes Go.ChangeAt Go.RowKit
set_option linter.unusedVariables false

/-- A store of n frames that a call made. -/
def MadeAt (w : World) (p : Option Addr) (n : Nat) : Prop := ∃ s q c, p = some ⟨s, 0, none⟩ ∧ w.cell? ⟨s, 0, none⟩ = some (.slice q n c) ∧ w.cell? ⟨s, 1, none⟩ = some (.bool true)
theorem MadeAt.below {w w' : World} {p : Option Addr} {n : Nat} (h : MadeAt w p n) (hb : Below w.heap.size w w') : MadeAt w' p n :=
  let ⟨s, q, c, hp, h0, h1⟩ := h
  ⟨s, q, c, hp, (hb.cell (p := ⟨s, 0, none⟩) (block_lt_of_cell h0)).trans h0, (hb.cell (p := ⟨s, 1, none⟩) (block_lt_of_cell h1)).trans h1⟩

theorem Try.infoFrame : (Try.prog.info? 79).map (fun i => (i.zero, i.size, i.bytes)) = some (some (.agg (Array.replicate 64 (.int .u8 0))), 64, 64) := by kernel_rfl

set_option maxHeartbeats 1000000 in
theorem fnew_any (n : Nat) (w : World) (hn : n ≤ 32) :
    Calls Try.prog 12 #[.int .i64 n] w fun e w' => ∃ s, e = .returned (.tuple #[.pointer (some ⟨s, 0, none⟩), .int .i64 0]) ∧ MadeAt w' (some ⟨s, 0, none⟩) n ∧ Below w.heap.size w w' := by
  obtain ⟨i0, hi, hz0, hz1, hz2⟩ := info_parts Try.infoFrame
  have hn' : (n : Int) ≤ 32 := by omega
  go_enter Try.func12, Try.ntmps12
  go_wp2_with (first | (at_make; refine wpList_make_full _ rfl (.tmp 10) (.tmp 10) 38 rfl w.heap.size 79 i0 (.agg (Array.replicate 64 (.int .u8 0))) 64 Try.underlying38 hi hz0 hz1 _ _ _ _ n rfl rfl (by omega) (by omega) (by rw [hz2]; omega) (by unfold maxLen; omega) (Nat.le_refl _) ?_) | go_in)
  intro w1 hown hgrow
  have hb1 : Below w.heap.size w w1 := ⟨hgrow.os, hgrow.tape, hgrow.output, hgrow.size, fun i hi => hgrow.block i hi (by simp)⟩
  clear hown hgrow
  go_wp2
  go_ret2
  all_goals exact ⟨w1.heap.size, rfl, ⟨w1.heap.size, some ⟨w.heap.size, 0, none⟩, n, rfl, by simp [go_sem], by simp [go_sem]⟩, (Bel.of (Bel.refl w) hb1).alloc.1⟩

theorem none_made (p : Option Addr) (n : Nat) (w : World) (h : MadeAt w p n) : Calls Try.prog 37 #[.pointer p] w fun e w' => e = .returned (.bool false) ∧ Below w.heap.size w w' := by
  obtain ⟨s, q, c, rfl, h0, h1⟩ := h
  go_enter Try.func37, Try.ntmps37
  go_wp2
  go_ret
  exact ⟨rfl, Below.refl _ _⟩
theorem may_out (p : Option Addr) (n : Nat) (f : Int) (w : World) (h : MadeAt w p n) (hf : f < 0 ∨ (n : Int) ≤ f) : Calls Try.prog 35 #[.pointer p, .int .i64 f] w fun e w' => e = .returned (.int .i64 1) ∧ Below w.heap.size w w' := by
  have hnn : (0 : Int) ≤ n := Int.natCast_nonneg _
  have hf' : f < 0 ∨ (¬ f < 0 ∧ (n : Int) ≤ f) := by omega
  have h2 := h
  obtain ⟨s, q, c, rfl, h0, h1⟩ := h
  clear hf
  rcases hf' with hf | ⟨hf, hf2⟩
  all_goals
    go_enter Try.func35, Try.ntmps35
    go_wp2_with fail
    refine (Calls.lat (none_made _ _ _ h2)).mono ?_
    rintro e w' ⟨rfl, x, rfl⟩
    have hls : s < w.heap.size := block_lt_of_cell h0
    go_wp2
    go_ret
    exact ⟨rfl, (by refine (?_ : Bel _ _ _).1; repeat (first | exact hbel | exact Bel.refl _ | apply Bel.later | apply Bel.alloc | apply Bel.drew | (refine Bel.laterB ?_ (by first | exact Nat.le_refl _ | omega | (simp; omega) | simp)) | (refine Bel.setCell ?_ (by first | exact Nat.le_refl _ | omega | (simp; omega) | simp))))⟩

/-- Why a frame can't be read: 7 or 1. -/
def Bad (w : World) (p : Option Addr) (f E : Int) : Prop := (E = 7 ∨ E = 1) ∧ ∀ w', Below w.heap.size w w' → Calls Try.prog 35 #[.pointer p, .int .i64 f] w' fun e w'' => e = .returned (.int .i64 E) ∧ Below w'.heap.size w' w''
theorem bad_nil (w : World) (f : Int) : Bad w none f 7 := ⟨.inl rfl, fun w' _ => z_may none f w' (ZeroAt.nil _)⟩
theorem bad_out {w : World} {p : Option Addr} {n : Nat} {f : Int} (h : MadeAt w p n) (hf : f < 0 ∨ (n : Int) ≤ f) : Bad w p f 1 := ⟨.inr rfl, fun w' hb => may_out p n f w' (h.below hb) hf⟩
theorem Bad.below {w w' : World} {p : Option Addr} {f E : Int} (h : Bad w p f E) (hb : Below w.heap.size w w') : Bad w' p f E := ⟨h.1, fun w'' hb' => h.2 w'' (hb.trans (hb'.mono hb.size))⟩

theorem load_bad (p : Option Addr) (f o k E : Int) (w : World) (h : Bad w p f E) : Calls Try.prog 19 #[.pointer p, .int .i64 f, .int .i64 o, .int .i64 k] w fun e w' => e = .returned (.tuple #[.int .u32 0, .int .i64 E]) ∧ Below w.heap.size w w' := by
  obtain ⟨hE, hc⟩ := h
  rcases hE with rfl | rfl
  all_goals
    go_enter Try.func19, Try.ntmps19
    go_wp2_with fail
    refine (Calls.lat (hc _ (Below.refl _ _))).mono ?_
    rintro e w' ⟨rfl, x, rfl⟩
    go_wp2
    go_ret2
    exact ⟨rfl, (by refine (?_ : Bel _ _ _).1; repeat (first | exact hbel | exact Bel.refl _ | apply Bel.later | apply Bel.alloc | apply Bel.drew | (refine Bel.laterB ?_ (by first | exact Nat.le_refl _ | omega | (simp; omega) | simp)) | (refine Bel.setCell ?_ (by first | exact Nat.le_refl _ | omega | (simp; omega) | simp))))⟩
theorem head_bad (p : Option Addr) (f E : Int) (w : World) (h : Bad w p f E) : Calls Try.prog 31 #[.pointer p, .int .i64 f] w fun e w' => e = .returned (.tuple #[.int .u32 0, .int .i64 E]) ∧ Below w.heap.size w w' := by
  go_enter Try.func31, Try.ntmps31
  go_wp2_with fail
  refine (Calls.lat (load_bad _ _ _ _ _ _ h)).mono ?_
  rintro e w' ⟨rfl, x, rfl⟩
  go_wp2
  go_ret2
  exact ⟨rfl, (by refine (?_ : Bel _ _ _).1; repeat (first | exact hbel | exact Bel.refl _ | apply Bel.later | apply Bel.alloc | apply Bel.drew | (refine Bel.laterB ?_ (by first | exact Nat.le_refl _ | omega | (simp; omega) | simp)) | (refine Bel.setCell ?_ (by first | exact Nat.le_refl _ | omega | (simp; omega) | simp))))⟩
theorem send_bad (p : Option Addr) (f v E : Int) (w : World) (h : Bad w p f E) : Calls Try.prog 28 #[.pointer p, .int .i64 f, .int .u32 v] w fun e w' => e = .returned (.int .i64 E) ∧ Below w.heap.size w w' := by
  have h2 := h
  obtain ⟨hE, _⟩ := h
  rcases hE with rfl | rfl
  all_goals
    go_enter Try.func28, Try.ntmps28
    go_wp2_with fail
    refine (Calls.lat (head_bad _ _ _ _ h2)).mono ?_
    rintro e w' ⟨rfl, x, rfl⟩
    go_wp2
    go_ret
    exact ⟨rfl, (by refine (?_ : Bel _ _ _).1; repeat (first | exact hbel | exact Bel.refl _ | apply Bel.later | apply Bel.alloc | apply Bel.drew | (refine Bel.laterB ?_ (by first | exact Nat.le_refl _ | omega | (simp; omega) | simp)) | (refine Bel.setCell ?_ (by first | exact Nat.le_refl _ | omega | (simp; omega) | simp))))⟩
set_option maxHeartbeats 200000 in
theorem recv_bad (p : Option Addr) (f v E : Int) (w : World) (h : Bad w p f E) : Calls Try.prog 29 #[.pointer p, .int .i64 f, .int .u32 v] w fun e w' => e = .returned (.tuple #[.agg #[.int .u32 0, .int .u32 0, .int .u32 0, .bool false], .int .i64 E]) ∧ Below w.heap.size w w' := by
  have h2 := h
  obtain ⟨hE, _⟩ := h
  rcases hE with rfl | rfl
  · go_enter Try.func29, Try.ntmps29
    go_wp2_with fail
    refine (Calls.lat (head_bad _ _ _ _ (h2.below (Bel.refl w).alloc.1))).mono ?_
    rintro e w' ⟨rfl, x, rfl⟩
    go_wp2
    exact bodyPost_ret (v := .tuple #[.agg #[.int .u32 0, .int .u32 0, .int .u32 0, .bool false], .int .i64 7]) (by simp [results, Try.results29, go_sem]) rfl ⟨rfl, ((((((Bel.refl w).alloc.later).setCell (p := ⟨w.heap.size, 0, none⟩) (Nat.le_refl _)).setCell (p := ⟨w.heap.size, 1, none⟩) (Nat.le_refl _)).setCell (p := ⟨w.heap.size, 2, none⟩) (Nat.le_refl _)).setCell (p := ⟨w.heap.size, 3, none⟩) (Nat.le_refl _)).1⟩
  · go_enter Try.func29, Try.ntmps29
    go_wp2_with fail
    refine (Calls.lat (head_bad _ _ _ _ (h2.below (Bel.refl w).alloc.1))).mono ?_
    rintro e w' ⟨rfl, x, rfl⟩
    go_wp2
    exact bodyPost_ret (v := .tuple #[.agg #[.int .u32 0, .int .u32 0, .int .u32 0, .bool false], .int .i64 1]) (by simp [results, Try.results29, go_sem]) rfl ⟨rfl, ((((((Bel.refl w).alloc.later).setCell (p := ⟨w.heap.size, 0, none⟩) (Nat.le_refl _)).setCell (p := ⟨w.heap.size, 1, none⟩) (Nat.le_refl _)).setCell (p := ⟨w.heap.size, 2, none⟩) (Nat.le_refl _)).setCell (p := ⟨w.heap.size, 3, none⟩) (Nat.le_refl _)).1⟩

set_option maxHeartbeats 400000 in
theorem made_nil (w : World) : Calls Try.prog 27 #[.slice none 0 0] w fun e w' => ∃ s t, e = .returned (.tuple #[.pointer (some ⟨s, 0, none⟩), .pointer (some ⟨t, 0, none⟩)]) ∧ MadeAt w' (some ⟨s, 0, none⟩) 2 ∧ Below w.heap.size w w' := by
  go_enter Try.func27, Try.ntmps27
  go_wp2_with fail
  refine (fnew_any 2 _ (by omega)).mono ?_
  rintro e w1 ⟨s, rfl, hm, hb1⟩
  go_wp2_with fail
  refine (rnew_any 2 _ (by omega)).mono ?_
  rintro e w2 ⟨t, rfl, hb2⟩
  have hbel : Bel w.heap.size w w2 := Bel.of (Bel.of (Bel.refl w) hb1) hb2
  go_wp2_with fail
  refine wp_loop_rounds 1 ?_
  rw [rounds_succ]
  go_wp2
  go_ret2
  exact ⟨s, t, rfl, hm.below hb2, hbel.1⟩

set_option maxRecDepth 100000 in
set_option maxHeartbeats 1000000 in
theorem onewayZero_walk (a0 : Int) (a1 : Int) (w : World) (w0 : (Lit.int .i64 a0).wf = true) (w1 : (Lit.int .u32 a1).wf = true) :
    Calls Try.prog 9 #[.int .i64 a0, .int .u32 a1] w fun e w' => e = .returned (.bool true) ∧ Below w.heap.size w w' := by
  go_enter Try.func9, Try.ntmps9
  go_wp2_with fail
  refine (Calls.lat (recv_bad none a0 a1 7 _ (bad_nil _ _))).mono ?_
  rintro e w' ⟨rfl, x1, rfl⟩
  go_wp2_with fail
  refine (Calls.lat (head_bad none a0 7 _ (bad_nil _ _))).mono ?_
  rintro e w' ⟨rfl, x2, rfl⟩
  go_wp2_with fail
  refine (made_nil _).mono ?_
  rintro e w3 ⟨s, t, rfl, hm, hb3⟩
  have hbel : Bel w.heap.size w w3 := Bel.of (by repeat (first | exact hbel | exact Bel.refl _ | apply Bel.later | apply Bel.alloc | apply Bel.drew | (refine Bel.laterB ?_ (by first | exact Nat.le_refl _ | omega | (simp; omega) | simp)) | (refine Bel.setCell ?_ (by first | exact Nat.le_refl _ | omega | (simp; omega) | simp)))) hb3
  go_wp2_with fail
  refine (Calls.lat (recv_bad _ 2 a1 1 _ (bad_out hm (.inr (by omega))))).mono ?_
  rintro e w' ⟨rfl, x4, rfl⟩
  go_wp2_with fail
  refine (Calls.lat (send_bad none a0 a1 7 _ (bad_nil _ _))).mono ?_
  rintro e w' ⟨rfl, x5, rfl⟩
  go_wp2_with fail
  refine (Calls.lat (send_bad _ (-1) a1 1 _ (bad_out (((hm.below (later_below w3 x4)).below (Bel.refl _).alloc.1).below (later_below _ x5)) (.inl (by omega))))).mono ?_
  rintro e w' ⟨rfl, x6, rfl⟩
  go_wp2_with fail
  go_ret
  exact ⟨rfl, (by refine (?_ : Bel _ _ _).1; repeat (first | exact hbel | exact Bel.refl _ | apply Bel.later | apply Bel.alloc | apply Bel.drew | (refine Bel.laterB ?_ (by first | exact Nat.le_refl _ | omega | (simp; omega) | simp)) | (refine Bel.setCell ?_ (by first | exact Nat.le_refl _ | omega | (simp; omega) | simp))))⟩

end Go.Proofs.Ytoigfpepdfbnkaa
