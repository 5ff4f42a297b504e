/- The walk of hermitagelaw30.OnewayZero: true at every input. -/
import Derived.Test.YtgcnmhlojfncpaaZ06
import Derived.Test.YtgcnmhlojfncpaaR06
namespace Go.Proofs.Ytgcnmhlojfncpaa
open Go.ChangeShapes Go.WideShapes Go.ChangeAt Go.RowKit
set_option linter.unusedVariables false

/-- A store of n frames that a call made. -/
def MadeAt (w : World) (p : Option Addr) (n : Nat) : Prop := ∃ s q c, p = some ⟨s, 0, none⟩ ∧ w.cell? ⟨s, 0, none⟩ = some (.slice q n c) ∧ w.cell? ⟨s, 1, none⟩ = some (.bool true)
theorem MadeAt.below {w w' : World} {p : Option Addr} {n : Nat} (h : MadeAt w p n) (hb : Below w.heap.size w w') : MadeAt w' p n :=
  let ⟨s, q, c, hp, h0, h1⟩ := h
  ⟨s, q, c, hp, (hb.cell (p := ⟨s, 0, none⟩) (block_lt_of_cell h0)).trans h0, (hb.cell (p := ⟨s, 1, none⟩) (block_lt_of_cell h1)).trans h1⟩

theorem Try.infoFrame : (Try.prog.info? 79).map (fun i => (i.zero, i.size, i.bytes)) = some (some (.agg (Array.replicate 64 (.int .u8 0))), 64, 64) := by kernel_rfl

set_option maxHeartbeats 1000000 in
theorem fnew_any (n : Nat) (w : World) (hn : n ≤ 32) :
    Calls Try.prog 7 #[.int .i64 n] w fun e w' => ∃ s, e = .returned (.tuple #[.pointer (some ⟨s, 0, none⟩), .int .i64 0]) ∧ MadeAt w' (some ⟨s, 0, none⟩) n ∧ Below w.heap.size w w' := by
  obtain ⟨i0, hi, hz0, hz1, hz2⟩ := info_parts Try.infoFrame
  have hn' : (n : Int) ≤ 32 := by omega
  go_enter Try.func7, Try.ntmps7
  go_wp2_with (first | (at_make; refine wpList_make_full _ rfl (.tmp 10) (.tmp 10) 66 rfl w.heap.size 79 i0 (.agg (Array.replicate 64 (.int .u8 0))) 64 Try.underlying66 hi hz0 hz1 _ _ _ _ n rfl rfl (by omega) (by omega) (by rw [hz2]; omega) (by unfold maxLen; omega) (Nat.le_refl _) ?_) | go_in)
  intro w1 hown hgrow
  have hb1 : Below w.heap.size w w1 := ⟨hgrow.os, hgrow.tape, hgrow.output, hgrow.size, fun i hi => hgrow.block i hi (by simp)⟩
  clear hown hgrow
  go_wp2
  go_ret2
  all_goals exact ⟨w1.heap.size, rfl, ⟨w1.heap.size, some ⟨w.heap.size, 0, none⟩, n, rfl, by simp [go_sem], by simp [go_sem]⟩, (Bel.of (Bel.refl w) hb1).alloc.1⟩

theorem none_made (p : Option Addr) (n : Nat) (w : World) (h : MadeAt w p n) : Calls Try.prog 39 #[.pointer p] w fun e w' => e = .returned (.bool false) ∧ Below w.heap.size w w' := by
  obtain ⟨s, q, c, rfl, h0, h1⟩ := h
  go_enter Try.func39, Try.ntmps39
  go_wp2
  go_ret
  exact ⟨rfl, Below.refl _ _⟩
theorem may_out (p : Option Addr) (n : Nat) (f : Int) (w : World) (h : MadeAt w p n) (hf : f < 0 ∨ (n : Int) ≤ f) : Calls Try.prog 36 #[.pointer p, .int .i64 f] w fun e w' => e = .returned (.int .i64 1) ∧ Below w.heap.size w w' := by
  have hnn : (0 : Int) ≤ n := Int.natCast_nonneg _
  have hf' : f < 0 ∨ (¬ f < 0 ∧ (n : Int) ≤ f) := by omega
  have h2 := h
  obtain ⟨s, q, c, rfl, h0, h1⟩ := h
  clear hf
  rcases hf' with hf | ⟨hf, hf2⟩
  all_goals
    go_enter Try.func36, Try.ntmps36
    go_wp2_with fail
    refine (Calls.lat (none_made _ _ _ h2)).mono ?_
    rintro e w' ⟨rfl, x, rfl⟩
    have hls : s < w.heap.size := block_lt_of_cell h0
    go_wp2
    go_ret
    exact ⟨rfl, (by refine (?_ : Bel _ _ _).1; repeat (first | exact hbel | exact Bel.refl _ | apply Bel.later | apply Bel.alloc | apply Bel.drew | (refine Bel.laterB ?_ (by first | exact Nat.le_refl _ | omega | (simp; omega) | simp)) | (refine Bel.setCell ?_ (by first | exact Nat.le_refl _ | omega | (simp; omega) | simp))))⟩

/-- Why a frame can't be read: 7 or 1. -/
def Bad (w : World) (p : Option Addr) (f E : Int) : Prop := (E = 7 ∨ E = 1) ∧ ∀ w', Below w.heap.size w w' → Calls Try.prog 36 #[.pointer p, .int .i64 f] w' fun e w'' => e = .returned (.int .i64 E) ∧ Below w'.heap.size w' w''
theorem bad_nil (w : World) (f : Int) : Bad w none f 7 := ⟨.inl rfl, fun w' _ => z_may none f w' (ZeroAt.nil _)⟩
theorem bad_out {w : World} {p : Option Addr} {n : Nat} {f : Int} (h : MadeAt w p n) (hf : f < 0 ∨ (n : Int) ≤ f) : Bad w p f 1 := ⟨.inr rfl, fun w' hb => may_out p n f w' (h.below hb) hf⟩
theorem Bad.below {w w' : World} {p : Option Addr} {f E : Int} (h : Bad w p f E) (hb : Below w.heap.size w w') : Bad w' p f E := ⟨h.1, fun w'' hb' => h.2 w'' (hb.trans (hb'.mono hb.size))⟩

end Go.Proofs.Ytgcnmhlojfncpaa
