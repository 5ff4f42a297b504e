/- shadow: acts that came in. -/
import Derived.Test.YthppjkpejnaocaaShP
namespace Go.Proofs.Ythppjkpejnaocaa
open Go.ChangeShapes Go.WideShapes Go.ChangeAt Go.RowKit
set_option linter.unusedVariables false

abbrev actK : List (Option IntKind) := [some .i64, some .i64, some .i64, some .i64, some .i64, some .i64, some .i64, some .i64]
/-- The i-th act, where it lies. -/
structure ActAt (w : World) (b o : Nat) (a : act) : Prop where
  lt : b < w.heap.size
  c0 : w.cell? ⟨b, o, none⟩ = some (.int .i64 a.kd)
  c1 : w.cell? ⟨b, o + 1, none⟩ = some (.int .i64 a.x.kr)
  c2 : w.cell? ⟨b, o + 2, none⟩ = some (.int .i64 a.x.kp)
  c3 : w.cell? ⟨b, o + 3, none⟩ = some (.int .i64 a.x.ep)
  c4 : w.cell? ⟨b, o + 4, none⟩ = some (.int .i64 a.x.ef)
  c5 : w.cell? ⟨b, o + 5, none⟩ = some (.int .i64 a.x.er)
  c6 : w.cell? ⟨b, o + 6, none⟩ = some (.int .i64 a.x.rt)
  c7 : w.cell? ⟨b, o + 7, none⟩ = some (.int .i64 a.x.lf)
theorem acts_at {w : World} {p : Option Addr} {n c : Nat} {f : Nat → List Value} (h : SliceOk actK w p n c f) {i : Nat} (hi : i < n) : ∃ b o a, p = some ⟨b, o, none⟩ ∧ ActAt w b (o + i * 8) a := by
  obtain ⟨b, o, hp, hb, hr, hc⟩ := h.at hi
  obtain ⟨y0, r, hf, _, hr⟩ := rowOk_int hr
  obtain ⟨y1, r, rfl, _, hr⟩ := rowOk_int hr
  obtain ⟨y2, r, rfl, _, hr⟩ := rowOk_int hr
  obtain ⟨y3, r, rfl, _, hr⟩ := rowOk_int hr
  obtain ⟨y4, r, rfl, _, hr⟩ := rowOk_int hr
  obtain ⟨y5, r, rfl, _, hr⟩ := rowOk_int hr
  obtain ⟨y6, r, rfl, _, hr⟩ := rowOk_int hr
  obtain ⟨y7, r, rfl, _, hr⟩ := rowOk_int hr
  obtain rfl := rowOk_nil hr
  refine ⟨b, o, ⟨y0, ⟨y1, y2, y3, y4, y5, y6, y7⟩⟩, hp, ⟨hb, ?_, ?_, ?_, ?_, ?_, ?_, ?_, ?_⟩⟩
  · have := hc 0 (by simp); rw [hf] at this; simpa [Nat.add_assoc] using this
  · have := hc 1 (by simp); rw [hf] at this; simpa [Nat.add_assoc] using this
  · have := hc 2 (by simp); rw [hf] at this; simpa [Nat.add_assoc] using this
  · have := hc 3 (by simp); rw [hf] at this; simpa [Nat.add_assoc] using this
  · have := hc 4 (by simp); rw [hf] at this; simpa [Nat.add_assoc] using this
  · have := hc 5 (by simp); rw [hf] at this; simpa [Nat.add_assoc] using this
  · have := hc 6 (by simp); rw [hf] at this; simpa [Nat.add_assoc] using this
  · have := hc 7 (by simp); rw [hf] at this; simpa [Nat.add_assoc] using this
theorem ActAt.below {w w' : World} {b o : Nat} {a : act} {B : Nat} (h : ActAt w b o a) (hb : Below B w w') (hB : w.heap.size ≤ B) : ActAt w' b o a := by
  have hx := h.lt
  have key : ∀ q, w'.cell? ⟨b, q, none⟩ = w.cell? ⟨b, q, none⟩ := fun q => hb.cell (p := ⟨b, q, none⟩) (show b < B by omega)
  exact ⟨Nat.lt_of_lt_of_le hx hb.size, (key _).trans h.c0, (key _).trans h.c1, (key _).trans h.c2, (key _).trans h.c3, (key _).trans h.c4, (key _).trans h.c5, (key _).trans h.c6, (key _).trans h.c7⟩
end Go.Proofs.Ythppjkpejnaocaa
