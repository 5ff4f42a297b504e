/- law 33: the inputs of an argument, read as items. -/
import Derived.Test.YtjlhdbkhebfghaaInW
import Derived.Test.YtjlhdbkhebfghaaKitS
namespace Go.Proofs.Ytjlhdbkhebfghaa
open Go.ChangeShapes Go.WideShapes Go.ChangeAt Go.RowKit
set_option linter.unusedVariables false

def mkIn (i : Nat) : List Value → inIt
  | [.int _ a, .int _ b, .int _ c, .int _ d, .string s] => ⟨a, b, c, d, s, i⟩
  | _ => default
theorem mkIn_arg {i : Nat} {vs : List Value} (h : rowOkS [.int .i64, .int .i64, .int .i64, .int .i64, .str] vs) : inArg (mkIn i vs) = vs ∧ (mkIn i vs).pl = i := by
  obtain ⟨v1, r1, rfl, ⟨a, rfl, _⟩, h1⟩ := rowOk_consS h
  obtain ⟨v2, r2, rfl, ⟨b, rfl, _⟩, h2⟩ := rowOk_consS h1
  obtain ⟨v3, r3, rfl, ⟨c, rfl, _⟩, h3⟩ := rowOk_consS h2
  obtain ⟨v4, r4, rfl, ⟨d, rfl, _⟩, h4⟩ := rowOk_consS h3
  obtain ⟨v5, r5, rfl, ⟨s, rfl⟩, h5⟩ := rowOk_consS h4
  obtain rfl := rowOk_nilS h5
  exact ⟨rfl, rfl⟩
theorem atL_map_range {α : Type} [Inhabited α] (f : Nat → α) {n i : Nat} (hi : i < n) : atL ((List.range n).map f) i = f i := by
  rw [atL_eq (by simpa using hi)]
  simp
theorem items_of_arg {w : World} {p : Option Addr} {n c : Nat} {f : Nat → List Value} (h : SliceOkS [.int .i64, .int .i64, .int .i64, .int .i64, .str] w p n c f) : ∃ A, ItemsAt 5 inArg w p n A ∧ ∀ i, i < n → (atL A i).pl = i := by
  refine ⟨(List.range n).map fun i => mkIn i (f i), ⟨by simp, fun hn => ?_⟩, fun i hi => ?_⟩
  · obtain ⟨hle, _, _, hx⟩ := h
    obtain ⟨b, off, ha, hb, hc⟩ := hx (by omega)
    refine ⟨b, off, ha, hb, fun i hi j hj => ?_⟩
    obtain ⟨h1, h2⟩ := hc i (by omega)
    have h3 := h2 j hj
    rw [atL_map_range _ hi, (mkIn_arg h1).1]
    have hl : (f i).length = 5 := rowOk_lengthS h1
    rw [List.getElem?_eq_getElem (by omega)]
    simp only [List.length_cons, List.length_nil, ← Nat.add_assoc] at h3
    rw [show (0 + 1 + 1 + 1 + 1 + 1 : Nat) = 5 by rfl] at h3
    rw [h3]
    simp [List.getD, List.getElem?_eq_getElem (show j < (f i).length by omega)]
  · obtain ⟨hle, _, _, hx⟩ := h
    obtain ⟨b, off, ha, hb, hc⟩ := hx (by omega)
    rw [atL_map_range _ hi]
    exact (mkIn_arg (hc i (by omega)).1).2
/-- Beside: where an item's five cells lie. -/
theorem ItemsAt.five {w : World} {p : Option Addr} {n : Nat} {A : List inIt} (h : ItemsAt 5 inArg w p n A) {k : Nat} (hk : k < n) : ∃ g o, p = some ⟨g, o, none⟩ ∧ g < w.heap.size ∧ w.cell? ⟨g, o + k * 5, none⟩ = some (.int .i64 (atL A k).tat) ∧ w.cell? ⟨g, o + k * 5 + 1, none⟩ = some (.int .i64 (atL A k).gst) ∧
    w.cell? ⟨g, o + k * 5 + 2, none⟩ = some (.int .i64 (atL A k).knd) ∧ w.cell? ⟨g, o + k * 5 + 3, none⟩ = some (.int .i64 (atL A k).cod) ∧ w.cell? ⟨g, o + k * 5 + 4, none⟩ = some (.string (atL A k).dat) := by
  obtain ⟨g, o, ha, hg, hc⟩ := h.2 (by omega)
  have c0 := hc k hk 0 (by omega)
  have c1 := hc k hk 1 (by omega)
  have c2 := hc k hk 2 (by omega)
  have c3 := hc k hk 3 (by omega)
  have c4 := hc k hk 4 (by omega)
  simp only [inArg, List.getElem?_cons_zero, List.getElem?_cons_succ, Nat.add_zero] at c0 c1 c2 c3 c4
  exact ⟨g, o, ha, hg, c0, c1, c2, c3, c4⟩
/-- How many of the first k count for guest 0. -/
def manyK (A : List inIt) (k : Nat) : Nat := ((A.take k).filter (counts 0)).length
theorem manyK_succ (A : List inIt) {k : Nat} (hk : k < A.length) : manyK A (k + 1) = manyK A k + if counts 0 (atL A k) = true then 1 else 0 := by
  unfold manyK
  rw [take_succ_atL hk, List.filter_append, List.length_append]
  cases h : counts 0 (atL A k) <;> simp [h]
theorem manyK_le (A : List inIt) (k : Nat) : manyK A k ≤ k := Nat.le_trans (List.length_filter_le ..) (by rw [List.length_take]; omega)
end Go.Proofs.Ytjlhdbkhebfghaa
