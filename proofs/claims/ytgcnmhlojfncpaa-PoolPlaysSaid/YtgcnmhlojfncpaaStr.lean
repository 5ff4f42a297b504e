/- Strings of bytes. -/
import Derived.Test.YtgcnmhlojfncpaaOctW
namespace Go.Proofs.Ytgcnmhlojfncpaa
open Go.ChangeShapes Go.WideShapes Go.ChangeAt Go.RowKit
set_option linter.unusedVariables false

/-- A string of these bytes. -/
def strF (f : Nat → Int) (n : Nat) : ByteArray := strOfNums ((List.range n).map f)
theorem strF_congr {f g : Nat → Int} {n : Nat} (h : ∀ i, i < n → f i = g i) : strF f n = strF g n := by
  unfold strF
  rw [List.map_congr_left (fun i hi => h i (by simpa using hi))]
theorem conv_bytes {w : World} {b o n : Nat} {f : Nat → Int} (h : BAt w b o n f) (c : Nat) : (convert 22 9 (.slice (some ⟨b, o, none⟩) n c)).run Try.prog w = .ok (.string (strF f n)) w :=
  run_convert_bytes_arg (P := Try.prog) w 22 5 Try.underlying22 Try.underlying5 b o n c ((List.range n).map f) (by simp) (fun i hi => by rw [h.2.1 i hi]; simp [List.getD, hi]) 9 Try.underlying9
theorem conv_nil (w : World) : (convert 22 9 (.slice none 0 0)).run Try.prog w = .ok (.string ByteArray.empty) w :=
  run_convert_bytes_nil (P := Try.prog) w 22 5 Try.underlying22 Try.underlying5 0 0 9 Try.underlying9
theorem conv_src {w : World} {p : Option Addr} {n : Nat} {f : Nat → Int} (h : SrcAt w p n f) (c : Nat) : (convert 22 9 (.slice p n c)).run Try.prog w = .ok (.string (strF f n)) w := by
  by_cases hn : 1 ≤ n
  · obtain ⟨b, o, rfl, hb⟩ := h.2.2 hn
    exact conv_bytes hb c
  · obtain rfl : n = 0 := by omega
    rw [run_convert_bytes_string w 22 9 5 _ 0 c Try.underlying22 Try.underlying5 Try.underlying9]
    cases p <;> simp [Conv.bytesToString, loadCells]
    all_goals rfl

theorem src_of_ok {w : World} {p : Option Addr} {n c : Nat} {f0 : Nat → List Value} (h : SliceOk [some .u8] w p n c f0) : ∃ f, SrcAt w p n f := by
  have hp : p = none → n = 0 := fun e => by have h1 := h.1; have h2 := h.2.2.1 e; omega
  by_cases hn : 1 ≤ n
  · obtain ⟨b, o, _, rfl, hb, _⟩ := h.int1 (i := 0) (by omega)
    obtain ⟨f, hf⟩ := Deep.choose_lt (α := Int) (n := n) (p := fun i x => (0 ≤ x ∧ x ≤ 255) ∧ w.cell? ⟨b, o + i, none⟩ = some (.int .u8 x)) (fun i hi => by
      obtain ⟨b', o', x, ha, _, _, hw, hc⟩ := h.int1 hi
      simp only [Option.some.injEq, Addr.mk.injEq, and_true] at ha
      obtain ⟨rfl, rfl⟩ := ha
      exact ⟨x, bounds_u8 hw, hc⟩)
    refine ⟨fun i => if i < n then f i else 0, hp, fun i => ?_, fun _ => ⟨b, o, rfl, hb, fun i hi => ?_, fun i => ?_⟩⟩
    · dsimp only
      split
      · rename_i hi; exact (hf i hi).1
      · simp
    · simp only [if_pos hi]; exact (hf i hi).2
    · dsimp only
      split
      · rename_i hi; exact (hf i hi).1
      · simp
  · exact ⟨fun _ => 0, hp, fun _ => by simp, fun h => absurd h hn⟩
end Go.Proofs.Ytgcnmhlojfncpaa
