/- The law package's awake; strings of bytes. -/
import Derived.Test.YtclpbphofifojaaOctP
import Derived.Test.YtclpbphofifojaaOctS
namespace Go.Proofs.Ytclpbphofifojaa
open Go.ChangeShapes Go.WideShapes Go.ChangeAt Go.RowKit
set_option linter.unusedVariables false

set_option maxHeartbeats 400000 in
theorem awake02 (w : World) : Calls Try.prog 22 #[] w fun e w' => e = .returned (.bool true) ∧ Below w.heap.size w w' := by
  have hs : BAt (w.alloc (.cells #[.int .u8 0, .int .u8 0] 5)) w.heap.size 0 2 (fun _ => 0) := ⟨by show _ < _; simp, fun i hi => by
    have : i = 0 ∨ i = 1 := by omega
    rcases this with rfl | rfl <;> simp [go_sem], fun _ => by simp⟩
  go_enter Try.func22, Try.ntmps22
  go_wp2_with fail
  refine (put_in _ 0 2 _ 0 2 258 _ _ hs (by simp) (by omega) (by omega) (by omega) (by omega)).mono ?_
  rintro e w1 ⟨g, cap, rfl, hle, hcm, hgb, hr, hb⟩
  have c0 := hr.cell (i := 0) (by omega)
  have c1 := hr.cell (i := 1) (by omega)
  simp [putF] at c0 c1
  have hbel : Bel w.heap.size w w1 := Bel.of (Bel.refl w).alloc hb
  have hsig : signV 128 1 = 4294967168 := by decide
  have hc2 : (2 : Int) ≤ cap := by omega
  go_wp2_with fail
  refine (sign_any 128 1 _ (by omega) (by omega)).mono ?_
  rintro e w' ⟨rfl, rfl⟩
  go_wp2_with fail
  go_ret
  exact ⟨rfl, (by refine (?_ : Bel _ _ _).1; repeat (first | exact hbel | exact Bel.refl _ | apply Bel.later | apply Bel.alloc | apply Bel.drew | (refine Bel.laterB ?_ (by first | exact Nat.le_refl _ | omega | (simp; omega) | simp)) | (refine Bel.setCell ?_ (by first | exact Nat.le_refl _ | omega | (simp; omega) | simp))))⟩

/-- A string of these bytes. -/
def strF (f : Nat → Int) (n : Nat) : ByteArray := strOfNums ((List.range n).map f)
theorem conv_bytes {w : World} {b o n : Nat} {f : Nat → Int} (h : BAt w b o n f) (c : Nat) : (convert 34 9 (.slice (some ⟨b, o, none⟩) n c)).run Try.prog w = .ok (.string (strF f n)) w :=
  run_convert_bytes_arg (P := Try.prog) w 34 5 Try.underlying34 Try.underlying5 b o n c ((List.range n).map f) (by simp) (fun i hi => by rw [h.2.1 i hi]; simp [List.getD, hi]) 9 Try.underlying9
theorem conv_nil (w : World) : (convert 34 9 (.slice none 0 0)).run Try.prog w = .ok (.string ByteArray.empty) w :=
  run_convert_bytes_nil (P := Try.prog) w 34 5 Try.underlying34 Try.underlying5 0 0 9 Try.underlying9

theorem src_of_ok {w : World} {p : Option Addr} {n c : Nat} {f0 : Nat → List Value} (h : SliceOk [some .u8] w p n c f0) : ∃ f, SrcAt w p n f := by
  have hp : p = none → n = 0 := fun e => by have h1 := h.1; have h2 := h.2.2.1 e; omega
  by_cases hn : 1 ≤ n
  · obtain ⟨b, o, _, rfl, hb, _⟩ := h.int1 (i := 0) (by omega)
    obtain ⟨f, hf⟩ := Deep.choose_lt (α := Int) (n := n) (p := fun i x => (0 ≤ x ∧ x ≤ 255) ∧ w.cell? ⟨b, o + i, none⟩ = some (.int .u8 x)) (fun i hi => by
      obtain ⟨b', o', x, ha, _, _, hw, hc⟩ := h.int1 hi
      simp only [Option.some.injEq, Addr.mk.injEq, and_true] at ha
      obtain ⟨rfl, rfl⟩ := ha
      exact ⟨x, bounds_u8 hw, hc⟩)
    refine ⟨fun i => if i < n then f i else 0, hp, fun i => ?_, fun _ => ⟨b, o, rfl, hb, fun i hi => ?_, fun i => ?_⟩⟩
    · dsimp only
      split
      · rename_i hi; exact (hf i hi).1
      · simp
    · simp only [if_pos hi]; exact (hf i hi).2
    · dsimp only
      split
      · rename_i hi; exact (hf i hi).1
      · simp
  · exact ⟨fun _ => 0, hp, fun _ => by simp, fun h => absurd h hn⟩

end Go.Proofs.Ytclpbphofifojaa
