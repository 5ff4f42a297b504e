/- pool.left's row: Pop. Printed by rows.py. -/
import Derived.Test.YtgcnmhlojfncpaaPpsh
import Derived.WalkSmall
namespace Go.Proofs.Ytgcnmhlojfncpaa
open Go.ChangeShapes Go.WideShapes Go.ChangeAt Go.RowKit
set_option linter.unusedVariables false

theorem frm_stored {w w1 : World} {b o : Nat} {v v' u : Value} (h1 : Below w.heap.size w w1) (hv : v'.ownBlock = v.ownBlock) : Frm b v v' w (w1.setCell ⟨b, o, none⟩ u) := by
  refine ⟨h1.os, h1.tape, h1.output, ?_, fun i hi hb _ => ?_, .inl hv⟩
  · have := h1.size
    simp [World.setCell]
    omega
  · rw [show (w1.setCell ⟨b, o, none⟩ u).heap[i]? = w1.heap[i]? by simp [World.setCell, Array.getElem?_modify, Ne.symm hb]]
    exact h1.block i hi
variable {o : Nat}

theorem plPop (b : Nat) (blk : Value → Array Value) (v : Value) (l : List plIt) (k : Nat) (w : World) (hb : BlkOk blk o) (h : plRow w b blk v l) (hk : l.length = k + 1) :
    Calls Try.prog 65 #[.pointer (some ⟨b, o, none⟩)] w fun e w' => e = .returned (plVal (atL l k)) ∧ ∃ v', plRow w' b blk v' (l.take k) ∧ Frm b v v' w w' := by
  have q0 := h.field hb
  have q1 := h.free o
  have hlt := h.lt
  obtain ⟨g, cap, rfl, hle, hm, hbg, hg, hc, hf⟩ := h.item plEnc_length (i := k) (by omega)
  have c0 := hc k (by omega) 0 (by omega)
  simp only [plEnc, List.getElem?_cons_zero, Nat.add_zero, Nat.mul_one] at c0
  clear hc
  have hm' : cap ≤ 9223372036854775807 := by unfold maxLen at hm; omega
  have hl : l.length ≤ cap := hle
  have hki : (l.length : Int) = k + 1 := by omega
  go_enter Try.func65, Try.ntmps65
  go_wp2
  go_ret
  have hlt2 : (l.take k).length = k := by rw [List.length_take]; omega
  have hsp : l = l.take k ++ [atL l k] := by
    rw [atL_eq (by omega)]
    conv => lhs; rw [← List.take_append_drop k l]
    rw [List.drop_eq_getElem_cons (by omega), List.drop_eq_nil_of_le (by omega)]
  have hown : w.ownsRow (b + 1) 3 1 (.slice (some ⟨g, 0, none⟩) k cap) (l.take k).length ((l.take k).flatMap plEnc) := by
    rw [hlt2]
    refine ownsRow_pop (last := plEnc (atL l k)) ?_ ?_
    · rw [flat_length plEnc_length, hlt2]
    · have := h.2
      rw [hk] at this
      rw [show (l.take k).flatMap plEnc ++ plEnc (atL l k) = l.flatMap plEnc by conv => { rhs; rw [hsp] }; simp]
      exact this
  exact ⟨rfl, _, RowIn.stored hb h.1 hown, frm_stored (Below.refl _ _) rfl⟩
end Go.Proofs.Ytgcnmhlojfncpaa
