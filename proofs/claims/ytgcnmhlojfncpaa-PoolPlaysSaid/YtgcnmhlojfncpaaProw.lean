/- The left frames' row: Less. -/
import Derived.Test.YtgcnmhlojfncpaaProwA
import Derived.Test.YtgcnmhlojfncpaaReg6
namespace Go.Proofs.Ytgcnmhlojfncpaa
open Go.ChangeShapes Go.WideShapes Go.ChangeAt Go.RowKit
set_option linter.unusedVariables false

def plLt (x y : plIt) : Bool := decide (x.fr < y.fr)
theorem plLt_ordered : Ordered plLt := by
  constructor
  · intro a b h
    simp only [plLt, decide_eq_true_eq, decide_eq_false_iff_not] at *
    omega
  · intro a b c h k
    simp only [plLt, decide_eq_false_iff_not] at *
    omega
variable {o : Nat}
set_option maxRecDepth 100000 in
set_option maxHeartbeats 1000000 in
theorem plLess (b : Nat) (blk : Value → Array Value) (v : Value) (l : List plIt) (i k : Nat) (w : World) (hb : BlkOk blk o) (h : plRow w b blk v l) (hi : i < l.length) (hk : k < l.length) :
    Calls Try.prog 64 #[.pointer (some ⟨b, o, none⟩), .int .i64 i, .int .i64 k] w fun e w' => e = .returned (.bool (plLt (atL l i) (atL l k))) ∧ Below w.heap.size w w' := by
  have q0 := h.field hb
  have q1 := h.free o
  have hlt := h.lt
  obtain ⟨g, cap, rfl, hle, hm, hbg, hg, hc, hf⟩ := h.item plEnc_length hi
  have c0 := hc i hi 0 (by omega)
  have d0 := hc k hk 0 (by omega)
  simp only [plEnc, List.getElem?_cons_zero, Nat.add_zero, Nat.mul_one] at c0 d0
  clear hc
  have hv : plLt (atL l i) (atL l k) = decide ((atL l i).fr < (atL l k).fr) := rfl
  rw [hv]
  clear hv
  go_enter Try.func64, Try.ntmps64
  go_wp2
  refine wp_region_later (by kernel_rfl) (by kernel_rfl) ?_
  (repeat (go_big_quiet_step (fail)))
  refine wpQuiet_nil ?_
  intro _ hw'
  obtain ⟨x9, hw''⟩ := hw'
  subst hw''
  go_wp2_with fail
  go_ret
  exact ⟨rfl, later_below _ _⟩
end Go.Proofs.Ytgcnmhlojfncpaa
