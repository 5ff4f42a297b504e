/- Own: the class of worlds in which one block is as in W: for a drawn region whose only call writes elsewhere. -/
import Derived.Test.YtgcnmhlojfncpaaReg6
namespace Go.Proofs.Ytgcnmhlojfncpaa
set_option linter.unusedVariables false

def LatH (W : World) (g : Nat) : Type := { w : World // w.heap[g]? = W.heap[g]? }
instance (W : World) (g : Nat) : Nonempty (LatH W g) := ⟨⟨W, rfl⟩⟩
def laterH (W : World) (g : Nat) (x : LatH W g) : World := x.1
@[go_sem] theorem laterH_cell (W : World) (g o : Nat) (s : Option Nat) (x : LatH W g) : (laterH W g x).cell? ⟨g, o, s⟩ = W.cell? ⟨g, o, s⟩ := World.cell?_of_block (w := W) x.2
theorem laterH_of {W : World} {g : Nat} {w : World} (h : w.heap[g]? = W.heap[g]?) : ∃ x : LatH W g, w = laterH W g x := ⟨⟨w, h⟩, rfl⟩

end Go.Proofs.Ytgcnmhlojfncpaa
