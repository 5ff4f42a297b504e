/- Own: the class of worlds in which two cells are as in W. -/
import Derived.Test.YtgcnmhlojfncpaaReg7
namespace Go.Proofs.Ytgcnmhlojfncpaa
set_option linter.unusedVariables false

def LatD (W : World) (a b : Addr) : Type := { w : World // w.cell? a = W.cell? a ∧ w.cell? b = W.cell? b }
instance (W : World) (a b : Addr) : Nonempty (LatD W a b) := ⟨⟨W, rfl, rfl⟩⟩
def laterD (W : World) (a b : Addr) (x : LatD W a b) : World := x.1
@[go_sem] theorem laterD_cell (W : World) (a b : Addr) (x : LatD W a b) : (laterD W a b x).cell? a = W.cell? a := x.2.1
@[go_sem] theorem laterD_cell2 (W : World) (a b : Addr) (x : LatD W a b) : (laterD W a b x).cell? b = W.cell? b := x.2.2
theorem laterD_of {W : World} {a b : Addr} {w : World} (h : w.cell? a = W.cell? a) (h2 : w.cell? b = W.cell? b) : ∃ x : LatD W a b, w = laterD W a b x := ⟨⟨w, h, h2⟩, rfl⟩

end Go.Proofs.Ytgcnmhlojfncpaa
