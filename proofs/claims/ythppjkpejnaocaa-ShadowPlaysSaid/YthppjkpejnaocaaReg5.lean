/- Own: the class of worlds in which one cell is as in W: for a drawn region whose only call writes elsewhere. -/
import Derived.Test.YthppjkpejnaocaaReg4
namespace Go.Proofs.Ythppjkpejnaocaa
set_option linter.unusedVariables false

def LatC (W : World) (a : Addr) : Type := { w : World // w.cell? a = W.cell? a }
instance (W : World) (a : Addr) : Nonempty (LatC W a) := ⟨⟨W, rfl⟩⟩
def laterC (W : World) (a : Addr) (x : LatC W a) : World := x.1
@[go_sem] theorem laterC_cell (W : World) (a : Addr) (x : LatC W a) : (laterC W a x).cell? a = W.cell? a := x.2
theorem laterC_of {W : World} {a : Addr} {w : World} (h : w.cell? a = W.cell? a) : ∃ x : LatC W a, w = laterC W a x := ⟨⟨w, h⟩, rfl⟩

end Go.Proofs.Ythppjkpejnaocaa
