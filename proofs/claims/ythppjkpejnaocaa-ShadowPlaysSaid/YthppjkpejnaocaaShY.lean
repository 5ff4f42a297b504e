/- law 19: what was told stays, while the other state moves. -/
import Derived.Test.YthppjkpejnaocaaShX
namespace Go.Proofs.Ythppjkpejnaocaa
open Go.ChangeShapes Go.WideShapes Go.ChangeAt Go.RowKit
set_option linter.unusedVariables false

theorem ItemsAt.frmB {α : Type} [Inhabited α] {sz : Nat} {enc : α → List Value} {w w' : World} {a : Option Addr} {n b B c : Nat} {L : List α} {v v' : Value} (h : ItemsAt sz enc w a n L) (f : Frm b v v' w w') (hg : ∀ g, (Value.slice a n c).ownBlock = some g → B ≤ g) (hb : b < B) (hv : ∀ g, v.ownBlock = some g → g < B) : ItemsAt sz enc w' a n L :=
  ⟨h.1, fun hn => let ⟨g, o, e, hlt, hc⟩ := h.2 hn; ⟨g, o, e, Nat.lt_of_lt_of_le hlt f.size, fun i hi j hj => by
    have hgB : B ≤ g := hg g (by rw [e]; rfl)
    rw [f.cell (p := ⟨g, o + i * sz + j, none⟩) hlt (fun e => by simp only at e; omega) (fun e => by have := hv g e.symm; omega)]
    exact hc i hi j hj⟩⟩
theorem IntsAt.frmB {k : IntKind} {w w' : World} {a : Option Addr} {n b B c : Nat} {L : List Int} {v v' : Value} (h : IntsAt k w a n L) (f : Frm b v v' w w') (hg : ∀ g, (Value.slice a n c).ownBlock = some g → B ≤ g) (hb : b < B) (hv : ∀ g, v.ownBlock = some g → g < B) : IntsAt k w' a n L :=
  ⟨h.1, fun hn => let ⟨g, o, e, hlt, hc⟩ := h.2 hn; ⟨g, o, e, Nat.lt_of_lt_of_le hlt f.size, fun i hi => by
    have hgB : B ≤ g := hg g (by rw [e]; rfl)
    rw [f.cell (p := ⟨g, o + i, none⟩) hlt (fun e => by simp only at e; omega) (fun e => by have := hv g e.symm; omega)]
    exact hc i hi⟩⟩
theorem fresh_two (l : List ln) (rt lf : Int) : (freshL l rt lf).length ≤ 2 := by
  unfold freshL
  refine Nat.le_trans (List.length_filter_le _ _) ?_
  split
  · simp
  · split <;> simp
end Go.Proofs.Ythppjkpejnaocaa
