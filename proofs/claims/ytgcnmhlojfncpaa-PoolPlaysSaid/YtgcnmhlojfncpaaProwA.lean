/- pool.left's row: Len. Printed by rows.py. -/
import Derived.Test.YtgcnmhlojfncpaaRowM
import Derived.Test.YtgcnmhlojfncpaaReg3
import Derived.Test.YtgcnmhlojfncpaaRows
import Derived.Deep.RegionLaw
import Derived.Deep.AppendLies
import Derived.OwnWalk
import Derived.Deep.MidRow
namespace Go.Proofs.Ytgcnmhlojfncpaa
open Go.ChangeShapes Go.WideShapes Go.ChangeAt Go.RowKit
set_option linter.unusedVariables false

structure plIt where
  fr : Int
deriving Inhabited
def plEnc (x : plIt) : List Value := [.int .i64 x.fr]
/-- As an 'any'. -/
abbrev plVal (x : plIt) : Value := .iface 3 (.int .i64 (x).fr)
theorem plEnc_length (x : plIt) : (plEnc x).length = 1 := rfl
abbrev plRow (w : World) (b : Nat) (blk : Value → Array Value) (v : Value) (l : List plIt) : Prop := RowIn 3 1 plEnc w b 43 blk v l

theorem RowIn.shape {α : Type} {T : TypeId} {sz : Nat} {enc : α → List Value} {w : World} {b : Nat} {t : TypeId} {blk : Value → Array Value} {v : Value} {l : List α} (h : RowIn T sz enc w b t blk v l) : ∃ a c, v = .slice a l.length c := by
  rcases h.2.2 with ⟨h1, h2⟩ | ⟨g, cap, cur, h1, _⟩
  · exact ⟨none, 0, by rw [h1, h2]⟩
  · exact ⟨_, _, h1⟩
variable {o : Nat}

theorem plLen (b : Nat) (blk : Value → Array Value) (v : Value) (l : List plIt) (w : World) (hb : BlkOk blk o) (h : plRow w b blk v l) :
    Calls Try.prog 33 #[.pointer (some ⟨b, o, none⟩)] w fun e w' => e = .returned (.int .i64 l.length) ∧ w = w' := by
  have q0 := h.field hb
  have q1 := h.free o
  obtain ⟨a, c, rfl⟩ := h.shape
  go_enter Try.func33, Try.ntmps33
  go_wp2
  go_ret
  exact ⟨rfl, rfl⟩
end Go.Proofs.Ytgcnmhlojfncpaa
