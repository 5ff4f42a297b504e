/- inputs.row's row: Len. Printed by rows.py. -/
import Derived.Test.YtjlhdbkhebfghaaRowM
import Derived.Test.YtjlhdbkhebfghaaReg3
import Derived.Test.YtjlhdbkhebfghaaRows
import Derived.Deep.RegionLaw
import Derived.Deep.AppendLies
import Derived.OwnWalk
import Derived.Deep.MidRow
namespace Go.Proofs.Ytjlhdbkhebfghaa
open Go.ChangeShapes Go.WideShapes Go.ChangeAt Go.RowKit
set_option linter.unusedVariables false

structure inIt where
  tat : Int
  gst : Int
  knd : Int
  cod : Int
  dat : ByteArray
  pl : Int
deriving Inhabited
def inEnc (x : inIt) : List Value := [.int .i64 x.tat, .int .i64 x.gst, .int .i64 x.knd, .int .i64 x.cod, .string x.dat, .int .i64 x.pl]
/-- As an 'any'. -/
abbrev inVal (x : inIt) : Value := .iface 89 (.agg (inEnc x).toArray)
theorem inEnc_length (x : inIt) : (inEnc x).length = 6 := rfl
abbrev inRow (w : World) (b : Nat) (blk : Value → Array Value) (v : Value) (l : List inIt) : Prop := RowIn 89 6 inEnc w b 63 blk v l

theorem RowIn.shape {α : Type} {T : TypeId} {sz : Nat} {enc : α → List Value} {w : World} {b : Nat} {t : TypeId} {blk : Value → Array Value} {v : Value} {l : List α} (h : RowIn T sz enc w b t blk v l) : ∃ a c, v = .slice a l.length c := by
  rcases h.2.2 with ⟨h1, h2⟩ | ⟨g, cap, cur, h1, _⟩
  · exact ⟨none, 0, by rw [h1, h2]⟩
  · exact ⟨_, _, h1⟩
variable {o : Nat}

theorem inLen (b : Nat) (blk : Value → Array Value) (v : Value) (l : List inIt) (w : World) (hb : BlkOk blk o) (h : inRow w b blk v l) :
    Calls Try.prog 40 #[.pointer (some ⟨b, o, none⟩)] w fun e w' => e = .returned (.int .i64 l.length) ∧ w = w' := by
  have q0 := h.field hb
  have q1 := h.free o
  obtain ⟨a, c, rfl⟩ := h.shape
  go_enter Try.func40, Try.ntmps40
  go_wp2
  go_ret
  exact ⟨rfl, rfl⟩
theorem in_load {w : World} {g o : Nat} {y0 y1 y2 y3 y4 y5 : Value} (h0 : w.cell? ⟨g, o, none⟩ = some y0) (h1 : w.cell? ⟨g, o + 1, none⟩ = some y1) (h2 : w.cell? ⟨g, o + 2, none⟩ = some y2) (h3 : w.cell? ⟨g, o + 3, none⟩ = some y3) (h4 : w.cell? ⟨g, o + 4, none⟩ = some y4) (h5 : w.cell? ⟨g, o + 5, none⟩ = some y5) :
    (loadVar 89 ⟨g, o, none⟩).run Try.prog w = .ok (.agg #[y0, y1, y2, y3, y4, y5]) w := by
  refine run_loadVar_mid w g o _ [y0, y1, y2, y3, y4, y5] _ (fun j v hj => ?_) Try.underlying89 rfl (by kernel_rfl)
  match j, hj with
  | 0, hj => simpa using h0.trans hj
  | 1, hj => simpa using h1.trans hj
  | 2, hj => simpa using h2.trans hj
  | 3, hj => simpa using h3.trans hj
  | 4, hj => simpa using h4.trans hj
  | 5, hj => simpa using h5.trans hj
end Go.Proofs.Ytjlhdbkhebfghaa
