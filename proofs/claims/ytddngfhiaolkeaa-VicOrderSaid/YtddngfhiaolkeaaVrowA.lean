/- vic.row's row: Len. Printed by rows.py. -/
import Derived.Test.YtddngfhiaolkeaaRowM
import Derived.Test.YtddngfhiaolkeaaReg3
import Derived.Test.YtddngfhiaolkeaaRows
import Derived.Deep.RegionLaw
import Derived.Deep.AppendLies
import Derived.OwnWalk
import Derived.Deep.MidRow
namespace Go.Proofs.Ytddngfhiaolkeaa
open Go.ChangeShapes Go.WideShapes Go.ChangeAt Go.RowKit
set_option linter.unusedVariables false

structure vcIt where
  ln : Int
  pr : Int
  sn : Int
deriving Inhabited
def vcEnc (x : vcIt) : List Value := [.int .i64 x.ln, .int .i64 x.pr, .int .i64 x.sn]
/-- As an 'any'. -/
abbrev vcVal (x : vcIt) : Value := .iface 64 (.agg (vcEnc x).toArray)
theorem vcEnc_length (x : vcIt) : (vcEnc x).length = 3 := rfl
abbrev vcRow (w : World) (b : Nat) (blk : Value → Array Value) (v : Value) (l : List vcIt) : Prop := RowIn 64 3 vcEnc w b 59 blk v l

theorem RowIn.shape {α : Type} {T : TypeId} {sz : Nat} {enc : α → List Value} {w : World} {b : Nat} {t : TypeId} {blk : Value → Array Value} {v : Value} {l : List α} (h : RowIn T sz enc w b t blk v l) : ∃ a c, v = .slice a l.length c := by
  rcases h.2.2 with ⟨h1, h2⟩ | ⟨g, cap, cur, h1, _⟩
  · exact ⟨none, 0, by rw [h1, h2]⟩
  · exact ⟨_, _, h1⟩
variable {o : Nat}

theorem vcLen (b : Nat) (blk : Value → Array Value) (v : Value) (l : List vcIt) (w : World) (hb : BlkOk blk o) (h : vcRow w b blk v l) :
    Calls Try.prog 29 #[.pointer (some ⟨b, o, none⟩)] w fun e w' => e = .returned (.int .i64 l.length) ∧ w = w' := by
  have q0 := h.field hb
  have q1 := h.free o
  obtain ⟨a, c, rfl⟩ := h.shape
  go_enter Try.func29, Try.ntmps29
  go_wp2
  go_ret
  exact ⟨rfl, rfl⟩
theorem vc_load {w : World} {g o : Nat} {y0 y1 y2 : Value} (h0 : w.cell? ⟨g, o, none⟩ = some y0) (h1 : w.cell? ⟨g, o + 1, none⟩ = some y1) (h2 : w.cell? ⟨g, o + 2, none⟩ = some y2) :
    (loadVar 64 ⟨g, o, none⟩).run Try.prog w = .ok (.agg #[y0, y1, y2]) w := by
  refine run_loadVar_mid w g o _ [y0, y1, y2] _ (fun j v hj => ?_) Try.underlying64 rfl (by kernel_rfl)
  match j, hj with
  | 0, hj => simpa using h0.trans hj
  | 1, hj => simpa using h1.trans hj
  | 2, hj => simpa using h2.trans hj
end Go.Proofs.Ytddngfhiaolkeaa
