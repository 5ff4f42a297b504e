/-
  No cell of these rows narrows 'for every input' (looked for: loops, veiled, ifaces, maps, wideKeys, modest, calm, conditions, laid).
  DERIVED. THE GIVEN ROWS OF THIS SEAT. 5 by the template 'for every input the law returns true; each argument reads behind the call as it read before'; 0 by the template 'total and deterministic' (their statements: YtddngfhiaolkeaaTotals.lean).
  GIVEN WITH THE SEED: the statements are not yours to turn. If you find one false, say at which input.
  Laid BY PROGRAM, IN A SANDBOX (cutbox-rows.mjs): the forced cells as the released guide's own fill.sh prints them over the translation 1bf344f90293d028… (all of the seat's roots in one cut). By AI agents, Wed Nov 11 2026. No macro, syntax, notation, axiom, sorry.
-/
import Derived.Test.YtddngfhiaolkeaaChecked
import GoSem.Claim
import GoSem.ClaimJoined
import GoSem.ClaimMapViews
import Derived.JoinedTies
import Derived.KernelRfl
namespace Go.Proofs.Ytddngfhiaolkeaa
/- THE CELL 'sum', in the pinned program and in every row, IS THE sha256 OF THE DUMP (.gsa) THAT YtddngfhiaolkeaaProg.lean LOADS. Nothing in Lean hashes anything: it is a label: what it is worth is what the hold of that sum in a sandbox is worth. -/
noncomputable def Try.pinned : Pinned := { name := "ytddngfhiaolkeaa", sum := "1bf344f90293d02893ccabcb93c08ae358ba53bd7dfb6ed7216ef3b232ea1be7", checked := Try.checked }
namespace Rows
def none {H : Type} : Left H := { results := [], args := [] }

/-- 'hermitagelaw28.VicOrder': WHATEVER THE INPUT: true; the input reads as it did. -/
def vicOrderSpec : ChangeSpec := { name := "vicOrder", fn := fun _ => fun
  | [d1, d2, d3] => { results := [.lit (.bool true)], args := [d1, d2, d3] }
  | _ => none }
def vicOrderRow : OpenClaim := { program := "ytddngfhiaolkeaa", sum := "1bf344f90293d02893ccabcb93c08ae358ba53bd7dfb6ed7216ef3b232ea1be7", func := "hermitage/hermitagelaw28.VicOrder", spec := "vicOrder", unfollowed := true, recurses := true, apart := false }
def VicOrderSaid : Prop := vicOrderRow.holds Try.pinned (OpenSpec.ofChange vicOrderSpec)

/-- ITS FALSE NEIGHBOUR: 'it returns false'. Refute it at one input. -/
def vicOrderWrong : ChangeSpec := { name := "vicOrder", fn := fun _ => fun
  | [d1, d2, d3] => { results := [.lit (.bool false)], args := [d1, d2, d3] }
  | _ => none }
def VicOrderWrongFalsely : Prop := vicOrderRow.holds Try.pinned (OpenSpec.ofChange vicOrderWrong)

/-- 'hermitagelaw28.VicMask': WHATEVER THE INPUT: true; the input reads as it did. -/
def vicMaskSpec : ChangeSpec := { name := "vicMask", fn := fun _ => fun
  | [d1, d2] => { results := [.lit (.bool true)], args := [d1, d2] }
  | _ => none }
def vicMaskRow : OpenClaim := { program := "ytddngfhiaolkeaa", sum := "1bf344f90293d02893ccabcb93c08ae358ba53bd7dfb6ed7216ef3b232ea1be7", func := "hermitage/hermitagelaw28.VicMask", spec := "vicMask", unfollowed := true, recurses := true, apart := false }
def VicMaskSaid : Prop := vicMaskRow.holds Try.pinned (OpenSpec.ofChange vicMaskSpec)

/-- ITS FALSE NEIGHBOUR: 'it returns false'. Refute it at one input. -/
def vicMaskWrong : ChangeSpec := { name := "vicMask", fn := fun _ => fun
  | [d1, d2] => { results := [.lit (.bool false)], args := [d1, d2] }
  | _ => none }
def VicMaskWrongFalsely : Prop := vicMaskRow.holds Try.pinned (OpenSpec.ofChange vicMaskWrong)

/-- 'hermitagelaw28.VicOnce': WHATEVER THE INPUT: true; the input reads as it did. -/
def vicOnceSpec : ChangeSpec := { name := "vicOnce", fn := fun _ => fun
  | [d] => { results := [.lit (.bool true)], args := [d] }
  | _ => none }
def vicOnceRow : OpenClaim := { program := "ytddngfhiaolkeaa", sum := "1bf344f90293d02893ccabcb93c08ae358ba53bd7dfb6ed7216ef3b232ea1be7", func := "hermitage/hermitagelaw28.VicOnce", spec := "vicOnce", unfollowed := true, recurses := true, apart := false }
def VicOnceSaid : Prop := vicOnceRow.holds Try.pinned (OpenSpec.ofChange vicOnceSpec)

/-- ITS FALSE NEIGHBOUR: 'it returns false'. Refute it at one input. -/
def vicOnceWrong : ChangeSpec := { name := "vicOnce", fn := fun _ => fun
  | [d] => { results := [.lit (.bool false)], args := [d] }
  | _ => none }
def VicOnceWrongFalsely : Prop := vicOnceRow.holds Try.pinned (OpenSpec.ofChange vicOnceWrong)

/-- 'hermitagelaw28.VicPlays': WHATEVER THE INPUT: true; the input reads as it did. -/
def vicPlaysSpec : ChangeSpec := { name := "vicPlays", fn := fun _ => fun
  | [d] => { results := [.lit (.bool true)], args := [d] }
  | _ => none }
def vicPlaysRow : OpenClaim := { program := "ytddngfhiaolkeaa", sum := "1bf344f90293d02893ccabcb93c08ae358ba53bd7dfb6ed7216ef3b232ea1be7", func := "hermitage/hermitagelaw28.VicPlays", spec := "vicPlays", unfollowed := true, recurses := true, apart := false }
def VicPlaysSaid : Prop := vicPlaysRow.holds Try.pinned (OpenSpec.ofChange vicPlaysSpec)

/-- ITS FALSE NEIGHBOUR: 'it returns false'. Refute it at one input. -/
def vicPlaysWrong : ChangeSpec := { name := "vicPlays", fn := fun _ => fun
  | [d] => { results := [.lit (.bool false)], args := [d] }
  | _ => none }
def VicPlaysWrongFalsely : Prop := vicPlaysRow.holds Try.pinned (OpenSpec.ofChange vicPlaysWrong)

/-- 'hermitagelaw28.VicZero': WHATEVER THE INPUT: true; the input reads as it did. -/
def vicZeroSpec : ChangeSpec := { name := "vicZero", fn := fun _ => fun
  | [d1, d2, d3] => { results := [.lit (.bool true)], args := [d1, d2, d3] }
  | _ => none }
def vicZeroRow : OpenClaim := { program := "ytddngfhiaolkeaa", sum := "1bf344f90293d02893ccabcb93c08ae358ba53bd7dfb6ed7216ef3b232ea1be7", func := "hermitage/hermitagelaw28.VicZero", spec := "vicZero", unfollowed := true, recurses := true, apart := false }
def VicZeroSaid : Prop := vicZeroRow.holds Try.pinned (OpenSpec.ofChange vicZeroSpec)

/-- ITS FALSE NEIGHBOUR: 'it returns false'. Refute it at one input. -/
def vicZeroWrong : ChangeSpec := { name := "vicZero", fn := fun _ => fun
  | [d1, d2, d3] => { results := [.lit (.bool false)], args := [d1, d2, d3] }
  | _ => none }
def VicZeroWrongFalsely : Prop := vicZeroRow.holds Try.pinned (OpenSpec.ofChange vicZeroWrong)

/- THE SECOND FORM. 'bulk': how many values and letters a reading holds, each counted each time it is reached (what is shared counts as often as it is met; a slice's spare places count too). A statement '..UptoSaid' is the law's where the arguments, and the package variables that the reading takes, are together of bulk at most 1048576: NARROWER than '..Said'. Prove '..Said' where nothing that the law and all that it calls make is longer than what came in: it says more and counts as full. Else prove '..UptoSaid'. A law counts once. -/
mutual
def uptoBulk {H : Type} : DataW H → Nat
  | .lit (.string bytes) => bytes.length + 1
  | .lit _ => 1
  | .nil => 1
  | .ptr d => uptoBulk d + 1
  | .slice elems spare => uptoBulkAll elems + uptoBulkAll spare + 1
  | .agg parts => uptoBulkAll parts + 1
  | .iface _ d => uptoBulk d + 1
  | .map entries => uptoBulkEntries entries + 1
  | .held _ => 1
def uptoBulkAll {H : Type} : List (DataW H) → Nat
  | [] => 0
  | d :: r => uptoBulk d + uptoBulkAll r
def uptoBulkEntries {H : Type} : List (Lit × DataW H) → Nat
  | [] => 0
  | x :: r => uptoBulkEntry x + uptoBulkEntries r
def uptoBulkEntry {H : Type} : Lit × DataW H → Nat
  | (.string bytes, d) => bytes.length + uptoBulk d + 1
  | (_, d) => uptoBulk d + 1
 end
def uptoSmall : (H : Type) → List (DataW H) → Bool := fun _ ds => decide (uptoBulkAll ds ≤ 1048576)
def OpenSpec.upto (s : _root_.Go.ChangeSpec) : _root_.Go.OpenSpec := { _root_.Go.OpenSpec.ofChange s with cond := some uptoSmall }

/-- 'hermitagelaw28.VicOrder', WHERE WHAT IT READS IS OF BULK AT MOST 1048576: true; the input reads as it did. -/
def vicOrderUptoRow : OpenClaim := { program := "ytddngfhiaolkeaa", sum := "1bf344f90293d02893ccabcb93c08ae358ba53bd7dfb6ed7216ef3b232ea1be7", func := "hermitage/hermitagelaw28.VicOrder", spec := "vicOrder", unfollowed := true, recurses := true, apart := false, narrowed := true }
def VicOrderUptoSaid : Prop := vicOrderUptoRow.holds Try.pinned (OpenSpec.upto vicOrderSpec)

/-- 'hermitagelaw28.VicMask', WHERE WHAT IT READS IS OF BULK AT MOST 1048576: true; the input reads as it did. -/
def vicMaskUptoRow : OpenClaim := { program := "ytddngfhiaolkeaa", sum := "1bf344f90293d02893ccabcb93c08ae358ba53bd7dfb6ed7216ef3b232ea1be7", func := "hermitage/hermitagelaw28.VicMask", spec := "vicMask", unfollowed := true, recurses := true, apart := false, narrowed := true }
def VicMaskUptoSaid : Prop := vicMaskUptoRow.holds Try.pinned (OpenSpec.upto vicMaskSpec)

/-- 'hermitagelaw28.VicOnce', WHERE WHAT IT READS IS OF BULK AT MOST 1048576: true; the input reads as it did. -/
def vicOnceUptoRow : OpenClaim := { program := "ytddngfhiaolkeaa", sum := "1bf344f90293d02893ccabcb93c08ae358ba53bd7dfb6ed7216ef3b232ea1be7", func := "hermitage/hermitagelaw28.VicOnce", spec := "vicOnce", unfollowed := true, recurses := true, apart := false, narrowed := true }
def VicOnceUptoSaid : Prop := vicOnceUptoRow.holds Try.pinned (OpenSpec.upto vicOnceSpec)

/-- 'hermitagelaw28.VicPlays', WHERE WHAT IT READS IS OF BULK AT MOST 1048576: true; the input reads as it did. -/
def vicPlaysUptoRow : OpenClaim := { program := "ytddngfhiaolkeaa", sum := "1bf344f90293d02893ccabcb93c08ae358ba53bd7dfb6ed7216ef3b232ea1be7", func := "hermitage/hermitagelaw28.VicPlays", spec := "vicPlays", unfollowed := true, recurses := true, apart := false, narrowed := true }
def VicPlaysUptoSaid : Prop := vicPlaysUptoRow.holds Try.pinned (OpenSpec.upto vicPlaysSpec)

/-- 'hermitagelaw28.VicZero', WHERE WHAT IT READS IS OF BULK AT MOST 1048576: true; the input reads as it did. -/
def vicZeroUptoRow : OpenClaim := { program := "ytddngfhiaolkeaa", sum := "1bf344f90293d02893ccabcb93c08ae358ba53bd7dfb6ed7216ef3b232ea1be7", func := "hermitage/hermitagelaw28.VicZero", spec := "vicZero", unfollowed := true, recurses := true, apart := false, narrowed := true }
def VicZeroUptoSaid : Prop := vicZeroUptoRow.holds Try.pinned (OpenSpec.upto vicZeroSpec)

end Rows
end Go.Proofs.Ytddngfhiaolkeaa
