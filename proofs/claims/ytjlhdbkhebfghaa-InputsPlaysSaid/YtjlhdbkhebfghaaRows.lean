/-
  No cell of these rows narrows 'for every input' (looked for: loops, veiled, ifaces, maps, wideKeys, modest, calm, conditions, laid).
  DERIVED. THE GIVEN ROWS OF THIS SEAT. 8 by the template 'for every input the law returns true; each argument reads behind the call as it read before'; 0 by the template 'total and deterministic' (their statements: YtjlhdbkhebfghaaTotals.lean).
  GIVEN WITH THE SEED: the statements are not yours to turn. If you find one false, say at which input.
  Laid BY PROGRAM, IN A SANDBOX (cutbox-rows.mjs): the forced cells as the released guide's own fill.sh prints them over the translation 6b6d47fd1149bbe1… (all of the seat's roots in one cut). By AI agents, Wed Nov 11 2026. No macro, syntax, notation, axiom, sorry.
-/
import Derived.Test.YtjlhdbkhebfghaaChecked
import GoSem.Claim
import GoSem.ClaimJoined
import GoSem.ClaimMapViews
import Derived.JoinedTies
import Derived.KernelRfl
namespace Go.Proofs.Ytjlhdbkhebfghaa
/- THE CELL 'sum', in the pinned program and in every row, IS THE sha256 OF THE DUMP (.gsa) THAT YtjlhdbkhebfghaaProg.lean LOADS. Nothing in Lean hashes anything: it is a label: what it is worth is what the hold of that sum in a sandbox is worth. -/
noncomputable def Try.pinned : Pinned := { name := "ytjlhdbkhebfghaa", sum := "6b6d47fd1149bbe19b03b9f951a4414273164a84e2d43f1b7101d9136facb8c4", checked := Try.checked }
namespace Rows
def none {H : Type} : Left H := { results := [], args := [] }

/-- 'hermitagelaw29.TimerOrder': WHATEVER THE INPUT: true; the input reads as it did. -/
def timerOrderSpec : ChangeSpec := { name := "timerOrder", fn := fun _ => fun
  | [d1, d2, d3, d4] => { results := [.lit (.bool true)], args := [d1, d2, d3, d4] }
  | _ => none }
def timerOrderRow : OpenClaim := { program := "ytjlhdbkhebfghaa", sum := "6b6d47fd1149bbe19b03b9f951a4414273164a84e2d43f1b7101d9136facb8c4", func := "hermitage/hermitagelaw29.TimerOrder", spec := "timerOrder", unfollowed := true, recurses := true, apart := false }
def TimerOrderSaid : Prop := timerOrderRow.holds Try.pinned (OpenSpec.ofChange timerOrderSpec)

/-- ITS FALSE NEIGHBOUR: 'it returns false'. Refute it at one input. -/
def timerOrderWrong : ChangeSpec := { name := "timerOrder", fn := fun _ => fun
  | [d1, d2, d3, d4] => { results := [.lit (.bool false)], args := [d1, d2, d3, d4] }
  | _ => none }
def TimerOrderWrongFalsely : Prop := timerOrderRow.holds Try.pinned (OpenSpec.ofChange timerOrderWrong)

/-- 'hermitagelaw29.TimerOnce': WHATEVER THE INPUT: true; the input reads as it did. -/
def timerOnceSpec : ChangeSpec := { name := "timerOnce", fn := fun _ => fun
  | [d] => { results := [.lit (.bool true)], args := [d] }
  | _ => none }
def timerOnceRow : OpenClaim := { program := "ytjlhdbkhebfghaa", sum := "6b6d47fd1149bbe19b03b9f951a4414273164a84e2d43f1b7101d9136facb8c4", func := "hermitage/hermitagelaw29.TimerOnce", spec := "timerOnce", unfollowed := true, recurses := true, apart := false }
def TimerOnceSaid : Prop := timerOnceRow.holds Try.pinned (OpenSpec.ofChange timerOnceSpec)

/-- ITS FALSE NEIGHBOUR: 'it returns false'. Refute it at one input. -/
def timerOnceWrong : ChangeSpec := { name := "timerOnce", fn := fun _ => fun
  | [d] => { results := [.lit (.bool false)], args := [d] }
  | _ => none }
def TimerOnceWrongFalsely : Prop := timerOnceRow.holds Try.pinned (OpenSpec.ofChange timerOnceWrong)

/-- 'hermitagelaw33.InputsPlays': WHATEVER THE INPUT: true; the input reads as it did. -/
def inputsPlaysSpec : ChangeSpec := { name := "inputsPlays", fn := fun _ => fun
  | [d1, d2, d3, d4] => { results := [.lit (.bool true)], args := [d1, d2, d3, d4] }
  | _ => none }
def inputsPlaysRow : OpenClaim := { program := "ytjlhdbkhebfghaa", sum := "6b6d47fd1149bbe19b03b9f951a4414273164a84e2d43f1b7101d9136facb8c4", func := "hermitage/hermitagelaw33.InputsPlays", spec := "inputsPlays", unfollowed := true, recurses := true, apart := false }
def InputsPlaysSaid : Prop := inputsPlaysRow.holds Try.pinned (OpenSpec.ofChange inputsPlaysSpec)

/-- ITS FALSE NEIGHBOUR: 'it returns false'. Refute it at one input. -/
def inputsPlaysWrong : ChangeSpec := { name := "inputsPlays", fn := fun _ => fun
  | [d1, d2, d3, d4] => { results := [.lit (.bool false)], args := [d1, d2, d3, d4] }
  | _ => none }
def InputsPlaysWrongFalsely : Prop := inputsPlaysRow.holds Try.pinned (OpenSpec.ofChange inputsPlaysWrong)

/-- 'hermitagelaw33.InputsOnce': WHATEVER THE INPUT: true; the input reads as it did. -/
def inputsOnceSpec : ChangeSpec := { name := "inputsOnce", fn := fun _ => fun
  | [d1, d2] => { results := [.lit (.bool true)], args := [d1, d2] }
  | _ => none }
def inputsOnceRow : OpenClaim := { program := "ytjlhdbkhebfghaa", sum := "6b6d47fd1149bbe19b03b9f951a4414273164a84e2d43f1b7101d9136facb8c4", func := "hermitage/hermitagelaw33.InputsOnce", spec := "inputsOnce", unfollowed := true, recurses := true, apart := false }
def InputsOnceSaid : Prop := inputsOnceRow.holds Try.pinned (OpenSpec.ofChange inputsOnceSpec)

/-- ITS FALSE NEIGHBOUR: 'it returns false'. Refute it at one input. -/
def inputsOnceWrong : ChangeSpec := { name := "inputsOnce", fn := fun _ => fun
  | [d1, d2] => { results := [.lit (.bool false)], args := [d1, d2] }
  | _ => none }
def InputsOnceWrongFalsely : Prop := inputsOnceRow.holds Try.pinned (OpenSpec.ofChange inputsOnceWrong)

/-- 'hermitagelaw33.InputsApart': WHATEVER THE INPUT: true; the input reads as it did. -/
def inputsApartSpec : ChangeSpec := { name := "inputsApart", fn := fun _ => fun
  | [d1, d2, d3, d4] => { results := [.lit (.bool true)], args := [d1, d2, d3, d4] }
  | _ => none }
def inputsApartRow : OpenClaim := { program := "ytjlhdbkhebfghaa", sum := "6b6d47fd1149bbe19b03b9f951a4414273164a84e2d43f1b7101d9136facb8c4", func := "hermitage/hermitagelaw33.InputsApart", spec := "inputsApart", unfollowed := true, recurses := true, apart := false }
def InputsApartSaid : Prop := inputsApartRow.holds Try.pinned (OpenSpec.ofChange inputsApartSpec)

/-- ITS FALSE NEIGHBOUR: 'it returns false'. Refute it at one input. -/
def inputsApartWrong : ChangeSpec := { name := "inputsApart", fn := fun _ => fun
  | [d1, d2, d3, d4] => { results := [.lit (.bool false)], args := [d1, d2, d3, d4] }
  | _ => none }
def InputsApartWrongFalsely : Prop := inputsApartRow.holds Try.pinned (OpenSpec.ofChange inputsApartWrong)

/-- 'hermitagelaw33.InputsZero': WHATEVER THE INPUT: true; the input reads as it did. -/
def inputsZeroSpec : ChangeSpec := { name := "inputsZero", fn := fun _ => fun
  | [d1, d2] => { results := [.lit (.bool true)], args := [d1, d2] }
  | _ => none }
def inputsZeroRow : OpenClaim := { program := "ytjlhdbkhebfghaa", sum := "6b6d47fd1149bbe19b03b9f951a4414273164a84e2d43f1b7101d9136facb8c4", func := "hermitage/hermitagelaw33.InputsZero", spec := "inputsZero", unfollowed := true, recurses := true, apart := false }
def InputsZeroSaid : Prop := inputsZeroRow.holds Try.pinned (OpenSpec.ofChange inputsZeroSpec)

/-- ITS FALSE NEIGHBOUR: 'it returns false'. Refute it at one input. -/
def inputsZeroWrong : ChangeSpec := { name := "inputsZero", fn := fun _ => fun
  | [d1, d2] => { results := [.lit (.bool false)], args := [d1, d2] }
  | _ => none }
def InputsZeroWrongFalsely : Prop := inputsZeroRow.holds Try.pinned (OpenSpec.ofChange inputsZeroWrong)

/-- 'hermitagelaw29.TimerPlays': WHATEVER THE INPUT: true; the input reads as it did. -/
def timerPlaysSpec : ChangeSpec := { name := "timerPlays", fn := fun _ => fun
  | [d] => { results := [.lit (.bool true)], args := [d] }
  | _ => none }
def timerPlaysRow : OpenClaim := { program := "ytjlhdbkhebfghaa", sum := "6b6d47fd1149bbe19b03b9f951a4414273164a84e2d43f1b7101d9136facb8c4", func := "hermitage/hermitagelaw29.TimerPlays", spec := "timerPlays", unfollowed := true, recurses := true, apart := false }
def TimerPlaysSaid : Prop := timerPlaysRow.holds Try.pinned (OpenSpec.ofChange timerPlaysSpec)

/-- ITS FALSE NEIGHBOUR: 'it returns false'. Refute it at one input. -/
def timerPlaysWrong : ChangeSpec := { name := "timerPlays", fn := fun _ => fun
  | [d] => { results := [.lit (.bool false)], args := [d] }
  | _ => none }
def TimerPlaysWrongFalsely : Prop := timerPlaysRow.holds Try.pinned (OpenSpec.ofChange timerPlaysWrong)

/-- 'hermitagelaw29.TimerZero': WHATEVER THE INPUT: true; the input reads as it did. -/
def timerZeroSpec : ChangeSpec := { name := "timerZero", fn := fun _ => fun
  | [d] => { results := [.lit (.bool true)], args := [d] }
  | _ => none }
def timerZeroRow : OpenClaim := { program := "ytjlhdbkhebfghaa", sum := "6b6d47fd1149bbe19b03b9f951a4414273164a84e2d43f1b7101d9136facb8c4", func := "hermitage/hermitagelaw29.TimerZero", spec := "timerZero", unfollowed := true, recurses := true, apart := false }
def TimerZeroSaid : Prop := timerZeroRow.holds Try.pinned (OpenSpec.ofChange timerZeroSpec)

/-- ITS FALSE NEIGHBOUR: 'it returns false'. Refute it at one input. -/
def timerZeroWrong : ChangeSpec := { name := "timerZero", fn := fun _ => fun
  | [d] => { results := [.lit (.bool false)], args := [d] }
  | _ => none }
def TimerZeroWrongFalsely : Prop := timerZeroRow.holds Try.pinned (OpenSpec.ofChange timerZeroWrong)

/- THE SECOND FORM. 'bulk': how many values and letters a reading holds, each counted each time it is reached (what is shared counts as often as it is met; a slice's spare places count too). A statement '..UptoSaid' is the law's where the arguments, and the package variables that the reading takes, are together of bulk at most 1048576: NARROWER than '..Said'. Prove '..Said' where nothing that the law and all that it calls make is longer than what came in: it says more and counts as full. Else prove '..UptoSaid'. A law counts once. -/
mutual
def uptoBulk {H : Type} : DataW H → Nat
  | .lit (.string bytes) => bytes.length + 1
  | .lit _ => 1
  | .nil => 1
  | .ptr d => uptoBulk d + 1
  | .slice elems spare => uptoBulkAll elems + uptoBulkAll spare + 1
  | .agg parts => uptoBulkAll parts + 1
  | .iface _ d => uptoBulk d + 1
  | .map entries => uptoBulkEntries entries + 1
  | .held _ => 1
def uptoBulkAll {H : Type} : List (DataW H) → Nat
  | [] => 0
  | d :: r => uptoBulk d + uptoBulkAll r
def uptoBulkEntries {H : Type} : List (Lit × DataW H) → Nat
  | [] => 0
  | x :: r => uptoBulkEntry x + uptoBulkEntries r
def uptoBulkEntry {H : Type} : Lit × DataW H → Nat
  | (.string bytes, d) => bytes.length + uptoBulk d + 1
  | (_, d) => uptoBulk d + 1
 end
def uptoSmall : (H : Type) → List (DataW H) → Bool := fun _ ds => decide (uptoBulkAll ds ≤ 1048576)
def OpenSpec.upto (s : _root_.Go.ChangeSpec) : _root_.Go.OpenSpec := { _root_.Go.OpenSpec.ofChange s with cond := some uptoSmall }

/-- 'hermitagelaw29.TimerOrder', WHERE WHAT IT READS IS OF BULK AT MOST 1048576: true; the input reads as it did. -/
def timerOrderUptoRow : OpenClaim := { program := "ytjlhdbkhebfghaa", sum := "6b6d47fd1149bbe19b03b9f951a4414273164a84e2d43f1b7101d9136facb8c4", func := "hermitage/hermitagelaw29.TimerOrder", spec := "timerOrder", unfollowed := true, recurses := true, apart := false, narrowed := true }
def TimerOrderUptoSaid : Prop := timerOrderUptoRow.holds Try.pinned (OpenSpec.upto timerOrderSpec)

/-- 'hermitagelaw29.TimerOnce', WHERE WHAT IT READS IS OF BULK AT MOST 1048576: true; the input reads as it did. -/
def timerOnceUptoRow : OpenClaim := { program := "ytjlhdbkhebfghaa", sum := "6b6d47fd1149bbe19b03b9f951a4414273164a84e2d43f1b7101d9136facb8c4", func := "hermitage/hermitagelaw29.TimerOnce", spec := "timerOnce", unfollowed := true, recurses := true, apart := false, narrowed := true }
def TimerOnceUptoSaid : Prop := timerOnceUptoRow.holds Try.pinned (OpenSpec.upto timerOnceSpec)

/-- 'hermitagelaw33.InputsPlays', WHERE WHAT IT READS IS OF BULK AT MOST 1048576: true; the input reads as it did. -/
def inputsPlaysUptoRow : OpenClaim := { program := "ytjlhdbkhebfghaa", sum := "6b6d47fd1149bbe19b03b9f951a4414273164a84e2d43f1b7101d9136facb8c4", func := "hermitage/hermitagelaw33.InputsPlays", spec := "inputsPlays", unfollowed := true, recurses := true, apart := false, narrowed := true }
def InputsPlaysUptoSaid : Prop := inputsPlaysUptoRow.holds Try.pinned (OpenSpec.upto inputsPlaysSpec)

/-- 'hermitagelaw33.InputsOnce', WHERE WHAT IT READS IS OF BULK AT MOST 1048576: true; the input reads as it did. -/
def inputsOnceUptoRow : OpenClaim := { program := "ytjlhdbkhebfghaa", sum := "6b6d47fd1149bbe19b03b9f951a4414273164a84e2d43f1b7101d9136facb8c4", func := "hermitage/hermitagelaw33.InputsOnce", spec := "inputsOnce", unfollowed := true, recurses := true, apart := false, narrowed := true }
def InputsOnceUptoSaid : Prop := inputsOnceUptoRow.holds Try.pinned (OpenSpec.upto inputsOnceSpec)

/-- 'hermitagelaw33.InputsApart', WHERE WHAT IT READS IS OF BULK AT MOST 1048576: true; the input reads as it did. -/
def inputsApartUptoRow : OpenClaim := { program := "ytjlhdbkhebfghaa", sum := "6b6d47fd1149bbe19b03b9f951a4414273164a84e2d43f1b7101d9136facb8c4", func := "hermitage/hermitagelaw33.InputsApart", spec := "inputsApart", unfollowed := true, recurses := true, apart := false, narrowed := true }
def InputsApartUptoSaid : Prop := inputsApartUptoRow.holds Try.pinned (OpenSpec.upto inputsApartSpec)

/-- 'hermitagelaw33.InputsZero', WHERE WHAT IT READS IS OF BULK AT MOST 1048576: true; the input reads as it did. -/
def inputsZeroUptoRow : OpenClaim := { program := "ytjlhdbkhebfghaa", sum := "6b6d47fd1149bbe19b03b9f951a4414273164a84e2d43f1b7101d9136facb8c4", func := "hermitage/hermitagelaw33.InputsZero", spec := "inputsZero", unfollowed := true, recurses := true, apart := false, narrowed := true }
def InputsZeroUptoSaid : Prop := inputsZeroUptoRow.holds Try.pinned (OpenSpec.upto inputsZeroSpec)

/-- 'hermitagelaw29.TimerPlays', WHERE WHAT IT READS IS OF BULK AT MOST 1048576: true; the input reads as it did. -/
def timerPlaysUptoRow : OpenClaim := { program := "ytjlhdbkhebfghaa", sum := "6b6d47fd1149bbe19b03b9f951a4414273164a84e2d43f1b7101d9136facb8c4", func := "hermitage/hermitagelaw29.TimerPlays", spec := "timerPlays", unfollowed := true, recurses := true, apart := false, narrowed := true }
def TimerPlaysUptoSaid : Prop := timerPlaysUptoRow.holds Try.pinned (OpenSpec.upto timerPlaysSpec)

/-- 'hermitagelaw29.TimerZero', WHERE WHAT IT READS IS OF BULK AT MOST 1048576: true; the input reads as it did. -/
def timerZeroUptoRow : OpenClaim := { program := "ytjlhdbkhebfghaa", sum := "6b6d47fd1149bbe19b03b9f951a4414273164a84e2d43f1b7101d9136facb8c4", func := "hermitage/hermitagelaw29.TimerZero", spec := "timerZero", unfollowed := true, recurses := true, apart := false, narrowed := true }
def TimerZeroUptoSaid : Prop := timerZeroUptoRow.holds Try.pinned (OpenSpec.upto timerZeroSpec)

end Rows
end Go.Proofs.Ytjlhdbkhebfghaa
