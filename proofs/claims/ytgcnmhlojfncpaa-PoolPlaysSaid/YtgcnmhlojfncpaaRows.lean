/-
  No cell of these rows narrows 'for every input' (looked for: loops, veiled, ifaces, maps, wideKeys, modest, calm, conditions, laid).
  DERIVED. THE GIVEN ROWS OF THIS SEAT. 4 by the template 'for every input the law returns true; each argument reads behind the call as it read before'; 0 by the template 'total and deterministic' (their statements: YtgcnmhlojfncpaaTotals.lean).
  GIVEN WITH THE SEED: the statements are not yours to turn. If you find one false, say at which input.
  Laid BY PROGRAM, IN A SANDBOX (cutbox-rows.mjs): the forced cells as the released guide's own fill.sh prints them over the translation 0820e77b283c310d… (all of the seat's roots in one cut). By AI agents, Wed Nov 11 2026. No macro, syntax, notation, axiom, sorry.
-/
import Derived.Test.YtgcnmhlojfncpaaChecked
import GoSem.Claim
import GoSem.ClaimJoined
import GoSem.ClaimMapViews
import Derived.JoinedTies
import Derived.KernelRfl
namespace Go.Proofs.Ytgcnmhlojfncpaa
/- THE CELL 'sum', in the pinned program and in every row, IS THE sha256 OF THE DUMP (.gsa) THAT YtgcnmhlojfncpaaProg.lean LOADS. Nothing in Lean hashes anything: it is a label: what it is worth is what the hold of that sum in a sandbox is worth. -/
noncomputable def Try.pinned : Pinned := { name := "ytgcnmhlojfncpaa", sum := "0820e77b283c310d1b097e990320ec9ec85a3e91aec5d7947de16a7adb437c75", checked := Try.checked }
namespace Rows
def none {H : Type} : Left H := { results := [], args := [] }

/-- 'hermitagelaw07.PoolApart': WHATEVER THE INPUT: true; the input reads as it did. -/
def poolApartSpec : ChangeSpec := { name := "poolApart", fn := fun _ => fun
  | [d1, d2, d3] => { results := [.lit (.bool true)], args := [d1, d2, d3] }
  | _ => none }
def poolApartRow : OpenClaim := { program := "ytgcnmhlojfncpaa", sum := "0820e77b283c310d1b097e990320ec9ec85a3e91aec5d7947de16a7adb437c75", func := "hermitage/hermitagelaw07.PoolApart", spec := "poolApart", unfollowed := true, recurses := true, apart := false }
def PoolApartSaid : Prop := poolApartRow.holds Try.pinned (OpenSpec.ofChange poolApartSpec)

/-- ITS FALSE NEIGHBOUR: 'it returns false'. Refute it at one input. -/
def poolApartWrong : ChangeSpec := { name := "poolApart", fn := fun _ => fun
  | [d1, d2, d3] => { results := [.lit (.bool false)], args := [d1, d2, d3] }
  | _ => none }
def PoolApartWrongFalsely : Prop := poolApartRow.holds Try.pinned (OpenSpec.ofChange poolApartWrong)

/-- 'hermitagelaw07.PoolZero': WHATEVER THE INPUT: true; the input reads as it did. -/
def poolZeroSpec : ChangeSpec := { name := "poolZero", fn := fun _ => fun
  | [d1, d2] => { results := [.lit (.bool true)], args := [d1, d2] }
  | _ => none }
def poolZeroRow : OpenClaim := { program := "ytgcnmhlojfncpaa", sum := "0820e77b283c310d1b097e990320ec9ec85a3e91aec5d7947de16a7adb437c75", func := "hermitage/hermitagelaw07.PoolZero", spec := "poolZero", unfollowed := true, recurses := true, apart := false }
def PoolZeroSaid : Prop := poolZeroRow.holds Try.pinned (OpenSpec.ofChange poolZeroSpec)

/-- ITS FALSE NEIGHBOUR: 'it returns false'. Refute it at one input. -/
def poolZeroWrong : ChangeSpec := { name := "poolZero", fn := fun _ => fun
  | [d1, d2] => { results := [.lit (.bool false)], args := [d1, d2] }
  | _ => none }
def PoolZeroWrongFalsely : Prop := poolZeroRow.holds Try.pinned (OpenSpec.ofChange poolZeroWrong)

/-- 'hermitagelaw07.PoolPlays': WHATEVER THE INPUT: true; the input reads as it did. -/
def poolPlaysSpec : ChangeSpec := { name := "poolPlays", fn := fun _ => fun
  | [d1, d2, d3, d4] => { results := [.lit (.bool true)], args := [d1, d2, d3, d4] }
  | _ => none }
def poolPlaysRow : OpenClaim := { program := "ytgcnmhlojfncpaa", sum := "0820e77b283c310d1b097e990320ec9ec85a3e91aec5d7947de16a7adb437c75", func := "hermitage/hermitagelaw07.PoolPlays", spec := "poolPlays", unfollowed := true, recurses := true, apart := false }
def PoolPlaysSaid : Prop := poolPlaysRow.holds Try.pinned (OpenSpec.ofChange poolPlaysSpec)

/-- ITS FALSE NEIGHBOUR: 'it returns false'. Refute it at one input. -/
def poolPlaysWrong : ChangeSpec := { name := "poolPlays", fn := fun _ => fun
  | [d1, d2, d3, d4] => { results := [.lit (.bool false)], args := [d1, d2, d3, d4] }
  | _ => none }
def PoolPlaysWrongFalsely : Prop := poolPlaysRow.holds Try.pinned (OpenSpec.ofChange poolPlaysWrong)

/-- 'hermitagelaw07.PoolScrub': WHATEVER THE INPUT: true; the input reads as it did. -/
def poolScrubSpec : ChangeSpec := { name := "poolScrub", fn := fun _ => fun
  | [d1, d2, d3] => { results := [.lit (.bool true)], args := [d1, d2, d3] }
  | _ => none }
def poolScrubRow : OpenClaim := { program := "ytgcnmhlojfncpaa", sum := "0820e77b283c310d1b097e990320ec9ec85a3e91aec5d7947de16a7adb437c75", func := "hermitage/hermitagelaw07.PoolScrub", spec := "poolScrub", unfollowed := true, recurses := true, apart := false }
def PoolScrubSaid : Prop := poolScrubRow.holds Try.pinned (OpenSpec.ofChange poolScrubSpec)

/-- ITS FALSE NEIGHBOUR: 'it returns false'. Refute it at one input. -/
def poolScrubWrong : ChangeSpec := { name := "poolScrub", fn := fun _ => fun
  | [d1, d2, d3] => { results := [.lit (.bool false)], args := [d1, d2, d3] }
  | _ => none }
def PoolScrubWrongFalsely : Prop := poolScrubRow.holds Try.pinned (OpenSpec.ofChange poolScrubWrong)

/- THE SECOND FORM. 'bulk': how many values and letters a reading holds, each counted each time it is reached (what is shared counts as often as it is met; a slice's spare places count too). A statement '..UptoSaid' is the law's where the arguments, and the package variables that the reading takes, are together of bulk at most 1048576: NARROWER than '..Said'. Prove '..Said' where nothing that the law and all that it calls make is longer than what came in: it says more and counts as full. Else prove '..UptoSaid'. A law counts once. -/
mutual
def uptoBulk {H : Type} : DataW H → Nat
  | .lit (.string bytes) => bytes.length + 1
  | .lit _ => 1
  | .nil => 1
  | .ptr d => uptoBulk d + 1
  | .slice elems spare => uptoBulkAll elems + uptoBulkAll spare + 1
  | .agg parts => uptoBulkAll parts + 1
  | .iface _ d => uptoBulk d + 1
  | .map entries => uptoBulkEntries entries + 1
  | .held _ => 1
def uptoBulkAll {H : Type} : List (DataW H) → Nat
  | [] => 0
  | d :: r => uptoBulk d + uptoBulkAll r
def uptoBulkEntries {H : Type} : List (Lit × DataW H) → Nat
  | [] => 0
  | x :: r => uptoBulkEntry x + uptoBulkEntries r
def uptoBulkEntry {H : Type} : Lit × DataW H → Nat
  | (.string bytes, d) => bytes.length + uptoBulk d + 1
  | (_, d) => uptoBulk d + 1
 end
def uptoSmall : (H : Type) → List (DataW H) → Bool := fun _ ds => decide (uptoBulkAll ds ≤ 1048576)
def OpenSpec.upto (s : _root_.Go.ChangeSpec) : _root_.Go.OpenSpec := { _root_.Go.OpenSpec.ofChange s with cond := some uptoSmall }

/-- 'hermitagelaw07.PoolApart', WHERE WHAT IT READS IS OF BULK AT MOST 1048576: true; the input reads as it did. -/
def poolApartUptoRow : OpenClaim := { program := "ytgcnmhlojfncpaa", sum := "0820e77b283c310d1b097e990320ec9ec85a3e91aec5d7947de16a7adb437c75", func := "hermitage/hermitagelaw07.PoolApart", spec := "poolApart", unfollowed := true, recurses := true, apart := false, narrowed := true }
def PoolApartUptoSaid : Prop := poolApartUptoRow.holds Try.pinned (OpenSpec.upto poolApartSpec)

/-- 'hermitagelaw07.PoolZero', WHERE WHAT IT READS IS OF BULK AT MOST 1048576: true; the input reads as it did. -/
def poolZeroUptoRow : OpenClaim := { program := "ytgcnmhlojfncpaa", sum := "0820e77b283c310d1b097e990320ec9ec85a3e91aec5d7947de16a7adb437c75", func := "hermitage/hermitagelaw07.PoolZero", spec := "poolZero", unfollowed := true, recurses := true, apart := false, narrowed := true }
def PoolZeroUptoSaid : Prop := poolZeroUptoRow.holds Try.pinned (OpenSpec.upto poolZeroSpec)

/-- 'hermitagelaw07.PoolPlays', WHERE WHAT IT READS IS OF BULK AT MOST 1048576: true; the input reads as it did. -/
def poolPlaysUptoRow : OpenClaim := { program := "ytgcnmhlojfncpaa", sum := "0820e77b283c310d1b097e990320ec9ec85a3e91aec5d7947de16a7adb437c75", func := "hermitage/hermitagelaw07.PoolPlays", spec := "poolPlays", unfollowed := true, recurses := true, apart := false, narrowed := true }
def PoolPlaysUptoSaid : Prop := poolPlaysUptoRow.holds Try.pinned (OpenSpec.upto poolPlaysSpec)

/-- 'hermitagelaw07.PoolScrub', WHERE WHAT IT READS IS OF BULK AT MOST 1048576: true; the input reads as it did. -/
def poolScrubUptoRow : OpenClaim := { program := "ytgcnmhlojfncpaa", sum := "0820e77b283c310d1b097e990320ec9ec85a3e91aec5d7947de16a7adb437c75", func := "hermitage/hermitagelaw07.PoolScrub", spec := "poolScrub", unfollowed := true, recurses := true, apart := false, narrowed := true }
def PoolScrubUptoSaid : Prop := poolScrubUptoRow.holds Try.pinned (OpenSpec.upto poolScrubSpec)

end Rows
end Go.Proofs.Ytgcnmhlojfncpaa
