/-
  No cell of these rows narrows 'for every input' (looked for: loops, veiled, ifaces, maps, wideKeys, modest, calm, conditions, laid).
  DERIVED. THE GIVEN ROWS OF THIS SEAT. 8 by the template 'for every input the law returns true; each argument reads behind the call as it read before'; 0 by the template 'total and deterministic' (their statements: YtkicmdflflknaaaTotals.lean).
  GIVEN WITH THE SEED: the statements are not yours to turn. If you find one false, say at which input.
  Laid BY PROGRAM, IN A SANDBOX (cutbox-rows.mjs): the forced cells as the released guide's own fill.sh prints them over the translation 379aeb1142a89b68… (all of the seat's roots in one cut). By AI agents, Wed Nov 11 2026. No macro, syntax, notation, axiom, sorry.
-/
import Derived.Test.YtkicmdflflknaaaChecked
import GoSem.Claim
import GoSem.ClaimJoined
import GoSem.ClaimMapViews
import Derived.JoinedTies
import Derived.KernelRfl
namespace Go.Proofs.Ytkicmdflflknaaa
/- THE CELL 'sum', in the pinned program and in every row, IS THE sha256 OF THE DUMP (.gsa) THAT YtkicmdflflknaaaProg.lean LOADS. Nothing in Lean hashes anything: it is a label: what it is worth is what the hold of that sum in a sandbox is worth. -/
noncomputable def Try.pinned : Pinned := { name := "ytkicmdflflknaaa", sum := "379aeb1142a89b681ad5bb23ce33696f082082c200013b496dee70df775fc191", checked := Try.checked }
namespace Rows
def none {H : Type} : Left H := { results := [], args := [] }

/-- 'hermitagelaw32.SlotsZero': WHATEVER THE INPUT: true; the input reads as it did. -/
def slotsZeroSpec : ChangeSpec := { name := "slotsZero", fn := fun _ => fun
  | [d] => { results := [.lit (.bool true)], args := [d] }
  | _ => none }
def slotsZeroRow : OpenClaim := { program := "ytkicmdflflknaaa", sum := "379aeb1142a89b681ad5bb23ce33696f082082c200013b496dee70df775fc191", func := "hermitage/hermitagelaw32.SlotsZero", spec := "slotsZero", apart := false }
def SlotsZeroSaid : Prop := slotsZeroRow.holds Try.pinned (OpenSpec.ofChange slotsZeroSpec)

/-- ITS FALSE NEIGHBOUR: 'it returns false'. Refute it at one input. -/
def slotsZeroWrong : ChangeSpec := { name := "slotsZero", fn := fun _ => fun
  | [d] => { results := [.lit (.bool false)], args := [d] }
  | _ => none }
def SlotsZeroWrongFalsely : Prop := slotsZeroRow.holds Try.pinned (OpenSpec.ofChange slotsZeroWrong)

/-- 'hermitagelaw15.GmapStays': WHATEVER THE INPUT: true; the input reads as it did. -/
def gmapStaysSpec : ChangeSpec := { name := "gmapStays", fn := fun _ => fun
  | [d1, d2, d3, d4, d5] => { results := [.lit (.bool true)], args := [d1, d2, d3, d4, d5] }
  | _ => none }
def gmapStaysRow : OpenClaim := { program := "ytkicmdflflknaaa", sum := "379aeb1142a89b681ad5bb23ce33696f082082c200013b496dee70df775fc191", func := "hermitage/hermitagelaw15.GmapStays", spec := "gmapStays", apart := false }
def GmapStaysSaid : Prop := gmapStaysRow.holds Try.pinned (OpenSpec.ofChange gmapStaysSpec)

/-- ITS FALSE NEIGHBOUR: 'it returns false'. Refute it at one input. -/
def gmapStaysWrong : ChangeSpec := { name := "gmapStays", fn := fun _ => fun
  | [d1, d2, d3, d4, d5] => { results := [.lit (.bool false)], args := [d1, d2, d3, d4, d5] }
  | _ => none }
def GmapStaysWrongFalsely : Prop := gmapStaysRow.holds Try.pinned (OpenSpec.ofChange gmapStaysWrong)

/-- 'hermitagelaw15.GmapRights': WHATEVER THE INPUT: true; the input reads as it did. -/
def gmapRightsSpec : ChangeSpec := { name := "gmapRights", fn := fun _ => fun
  | [d1, d2, d3] => { results := [.lit (.bool true)], args := [d1, d2, d3] }
  | _ => none }
def gmapRightsRow : OpenClaim := { program := "ytkicmdflflknaaa", sum := "379aeb1142a89b681ad5bb23ce33696f082082c200013b496dee70df775fc191", func := "hermitage/hermitagelaw15.GmapRights", spec := "gmapRights", apart := false }
def GmapRightsSaid : Prop := gmapRightsRow.holds Try.pinned (OpenSpec.ofChange gmapRightsSpec)

/-- ITS FALSE NEIGHBOUR: 'it returns false'. Refute it at one input. -/
def gmapRightsWrong : ChangeSpec := { name := "gmapRights", fn := fun _ => fun
  | [d1, d2, d3] => { results := [.lit (.bool false)], args := [d1, d2, d3] }
  | _ => none }
def GmapRightsWrongFalsely : Prop := gmapRightsRow.holds Try.pinned (OpenSpec.ofChange gmapRightsWrong)

/-- 'hermitagelaw32.SlotsExact': WHATEVER THE INPUT: true; the input reads as it did. -/
def slotsExactSpec : ChangeSpec := { name := "slotsExact", fn := fun _ => fun
  | [d1, d2] => { results := [.lit (.bool true)], args := [d1, d2] }
  | _ => none }
def slotsExactRow : OpenClaim := { program := "ytkicmdflflknaaa", sum := "379aeb1142a89b681ad5bb23ce33696f082082c200013b496dee70df775fc191", func := "hermitage/hermitagelaw32.SlotsExact", spec := "slotsExact", unfollowed := true, recurses := true, apart := false }
def SlotsExactSaid : Prop := slotsExactRow.holds Try.pinned (OpenSpec.ofChange slotsExactSpec)

/-- ITS FALSE NEIGHBOUR: 'it returns false'. Refute it at one input. -/
def slotsExactWrong : ChangeSpec := { name := "slotsExact", fn := fun _ => fun
  | [d1, d2] => { results := [.lit (.bool false)], args := [d1, d2] }
  | _ => none }
def SlotsExactWrongFalsely : Prop := slotsExactRow.holds Try.pinned (OpenSpec.ofChange slotsExactWrong)

/-- 'hermitagelaw15.GmapZero': WHATEVER THE INPUT: true; the input reads as it did. -/
def gmapZeroSpec : ChangeSpec := { name := "gmapZero", fn := fun _ => fun
  | [d1, d2, d3] => { results := [.lit (.bool true)], args := [d1, d2, d3] }
  | _ => none }
def gmapZeroRow : OpenClaim := { program := "ytkicmdflflknaaa", sum := "379aeb1142a89b681ad5bb23ce33696f082082c200013b496dee70df775fc191", func := "hermitage/hermitagelaw15.GmapZero", spec := "gmapZero", apart := false }
def GmapZeroSaid : Prop := gmapZeroRow.holds Try.pinned (OpenSpec.ofChange gmapZeroSpec)

/-- ITS FALSE NEIGHBOUR: 'it returns false'. Refute it at one input. -/
def gmapZeroWrong : ChangeSpec := { name := "gmapZero", fn := fun _ => fun
  | [d1, d2, d3] => { results := [.lit (.bool false)], args := [d1, d2, d3] }
  | _ => none }
def GmapZeroWrongFalsely : Prop := gmapZeroRow.holds Try.pinned (OpenSpec.ofChange gmapZeroWrong)

/-- 'hermitagelaw15.GmapPlays': WHATEVER THE INPUT: true; the input reads as it did. -/
def gmapPlaysSpec : ChangeSpec := { name := "gmapPlays", fn := fun _ => fun
  | [d1, d2, d3] => { results := [.lit (.bool true)], args := [d1, d2, d3] }
  | _ => none }
def gmapPlaysRow : OpenClaim := { program := "ytkicmdflflknaaa", sum := "379aeb1142a89b681ad5bb23ce33696f082082c200013b496dee70df775fc191", func := "hermitage/hermitagelaw15.GmapPlays", spec := "gmapPlays", apart := false }
def GmapPlaysSaid : Prop := gmapPlaysRow.holds Try.pinned (OpenSpec.ofChange gmapPlaysSpec)

/-- ITS FALSE NEIGHBOUR: 'it returns false'. Refute it at one input. -/
def gmapPlaysWrong : ChangeSpec := { name := "gmapPlays", fn := fun _ => fun
  | [d1, d2, d3] => { results := [.lit (.bool false)], args := [d1, d2, d3] }
  | _ => none }
def GmapPlaysWrongFalsely : Prop := gmapPlaysRow.holds Try.pinned (OpenSpec.ofChange gmapPlaysWrong)

/-- 'hermitagelaw32.SlotsRound': WHATEVER THE INPUT: true; the input reads as it did. -/
def slotsRoundSpec : ChangeSpec := { name := "slotsRound", fn := fun _ => fun
  | [d1, d2] => { results := [.lit (.bool true)], args := [d1, d2] }
  | _ => none }
def slotsRoundRow : OpenClaim := { program := "ytkicmdflflknaaa", sum := "379aeb1142a89b681ad5bb23ce33696f082082c200013b496dee70df775fc191", func := "hermitage/hermitagelaw32.SlotsRound", spec := "slotsRound", unfollowed := true, recurses := true, apart := false }
def SlotsRoundSaid : Prop := slotsRoundRow.holds Try.pinned (OpenSpec.ofChange slotsRoundSpec)

/-- ITS FALSE NEIGHBOUR: 'it returns false'. Refute it at one input. -/
def slotsRoundWrong : ChangeSpec := { name := "slotsRound", fn := fun _ => fun
  | [d1, d2] => { results := [.lit (.bool false)], args := [d1, d2] }
  | _ => none }
def SlotsRoundWrongFalsely : Prop := slotsRoundRow.holds Try.pinned (OpenSpec.ofChange slotsRoundWrong)

/-- 'hermitagelaw32.SlotsPlays': WHATEVER THE INPUT: true; the input reads as it did. -/
def slotsPlaysSpec : ChangeSpec := { name := "slotsPlays", fn := fun _ => fun
  | [d1, d2] => { results := [.lit (.bool true)], args := [d1, d2] }
  | _ => none }
def slotsPlaysRow : OpenClaim := { program := "ytkicmdflflknaaa", sum := "379aeb1142a89b681ad5bb23ce33696f082082c200013b496dee70df775fc191", func := "hermitage/hermitagelaw32.SlotsPlays", spec := "slotsPlays", unfollowed := true, recurses := true, apart := false }
def SlotsPlaysSaid : Prop := slotsPlaysRow.holds Try.pinned (OpenSpec.ofChange slotsPlaysSpec)

/-- ITS FALSE NEIGHBOUR: 'it returns false'. Refute it at one input. -/
def slotsPlaysWrong : ChangeSpec := { name := "slotsPlays", fn := fun _ => fun
  | [d1, d2] => { results := [.lit (.bool false)], args := [d1, d2] }
  | _ => none }
def SlotsPlaysWrongFalsely : Prop := slotsPlaysRow.holds Try.pinned (OpenSpec.ofChange slotsPlaysWrong)

/- THE SECOND FORM. 'bulk': how many values and letters a reading holds, each counted each time it is reached (what is shared counts as often as it is met; a slice's spare places count too). A statement '..UptoSaid' is the law's where the arguments, and the package variables that the reading takes, are together of bulk at most 1048576: NARROWER than '..Said'. Prove '..Said' where nothing that the law and all that it calls make is longer than what came in: it says more and counts as full. Else prove '..UptoSaid'. A law counts once. -/
mutual
def uptoBulk {H : Type} : DataW H → Nat
  | .lit (.string bytes) => bytes.length + 1
  | .lit _ => 1
  | .nil => 1
  | .ptr d => uptoBulk d + 1
  | .slice elems spare => uptoBulkAll elems + uptoBulkAll spare + 1
  | .agg parts => uptoBulkAll parts + 1
  | .iface _ d => uptoBulk d + 1
  | .map entries => uptoBulkEntries entries + 1
  | .held _ => 1
def uptoBulkAll {H : Type} : List (DataW H) → Nat
  | [] => 0
  | d :: r => uptoBulk d + uptoBulkAll r
def uptoBulkEntries {H : Type} : List (Lit × DataW H) → Nat
  | [] => 0
  | x :: r => uptoBulkEntry x + uptoBulkEntries r
def uptoBulkEntry {H : Type} : Lit × DataW H → Nat
  | (.string bytes, d) => bytes.length + uptoBulk d + 1
  | (_, d) => uptoBulk d + 1
 end
def uptoSmall : (H : Type) → List (DataW H) → Bool := fun _ ds => decide (uptoBulkAll ds ≤ 1048576)
def OpenSpec.upto (s : _root_.Go.ChangeSpec) : _root_.Go.OpenSpec := { _root_.Go.OpenSpec.ofChange s with cond := some uptoSmall }

/-- 'hermitagelaw32.SlotsZero', WHERE WHAT IT READS IS OF BULK AT MOST 1048576: true; the input reads as it did. -/
def slotsZeroUptoRow : OpenClaim := { program := "ytkicmdflflknaaa", sum := "379aeb1142a89b681ad5bb23ce33696f082082c200013b496dee70df775fc191", func := "hermitage/hermitagelaw32.SlotsZero", spec := "slotsZero", apart := false, narrowed := true }
def SlotsZeroUptoSaid : Prop := slotsZeroUptoRow.holds Try.pinned (OpenSpec.upto slotsZeroSpec)

/-- 'hermitagelaw15.GmapStays', WHERE WHAT IT READS IS OF BULK AT MOST 1048576: true; the input reads as it did. -/
def gmapStaysUptoRow : OpenClaim := { program := "ytkicmdflflknaaa", sum := "379aeb1142a89b681ad5bb23ce33696f082082c200013b496dee70df775fc191", func := "hermitage/hermitagelaw15.GmapStays", spec := "gmapStays", apart := false, narrowed := true }
def GmapStaysUptoSaid : Prop := gmapStaysUptoRow.holds Try.pinned (OpenSpec.upto gmapStaysSpec)

/-- 'hermitagelaw15.GmapRights', WHERE WHAT IT READS IS OF BULK AT MOST 1048576: true; the input reads as it did. -/
def gmapRightsUptoRow : OpenClaim := { program := "ytkicmdflflknaaa", sum := "379aeb1142a89b681ad5bb23ce33696f082082c200013b496dee70df775fc191", func := "hermitage/hermitagelaw15.GmapRights", spec := "gmapRights", apart := false, narrowed := true }
def GmapRightsUptoSaid : Prop := gmapRightsUptoRow.holds Try.pinned (OpenSpec.upto gmapRightsSpec)

/-- 'hermitagelaw32.SlotsExact', WHERE WHAT IT READS IS OF BULK AT MOST 1048576: true; the input reads as it did. -/
def slotsExactUptoRow : OpenClaim := { program := "ytkicmdflflknaaa", sum := "379aeb1142a89b681ad5bb23ce33696f082082c200013b496dee70df775fc191", func := "hermitage/hermitagelaw32.SlotsExact", spec := "slotsExact", unfollowed := true, recurses := true, apart := false, narrowed := true }
def SlotsExactUptoSaid : Prop := slotsExactUptoRow.holds Try.pinned (OpenSpec.upto slotsExactSpec)

/-- 'hermitagelaw15.GmapZero', WHERE WHAT IT READS IS OF BULK AT MOST 1048576: true; the input reads as it did. -/
def gmapZeroUptoRow : OpenClaim := { program := "ytkicmdflflknaaa", sum := "379aeb1142a89b681ad5bb23ce33696f082082c200013b496dee70df775fc191", func := "hermitage/hermitagelaw15.GmapZero", spec := "gmapZero", apart := false, narrowed := true }
def GmapZeroUptoSaid : Prop := gmapZeroUptoRow.holds Try.pinned (OpenSpec.upto gmapZeroSpec)

/-- 'hermitagelaw15.GmapPlays', WHERE WHAT IT READS IS OF BULK AT MOST 1048576: true; the input reads as it did. -/
def gmapPlaysUptoRow : OpenClaim := { program := "ytkicmdflflknaaa", sum := "379aeb1142a89b681ad5bb23ce33696f082082c200013b496dee70df775fc191", func := "hermitage/hermitagelaw15.GmapPlays", spec := "gmapPlays", apart := false, narrowed := true }
def GmapPlaysUptoSaid : Prop := gmapPlaysUptoRow.holds Try.pinned (OpenSpec.upto gmapPlaysSpec)

/-- 'hermitagelaw32.SlotsRound', WHERE WHAT IT READS IS OF BULK AT MOST 1048576: true; the input reads as it did. -/
def slotsRoundUptoRow : OpenClaim := { program := "ytkicmdflflknaaa", sum := "379aeb1142a89b681ad5bb23ce33696f082082c200013b496dee70df775fc191", func := "hermitage/hermitagelaw32.SlotsRound", spec := "slotsRound", unfollowed := true, recurses := true, apart := false, narrowed := true }
def SlotsRoundUptoSaid : Prop := slotsRoundUptoRow.holds Try.pinned (OpenSpec.upto slotsRoundSpec)

/-- 'hermitagelaw32.SlotsPlays', WHERE WHAT IT READS IS OF BULK AT MOST 1048576: true; the input reads as it did. -/
def slotsPlaysUptoRow : OpenClaim := { program := "ytkicmdflflknaaa", sum := "379aeb1142a89b681ad5bb23ce33696f082082c200013b496dee70df775fc191", func := "hermitage/hermitagelaw32.SlotsPlays", spec := "slotsPlays", unfollowed := true, recurses := true, apart := false, narrowed := true }
def SlotsPlaysUptoSaid : Prop := slotsPlaysUptoRow.holds Try.pinned (OpenSpec.upto slotsPlaysSpec)

end Rows
end Go.Proofs.Ytkicmdflflknaaa
