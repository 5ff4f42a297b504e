/-
  No cell of these rows narrows 'for every input' (looked for: loops, veiled, ifaces, maps, wideKeys, modest, calm, conditions, laid).
  DERIVED. THE GIVEN ROWS OF THIS SEAT. 5 by the template 'for every input the law returns true; each argument reads behind the call as it read before'; 0 by the template 'total and deterministic' (their statements: YthppjkpejnaocaaTotals.lean).
  GIVEN WITH THE SEED: the statements are not yours to turn. If you find one false, say at which input.
  Laid BY PROGRAM, IN A SANDBOX (cutbox-rows.mjs): the forced cells as the released guide's own fill.sh prints them over the translation 6a286b7301d79f65… (all of the seat's roots in one cut). By AI agents, Wed Nov 11 2026. No macro, syntax, notation, axiom, sorry.
-/
import Derived.Test.YthppjkpejnaocaaChecked
import GoSem.Claim
import GoSem.ClaimJoined
import GoSem.ClaimMapViews
import Derived.JoinedTies
import Derived.KernelRfl
namespace Go.Proofs.Ythppjkpejnaocaa
/- THE CELL 'sum', in the pinned program and in every row, IS THE sha256 OF THE DUMP (.gsa) THAT YthppjkpejnaocaaProg.lean LOADS. Nothing in Lean hashes anything: it is a label: what it is worth is what the hold of that sum in a sandbox is worth. -/
noncomputable def Try.pinned : Pinned := { name := "ythppjkpejnaocaa", sum := "6a286b7301d79f651fa226e85e61b398b266d1d94371a53927d9eb9e42897b04", checked := Try.checked }
namespace Rows
def none {H : Type} : Left H := { results := [], args := [] }

/-- 'hermitagelaw19.ShadowProtects': WHATEVER THE INPUT: true; the input reads as it did. -/
def shadowProtectsSpec : ChangeSpec := { name := "shadowProtects", fn := fun _ => fun
  | [d] => { results := [.lit (.bool true)], args := [d] }
  | _ => none }
def shadowProtectsRow : OpenClaim := { program := "ythppjkpejnaocaa", sum := "6a286b7301d79f651fa226e85e61b398b266d1d94371a53927d9eb9e42897b04", func := "hermitage/hermitagelaw19.ShadowProtects", spec := "shadowProtects", unfollowed := true, recurses := true, apart := false }
def ShadowProtectsSaid : Prop := shadowProtectsRow.holds Try.pinned (OpenSpec.ofChange shadowProtectsSpec)

/-- ITS FALSE NEIGHBOUR: 'it returns false'. Refute it at one input. -/
def shadowProtectsWrong : ChangeSpec := { name := "shadowProtects", fn := fun _ => fun
  | [d] => { results := [.lit (.bool false)], args := [d] }
  | _ => none }
def ShadowProtectsWrongFalsely : Prop := shadowProtectsRow.holds Try.pinned (OpenSpec.ofChange shadowProtectsWrong)

/-- 'hermitagelaw19.ShadowDrops': WHATEVER THE INPUT: true; the input reads as it did. -/
def shadowDropsSpec : ChangeSpec := { name := "shadowDrops", fn := fun _ => fun
  | [d1, d2] => { results := [.lit (.bool true)], args := [d1, d2] }
  | _ => none }
def shadowDropsRow : OpenClaim := { program := "ythppjkpejnaocaa", sum := "6a286b7301d79f651fa226e85e61b398b266d1d94371a53927d9eb9e42897b04", func := "hermitage/hermitagelaw19.ShadowDrops", spec := "shadowDrops", unfollowed := true, recurses := true, apart := false }
def ShadowDropsSaid : Prop := shadowDropsRow.holds Try.pinned (OpenSpec.ofChange shadowDropsSpec)

/-- ITS FALSE NEIGHBOUR: 'it returns false'. Refute it at one input. -/
def shadowDropsWrong : ChangeSpec := { name := "shadowDrops", fn := fun _ => fun
  | [d1, d2] => { results := [.lit (.bool false)], args := [d1, d2] }
  | _ => none }
def ShadowDropsWrongFalsely : Prop := shadowDropsRow.holds Try.pinned (OpenSpec.ofChange shadowDropsWrong)

/-- 'hermitagelaw19.ShadowZero': WHATEVER THE INPUT: true; the input reads as it did. -/
def shadowZeroSpec : ChangeSpec := { name := "shadowZero", fn := fun _ => fun
  | [d] => { results := [.lit (.bool true)], args := [d] }
  | _ => none }
def shadowZeroRow : OpenClaim := { program := "ythppjkpejnaocaa", sum := "6a286b7301d79f651fa226e85e61b398b266d1d94371a53927d9eb9e42897b04", func := "hermitage/hermitagelaw19.ShadowZero", spec := "shadowZero", unfollowed := true, recurses := true, apart := false }
def ShadowZeroSaid : Prop := shadowZeroRow.holds Try.pinned (OpenSpec.ofChange shadowZeroSpec)

/-- ITS FALSE NEIGHBOUR: 'it returns false'. Refute it at one input. -/
def shadowZeroWrong : ChangeSpec := { name := "shadowZero", fn := fun _ => fun
  | [d] => { results := [.lit (.bool false)], args := [d] }
  | _ => none }
def ShadowZeroWrongFalsely : Prop := shadowZeroRow.holds Try.pinned (OpenSpec.ofChange shadowZeroWrong)

/-- 'hermitagelaw19.ShadowPlays': WHATEVER THE INPUT: true; the input reads as it did. -/
def shadowPlaysSpec : ChangeSpec := { name := "shadowPlays", fn := fun _ => fun
  | [d] => { results := [.lit (.bool true)], args := [d] }
  | _ => none }
def shadowPlaysRow : OpenClaim := { program := "ythppjkpejnaocaa", sum := "6a286b7301d79f651fa226e85e61b398b266d1d94371a53927d9eb9e42897b04", func := "hermitage/hermitagelaw19.ShadowPlays", spec := "shadowPlays", unfollowed := true, recurses := true, apart := false }
def ShadowPlaysSaid : Prop := shadowPlaysRow.holds Try.pinned (OpenSpec.ofChange shadowPlaysSpec)

/-- ITS FALSE NEIGHBOUR: 'it returns false'. Refute it at one input. -/
def shadowPlaysWrong : ChangeSpec := { name := "shadowPlays", fn := fun _ => fun
  | [d] => { results := [.lit (.bool false)], args := [d] }
  | _ => none }
def ShadowPlaysWrongFalsely : Prop := shadowPlaysRow.holds Try.pinned (OpenSpec.ofChange shadowPlaysWrong)

/-- 'hermitagelaw19.ShadowOne': WHATEVER THE INPUT: true; the input reads as it did. -/
def shadowOneSpec : ChangeSpec := { name := "shadowOne", fn := fun _ => fun
  | [d1, d2, d3, d4, d5] => { results := [.lit (.bool true)], args := [d1, d2, d3, d4, d5] }
  | _ => none }
def shadowOneRow : OpenClaim := { program := "ythppjkpejnaocaa", sum := "6a286b7301d79f651fa226e85e61b398b266d1d94371a53927d9eb9e42897b04", func := "hermitage/hermitagelaw19.ShadowOne", spec := "shadowOne", unfollowed := true, recurses := true, apart := false }
def ShadowOneSaid : Prop := shadowOneRow.holds Try.pinned (OpenSpec.ofChange shadowOneSpec)

/-- ITS FALSE NEIGHBOUR: 'it returns false'. Refute it at one input. -/
def shadowOneWrong : ChangeSpec := { name := "shadowOne", fn := fun _ => fun
  | [d1, d2, d3, d4, d5] => { results := [.lit (.bool false)], args := [d1, d2, d3, d4, d5] }
  | _ => none }
def ShadowOneWrongFalsely : Prop := shadowOneRow.holds Try.pinned (OpenSpec.ofChange shadowOneWrong)

/- THE SECOND FORM. 'bulk': how many values and letters a reading holds, each counted each time it is reached (what is shared counts as often as it is met; a slice's spare places count too). A statement '..UptoSaid' is the law's where the arguments, and the package variables that the reading takes, are together of bulk at most 1048576: NARROWER than '..Said'. Prove '..Said' where nothing that the law and all that it calls make is longer than what came in: it says more and counts as full. Else prove '..UptoSaid'. A law counts once. -/
mutual
def uptoBulk {H : Type} : DataW H → Nat
  | .lit (.string bytes) => bytes.length + 1
  | .lit _ => 1
  | .nil => 1
  | .ptr d => uptoBulk d + 1
  | .slice elems spare => uptoBulkAll elems + uptoBulkAll spare + 1
  | .agg parts => uptoBulkAll parts + 1
  | .iface _ d => uptoBulk d + 1
  | .map entries => uptoBulkEntries entries + 1
  | .held _ => 1
def uptoBulkAll {H : Type} : List (DataW H) → Nat
  | [] => 0
  | d :: r => uptoBulk d + uptoBulkAll r
def uptoBulkEntries {H : Type} : List (Lit × DataW H) → Nat
  | [] => 0
  | x :: r => uptoBulkEntry x + uptoBulkEntries r
def uptoBulkEntry {H : Type} : Lit × DataW H → Nat
  | (.string bytes, d) => bytes.length + uptoBulk d + 1
  | (_, d) => uptoBulk d + 1
 end
def uptoSmall : (H : Type) → List (DataW H) → Bool := fun _ ds => decide (uptoBulkAll ds ≤ 1048576)
def OpenSpec.upto (s : _root_.Go.ChangeSpec) : _root_.Go.OpenSpec := { _root_.Go.OpenSpec.ofChange s with cond := some uptoSmall }

/-- 'hermitagelaw19.ShadowProtects', WHERE WHAT IT READS IS OF BULK AT MOST 1048576: true; the input reads as it did. -/
def shadowProtectsUptoRow : OpenClaim := { program := "ythppjkpejnaocaa", sum := "6a286b7301d79f651fa226e85e61b398b266d1d94371a53927d9eb9e42897b04", func := "hermitage/hermitagelaw19.ShadowProtects", spec := "shadowProtects", unfollowed := true, recurses := true, apart := false, narrowed := true }
def ShadowProtectsUptoSaid : Prop := shadowProtectsUptoRow.holds Try.pinned (OpenSpec.upto shadowProtectsSpec)

/-- 'hermitagelaw19.ShadowDrops', WHERE WHAT IT READS IS OF BULK AT MOST 1048576: true; the input reads as it did. -/
def shadowDropsUptoRow : OpenClaim := { program := "ythppjkpejnaocaa", sum := "6a286b7301d79f651fa226e85e61b398b266d1d94371a53927d9eb9e42897b04", func := "hermitage/hermitagelaw19.ShadowDrops", spec := "shadowDrops", unfollowed := true, recurses := true, apart := false, narrowed := true }
def ShadowDropsUptoSaid : Prop := shadowDropsUptoRow.holds Try.pinned (OpenSpec.upto shadowDropsSpec)

/-- 'hermitagelaw19.ShadowZero', WHERE WHAT IT READS IS OF BULK AT MOST 1048576: true; the input reads as it did. -/
def shadowZeroUptoRow : OpenClaim := { program := "ythppjkpejnaocaa", sum := "6a286b7301d79f651fa226e85e61b398b266d1d94371a53927d9eb9e42897b04", func := "hermitage/hermitagelaw19.ShadowZero", spec := "shadowZero", unfollowed := true, recurses := true, apart := false, narrowed := true }
def ShadowZeroUptoSaid : Prop := shadowZeroUptoRow.holds Try.pinned (OpenSpec.upto shadowZeroSpec)

/-- 'hermitagelaw19.ShadowPlays', WHERE WHAT IT READS IS OF BULK AT MOST 1048576: true; the input reads as it did. -/
def shadowPlaysUptoRow : OpenClaim := { program := "ythppjkpejnaocaa", sum := "6a286b7301d79f651fa226e85e61b398b266d1d94371a53927d9eb9e42897b04", func := "hermitage/hermitagelaw19.ShadowPlays", spec := "shadowPlays", unfollowed := true, recurses := true, apart := false, narrowed := true }
def ShadowPlaysUptoSaid : Prop := shadowPlaysUptoRow.holds Try.pinned (OpenSpec.upto shadowPlaysSpec)

/-- 'hermitagelaw19.ShadowOne', WHERE WHAT IT READS IS OF BULK AT MOST 1048576: true; the input reads as it did. -/
def shadowOneUptoRow : OpenClaim := { program := "ythppjkpejnaocaa", sum := "6a286b7301d79f651fa226e85e61b398b266d1d94371a53927d9eb9e42897b04", func := "hermitage/hermitagelaw19.ShadowOne", spec := "shadowOne", unfollowed := true, recurses := true, apart := false, narrowed := true }
def ShadowOneUptoSaid : Prop := shadowOneUptoRow.holds Try.pinned (OpenSpec.upto shadowOneSpec)

end Rows
end Go.Proofs.Ythppjkpejnaocaa
