/-
  No cell of these rows narrows 'for every input' (looked for: loops, veiled, ifaces, maps, wideKeys, modest, calm, conditions, laid).
  DERIVED. THE GIVEN ROWS OF THIS SEAT. 9 by the template 'for every input the law returns true; each argument reads behind the call as it read before'; 0 by the template 'total and deterministic' (their statements: YtoigfpepdfbnkaaTotals.lean).
  GIVEN WITH THE SEED: the statements are not yours to turn. If you find one false, say at which input.
  Laid BY PROGRAM, IN A SANDBOX (cutbox-rows.mjs): the forced cells as the released guide's own fill.sh prints them over the translation 0fd4be8cc3d2d347… (all of the seat's roots in one cut). By AI agents, Wed Nov 11 2026. No macro, syntax, notation, axiom, sorry.
-/
import Derived.Test.YtoigfpepdfbnkaaChecked
import GoSem.Claim
import GoSem.ClaimJoined
import GoSem.ClaimMapViews
import Derived.JoinedTies
import Derived.KernelRfl
namespace Go.Proofs.Ytoigfpepdfbnkaa
/- THE CELL 'sum', in the pinned program and in every row, IS THE sha256 OF THE DUMP (.gsa) THAT YtoigfpepdfbnkaaProg.lean LOADS. Nothing in Lean hashes anything: it is a label: what it is worth is what the hold of that sum in a sandbox is worth. -/
noncomputable def Try.pinned : Pinned := { name := "ytoigfpepdfbnkaa", sum := "0fd4be8cc3d2d347746ba2edef66165f0c2679f7f660f6007888c82e110077c8", checked := Try.checked }
namespace Rows
def none {H : Type} : Left H := { results := [], args := [] }

/-- 'hermitagelaw06.FramesClears': WHATEVER THE INPUT: true; the input reads as it did. -/
def framesClearsSpec : ChangeSpec := { name := "framesClears", fn := fun _ => fun
  | [d1, d2, d3, d4] => { results := [.lit (.bool true)], args := [d1, d2, d3, d4] }
  | _ => none }
def framesClearsRow : OpenClaim := { program := "ytoigfpepdfbnkaa", sum := "0fd4be8cc3d2d347746ba2edef66165f0c2679f7f660f6007888c82e110077c8", func := "hermitage/hermitagelaw06.FramesClears", spec := "framesClears", apart := false }
def FramesClearsSaid : Prop := framesClearsRow.holds Try.pinned (OpenSpec.ofChange framesClearsSpec)

/-- ITS FALSE NEIGHBOUR: 'it returns false'. Refute it at one input. -/
def framesClearsWrong : ChangeSpec := { name := "framesClears", fn := fun _ => fun
  | [d1, d2, d3, d4] => { results := [.lit (.bool false)], args := [d1, d2, d3, d4] }
  | _ => none }
def FramesClearsWrongFalsely : Prop := framesClearsRow.holds Try.pinned (OpenSpec.ofChange framesClearsWrong)

/-- 'hermitagelaw06.FramesOne': WHATEVER THE INPUT: true; the input reads as it did. -/
def framesOneSpec : ChangeSpec := { name := "framesOne", fn := fun _ => fun
  | [d1, d2, d3, d4, d5] => { results := [.lit (.bool true)], args := [d1, d2, d3, d4, d5] }
  | _ => none }
def framesOneRow : OpenClaim := { program := "ytoigfpepdfbnkaa", sum := "0fd4be8cc3d2d347746ba2edef66165f0c2679f7f660f6007888c82e110077c8", func := "hermitage/hermitagelaw06.FramesOne", spec := "framesOne", apart := false }
def FramesOneSaid : Prop := framesOneRow.holds Try.pinned (OpenSpec.ofChange framesOneSpec)

/-- ITS FALSE NEIGHBOUR: 'it returns false'. Refute it at one input. -/
def framesOneWrong : ChangeSpec := { name := "framesOne", fn := fun _ => fun
  | [d1, d2, d3, d4, d5] => { results := [.lit (.bool false)], args := [d1, d2, d3, d4, d5] }
  | _ => none }
def FramesOneWrongFalsely : Prop := framesOneRow.holds Try.pinned (OpenSpec.ofChange framesOneWrong)

/-- 'hermitagelaw06.FramesZero': WHATEVER THE INPUT: true; the input reads as it did. -/
def framesZeroSpec : ChangeSpec := { name := "framesZero", fn := fun _ => fun
  | [d1, d2, d3, d4] => { results := [.lit (.bool true)], args := [d1, d2, d3, d4] }
  | _ => none }
def framesZeroRow : OpenClaim := { program := "ytoigfpepdfbnkaa", sum := "0fd4be8cc3d2d347746ba2edef66165f0c2679f7f660f6007888c82e110077c8", func := "hermitage/hermitagelaw06.FramesZero", spec := "framesZero", apart := false }
def FramesZeroSaid : Prop := framesZeroRow.holds Try.pinned (OpenSpec.ofChange framesZeroSpec)

/-- ITS FALSE NEIGHBOUR: 'it returns false'. Refute it at one input. -/
def framesZeroWrong : ChangeSpec := { name := "framesZero", fn := fun _ => fun
  | [d1, d2, d3, d4] => { results := [.lit (.bool false)], args := [d1, d2, d3, d4] }
  | _ => none }
def FramesZeroWrongFalsely : Prop := framesZeroRow.holds Try.pinned (OpenSpec.ofChange framesZeroWrong)

/-- 'hermitagelaw06.FramesPlays': WHATEVER THE INPUT: true; the input reads as it did. -/
def framesPlaysSpec : ChangeSpec := { name := "framesPlays", fn := fun _ => fun
  | [d1, d2, d3, d4, d5, d6] => { results := [.lit (.bool true)], args := [d1, d2, d3, d4, d5, d6] }
  | _ => none }
def framesPlaysRow : OpenClaim := { program := "ytoigfpepdfbnkaa", sum := "0fd4be8cc3d2d347746ba2edef66165f0c2679f7f660f6007888c82e110077c8", func := "hermitage/hermitagelaw06.FramesPlays", spec := "framesPlays", apart := false }
def FramesPlaysSaid : Prop := framesPlaysRow.holds Try.pinned (OpenSpec.ofChange framesPlaysSpec)

/-- ITS FALSE NEIGHBOUR: 'it returns false'. Refute it at one input. -/
def framesPlaysWrong : ChangeSpec := { name := "framesPlays", fn := fun _ => fun
  | [d1, d2, d3, d4, d5, d6] => { results := [.lit (.bool false)], args := [d1, d2, d3, d4, d5, d6] }
  | _ => none }
def FramesPlaysWrongFalsely : Prop := framesPlaysRow.holds Try.pinned (OpenSpec.ofChange framesPlaysWrong)

/-- 'hermitagelaw30.OnewayLast': WHATEVER THE INPUT: true; the input reads as it did. -/
def onewayLastSpec : ChangeSpec := { name := "onewayLast", fn := fun _ => fun
  | [d1, d2, d3] => { results := [.lit (.bool true)], args := [d1, d2, d3] }
  | _ => none }
def onewayLastRow : OpenClaim := { program := "ytoigfpepdfbnkaa", sum := "0fd4be8cc3d2d347746ba2edef66165f0c2679f7f660f6007888c82e110077c8", func := "hermitage/hermitagelaw30.OnewayLast", spec := "onewayLast", unfollowed := true, recurses := true, apart := false }
def OnewayLastSaid : Prop := onewayLastRow.holds Try.pinned (OpenSpec.ofChange onewayLastSpec)

/-- ITS FALSE NEIGHBOUR: 'it returns false'. Refute it at one input. -/
def onewayLastWrong : ChangeSpec := { name := "onewayLast", fn := fun _ => fun
  | [d1, d2, d3] => { results := [.lit (.bool false)], args := [d1, d2, d3] }
  | _ => none }
def OnewayLastWrongFalsely : Prop := onewayLastRow.holds Try.pinned (OpenSpec.ofChange onewayLastWrong)

/-- 'hermitagelaw30.OnewayEnds': WHATEVER THE INPUT: true; the input reads as it did. -/
def onewayEndsSpec : ChangeSpec := { name := "onewayEnds", fn := fun _ => fun
  | [d1, d2] => { results := [.lit (.bool true)], args := [d1, d2] }
  | _ => none }
def onewayEndsRow : OpenClaim := { program := "ytoigfpepdfbnkaa", sum := "0fd4be8cc3d2d347746ba2edef66165f0c2679f7f660f6007888c82e110077c8", func := "hermitage/hermitagelaw30.OnewayEnds", spec := "onewayEnds", unfollowed := true, recurses := true, apart := false }
def OnewayEndsSaid : Prop := onewayEndsRow.holds Try.pinned (OpenSpec.ofChange onewayEndsSpec)

/-- ITS FALSE NEIGHBOUR: 'it returns false'. Refute it at one input. -/
def onewayEndsWrong : ChangeSpec := { name := "onewayEnds", fn := fun _ => fun
  | [d1, d2] => { results := [.lit (.bool false)], args := [d1, d2] }
  | _ => none }
def OnewayEndsWrongFalsely : Prop := onewayEndsRow.holds Try.pinned (OpenSpec.ofChange onewayEndsWrong)

/-- 'hermitagelaw30.OnewayZero': WHATEVER THE INPUT: true; the input reads as it did. -/
def onewayZeroSpec : ChangeSpec := { name := "onewayZero", fn := fun _ => fun
  | [d1, d2] => { results := [.lit (.bool true)], args := [d1, d2] }
  | _ => none }
def onewayZeroRow : OpenClaim := { program := "ytoigfpepdfbnkaa", sum := "0fd4be8cc3d2d347746ba2edef66165f0c2679f7f660f6007888c82e110077c8", func := "hermitage/hermitagelaw30.OnewayZero", spec := "onewayZero", unfollowed := true, recurses := true, apart := false }
def OnewayZeroSaid : Prop := onewayZeroRow.holds Try.pinned (OpenSpec.ofChange onewayZeroSpec)

/-- ITS FALSE NEIGHBOUR: 'it returns false'. Refute it at one input. -/
def onewayZeroWrong : ChangeSpec := { name := "onewayZero", fn := fun _ => fun
  | [d1, d2] => { results := [.lit (.bool false)], args := [d1, d2] }
  | _ => none }
def OnewayZeroWrongFalsely : Prop := onewayZeroRow.holds Try.pinned (OpenSpec.ofChange onewayZeroWrong)

/-- 'hermitagelaw30.OnewayPlays': WHATEVER THE INPUT: true; the input reads as it did. -/
def onewayPlaysSpec : ChangeSpec := { name := "onewayPlays", fn := fun _ => fun
  | [d1, d2, d3, d4] => { results := [.lit (.bool true)], args := [d1, d2, d3, d4] }
  | _ => none }
def onewayPlaysRow : OpenClaim := { program := "ytoigfpepdfbnkaa", sum := "0fd4be8cc3d2d347746ba2edef66165f0c2679f7f660f6007888c82e110077c8", func := "hermitage/hermitagelaw30.OnewayPlays", spec := "onewayPlays", unfollowed := true, recurses := true, apart := false }
def OnewayPlaysSaid : Prop := onewayPlaysRow.holds Try.pinned (OpenSpec.ofChange onewayPlaysSpec)

/-- ITS FALSE NEIGHBOUR: 'it returns false'. Refute it at one input. -/
def onewayPlaysWrong : ChangeSpec := { name := "onewayPlays", fn := fun _ => fun
  | [d1, d2, d3, d4] => { results := [.lit (.bool false)], args := [d1, d2, d3, d4] }
  | _ => none }
def OnewayPlaysWrongFalsely : Prop := onewayPlaysRow.holds Try.pinned (OpenSpec.ofChange onewayPlaysWrong)

/-- 'hermitagelaw30.OnewayBlind': WHATEVER THE INPUT: true; the input reads as it did. -/
def onewayBlindSpec : ChangeSpec := { name := "onewayBlind", fn := fun _ => fun
  | [d1, d2, d3] => { results := [.lit (.bool true)], args := [d1, d2, d3] }
  | _ => none }
def onewayBlindRow : OpenClaim := { program := "ytoigfpepdfbnkaa", sum := "0fd4be8cc3d2d347746ba2edef66165f0c2679f7f660f6007888c82e110077c8", func := "hermitage/hermitagelaw30.OnewayBlind", spec := "onewayBlind", unfollowed := true, recurses := true, apart := false }
def OnewayBlindSaid : Prop := onewayBlindRow.holds Try.pinned (OpenSpec.ofChange onewayBlindSpec)

/-- ITS FALSE NEIGHBOUR: 'it returns false'. Refute it at one input. -/
def onewayBlindWrong : ChangeSpec := { name := "onewayBlind", fn := fun _ => fun
  | [d1, d2, d3] => { results := [.lit (.bool false)], args := [d1, d2, d3] }
  | _ => none }
def OnewayBlindWrongFalsely : Prop := onewayBlindRow.holds Try.pinned (OpenSpec.ofChange onewayBlindWrong)

/- THE SECOND FORM. 'bulk': how many values and letters a reading holds, each counted each time it is reached (what is shared counts as often as it is met; a slice's spare places count too). A statement '..UptoSaid' is the law's where the arguments, and the package variables that the reading takes, are together of bulk at most 1048576: NARROWER than '..Said'. Prove '..Said' where nothing that the law and all that it calls make is longer than what came in: it says more and counts as full. Else prove '..UptoSaid'. A law counts once. -/
mutual
def uptoBulk {H : Type} : DataW H → Nat
  | .lit (.string bytes) => bytes.length + 1
  | .lit _ => 1
  | .nil => 1
  | .ptr d => uptoBulk d + 1
  | .slice elems spare => uptoBulkAll elems + uptoBulkAll spare + 1
  | .agg parts => uptoBulkAll parts + 1
  | .iface _ d => uptoBulk d + 1
  | .map entries => uptoBulkEntries entries + 1
  | .held _ => 1
def uptoBulkAll {H : Type} : List (DataW H) → Nat
  | [] => 0
  | d :: r => uptoBulk d + uptoBulkAll r
def uptoBulkEntries {H : Type} : List (Lit × DataW H) → Nat
  | [] => 0
  | x :: r => uptoBulkEntry x + uptoBulkEntries r
def uptoBulkEntry {H : Type} : Lit × DataW H → Nat
  | (.string bytes, d) => bytes.length + uptoBulk d + 1
  | (_, d) => uptoBulk d + 1
 end
def uptoSmall : (H : Type) → List (DataW H) → Bool := fun _ ds => decide (uptoBulkAll ds ≤ 1048576)
def OpenSpec.upto (s : _root_.Go.ChangeSpec) : _root_.Go.OpenSpec := { _root_.Go.OpenSpec.ofChange s with cond := some uptoSmall }

/-- 'hermitagelaw06.FramesClears', WHERE WHAT IT READS IS OF BULK AT MOST 1048576: true; the input reads as it did. -/
def framesClearsUptoRow : OpenClaim := { program := "ytoigfpepdfbnkaa", sum := "0fd4be8cc3d2d347746ba2edef66165f0c2679f7f660f6007888c82e110077c8", func := "hermitage/hermitagelaw06.FramesClears", spec := "framesClears", apart := false, narrowed := true }
def FramesClearsUptoSaid : Prop := framesClearsUptoRow.holds Try.pinned (OpenSpec.upto framesClearsSpec)

/-- 'hermitagelaw06.FramesOne', WHERE WHAT IT READS IS OF BULK AT MOST 1048576: true; the input reads as it did. -/
def framesOneUptoRow : OpenClaim := { program := "ytoigfpepdfbnkaa", sum := "0fd4be8cc3d2d347746ba2edef66165f0c2679f7f660f6007888c82e110077c8", func := "hermitage/hermitagelaw06.FramesOne", spec := "framesOne", apart := false, narrowed := true }
def FramesOneUptoSaid : Prop := framesOneUptoRow.holds Try.pinned (OpenSpec.upto framesOneSpec)

/-- 'hermitagelaw06.FramesZero', WHERE WHAT IT READS IS OF BULK AT MOST 1048576: true; the input reads as it did. -/
def framesZeroUptoRow : OpenClaim := { program := "ytoigfpepdfbnkaa", sum := "0fd4be8cc3d2d347746ba2edef66165f0c2679f7f660f6007888c82e110077c8", func := "hermitage/hermitagelaw06.FramesZero", spec := "framesZero", apart := false, narrowed := true }
def FramesZeroUptoSaid : Prop := framesZeroUptoRow.holds Try.pinned (OpenSpec.upto framesZeroSpec)

/-- 'hermitagelaw06.FramesPlays', WHERE WHAT IT READS IS OF BULK AT MOST 1048576: true; the input reads as it did. -/
def framesPlaysUptoRow : OpenClaim := { program := "ytoigfpepdfbnkaa", sum := "0fd4be8cc3d2d347746ba2edef66165f0c2679f7f660f6007888c82e110077c8", func := "hermitage/hermitagelaw06.FramesPlays", spec := "framesPlays", apart := false, narrowed := true }
def FramesPlaysUptoSaid : Prop := framesPlaysUptoRow.holds Try.pinned (OpenSpec.upto framesPlaysSpec)

/-- 'hermitagelaw30.OnewayLast', WHERE WHAT IT READS IS OF BULK AT MOST 1048576: true; the input reads as it did. -/
def onewayLastUptoRow : OpenClaim := { program := "ytoigfpepdfbnkaa", sum := "0fd4be8cc3d2d347746ba2edef66165f0c2679f7f660f6007888c82e110077c8", func := "hermitage/hermitagelaw30.OnewayLast", spec := "onewayLast", unfollowed := true, recurses := true, apart := false, narrowed := true }
def OnewayLastUptoSaid : Prop := onewayLastUptoRow.holds Try.pinned (OpenSpec.upto onewayLastSpec)

/-- 'hermitagelaw30.OnewayEnds', WHERE WHAT IT READS IS OF BULK AT MOST 1048576: true; the input reads as it did. -/
def onewayEndsUptoRow : OpenClaim := { program := "ytoigfpepdfbnkaa", sum := "0fd4be8cc3d2d347746ba2edef66165f0c2679f7f660f6007888c82e110077c8", func := "hermitage/hermitagelaw30.OnewayEnds", spec := "onewayEnds", unfollowed := true, recurses := true, apart := false, narrowed := true }
def OnewayEndsUptoSaid : Prop := onewayEndsUptoRow.holds Try.pinned (OpenSpec.upto onewayEndsSpec)

/-- 'hermitagelaw30.OnewayZero', WHERE WHAT IT READS IS OF BULK AT MOST 1048576: true; the input reads as it did. -/
def onewayZeroUptoRow : OpenClaim := { program := "ytoigfpepdfbnkaa", sum := "0fd4be8cc3d2d347746ba2edef66165f0c2679f7f660f6007888c82e110077c8", func := "hermitage/hermitagelaw30.OnewayZero", spec := "onewayZero", unfollowed := true, recurses := true, apart := false, narrowed := true }
def OnewayZeroUptoSaid : Prop := onewayZeroUptoRow.holds Try.pinned (OpenSpec.upto onewayZeroSpec)

/-- 'hermitagelaw30.OnewayPlays', WHERE WHAT IT READS IS OF BULK AT MOST 1048576: true; the input reads as it did. -/
def onewayPlaysUptoRow : OpenClaim := { program := "ytoigfpepdfbnkaa", sum := "0fd4be8cc3d2d347746ba2edef66165f0c2679f7f660f6007888c82e110077c8", func := "hermitage/hermitagelaw30.OnewayPlays", spec := "onewayPlays", unfollowed := true, recurses := true, apart := false, narrowed := true }
def OnewayPlaysUptoSaid : Prop := onewayPlaysUptoRow.holds Try.pinned (OpenSpec.upto onewayPlaysSpec)

/-- 'hermitagelaw30.OnewayBlind', WHERE WHAT IT READS IS OF BULK AT MOST 1048576: true; the input reads as it did. -/
def onewayBlindUptoRow : OpenClaim := { program := "ytoigfpepdfbnkaa", sum := "0fd4be8cc3d2d347746ba2edef66165f0c2679f7f660f6007888c82e110077c8", func := "hermitage/hermitagelaw30.OnewayBlind", spec := "onewayBlind", unfollowed := true, recurses := true, apart := false, narrowed := true }
def OnewayBlindUptoSaid : Prop := onewayBlindUptoRow.holds Try.pinned (OpenSpec.upto onewayBlindSpec)

end Rows
end Go.Proofs.Ytoigfpepdfbnkaa
