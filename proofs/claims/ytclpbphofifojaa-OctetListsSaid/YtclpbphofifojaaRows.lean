/-
  No cell of these rows narrows 'for every input' (looked for: loops, veiled, ifaces, maps, wideKeys, modest, calm, conditions, laid).
  DERIVED. THE GIVEN ROWS OF THIS SEAT. 8 by the template 'for every input the law returns true; each argument reads behind the call as it read before'; 0 by the template 'total and deterministic' (their statements: YtclpbphofifojaaTotals.lean).
  GIVEN WITH THE SEED: the statements are not yours to turn. If you find one false, say at which input.
  Laid BY PROGRAM, IN A SANDBOX (cutbox-rows.mjs): the forced cells as the released guide's own fill.sh prints them over the translation dea0cc14e8b84cd0… (all of the seat's roots in one cut). By AI agents, Wed Nov 11 2026. No macro, syntax, notation, axiom, sorry.
-/
import Derived.Test.YtclpbphofifojaaChecked
import GoSem.Claim
import GoSem.ClaimJoined
import GoSem.ClaimMapViews
import Derived.JoinedTies
import Derived.KernelRfl
namespace Go.Proofs.Ytclpbphofifojaa
/- THE CELL 'sum', in the pinned program and in every row, IS THE sha256 OF THE DUMP (.gsa) THAT YtclpbphofifojaaProg.lean LOADS. Nothing in Lean hashes anything: it is a label: what it is worth is what the hold of that sum in a sandbox is worth. -/
noncomputable def Try.pinned : Pinned := { name := "ytclpbphofifojaa", sum := "dea0cc14e8b84cd06ce8737f8de79fba7b54af1c9ba58f704402b6031e11908a", checked := Try.checked }
namespace Rows
def none {H : Type} : Left H := { results := [], args := [] }

/-- 'hermitagelaw21.DescSizes': WHATEVER THE INPUT: true; the input reads as it did. -/
def descSizesSpec : ChangeSpec := { name := "descSizes", fn := fun _ => fun
  | [d1, d2] => { results := [.lit (.bool true)], args := [d1, d2] }
  | _ => none }
def descSizesRow : OpenClaim := { program := "ytclpbphofifojaa", sum := "dea0cc14e8b84cd06ce8737f8de79fba7b54af1c9ba58f704402b6031e11908a", func := "hermitage/hermitagelaw21.DescSizes", spec := "descSizes", apart := false }
def DescSizesSaid : Prop := descSizesRow.holds Try.pinned (OpenSpec.ofChange descSizesSpec)

/-- ITS FALSE NEIGHBOUR: 'it returns false'. Refute it at one input. -/
def descSizesWrong : ChangeSpec := { name := "descSizes", fn := fun _ => fun
  | [d1, d2] => { results := [.lit (.bool false)], args := [d1, d2] }
  | _ => none }
def DescSizesWrongFalsely : Prop := descSizesRow.holds Try.pinned (OpenSpec.ofChange descSizesWrong)

/-- 'hermitagelaw21.DescRight': WHATEVER THE INPUT: true; the input reads as it did. -/
def descRightSpec : ChangeSpec := { name := "descRight", fn := fun _ => fun
  | [d1, d2, d3] => { results := [.lit (.bool true)], args := [d1, d2, d3] }
  | _ => none }
def descRightRow : OpenClaim := { program := "ytclpbphofifojaa", sum := "dea0cc14e8b84cd06ce8737f8de79fba7b54af1c9ba58f704402b6031e11908a", func := "hermitage/hermitagelaw21.DescRight", spec := "descRight", apart := false }
def DescRightSaid : Prop := descRightRow.holds Try.pinned (OpenSpec.ofChange descRightSpec)

/-- ITS FALSE NEIGHBOUR: 'it returns false'. Refute it at one input. -/
def descRightWrong : ChangeSpec := { name := "descRight", fn := fun _ => fun
  | [d1, d2, d3] => { results := [.lit (.bool false)], args := [d1, d2, d3] }
  | _ => none }
def DescRightWrongFalsely : Prop := descRightRow.holds Try.pinned (OpenSpec.ofChange descRightWrong)

/-- 'hermitagelaw02.OctetPlays': WHATEVER THE INPUT: true; the input reads as it did. -/
def octetPlaysSpec : ChangeSpec := { name := "octetPlays", fn := fun _ => fun
  | [d1, d2, d3, d4] => { results := [.lit (.bool true)], args := [d1, d2, d3, d4] }
  | _ => none }
def octetPlaysRow : OpenClaim := { program := "ytclpbphofifojaa", sum := "dea0cc14e8b84cd06ce8737f8de79fba7b54af1c9ba58f704402b6031e11908a", func := "hermitage/hermitagelaw02.OctetPlays", spec := "octetPlays", apart := false }
def OctetPlaysSaid : Prop := octetPlaysRow.holds Try.pinned (OpenSpec.ofChange octetPlaysSpec)

/-- ITS FALSE NEIGHBOUR: 'it returns false'. Refute it at one input. -/
def octetPlaysWrong : ChangeSpec := { name := "octetPlays", fn := fun _ => fun
  | [d1, d2, d3, d4] => { results := [.lit (.bool false)], args := [d1, d2, d3, d4] }
  | _ => none }
def OctetPlaysWrongFalsely : Prop := octetPlaysRow.holds Try.pinned (OpenSpec.ofChange octetPlaysWrong)

/-- 'hermitagelaw02.OctetBack': WHATEVER THE INPUT: true; the input reads as it did. -/
def octetBackSpec : ChangeSpec := { name := "octetBack", fn := fun _ => fun
  | [d1, d2, d3, d4] => { results := [.lit (.bool true)], args := [d1, d2, d3, d4] }
  | _ => none }
def octetBackRow : OpenClaim := { program := "ytclpbphofifojaa", sum := "dea0cc14e8b84cd06ce8737f8de79fba7b54af1c9ba58f704402b6031e11908a", func := "hermitage/hermitagelaw02.OctetBack", spec := "octetBack", apart := false }
def OctetBackSaid : Prop := octetBackRow.holds Try.pinned (OpenSpec.ofChange octetBackSpec)

/-- ITS FALSE NEIGHBOUR: 'it returns false'. Refute it at one input. -/
def octetBackWrong : ChangeSpec := { name := "octetBack", fn := fun _ => fun
  | [d1, d2, d3, d4] => { results := [.lit (.bool false)], args := [d1, d2, d3, d4] }
  | _ => none }
def OctetBackWrongFalsely : Prop := octetBackRow.holds Try.pinned (OpenSpec.ofChange octetBackWrong)

/-- 'hermitagelaw02.OctetWords': WHATEVER THE INPUT: true; the input reads as it did. -/
def octetWordsSpec : ChangeSpec := { name := "octetWords", fn := fun _ => fun
  | [d1, d2] => { results := [.lit (.bool true)], args := [d1, d2] }
  | _ => none }
def octetWordsRow : OpenClaim := { program := "ytclpbphofifojaa", sum := "dea0cc14e8b84cd06ce8737f8de79fba7b54af1c9ba58f704402b6031e11908a", func := "hermitage/hermitagelaw02.OctetWords", spec := "octetWords", apart := false }
def OctetWordsSaid : Prop := octetWordsRow.holds Try.pinned (OpenSpec.ofChange octetWordsSpec)

/-- ITS FALSE NEIGHBOUR: 'it returns false'. Refute it at one input. -/
def octetWordsWrong : ChangeSpec := { name := "octetWords", fn := fun _ => fun
  | [d1, d2] => { results := [.lit (.bool false)], args := [d1, d2] }
  | _ => none }
def OctetWordsWrongFalsely : Prop := octetWordsRow.holds Try.pinned (OpenSpec.ofChange octetWordsWrong)

/-- 'hermitagelaw02.OctetLists': WHATEVER THE INPUT: true; the input reads as it did. -/
def octetListsSpec : ChangeSpec := { name := "octetLists", fn := fun _ => fun
  | [d1, d2, d3, d4] => { results := [.lit (.bool true)], args := [d1, d2, d3, d4] }
  | _ => none }
def octetListsRow : OpenClaim := { program := "ytclpbphofifojaa", sum := "dea0cc14e8b84cd06ce8737f8de79fba7b54af1c9ba58f704402b6031e11908a", func := "hermitage/hermitagelaw02.OctetLists", spec := "octetLists", apart := false }
def OctetListsSaid : Prop := octetListsRow.holds Try.pinned (OpenSpec.ofChange octetListsSpec)

/-- ITS FALSE NEIGHBOUR: 'it returns false'. Refute it at one input. -/
def octetListsWrong : ChangeSpec := { name := "octetLists", fn := fun _ => fun
  | [d1, d2, d3, d4] => { results := [.lit (.bool false)], args := [d1, d2, d3, d4] }
  | _ => none }
def OctetListsWrongFalsely : Prop := octetListsRow.holds Try.pinned (OpenSpec.ofChange octetListsWrong)

/-- 'hermitagelaw21.DescBack': WHATEVER THE INPUT: true; the input reads as it did. -/
def descBackSpec : ChangeSpec := { name := "descBack", fn := fun _ => fun
  | [d1, d2] => { results := [.lit (.bool true)], args := [d1, d2] }
  | _ => none }
def descBackRow : OpenClaim := { program := "ytclpbphofifojaa", sum := "dea0cc14e8b84cd06ce8737f8de79fba7b54af1c9ba58f704402b6031e11908a", func := "hermitage/hermitagelaw21.DescBack", spec := "descBack", apart := false }
def DescBackSaid : Prop := descBackRow.holds Try.pinned (OpenSpec.ofChange descBackSpec)

/-- ITS FALSE NEIGHBOUR: 'it returns false'. Refute it at one input. -/
def descBackWrong : ChangeSpec := { name := "descBack", fn := fun _ => fun
  | [d1, d2] => { results := [.lit (.bool false)], args := [d1, d2] }
  | _ => none }
def DescBackWrongFalsely : Prop := descBackRow.holds Try.pinned (OpenSpec.ofChange descBackWrong)

/-- 'hermitagelaw21.DescPlays': WHATEVER THE INPUT: true; the input reads as it did. -/
def descPlaysSpec : ChangeSpec := { name := "descPlays", fn := fun _ => fun
  | [d1, d2, d3, d4, d5] => { results := [.lit (.bool true)], args := [d1, d2, d3, d4, d5] }
  | _ => none }
def descPlaysRow : OpenClaim := { program := "ytclpbphofifojaa", sum := "dea0cc14e8b84cd06ce8737f8de79fba7b54af1c9ba58f704402b6031e11908a", func := "hermitage/hermitagelaw21.DescPlays", spec := "descPlays", apart := false }
def DescPlaysSaid : Prop := descPlaysRow.holds Try.pinned (OpenSpec.ofChange descPlaysSpec)

/-- ITS FALSE NEIGHBOUR: 'it returns false'. Refute it at one input. -/
def descPlaysWrong : ChangeSpec := { name := "descPlays", fn := fun _ => fun
  | [d1, d2, d3, d4, d5] => { results := [.lit (.bool false)], args := [d1, d2, d3, d4, d5] }
  | _ => none }
def DescPlaysWrongFalsely : Prop := descPlaysRow.holds Try.pinned (OpenSpec.ofChange descPlaysWrong)

/- THE SECOND FORM. 'bulk': how many values and letters a reading holds, each counted each time it is reached (what is shared counts as often as it is met; a slice's spare places count too). A statement '..UptoSaid' is the law's where the arguments, and the package variables that the reading takes, are together of bulk at most 1048576: NARROWER than '..Said'. Prove '..Said' where nothing that the law and all that it calls make is longer than what came in: it says more and counts as full. Else prove '..UptoSaid'. A law counts once. -/
mutual
def uptoBulk {H : Type} : DataW H → Nat
  | .lit (.string bytes) => bytes.length + 1
  | .lit _ => 1
  | .nil => 1
  | .ptr d => uptoBulk d + 1
  | .slice elems spare => uptoBulkAll elems + uptoBulkAll spare + 1
  | .agg parts => uptoBulkAll parts + 1
  | .iface _ d => uptoBulk d + 1
  | .map entries => uptoBulkEntries entries + 1
  | .held _ => 1
def uptoBulkAll {H : Type} : List (DataW H) → Nat
  | [] => 0
  | d :: r => uptoBulk d + uptoBulkAll r
def uptoBulkEntries {H : Type} : List (Lit × DataW H) → Nat
  | [] => 0
  | x :: r => uptoBulkEntry x + uptoBulkEntries r
def uptoBulkEntry {H : Type} : Lit × DataW H → Nat
  | (.string bytes, d) => bytes.length + uptoBulk d + 1
  | (_, d) => uptoBulk d + 1
 end
def uptoSmall : (H : Type) → List (DataW H) → Bool := fun _ ds => decide (uptoBulkAll ds ≤ 1048576)
def OpenSpec.upto (s : _root_.Go.ChangeSpec) : _root_.Go.OpenSpec := { _root_.Go.OpenSpec.ofChange s with cond := some uptoSmall }

/-- 'hermitagelaw21.DescSizes', WHERE WHAT IT READS IS OF BULK AT MOST 1048576: true; the input reads as it did. -/
def descSizesUptoRow : OpenClaim := { program := "ytclpbphofifojaa", sum := "dea0cc14e8b84cd06ce8737f8de79fba7b54af1c9ba58f704402b6031e11908a", func := "hermitage/hermitagelaw21.DescSizes", spec := "descSizes", apart := false, narrowed := true }
def DescSizesUptoSaid : Prop := descSizesUptoRow.holds Try.pinned (OpenSpec.upto descSizesSpec)

/-- 'hermitagelaw21.DescRight', WHERE WHAT IT READS IS OF BULK AT MOST 1048576: true; the input reads as it did. -/
def descRightUptoRow : OpenClaim := { program := "ytclpbphofifojaa", sum := "dea0cc14e8b84cd06ce8737f8de79fba7b54af1c9ba58f704402b6031e11908a", func := "hermitage/hermitagelaw21.DescRight", spec := "descRight", apart := false, narrowed := true }
def DescRightUptoSaid : Prop := descRightUptoRow.holds Try.pinned (OpenSpec.upto descRightSpec)

/-- 'hermitagelaw02.OctetPlays', WHERE WHAT IT READS IS OF BULK AT MOST 1048576: true; the input reads as it did. -/
def octetPlaysUptoRow : OpenClaim := { program := "ytclpbphofifojaa", sum := "dea0cc14e8b84cd06ce8737f8de79fba7b54af1c9ba58f704402b6031e11908a", func := "hermitage/hermitagelaw02.OctetPlays", spec := "octetPlays", apart := false, narrowed := true }
def OctetPlaysUptoSaid : Prop := octetPlaysUptoRow.holds Try.pinned (OpenSpec.upto octetPlaysSpec)

/-- 'hermitagelaw02.OctetBack', WHERE WHAT IT READS IS OF BULK AT MOST 1048576: true; the input reads as it did. -/
def octetBackUptoRow : OpenClaim := { program := "ytclpbphofifojaa", sum := "dea0cc14e8b84cd06ce8737f8de79fba7b54af1c9ba58f704402b6031e11908a", func := "hermitage/hermitagelaw02.OctetBack", spec := "octetBack", apart := false, narrowed := true }
def OctetBackUptoSaid : Prop := octetBackUptoRow.holds Try.pinned (OpenSpec.upto octetBackSpec)

/-- 'hermitagelaw02.OctetWords', WHERE WHAT IT READS IS OF BULK AT MOST 1048576: true; the input reads as it did. -/
def octetWordsUptoRow : OpenClaim := { program := "ytclpbphofifojaa", sum := "dea0cc14e8b84cd06ce8737f8de79fba7b54af1c9ba58f704402b6031e11908a", func := "hermitage/hermitagelaw02.OctetWords", spec := "octetWords", apart := false, narrowed := true }
def OctetWordsUptoSaid : Prop := octetWordsUptoRow.holds Try.pinned (OpenSpec.upto octetWordsSpec)

/-- 'hermitagelaw02.OctetLists', WHERE WHAT IT READS IS OF BULK AT MOST 1048576: true; the input reads as it did. -/
def octetListsUptoRow : OpenClaim := { program := "ytclpbphofifojaa", sum := "dea0cc14e8b84cd06ce8737f8de79fba7b54af1c9ba58f704402b6031e11908a", func := "hermitage/hermitagelaw02.OctetLists", spec := "octetLists", apart := false, narrowed := true }
def OctetListsUptoSaid : Prop := octetListsUptoRow.holds Try.pinned (OpenSpec.upto octetListsSpec)

/-- 'hermitagelaw21.DescBack', WHERE WHAT IT READS IS OF BULK AT MOST 1048576: true; the input reads as it did. -/
def descBackUptoRow : OpenClaim := { program := "ytclpbphofifojaa", sum := "dea0cc14e8b84cd06ce8737f8de79fba7b54af1c9ba58f704402b6031e11908a", func := "hermitage/hermitagelaw21.DescBack", spec := "descBack", apart := false, narrowed := true }
def DescBackUptoSaid : Prop := descBackUptoRow.holds Try.pinned (OpenSpec.upto descBackSpec)

/-- 'hermitagelaw21.DescPlays', WHERE WHAT IT READS IS OF BULK AT MOST 1048576: true; the input reads as it did. -/
def descPlaysUptoRow : OpenClaim := { program := "ytclpbphofifojaa", sum := "dea0cc14e8b84cd06ce8737f8de79fba7b54af1c9ba58f704402b6031e11908a", func := "hermitage/hermitagelaw21.DescPlays", spec := "descPlays", apart := false, narrowed := true }
def DescPlaysUptoSaid : Prop := descPlaysUptoRow.holds Try.pinned (OpenSpec.upto descPlaysSpec)

end Rows
end Go.Proofs.Ytclpbphofifojaa
