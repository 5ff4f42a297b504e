/-
  No cell of these rows narrows 'for every input' (looked for: loops, veiled, ifaces, maps, wideKeys, modest, calm, conditions, laid).
  DERIVED. THE GIVEN ROWS OF THIS SEAT. 4 by the template 'for every input the law returns true; each argument reads behind the call as it read before'; 0 by the template 'total and deterministic' (their statements: YtklgfnboadchmaaTotals.lean).
  GIVEN WITH THE SEED: the statements are not yours to turn. If you find one false, say at which input.
  Laid BY PROGRAM, IN A SANDBOX (cutbox-rows.mjs): the forced cells as the released guide's own fill.sh prints them over the translation fa9b8b7518063fb9… (all of the seat's roots in one cut). By AI agents, Wed Nov 11 2026. No macro, syntax, notation, axiom, sorry.
-/
import Derived.Test.YtklgfnboadchmaaChecked
import GoSem.Claim
import GoSem.ClaimJoined
import GoSem.ClaimMapViews
import Derived.JoinedTies
import Derived.KernelRfl
namespace Go.Proofs.Ytklgfnboadchmaa
/- THE CELL 'sum', in the pinned program and in every row, IS THE sha256 OF THE DUMP (.gsa) THAT YtklgfnboadchmaaProg.lean LOADS. Nothing in Lean hashes anything: it is a label: what it is worth is what the hold of that sum in a sandbox is worth. -/
noncomputable def Try.pinned : Pinned := { name := "ytklgfnboadchmaa", sum := "fa9b8b7518063fb92d43f3b3c375e1f710b4945b3596b1a7f10c239ba476fec8", checked := Try.checked }
namespace Rows
def none {H : Type} : Left H := { results := [], args := [] }

/-- 'hermitagelaw35.ImageZero': WHATEVER THE INPUT: true; the input reads as it did. -/
def imageZeroSpec : ChangeSpec := { name := "imageZero", fn := fun _ => fun
  | [d1, d2, d3] => { results := [.lit (.bool true)], args := [d1, d2, d3] }
  | _ => none }
def imageZeroRow : OpenClaim := { program := "ytklgfnboadchmaa", sum := "fa9b8b7518063fb92d43f3b3c375e1f710b4945b3596b1a7f10c239ba476fec8", func := "hermitage/hermitagelaw35.ImageZero", spec := "imageZero", unfollowed := true, recurses := true, apart := false }
def ImageZeroSaid : Prop := imageZeroRow.holds Try.pinned (OpenSpec.ofChange imageZeroSpec)

/-- ITS FALSE NEIGHBOUR: 'it returns false'. Refute it at one input. -/
def imageZeroWrong : ChangeSpec := { name := "imageZero", fn := fun _ => fun
  | [d1, d2, d3] => { results := [.lit (.bool false)], args := [d1, d2, d3] }
  | _ => none }
def ImageZeroWrongFalsely : Prop := imageZeroRow.holds Try.pinned (OpenSpec.ofChange imageZeroWrong)

/-- 'hermitagelaw35.ImageLays': WHATEVER THE INPUT: true; the input reads as it did. -/
def imageLaysSpec : ChangeSpec := { name := "imageLays", fn := fun _ => fun
  | [d1, d2, d3, d4, d5] => { results := [.lit (.bool true)], args := [d1, d2, d3, d4, d5] }
  | _ => none }
def imageLaysRow : OpenClaim := { program := "ytklgfnboadchmaa", sum := "fa9b8b7518063fb92d43f3b3c375e1f710b4945b3596b1a7f10c239ba476fec8", func := "hermitage/hermitagelaw35.ImageLays", spec := "imageLays", unfollowed := true, recurses := true, apart := false }
def ImageLaysSaid : Prop := imageLaysRow.holds Try.pinned (OpenSpec.ofChange imageLaysSpec)

/-- ITS FALSE NEIGHBOUR: 'it returns false'. Refute it at one input. -/
def imageLaysWrong : ChangeSpec := { name := "imageLays", fn := fun _ => fun
  | [d1, d2, d3, d4, d5] => { results := [.lit (.bool false)], args := [d1, d2, d3, d4, d5] }
  | _ => none }
def ImageLaysWrongFalsely : Prop := imageLaysRow.holds Try.pinned (OpenSpec.ofChange imageLaysWrong)

/-- 'hermitagelaw35.ImageBack': WHATEVER THE INPUT: true; the input reads as it did. -/
def imageBackSpec : ChangeSpec := { name := "imageBack", fn := fun _ => fun
  | [d1, d2] => { results := [.lit (.bool true)], args := [d1, d2] }
  | _ => none }
def imageBackRow : OpenClaim := { program := "ytklgfnboadchmaa", sum := "fa9b8b7518063fb92d43f3b3c375e1f710b4945b3596b1a7f10c239ba476fec8", func := "hermitage/hermitagelaw35.ImageBack", spec := "imageBack", unfollowed := true, recurses := true, apart := false }
def ImageBackSaid : Prop := imageBackRow.holds Try.pinned (OpenSpec.ofChange imageBackSpec)

/-- ITS FALSE NEIGHBOUR: 'it returns false'. Refute it at one input. -/
def imageBackWrong : ChangeSpec := { name := "imageBack", fn := fun _ => fun
  | [d1, d2] => { results := [.lit (.bool false)], args := [d1, d2] }
  | _ => none }
def ImageBackWrongFalsely : Prop := imageBackRow.holds Try.pinned (OpenSpec.ofChange imageBackWrong)

/-- 'hermitagelaw35.ImageGone': WHATEVER THE INPUT: true; the input reads as it did. -/
def imageGoneSpec : ChangeSpec := { name := "imageGone", fn := fun _ => fun
  | [d1, d2, d3] => { results := [.lit (.bool true)], args := [d1, d2, d3] }
  | _ => none }
def imageGoneRow : OpenClaim := { program := "ytklgfnboadchmaa", sum := "fa9b8b7518063fb92d43f3b3c375e1f710b4945b3596b1a7f10c239ba476fec8", func := "hermitage/hermitagelaw35.ImageGone", spec := "imageGone", unfollowed := true, recurses := true, apart := false }
def ImageGoneSaid : Prop := imageGoneRow.holds Try.pinned (OpenSpec.ofChange imageGoneSpec)

/-- ITS FALSE NEIGHBOUR: 'it returns false'. Refute it at one input. -/
def imageGoneWrong : ChangeSpec := { name := "imageGone", fn := fun _ => fun
  | [d1, d2, d3] => { results := [.lit (.bool false)], args := [d1, d2, d3] }
  | _ => none }
def ImageGoneWrongFalsely : Prop := imageGoneRow.holds Try.pinned (OpenSpec.ofChange imageGoneWrong)

/- THE SECOND FORM. 'bulk': how many values and letters a reading holds, each counted each time it is reached (what is shared counts as often as it is met; a slice's spare places count too). A statement '..UptoSaid' is the law's where the arguments, and the package variables that the reading takes, are together of bulk at most 1048576: NARROWER than '..Said'. Prove '..Said' where nothing that the law and all that it calls make is longer than what came in: it says more and counts as full. Else prove '..UptoSaid'. A law counts once. -/
mutual
def uptoBulk {H : Type} : DataW H → Nat
  | .lit (.string bytes) => bytes.length + 1
  | .lit _ => 1
  | .nil => 1
  | .ptr d => uptoBulk d + 1
  | .slice elems spare => uptoBulkAll elems + uptoBulkAll spare + 1
  | .agg parts => uptoBulkAll parts + 1
  | .iface _ d => uptoBulk d + 1
  | .map entries => uptoBulkEntries entries + 1
  | .held _ => 1
def uptoBulkAll {H : Type} : List (DataW H) → Nat
  | [] => 0
  | d :: r => uptoBulk d + uptoBulkAll r
def uptoBulkEntries {H : Type} : List (Lit × DataW H) → Nat
  | [] => 0
  | x :: r => uptoBulkEntry x + uptoBulkEntries r
def uptoBulkEntry {H : Type} : Lit × DataW H → Nat
  | (.string bytes, d) => bytes.length + uptoBulk d + 1
  | (_, d) => uptoBulk d + 1
 end
def uptoSmall : (H : Type) → List (DataW H) → Bool := fun _ ds => decide (uptoBulkAll ds ≤ 1048576)
def OpenSpec.upto (s : _root_.Go.ChangeSpec) : _root_.Go.OpenSpec := { _root_.Go.OpenSpec.ofChange s with cond := some uptoSmall }

/-- 'hermitagelaw35.ImageZero', WHERE WHAT IT READS IS OF BULK AT MOST 1048576: true; the input reads as it did. -/
def imageZeroUptoRow : OpenClaim := { program := "ytklgfnboadchmaa", sum := "fa9b8b7518063fb92d43f3b3c375e1f710b4945b3596b1a7f10c239ba476fec8", func := "hermitage/hermitagelaw35.ImageZero", spec := "imageZero", unfollowed := true, recurses := true, apart := false, narrowed := true }
def ImageZeroUptoSaid : Prop := imageZeroUptoRow.holds Try.pinned (OpenSpec.upto imageZeroSpec)

/-- 'hermitagelaw35.ImageLays', WHERE WHAT IT READS IS OF BULK AT MOST 1048576: true; the input reads as it did. -/
def imageLaysUptoRow : OpenClaim := { program := "ytklgfnboadchmaa", sum := "fa9b8b7518063fb92d43f3b3c375e1f710b4945b3596b1a7f10c239ba476fec8", func := "hermitage/hermitagelaw35.ImageLays", spec := "imageLays", unfollowed := true, recurses := true, apart := false, narrowed := true }
def ImageLaysUptoSaid : Prop := imageLaysUptoRow.holds Try.pinned (OpenSpec.upto imageLaysSpec)

/-- 'hermitagelaw35.ImageBack', WHERE WHAT IT READS IS OF BULK AT MOST 1048576: true; the input reads as it did. -/
def imageBackUptoRow : OpenClaim := { program := "ytklgfnboadchmaa", sum := "fa9b8b7518063fb92d43f3b3c375e1f710b4945b3596b1a7f10c239ba476fec8", func := "hermitage/hermitagelaw35.ImageBack", spec := "imageBack", unfollowed := true, recurses := true, apart := false, narrowed := true }
def ImageBackUptoSaid : Prop := imageBackUptoRow.holds Try.pinned (OpenSpec.upto imageBackSpec)

/-- 'hermitagelaw35.ImageGone', WHERE WHAT IT READS IS OF BULK AT MOST 1048576: true; the input reads as it did. -/
def imageGoneUptoRow : OpenClaim := { program := "ytklgfnboadchmaa", sum := "fa9b8b7518063fb92d43f3b3c375e1f710b4945b3596b1a7f10c239ba476fec8", func := "hermitage/hermitagelaw35.ImageGone", spec := "imageGone", unfollowed := true, recurses := true, apart := false, narrowed := true }
def ImageGoneUptoSaid : Prop := imageGoneUptoRow.holds Try.pinned (OpenSpec.upto imageGoneSpec)

end Rows
end Go.Proofs.Ytklgfnboadchmaa
