/- The pool: where it lies; the plain laws of what is left. -/
import Derived.Test.YtgcnmhlojfncpaaHppP
import Derived.Test.YtgcnmhlojfncpaaRowG
import Derived.Test.YtgcnmhlojfncpaaReg7
import Derived.Test.YtgcnmhlojfncpaaFrP
namespace Go.Proofs.Ytgcnmhlojfncpaa
open Go.ChangeShapes Go.WideShapes Go.ChangeAt Go.RowKit
set_option linter.unusedVariables false

/-- A frame's state. -/
structure stIt where
  who : Int
  tk : Bool
deriving Inhabited
def stEnc (x : stIt) : List Value := [.int .i64 x.who, .bool x.tk]
theorem stEnc_length (x : stIt) : (stEnc x).length = 2 := rfl
def setV {β : Type} (V : Nat → β) (g : Nat) (v : β) : Nat → β := fun i => if i = g then v else V i
theorem setV_at {β : Type} (V : Nat → β) (g : Nat) (v : β) : setV V g v g = v := by simp [setV]
theorem setV_ne {β : Type} (V : Nat → β) {g h : Nat} (v : β) (hn : h ≠ g) : setV V g v h = V h := by simp [setV, hn]
theorem setV_same {β : Type} (V : Nat → β) (g : Nat) : setV V g (V g) = V := by
  funext i
  simp only [setV]
  split
  · rename_i h; rw [h]
  · rfl
theorem setV_put {β : Type} (V : Nat → β) (g : Nat) (v v' : β) : setV (setV V g v) g v' = setV V g v' := by
  funext i
  simp only [setV]
  split <;> rfl
/-- The pool's block: the store, the frames' states, sixteen rows' slices. -/
def plBlk (sp st : Value) (V : Nat → Value) : Array Value := #[sp, st, V 0, V 1, V 2, V 3, V 4, V 5, V 6, V 7, V 8, V 9, V 10, V 11, V 12, V 13, V 14, V 15]
theorem plBlk_ok (sp st : Value) (V : Nat → Value) {g : Nat} (hg : g < 16) : BlkOk (fun v => plBlk sp st (setV V g v)) (2 + g) := by
  rcases (by omega : g = 0 ∨ g = 1 ∨ g = 2 ∨ g = 3 ∨ g = 4 ∨ g = 5 ∨ g = 6 ∨ g = 7 ∨ g = 8 ∨ g = 9 ∨ g = 10 ∨ g = 11 ∨ g = 12 ∨ g = 13 ∨ g = 14 ∨ g = 15) with rfl | rfl | rfl | rfl | rfl | rfl | rfl | rfl | rfl | rfl | rfl | rfl | rfl | rfl | rfl | rfl <;> exact ⟨fun _ => by simp [plBlk, setV], fun _ _ => by simp [plBlk, setV]⟩
theorem plBlk_st (sp : Value) (V : Nat → Value) : BlkOk (fun v => plBlk sp v V) 1 := ⟨fun _ => rfl, fun _ _ => rfl⟩
theorem plBlk_at (sp st : Value) (V : Nat → Value) {g : Nat} (hg : g < 16) : (plBlk sp st V)[2 + g]? = some (V g) := by
  rcases (by omega : g = 0 ∨ g = 1 ∨ g = 2 ∨ g = 3 ∨ g = 4 ∨ g = 5 ∨ g = 6 ∨ g = 7 ∨ g = 8 ∨ g = 9 ∨ g = 10 ∨ g = 11 ∨ g = 12 ∨ g = 13 ∨ g = 14 ∨ g = 15) with rfl | rfl | rfl | rfl | rfl | rfl | rfl | rfl | rfl | rfl | rfl | rfl | rfl | rfl | rfl | rfl <;> rfl

theorem fm_congr {α β : Type} {f g : α → Option β} : ∀ {l : List α}, (∀ x ∈ l, f x = g x) → l.filterMap f = l.filterMap g
  | [], _ => rfl
  | x :: l, h => by
    rw [List.filterMap_cons, List.filterMap_cons, h x (List.mem_cons_self ..), fm_congr fun y hy => h y (List.mem_cons_of_mem _ hy)]
/-- What is left to a partition. -/
def lfOf (S : List stIt) (q : Nat) (k : Nat) : Option plIt := if (atL S k).who = (q : Int) ∧ (atL S k).tk = false then some ⟨k⟩ else none
def leftL (S : List stIt) (q : Nat) : List plIt := (List.range S.length).filterMap (lfOf S q)
section
variable {S : List stIt} {q f : Nat} {x : stIt}
theorem atL_setS {α : Type} [Inhabited α] {l : List α} {g q : Nat} {v : α} (hg : g < l.length) : atL (l.set g v) q = if q = g then v else atL l q := by
  unfold atL List.getD
  by_cases e : q = g
  · subst e; rw [List.getElem?_set_self hg, if_pos rfl]; rfl
  · rw [List.getElem?_set_ne (Ne.symm e), if_neg e]
theorem mem_leftL {y : plIt} : y ∈ leftL S q ↔ ∃ k, k < S.length ∧ (atL S k).who = (q : Int) ∧ (atL S k).tk = false ∧ y = ⟨k⟩ := by
  unfold leftL
  rw [List.mem_filterMap]
  constructor
  · rintro ⟨k, hk, h⟩
    unfold lfOf at h
    split at h
    · rename_i hc
      cases h
      exact ⟨k, List.mem_range.1 hk, hc.1, hc.2, rfl⟩
    · cases h
  · rintro ⟨k, hk, h1, h2, rfl⟩
    exact ⟨k, List.mem_range.2 hk, by unfold lfOf; rw [if_pos ⟨h1, h2⟩]⟩
theorem left_split (hf : f < S.length) : (leftL S q).Perm ((lfOf S q f).toList ++ ((List.range S.length).erase f).filterMap (lfOf S q)) := by
  have hp := (List.perm_cons_erase (List.mem_range.2 hf)).filterMap (lfOf S q)
  refine hp.trans ?_
  rw [List.filterMap_cons]
  cases lfOf S q f with
  | none => exact List.Perm.refl _
  | some y => exact List.Perm.refl _
theorem rest_set (hf : f < S.length) : ((List.range (S.set f x).length).erase f).filterMap (lfOf (S.set f x) q) = ((List.range S.length).erase f).filterMap (lfOf S q) := by
  rw [List.length_set]
  refine fm_congr fun k hk => ?_
  have hne : k ≠ f := fun e => by subst e; exact (List.nodup_range.not_mem_erase) hk
  unfold lfOf
  rw [atL_setS hf, if_neg hne]
theorem left_set (hf : f < S.length) : (leftL (S.set f x) q).Perm ((if x.who = (q : Int) ∧ x.tk = false then [(⟨f⟩ : plIt)] else []) ++ ((List.range S.length).erase f).filterMap (lfOf S q)) := by
  have := left_split (S := S.set f x) (q := q) (f := f) (by rw [List.length_set]; exact hf)
  rw [rest_set hf] at this
  unfold lfOf at this
  rw [atL_setS hf, if_pos rfl] at this
  refine this.trans (List.Perm.append_right _ ?_)
  split <;> exact List.Perm.refl _
/-- Where neither counts, nothing changes. -/
theorem left_same {y : stIt} (hf : f < S.length) (h : (x.who = (q : Int) ∧ x.tk = false) ↔ (y.who = (q : Int) ∧ y.tk = false)) : (leftL (S.set f x) q).Perm (leftL (S.set f y) q) := by
  refine (left_set hf).trans (List.Perm.trans ?_ (left_set hf).symm)
  by_cases hx : x.who = (q : Int) ∧ x.tk = false
  · rw [if_pos hx, if_pos (h.1 hx)]
  · rw [if_neg hx, if_neg (fun hy => hx (h.2 hy))]
theorem set_self (hf : f < S.length) : S.set f (atL S f) = S := by
  rw [atL_eq hf]
  exact List.set_getElem_self hf
theorem left_le : (leftL S q).length ≤ S.length := by
  have := List.length_filterMap_le (lfOf S q) (List.range S.length)
  simpa [leftL] using this
end
end Go.Proofs.Ytgcnmhlojfncpaa
