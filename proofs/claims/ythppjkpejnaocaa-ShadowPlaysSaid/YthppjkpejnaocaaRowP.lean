/- Two rows of items in memory, of other types: what one of them does leaves the other one as it is. -/
import Derived.Test.YthppjkpejnaocaaRowM
namespace Go.Proofs.Ythppjkpejnaocaa
open Go.ChangeShapes Go.WideShapes Go.ChangeAt Go.RowKit
set_option linter.unusedVariables false

theorem typ_ne {w : World} {a b : Nat} {c1 c2 : Array Value} {t1 t2 : TypeId} {f1 f2 : Nat × Nat} (ha : w.heap[a]? = some (.cells c1 t1 f1)) (hb : w.heap[b]? = some (.cells c2 t2 f2)) (ht : t1 ≠ t2) : a ≠ b := by
  rintro rfl
  rw [ha] at hb
  cases hb
  exact ht rfl

theorem heap_setCell_ne' {w : World} {b o i : Nat} {s : Option Nat} {u : Value} (h : i ≠ b) : (w.setCell ⟨b, o, s⟩ u).heap[i]? = w.heap[i]? := by
  simp [World.setCell, Array.getElem?_modify, Ne.symm h]

section
variable {α β : Type} {T T' : TypeId} {sz sz' : Nat} {enc : α → List Value} {enc' : β → List Value} {w w' : World} {b b' : Nat} {t t' : TypeId} {blk blk' : Value → Array Value} {v v2 v' : Value} {l : List α} {l' : List β}

/-- A block of another type than the row's two is as it was. -/
theorem Frm.other (f : Frm b v v2 w w') (h : RowIn T sz enc w b t blk v l) {i : Nat} {c : Array Value} {ty : TypeId} {fr : Nat × Nat} (hi : w.heap[i]? = some (.cells c ty fr)) (h1 : ty ≠ t) (h2 : ty ≠ T) : w'.heap[i]? = some (.cells c ty fr) := by
  refine (f.block i (lt_heap hi) (typ_ne hi h.1 h1) (fun e => ?_)).trans hi
  rcases h.2.2 with ⟨hv, _⟩ | ⟨g, cap, cur, hv, hg, hh, _⟩
  · rw [hv] at e; cases e
  · rw [hv] at e
    simp only [Value.ownBlock, Option.some.injEq] at e
    subst e
    exact typ_ne hi hh h2 rfl
theorem RowIn.frm (h' : RowIn T' sz' enc' w b' t' blk' v' l') (h : RowIn T sz enc w b t blk v l) (f : Frm b v v2 w w') (h1 : t' ≠ t) (h2 : t' ≠ T) (h3 : T' ≠ t) (h4 : T' ≠ T) : RowIn T' sz' enc' w' b' t' blk' v' l' := by
  refine ⟨f.other h h'.1 h1 h2, h'.2.1, ?_⟩
  rcases h'.2.2 with h5 | ⟨g, cap, cur, hv, hg, hh, hr⟩
  · exact .inl h5
  · exact .inr ⟨g, cap, cur, hv, hg, f.other h hh h3 h4, hr⟩
theorem ownsRow_other (f : Frm b v v2 w w') (h : RowIn T sz enc w b t blk v l) {B size n : Nat} {e : TypeId} {u : Value} {xs : List Value} (ho : w.ownsRow B e size u n xs) (h3 : e ≠ t) (h4 : e ≠ T) : w'.ownsRow B e size u n xs := by
  refine ⟨ho.1, ?_⟩
  rcases ho.2 with hn | ⟨g, cap, cur, hv, hg, hh, hr⟩
  · exact .inl hn
  · exact .inr ⟨g, cap, cur, hv, hg, f.other h hh h3 h4, hr⟩
/-- A row whose slice is known, at an item. -/
theorem RowIn.at [Inhabited α] {a : Option Addr} {c : Nat} (h : RowIn T sz enc w b t blk (.slice a l.length c) l) (he : ∀ x : α, (enc x).length = sz) {i : Nat} (hi : i < l.length) : ∃ g, a = some ⟨g, 0, none⟩ ∧ l.length ≤ c ∧ c ≤ maxLen ∧ b < g ∧ g < w.heap.size ∧
    (∀ k, k < l.length → ∀ j, j < sz → w.cell? ⟨g, k * sz + j, none⟩ = (enc (atL l k))[j]?) ∧ ∀ x, w.frozen? ⟨g, x, none⟩ = false := by
  obtain ⟨g, cap, hv, h1, h2, h3, h4, h5, h6⟩ := h.item he hi
  simp only [Value.slice.injEq, true_and] at hv
  obtain ⟨rfl, rfl⟩ := hv
  exact ⟨g, rfl, h1, h2, h3, h4, h5, h6⟩
/-- Beside the row a slice of the call's own grew, of another type. -/
theorem RowIn.grewBy (h : RowIn T sz enc w b t blk v l) {B n size : Nat} {e : TypeId} {u : Value} {xs : List Value} {ob : Obj} (ho : w.ownsRow B e size u n xs) (hg : (w.alloc ob).grownBy w' u.ownBlock) (h1 : e ≠ t) (h2 : e ≠ T) : RowIn T sz enc w' b t blk v l := by
  have key : ∀ {i : Nat} {c : Array Value} {ty : TypeId} {fr : Nat × Nat}, w.heap[i]? = some (.cells c ty fr) → e ≠ ty → w'.heap[i]? = some (.cells c ty fr) := fun {i c ty fr} hi hne => by
    refine (hg.block i (by have := lt_heap hi; simp; omega) (fun e2 => ?_)).trans (heap_alloc hi)
    rcases ho.2 with ⟨hv, _⟩ | ⟨g, cap, cur, hv, _, hh, _⟩
    · rw [hv] at e2; cases e2
    · rw [hv] at e2
      simp only [Value.ownBlock, Option.some.injEq] at e2
      subst e2
      exact typ_ne hh hi hne rfl
  refine ⟨key h.1 h1, h.2.1, ?_⟩
  rcases h.2.2 with h3 | ⟨g, cap, cur, hv, hg, hh, hr⟩
  · exact .inl h3
  · exact .inr ⟨g, cap, cur, hv, hg, key hh h2, hr⟩
theorem Frm.grewBy {w0 : World} (f : Frm b v v2 w0 w) {n size : Nat} {e : TypeId} {u : Value} {xs : List Value} {ob : Obj} (ho : w.ownsRow w0.heap.size e size u n xs) (hg : (w.alloc ob).grownBy w' u.ownBlock) : Frm b v v2 w0 w' := by
  have h1 : Below w.heap.size w (w.alloc ob) := (Bel.refl w).alloc.1
  refine ⟨hg.os.trans (h1.os.trans f.os), hg.tape.trans (h1.tape.trans f.tape), hg.output.trans (h1.output.trans f.output), ?_, fun i hi hb hv => ?_, f.own⟩
  · have := hg.size
    have := f.size
    have := h1.size
    omega
  · have := f.size
    refine (hg.block i (by simp; omega) (fun e => ?_)).trans ((h1.block i (by omega)).trans (f.block i hi hb hv))
    have := (ho.lt i e.symm).1
    omega
end
end Go.Proofs.Ythppjkpejnaocaa
