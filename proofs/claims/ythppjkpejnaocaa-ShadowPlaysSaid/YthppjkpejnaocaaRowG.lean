/- Rows of items in memory: general words on lists, rows and what stays. -/
import Derived.Test.YthppjkpejnaocaaRowP
namespace Go.Proofs.Ythppjkpejnaocaa
open Go.ChangeShapes Go.WideShapes Go.ChangeAt Go.RowKit
set_option linter.unusedVariables false

section
variable {α : Type} [Inhabited α]
theorem mem_atL {l : List α} {i : Nat} (h : i < l.length) : atL l i ∈ l := by rw [atL_eq h]; exact List.getElem_mem h
theorem mem_is_atL {l : List α} {y : α} (h : y ∈ l) : ∃ i, i < l.length ∧ y = atL l i := by
  obtain ⟨i, hi, rfl⟩ := List.getElem_of_mem h
  exact ⟨i, hi, (atL_eq hi).symm⟩
theorem take_succ_atL {l : List α} {j : Nat} (hj : j < l.length) : l.take (j + 1) = l.take j ++ [atL l j] := by
  rw [atL_eq hj, List.take_succ_eq_append_getElem hj]
theorem drop_atL {l : List α} {j : Nat} (hj : j < l.length) : l.drop j = atL l j :: l.drop (j + 1) := by
  rw [atL_eq hj, List.drop_eq_getElem_cons hj]
theorem atL_out {l : List α} {j : Nat} (hj : l.length ≤ j) : atL l j = default := by simp [atL, List.getD, List.getElem?_eq_none hj]
end

section
variable {α : Type} {T : TypeId} {sz : Nat} {enc : α → List Value} {w w' : World} {b : Nat} {t : TypeId} {blk : Value → Array Value} {v : Value} {l : List α}
theorem RowIn.upd {c : Nat} (h : RowIn T sz enc w b t blk v l) (hu : Upd c w w') (hb : c ≠ b) (hv : v.ownBlock ≠ some c) : RowIn T sz enc w' b t blk v l := by
  refine ⟨heap_upd h.1 hu (Ne.symm hb), h.2.1, ?_⟩
  rcases h.2.2 with h2 | ⟨g, cap, cur, hv2, hg2, hh, hr⟩
  · exact .inl h2
  · exact .inr ⟨g, cap, cur, hv2, hg2, heap_upd hh hu (fun e => hv (by rw [hv2, ← e]; rfl)), hr⟩
/-- The struct's block was written beside the row's field. -/
theorem RowIn.reblk {blk' : Value → Array Value} (h : RowIn T sz enc w b t blk v l) (hu : Upd b w w') (hb : w'.heap[b]? = some (.cells (blk' v) t (0, 0))) : RowIn T sz enc w' b t blk' v l := by
  refine ⟨hb, h.2.1, ?_⟩
  rcases h.2.2 with h2 | ⟨g, cap, cur, hv, hg, hh, hr⟩
  · exact .inl h2
  · exact .inr ⟨g, cap, cur, hv, hg, heap_upd hh hu (by omega), hr⟩
theorem RowIn.grown {r : Option Nat} (h : RowIn T sz enc w b t blk v l) (hg : w.grownBy w' r) (hb : r ≠ some b) (hv : ∀ g, v.ownBlock = some g → r ≠ some g) : RowIn T sz enc w' b t blk v l := by
  refine ⟨(hg.block b h.lt (fun e => hb e.symm)).trans h.1, h.2.1, ?_⟩
  rcases h.2.2 with h2 | ⟨g, cap, cur, hv2, hg2, hh, hr⟩
  · exact .inl h2
  · exact .inr ⟨g, cap, cur, hv2, hg2, (hg.block g (lt_heap hh) (fun e => hv g (by rw [hv2]; rfl) e.symm)).trans hh, hr⟩
end
theorem Frm.of_own {b : Nat} {v : Value} {a w : World} (h : Upd b a w) : Frm b v v a w := ⟨h.os, h.tape, h.output, h.size, fun i hi hb _ => h.block i hi (by rintro ⟨⟩; exact hb rfl), .inl rfl⟩
theorem ownsRow_frm {w w' : World} {B b size n : Nat} {e : TypeId} {v v' u : Value} {xs : List Value} (h : w.ownsRow B e size u n xs) (hF : Frm b v v' w w') (hb : b < B) (hne : ∀ g, u.ownBlock = some g → v.ownBlock ≠ some g) : w'.ownsRow B e size u n xs := by
  refine ⟨h.1, ?_⟩
  rcases h.2 with hn | ⟨g, cap, cur, hv, hg, hh, hr⟩
  · exact .inl hn
  · refine .inr ⟨g, cap, cur, hv, hg, (hF.block g (lt_heap hh) (by omega) (fun e => hne g (by rw [hv]; rfl) e.symm)).trans hh, hr⟩
theorem ownsRow_below {w w' : World} {B size n : Nat} {e : TypeId} {u : Value} {xs : List Value} (h : w.ownsRow B e size u n xs) (hb : Below w.heap.size w w') : w'.ownsRow B e size u n xs := by
  refine ⟨h.1, ?_⟩
  rcases h.2 with hn | ⟨g, cap, cur, hv, hg, hh, hr⟩
  · exact .inl hn
  · exact .inr ⟨g, cap, cur, hv, hg, (hb.block g (lt_heap hh)).trans hh, hr⟩
theorem ownsRow_upd {w w' : World} {B size n c : Nat} {e : TypeId} {u : Value} {xs : List Value} (h : w.ownsRow B e size u n xs) (hu : Upd c w w') (hc : u.ownBlock ≠ some c) : w'.ownsRow B e size u n xs := by
  refine ⟨h.1, ?_⟩
  rcases h.2 with hn | ⟨g, cap, cur, hv, hg, hh, hr⟩
  · exact .inl hn
  · exact .inr ⟨g, cap, cur, hv, hg, heap_upd hh hu (fun e => hc (by rw [hv, ← e]; rfl)), hr⟩
theorem ownsRow_base {w : World} {B B' size n : Nat} {e : TypeId} {v : Value} {xs : List Value} (h : w.ownsRow B e size v n xs) (hb : B' ≤ B) : w.ownsRow B' e size v n xs := by
  refine ⟨h.1, ?_⟩
  rcases h.2 with hn | ⟨g, cap, cur, hv, hg, hr⟩
  · exact .inl hn
  · exact .inr ⟨g, cap, cur, hv, Nat.le_trans hb hg, hr⟩
theorem ownsRow_shape {w : World} {B size n : Nat} {e : TypeId} {v : Value} {xs : List Value} (h : w.ownsRow B e size v n xs) : ∃ a c, v = .slice a n c := by
  rcases h.2 with ⟨h1, h2⟩ | ⟨g, cap, cur, h1, _⟩
  · exact ⟨none, 0, by rw [h1, h2]⟩
  · exact ⟨_, _, h1⟩

/-- Where a slice of items lies, and which; it is read alone. -/
def ItemsAt {α : Type} [Inhabited α] (sz : Nat) (enc : α → List Value) (w : World) (a : Option Addr) (n : Nat) (l : List α) : Prop :=
  l.length = n ∧ (0 < n → ∃ g o, a = some ⟨g, o, none⟩ ∧ g < w.heap.size ∧ ∀ i, i < n → ∀ j, j < sz → w.cell? ⟨g, o + i * sz + j, none⟩ = (enc (atL l i))[j]?)
section
variable {α : Type} [Inhabited α] {sz : Nat} {enc : α → List Value} {w w' : World} {a : Option Addr} {n : Nat} {l : List α}
theorem ItemsAt.below (h : ItemsAt sz enc w a n l) (hb : Below w.heap.size w w') : ItemsAt sz enc w' a n l :=
  ⟨h.1, fun hn => let ⟨g, o, ha, hg, hc⟩ := h.2 hn; ⟨g, o, ha, Nat.lt_of_lt_of_le hg hb.size, fun i hi j hj => (hb.cell (p := ⟨g, o + i * sz + j, none⟩) hg).trans (hc i hi j hj)⟩⟩
theorem ItemsAt.bel {B : Nat} {w0 : World} (h : ItemsAt sz enc w0 a n l) (hB : B = w0.heap.size) (hb : Bel B w0 w') : ItemsAt sz enc w' a n l := by
  subst hB; exact h.below hb.1
/-- A slice that the call owns, as one that is read. -/
theorem items_of_owned (he : ∀ x : α, (enc x).length = sz) {B : Nat} {e : TypeId} {v : Value} (h : w.ownsRow B e sz v l.length (l.flatMap enc)) : ∃ a c, v = .slice a l.length c ∧ l.length ≤ c ∧ c ≤ maxLen ∧ ItemsAt sz enc w a l.length l ∧ ∀ g, v.ownBlock = some g → B ≤ g := by
  rcases h.2 with ⟨rfl, hn⟩ | ⟨g, cap, cur, rfl, hb, hg, hle, hm, hs, ht⟩
  · exact ⟨none, 0, by rw [hn], by omega, Nat.zero_le _, ⟨rfl, fun h => by omega⟩, fun g hg => by cases hg⟩
  · refine ⟨_, cap, rfl, hle, hm, ⟨rfl, fun hn => ⟨g, 0, rfl, lt_heap hg, fun i hi j hj => ?_⟩⟩, fun g hg => by cases hg; exact hb⟩
    rw [← flat_at he l i j hi hj, ← ht, List.getElem?_take, if_pos, Array.getElem?_toList, Nat.zero_add]
    · simp [World.cell?, hg]
    · have : (i + 1) * sz ≤ l.length * sz := Nat.mul_le_mul_right _ hi
      rw [Nat.succ_mul] at this
      omega
end
end Go.Proofs.Ythppjkpejnaocaa
