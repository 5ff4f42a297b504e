/- TimerOnce: what the law's own arrays hold beside the timers. -/
import Derived.Test.YtjlhdbkhebfghaaTmi
namespace Go.Proofs.Ytjlhdbkhebfghaa
open Go.ChangeShapes Go.WideShapes Go.ChangeAt Go.RowKit
set_option linter.unusedVariables false

theorem RowIn.upd {α : Type} {T : TypeId} {sz : Nat} {enc : α → List Value} {w w' : World} {b c : Nat} {t : TypeId} {blk : Value → Array Value} {v : Value} {l : List α} (h : RowIn T sz enc w b t blk v l) (hu : Upd c w w') (hb : c ≠ b) (hv : v.ownBlock ≠ some c) : RowIn T sz enc w' b t blk v l := by
  refine ⟨heap_upd h.1 hu (Ne.symm hb), h.2.1, ?_⟩
  rcases h.2.2 with h2 | ⟨g, cap, cur, hv2, hg2, hh, hr⟩
  · exact .inl h2
  · exact .inr ⟨g, cap, cur, hv2, hg2, heap_upd hh hu (fun e => hv (by rw [hv2, ← e]; rfl)), hr⟩
theorem TmAt.upd {w w' : World} {t c now : Nat} {u : Nat → Bool} {v : Value} {l : List trIt} (h : TmAt w t u now v l) (hu : Upd c w w') (hb : c ≠ t) (hv : v.ownBlock ≠ some c) : TmAt w' t u now v l := ⟨h.row.upd hu hb hv, h.heap⟩

def onBlk (u : Nat → Bool) : Array Value := #[.bool (u 0), .bool (u 1), .bool (u 2), .bool (u 3)]
def dueBlk (D : Nat → Int) : Array Value := #[.int .i64 (D 0), .int .i64 (D 1), .int .i64 (D 2), .int .i64 (D 3)]
def putD (D : Nat → Int) (k : Nat) (d : Int) : Nat → Int := fun i => if i = k then d else D i
theorem onBlk_set (u : Nat → Bool) (k : Nat) (c : Bool) (hk : k < 4) : (onBlk u).setIfInBounds k (.bool c) = onBlk (putU u k c) := by
  rcases (by omega : k = 0 ∨ k = 1 ∨ k = 2 ∨ k = 3) with rfl | rfl | rfl | rfl <;> simp [onBlk, putU]
theorem dueBlk_set (D : Nat → Int) (k : Nat) (d : Int) (hk : k < 4) : (dueBlk D).setIfInBounds k (.int .i64 d) = dueBlk (putD D k d) := by
  rcases (by omega : k = 0 ∨ k = 1 ∨ k = 2 ∨ k = 3) with rfl | rfl | rfl | rfl <;> simp [dueBlk, putD]
theorem onBlk_at (u : Nat → Bool) (k : Nat) (hk : k < 4) : (onBlk u)[k]? = some (.bool (u k)) := by
  rcases (by omega : k = 0 ∨ k = 1 ∨ k = 2 ∨ k = 3) with rfl | rfl | rfl | rfl <;> rfl
theorem dueBlk_at (D : Nat → Int) (k : Nat) (hk : k < 4) : (dueBlk D)[k]? = some (.int .i64 (D k)) := by
  rcases (by omega : k = 0 ∨ k = 1 ∨ k = 2 ∨ k = 3) with rfl | rfl | rfl | rfl <;> rfl

structure Once (w0 : World) (bd bo : Nat) (w : World) (u : Nat → Bool) (D : Nat → Int) (now : Nat) (v : Value) (l : List trIt) : Prop where
  lt1 : w0.heap.size < bd
  lt2 : bd < bo
  tm : TmAt w w0.heap.size u now v l
  on : w.heap[bo]? = some (.cells (onBlk u) 37 (0, 0))
  due : w.heap[bd]? = some (.cells (dueBlk D) 36 (0, 0))
  own : ∀ g, v.ownBlock = some g → bo < g
  bel : Bel w0.heap.size w0 w
  ids : Ids u l
  dues : ∀ x ∈ l, ∀ k : Nat, x.id = k → D k = x.due ∧ 0 ≤ x.due

section
variable {w0 w w2 : World} {bd bo now now2 : Nat} {u u2 : Nat → Bool} {D : Nat → Int} {v v2 : Value} {l l2 : List trIt}
theorem Once.onCell (h : Once w0 bd bo w u D now v l) {k : Nat} (hk : k < 4) : w.cell? ⟨bo, k, none⟩ = some (.bool (u k)) := by
  rw [cell_of_row _ _ _ _ _ _ h.on]; exact onBlk_at u k hk
theorem Once.dueCell (h : Once w0 bd bo w u D now v l) {k : Nat} (hk : k < 4) : w.cell? ⟨bd, k, none⟩ = some (.int .i64 (D k)) := by
  rw [cell_of_row _ _ _ _ _ _ h.due]; exact dueBlk_at D k hk
theorem Once.onFree (h : Once w0 bd bo w u D now v l) (k : Nat) : w.frozen? ⟨bo, k, none⟩ = false := by simp [World.frozen?, h.on]
theorem Once.dueFree (h : Once w0 bd bo w u D now v l) (k : Nat) : w.frozen? ⟨bd, k, none⟩ = false := by simp [World.frozen?, h.due]
theorem Once.below (h : Once w0 bd bo w u D now v l) (hb : Below w.heap.size w w2) : Once w0 bd bo w2 u D now v l :=
  ⟨h.lt1, h.lt2, h.tm.below hb, (hb.block _ (lt_heap h.on)).trans h.on, (hb.block _ (lt_heap h.due)).trans h.due, h.own, h.bel.of hb, h.ids, h.dues⟩
/-- The timers moved; the arrays did not. -/
theorem Once.move (h : Once w0 bd bo w u D now v l) (f : Frm w0.heap.size v v2 w w2) : w2.heap[bo]? = some (.cells (onBlk u) 37 (0, 0)) ∧ w2.heap[bd]? = some (.cells (dueBlk D) 36 (0, 0)) ∧ (∀ g, v2.ownBlock = some g → bo < g) ∧ Bel w0.heap.size w0 w2 := by
  have h1 := h.lt1
  have h2 := h.lt2
  have hb := lt_heap h.on
  refine ⟨(f.block _ hb (by omega) (fun e => ?_)).trans h.on, (f.block _ (lt_heap h.due) (by omega) (fun e => ?_)).trans h.due, fun g hg => ?_, h.bel.frm f (Nat.le_refl _) (fun g hg => ?_)⟩
  · have := h.own _ e.symm; omega
  · have := h.own _ e.symm; omega
  · rcases f.own with ho | ho
    · exact h.own g (ho ▸ hg)
    · have := ho g hg; omega
  · have := h.own g hg; omega
/-- A timer was armed, and noted. -/
theorem Once.armed (h : Once w0 bd bo w u D now v l) {k : Nat} {d s : Int} (hk : k < 4) (hu : u k = false) (hd : 0 ≤ d) (t2 : TmAt w2 w0.heap.size (putU u k true) now2 v2 l2) (p : l2.Perm (l ++ [⟨d, s, k⟩])) (f : Frm w0.heap.size v v2 w w2) :
    Once w0 bd bo ((w2.setCell ⟨bo, k, none⟩ (.bool true)).setCell ⟨bd, k, none⟩ (.int .i64 d)) (putU u k true) (putD D k d) now2 v2 l2 := by
  obtain ⟨m1, m2, m3, m4⟩ := h.move f
  have h1 := h.lt1
  have h2 := h.lt2
  have u1 : Upd bo w2 (w2.setCell ⟨bo, k, none⟩ (.bool true)) := (Upd.refl bo w2).setCell
  have u2 : Upd bd (w2.setCell ⟨bo, k, none⟩ (.bool true)) ((w2.setCell ⟨bo, k, none⟩ (.bool true)).setCell ⟨bd, k, none⟩ (.int .i64 d)) := (Upd.refl bd _).setCell
  have a1 := heap_setCell_at (o := k) (u := .bool true) m1
  have a2 := heap_setCell_at (o := k) (u := .int .i64 d) (heap_upd m2 u1 (by omega))
  rw [onBlk_set _ _ _ hk] at a1
  rw [dueBlk_set _ _ _ hk] at a2
  refine ⟨h1, h2, (t2.upd u1 (by omega) (fun e => by have := m3 _ e; omega)).upd u2 (by omega) (fun e => by have := m3 _ e; omega), heap_upd a1 u2 (by omega), a2, m3, (m4.upd u1 (by omega)).upd u2 (by omega), (h.ids.arm hk hu).perm p, fun x hx j e => ?_⟩
  have hx := p.subset hx
  rcases List.mem_append.1 hx with hx | hx
  · obtain ⟨q, hq, e2, hu2⟩ := h.ids.rng x hx
    have hne : j ≠ k := by
      rintro rfl
      rw [e] at e2
      have : j = q := by omega
      subst this
      rw [hu] at hu2
      cases hu2
    simp only [putD, if_neg hne]
    exact h.dues x hx j e
  · rw [List.mem_singleton.1 hx] at e ⊢
    have : j = k := by simp only at e; omega
    subst this
    simp [putD, hd]
/-- One was cancelled, and noted. -/
theorem Once.cancelled (h : Once w0 bd bo w u D now v l) {k : Nat} {x : trIt} (hk : k < 4) (hx : x.id = k) (t2 : TmAt w2 w0.heap.size (putU u k false) now2 v2 l2) (p : (x :: l2).Perm l) (f : Frm w0.heap.size v v2 w w2) :
    Once w0 bd bo (w2.setCell ⟨bo, k, none⟩ (.bool false)) (putU u k false) D now2 v2 l2 := by
  obtain ⟨m1, m2, m3, m4⟩ := h.move f
  have h1 := h.lt1
  have h2 := h.lt2
  have u1 : Upd bo w2 (w2.setCell ⟨bo, k, none⟩ (.bool false)) := (Upd.refl bo w2).setCell
  have a1 := heap_setCell_at (o := k) (u := .bool false) m1
  rw [onBlk_set _ _ _ hk] at a1
  exact ⟨h1, h2, t2.upd u1 (by omega) (fun e => by have := m3 _ e; omega), a1, heap_upd m2 u1 (by omega), m3, m4.upd u1 (by omega), h.ids.cancel p hx, fun y hy => h.dues y (p.subset (List.mem_cons_of_mem _ hy))⟩
/-- All that were due fired, and were noted one by one. -/
theorem Once.fired (h : Once w0 bd bo w u D now v l) {xs : List trIt} {w3 : World} (t2 : TmAt w2 w0.heap.size (offU u xs) now2 v2 l2) (p : (xs ++ l2).Perm l) (f : Frm w0.heap.size v v2 w w2) (hu : Upd bo w2 w3) (a1 : w3.heap[bo]? = some (.cells (onBlk (offU u xs)) 37 (0, 0))) :
    Once w0 bd bo w3 (offU u xs) D now2 v2 l2 := by
  obtain ⟨m1, m2, m3, m4⟩ := h.move f
  have h1 := h.lt1
  have h2 := h.lt2
  exact ⟨h1, h2, t2.upd hu (by omega) (fun e => by have := m3 _ e; omega), a1, heap_upd m2 hu (by omega), m3, m4.upd hu (by omega), h.ids.off p, fun y hy => h.dues y (p.subset (List.mem_append_right _ hy))⟩
end
/-- While the fired are noted: the next one is still on. -/
theorem fired_on {u : Nat → Bool} {l l2 xs : List trIt} (h : Ids u l) (p : (xs ++ l2).Perm l) {j q : Nat} (hj : j < xs.length) (hq : (atL xs j).id = q) : offU u (xs.take j) q = true := by
  have hin : atL xs j ∈ l := p.subset (List.mem_append_left _ (mem_atL hj))
  obtain ⟨k, hk, e, hu⟩ := h.rng _ hin
  have : k = q := by rw [hq] at e; omega
  subst this
  simp only [offU, hu, Bool.true_and, Bool.not_eq_true']
  rw [List.any_eq_false]
  intro x hx
  simp only [decide_eq_true_eq]
  intro hxk
  obtain ⟨i, hi, he⟩ := mem_is_atL hx
  rw [List.length_take] at hi
  rw [he, atL_take (by omega)] at hxk
  have hn : (atL xs i).id = (atL xs j).id := hxk.trans hq.symm
  have hA : ∀ a, a < xs.length → atL (xs ++ l2) a = atL xs a := fun a ha => atL_append ha
  have := (h.perm p).inj (i := i) (j := j) (by rw [List.length_append]; omega) (by rw [List.length_append]; omega) (by rw [hA i (by omega), hA j hj]; exact hn)
  omega
/-- A row of numbers, in cells. -/
theorem ownsRow_ids {w : World} {B : Nat} {e : TypeId} {v : Value} {xs : List trIt} (h : w.ownsRow B e 1 v xs.length (xs.map fun x => .int .i64 x.id)) :
    ∃ a c, v = .slice a xs.length c ∧ xs.length ≤ c ∧ c ≤ maxLen ∧ ∀ i, i < xs.length → ∃ g, a = some ⟨g, 0, none⟩ ∧ B ≤ g ∧ g < w.heap.size ∧ w.cell? ⟨g, i, none⟩ = some (.int .i64 (atL xs i).id) := by
  obtain ⟨hl, h2⟩ := h
  rcases h2 with ⟨hv, h0⟩ | ⟨g, cap, cur, hv, hb, hg, hle, hm, hs, ht⟩
  · exact ⟨none, 0, by rw [hv, h0], by omega, by omega, fun i hi => by omega⟩
  · refine ⟨_, cap, hv, hle, hm, fun i hi => ⟨g, rfl, hb, lt_heap hg, ?_⟩⟩
    have h0 : (cur.toList.take (xs.length * 1))[i]? = some (.int .i64 (atL xs i).id) := by
      rw [ht, List.getElem?_map, atL_eq hi, List.getElem?_eq_getElem hi]; rfl
    rw [List.getElem?_take, if_pos (by omega), Array.getElem?_toList] at h0
    simp [World.cell?, hg, h0]
/-- When the last one of those that were seen was due. -/
def lastD (xs : List trIt) (j : Nat) : Int := if j = 0 then 0 else (atL xs (j - 1)).due
theorem lastD_succ (xs : List trIt) (j : Nat) : lastD xs (j + 1) = (atL xs j).due := by simp [lastD]
theorem lastD_le {n : Int} {l xs l' : List trIt} (h : Fired n l xs l') {j : Nat} (hj : j < xs.length) (hd : 0 ≤ (atL xs j).due) : lastD xs j ≤ (atL xs j).due := by
  unfold lastD
  split
  · exact hd
  · have := List.pairwise_iff_getElem.1 h.sorted (j - 1) j (by omega) hj (by omega)
    rw [atL_eq (by omega), atL_eq hj]
    rw [trLt_false] at this
    omega
theorem take_succ_atL {α : Type} [Inhabited α] {l : List α} {j : Nat} (hj : j < l.length) : l.take (j + 1) = l.take j ++ [atL l j] := by
  rw [atL_eq hj, List.take_succ_eq_append_getElem hj]
end Go.Proofs.Ytjlhdbkhebfghaa
