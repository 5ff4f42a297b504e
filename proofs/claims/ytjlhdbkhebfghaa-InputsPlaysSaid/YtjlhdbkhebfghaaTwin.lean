/- Plain, law 33: two guests' rows that are alike but for the places give the same. -/
import Derived.Test.YtjlhdbkhebfghaaInX
namespace Go.Proofs.Ytjlhdbkhebfghaa
set_option linter.unusedVariables false

/-- Without its place. -/
def bare (x : inIt) : inIt := { x with pl := 0 }
def Inc (l : List inIt) : Prop := l.Pairwise fun a b => a.pl < b.pl
theorem inArg_bare {x y : inIt} (h : bare x = bare y) : inArg x = inArg y := by
  simp only [bare, inIt.mk.injEq, and_true] at h
  obtain ⟨h1, h2, h3, h4, h5⟩ := h
  simp [inArg, h1, h2, h3, h4, h5]
theorem flat_bare : ∀ {xs ys : List inIt}, xs.map bare = ys.map bare → xs.flatMap inArg = ys.flatMap inArg
  | [], [], _ => rfl
  | [], y :: ys, h => by simp at h
  | x :: xs, [], h => by simp at h
  | x :: xs, y :: ys, h => by
    simp only [List.map_cons, List.cons.injEq] at h
    rw [List.flatMap_cons, List.flatMap_cons, inArg_bare h.1, flat_bare h.2]
theorem bare_at {PA PB : List inIt} (h : PA.map bare = PB.map bare) {i : Nat} (hi : i < PA.length) : i < PB.length ∧ bare (atL PA i) = bare (atL PB i) := by
  have hl : PA.length = PB.length := by simpa using congrArg List.length h
  refine ⟨by omega, ?_⟩
  have := congrArg (fun l => l[i]?) h
  simp only [List.getElem?_map, List.getElem?_eq_getElem hi, List.getElem?_eq_getElem (show i < PB.length by omega), Option.map_some, Option.some.injEq] at this
  rw [atL_eq hi, atL_eq (by omega)]
  exact this
theorem bare_tat {x y : inIt} (h : bare x = bare y) : x.tat = y.tat := by
  simp only [bare, inIt.mk.injEq, and_true] at h
  exact h.1
theorem Took.head {ok : inIt → Bool} {l xs l' : List inIt} {x : inIt} (h : Took inLt ok l (x :: xs) l') : x ∈ l ∧ ∀ z ∈ l, inLt z x = false := by
  refine ⟨h.mem.1 x (List.mem_cons_self ..), fun z hz => ?_⟩
  rcases List.mem_append.1 (h.perm.symm.subset hz) with h1 | h1
  · rcases List.mem_cons.1 h1 with rfl | h1
    · exact inLt_ordered.irrefl _
    · exact (List.pairwise_cons.1 h.sorted).1 z h1
  · exact h.behind x (List.mem_cons_self ..) z h1
theorem erase_perm {α : Type} [Inhabited α] : ∀ (l : List α) {i : Nat}, i < l.length → (atL l i :: l.eraseIdx i).Perm l
  | [], i, h => by simp at h
  | x :: l, 0, _ => List.Perm.refl _
  | x :: l, i + 1, h => by
    have ih := erase_perm l (i := i) (by simpa using h)
    rw [List.eraseIdx_cons_succ]
    exact (List.Perm.swap x (atL l i) (l.eraseIdx i)).trans (List.Perm.cons x ih)
theorem map_erase {α β : Type} (f : α → β) : ∀ (l : List α) (i : Nat), (l.eraseIdx i).map f = (l.map f).eraseIdx i
  | [], i => by simp
  | x :: l, 0 => by simp
  | x :: l, i + 1 => by simp [map_erase f l i]
theorem Took.tail {ok : inIt → Bool} {l xs l' : List inIt} {x : inIt} {i : Nat} (h : Took inLt ok l (x :: xs) l') (hi : i < l.length) (hx : x = atL l i) : Took inLt ok (l.eraseIdx i) xs l' := by
  subst hx
  refine ⟨List.Perm.cons_inv (a := atL l i) (by simpa using h.perm.trans (erase_perm l hi).symm), fun z hz => h.due z (List.mem_cons_of_mem _ hz), (List.pairwise_cons.1 h.sorted).2, fun z hz => h.behind z (List.mem_cons_of_mem _ hz)⟩
theorem Inc.at {l : List inIt} (h : Inc l) {i j : Nat} (hij : i < j) (hj : j < l.length) : (atL l i).pl < (atL l j).pl := by
  have := List.pairwise_iff_getElem.1 h i j (by omega) hj hij
  rw [atL_eq (by omega), atL_eq hj]
  exact this
theorem twin {ok : inIt → Bool} : ∀ {xs ys PA PB l' l'' : List inIt}, PA.map bare = PB.map bare → Inc PA → Inc PB → Took inLt ok PA xs l' → Took inLt ok PB ys l'' → xs.length = ys.length →
    xs.map bare = ys.map bare ∧ ∃ PA' PB', l'.Perm PA' ∧ l''.Perm PB' ∧ PA'.map bare = PB'.map bare ∧ Inc PA' ∧ Inc PB'
  | [], [], PA, PB, l', l'', h, ha, hb, t1, t2, _ => ⟨rfl, PA, PB, t1.perm, t2.perm, h, ha, hb⟩
  | [], y :: ys, _, _, _, _, _, _, _, _, _, hl => by simp at hl
  | x :: xs, [], _, _, _, _, _, _, _, _, _, hl => by simp at hl
  | x :: xs, y :: ys, PA, PB, l', l'', h, ha, hb, t1, t2, hl => by
    obtain ⟨hx, hxm⟩ := t1.head
    obtain ⟨hy, hym⟩ := t2.head
    obtain ⟨i, hi, hxe⟩ := mem_is_atL hx
    obtain ⟨k, hk, hye⟩ := mem_is_atL hy
    have hlen : PA.length = PB.length := by simpa using congrArg List.length h
    have e1 := bare_tat (bare_at h hi).2
    have e2 := bare_tat (bare_at h (i := k) (by omega)).2
    have m1 := hxm _ (mem_atL (l := PA) (i := k) (by omega))
    have m2 := hym _ (mem_atL (l := PB) (i := i) (by omega))
    rw [hxe, inLt_false] at m1
    rw [hye, inLt_false] at m2
    have hik : i = k := by
      rcases Nat.lt_trichotomy i k with h1 | h1 | h1
      · have := hb.at h1 hk; omega
      · exact h1
      · have := ha.at h1 hi; omega
    subst hik
    obtain ⟨r1, r2⟩ := twin (PA := PA.eraseIdx i) (PB := PB.eraseIdx i) (by rw [map_erase, map_erase, h]) (ha.sublist (List.eraseIdx_sublist ..)) (hb.sublist (List.eraseIdx_sublist ..)) (t1.tail hi hxe) (t2.tail hk hye) (by simpa using hl)
    refine ⟨?_, r2⟩
    rw [List.map_cons, List.map_cons, r1, hxe, hye, (bare_at h hi).2]
/-- How many are taken: all that are due, or four. -/
theorem Took.many {m : Int} {l xs l' : List inIt} (h : Took inLt (dueBy m) l xs l') (h4 : xs.length ≤ 4) (hr : xs.length = 4 ∨ ∀ y ∈ l', m < y.tat) : xs.length = min 4 (l.filter (dueBy m)).length := by
  have h1 := (h.perm.filter (dueBy m)).length_eq
  rw [List.filter_append, List.filter_eq_self.2 h.due, List.length_append] at h1
  rcases hr with h5 | h5
  · omega
  · rw [List.filter_eq_nil_iff.2 (fun y hy => by have := h5 y hy; simp only [dueBy, decide_eq_true_eq]; omega)] at h1
    simp at h1
    omega
theorem due_bare {m : Int} : ∀ {PA PB : List inIt}, PA.map bare = PB.map bare → (PA.filter (dueBy m)).length = (PB.filter (dueBy m)).length
  | [], [], _ => rfl
  | [], y :: ys, h => by simp at h
  | x :: xs, [], h => by simp at h
  | x :: xs, y :: ys, h => by
    simp only [List.map_cons, List.cons.injEq] at h
    have ht := bare_tat h.1
    have ih := due_bare (m := m) h.2
    have hd : dueBy m x = dueBy m y := by simp [dueBy, ht]
    cases hy : dueBy m y <;> simp [hd, hy, ih]
/-- Each at its own place. -/
def renum (l : List inIt) : List inIt := (List.range l.length).map fun i => { atL l i with pl := (i : Int) }
theorem renum_length (l : List inIt) : (renum l).length = l.length := by simp [renum]
theorem renum_at (l : List inIt) {i : Nat} (hi : i < l.length) : atL (renum l) i = { atL l i with pl := (i : Int) } := atL_map_range _ hi
theorem renum_items {w : World} {p : Option Addr} {n : Nat} {l : List inIt} (h : ItemsAt 5 inArg w p n l) : ItemsAt 5 inArg w p n (renum l) := by
  refine ⟨by rw [renum_length]; exact h.1, fun hn => ?_⟩
  obtain ⟨g, o, ha, hg, hc⟩ := h.2 hn
  refine ⟨g, o, ha, hg, fun i hi j hj => ?_⟩
  rw [hc i hi j hj, renum_at l (by rw [h.1]; exact hi)]
  rfl
theorem renum_bare (l : List inIt) : (renum l).map bare = l.map bare := by
  refine List.ext_getElem (by simp [renum]) fun i h1 h2 => ?_
  have hi : i < l.length := by simpa using h2
  rw [List.getElem_map, List.getElem_map, ← atL_eq (by simpa [renum] using hi), renum_at l hi, ← atL_eq hi]
  rfl
theorem renum_inc (l : List inIt) : Inc (renum l) := by
  unfold Inc renum
  rw [List.pairwise_map]
  refine List.Pairwise.imp ?_ List.pairwise_lt_range
  intro a b h
  simp only
  omega
theorem filter_bare {p : inIt → Bool} (hp : ∀ x, p (bare x) = p x) (l : List inIt) : (l.filter p).map bare = (l.map bare).filter p := by
  rw [List.filter_map]
  congr 1
  exact List.filter_congr fun x _ => (hp x).symm
theorem counts_bare (g : Nat) (x : inIt) : counts g (bare x) = counts g x := rfl
def ofG (g : Nat) (x : inIt) : Bool := decide (x.gst = g)
/-- What the two rows begin with. -/
theorem begin_alike {LA LB : List inIt} {g : Nat} (h : (LB.filter (ofG g)).map bare = LA.map bare) : ((renum LA).filter (counts g)).map bare = ((renum LB).filter (counts g)).map bare := by
  rw [filter_bare (counts_bare g), filter_bare (counts_bare g), renum_bare, renum_bare, ← h, ← filter_bare (counts_bare g), ← filter_bare (counts_bare g), List.filter_filter]
  congr 1
  refine List.filter_congr fun x _ => ?_
  simp only [counts, ofG]
  cases decide (x.gst = ↑g) <;> simp
end Go.Proofs.Ytjlhdbkhebfghaa
