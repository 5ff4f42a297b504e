/- Plain: what is taken off a heap, one behind the other, while it is due. -/
import Derived.Test.YtjlhdbkhebfghaaRowG
import Derived.Test.YtjlhdbkhebfghaaHeap2
namespace Go.Proofs.Ytjlhdbkhebfghaa
set_option linter.unusedVariables false

section
variable {α : Type} {lt : α → α → Bool} {ok : α → Bool}
/-- xs were taken of l, l' stay. -/
structure Took (lt : α → α → Bool) (ok : α → Bool) (l xs l' : List α) : Prop where
  perm : (xs ++ l').Perm l
  due : ∀ x ∈ xs, ok x = true
  sorted : xs.Pairwise fun a b => lt b a = false
  behind : ∀ x ∈ xs, ∀ y ∈ l', lt y x = false
theorem Took.nil (l : List α) : Took lt ok l [] l := ⟨List.Perm.refl _, by simp, List.Pairwise.nil, by simp⟩
theorem Took.step [Inhabited α] (H : Ordered lt) {l xs l' l'' : List α} (h : Took lt ok l xs l') (hh : HeapN lt l' l'.length) (hp : (atL l' 0 :: l'').Perm l') (hd : ok (atL l' 0) = true) : Took lt ok l (xs ++ [atL l' 0]) l'' := by
  have hmin : ∀ y ∈ l', lt y (atL l' 0) = false := fun y hy => by
    obtain ⟨i, hi, rfl⟩ := mem_is_atL hy
    exact heap_min H hh i hi
  have hin : atL l' 0 ∈ l' := hp.subset (List.mem_cons_self ..)
  refine ⟨?_, ?_, ?_, ?_⟩
  · rw [List.append_assoc]
    exact (List.Perm.append_left xs hp).trans h.perm
  · intro x hx
    rcases List.mem_append.1 hx with hx | hx
    · exact h.due x hx
    · rw [List.mem_singleton.1 hx]; exact hd
  · refine List.pairwise_append.2 ⟨h.sorted, List.pairwise_singleton _ _, fun a ha b hb => ?_⟩
    rw [List.mem_singleton.1 hb]
    exact h.behind a ha _ hin
  · intro x hx y hy
    have hy' : y ∈ l' := hp.subset (List.mem_cons_of_mem _ hy)
    rcases List.mem_append.1 hx with hx | hx
    · exact h.behind x hx y hy'
    · rw [List.mem_singleton.1 hx]; exact hmin y hy'
theorem Took.length {l xs l' : List α} (h : Took lt ok l xs l') : xs.length + l'.length = l.length := by
  have := h.perm.length_eq
  rwa [List.length_append] at this
theorem Took.of_perm {l m xs l' : List α} (h : Took lt ok l xs l') (p : l.Perm m) : Took lt ok m xs l' := ⟨h.perm.trans p, h.due, h.sorted, h.behind⟩
theorem Took.mem {l xs l' : List α} (h : Took lt ok l xs l') : (∀ x ∈ xs, x ∈ l) ∧ ∀ y ∈ l', y ∈ l := ⟨fun x hx => h.perm.subset (List.mem_append_left _ hx), fun y hy => h.perm.subset (List.mem_append_right _ hy)⟩
/-- In a row in which no two are alike to the order, one is ahead of all. -/
def Total (lt : α → α → Bool) (l : List α) : Prop := ∀ x ∈ l, ∀ y ∈ l, lt x y = false → lt y x = false → x = y
theorem Total.sub {l l' : List α} (h : Total lt l) (hs : ∀ x ∈ l', x ∈ l) : Total lt l' := fun x hx y hy => h x (hs x hx) y (hs y hy)
/-- What is taken is decided: two heaps of one row's items give the same. -/
theorem Took.same (H : Ordered lt) : ∀ {xs ys : List α} {l l' l'' : List α}, Total lt l → Took lt ok l xs l' → Took lt ok l ys l'' → xs.length = ys.length → xs = ys
  | [], [], _, _, _, _, _, _, _ => rfl
  | x :: xs, y :: ys, l, l', l'', ht, h, k, hl => by
    have hx : x ∈ l := h.mem.1 x (List.mem_cons_self ..)
    have hy : y ∈ l := k.mem.1 y (List.mem_cons_self ..)
    have key : ∀ {z : α} {zs m : List α}, Took lt ok l (z :: zs) m → ∀ u ∈ l, lt u z = false := fun {z zs m} hk u hu => by
      rcases List.mem_append.1 (hk.perm.symm.subset hu) with h1 | h1
      · rcases List.mem_cons.1 h1 with rfl | h1
        · exact H.irrefl _
        · exact (List.pairwise_cons.1 hk.sorted).1 u h1
      · exact hk.behind z (List.mem_cons_self ..) u h1
    obtain rfl : x = y := ht x hx y hy (key k x hx) (key h y hy)
    have p : (ys ++ l'').Perm (xs ++ l') := (List.Perm.cons_inv (a := x) (by simpa using k.perm.trans h.perm.symm))
    have t1 : Took lt ok (xs ++ l') xs l' := ⟨List.Perm.refl _, fun z hz => h.due z (List.mem_cons_of_mem _ hz), (List.pairwise_cons.1 h.sorted).2, fun z hz => h.behind z (List.mem_cons_of_mem _ hz)⟩
    have t2 : Took lt ok (xs ++ l') ys l'' := ⟨p, fun z hz => k.due z (List.mem_cons_of_mem _ hz), (List.pairwise_cons.1 k.sorted).2, fun z hz => k.behind z (List.mem_cons_of_mem _ hz)⟩
    rw [Took.same H (ht.sub fun z hz => h.perm.subset (by simpa using List.mem_cons_of_mem x hz)) t1 t2 (by simpa using hl)]
theorem Took.rest {l xs l' l'' : List α} (h : Took lt ok l xs l') (k : Took lt ok l xs l'') : l'.Perm l'' := (List.perm_append_left_iff xs).1 (h.perm.trans k.perm.symm)
end
end Go.Proofs.Ytjlhdbkhebfghaa
