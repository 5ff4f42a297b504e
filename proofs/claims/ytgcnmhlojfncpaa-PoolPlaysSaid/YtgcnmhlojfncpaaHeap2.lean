/- Plain: a binary heap in a list: the least is ahead; what Push, Pop and Remove leave. -/
import Derived.Test.YtgcnmhlojfncpaaHeap
namespace Go.Proofs.Ytgcnmhlojfncpaa
set_option linter.unusedVariables false

theorem Ordered.irrefl {β : Type} {le : β → β → Bool} (H : Ordered le) (a : β) : le a a = false := by
  cases h : le a a
  · rfl
  · rw [← h]; exact H.asymm a a h

section
variable {α : Type} [Inhabited α] {lt : α → α → Bool}

theorem heap_min (H : Ordered lt) {l : List α} {n : Nat} (h : HeapN lt l n) : ∀ x, x < n → lt (atL l x) (atL l 0) = false := by
  intro x
  induction x using Nat.strongRecOn with
  | ind x ih =>
    intro hx
    rcases Nat.eq_zero_or_pos x with rfl | h0
    · exact H.irrefl _
    · have hp : par x < x := by unfold par; omega
      exact H.trans _ _ _ (ih (par x) hp (by omega)) (h x h0 hx)
theorem upL_behind : ∀ (f : Nat) (l : List α) (j : Nat), j < l.length → ∀ x, j < x → atL (upL lt f l j) x = atL l x
  | 0, _, _, _, _, _ => rfl
  | f + 1, l, j, hj, x, hx => by
    have hp : par j ≤ j := by unfold par; omega
    unfold upL
    split
    · rfl
    · split
      · rw [upL_behind f _ _ (by rw [swapL_length]; omega) x (by omega), atL_swap (by omega) hj, if_neg (by omega), if_neg (by omega)]
      · rfl
theorem atL_take {l : List α} {n x : Nat} (hx : x < n) : atL (l.take n) x = atL l x := by
  simp [atL, List.getD, hx]
theorem atL_append {l r : List α} {x : Nat} (hx : x < l.length) : atL (l ++ r) x = atL l x := by
  simp [atL, List.getD, List.getElem?_append_left hx]
theorem heap_congr {l r : List α} {n : Nat} (h : HeapN lt l n) (he : ∀ x, x < n → atL r x = atL l x) : HeapN lt r n := by
  intro x h0 hx
  have hp : par x < x := by unfold par; omega
  unfold Rel
  rw [he x hx, he (par x) (by omega)]
  exact h x h0 hx
theorem heap_take {l : List α} {n : Nat} (h : HeapN lt l n) : HeapN lt (l.take n) n := heap_congr h fun x hx => atL_take hx
theorem split_last {l : List α} {n : Nat} (hl : l.length = n + 1) : l = l.take n ++ [atL l n] := by
  rw [atL_eq (by omega)]
  conv => lhs; rw [← List.take_append_drop n l]
  rw [List.drop_eq_getElem_cons (by omega), List.drop_eq_nil_of_le (by omega)]
theorem perm_last {l : List α} {n : Nat} (hl : l.length = n + 1) : (atL l n :: l.take n).Perm l := by
  conv => rhs; rw [split_last hl]
  exact (List.perm_append_comm (l₁ := l.take n) (l₂ := [atL l n])).symm

/-- Push. -/
theorem push_heap (H : Ordered lt) {l : List α} {n : Nat} (hn : l.length = n) (x : α) (h : HeapN lt l n) : HeapN lt (upL lt n (l ++ [x]) n) (n + 1) ∧ (upL lt n (l ++ [x]) n).Perm (l ++ [x]) ∧ (upL lt n (l ++ [x]) n).length = n + 1 := by
  subst hn
  refine ⟨up_heap H _ _ _ (Nat.le_refl _) (by omega) (by simp) ⟨fun y h0 hy hne => ?_, fun y h0 hy hp hj => ?_⟩, upL_perm _ _ _ (by simp), by rw [upL_length]; simp⟩
  · have hpy : par y < y := by unfold par; omega
    unfold Rel
    rw [atL_append (by omega), atL_append (by omega)]
    exact h y h0 (by omega)
  · unfold par at hp
    omega

/-- Pop. -/
theorem pop_heap (H : Ordered lt) {l : List α} {n : Nat} (hl : l.length = n + 1) (h : HeapN lt l (n + 1)) :
    HeapN lt ((downL lt n n (swapL l 0 n) 0).1.take n) n ∧ atL (downL lt n n (swapL l 0 n) 0).1 n = atL l 0 ∧ (atL l 0 :: (downL lt n n (swapL l 0 n) 0).1.take n).Perm l := by
  have hsw : ∀ x, x ≠ 0 → x < n → atL (swapL l 0 n) x = atL l x := fun x h0 hx => by rw [atL_swap (by omega) (by omega), if_neg (by omega), if_neg h0]
  have hlen : (downL lt n n (swapL l 0 n) 0).1.length = n + 1 := by rw [downL_length, swapL_length]; exact hl
  have hlast : atL (downL lt n n (swapL l 0 n) 0).1 n = atL l 0 := by
    rcases Nat.eq_zero_or_pos n with rfl | hp
    · show atL (swapL l 0 0) 0 = atL l 0
      rw [atL_swap (by omega) (by omega)]; simp
    · rw [downL_behind _ _ _ (by rw [swapL_length]; omega) hp n (Nat.le_refl _), atL_swap (by omega) (by omega), if_pos rfl]
  refine ⟨heap_take ?_, hlast, ?_⟩
  · rcases Nat.eq_zero_or_pos n with rfl | hp
    · intro x h0 hx; omega
    · refine down_heap H _ _ _ (by omega) hp (by rw [swapL_length]; omega) ⟨fun x h0 hx hp hne => ?_, fun _ _ _ _ h => by omega⟩ (by omega)
      have hpx : par x < x := by unfold par; omega
      unfold Rel
      rw [hsw x hne hx, hsw (par x) hp (by omega)]
      exact h x h0 (by omega)
  · have := perm_last hlen
    rw [hlast] at this
    exact this.trans ((downL_perm _ _ _ (by rw [swapL_length]; omega) (by rw [swapL_length]; omega)).trans (swapL_perm (by omega) (by omega)))

/-- Where the item is ahead of its parent, down leaves all as it is. -/
theorem down_still (H : Ordered lt) {n i f : Nat} {l : List α} (hd : HeapD lt l n i) (h0 : 0 < i) (hlt : lt (atL l i) (atL l (par i)) = true) : downL lt n f l i = (l, i) := by
  cases f with
  | zero => rfl
  | succ f =>
    unfold downL
    split
    · rfl
    · rename_i hb
      obtain ⟨k1, k2, k3⟩ := kid_lt (lt := lt) (l := l) hb
      have := hd.2 (kid lt n l i) (by omega) k3 k1 h0
      rw [if_neg]
      rw [H.trans _ _ _ (H.asymm _ _ hlt) this]
      simp

/-- What Remove does ahead of its Pop. -/
def remL (lt : α → α → Bool) (n : Nat) (l : List α) (i : Nat) : List α :=
  if n = i then l else if i < (downL lt n n (swapL l i n) i).2 then (downL lt n n (swapL l i n) i).1 else upL lt i (downL lt n n (swapL l i n) i).1 i

theorem remove_heap (H : Ordered lt) {l : List α} {n i : Nat} (hl : l.length = n + 1) (hi : i ≤ n) (h : HeapN lt l (n + 1)) :
    HeapN lt ((remL lt n l i).take n) n ∧ (remL lt n l i).length = n + 1 ∧ atL (remL lt n l i) n = atL l i ∧ (atL l i :: (remL lt n l i).take n).Perm l := by
  have key : HeapN lt (remL lt n l i) n ∧ (remL lt n l i).length = n + 1 ∧ atL (remL lt n l i) n = atL l i ∧ (remL lt n l i).Perm l := by
    unfold remL
    split
    · rename_i e
      subst e
      exact ⟨fun x h0 hx => h x h0 (by omega), hl, rfl, List.Perm.refl _⟩
    · rename_i e
      have hin : i < n := by omega
      have hsw : ∀ x, x ≠ i → x < n → atL (swapL l i n) x = atL l x := fun x h0 hx => by rw [atL_swap (by omega) (by omega), if_neg (by omega), if_neg h0]
      have hsl : (swapL l i n).length = n + 1 := by rw [swapL_length]; exact hl
      have hsn : atL (swapL l i n) n = atL l i := by rw [atL_swap (by omega) (by omega), if_pos rfl]
      have hlen : (downL lt n n (swapL l i n) i).1.length = n + 1 := by rw [downL_length]; exact hsl
      have hlast : atL (downL lt n n (swapL l i n) i).1 n = atL l i := by rw [downL_behind _ _ _ (by omega) hin n (Nat.le_refl _), hsn]
      have hperm : (downL lt n n (swapL l i n) i).1.Perm l := (downL_perm _ _ _ (by omega) (by omega)).trans (swapL_perm (by omega) (by omega))
      have hD : HeapD lt (swapL l i n) n i := by
        refine ⟨fun x h0 hx hp hne => ?_, fun x h0 hx hp hi0 => ?_⟩
        · have hpx : par x < x := by unfold par; omega
          unfold Rel
          rw [hsw x hne hx, hsw (par x) hp (by omega)]
          exact h x h0 (by omega)
        · have hpx : par x < x := by unfold par; omega
          have hpi : par i < i := by unfold par; omega
          rw [hsw x (by omega) hx, hsw (par i) (by omega) (by omega)]
          have a1 := h x h0 (by omega)
          have a2 := h i hi0 (by omega)
          unfold Rel at a1 a2
          rw [hp] at a1
          exact H.trans _ _ _ a2 a1
      have up_ok : HeapU lt (downL lt n n (swapL l i n) i).1 n i → HeapN lt (upL lt i (downL lt n n (swapL l i n) i).1 i) n ∧ (upL lt i (downL lt n n (swapL l i n) i).1 i).length = n + 1 ∧ atL (upL lt i (downL lt n n (swapL l i n) i).1 i) n = atL l i ∧ (upL lt i (downL lt n n (swapL l i n) i).1 i).Perm l := fun hU =>
        ⟨up_heap H _ _ _ (Nat.le_refl _) hin (by omega) hU, by rw [upL_length]; exact hlen, by rw [upL_behind _ _ _ (by omega) n hin]; exact hlast, (upL_perm _ _ _ (by omega)).trans hperm⟩
      by_cases hr : 0 < i ∧ lt (atL (swapL l i n) i) (atL (swapL l i n) (par i)) = true
      · have hst := down_still H (f := n) hD hr.1 hr.2
        rw [if_neg (by rw [hst]; simp)]
        refine up_ok ?_
        rw [hst]
        refine ⟨fun x h0 hx hne => ?_, fun x h0 hx hp hi0 => hD.2 x h0 hx hp hi0⟩
        by_cases hp : par x = i
        · unfold Rel
          rw [hp]
          exact H.trans _ _ _ (H.asymm _ _ hr.2) (hD.2 x h0 hx hp hr.1)
        · exact hD.1 x h0 hx hp hne
      · have hN := down_heap H n (swapL l i n) i (by omega) hin (by omega) hD (fun h0 => by
          unfold Rel
          cases hc : lt (atL (swapL l i n) i) (atL (swapL l i n) (par i))
          · rfl
          · exact absurd ⟨h0, hc⟩ hr)
        split
        · exact ⟨hN, hlen, hlast, hperm⟩
        · refine up_ok ⟨fun x h0 hx _ => hN x h0 hx, fun x h0 hx hp hi0 => ?_⟩
          have a1 := hN x h0 hx
          have a2 := hN i hi0 hin
          unfold Rel at a1 a2
          rw [hp] at a1
          exact H.trans _ _ _ a2 a1
  obtain ⟨k1, k2, k3, k4⟩ := key
  refine ⟨heap_take k1, k2, k3, ?_⟩
  have := perm_last k2
  rw [k3] at this
  exact this.trans k4

end
end Go.Proofs.Ytgcnmhlojfncpaa
