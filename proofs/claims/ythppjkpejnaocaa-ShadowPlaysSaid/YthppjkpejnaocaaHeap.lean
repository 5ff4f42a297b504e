/- Plain: a binary heap in a list, as container/heap keeps it; no program in sight. -/
import Derived.Test.YthppjkpejnaocaaKit
namespace Go.Proofs.Ythppjkpejnaocaa
set_option linter.unusedVariables false

section
variable {α : Type} [Inhabited α] (lt : α → α → Bool)

/-- What the order is to be. -/
structure Ordered : Prop where
  asymm : ∀ a b, lt a b = true → lt b a = false
  trans : ∀ a b c, lt b a = false → lt c b = false → lt c a = false

def atL (l : List α) (i : Nat) : α := l.getD i default
def swapL (l : List α) (i k : Nat) : List α := (l.set i (atL l k)).set k (atL l i)
def par (i : Nat) : Nat := (i - 1) / 2

theorem swapL_length (l : List α) (i k : Nat) : (swapL l i k).length = l.length := by simp [swapL]
theorem atL_eq {l : List α} {i : Nat} (h : i < l.length) : atL l i = l[i] := by simp [atL, List.getD, List.getElem?_eq_getElem h]
theorem atL_swap {l : List α} {i k : Nat} (hi : i < l.length) (hk : k < l.length) (x : Nat) : atL (swapL l i k) x = if x = k then atL l i else if x = i then atL l k else atL l x := by
  unfold swapL
  by_cases h1 : x = k
  · subst h1
    rw [if_pos rfl, atL, List.getD, List.getElem?_set_self (by simpa using hk)]
    rfl
  · rw [if_neg h1, atL, List.getD, List.getElem?_set_ne (fun h => h1 h.symm)]
    by_cases h2 : x = i
    · subst h2
      rw [if_pos rfl, List.getElem?_set_self hi]
      rfl
    · rw [if_neg h2, List.getElem?_set_ne (fun h => h2 h.symm)]
      rfl
theorem swapL_perm {l : List α} {i k : Nat} (hi : i < l.length) (hk : k < l.length) : (swapL l i k).Perm l := by
  unfold swapL
  rw [atL_eq hi, atL_eq hk]
  exact List.set_set_perm hi hk

/-- No element is ahead of its parent. -/
def Rel (l : List α) (x : Nat) : Prop := lt (atL l x) (atL l (par x)) = false
def HeapN (l : List α) (n : Nat) : Prop := ∀ x, 0 < x → x < n → Rel lt l x
/-- But at j, which may be ahead of its parent. -/
def HeapU (l : List α) (n j : Nat) : Prop := (∀ x, 0 < x → x < n → x ≠ j → Rel lt l x) ∧ ∀ x, 0 < x → x < n → par x = j → 0 < j → lt (atL l x) (atL l (par j)) = false
/-- But at i, of which its children may be ahead. -/
def HeapD (l : List α) (n i : Nat) : Prop := (∀ x, 0 < x → x < n → par x ≠ i → x ≠ i → Rel lt l x) ∧ ∀ x, 0 < x → x < n → par x = i → 0 < i → lt (atL l x) (atL l (par i)) = false

/-- container/heap's up. -/
def upL : Nat → List α → Nat → List α
  | 0, l, _ => l
  | f + 1, l, j => if par j = j then l else if lt (atL l j) (atL l (par j)) then upL f (swapL l (par j) j) (par j) else l
/-- The child that is ahead. -/
def kid (n : Nat) (l : List α) (i : Nat) : Nat := if 2 * i + 2 < n ∧ lt (atL l (2 * i + 2)) (atL l (2 * i + 1)) = true then 2 * i + 2 else 2 * i + 1
/-- .. and its down: the list, and where it ended. -/
def downL (n : Nat) : Nat → List α → Nat → List α × Nat
  | 0, l, i => (l, i)
  | f + 1, l, i =>
    if n ≤ 2 * i + 1 then (l, i) else
    if lt (atL l (kid lt n l i)) (atL l i) then downL n f (swapL l i (kid lt n l i)) (kid lt n l i) else (l, i)

variable {lt}
theorem kid_lt {n i : Nat} {l : List α} (h : ¬ n ≤ 2 * i + 1) : par (kid lt n l i) = i ∧ i < kid lt n l i ∧ kid lt n l i < n := by
  unfold kid par
  split <;> omega
theorem kid_min (H : Ordered lt) {n i : Nat} {l : List α} : ∀ x, 0 < x → x < n → par x = i → lt (atL l x) (atL l (kid lt n l i)) = false := by
  intro x h0 hx hpx
  have hself : ∀ a : α, lt a a = false := fun a => by
    cases hs : lt a a
    · rfl
    · have := H.asymm _ _ hs; rw [hs] at this; exact this
  have hx2 : x = 2 * i + 1 ∨ x = 2 * i + 2 := by unfold par at hpx; omega
  unfold kid
  by_cases hc : 2 * i + 2 < n ∧ lt (atL l (2 * i + 2)) (atL l (2 * i + 1)) = true
  · rw [if_pos hc]
    rcases hx2 with rfl | rfl
    · exact H.asymm _ _ hc.2
    · exact hself _
  · rw [if_neg hc]
    rcases hx2 with rfl | rfl
    · exact hself _
    · cases hs : lt (atL l (2 * i + 2)) (atL l (2 * i + 1))
      · rfl
      · exact absurd ⟨hx, hs⟩ hc
theorem upL_length : ∀ (f : Nat) (l : List α) (j : Nat), (upL lt f l j).length = l.length
  | 0, _, _ => rfl
  | f + 1, l, j => by
    unfold upL
    split
    · rfl
    · split
      · rw [upL_length f, swapL_length]
      · rfl
theorem upL_perm : ∀ (f : Nat) (l : List α) (j : Nat), j < l.length → (upL lt f l j).Perm l
  | 0, _, _, _ => List.Perm.refl _
  | f + 1, l, j, hj => by
    have hp : par j < l.length := by unfold par; omega
    unfold upL
    split
    · exact List.Perm.refl _
    · split
      · exact (upL_perm f _ _ (by rw [swapL_length]; exact hp)).trans (swapL_perm hp hj)
      · exact List.Perm.refl _
theorem downL_length {n : Nat} : ∀ (f : Nat) (l : List α) (i : Nat), (downL lt n f l i).1.length = l.length
  | 0, _, _ => rfl
  | f + 1, l, i => by
    unfold downL
    split
    · rfl
    · split
      · rw [downL_length f, swapL_length]
      · rfl
theorem downL_perm {n : Nat} : ∀ (f : Nat) (l : List α) (i : Nat), n ≤ l.length → i < l.length → (downL lt n f l i).1.Perm l
  | 0, _, _, _, _ => List.Perm.refl _
  | f + 1, l, i, hn, hi => by
    unfold downL
    split
    · exact List.Perm.refl _
    · rename_i hb
      have hj : kid lt n l i < l.length := by have := kid_lt (lt := lt) (l := l) hb; omega
      split
      · exact (downL_perm f _ _ (by rw [swapL_length]; exact hn) (by rw [swapL_length]; exact hj)).trans (swapL_perm hi hj)
      · exact List.Perm.refl _
/-- What lies behind n stays. -/
theorem downL_behind {n : Nat} : ∀ (f : Nat) (l : List α) (i : Nat), n ≤ l.length → i < n → ∀ x, n ≤ x → atL (downL lt n f l i).1 x = atL l x
  | 0, _, _, _, _, _, _ => rfl
  | f + 1, l, i, hn, hi, x, hx => by
    unfold downL
    split
    · rfl
    · rename_i hb
      have hj : kid lt n l i < n := (kid_lt (lt := lt) (l := l) hb).2.2
      split
      · rw [downL_behind f _ _ (by rw [swapL_length]; exact hn) hj x hx, atL_swap (by omega) (by omega), if_neg (by omega), if_neg (by omega)]
      · rfl

theorem up_heap (H : Ordered lt) {n : Nat} : ∀ (f : Nat) (l : List α) (j : Nat), j ≤ f → j < n → n ≤ l.length → HeapU lt l n j → HeapN lt (upL lt f l j) n
  | 0, l, j, hf, hj, hn, hu => by
    intro x h0 hx
    exact hu.1 x h0 hx (by omega)
  | f + 1, l, j, hf, hj, hn, hu => by
    unfold upL
    split
    · rename_i hp
      intro x h0 hx
      exact hu.1 x h0 hx (by unfold par at hp; omega)
    · rename_i hp
      have hpj : par j < j := by unfold par at *; omega
      split
      · rename_i hlt
        refine up_heap H f _ _ (by omega) (by omega) (by rw [swapL_length]; exact hn) ⟨fun x h0 hx hne => ?_, fun x h0 hx hpx hp0 => ?_⟩
        · unfold Rel
          rw [atL_swap (by omega) (by omega), atL_swap (by omega) (by omega)]
          by_cases e1 : x = j
          · subst e1
            rw [if_pos rfl, if_neg (by omega), if_pos rfl]
            exact H.asymm _ _ hlt
          · rw [if_neg e1, if_neg hne]
            by_cases e2 : par x = j
            · rw [if_pos e2]
              exact hu.2 x h0 hx e2 (by omega)
            · rw [if_neg e2]
              by_cases e3 : par x = par j
              · rw [if_pos e3]
                have h1 := hu.1 x h0 hx e1
                unfold Rel at h1
                rw [e3] at h1
                exact H.trans _ _ _ (H.asymm _ _ hlt) h1
              · rw [if_neg e3]
                exact hu.1 x h0 hx e1
        · rw [atL_swap (by omega) (by omega), atL_swap (by omega) (by omega)]
          have hpp : par (par j) < par j := by
            revert hp0
            unfold par
            omega
          rw [if_neg (show par (par j) ≠ j by omega), if_neg (show par (par j) ≠ par j by omega)]
          have h2 := hu.1 (par j) hp0 (by omega) (by omega)
          by_cases e1 : x = j
          · rw [if_pos e1]
            exact h2
          · rw [if_neg e1]
            have hxp : x ≠ par j := by
              rintro rfl
              revert hpx
              unfold par at *
              omega
            rw [if_neg hxp]
            have h1 := hu.1 x h0 hx e1
            unfold Rel at h1 h2
            rw [hpx] at h1
            exact H.trans _ _ _ h2 h1
      · rename_i hlt
        intro x h0 hx
        by_cases e : x = j
        · subst e
          unfold Rel
          simpa using hlt
        · exact hu.1 x h0 hx e

theorem down_heap (H : Ordered lt) {n : Nat} : ∀ (f : Nat) (l : List α) (i : Nat), n ≤ f + i → i < n → n ≤ l.length → HeapD lt l n i → (0 < i → Rel lt l i) → HeapN lt (downL lt n f l i).1 n
  | 0, l, i, hf, hi, hn, hd, hr => by omega
  | f + 1, l, i, hf, hi, hn, hd, hr => by
    unfold downL
    split
    · intro x h0 hx
      by_cases e : x = i
      · subst e; exact hr h0
      · exact hd.1 x h0 hx (by unfold par; omega) e
    · rename_i hb
      obtain ⟨hjp, hij, hjn⟩ := kid_lt (lt := lt) (l := l) hb
      have hmin := kid_min H (n := n) (i := i) (l := l)
      generalize kid lt n l i = j at *
      split
      · rename_i hlt
        refine down_heap H f _ _ (by omega) hjn (by rw [swapL_length]; exact hn) ⟨fun x h0 hx hpx hne => ?_, fun x h0 hx hpx hp0 => ?_⟩ (fun h0 => ?_)
        · unfold Rel
          rw [atL_swap (by omega) (by omega), atL_swap (by omega) (by omega)]
          rw [if_neg hne, if_neg hpx]
          by_cases e1 : x = i
          · subst e1
            have hpi : par x ≠ x := by unfold par; omega
            rw [if_pos rfl, if_neg hpi]
            exact hd.2 j (by omega) hjn hjp h0
          · rw [if_neg e1]
            by_cases e2 : par x = i
            · rw [if_pos e2]
              exact hmin x h0 hx e2
            · rw [if_neg e2]
              exact hd.1 x h0 hx e2 e1
        · have hxj : x ≠ j := by rintro rfl; revert hpx; unfold par; omega
          have hxi : x ≠ i := by rintro rfl; revert hpx; unfold par; omega
          rw [hjp, atL_swap (by omega) (by omega), atL_swap (by omega) (by omega), if_neg hxj, if_neg hxi, if_neg (by omega), if_pos rfl]
          have := hd.1 x h0 hx (by omega) hxi
          unfold Rel at this
          rw [hpx] at this
          exact this
        · unfold Rel
          rw [hjp, atL_swap (by omega) (by omega), atL_swap (by omega) (by omega), if_pos rfl, if_neg (by omega), if_pos rfl]
          exact H.asymm _ _ hlt
      · rename_i hlt
        have hlt2 : lt (atL l j) (atL l i) = false := by simpa using hlt
        intro x h0 hx
        by_cases e : x = i
        · subst e; exact hr h0
        · by_cases e2 : par x = i
          · unfold Rel
            rw [e2]
            exact H.trans _ _ _ hlt2 (hmin x h0 hx e2)
          · exact hd.1 x h0 hx e2 e

end
end Go.Proofs.Ythppjkpejnaocaa
