/- Plain: slots, one behind the other; no program in sight. -/
import Derived.WalkKit
namespace Go.Proofs.Ytkicmdflflknaaa

/-- The steps of the first k slots. -/
def sumB (L : Nat → Int × Int) : Nat → Int
  | 0 => 0
  | k + 1 => sumB L k + (L k).2
def okSlot (p : Int × Int) : Prop := 0 ≤ p.1 ∧ p.1 < 4 ∧ 1 ≤ p.2 ∧ p.2 ≤ 32
instance (p : Int × Int) : Decidable (okSlot p) := inferInstanceAs (Decidable (_ ∧ _))
def okAll (L : Nat → Int × Int) (n : Nat) : Prop := ∀ i, i < n → okSlot (L i)
def okTab (L : Nat → Int × Int) (n : Nat) : Prop := 1 ≤ n ∧ n ≤ 8 ∧ okAll L n

theorem sumB_succ (L : Nat → Int × Int) (k : Nat) : sumB L (k + 1) = sumB L k + (L k).2 := rfl
theorem sumB_bound {L : Nat → Int × Int} {n : Nat} (h : okAll L n) : ∀ k, k ≤ n → (k : Int) ≤ sumB L k ∧ sumB L k ≤ 32 * k
  | 0, _ => by simp [sumB]
  | k + 1, hk => by
    have ih := sumB_bound h k (by omega)
    have := h k (by omega)
    unfold okSlot at this
    rw [sumB_succ]
    omega
theorem sumB_mono {L : Nat → Int × Int} {n : Nat} (h : okAll L n) : ∀ j k, j ≤ k → k ≤ n → sumB L j ≤ sumB L k := by
  intro j k hjk hk
  induction k with
  | zero => obtain rfl : j = 0 := by omega
            exact Int.le_refl _
  | succ k ih =>
    by_cases e : j = k + 1
    · subst e; exact Int.le_refl _
    · have := ih (by omega) (by omega)
      have := h k (by omega)
      unfold okSlot at this
      rw [sumB_succ]
      omega
/-- Whose a step of a frame is. -/
theorem find_slot {L : Nat → Int × Int} {n : Nat} (h : okAll L n) (k : Int) (h0 : 0 ≤ k) : ∀ m, m ≤ n → k < sumB L m → ∃ i, i < m ∧ sumB L i ≤ k ∧ k < sumB L (i + 1)
  | 0, _, hk => by simp [sumB] at hk; omega
  | m + 1, hm, hk => by
    by_cases hlt : k < sumB L m
    · obtain ⟨i, hi, h1, h2⟩ := find_slot h k h0 m (by omega) hlt
      exact ⟨i, by omega, h1, h2⟩
    · exact ⟨m, by omega, by omega, hk⟩

/-- A guest's steps among the first k slots. -/
def shareB (L : Nat → Int × Int) (g : Int) : Nat → Int
  | 0 => 0
  | k + 1 => if (L k).1 = g then shareB L g k + (L k).2 else shareB L g k
theorem shareB_succ (L : Nat → Int × Int) (g : Int) (k : Nat) : shareB L g (k + 1) = if (L k).1 = g then shareB L g k + (L k).2 else shareB L g k := rfl
theorem shareB_bound {L : Nat → Int × Int} {n : Nat} (g : Int) (h : okAll L n) : ∀ k, k ≤ n → 0 ≤ shareB L g k ∧ shareB L g k ≤ 32 * k
  | 0, _ => by simp [shareB]
  | k + 1, hk => by
    have ih := shareB_bound g h k (by omega)
    have := h k (by omega)
    unfold okSlot at this
    rw [shareB_succ]
    split <;> omega
theorem shares_sum {L : Nat → Int × Int} {n : Nat} (h : okAll L n) : ∀ k, k ≤ n → shareB L 0 k + shareB L 1 k + shareB L 2 k + shareB L 3 k = sumB L k
  | 0, _ => rfl
  | k + 1, hk => by
    have ih := shares_sum h k (by omega)
    have := h k (by omega)
    unfold okSlot at this
    simp only [shareB_succ, sumB_succ]
    have hc : (L k).1 = 0 ∨ (L k).1 = 1 ∨ (L k).1 = 2 ∨ (L k).1 = 3 := by omega
    rcases hc with e | e | e | e <;> simp [e] <;> omega
theorem share_pos {L : Nat → Int × Int} {n : Nat} (h : okAll L n) (i : Nat) : ∀ k, k ≤ n → i < k → 1 ≤ shareB L (L i).1 k
  | 0, _, hi => by omega
  | k + 1, hk, hi => by
    have hb := shareB_bound (L i).1 h k (by omega)
    have := h k (by omega)
    unfold okSlot at this
    rw [shareB_succ]
    by_cases e : i = k
    · subst e; simp; omega
    · have := share_pos h i k (by omega) (by omega)
      split <;> omega

/-- Step n is off steps into slot i of frame q. -/
def StepAt (L : Nat → Int × Int) (m : Nat) (n : Int) (q : Int) (i : Nat) (off : Int) : Prop := i < m ∧ 0 ≤ off ∧ off < (L i).2 ∧ 0 ≤ q ∧ n = q * sumB L m + (sumB L i + off)
theorem StepAt.parts {L : Nat → Int × Int} {m : Nat} {n q : Int} {i : Nat} {off : Int} (h : StepAt L m n q i off) (hok : okAll L m) : 0 ≤ n ∧ n % sumB L m = sumB L i + off ∧ n / sumB L m = q := by
  obtain ⟨h1, h2, h3, h4, h5⟩ := h
  have b0 := (sumB_bound hok i (by omega)).1
  have b1 := sumB_mono hok (i + 1) m (by omega) (by omega)
  rw [sumB_succ] at b1
  have hp : 0 < sumB L m := by have := (sumB_bound hok m (by omega)).1; omega
  have hlt : sumB L i + off < sumB L m := by omega
  subst h5
  have hq : 0 ≤ q * sumB L m := Int.mul_nonneg h4 (by omega)
  refine ⟨by omega, ?_, ?_⟩
  · rw [Int.add_comm, Int.add_mul_emod_self_right, Int.emod_eq_of_lt (by omega) hlt]
  · rw [Int.add_comm, Int.add_mul_ediv_right _ _ (by omega), Int.ediv_eq_zero_of_lt (by omega) hlt]
    omega
theorem StepAt.find {L : Nat → Int × Int} {m : Nat} (hok : okAll L m) (hm : 1 ≤ m) (n : Int) (hn : 0 ≤ n) : ∃ q i off, StepAt L m n q i off := by
  have hp : 0 < sumB L m := by have := (sumB_bound hok m (by omega)).1; omega
  have h1 := Int.emod_nonneg n (show sumB L m ≠ 0 by omega)
  have h2 := Int.emod_lt_of_pos n hp
  obtain ⟨i, hi, h3, h4⟩ := find_slot hok (n % sumB L m) h1 m (Nat.le_refl _) h2
  rw [sumB_succ] at h4
  refine ⟨n / sumB L m, i, n % sumB L m - sumB L i, hi, by omega, by omega, Int.ediv_nonneg hn (by omega), ?_⟩
  have := Int.mul_ediv_add_emod n (sumB L m)
  rw [Int.mul_comm]
  omega

end Go.Proofs.Ytkicmdflflknaaa
