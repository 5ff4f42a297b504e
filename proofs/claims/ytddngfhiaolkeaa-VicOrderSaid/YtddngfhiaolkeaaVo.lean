/- law 28: the lines as VicOrder raises them (plain). -/
import Derived.Test.YtddngfhiaolkeaaVl
import Derived.Laws.BitsAllLaws
namespace Go.Proofs.Ytddngfhiaolkeaa
open Go.ChangeShapes Go.WideShapes Go.ChangeAt Go.RowKit
set_option linter.unusedVariables false

/-- The place of k in Q, from 1 on. -/
def plc (Q : List Nat) (k : Nat) : Nat := Q.idxOf k + 1
/-- Lines of which those of Q were raised, in its order. -/
def sF (Q : List Nat) (P : Nat → Int) (M : Nat → Bool) : Nat → vcLn := fun k => ⟨decide (k ∈ Q), M k, P k, if k ∈ Q then (plc Q k : Nat) else 0⟩
theorem sF_nil : vc0 = sF [] (fun _ => 0) (fun _ => false) := by
  funext k
  simp [vc0, sF]
theorem plc_old {Q : List Nat} {k n : Nat} (hk : k ∈ Q) : plc (Q ++ [n]) k = plc Q k := by
  unfold plc
  rw [List.idxOf_append, if_pos hk]
theorem plc_new {Q : List Nat} {n : Nat} (hn : n ∉ Q) : plc (Q ++ [n]) n = Q.length + 1 := by
  unfold plc
  rw [List.idxOf_append, if_neg hn]
  simp
theorem sF_raise {Q : List Nat} {P : Nat → Int} {M : Nat → Bool} {n : Nat} (hn : n ∉ Q) : putF (sF Q P M) n ⟨true, M n, P n, (Q.length + 1 : Nat)⟩ = sF (Q ++ [n]) P M := by
  funext k
  by_cases h : k = n
  · subst h
    rw [putF_at]
    simp only [sF, List.mem_append, List.mem_singleton, or_true, decide_true, if_true]
    rw [plc_new hn]
  · rw [putF_ne _ _ h]
    by_cases hk : k ∈ Q
    · simp only [sF, hk, List.mem_append, true_or, decide_true, if_true]
      rw [plc_old hk]
    · simp [sF, hk, h]
theorem sF_prio {Q : List Nat} {P : Nat → Int} {M : Nat → Bool} {n : Nat} {p : Int} : putF (sF Q P M) n ⟨decide (n ∈ Q), M n, p, if n ∈ Q then (plc Q n : Nat) else 0⟩ = sF Q (putF P n p) M := by
  funext k
  by_cases h : k = n
  · subst h; rw [putF_at]; simp [sF, putF]
  · rw [putF_ne _ _ h]; simp [sF, putF, h]
theorem sF_mask {Q : List Nat} {P : Nat → Int} {M : Nat → Bool} {n : Nat} {c : Bool} : putF (sF Q P M) n ⟨decide (n ∈ Q), c, P n, if n ∈ Q then (plc Q n : Nat) else 0⟩ = sF Q P (putF M n c) := by
  funext k
  by_cases h : k = n
  · subst h; rw [putF_at]; simp [sF, putF]
  · rw [putF_ne _ _ h]; simp [sF, putF, h]
theorem nW_sF : ∀ (Q : List Nat) (P : Nat → Int) (M : Nat → Bool), Q.Nodup → (∀ k ∈ Q, k < 8) → nW (sF Q P M) = Q.length := by
  intro Q P M hn h8
  have h1 : (waitL (sF Q P M) 8).Perm Q := by
    unfold waitL
    rw [List.perm_ext_iff_of_nodup (List.nodup_range.filter _) hn]
    intro k
    rw [List.mem_filter, List.mem_range]
    simp only [sF, decide_eq_true_eq]
    exact ⟨fun h => h.2, fun h => ⟨h8 k h, h⟩⟩
  exact h1.length_eq

/-- Those that are told, in their order. -/
def wantP (Q : List Nat) (P : Nat → Int) (M : Nat → Bool) (p : Int) : List Nat := Q.filter fun k => decide (P k = p) && !M k
def wantL (Q : List Nat) (P : Nat → Int) (M : Nat → Bool) : Nat → List Nat
  | 0 => []
  | j + 1 => wantL Q P M j ++ wantP Q P M (3 - (j : Int))
/-- a is ahead of b. -/
def aheadS (s : Nat → vcLn) (a b : Nat) : Prop := (s b).pr < (s a).pr ∨ (s b).pr = (s a).pr ∧ (s a).sn < (s b).sn
section
variable {Q : List Nat} {P : Nat → Int} {M : Nat → Bool}
theorem mem_wantP {p : Int} {k : Nat} : k ∈ wantP Q P M p ↔ k ∈ Q ∧ P k = p ∧ M k = false := by
  unfold wantP
  rw [List.mem_filter]
  simp
theorem mem_wantL : ∀ {j k : Nat}, k ∈ wantL Q P M j ↔ k ∈ Q ∧ M k = false ∧ 3 - (j : Int) < P k ∧ P k ≤ 3
  | 0, k => by simp [wantL] <;> omega
  | j + 1, k => by
    rw [wantL, List.mem_append, mem_wantL, mem_wantP]
    constructor
    · rintro (⟨h1, h2, h3, h4⟩ | ⟨h1, h2, h3⟩)
      · exact ⟨h1, h2, by omega, h4⟩
      · exact ⟨h1, h3, by omega, by omega⟩
    · rintro ⟨h1, h2, h3, h4⟩
      by_cases e : P k = 3 - (j : Int)
      · exact .inr ⟨h1, e, h2⟩
      · exact .inl ⟨h1, h2, by omega, h4⟩
theorem wantP_take {p : Int} {k : Nat} (hk : k < Q.length) : wantP (Q.take (k + 1)) P M p = if P (atL Q k) = p ∧ M (atL Q k) = false then wantP (Q.take k) P M p ++ [atL Q k] else wantP (Q.take k) P M p := by
  rw [take_succ_atL hk]
  unfold wantP
  rw [List.filter_append]
  by_cases h : P (atL Q k) = p ∧ M (atL Q k) = false
  · rw [if_pos h]; simp [h.1, h.2]
  · rw [if_neg h]
    have : (decide (P (atL Q k) = p) && !M (atL Q k)) = false := by
      cases hm : M (atL Q k)
      · simp; exact fun h2 => h ⟨h2, hm⟩
      · simp
    simp [this]
theorem wantP_le {p : Int} : (wantP Q P M p).length ≤ Q.length := List.length_filter_le ..
theorem wantL_le : ∀ j, (wantL Q P M j).length ≤ j * Q.length
  | 0 => by simp [wantL]
  | j + 1 => by
    rw [wantL, List.length_append, Nat.succ_mul]
    have := wantL_le j
    have := wantP_le (Q := Q) (P := P) (M := M) (p := 3 - (j : Int))
    omega
theorem plc_pairwise : ∀ {Q : List Nat}, Q.Nodup → Q.Pairwise fun a b => plc Q a < plc Q b := by
  intro Q hn
  rw [List.pairwise_iff_getElem]
  intro i j hi hj hij
  unfold plc
  rw [hn.idxOf_getElem i hi, hn.idxOf_getElem j hj]
  omega
theorem wantP_pairwise (hn : Q.Nodup) {p : Int} : (wantP Q P M p).Pairwise (aheadS (sF Q P M)) := by
  have h1 : (wantP Q P M p).Pairwise fun a b => plc Q a < plc Q b := (plc_pairwise hn).filter _
  refine h1.imp_of_mem fun ha hb hab => .inr ?_
  obtain ⟨a1, a2, _⟩ := mem_wantP.1 ha
  obtain ⟨b1, b2, _⟩ := mem_wantP.1 hb
  simp only [sF, a1, b1, if_true]
  exact ⟨by rw [a2, b2], by omega⟩
theorem wantL_pairwise (hn : Q.Nodup) : ∀ j, (wantL Q P M j).Pairwise (aheadS (sF Q P M))
  | 0 => List.Pairwise.nil
  | j + 1 => by
    rw [wantL, List.pairwise_append]
    refine ⟨wantL_pairwise hn j, wantP_pairwise hn, fun a ha b hb => .inl ?_⟩
    obtain ⟨_, _, h3, _⟩ := mem_wantL.1 ha
    obtain ⟨_, h5, _⟩ := mem_wantP.1 hb
    show P b < P a
    omega
theorem aheadS_ne {s : Nat → vcLn} {a b : Nat} (h : aheadS s a b) : a ≠ b := by
  rintro rfl
  unfold aheadS at h
  omega
end
/-- A bit. -/
theorem bit_two {a : Int} (n : Nat) (h0 : 0 ≤ a) (h1 : a ≤ 255) : bits .and .u8 (a / 2 ^ n) 1 = 0 ∨ bits .and .u8 (a / 2 ^ n) 1 = 1 := by
  have hp : (0 : Int) < 2 ^ n := Int.pow_pos (by omega)
  have h2 : 0 ≤ a / 2 ^ n := Int.ediv_nonneg h0 (Int.le_of_lt hp)
  have h3 : a / 2 ^ n ≤ a := Int.ediv_le_self _ h0
  rw [u8_and _ _ h2 (by omega) (by omega) (by omega)]
  have : (a / 2 ^ n).toNat &&& (1 : Int).toNat = (a / 2 ^ n).toNat % 2 := Nat.and_one_is_mod _
  rw [this]
  omega
/-- The first j of W are taken. -/
def taken (s : Nat → vcLn) (W : List Nat) (j : Nat) : Nat → vcLn := fun k => if k ∈ W.take j then ⟨false, (s k).ms, (s k).pr, (s k).sn⟩ else s k
theorem taken_zero (s : Nat → vcLn) (W : List Nat) : taken s W 0 = s := by
  funext k
  simp [taken]
theorem taken_succ {s : Nat → vcLn} {W : List Nat} {j : Nat} (hj : j < W.length) (hn : W.Nodup) : putF (taken s W j) (atL W j) ⟨false, (s (atL W j)).ms, (s (atL W j)).pr, (s (atL W j)).sn⟩ = taken s W (j + 1) := by
  funext k
  unfold taken
  have ht : W.take (j + 1) = W.take j ++ [atL W j] := take_succ_atL hj
  by_cases h : k = atL W j
  · subst h
    rw [putF_at, if_pos (by rw [ht]; simp)]
  · rw [putF_ne _ _ h]
    by_cases hk : k ∈ W.take j
    · rw [if_pos hk, if_pos (by rw [ht]; exact List.mem_append_left _ hk)]
    · rw [if_neg hk, if_neg (by rw [ht]; simp [hk, h])]
theorem not_taken {s : Nat → vcLn} {W : List Nat} {j : Nat} (hj : j < W.length) (hp : W.Pairwise (aheadS s)) : atL W j ∉ W.take j := by
  intro h
  obtain ⟨i, hi, he⟩ := mem_is_atL h
  have hi2 : i < j := by rw [List.length_take] at hi; omega
  have h1 := List.pairwise_iff_getElem.1 hp i j (by omega) hj hi2
  refine aheadS_ne h1 ?_
  rw [← atL_eq (by omega), ← atL_eq hj, he]
  rw [atL_eq hi, atL_eq (by omega)]
  simp
theorem taken_top {s : Nat → vcLn} {W : List Nat} {j : Nat} (hj : j < W.length) (hp : W.Pairwise (aheadS s)) (h8 : ∀ k ∈ W, k < 8) (hW : ∀ k, k < 8 → (isAct (s k) = true ↔ k ∈ W)) : Top (taken s W j) (atL W j) := by
  have hself : taken s W j (atL W j) = s (atL W j) := by unfold taken; rw [if_neg (not_taken hj hp)]
  have hmem : atL W j ∈ W := mem_atL hj
  refine ⟨h8 _ hmem, by rw [hself]; exact (hW _ (h8 _ hmem)).2 hmem, fun k hk ha hne => ?_⟩
  by_cases hkt : k ∈ W.take j
  · unfold taken at ha
    rw [if_pos hkt] at ha
    simp [isAct] at ha
  · have hks : taken s W j k = s k := by unfold taken; rw [if_neg hkt]
    rw [hks] at ha
    rw [hks, hself]
    obtain ⟨i, hi, rfl⟩ := mem_is_atL ((hW k hk).1 ha)
    have hij : j < i := by
      rcases Nat.lt_trichotomy i j with h | h | h
      · refine absurd ?_ hkt
        rw [List.mem_take_iff_getElem]
        exact ⟨i, by omega, by rw [atL_eq hi]⟩
      · subst h; exact absurd rfl hne
      · exact h
    have h1 := List.pairwise_iff_getElem.1 hp j i hj hi hij
    rw [← atL_eq hj, ← atL_eq hi] at h1
    exact h1
theorem taken_none {s : Nat → vcLn} {W : List Nat} (hW : ∀ k, k < 8 → (isAct (s k) = true ↔ k ∈ W)) : ∀ k, k < 8 → isAct (taken s W W.length k) = false := by
  intro k hk
  unfold taken
  rw [List.take_length]
  by_cases h : k ∈ W
  · rw [if_pos h]; rfl
  · rw [if_neg h]
    cases ha : isAct (s k)
    · rfl
    · exact absurd ((hW k hk).1 ha) h
theorem nW_taken {s : Nat → vcLn} {W : List Nat} (hp : W.Pairwise (aheadS s)) (h8 : ∀ k ∈ W, k < 8) (hw : ∀ k ∈ W, (s k).wt = true) (hnd : W.Nodup) : ∀ j, j ≤ W.length → nW (taken s W j) + j = nW s
  | 0, _ => by rw [taken_zero]; omega
  | j + 1, hj => by
    have ih := nW_taken hp h8 hw hnd j (by omega)
    rw [← taken_succ (by omega) hnd]
    have hm : atL W j ∈ W := mem_atL (by omega)
    have hself : taken s W j (atL W j) = s (atL W j) := by unfold taken; rw [if_neg (not_taken (by omega) hp)]
    have := nW_down (s := taken s W j) (n := atL W j) (x := ⟨false, (s (atL W j)).ms, (s (atL W j)).pr, (s (atL W j)).sn⟩) (h8 _ hm) (by rw [hself]; exact hw _ hm) rfl
    omega
theorem pairwise_nodup {s : Nat → vcLn} {W : List Nat} (hp : W.Pairwise (aheadS s)) : W.Nodup := hp.imp aheadS_ne
end Go.Proofs.Ytddngfhiaolkeaa
