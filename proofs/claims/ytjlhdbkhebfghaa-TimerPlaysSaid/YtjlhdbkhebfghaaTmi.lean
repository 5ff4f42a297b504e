/- Plain: the timers' numbers: which are used, and that no two timers have one. -/
import Derived.Test.YtjlhdbkhebfghaaTmw
namespace Go.Proofs.Ytjlhdbkhebfghaa
set_option linter.unusedVariables false

structure Ids (u : Nat → Bool) (l : List trIt) : Prop where
  rng : ∀ x ∈ l, ∃ k : Nat, k < 4 ∧ x.id = k ∧ u k = true
  all : ∀ k, k < 4 → u k = true → ∃ x ∈ l, x.id = k
  nodup : (l.map trIt.id).Nodup

theorem Ids.nil {u : Nat → Bool} (h : ∀ k, k < 4 → u k = false) : Ids u [] :=
  ⟨fun x hx => (by cases hx), fun k hk hu => (by rw [h k hk] at hu; cases hu), List.nodup_nil⟩
theorem Ids.perm {u : Nat → Bool} {l l' : List trIt} (h : Ids u l) (p : l'.Perm l) : Ids u l' :=
  ⟨fun x hx => h.rng x (p.subset hx), fun k hk hu => let ⟨x, hx, e⟩ := h.all k hk hu; ⟨x, p.symm.subset hx, e⟩, (p.map _).nodup_iff.2 h.nodup⟩
theorem Ids.arm {u : Nat → Bool} {l : List trIt} {k : Nat} {d s : Int} (h : Ids u l) (hk : k < 4) (hu : u k = false) : Ids (putU u k true) (l ++ [⟨d, s, k⟩]) := by
  refine ⟨fun x hx => ?_, fun j hj hu' => ?_, ?_⟩
  · rcases List.mem_append.1 hx with hx | hx
    · obtain ⟨j, hj, e, hu'⟩ := h.rng x hx
      refine ⟨j, hj, e, ?_⟩
      simp only [putU]
      split
      · rfl
      · exact hu'
    · rw [List.mem_singleton.1 hx]
      exact ⟨k, hk, rfl, by simp [putU]⟩
  · by_cases e : j = k
    · subst e
      exact ⟨_, List.mem_append_right _ (List.mem_singleton.2 rfl), rfl⟩
    · simp only [putU, if_neg e] at hu'
      obtain ⟨x, hx, e⟩ := h.all j hj hu'
      exact ⟨x, List.mem_append_left _ hx, e⟩
  · rw [List.map_append, List.nodup_append]
    refine ⟨h.nodup, by simp, fun a ha b hb => ?_⟩
    obtain ⟨x, hx, rfl⟩ := List.mem_map.1 ha
    simp only [List.map_cons, List.map_nil, List.mem_singleton] at hb
    subst hb
    obtain ⟨j, hj, e, hu'⟩ := h.rng x hx
    intro e2
    rw [e] at e2
    have : j = k := by omega
    subst this
    rw [hu] at hu'
    cases hu'
theorem Ids.ne_of {u : Nat → Bool} {l : List trIt} {x : trIt} (h : Ids u (x :: l)) : ∀ y ∈ l, y.id ≠ x.id := fun y hy e => by
  have := h.nodup
  rw [List.map_cons, List.nodup_cons] at this
  exact this.1 (e ▸ List.mem_map_of_mem hy)
theorem Ids.cancel {u : Nat → Bool} {l l' : List trIt} {x : trIt} {k : Nat} (h : Ids u l) (p : (x :: l').Perm l) (hx : x.id = k) : Ids (putU u k false) l' := by
  have h' := h.perm p
  refine ⟨fun y hy => ?_, fun j hj hu' => ?_, ?_⟩
  · obtain ⟨j, hj, e, hu⟩ := h'.rng y (List.mem_cons_of_mem _ hy)
    have hne := h'.ne_of y hy
    refine ⟨j, hj, e, ?_⟩
    simp only [putU]
    rw [if_neg]
    · exact hu
    · rintro rfl
      exact hne (e.trans hx.symm)
  · simp only [putU] at hu'
    split at hu'
    · cases hu'
    · rename_i hne
      obtain ⟨y, hy, e⟩ := h'.all j hj hu'
      rcases List.mem_cons.1 hy with rfl | hy
      · rw [hx] at e
        exact absurd (by omega) hne
      · exact ⟨y, hy, e⟩
  · have := h'.nodup
    rw [List.map_cons, List.nodup_cons] at this
    exact this.2
theorem offU_cons (u : Nat → Bool) (x : trIt) (xs : List trIt) (k : Nat) (hx : x.id = k) : offU u (x :: xs) = offU (putU u k false) xs := by
  funext i
  simp only [offU, putU, List.any_cons]
  by_cases h : i = k
  · subst h; simp [hx]
  · have : ¬ (x.id = (i : Int)) := by rw [hx]; omega
    simp [h, this]
theorem Ids.off : ∀ {xs : List trIt} {u : Nat → Bool} {l l' : List trIt}, Ids u l → (xs ++ l').Perm l → Ids (offU u xs) l'
  | [], u, l, l', h, p => by rw [offU_nil]; exact h.perm p
  | x :: xs, u, l, l', h, p => by
    obtain ⟨k, hk, e, hu⟩ := (h.perm p).rng x (List.mem_cons_self ..)
    rw [offU_cons u x xs k e]
    exact Ids.off (l := xs ++ l') (h.cancel p e) (List.Perm.refl _)
/-- How many are used. -/
def cntU (u : Nat → Bool) : Nat → Nat
  | 0 => 0
  | k + 1 => cntU u k + if u k then 1 else 0
theorem cntU_eq (u : Nat → Bool) : ∀ n, cntU u n = ((List.range n).filter u).length
  | 0 => rfl
  | n + 1 => by
    rw [cntU, cntU_eq u n, List.range_succ, List.filter_append, List.length_append]
    cases h : u n <;> simp [h]
theorem Ids.count {u : Nat → Bool} {l : List trIt} (h : Ids u l) : l.length = cntU u 4 := by
  have hp : (l.map trIt.id).Perm (((List.range 4).filter u).map fun k : Nat => (k : Int)) := by
    refine (List.perm_ext_iff_of_nodup h.nodup ?_).2 fun a => ?_
    · refine List.Pairwise.map _ (fun a b hab => ?_) ((List.nodup_range).filter u)
      omega
    · constructor
      · intro ha
        obtain ⟨x, hx, rfl⟩ := List.mem_map.1 ha
        obtain ⟨k, hk, e, hu⟩ := h.rng x hx
        exact List.mem_map.2 ⟨k, List.mem_filter.2 ⟨List.mem_range.2 hk, hu⟩, e.symm⟩
      · intro ha
        obtain ⟨k, hk, rfl⟩ := List.mem_map.1 ha
        obtain ⟨hk, hu⟩ := List.mem_filter.1 hk
        obtain ⟨x, hx, e⟩ := h.all k (List.mem_range.1 hk) hu
        exact List.mem_map.2 ⟨x, hx, e⟩
  have := hp.length_eq
  simpa [cntU_eq] using this
theorem Ids.rng' {u : Nat → Bool} {l : List trIt} (h : Ids u l) : ∀ x ∈ l, ∃ k : Nat, k < 4 ∧ x.id = k := fun x hx => let ⟨k, hk, e, _⟩ := h.rng x hx; ⟨k, hk, e⟩
theorem cntU_le (u : Nat → Bool) : ∀ n, cntU u n ≤ n
  | 0 => Nat.le_refl _
  | n + 1 => by
    have := cntU_le u n
    rw [cntU]
    split <;> omega
theorem Ids.le {u : Nat → Bool} {l : List trIt} (h : Ids u l) : l.length ≤ 4 := by rw [h.count]; exact cntU_le u 4
theorem freeU_spec (u : Nat → Bool) : (freeU u = 4 ∧ ∀ k, k < 4 → u k = true) ∨ (freeU u < 4 ∧ u (freeU u) = false ∧ ∀ k, k < freeU u → u k = true) := by
  cases h0 : u 0
  · have e : freeU u = 0 := by simp [freeU, h0]
    rw [e]
    exact .inr ⟨by omega, h0, fun k hk => by omega⟩
  · cases h1 : u 1
    · have e : freeU u = 1 := by simp [freeU, h0, h1]
      rw [e]
      refine .inr ⟨by omega, h1, fun k hk => ?_⟩
      obtain rfl : k = 0 := by omega
      exact h0
    · cases h2 : u 2
      · have e : freeU u = 2 := by simp [freeU, h0, h1, h2]
        rw [e]
        refine .inr ⟨by omega, h2, fun k hk => ?_⟩
        rcases (by omega : k = 0 ∨ k = 1) with rfl | rfl <;> assumption
      · cases h3 : u 3
        · have e : freeU u = 3 := by simp [freeU, h0, h1, h2, h3]
          rw [e]
          refine .inr ⟨by omega, h3, fun k hk => ?_⟩
          rcases (by omega : k = 0 ∨ k = 1 ∨ k = 2) with rfl | rfl | rfl <;> assumption
        · have e : freeU u = 4 := by simp [freeU, h0, h1, h2, h3]
          refine .inl ⟨e, fun k hk => ?_⟩
          rcases (by omega : k = 0 ∨ k = 1 ∨ k = 2 ∨ k = 3) with rfl | rfl | rfl | rfl <;> assumption

/-- No two of a row have one number. -/
theorem Ids.inj {u : Nat → Bool} {l : List trIt} (h : Ids u l) {i j : Nat} (hi : i < l.length) (hj : j < l.length) (e : (atL l i).id = (atL l j).id) : i = j := by
  have hp := List.pairwise_iff_getElem.1 h.nodup
  have key : ∀ a b, a < b → b < l.length → (atL l a).id ≠ (atL l b).id := fun a b hab hb => by
    have := hp a b (by simpa using (by omega : a < l.length)) (by simpa using hb) hab
    rw [List.getElem_map, List.getElem_map] at this
    rw [atL_eq (by omega), atL_eq hb]
    exact this
  rcases Nat.lt_trichotomy i j with h1 | h1 | h1
  · exact absurd e (key i j h1 hj)
  · exact h1
  · exact absurd e.symm (key j i h1 hi)
end Go.Proofs.Ytjlhdbkhebfghaa
