/- Own laws over any program: in a drawn region, two new variables that alone may come up, in either order. -/
import Derived.Test.YthppjkpejnaocaaReg5
namespace Go.Proofs.Ythppjkpejnaocaa
set_option linter.unusedVariables false

section
variable {P : Program} {ops : Array Oper} {Q : Exit → Act → World → Prop} {md : Region.Mode} {S : World → Prop}

theorem wpTwoAlloc (i j fuel : Nat) {oi oj : Oper} {n : Nat} {listed : Array Bool} {a : Act} {w : World} (obi obj : Obj) (di dj : Tmp) (hn : n = fuel + 2) (hoi : ops[i]? = some oi) (hoj : ops[j]? = some oj)
    (hdi : oi.dst = some di) (hdj : oj.dst = some dj) (hne : di ≠ dj) (hgi : oi.guard = none) (hgj : oj.guard = none)
    (hr : Region.ready md ops listed = [i, j]) (hri : Region.ready md ops (listed.setIfInBounds i true) = [j]) (hrj : Region.ready md ops (listed.setIfInBounds j true) = [i])
    (hij : i ≠ j)
    (hei : ∀ (ρ : Operand → Value) w1, (execOp ρ oi).run P w1 = .ok (.value (.pointer (some ⟨w1.heap.size, 0, none⟩))) (w1.alloc obi)) (hej : ∀ (ρ : Operand → Value) w1, (execOp ρ oj).run P w1 = .ok (.value (.pointer (some ⟨w1.heap.size, 0, none⟩))) (w1.alloc obj))
    (hS : ∀ x, RowKit.Below w.heap.size w x → S x)
    (h : ∀ g1 g2 w', w.heap.size ≤ g1 → w.heap.size ≤ g2 → g1 ≠ g2 → RowKit.Below w.heap.size w w' → w'.heap[g1]? = some obi → w'.heap[g2]? = some obj →
      wpAnyH P md ops Q S fuel ((listed.setIfInBounds i true).setIfInBounds j true) ((a.put (some di) (.pointer (some ⟨g1, 0, none⟩))).put (some dj) (.pointer (some ⟨g2, 0, none⟩))) w') :
    wpAnyH P md ops Q S n listed a w := by
  have wi : ∀ a : Act, Region.wanted oi (yielded ops a.tmps) = true := fun a => by simp [Region.wanted, hgi]
  have wj : ∀ a : Act, Region.wanted oj (yielded ops a.tmps) = true := fun a => by simp [Region.wanted, hgj]
  subst hn
  have b1 : ∀ ob, RowKit.Below w.heap.size w (w.alloc ob) := fun ob => (RowKit.Below.refl _ _).alloc (Nat.le_refl _) _
  have b2 : ∀ ob ob', RowKit.Below w.heap.size w ((w.alloc ob).alloc ob') := fun ob ob' => (b1 ob).trans (((RowKit.Below.refl _ _).alloc (Nat.le_refl _) _).mono (b1 ob).size)
  have hs : ∀ ob, (w.alloc ob).heap.size = w.heap.size + 1 := fun ob => by simp
  have h1 : ∀ ob ob', ((w.alloc ob).alloc ob').heap[w.heap.size]? = some ob := fun ob ob' => (RowKit.Below.heap_alloc (w.alloc ob) ob' w.heap.size (by rw [hs]; omega)).trans (Go.heap_alloc_new w ob)
  have h2 : ∀ ob ob', ((w.alloc ob).alloc ob').heap[w.heap.size + 1]? = some ob' := fun ob ob' => by
    have := Go.heap_alloc_new (w.alloc ob) ob'
    rwa [hs] at this
  refine wpAnyH_all hr (by simp) fun k hk => ?_
  have hk2 : k = i ∨ k = j := by simpa using hk
  rcases hk2 with rfl | rfl
  · unfold wpOp
    simp only [hoi, wi, if_true]
    refine .inl ?_
    unfold Oper.wp
    rw [hei]
    simp only [Oper.upon]
    refine ⟨hS _ (b1 _), wpAnyH_all hri (by simp) fun k hk => ?_⟩
    obtain rfl : k = j := by simpa using hk
    unfold wpOp
    simp only [hoj, wj, if_true]
    refine .inl ?_
    unfold Oper.wp
    rw [hej]
    simp only [Oper.upon]
    refine ⟨hS _ (b2 _ _), ?_⟩
    rw [hdi, hdj]
    rw [hs]
    exact h w.heap.size (w.heap.size + 1) _ (Nat.le_refl _) (by omega) (by omega) (b2 _ _) (h1 _ _) (h2 _ _)
  · unfold wpOp
    simp only [hoj, wj, if_true]
    refine .inl ?_
    unfold Oper.wp
    rw [hej]
    simp only [Oper.upon]
    refine ⟨hS _ (b1 _), wpAnyH_all hrj (by simp) fun k hk => ?_⟩
    obtain rfl : k = i := by simpa using hk
    unfold wpOp
    simp only [hoi, wi, if_true]
    refine .inl ?_
    unfold Oper.wp
    rw [hei]
    simp only [Oper.upon]
    refine ⟨hS _ (b2 _ _), ?_⟩
    rw [hdi, hdj, Array.setIfInBounds_comm _ _ hij.symm, hs]
    have := h (w.heap.size + 1) w.heap.size ((w.alloc obj).alloc obi) (by omega) (Nat.le_refl _) (by omega) (b2 _ _) (h2 _ _) (h1 _ _)
    rw [Act.put_comm] at this
    · exact this
    · intro d hd e
      cases e
      cases hd
      exact hne rfl
end
end Go.Proofs.Ythppjkpejnaocaa
