/- Own laws over any program: a region that draws its order, of which a first part only reads and all else waits for all of it ('x, y = y, x'). -/
import Derived.Test.YthppjkpejnaocaaReg2
namespace Go.Proofs.Ythppjkpejnaocaa
set_option linter.unusedVariables false

section
variable {P : Program} {ops : Array Oper} {Q : Exit → Act → World → Prop} {md : Region.Mode} {S : World → Prop}

def allIn (is : List Nat) (listed : Array Bool) : Bool := is.all fun i => listed.getD i false

/-- Whatever order is picked, till all of 'is' have come up; the world stays. -/
def wpPre (P : Program) (md : Region.Mode) (ops : Array Oper) (Q : Exit → Act → World → Prop) (is : List Nat) (R : Array Bool → Act → Prop) (w : World) : Nat → Array Bool → Act → Prop
  | 0, listed, a => allIn is listed = true ∧ R listed a
  | m + 1, listed, a => allIn is listed = false ∧ (∀ i ∈ Region.ready md ops listed, i ∈ is) ∧ Region.ready md ops listed ≠ [] ∧
      ∀ i ∈ Region.ready md ops listed, wpOp P ops Q i (fun a' w' => w' = w ∧ wpPre P md ops Q is R w m (listed.setIfInBounds i true) a') a w

theorem ready_unlisted {i : Nat} {listed : Array Bool} (h : i ∈ Region.ready md ops listed) : listed.getD i true = false := (mem_ready.1 h).1
theorem getD_false_of_true {i : Nat} {listed : Array Bool} (h : listed.getD i true = false) : listed.getD i false = false := by
  rcases Nat.lt_or_ge i listed.size with h' | h'
  · simp [h'] at h ⊢; exact h
  · simp [Array.getElem?_eq_none h'] at h

theorem allIn_set {is : List Nat} {i : Nat} {listed : Array Bool} {j : Nat} (h : allIn is (listed.setIfInBounds i true) = true) (hj : j ∈ is) (hne : j ≠ i) : listed.getD j false = true := by
  have := (List.all_eq_true.1 h) j hj
  rwa [getD_set_ne false (Ne.symm hne)] at this

theorem wpPre_first {is : List Nat} {R : Array Bool → Act → Prop} {w : World} {i : Nat} {oi : Oper} {v : Value} (hi : ops[i]? = some oi) (hsel : ∀ (j : Nat) (o : Oper) cs b, ops[j]? = some o → o.op ≠ .select cs b)
    (hQ : ∀ c a w, Q (.panic c) (a.put oi.dst v) w → Q (.panic c) a w) (his : i ∈ is) :
    ∀ (m : Nat) (listed : Array Bool) (a : Act),
      (∀ j oj, ops[j]? = some oj → j ≠ i → listed.getD j true = false → (∀ e ∈ oj.after, Region.binds md e = true → e.on ≠ i) → oi.apart ops oj = true) →
      (∀ j oj, ops[j]? = some oj → listed.getD j true = false → j ∉ is → ∃ e ∈ oj.after, Region.binds md e = true ∧ e.on = i) →
      i ∈ Region.ready md ops listed → YieldsIf P ops (fun x => x = w) oi v a →
      wpPre P md ops Q is R w m (listed.setIfInBounds i true) (a.put oi.dst v) → wpPre P md ops Q is R w (m + 1) listed a := by
  intro m
  induction m with
  | zero =>
    intro listed a hfree hph hr hy H
    have hun := ready_unlisted hr
    have hjis : ∀ j ∈ Region.ready md ops listed, j ∈ is := by
      intro j hj
      by_cases hji : j ∈ is
      · exact hji
      · obtain ⟨hjun, oj, hoj, hall⟩ := mem_ready.1 hj
        obtain ⟨e, he, hb, ho⟩ := hph j oj hoj hjun hji
        have := hall e he hb
        rw [ho, getD_false_of_true hun] at this
        cases this
    refine ⟨?_, hjis, fun h => (by rw [h] at hr; cases hr), fun j hj => ?_⟩
    · cases hc : allIn is listed
      · rfl
      · have := (List.all_eq_true.1 hc) i his
        rw [getD_false_of_true hun] at this
        cases this
    · by_cases hji : j = i
      · subst hji
        exact hy.wpOp hi rfl ⟨rfl, H⟩
      · have := allIn_set H.1 (hjis j hj) hji
        have h2 := getD_false_of_true (ready_unlisted hj)
        rw [h2] at this
        cases this
  | succ m ih =>
    intro listed a hfree hph hr hy H
    have hun := ready_unlisted hr
    have hjis : ∀ j ∈ Region.ready md ops listed, j ∈ is := by
      intro j hj
      by_cases hji : j ∈ is
      · exact hji
      · obtain ⟨hjun, oj, hoj, hall⟩ := mem_ready.1 hj
        obtain ⟨e, he, hb, ho⟩ := hph j oj hoj hjun hji
        have := hall e he hb
        rw [ho, getD_false_of_true hun] at this
        cases this
    refine ⟨?_, hjis, fun h => (by rw [h] at hr; cases hr), fun j hj => ?_⟩
    · cases hc : allIn is listed
      · rfl
      · have := (List.all_eq_true.1 hc) i his
        rw [getD_false_of_true hun] at this
        cases this
    · by_cases hji : j = i
      · subst hji
        exact hy.wpOp hi rfl ⟨rfl, H⟩
      · have h1 := H.2.2.2 j (ready_mono hj hji)
        obtain ⟨hjun, oj, hoj, hall⟩ := mem_ready.1 hj
        have hnot : ∀ e ∈ oj.after, Region.binds md e = true → e.on ≠ i := fun e he hb heq => by
          have h1 := hall e he hb
          rw [heq, getD_false_of_true hun] at h1
          cases h1
        have h2 := wpOp_putIf hoj (hfree j oj hoj hji hjun hnot) (fun cs b => hsel i oi cs b hi) (fun cs b => hsel j oj cs b hoj) hQ hy h1
        have keepUn : ∀ k, (listed.setIfInBounds j true).getD k true = false → listed.getD k true = false := fun k hun' => by
          by_cases hjk : j = k
          · subst hjk; exact hjun
          · rw [getD_set_ne true hjk] at hun'; exact hun'
        refine wpOp_mono (fun a' w' h3 => ?_) h2
        obtain ⟨h3, h4, h5⟩ := h3
        refine ⟨h4, ih (listed.setIfInBounds j true) a' (fun k ok hk hki hun' hno => hfree k ok hk hki (keepUn k hun') hno) (fun k ok hk hun' hno => hph k ok hk (keepUn k hun') hno) (ready_mono hr (Ne.symm hji)) h3 ?_⟩
        rw [Array.setIfInBounds_comm _ _ hji]
        exact h5

theorem wpAnyH_of_pre {is : List Nat} {w : World} {fuel : Nat} (hS : S w) : ∀ (m : Nat) (listed : Array Bool) (a : Act),
    wpPre P md ops Q is (fun listed' a' => wpAnyH P md ops Q S fuel listed' a' w) w m listed a → wpAnyH P md ops Q S (fuel + m) listed a w
  | 0, _, _, h => h.2
  | m + 1, listed, a, h => ⟨fun h0 => absurd h0 h.2.2.1, fun i hi => wpOp_mono (fun a' w' ⟨hw, hp⟩ => by subst hw; exact ⟨hS, wpAnyH_of_pre hS m _ a' hp⟩) (h.2.2.2 i hi)⟩

/-- All that is not of 'is' waits for all of it. -/
def phaseB (md : Region.Mode) (ops : Array Oper) (is : List Nat) (listed : Array Bool) : Bool :=
  (List.range ops.size).all fun k => listed.getD k true || is.contains k || ((ops[k]?).map fun o => is.all fun i => o.after.any fun e => Region.binds md e && e.on == i).getD false

theorem phaseB_spec {is : List Nat} {listed : Array Bool} (h : phaseB md ops is listed = true) {i : Nat} (hi : i ∈ is) : ∀ j oj, ops[j]? = some oj → listed.getD j true = false → j ∉ is → ∃ e ∈ oj.after, Region.binds md e = true ∧ e.on = i := by
  intro j oj hoj hun hnot
  have hj := (List.all_eq_true.1 h) j (by simpa using (Array.getElem?_eq_some_iff.1 hoj).1)
  rw [hoj] at hj
  simp only [Bool.or_eq_true, hun, Bool.false_eq_true, false_or, Option.map_some, Option.getD_some] at hj
  rcases hj with hj | hj
  · exact absurd (by simpa using hj) hnot
  · have := (List.all_eq_true.1 hj) i hi
    obtain ⟨e, he, hb⟩ := Array.any_eq_true'.1 this
    simp only [Bool.and_eq_true, beq_iff_eq] at hb
    exact ⟨e, he, hb.1, hb.2⟩

/-- The reads of the first part, walked once. -/
theorem wpPre_seg {all : List Nat} {R : Array Bool → Act → Prop} {w : World} (hs : Region.noSelect ops = true) (hQ : ∀ c a w t v, Q (.panic c) (Act.put a (some t) v) w → Q (.panic c) a w) : ∀ (is : List Nat) (l : List Oper) (listed : Array Bool) (a : Act),
    is.filterMap (fun i => ops[i]?) = l → segB md ops is listed = true → (∀ i ∈ is, i ∈ all) → (∀ i ∈ all, ∀ j oj, ops[j]? = some oj → listed.getD j true = false → j ∉ all → ∃ e ∈ oj.after, Region.binds md e = true ∧ e.on = i) →
    allIn all (listAll is listed) = true → wpQuiet P ops (fun x => x = w) (fun a' => R (listAll is listed) a') l a → wpPre P md ops Q all R w is.length listed a
  | [], l, listed, a, hl, _, _, _, hall, h => by
    simp at hl
    subst hl
    exact ⟨hall, h⟩
  | i :: is, l, listed, a, hl, hB, hsub, hph, hall, h => by
    simp only [segB, Bool.and_eq_true] at hB
    obtain ⟨⟨⟨hr, hf⟩, hcalm⟩, hB'⟩ := hB
    cases hi : ops[i]? with
    | none => rw [hi] at hcalm; simp at hcalm
    | some o =>
      rw [hi] at hcalm
      simp at hcalm
      rw [List.filterMap_cons, hi] at hl
      subst hl
      have hq : ∀ v : Value, ∀ c a w, Q (.panic c) (Act.put a o.dst v) w → Q (.panic c) a w := by
        intro v c a w hx
        cases hd : o.dst with
        | none => rw [hd] at hx; exact hx
        | some t => rw [hd] at hx; exact hQ c a w t v hx
      have hia := hsub i (by simp)
      have hph' : ∀ k ∈ all, ∀ j oj, ops[j]? = some oj → (listed.setIfInBounds i true).getD j true = false → j ∉ all → ∃ e ∈ oj.after, Region.binds md e = true ∧ e.on = k := by
        intro k hk j oj hoj hun hnot
        refine hph k hk j oj hoj ?_ hnot
        have hne : i ≠ j := by rintro rfl; exact hnot hia
        rwa [getD_set_ne true hne] at hun
      simp only [wpQuiet] at h
      by_cases hw : Region.wanted o (yielded ops a.tmps) = true
      · rw [if_pos hw] at h
        obtain ⟨v, h1, h2⟩ := h
        exact wpPre_first hi (Region.noSelect_spec hs) (hq v) hia is.length listed a (Region.free_spec hi hf) (hph i hia) (by simpa using hr) (yieldsIf_of_quiet hcalm hw h1) (wpPre_seg hs hQ is _ _ _ rfl hB' (fun k hk => hsub k (by simp [hk])) hph' hall h2)
      · rw [if_neg hw] at h
        exact wpPre_first hi (Region.noSelect_spec hs) (hq undef) hia is.length listed a (Region.free_spec hi hf) (hph i hia) (by simpa using hr) (.inr ⟨by simpa using hw, rfl⟩) (wpPre_seg hs hQ is _ _ _ rfl hB' (fun k hk => hsub k (by simp [hk])) hph' hall h)

theorem wpPhase (is : List Nat) (fuel : Nat) {l : List Oper} {n : Nat} {listed : Array Bool} {a : Act} {w : World} (hn : n = fuel + is.length) (hl : is.filterMap (fun i => ops[i]?) = l)
    (hB : (Region.noSelect ops && segB md ops is listed && phaseB md ops is listed && allIn is (listAll is listed)) = true) (hQ : ∀ c a w t v, Q (.panic c) (Act.put a (some t) v) w → Q (.panic c) a w) (hSw : S w)
    (h : wpQuiet P ops (fun x => x = w) (fun a' => wpAnyH P md ops Q S fuel (listAll is listed) a' w) l a) : wpAnyH P md ops Q S n listed a w := by
  simp only [Bool.and_eq_true] at hB
  obtain ⟨⟨⟨hB1, hB2⟩, hB3⟩, hB4⟩ := hB
  subst hn
  exact wpAnyH_of_pre hSw is.length listed a (wpPre_seg hB1 hQ is l listed a hl hB2 (fun i hi => hi) (fun i hi => phaseB_spec hB3 hi) hB4 h)

end
end Go.Proofs.Ythppjkpejnaocaa
