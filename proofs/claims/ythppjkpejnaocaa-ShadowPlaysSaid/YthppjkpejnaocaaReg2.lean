/- Own laws over any program: a region that draws its order, with a call beside a new variable. -/
import Derived.Test.YthppjkpejnaocaaReg
namespace Go.Proofs.Ythppjkpejnaocaa
set_option linter.unusedVariables false

section
variable {P : Program} {ops : Array Oper} {Q : Exit → Act → World → Prop} {md : Region.Mode} {S : World → Prop}

theorem wpQuiet_mono {K K' : Act → Prop} (h : ∀ a, K a → K' a) : ∀ (l : List Oper) (a : Act), wpQuiet P ops S K l a → wpQuiet P ops S K' l a
  | [], a, hh => h a hh
  | o :: rest, a, hh => by
    simp only [wpQuiet] at hh ⊢
    split
    · rename_i hw; rw [if_pos hw] at hh; exact Oper.quiet_mono (wpQuiet_mono h rest) hh
    · rename_i hw; rw [if_neg hw] at hh; exact wpQuiet_mono h rest _ hh

theorem calm_noSelect {o : Oper} (hc : calm o = true) : ∀ cs b, o.op ≠ .select cs b := by
  intro cs b he
  unfold calm at hc
  rw [he] at hc
  cases hc

/-- What nobody looks at may stand there already. -/
theorem wpQuiet_put {oj : Oper} (x : Value) {K K' : Act → Prop} (h : ∀ a, K a → K' (a.put oj.dst x)) : ∀ (l : List Oper) (a : Act), (∀ o ∈ l, calm o = true ∧ oj.apart ops o = true) → wpQuiet P ops S K l a → wpQuiet P ops S K' l (a.put oj.dst x)
  | [], a, _, hh => h a hh
  | o :: rest, a, hl, hh => by
    obtain ⟨hc, hap⟩ := hl o (by simp)
    obtain ⟨h1, h2, h3⟩ := Oper.apart_spec hap
    have ih := fun a => wpQuiet_put x h rest a (fun o ho => hl o (by simp [ho]))
    simp only [wpQuiet] at hh ⊢
    rw [wanted_put (ops := ops) o a oj.dst x h1]
    split
    · rename_i hw
      rw [if_pos hw] at hh
      obtain ⟨v, hv, hn⟩ := hh
      refine ⟨v, fun w hw' => ?_, ?_⟩
      · have := hv w hw'
        unfold Oper.quietAt at *
        rwa [execOp_put (ops := ops) o (calm_noSelect hc) a oj.dst x h1]
      · rw [Act.put_comm a x v h2]
        exact ih _ hn
    · rename_i hw
      rw [if_neg hw] at hh
      rw [Act.put_comm a x undef h2]
      exact ih _ hh

theorem pick_mem {is : List Nat} {l : List Oper} (hl : is.filterMap (fun i => ops[i]?) = l) {p : Oper → Bool} (h : is.all (fun k => ((ops[k]?).map p).getD false) = true) : ∀ o ∈ l, p o = true := by
  intro o ho
  rw [← hl, List.mem_filterMap] at ho
  obtain ⟨k, hk, hko⟩ := ho
  have := (List.all_eq_true.1 h) k hk
  rw [hko] at this
  simpa using this

/-- A call that leaves all that was there as it was, and a new variable, in either order; what is read behind the call alone. -/
theorem wpCallAlloc (i j fuel : Nat) (is : List Nat) {oi oj : Oper} {l : List Oper} {n : Nat} {listed : Array Bool} {a : Act} {w : World} (f : FuncId) (args : Array Value) (v : Value) (ob : Obj) (di dj : Tmp) (hn : n = fuel + 1 + is.length + 1) (hoi : ops[i]? = some oi) (hoj : ops[j]? = some oj)
    (hl : is.filterMap (fun i => ops[i]?) = l) (hdi : oi.dst = some di) (hdj : oj.dst = some dj) (hgi : oi.guard = none) (hgj : oj.guard = none) (hsi : ∀ cs b, oi.op ≠ .select cs b)
    (hr : Region.ready md ops listed = [i, j]) (hri : Region.ready md ops (listAll is (listed.setIfInBounds i true)) = [j]) (hrj : Region.ready md ops (listed.setIfInBounds j true) = [i]) (hap : oj.apart ops oi = true)
    (hB : (Region.noSelect ops && segB md ops is (listed.setIfInBounds i true) && segB md ops is ((listed.setIfInBounds j true).setIfInBounds i true) && is.all (fun k => ((ops[k]?).map fun o => calm o && oj.apart ops o).getD false)) = true)
    (hL : listAll is ((listed.setIfInBounds j true).setIfInBounds i true) = (listAll is (listed.setIfInBounds i true)).setIfInBounds j true)
    (hQ : ∀ c a w t v, Q (.panic c) (Act.put a (some t) v) w → Q (.panic c) a w)
    (hei : ∀ w1, (execOp a.eval oi).run P w1 = .ok (.enter f args) w1) (hej : ∀ (ρ : Operand → Value) w1, (execOp ρ oj).run P w1 = .ok (.value (.pointer (some ⟨w1.heap.size, 0, none⟩))) (w1.alloc ob))
    (hS : ∀ x, RowKit.Below w.heap.size w x → S x) (hc : ∀ w1, RowKit.Below w.heap.size w w1 → Calls P f args w1 fun e w2 => e = .returned v ∧ RowKit.Below w1.heap.size w1 w2)
    (h : wpQuiet P ops S (fun a' => ∀ g w', w.heap.size ≤ g → RowKit.Below w.heap.size w w' → w'.heap[g]? = some ob → wpAnyH P md ops Q S fuel ((listAll is (listed.setIfInBounds i true)).setIfInBounds j true) (a'.put (some dj) (.pointer (some ⟨g, 0, none⟩))) w') l (a.put (some di) v)) :
    wpAnyH P md ops Q S n listed a w := by
  obtain ⟨h1, h2, h3⟩ := Oper.apart_spec hap
  rw [← hdi, ← hdj] at h
  have wi : ∀ a : Act, Region.wanted oi (yielded ops a.tmps) = true := fun a => by simp [Region.wanted, hgi]
  have wj : ∀ a : Act, Region.wanted oj (yielded ops a.tmps) = true := fun a => by simp [Region.wanted, hgj]
  simp only [Bool.and_eq_true] at hB
  obtain ⟨⟨⟨hB1, hB2⟩, hB3⟩, hB4⟩ := hB
  have hmem := pick_mem hl hB4
  subst hn
  refine wpAnyH_all hr (by simp) fun k hk => ?_
  have hk2 : k = i ∨ k = j := by simpa using hk
  rcases hk2 with rfl | rfl
  · unfold wpOp
    simp only [hoi, wi, if_true]
    refine .inl ?_
    unfold Oper.wp
    rw [hei]
    simp only [Oper.upon]
    refine (hc w (RowKit.Below.refl _ _)).mono ?_
    rintro e w2 ⟨rfl, hb⟩
    refine ⟨hS _ hb, wpSeg' hB1 hQ is l (fuel + 1) _ _ w2 hl hB2 (hS _ hb) (wpQuiet_mono (fun a' ha => ?_) l _ h)⟩
    refine wpAnyH_all hri (by simp) fun k hk => ?_
    obtain rfl : k = j := by simpa using hk
    unfold wpOp
    simp only [hoj, wj, if_true]
    refine .inl ?_
    unfold Oper.wp
    rw [hej]
    simp only [Oper.upon]
    have hb2 : RowKit.Below w.heap.size w (w2.alloc ob) := hb.trans (((RowKit.Below.refl _ _).alloc (Nat.le_refl _) _).mono hb.size)
    exact ⟨hS _ hb2, ha _ _ hb.size hb2 (Go.heap_alloc_new w2 ob)⟩
  · unfold wpOp
    simp only [hoj, wj, if_true]
    refine .inl ?_
    unfold Oper.wp
    rw [hej]
    simp only [Oper.upon]
    have hb1 : RowKit.Below w.heap.size w (w.alloc ob) := (RowKit.Below.refl _ _).alloc (Nat.le_refl _) _
    refine ⟨hS _ hb1, ?_⟩
    rw [show fuel + 1 + is.length = (fuel + is.length) + 1 by omega]
    refine wpAnyH_all hrj (by simp) fun k hk => ?_
    obtain rfl : k = i := by simpa using hk
    unfold wpOp
    simp only [hoi, wi, if_true]
    refine .inl ?_
    unfold Oper.wp
    rw [execOp_put (ops := ops) oi hsi a oj.dst _ h1, hei]
    simp only [Oper.upon]
    refine (hc _ hb1).mono ?_
    rintro e w2 ⟨rfl, hb⟩
    have hb2 : RowKit.Below w.heap.size w w2 := hb1.trans (hb.mono hb1.size)
    refine ⟨hS _ hb2, ?_⟩
    have hg : w2.heap[w.heap.size]? = some ob := (hb.block _ (by simp)).trans (Go.heap_alloc_new w ob)
    refine wpSeg' hB1 hQ is l fuel _ _ w2 hl hB3 (hS _ hb2) ?_
    rw [← Act.put_comm a v _ (fun d hd he => h2 d he hd)]
    refine wpQuiet_put (.pointer (some ⟨w.heap.size, 0, none⟩)) (fun a' ha => ?_) l _ (fun o ho => by have := hmem o ho; simpa using this) h
    rw [hL]
    exact ha _ _ (Nat.le_refl _) hb2 hg
end

/-- The class of worlds behind a call is a narrower one. -/
theorem later_narrow {W w1 : World} (hb : RowKit.Below W.heap.size W w1) : ∀ x, (∃ y : Lat w1, x = later w1 y) → ∃ y : Lat W, x = later W y := by
  rintro x ⟨y, rfl⟩
  exact later_of (hb.trans ((later_below w1 y).mono hb.size))
theorem later_drew {W : World} : ∃ y : Lat W, W.drew = later W y := later_of (RowKit.Below.refl _ _).drew
theorem later_self {W : World} : ∃ y : Lat W, W = later W y := later_of (RowKit.Below.refl _ _)

end Go.Proofs.Ythppjkpejnaocaa
