/- Own laws over any program: a region that draws its order, in which reads are taken first and calls come one behind the other, is walked once. -/
import Derived.Test.YthppjkpejnaocaaKit
import Derived.OrdersHeld
import Derived.Deep.RegionHeld
namespace Go.Proofs.Ythppjkpejnaocaa
set_option linter.unusedVariables false

/-- An operation that yields a value and does nothing else. -/
def calm (o : Oper) : Bool :=
  match o.op with
  | .move _ | .assign _ | .pick .. | .load .. | .binOp .. | .unOp .. | .convert .. | .makeInterface .. | .slice .. | .fieldAddr .. | .field .. | .indexAddr .. | .index .. | .extract .. | .nilCheck _ | .build .. => true
  | .call c => match c.callee with
    | .builtin .len | .builtin .cap => true
    | _ => false
  | _ => false

section
variable {P : Program} {ops : Array Oper} {Q : Exit → Act → World → Prop} {md : Region.Mode} {S S' : World → Prop}

theorem run_v {s : Sem Value} {w w' : World} {n : Next} (h : (do pure (Next.value (← s)) : Sem Next).run P w = .ok n w') : ∃ u, n = .value u := by
  rw [Sem.run_bind] at h
  cases hs : s.run P w with
  | ok u w1 =>
    rw [hs] at h
    simp [Result.andThen, Sem.run_pure] at h
    exact ⟨u, h.1.symm⟩
  | halt x w1 =>
    rw [hs] at h
    simp [Result.andThen] at h

theorem run_panic_ne {w w' : World} {n : Next} (h : (runtimePanic .nilDeref : Sem Next).run P w = .ok n w') : False := by
  simp [runtimePanic] at h

theorem calm_value {o : Oper} (hc : calm o = true) {ρ : Operand → Value} {w w' : World} {n : Next} (h : (execOp ρ o).run P w = .ok n w') : ∃ u, n = .value u := by
  unfold calm at hc
  unfold execOp at h
  split at hc
  case h_1 hop => rw [hop] at h; simp [Sem.run_pure] at h; exact ⟨_, h.1.symm⟩
  case h_2 hop => rw [hop] at h; simp [Sem.run_pure] at h; exact ⟨_, h.1.symm⟩
  case h_3 hop =>
    rw [hop] at h
    simp only [Sem.run_bind] at h
    generalize (asBool _).run P w = r at h
    cases r with
    | ok u w1 => simp [Result.andThen, Sem.run_pure] at h; exact ⟨_, h.1.symm⟩
    | halt x w1 => simp [Result.andThen] at h
  case h_17 c hop =>
    rw [hop] at h
    split at hc
    · rename_i hcl
      simp only [resolve, hcl, pure_bind, invoke, builtin] at h
      exact run_v h
    · rename_i hcl
      simp only [resolve, hcl, pure_bind, invoke, builtin] at h
      exact run_v h
    · cases hc
  case h_15 x hop =>
    rw [hop] at h
    simp only at h
    split at h
    · exact (run_panic_ne h).elim
    · exact (run_panic_ne h).elim
    · exact (run_panic_ne h).elim
    · split at h
      · exact (run_panic_ne h).elim
      · simp [Sem.run_bind, Result.andThen] at h
        split at h
        · split at h
          · simp at h; exact ⟨_, h.1.symm⟩
          · cases h
        · cases h
      · simp [Sem.run_pure] at h; exact ⟨_, h.1.symm⟩
    · simp [Sem.run_pure] at h; exact ⟨_, h.1.symm⟩
  case h_18 => cases hc
  all_goals
    rename_i hop
    rw [hop] at h
    exact run_v h

theorem yieldsIf_of_quiet {o : Oper} {v : Value} {a : Act} (hc : calm o = true) (hw : Region.wanted o (yielded ops a.tmps) = true) (h : ∀ w, S w → o.quietAt P a S w v) : YieldsIf P ops S o v a :=
  .inl ⟨hw, fun w hS => by
    have h1 := h w hS
    unfold Oper.quietAt at h1
    cases hr : (execOp a.eval o).run P w with
    | ok n w1 =>
      obtain ⟨u, rfl⟩ := calm_value hc hr
      rw [hr] at h1
      obtain ⟨rfl, rfl⟩ := h1
      rfl
    | halt x w1 =>
      rw [hr] at h1
      exact h1.elim⟩

/-- These may come up, one behind the other, each apart from all that has not come up. -/
def segB (md : Region.Mode) (ops : Array Oper) : List Nat → Array Bool → Bool
  | [], _ => true
  | i :: is, listed => (Region.ready md ops listed).contains i && Region.free md ops listed i && ((ops[i]?).map calm).getD false && segB md ops is (listed.setIfInBounds i true)

def listAll : List Nat → Array Bool → Array Bool
  | [], listed => listed
  | i :: is, listed => listAll is (listed.setIfInBounds i true)

theorem wpAnyH_weaken (hS : ∀ x, S' x → S x) : ∀ (fuel : Nat) (listed : Array Bool) (a : Act) (w : World), wpAnyH P md ops Q S' fuel listed a w → wpAnyH P md ops Q S fuel listed a w
  | 0, _, _, _, h => h
  | fuel + 1, _, _, _, h => ⟨h.1, fun i hi => wpOp_mono (fun a' w' h' => ⟨hS _ h'.1, wpAnyH_weaken hS fuel _ a' w' h'.2⟩) (h.2 i hi)⟩

/-- Reads, taken first. -/
theorem wpSeg' (hs : Region.noSelect ops = true) (hQ : ∀ c a w t v, Q (.panic c) (Act.put a (some t) v) w → Q (.panic c) a w) : ∀ (is : List Nat) (l : List Oper) (fuel : Nat) (listed : Array Bool) (a : Act) (w : World),
    is.filterMap (fun i => ops[i]?) = l → segB md ops is listed = true → S w → wpQuiet P ops S (fun a' => wpAnyH P md ops Q S fuel (listAll is listed) a' w) l a →
    wpAnyH P md ops Q S (fuel + is.length) listed a w
  | [], l, fuel, listed, a, w, hl, _, _, h => by
    simp at hl
    subst hl
    exact h
  | i :: is, l, fuel, listed, a, w, hl, hB, hSw, h => by
    simp only [segB, Bool.and_eq_true] at hB
    obtain ⟨⟨⟨hr, hf⟩, hcalm⟩, hB'⟩ := hB
    cases hi : ops[i]? with
    | none => rw [hi] at hcalm; simp at hcalm
    | some o =>
      rw [hi] at hcalm
      simp at hcalm
      rw [List.filterMap_cons, hi] at hl
      subst hl
      have hq : ∀ v : Value, ∀ c a w, Q (.panic c) (Act.put a o.dst v) w → Q (.panic c) a w := by
        intro v c a w hx
        cases hd : o.dst with
        | none => rw [hd] at hx; exact hx
        | some t => rw [hd] at hx; exact hQ c a w t v hx
      simp only [wpQuiet] at h
      by_cases hw : Region.wanted o (yielded ops a.tmps) = true
      · rw [if_pos hw] at h
        obtain ⟨v, h1, h2⟩ := h
        exact wpAnyH_take hi hs hf hr (hq v) (yieldsIf_of_quiet hcalm hw h1) hSw (wpSeg' hs hQ is _ fuel _ _ w rfl hB' hSw h2)
      · rw [if_neg hw] at h
        exact wpAnyH_take hi hs hf hr (hq undef) (.inr ⟨by simpa using hw, rfl⟩) hSw (wpSeg' hs hQ is _ fuel _ _ w rfl hB' hSw h)

theorem wpSeg (is : List Nat) (fuel : Nat) {l : List Oper} {n : Nat} {listed : Array Bool} {a : Act} {w : World} (hn : n = fuel + is.length) (hl : is.filterMap (fun i => ops[i]?) = l)
    (hB : (Region.noSelect ops && segB md ops is listed) = true) (hQ : ∀ c a w t v, Q (.panic c) (Act.put a (some t) v) w → Q (.panic c) a w) (hSw : S w)
    (h : wpQuiet P ops S (fun a' => wpAnyH P md ops Q S fuel (listAll is listed) a' w) l a) : wpAnyH P md ops Q S n listed a w := by
  rw [Bool.and_eq_true] at hB
  subst hn
  exact wpSeg' hB.1 hQ is l fuel listed a w hl hB.2 hSw h

/-- The one that may come up. Behind it the class of worlds may be a narrower one. -/
theorem wpOne (i fuel : Nat) {o : Oper} {n : Nat} {listed : Array Bool} {a : Act} {w : World} (hn : n = fuel + 1) (ho : ops[i]? = some o) (hr : Region.ready md ops listed = [i])
    (h : ∀ K : Act → World → Prop, Shut (∀ (S' : World → Prop) a w', (∀ x, S' x → S x) → S' w' → wpAnyH P md ops Q S' fuel (listed.setIfInBounds i true) a w' → K a w') →
      if Region.wanted o (yielded ops a.tmps) = true then Oper.wp P o a w K Q else K (a.put o.dst undef) w) : wpAnyH P md ops Q S n listed a w := by
  subst hn
  refine wpAnyH_all hr (by simp) fun j hj => ?_
  obtain rfl : j = i := by simpa using hj
  have h1 := h (fun a' w' => S w' ∧ wpAnyH P md ops Q S fuel (listed.setIfInBounds j true) a' w') (show Shut _ from fun S' a w' hS hw hx => ⟨hS _ hw, wpAnyH_weaken hS _ _ _ _ hx⟩)
  unfold wpOp
  simp only [ho]
  split
  · rename_i hw
    rw [if_pos hw] at h1
    exact .inl h1
  · rename_i hw
    rw [if_neg hw] at h1
    exact h1

theorem wp_region_line (n : Nat) {id : Nat} {a : Act} {w : World} (S : World → Prop) (hm : P.follows .mixedOrders = true) (hn : ops.size = n)
    (h : wpAnyH P .any ops Q S n (Array.replicate n false) a w.drew) : (Code.region id ops true).wp P Q a w :=
  wp_region_held hm (by subst hn; exact h)

end

/-- A world in which all that lies below B is as it was. -/
def LatF (B : Nat) (W : World) : Type := { w' : World // RowKit.Below B W w' }
instance latFNonempty (B : Nat) (W : World) : Nonempty (LatF B W) := ⟨⟨W, RowKit.Below.refl _ _⟩⟩
def laterF (B : Nat) (W : World) (x : LatF B W) : World := x.1
theorem laterF_below (B : Nat) (W : World) (x : LatF B W) : RowKit.Below B W (laterF B W x) := x.2
@[go_sem] theorem laterF_cell (B : Nat) (W : World) (x : LatF B W) (a : Addr) (h : a.block < B) : (laterF B W x).cell? a = W.cell? a := (laterF_below B W x).cell h
@[go_sem] theorem laterF_frozen (B : Nat) (W : World) (x : LatF B W) (a : Addr) (h : a.block < B) : (laterF B W x).frozen? a = W.frozen? a := (laterF_below B W x).frozen h
theorem laterF_of {B : Nat} {W w' : World} (h : RowKit.Below B W w') : ∃ x, w' = laterF B W x := ⟨⟨w', h⟩, rfl⟩
theorem laterF_drew {B : Nat} {W : World} : ∃ x : LatF B W, W.drew = laterF B W x := laterF_of (RowKit.Below.refl _ _).drew
theorem Bel.here {B : Nat} {W : World} (h : B ≤ W.heap.size) : Bel B W W := ⟨RowKit.Below.refl _ _, h⟩

end Go.Proofs.Ythppjkpejnaocaa
