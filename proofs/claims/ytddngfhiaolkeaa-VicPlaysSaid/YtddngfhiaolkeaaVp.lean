/- law 28: the lines and the document's, beside each other. -/
import Derived.Test.YtddngfhiaolkeaaR28n
import Derived.Test.YtddngfhiaolkeaaInts
namespace Go.Proofs.Ytddngfhiaolkeaa
open Go.ChangeShapes Go.WideShapes Go.ChangeAt Go.RowKit
set_option linter.unusedVariables false

theorem isAct_wt {x : vcLn} (h : isAct x = true) : x.wt = true := by
  unfold isAct at h
  simp at h
  exact h.1
theorem isAct_ms {x : vcLn} (h : isAct x = true) : x.ms = false := by
  unfold isAct at h
  simp at h
  exact h.2
/-- q: those that wait, as they were raised. -/
structure VQ (s : Nat → vcLn) (now : Nat) (q : List Nat) : Prop where
  lt8 : ∀ i ∈ q, i < 8
  wt : ∀ k, k < 8 → ((s k).wt = true ↔ k ∈ q)
  ord : q.Pairwise fun a b => (s a).sn < (s b).sn
  max : ∀ i ∈ q, (s i).sn ≤ now
section
variable {s : Nat → vcLn} {now n : Nat} {q : List Nat}
theorem VQ.nil : VQ vc0 0 [] := ⟨fun i hi => (by cases hi), fun k _ => ⟨fun h => (by cases h), fun h => (by cases h)⟩, List.Pairwise.nil, fun i hi => (by cases hi)⟩
theorem VQ.at8 (h : VQ s now q) : ∀ i, i < q.length → atL q i < 8 := fun i hi => h.lt8 _ (mem_atL hi)
theorem VQ.keep (h : VQ s now q) {x : vcLn} (hn : n < 8) (hw : x.wt = (s n).wt) (hs : x.sn = (s n).sn) : VQ (putF s n x) now q := by
  have e : ∀ k, (putF s n x k).wt = (s k).wt ∧ (putF s n x k).sn = (s k).sn := fun k => by
    by_cases hk : k = n
    · subst hk; rw [putF_at]; exact ⟨hw, hs⟩
    · rw [putF_ne _ _ hk]; exact ⟨rfl, rfl⟩
  exact ⟨h.lt8, fun k hk => by rw [(e k).1]; exact h.wt k hk, h.ord.imp fun hab => by rw [(e _).2, (e _).2]; exact hab, fun i hi => by rw [(e i).2]; exact h.max i hi⟩
theorem VQ.raise (h : VQ s now q) (hn : n < 8) (hq : n ∉ q) {m : Bool} {p : Int} : VQ (putF s n ⟨true, m, p, (now + 1 : Nat)⟩) (now + 1) (q ++ [n]) := by
  have e : ∀ k ∈ q, putF s n ⟨true, m, p, (now + 1 : Nat)⟩ k = s k := fun k hk => putF_ne _ _ (fun e => hq (e ▸ hk))
  refine ⟨fun i hi => ?_, fun k hk => ?_, ?_, fun i hi => ?_⟩
  · rcases List.mem_append.1 hi with h1 | h1
    · exact h.lt8 i h1
    · rw [List.mem_singleton.1 h1]; exact hn
  · by_cases hkn : k = n
    · subst hkn; rw [putF_at]; simp
    · rw [putF_ne _ _ hkn, h.wt k hk, List.mem_append, List.mem_singleton]
      exact ⟨.inl, fun h => h.elim id (fun h => absurd h hkn)⟩
  · rw [List.pairwise_append]
    refine ⟨h.ord.imp_of_mem fun ha hb hab => by rw [e _ ha, e _ hb]; exact hab, List.pairwise_singleton .., fun a ha b hb => ?_⟩
    rw [List.mem_singleton.1 hb, putF_at, e a ha]
    have := h.max a ha
    show (s a).sn < ((now + 1 : Nat) : Int)
    omega
  · rcases List.mem_append.1 hi with h1 | h1
    · rw [e i h1]; have := h.max i h1; omega
    · rw [List.mem_singleton.1 h1, putF_at]; exact Int.le_refl _
theorem mem_lessQ {k : Nat} : k ∈ lessQ q n ↔ k ∈ q ∧ k ≠ n := by
  unfold lessQ
  rw [List.mem_filter]
  refine ⟨fun ⟨h1, h2⟩ => ⟨h1, fun e => by subst e; simp at h2⟩, fun ⟨h1, h2⟩ => ⟨h1, ?_⟩⟩
  simp only [Bool.not_eq_true', decide_eq_false_iff_not]
  omega
theorem VQ.drop (h : VQ s now q) (hn : n < 8) {m : Bool} {p : Int} {t : Int} : VQ (putF s n ⟨false, m, p, t⟩) now (lessQ q n) := by
  have e : ∀ k ∈ lessQ q n, putF s n ⟨false, m, p, t⟩ k = s k := fun k hk => putF_ne _ _ (mem_lessQ.1 hk).2
  refine ⟨fun i hi => h.lt8 i (mem_lessQ.1 hi).1, fun k hk => ?_, ?_, fun i hi => by rw [e i hi]; exact h.max i (mem_lessQ.1 hi).1⟩
  · by_cases hkn : k = n
    · subst hkn; rw [putF_at]; simp [mem_lessQ]
    · rw [putF_ne _ _ hkn, h.wt k hk, mem_lessQ]
      exact ⟨fun h => ⟨h, hkn⟩, fun h => h.1⟩
  · have h1 : (lessQ q n).Pairwise fun a b => (s a).sn < (s b).sn := h.ord.filter _
    exact h1.imp_of_mem fun ha hb hab => by rw [e _ ha, e _ hb]; exact hab
theorem VQ.best (h : VQ s now q) : (bestV (fun k => (s k).ms) (fun k => (s k).pr) q q.length < 0 ∧ ∀ k, k < 8 → isAct (s k) = false) ∨ ∃ n : Nat, bestV (fun k => (s k).ms) (fun k => (s k).pr) q q.length = n ∧ Top s n ∧ n ∈ q := by
  rcases bestV_spec (fun k => (s k).ms) (fun k => (s k).pr) q q.length with ⟨he, ha⟩ | ⟨j, hj, he, hm, h1, h2⟩
  · refine .inl ⟨by rw [he]; omega, fun k hk => ?_⟩
    cases hact : isAct (s k)
    · rfl
    · obtain ⟨i, hi, hie⟩ := mem_is_atL ((h.wt k hk).1 (isAct_wt hact))
      have := ha i hi
      rw [← hie] at this
      simp only [isAct_ms hact] at this
      cases this
  · refine .inr ⟨atL q j, he, ⟨h.at8 j hj, ?_, fun k hk hact hne => ?_⟩, mem_atL hj⟩
    · have := (h.wt _ (h.at8 j hj)).2 (mem_atL hj)
      simp [isAct, this, hm]
    · obtain ⟨i, hi, hie⟩ := mem_is_atL ((h.wt k hk).1 (isAct_wt hact))
      have hmk : (s (atL q i)).ms = false := by
        rw [← hie]
        exact isAct_ms hact
      rw [hie] at hne ⊢
      have h3 := h1 i hi hmk
      rcases Nat.lt_trichotomy i j with hij | hij | hij
      · have := h2 i hij hmk
        exact .inl this
      · subst hij; exact absurd rfl hne
      · have h4 : (s (atL q j)).sn < (s (atL q i)).sn := by
          have := List.pairwise_iff_getElem.1 h.ord j i hj hi hij
          rw [atL_eq hj, atL_eq hi]
          exact this
        omega
theorem VQ.waits (h : VQ s now q) : waitQ q 8 = waitL s 8 := by
  unfold waitQ waitL
  refine List.filter_congr fun k hk => ?_
  have := h.wt k (List.mem_range.1 hk)
  cases hw : (s k).wt
  · cases hq : hasQ q k
    · rfl
    · rw [hw] at this
      exact absurd (this.2 (hasQ_mem.1 hq)) (by simp)
  · exact hasQ_mem.2 (this.1 hw)
theorem lessQ_out (h : n ∉ q) : lessQ q n = q := by
  unfold lessQ
  rw [List.filter_eq_self]
  intro a ha
  simp only [Bool.not_eq_true', decide_eq_false_iff_not]
  have : a ≠ n := fun e => h (e ▸ ha)
  omega
end
def msOf (s : Nat → vcLn) : Nat → Bool := fun k => (s k).ms
def prOf (s : Nat → vcLn) : Nat → Int := fun k => (s k).pr
theorem msOf_put {s : Nat → vcLn} {n : Nat} {x : vcLn} : msOf (putF s n x) = putF (msOf s) n x.ms := by
  funext k
  simp only [msOf, putF]
  split <;> rfl
theorem prOf_put {s : Nat → vcLn} {n : Nat} {x : vcLn} : prOf (putF s n x) = putF (prOf s) n x.pr := by
  funext k
  simp only [prOf, putF]
  split <;> rfl
theorem msOf_same {s : Nat → vcLn} {n : Nat} {x : vcLn} (h : x.ms = (s n).ms) : msOf (putF s n x) = msOf s := by
  rw [msOf_put, h]; exact putF_same _ _
theorem prOf_same {s : Nat → vcLn} {n : Nat} {x : vcLn} (h : x.pr = (s n).pr) : prOf (putF s n x) = prOf s := by
  rw [prOf_put, h]; exact putF_same _ _

structure VPl (w0 w : World) (rb : Nat) (s : Nat → vcLn) (now : Nat) (v : Value) (l : List vcIt) (rv : Value) (q : List Nat) : Prop where
  vc : VcAt w w0.heap.size s now v l
  rf : RvAt w rb (msOf s) (prOf s) rv q
  base : w0.heap.size < rb
  bel : Bel w0.heap.size w0 w
  q : VQ s now q
section
variable {w0 w w1 w2 : World} {rb now now' : Nat} {s s' : Nat → vcLn} {v v' : Value} {l l' : List vcIt} {rv rv' : Value} {q q' : List Nat}
theorem VPl.below (h : VPl w0 w rb s now v l rv q) (hb : Below w.heap.size w w2) : VPl w0 w2 rb s now v l rv q := ⟨h.vc.below hb, h.rf.below hb, h.base, h.bel.of hb, h.q⟩
/-- The reference's row behind what the lines did. -/
theorem VPl.rf2 (h : VPl w0 w rb s now v l rv q) (f : Frm w0.heap.size v v' w w1) : RvAt w1 rb (msOf s) (prOf s) rv q := h.rf.frm h.vc.row f (by decide) (by decide) (by decide) (by decide)
theorem VPl.move (h : VPl w0 w rb s now v l rv q) (t : VcAt w1 w0.heap.size s' now' v' l') (f : Frm w0.heap.size v v' w w1) (r : RvAt w2 rb (msOf s') (prOf s') rv' q') (g : Frm rb rv rv' w1 w2) (hq : VQ s' now' q') : VPl w0 w2 rb s' now' v' l' rv' q' := by
  have hr := h.rf2 f
  refine ⟨⟨t.row.frm hr g (by decide) (by decide) (by decide) (by decide), t.heap, t.perm⟩, r, h.base, ?_, hq⟩
  refine (h.vc.grow h.bel (Nat.le_refl _) f).frm g (Nat.le_of_lt h.base) (fun a ha => ?_)
  have := (h.rf.own a ha).1
  have := h.base
  omega
end
theorem flat_nEnc : ∀ L : List Nat, L.flatMap nEnc = (L.map fun i : Nat => (i : Int)).map (Value.int .i64)
  | [] => rfl
  | x :: L => by
    rw [List.flatMap_cons, List.map_cons, List.map_cons, flat_nEnc L]
    rfl
theorem ints_at {w : World} {B n c : Nat} {a : Option Addr} {e : TypeId} {L : List Nat} (h : w.ownsRow B e 1 (.slice a n c) L.length (L.flatMap nEnc)) : n = L.length ∧ IntsAt .i64 w a L.length (L.map fun i : Nat => (i : Int)) := by
  have e1 := flat_nEnc L
  rw [e1, show L.length = (L.map fun i : Nat => (i : Int)).length by simp] at h
  obtain ⟨a', c', hv, _, _, hi, _⟩ := ints_of_owned h
  cases hv
  rw [List.length_map] at hi
  exact ⟨by simp, hi⟩
theorem intsSame (a b : Option Addr) (n m c d : Nat) (l : List Int) (w : World) (h : IntsAt .i64 w a n l) (h' : IntsAt .i64 w b m l) (hn : n ≤ 9223372036854775807) (hm : m ≤ 9223372036854775807) :
    Calls Try.prog 24 #[.slice a n c, .slice b m d] w fun e w' => e = .returned (.bool true) ∧ Below w.heap.size w w' := by
  have := ints_any a b n m c d l l w h h' hn hm
  rw [beq_self_eq_true] at this
  exact this
end Go.Proofs.Ytddngfhiaolkeaa
