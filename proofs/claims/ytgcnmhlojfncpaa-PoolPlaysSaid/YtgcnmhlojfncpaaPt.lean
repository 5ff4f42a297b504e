/- Two pools beside each other. -/
import Derived.Test.YtgcnmhlojfncpaaPq
namespace Go.Proofs.Ytgcnmhlojfncpaa
open Go.ChangeShapes Go.WideShapes Go.ChangeAt Go.RowKit
set_option linter.unusedVariables false

/-- The blocks of a pool. -/
def AllP (b s fb : Nat) (V : Nat → Value) (st : Value) (i : Nat) : Prop := i = b ∨ i = s ∨ i = fb ∨ (∃ g, g < 16 ∧ some i = (V g).ownBlock) ∨ some i = st.ownBlock
structure P1At (w0 w : World) (b s fb n : Nat) (G : Nat → Int) (V : Nat → Value) (L : Nat → List plIt) (st : Value) (S : List stIt) : Prop where
  pl : PlAt w b s fb n G V L st S
  fr : From w0.heap.size b s fb V st
section
variable {w0 w w' : World} {n : Nat} {b s fb : Nat} {G : Nat → Int} {V : Nat → Value} {L : Nat → List plIt} {st : Value} {S : List stIt} {b' s' fb' : Nat} {G' : Nat → Int} {V' : Nat → Value} {L' : Nat → List plIt} {st' : Value} {S' : List stIt}
theorem PlAt.all_lt (h : PlAt w b s fb n G V L st S) {i : Nat} (hi : AllP b s fb V st i) : i < w.heap.size := by
  rcases hi with rfl | rfl | rfl | ⟨g, hg, e⟩ | e
  · exact h.lt
  · exact lt_heap h.sto.2.1
  · obtain ⟨curf, s3, _⟩ := h.sto.2.2.1
    exact lt_heap s3
  · exact ((h.rows g hg).lt i e.symm).2
  · exact (h.seats.lt i e.symm).2
theorem tch_all {g : Nat} (hg : g < 16) {i : Nat} (h : Proofs.Ytgcnmhlojfncpaa.tch b fb (V g) st i) : AllP b s fb V st i := by
  rcases h with rfl | rfl | e | e
  · exact .inl rfl
  · exact .inr (.inr (.inl rfl))
  · exact .inr (.inr (.inr (.inl ⟨g, hg, e⟩)))
  · exact .inr (.inr (.inr (.inr e)))
/-- Two pools that share nothing. -/
structure TwoP (w0 w : World) (n : Nat) (b s fb : Nat) (G : Nat → Int) (V : Nat → Value) (L : Nat → List plIt) (st : Value) (S : List stIt) (b' s' fb' : Nat) (G' : Nat → Int) (V' : Nat → Value) (L' : Nat → List plIt) (st' : Value) (S' : List stIt) : Prop where
  p : PlAt w b s fb n G V L st S
  q : PlAt w b' s' fb' n G' V' L' st' S'
  fp : From w0.heap.size b s fb V st
  fq : From w0.heap.size b' s' fb' V' st'
  apart : ∀ i, AllP b s fb V st i → ¬ AllP b' s' fb' V' st' i
  bel : Bel w0.heap.size w0 w
theorem TwoP.swap (h : TwoP w0 w n b s fb G V L st S b' s' fb' G' V' L' st' S') : TwoP w0 w n b' s' fb' G' V' L' st' S' b s fb G V L st S :=
  ⟨h.q, h.p, h.fq, h.fp, fun i h1 h2 => h.apart i h2 h1, h.bel⟩
theorem TwoP.step (h : TwoP w0 w n b s fb G V L st S b' s' fb' G' V' L' st' S') {g : Nat} (hg : g < 16) {v' : Value} {G2 : Nat → Int} {l' : List plIt} {S2 : List stIt}
    (hp : PlAt w' b s fb n G2 (setV V g v') (setV L g l') st S2) (f : Frs (tch b fb (V g) st) w w') (ho : v'.ownBlock = (V g).ownBlock ∨ ∀ a, v'.ownBlock = some a → w.heap.size ≤ a) :
    TwoP w0 w' n b s fb G2 (setV V g v') (setV L g l') st S2 b' s' fb' G' V' L' st' S' := by
  have hn : ∀ i, AllP b' s' fb' V' st' i → ¬ Proofs.Ytgcnmhlojfncpaa.tch b fb (V g) st i := fun i h1 h2 => h.apart i (tch_all hg h2) h1
  refine ⟨hp, h.q.frs f (hn _ (.inl rfl)) (hn _ (.inr (.inl rfl))) (hn _ (.inr (.inr (.inl rfl)))) (fun k hk a ha => hn _ (.inr (.inr (.inr (.inl ⟨k, hk, ha.symm⟩))))) (fun a ha => hn _ (.inr (.inr (.inr (.inr ha.symm))))),
    h.fp.put hg h.bel.2 ho, h.fq, fun i h1 h2 => ?_, f.bel h.bel (h.fp.tch hg)⟩
  have hlt := h.q.all_lt h2
  rcases h1 with e | e | e | ⟨k, hk, e⟩ | e
  · exact h.apart i (.inl e) h2
  · exact h.apart i (.inr (.inl e)) h2
  · exact h.apart i (.inr (.inr (.inl e))) h2
  · by_cases hkg : k = g
    · subst hkg
      rw [setV_at] at e
      rcases ho with ho | ho
      · exact h.apart i (.inr (.inr (.inr (.inl ⟨k, hk, by rw [e, ho]⟩)))) h2
      · have := ho i e.symm
        omega
    · rw [setV_ne _ _ hkg] at e
      exact h.apart i (.inr (.inr (.inr (.inl ⟨k, hk, e⟩)))) h2
  · exact h.apart i (.inr (.inr (.inr (.inr e)))) h2
end
/-- The same is left to partition 1. -/
def Rel1 (n : Nat) (S S' : List stIt) : Prop := S.length = n ∧ S'.length = n ∧ ∀ k, k < n → lfOf S 1 k = lfOf S' 1 k
theorem lfOf_iff {S : List stIt} {q k : Nat} : (lfOf S q k = some ⟨k⟩) ↔ ((atL S k).who = (q : Int) ∧ (atL S k).tk = false) := by
  unfold lfOf
  split
  · rename_i h; exact ⟨fun _ => h, fun _ => rfl⟩
  · rename_i h; exact ⟨fun e => by (cases e), fun e => absurd e h⟩
theorem Rel1.iff {n : Nat} {S S' : List stIt} (h : Rel1 n S S') {k : Nat} (hk : k < n) : ((atL S k).who = (1 : Nat) ∧ (atL S k).tk = false) ↔ ((atL S' k).who = (1 : Nat) ∧ (atL S' k).tk = false) := by
  rw [← lfOf_iff, ← lfOf_iff, h.2.2 k hk]
theorem Rel1.left {n : Nat} {S S' : List stIt} (h : Rel1 n S S') : leftL S 1 = leftL S' 1 := by
  unfold leftL
  rw [h.1, h.2.1]
  exact fm_congr fun k hk => h.2.2 k (List.mem_range.1 hk)
theorem Rel1.low {n : Nat} {S S' : List stIt} (h : Rel1 n S S') {f : Nat} (hl : Low S 1 f) : Low S' 1 f := by
  have hf : f < n := by rw [← h.1]; exact hl.lt
  have := (h.iff hf).1 ⟨hl.who, hl.tk⟩
  exact ⟨by rw [h.2.1]; exact hf, this.1, this.2, fun k hk hc => hl.low k hk ((h.iff (by omega)).2 hc)⟩
theorem Rel1.set {n : Nat} {S S' : List stIt} (h : Rel1 n S S') {f : Nat} {x : stIt} (hf : f < n) : Rel1 n (S.set f x) (S'.set f x) := by
  refine ⟨by rw [List.length_set]; exact h.1, by rw [List.length_set]; exact h.2.1, fun k hk => ?_⟩
  have := h.2.2 k hk
  unfold lfOf at this ⊢
  rw [atL_setS (by rw [h.1]; exact hf), atL_setS (by rw [h.2.1]; exact hf)]
  by_cases e : k = f
  · rw [if_pos e, if_pos e]
  · rw [if_neg e, if_neg e]
    exact this
/-- A frame of another's. -/
theorem Rel1.other {n : Nat} {S S' : List stIt} (h : Rel1 n S S') {f : Nat} {x : stIt} (hf : f < n) (h0 : (atL S f).who = (0 : Nat)) (hx : x.who = (0 : Nat)) : Rel1 n (S.set f x) S' := by
  refine ⟨by rw [List.length_set]; exact h.1, h.2.1, fun k hk => ?_⟩
  rw [← h.2.2 k hk]
  unfold lfOf
  rw [atL_setS (by rw [h.1]; exact hf)]
  by_cases e : k = f
  · subst e
    rw [if_pos rfl, if_neg (by rw [hx]; simp), if_neg (by rw [h0]; simp)]
  · rw [if_neg e]
theorem Rel1.of_eq {n : Nat} {S S' : List stIt} (h : S.length = n) (e : S = S') : Rel1 n S S' := by subst e; exact ⟨h, h, fun _ _ => rfl⟩
end Go.Proofs.Ytgcnmhlojfncpaa
