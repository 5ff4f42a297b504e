/- Law 07, PoolPlays: both pools beside each other, at any arguments. -/
import Derived.Test.YtgcnmhlojfncpaaR07t
import Derived.Test.YtgcnmhlojfncpaaPoolScrubWalk
namespace Go.Proofs.Ytgcnmhlojfncpaa
open Go.ChangeShapes Go.WideShapes Go.ChangeAt Go.RowKit
set_option linter.unusedVariables false

theorem least {P : Nat → Prop} (k : Nat) (h : P k) : ∃ f, f ≤ k ∧ P f ∧ ∀ j, j < f → ¬ P j := by
  induction k using Nat.strongRecOn with
  | ind k ih =>
    by_cases hx : ∃ j, j < k ∧ P j
    · obtain ⟨j, hj, hp⟩ := hx
      obtain ⟨f, h1, h2, h3⟩ := ih j hj hp
      exact ⟨f, by omega, h2, h3⟩
    · exact ⟨k, Nat.le_refl _, h, fun j hj hp => hx ⟨j, hj, hp⟩⟩
/-- What a call did to the pool. -/
def PMove (w w' : World) (b s fb n : Nat) (G' : Nat → Int) (V : Nat → Value) (L : Nat → List plIt) (st : Value) (S' : List stIt) : Prop :=
  ∃ g v' l', g < 16 ∧ PlAt w' b s fb n G' (setV V g v') (setV L g l') st S' ∧ Frs (tch b fb (V g) st) w w' ∧ (v'.ownBlock = (V g).ownBlock ∨ ∀ a, v'.ownBlock = some a → w.heap.size ≤ a)
def RMove (w w' : World) (q t rb n : Nat) (G' : Nat → Int) (uv tv : Value) (S' : List stIt) : Prop := RPlAt w' q t rb n G' uv tv S' ∧ Frs (tchR rb uv tv) w w'
theorem PlAt.same {w : World} {b s fb n : Nat} {G : Nat → Int} {V : Nat → Value} {L : Nat → List plIt} {st : Value} {S : List stIt} (h : PlAt w b s fb n G V L st S) : PMove w w b s fb n G V L st S :=
  ⟨0, V 0, L 0, by omega, by rw [setV_same, setV_same]; exact h, Frs.refl _ _, .inl rfl⟩
theorem RPlAt.same {w : World} {q t rb n : Nat} {G : Nat → Int} {uv tv : Value} {S : List stIt} (h : RPlAt w q t rb n G uv tv S) : RMove w w q t rb n G uv tv S := ⟨h, Frs.refl _ _⟩
abbrev PAll (n : Nat) (G : Nat → Int) (S : List stIt) (F : World → Nat → Nat → Nat → (Nat → Value) → (Nat → List plIt) → Value → Prop) : Prop := ∀ w b s fb V L st, PlAt w b s fb n G V L st S → F w b s fb V L st
abbrev RAll (n : Nat) (G : Nat → Int) (S : List stIt) (F : World → Nat → Nat → Nat → Value → Value → Prop) : Prop := ∀ w q t rb uv tv, RPlAt w q t rb n G uv tv S → F w q t rb uv tv

theorem own_both (n : Nat) (G : Nat → Int) (S : List stIt) (f who : Int) (hf : (Lit.int .i64 f).wf = true) (hn : 0 < n) (hS : ∀ f, f < n → (atL S f).who = -1 ∧ (atL S f).tk = false ∨ ∃ g : Nat, g < 16 ∧ (atL S f).who = g) : ∃ (E : Int) (G' : Nat → Int) (S' : List stIt),
    PAll n G S (fun w b s fb V L st => Calls Try.prog 9 #[.pointer (some ⟨b, 0, none⟩), .int .i64 f, .int .i64 who] w fun e w' => e = .returned (.int .i64 E) ∧ PMove w w' b s fb n G' V L st S') ∧
    RAll n G S (fun w q t rb uv tv => Calls Try.prog 18 #[.pointer (some ⟨q, 0, none⟩), .int .i64 f, .int .i64 who] w fun e w' => e = .returned (.int .i64 E) ∧ RMove w w' q t rb n G' uv tv S') := by
  by_cases hno : f < 0 ∨ (n : Int) ≤ f ∨ who < 0 ∨ 16 ≤ who
  · refine ⟨1, G, S, fun w b s fb V L st h => ?_, fun w q t rb uv tv h => ?_⟩
    · refine (plOwnNo f who w h.toPlIn hn hno).mono ?_
      rintro e w' ⟨rfl, rfl⟩
      exact ⟨rfl, h.same⟩
    · refine (rpOwnNo f who w h hf hno).mono ?_
      rintro e w' ⟨rfl, rfl⟩
      exact ⟨rfl, h.same⟩
  · obtain ⟨k, rfl⟩ : ∃ k : Nat, f = k := ⟨f.toNat, by omega⟩
    obtain ⟨g, rfl⟩ : ∃ g : Nat, who = g := ⟨who.toNat, by omega⟩
    have hk : k < n := by omega
    have hg : g < 16 := by omega
    by_cases hw : (atL S k).who = -1
    · refine ⟨0, putF G (k * 64) 64 0, S.set k ⟨g, false⟩, fun w b s fb V L st h => ?_, fun w q t rb uv tv h => ?_⟩
      · refine (plOwn k g w h hk hg hw).mono ?_
        rintro e w' ⟨rfl, v', l', h2, f2, o2⟩
        exact ⟨rfl, g, v', l', hg, h2, f2, o2⟩
      · refine (rpOwn k g w h hk hg hw).mono ?_
        rintro e w' ⟨rfl, h2, f2⟩
        exact ⟨rfl, h2, f2⟩
    · refine ⟨5, G, S, fun w b s fb V L st h => ?_, fun w q t rb uv tv h => ?_⟩
      · refine (plOwnUsed k g w h.toPlIn hk hg hw).mono ?_
        rintro e w' ⟨rfl, rfl⟩
        exact ⟨rfl, h.same⟩
      · refine (rpOwnUsed k g w h hk hg hw).mono ?_
        rintro e w' ⟨rfl, rfl⟩
        exact ⟨rfl, h.same⟩
theorem take_both (n : Nat) (G : Nat → Int) (S : List stIt) (who : Int) (hn : 0 < n) (hl : S.length = n) : ∃ (X E : Int) (S' : List stIt),
    PAll n G S (fun w b s fb V L st => Calls Try.prog 10 #[.pointer (some ⟨b, 0, none⟩), .int .i64 who] w fun e w' => e = .returned (.tuple #[.int .i64 X, .int .i64 E]) ∧ PMove w w' b s fb n G V L st S') ∧
    RAll n G S (fun w q t rb uv tv => Calls Try.prog 19 #[.pointer (some ⟨q, 0, none⟩), .int .i64 who] w fun e w' => e = .returned (.tuple #[.int .i64 X, .int .i64 E]) ∧ RMove w w' q t rb n G uv tv S') := by
  by_cases hno : who < 0 ∨ 16 ≤ who
  · refine ⟨0, 1, S, fun w b s fb V L st h => ?_, fun w q t rb uv tv h => ?_⟩
    · refine (plTakeBad who w h.toPlIn hn hno).mono ?_
      rintro e w' ⟨rfl, rfl⟩
      exact ⟨rfl, h.same⟩
    · refine (rpTakeBad who w h hno).mono ?_
      rintro e w' ⟨rfl, rfl⟩
      exact ⟨rfl, h.same⟩
  · obtain ⟨g, rfl⟩ : ∃ g : Nat, who = g := ⟨who.toNat, by omega⟩
    have hg : g < 16 := by omega
    by_cases hex : ∃ k, k < n ∧ (atL S k).who = g ∧ (atL S k).tk = false
    · obtain ⟨k, hk, hp⟩ := hex
      obtain ⟨f, hfk, hpf, hpre⟩ := least (P := fun k => (atL S k).who = g ∧ (atL S k).tk = false) k hp
      have hlow : Low S g f := ⟨by omega, hpf.1, hpf.2, hpre⟩
      refine ⟨f, 0, S.set f ⟨g, true⟩, fun w b s fb V L st h => ?_, fun w q t rb uv tv h => ?_⟩
      · rcases plTakeAny g w h hg with ⟨h0, _⟩ | ⟨f', hf', hlow', hc⟩
        · exact absurd ⟨hlow.who, hlow.tk⟩ (h.none_left hg h0 f (by omega))
        · obtain rfl := low_one hlow hlow'
          refine hc.mono ?_
          rintro e w' ⟨rfl, v', l', h2, f2, o2⟩
          exact ⟨rfl, g, v', l', hg, h2, f2, o2⟩
      · refine (rpTake g f w h hg hlow).mono ?_
        rintro e w' ⟨rfl, h2, f2⟩
        exact ⟨rfl, h2, f2⟩
    · have hno2 : ∀ k, k < n → ¬ ((atL S k).who = g ∧ (atL S k).tk = false) := fun k hk hc => hex ⟨k, hk, hc⟩
      refine ⟨0, 2, S, fun w b s fb V L st h => ?_, fun w q t rb uv tv h => ?_⟩
      · rcases plTakeAny g w h hg with ⟨h0, hc⟩ | ⟨f', hf', hlow', hc⟩
        · refine hc.mono ?_
          rintro e w' ⟨rfl, rfl⟩
          exact ⟨rfl, h.same⟩
        · exact absurd ⟨hlow'.who, hlow'.tk⟩ (hno2 f' hf')
      · refine (rpTakeFull g w h hg hno2).mono ?_
        rintro e w' ⟨rfl, rfl⟩
        exact ⟨rfl, h.same⟩
theorem back_both (n : Nat) (G : Nat → Int) (S : List stIt) (f : Int) (hf : (Lit.int .i64 f).wf = true) (hn : 0 < n) (hS : ∀ f, f < n → (atL S f).who = -1 ∧ (atL S f).tk = false ∨ ∃ g : Nat, g < 16 ∧ (atL S f).who = g) : ∃ (E : Int) (G' : Nat → Int) (S' : List stIt),
    PAll n G S (fun w b s fb V L st => Calls Try.prog 11 #[.pointer (some ⟨b, 0, none⟩), .int .i64 f] w fun e w' => e = .returned (.int .i64 E) ∧ PMove w w' b s fb n G' V L st S') ∧
    RAll n G S (fun w q t rb uv tv => Calls Try.prog 20 #[.pointer (some ⟨q, 0, none⟩), .int .i64 f] w fun e w' => e = .returned (.int .i64 E) ∧ RMove w w' q t rb n G' uv tv S') := by
  by_cases hno : f < 0 ∨ (n : Int) ≤ f
  · refine ⟨1, G, S, fun w b s fb V L st h => ?_, fun w q t rb uv tv h => ?_⟩
    · refine (plBackNo f w h.toPlIn hn hno).mono ?_
      rintro e w' ⟨rfl, rfl⟩
      exact ⟨rfl, h.same⟩
    · refine (rpBackNo f w h hf hno).mono ?_
      rintro e w' ⟨rfl, rfl⟩
      exact ⟨rfl, h.same⟩
  · obtain ⟨k, rfl⟩ : ∃ k : Nat, f = k := ⟨f.toNat, by omega⟩
    have hk : k < n := by omega
    cases ht : (atL S k).tk
    · refine ⟨3, G, S, fun w b s fb V L st h => ?_, fun w q t rb uv tv h => ?_⟩
      · refine (plBackFree k w h.toPlIn hk ht).mono ?_
        rintro e w' ⟨rfl, rfl⟩
        exact ⟨rfl, h.same⟩
      · refine (rpBackFree k w h hk ht).mono ?_
        rintro e w' ⟨rfl, rfl⟩
        exact ⟨rfl, h.same⟩
    · obtain ⟨g, hg, hw⟩ : ∃ g : Nat, g < 16 ∧ (atL S k).who = g := by
        rcases hS k hk with hx | hx
        · rw [hx.2] at ht; cases ht
        · exact hx
      refine ⟨0, putF G (k * 64) 64 0, S.set k ⟨g, false⟩, fun w b s fb V L st h => ?_, fun w q t rb uv tv h => ?_⟩
      · refine (plBack k w h hk ht).mono ?_
        rintro e w' ⟨rfl, g2, v', l', hg2, hw2, h2, f2, o2⟩
        have e2 : g2 = g := by omega
        subst e2
        exact ⟨rfl, g2, v', l', hg2, h2, f2, o2⟩
      · refine (rpBack k g w h hk hg hw ht).mono ?_
        rintro e w' ⟨rfl, h2, f2⟩
        exact ⟨rfl, h2, f2⟩
/-- How many are left to anyone. -/
def leftC (S : List stIt) (who : Int) : Int := if 0 ≤ who ∧ who < 16 then (leftL S who.toNat).length else 0
theorem left_both (n : Nat) (G : Nat → Int) (S : List stIt) (who : Int) (hn : 0 < n) (hl : S.length = n) (hS : ∀ f, f < n → (atL S f).who = -1 ∧ (atL S f).tk = false ∨ ∃ g : Nat, g < 16 ∧ (atL S f).who = g) : ∃ X : Int,
    PAll n G S (fun w b s fb V L st => Calls Try.prog 12 #[.pointer (some ⟨b, 0, none⟩), .int .i64 who] w fun e w' => e = .returned (.int .i64 X) ∧ w = w') ∧
    RAll n G S (fun w q t rb uv tv => Calls Try.prog 24 #[.pointer (some ⟨q, 0, none⟩), .int .i64 who] w fun e w' => e = .returned (.int .i64 X) ∧ w = w') := by
  by_cases h0 : who < 0
  · exact ⟨0, fun w b s fb V L st h => plLeftNo who w h.toPlIn hn (.inl h0), fun w q t rb uv tv h => rpLeftNeg who w h h0⟩
  · obtain ⟨g, rfl⟩ : ∃ g : Nat, who = g := ⟨who.toNat, by omega⟩
    by_cases hg : g < 16
    · refine ⟨(leftL S g).length, fun w b s fb V L st h => ?_, fun w q t rb uv tv h => rpLeft g w h⟩
      rw [← (h.perm g hg).length_eq]
      exact plLeft g w h.toPlIn hn hg
    · have hz : leftL S g = [] := by
        rw [List.eq_nil_iff_forall_not_mem]
        intro x hx
        obtain ⟨k, hk, h1, _⟩ := mem_leftL.1 hx
        rcases hS k (by omega) with hh | ⟨g', h2, h3⟩
        · omega
        · omega
      refine ⟨0, fun w b s fb V L st h => plLeftNo g w h.toPlIn hn (.inr (by omega)), fun w q t rb uv tv h => ?_⟩
      have := rpLeft g w h
      rw [hz] at this
      exact this
theorem who_both (n : Nat) (G : Nat → Int) (S : List stIt) (f : Int) (hf : (Lit.int .i64 f).wf = true) (hn : 0 < n) (hS : ∀ f, f < n → (atL S f).who = -1 ∧ (atL S f).tk = false ∨ ∃ g : Nat, g < 16 ∧ (atL S f).who = g) : ∃ (X : Int) (B : Bool),
    PAll n G S (fun w b s fb V L st => Calls Try.prog 14 #[.pointer (some ⟨b, 0, none⟩), .int .i64 f] w fun e w' => e = .returned (.tuple #[.int .i64 X, .bool B]) ∧ w = w') ∧
    RAll n G S (fun w q t rb uv tv => Calls Try.prog 23 #[.pointer (some ⟨q, 0, none⟩), .int .i64 f] w fun e w' => e = .returned (.tuple #[.int .i64 X, .bool B]) ∧ w = w') := by
  by_cases hno : f < 0 ∨ (n : Int) ≤ f
  · exact ⟨0, false, fun w b s fb V L st h => plWhoNo f w h.toPlIn hn hno, fun w q t rb uv tv h => rpOfNo f w h hf hno⟩
  · obtain ⟨k, rfl⟩ : ∃ k : Nat, f = k := ⟨f.toNat, by omega⟩
    have hk : k < n := by omega
    rcases hS k hk with hx | ⟨g, hg, hx⟩
    · exact ⟨0, false, fun w b s fb V L st h => plWhoNobody k w h.toPlIn hk hx.1, fun w q t rb uv tv h => rpOfNobody k w h hk hx.1⟩
    · exact ⟨g, true, fun w b s fb V L st h => plWho k g w h.toPlIn hk hx, fun w q t rb uv tv h => rpOf k g w h hk hx⟩
/-- Both pools. -/
structure PP (w0 w : World) (n : Nat) (b s fb : Nat) (G : Nat → Int) (V : Nat → Value) (L : Nat → List plIt) (st : Value) (S : List stIt) (q t rb : Nat) (G2 : Nat → Int) (uv tv : Value) (S2 : List stIt) : Prop where
  p : PlAt w b s fb n G V L st S
  r : RPlAt w q t rb n G2 uv tv S2
  fp : From w0.heap.size b s fb V st
  frb : w0.heap.size ≤ rb
  fu : ∀ a, uv.ownBlock = some a → w0.heap.size ≤ a
  ft : ∀ a, tv.ownBlock = some a → w0.heap.size ≤ a
  ap : ∀ g, g < 16 → ∀ a, (V g).ownBlock = some a → uv.ownBlock ≠ some a
  bel : Bel w0.heap.size w0 w
section
variable {w0 w w' : World} {n b s fb : Nat} {G : Nat → Int} {V : Nat → Value} {L : Nat → List plIt} {st : Value} {S : List stIt} {q t rb : Nat} {G2 : Nat → Int} {uv tv : Value} {S2 : List stIt} {G' : Nat → Int} {S' : List stIt}
theorem PlAt.tch_typ (h : PlAt w b s fb n G V L st S) {g : Nat} (hg : g < 16) {i : Nat} (hi : Proofs.Ytgcnmhlojfncpaa.tch b fb (V g) st i) : ∃ c ty, w.heap[i]? = some (.cells c ty (0, 0)) ∧ (ty = 43 ∨ ty = 79 ∨ ty = 3 ∨ ty = 70) := by
  rcases hi with rfl | rfl | e | e
  · exact ⟨_, _, h.blk, .inl rfl⟩
  · obtain ⟨curf, s3, _⟩ := h.sto.2.2.1
    exact ⟨_, _, s3, .inr (.inl rfl)⟩
  · obtain ⟨cur, hc⟩ := own_typR (h.rows g hg) e.symm
    exact ⟨_, _, hc, .inr (.inr (.inl rfl))⟩
  · obtain ⟨cur, hc⟩ := own_typR h.seats e.symm
    exact ⟨_, _, hc, .inr (.inr (.inr rfl))⟩
theorem RPlAt.tch_typ (h : RPlAt w q t rb n G2 uv tv S2) (hn : 0 < n) {i : Nat} (hi : tchR rb uv tv i) : (∃ c ty, w.heap[i]? = some (.cells c ty (0, 0)) ∧ (ty = 22 ∨ ty = 4)) ∨ (uv.ownBlock = some i ∧ ∃ c, w.heap[i]? = some (.cells c 3 (0, 0))) := by
  rcases hi with rfl | e | e
  · obtain ⟨cur, hc⟩ := h.sto.blkR hn
    exact .inl ⟨_, _, hc, .inl rfl⟩
  · exact .inr ⟨e.symm, own_typR h.whos e.symm⟩
  · obtain ⟨cur, hc⟩ := own_typR h.tks e.symm
    exact .inl ⟨_, _, hc, .inr rfl⟩
theorem typ_same {i : Nat} {c1 c2 : Array Value} {t1 t2 : TypeId} {f1 f2 : Nat × Nat} (h1 : w.heap[i]? = some (.cells c1 t1 f1)) (h2 : w.heap[i]? = some (.cells c2 t2 f2)) : t1 = t2 := by
  rw [h1] at h2
  cases h2
  rfl
theorem PP.stepP (h : PP w0 w n b s fb G V L st S q t rb G2 uv tv S2) (m : PMove w w' b s fb n G' V L st S') : ∃ V' L', PP w0 w' n b s fb G' V' L' st S' q t rb G2 uv tv S2 := by
  obtain ⟨g, v', l', hg, hp, f, ho⟩ := m
  refine ⟨setV V g v', setV L g l', hp, h.r.frs f (fun i c ty fz hi ht hx => ?_) (fun a ha hx => ?_), h.fp.put hg h.bel.2 ho, h.frb, h.fu, h.ft, fun k hk a ha e => ?_, f.bel h.bel (h.fp.tch hg)⟩
  · obtain ⟨c2, ty2, hc2, ht2⟩ := h.p.tch_typ hg hx
    have := typ_same hi hc2
    subst this
    rcases ht2 with rfl | rfl | rfl | rfl <;> revert ht <;> decide
  · rcases hx with rfl | rfl | e | e
    · obtain ⟨cur, hc⟩ := own_typR h.r.whos ha
      exact absurd (typ_same h.p.blk hc) (by decide)
    · obtain ⟨cur, hc⟩ := own_typR h.r.whos ha
      obtain ⟨curf, s3, _⟩ := h.p.sto.2.2.1
      exact absurd (typ_same s3 hc) (by decide)
    · exact h.ap g hg a e.symm ha
    · obtain ⟨cur, hc⟩ := own_typR h.r.whos ha
      obtain ⟨cur2, hc2⟩ := own_typR h.p.seats e.symm
      exact absurd (typ_same hc2 hc) (by decide)
  · by_cases hkg : k = g
    · subst hkg
      rw [setV_at] at ha
      rcases ho with ho | ho
      · exact h.ap k hk a (ho ▸ ha) e
      · have h1 := ho a ha
        have h2 := (h.r.whos.lt a e).2
        omega
    · rw [setV_ne _ _ hkg] at ha
      exact h.ap k hk a ha e
theorem PP.notR (h : PP w0 w n b s fb G V L st S q t rb G2 uv tv S2) {i : Nat} {c : Array Value} {ty : TypeId} {fz : Nat × Nat} (hi : w.heap[i]? = some (.cells c ty fz)) (h1 : ty ≠ 22) (h2 : ty ≠ 4) (h3 : ty ≠ 3) : ¬ tchR rb uv tv i := by
  intro hx
  rcases h.r.tch_typ h.p.pos hx with ⟨c2, ty2, hc2, ht2⟩ | ⟨_, c2, hc2⟩
  · have := typ_same hi hc2
    subst this
    rcases ht2 with rfl | rfl
    · exact h1 rfl
    · exact h2 rfl
  · exact h3 (typ_same hi hc2)
theorem PP.stepR (h : PP w0 w n b s fb G V L st S q t rb G2 uv tv S2) (m : RMove w w' q t rb n G' uv tv S') : PP w0 w' n b s fb G V L st S q t rb G' uv tv S' := by
  obtain ⟨hr, f⟩ := m
  obtain ⟨curf, s3, _⟩ := h.p.sto.2.2.1
  refine ⟨h.p.frs f (h.notR h.p.blk (by decide) (by decide) (by decide)) (h.notR h.p.sto.2.1 (by decide) (by decide) (by decide)) (h.notR s3 (by decide) (by decide) (by decide)) (fun g hg a ha hx => ?_) (fun a ha => ?_), hr, h.fp, h.frb, h.fu, h.ft, h.ap, f.bel h.bel fun i hi => ?_⟩
  · obtain ⟨cur, hc⟩ := own_typR (h.p.rows g hg) ha
    rcases h.r.tch_typ h.p.pos hx with ⟨c2, ty2, hc2, ht2⟩ | ⟨e, _⟩
    · have := typ_same hc hc2
      subst this
      revert ht2
      decide
    · exact h.ap g hg a ha e
  · obtain ⟨cur, hc⟩ := own_typR h.p.seats ha
    exact h.notR hc (by decide) (by decide) (by decide)
  · rcases hi with rfl | e | e
    · exact h.frb
    · exact h.fu i e.symm
    · exact h.ft i e.symm
theorem PP.saveP (h : PP w0 w n b s fb G V L st S q t rb G2 uv tv S2) (hU : Upd fb w w') (hs : StoAt w' s fb n G') : PP w0 w' n b s fb G' V L st S q t rb G2 uv tv S2 := by
  obtain ⟨curf, s3, _⟩ := h.p.sto.2.2.1
  have f : Frs (fun i => i = fb) w w' := Frs.of_upd hU rfl
  refine ⟨⟨h.p.toPlIn.stored hU hs, h.p.perm, h.p.pos⟩, h.r.frs f (fun i c ty fz hi ht hx => ?_) (fun a ha hx => ?_), h.fp, h.frb, h.fu, h.ft, h.ap, h.bel.upd hU h.fp.fb⟩
  · subst hx
    have := typ_same hi s3
    subst this
    revert ht
    decide
  · subst hx
    obtain ⟨cur, hc⟩ := own_typR h.r.whos ha
    exact absurd (typ_same s3 hc) (by decide)
theorem PP.saveR (h : PP w0 w n b s fb G V L st S q t rb G2 uv tv S2) (hU : Upd rb w w') (hs : RStoAt w' t rb n G') : PP w0 w' n b s fb G V L st S q t rb G' uv tv S2 :=
  h.stepR ⟨h.r.stored h.p.pos hU hs, Frs.of_upd hU (.inl rfl)⟩
theorem PP.below (h : PP w0 w n b s fb G V L st S q t rb G2 uv tv S2) (hb : Below w.heap.size w w') : PP w0 w' n b s fb G V L st S q t rb G2 uv tv S2 :=
  ⟨h.p.below hb, h.r.below hb, h.fp, h.frb, h.fu, h.ft, h.ap, h.bel.of hb⟩
end
end Go.Proofs.Ytgcnmhlojfncpaa
