/- Texts of this proof in one: R07h, G15, G15p, Nums, GmapRightsWalk, R15, G15z, ImA, ImB, ImC, ImD, ImE, ImF. -/
import Derived.Test.YtklgfnboadchmaaMrgC
import Derived.Test.YtklgfnboadchmaaRows
import Derived.WalkKit
import Derived.Laws.BitsAllLaws
import Derived.Laws.CopyOwn
import Derived.Laws.MakeOwn

section
/- Both pools beside each other, at any arguments (XxR07p turned for seat h). -/
namespace Go.Proofs.Ytklgfnboadchmaa
open Go.ChangeShapes Go.WideShapes Go.ChangeAt Go.RowKit
set_option linter.unusedVariables false
set_option maxRecDepth 20000

section
variable {b s fb n : Nat} {G : Nat → Int} {V : Nat → Value} {L : Nat → List plIt} {st : Value} {S : List stIt}
theorem plOwnI (f : Nat) (y : Int) (g : Nat) (hy : y = g) (w : World) (h : PlAt w b s fb n G V L st S) (hf : f < n) (hg : g < 16) (hw : (atL S f).who = -1) :
    Calls Try.prog 30 #[.pointer (some ⟨b, 0, none⟩), .int .i64 f, .int .i64 y] w fun e w' => e = .returned (.int .i64 0) ∧ ∃ v' l', PlAt w' b s fb n (putF G (f * 64) 64 0) (setV V g v') (setV L g l') st (S.set f ⟨g, false⟩) ∧ Frs (tch b fb (V g) st) w w' ∧ (v'.ownBlock = (V g).ownBlock ∨ ∀ a, v'.ownBlock = some a → w.heap.size ≤ a) := by
  subst hy
  exact plOwn f g w h hf hg hw
end
section
variable {b s fb n : Nat} {G : Nat → Int} {V : Nat → Value} {L : Nat → List plIt} {st : Value} {S : List stIt}
/-- Take, whatever is left. -/
theorem plTakeAny (g : Nat) (w : World) (h : PlAt w b s fb n G V L st S) (hg : g < 16) :
    ((L g).length = 0 ∧ Calls Try.prog 34 #[.pointer (some ⟨b, 0, none⟩), .int .i64 g] w fun e w' => e = .returned (.tuple #[.int .i64 0, .int .i64 2]) ∧ w = w') ∨
    ∃ f, f < n ∧ Low S g f ∧ Calls Try.prog 34 #[.pointer (some ⟨b, 0, none⟩), .int .i64 g] w fun e w' => e = .returned (.tuple #[.int .i64 f, .int .i64 0]) ∧ ∃ v' l', PlAt w' b s fb n G (setV V g v') (setV L g l') st (S.set f ⟨g, true⟩) ∧ Frs (tch b fb (V g) st) w w' ∧ (v'.ownBlock = (V g).ownBlock ∨ ∀ a, v'.ownBlock = some a → w.heap.size ≤ a) := by
  by_cases h0 : (L g).length = 0
  · exact .inl ⟨h0, plTakeFull g w h.toPlIn h.pos hg h0⟩
  · obtain ⟨f, hlow, ht⟩ := h.top hg (by omega)
    exact .inr ⟨f, by rw [← h.len]; exact hlow.lt, hlow, plTake g f w h hg (by omega) hlow ht⟩
end
theorem least {P : Nat → Prop} (k : Nat) (h : P k) : ∃ f, f ≤ k ∧ P f ∧ ∀ j, j < f → ¬ P j := by
  induction k using Nat.strongRecOn with
  | ind k ih =>
    by_cases hx : ∃ j, j < k ∧ P j
    · obtain ⟨j, hj, hp⟩ := hx
      obtain ⟨f, h1, h2, h3⟩ := ih j hj hp
      exact ⟨f, by omega, h2, h3⟩
    · exact ⟨k, Nat.le_refl _, h, fun j hj hp => hx ⟨j, hj, hp⟩⟩
/-- What a call did to the pool. -/
def PMove (w w' : World) (b s fb n : Nat) (G' : Nat → Int) (V : Nat → Value) (L : Nat → List plIt) (st : Value) (S' : List stIt) : Prop :=
  ∃ g v' l', g < 16 ∧ PlAt w' b s fb n G' (setV V g v') (setV L g l') st S' ∧ Frs (tch b fb (V g) st) w w' ∧ (v'.ownBlock = (V g).ownBlock ∨ ∀ a, v'.ownBlock = some a → w.heap.size ≤ a)
def RMove (w w' : World) (q t rb n : Nat) (G' : Nat → Int) (uv tv : Value) (S' : List stIt) : Prop := RPlAt w' q t rb n G' uv tv S' ∧ Frs (tchR rb uv tv) w w'
theorem PlAt.same {w : World} {b s fb n : Nat} {G : Nat → Int} {V : Nat → Value} {L : Nat → List plIt} {st : Value} {S : List stIt} (h : PlAt w b s fb n G V L st S) : PMove w w b s fb n G V L st S :=
  ⟨0, V 0, L 0, by omega, by rw [setV_same, setV_same]; exact h, Frs.refl _ _, .inl rfl⟩
theorem RPlAt.same {w : World} {q t rb n : Nat} {G : Nat → Int} {uv tv : Value} {S : List stIt} (h : RPlAt w q t rb n G uv tv S) : RMove w w q t rb n G uv tv S := ⟨h, Frs.refl _ _⟩
abbrev PAll (n : Nat) (G : Nat → Int) (S : List stIt) (F : World → Nat → Nat → Nat → (Nat → Value) → (Nat → List plIt) → Value → Prop) : Prop := ∀ w b s fb V L st, PlAt w b s fb n G V L st S → F w b s fb V L st
abbrev RAll (n : Nat) (G : Nat → Int) (S : List stIt) (F : World → Nat → Nat → Nat → Value → Value → Prop) : Prop := ∀ w q t rb uv tv, RPlAt w q t rb n G uv tv S → F w q t rb uv tv

theorem own_both (n : Nat) (G : Nat → Int) (S : List stIt) (f who : Int) (hf : (Lit.int .i64 f).wf = true) (hn : 0 < n) (hS : ∀ f, f < n → (atL S f).who = -1 ∧ (atL S f).tk = false ∨ ∃ g : Nat, g < 16 ∧ (atL S f).who = g) : ∃ (E : Int) (G' : Nat → Int) (S' : List stIt),
    PAll n G S (fun w b s fb V L st => Calls Try.prog 30 #[.pointer (some ⟨b, 0, none⟩), .int .i64 f, .int .i64 who] w fun e w' => e = .returned (.int .i64 E) ∧ PMove w w' b s fb n G' V L st S') ∧
    RAll n G S (fun w q t rb uv tv => Calls Try.prog 31 #[.pointer (some ⟨q, 0, none⟩), .int .i64 f, .int .i64 who] w fun e w' => e = .returned (.int .i64 E) ∧ RMove w w' q t rb n G' uv tv S') := by
  by_cases hno : f < 0 ∨ (n : Int) ≤ f ∨ who < 0 ∨ 16 ≤ who
  · refine ⟨1, G, S, fun w b s fb V L st h => ?_, fun w q t rb uv tv h => ?_⟩
    · refine (plOwnNo f who w h.toPlIn hn hno).mono ?_
      rintro e w' ⟨rfl, rfl⟩
      exact ⟨rfl, h.same⟩
    · refine (rpOwnNo f who w h hf hno).mono ?_
      rintro e w' ⟨rfl, rfl⟩
      exact ⟨rfl, h.same⟩
  · obtain ⟨k, rfl⟩ : ∃ k : Nat, f = k := ⟨f.toNat, by omega⟩
    obtain ⟨g, rfl⟩ : ∃ g : Nat, who = g := ⟨who.toNat, by omega⟩
    have hk : k < n := by omega
    have hg : g < 16 := by omega
    by_cases hw : (atL S k).who = -1
    · refine ⟨0, putF G (k * 64) 64 0, S.set k ⟨g, false⟩, fun w b s fb V L st h => ?_, fun w q t rb uv tv h => ?_⟩
      · refine (plOwn k g w h hk hg hw).mono ?_
        rintro e w' ⟨rfl, v', l', h2, f2, o2⟩
        exact ⟨rfl, g, v', l', hg, h2, f2, o2⟩
      · refine (rpOwn k g w h hk hg hw).mono ?_
        rintro e w' ⟨rfl, h2, f2⟩
        exact ⟨rfl, h2, f2⟩
    · refine ⟨5, G, S, fun w b s fb V L st h => ?_, fun w q t rb uv tv h => ?_⟩
      · refine (plOwnUsed k g w h.toPlIn hk hg hw).mono ?_
        rintro e w' ⟨rfl, rfl⟩
        exact ⟨rfl, h.same⟩
      · refine (rpOwnUsed k g w h hk hg hw).mono ?_
        rintro e w' ⟨rfl, rfl⟩
        exact ⟨rfl, h.same⟩
theorem take_both (n : Nat) (G : Nat → Int) (S : List stIt) (who : Int) (hn : 0 < n) (hl : S.length = n) : ∃ (X E : Int) (S' : List stIt),
    PAll n G S (fun w b s fb V L st => Calls Try.prog 34 #[.pointer (some ⟨b, 0, none⟩), .int .i64 who] w fun e w' => e = .returned (.tuple #[.int .i64 X, .int .i64 E]) ∧ PMove w w' b s fb n G V L st S') ∧
    RAll n G S (fun w q t rb uv tv => Calls Try.prog 48 #[.pointer (some ⟨q, 0, none⟩), .int .i64 who] w fun e w' => e = .returned (.tuple #[.int .i64 X, .int .i64 E]) ∧ RMove w w' q t rb n G uv tv S') := by
  by_cases hno : who < 0 ∨ 16 ≤ who
  · refine ⟨0, 1, S, fun w b s fb V L st h => ?_, fun w q t rb uv tv h => ?_⟩
    · refine (plTakeBad who w h.toPlIn hn hno).mono ?_
      rintro e w' ⟨rfl, rfl⟩
      exact ⟨rfl, h.same⟩
    · refine (rpTakeBad who w h hno).mono ?_
      rintro e w' ⟨rfl, rfl⟩
      exact ⟨rfl, h.same⟩
  · obtain ⟨g, rfl⟩ : ∃ g : Nat, who = g := ⟨who.toNat, by omega⟩
    have hg : g < 16 := by omega
    by_cases hex : ∃ k, k < n ∧ (atL S k).who = g ∧ (atL S k).tk = false
    · obtain ⟨k, hk, hp⟩ := hex
      obtain ⟨f, hfk, hpf, hpre⟩ := least (P := fun k => (atL S k).who = g ∧ (atL S k).tk = false) k hp
      have hlow : Low S g f := ⟨by omega, hpf.1, hpf.2, hpre⟩
      refine ⟨f, 0, S.set f ⟨g, true⟩, fun w b s fb V L st h => ?_, fun w q t rb uv tv h => ?_⟩
      · rcases plTakeAny g w h hg with ⟨h0, _⟩ | ⟨f', hf', hlow', hc⟩
        · exact absurd ⟨hlow.who, hlow.tk⟩ (h.none_left hg h0 f (by omega))
        · obtain rfl := low_one hlow hlow'
          refine hc.mono ?_
          rintro e w' ⟨rfl, v', l', h2, f2, o2⟩
          exact ⟨rfl, g, v', l', hg, h2, f2, o2⟩
      · refine (rpTake g f w h hg hlow).mono ?_
        rintro e w' ⟨rfl, h2, f2⟩
        exact ⟨rfl, h2, f2⟩
    · have hno2 : ∀ k, k < n → ¬ ((atL S k).who = g ∧ (atL S k).tk = false) := fun k hk hc => hex ⟨k, hk, hc⟩
      refine ⟨0, 2, S, fun w b s fb V L st h => ?_, fun w q t rb uv tv h => ?_⟩
      · rcases plTakeAny g w h hg with ⟨h0, hc⟩ | ⟨f', hf', hlow', hc⟩
        · refine hc.mono ?_
          rintro e w' ⟨rfl, rfl⟩
          exact ⟨rfl, h.same⟩
        · exact absurd ⟨hlow'.who, hlow'.tk⟩ (hno2 f' hf')
      · refine (rpTakeFull g w h hg hno2).mono ?_
        rintro e w' ⟨rfl, rfl⟩
        exact ⟨rfl, h.same⟩
theorem back_both (n : Nat) (G : Nat → Int) (S : List stIt) (f : Int) (hf : (Lit.int .i64 f).wf = true) (hn : 0 < n) (hS : ∀ f, f < n → (atL S f).who = -1 ∧ (atL S f).tk = false ∨ ∃ g : Nat, g < 16 ∧ (atL S f).who = g) : ∃ (E : Int) (G' : Nat → Int) (S' : List stIt),
    PAll n G S (fun w b s fb V L st => Calls Try.prog 37 #[.pointer (some ⟨b, 0, none⟩), .int .i64 f] w fun e w' => e = .returned (.int .i64 E) ∧ PMove w w' b s fb n G' V L st S') ∧
    RAll n G S (fun w q t rb uv tv => Calls Try.prog 45 #[.pointer (some ⟨q, 0, none⟩), .int .i64 f] w fun e w' => e = .returned (.int .i64 E) ∧ RMove w w' q t rb n G' uv tv S') := by
  by_cases hno : f < 0 ∨ (n : Int) ≤ f
  · refine ⟨1, G, S, fun w b s fb V L st h => ?_, fun w q t rb uv tv h => ?_⟩
    · refine (plBackNo f w h.toPlIn hn hno).mono ?_
      rintro e w' ⟨rfl, rfl⟩
      exact ⟨rfl, h.same⟩
    · refine (rpBackNo f w h hf hno).mono ?_
      rintro e w' ⟨rfl, rfl⟩
      exact ⟨rfl, h.same⟩
  · obtain ⟨k, rfl⟩ : ∃ k : Nat, f = k := ⟨f.toNat, by omega⟩
    have hk : k < n := by omega
    cases ht : (atL S k).tk
    · refine ⟨3, G, S, fun w b s fb V L st h => ?_, fun w q t rb uv tv h => ?_⟩
      · refine (plBackFree k w h.toPlIn hk ht).mono ?_
        rintro e w' ⟨rfl, rfl⟩
        exact ⟨rfl, h.same⟩
      · refine (rpBackFree k w h hk ht).mono ?_
        rintro e w' ⟨rfl, rfl⟩
        exact ⟨rfl, h.same⟩
    · obtain ⟨g, hg, hw⟩ : ∃ g : Nat, g < 16 ∧ (atL S k).who = g := by
        rcases hS k hk with hx | hx
        · rw [hx.2] at ht; cases ht
        · exact hx
      refine ⟨0, putF G (k * 64) 64 0, S.set k ⟨g, false⟩, fun w b s fb V L st h => ?_, fun w q t rb uv tv h => ?_⟩
      · refine (plBack k w h hk ht).mono ?_
        rintro e w' ⟨rfl, g2, v', l', hg2, hw2, h2, f2, o2⟩
        have e2 : g2 = g := by omega
        subst e2
        exact ⟨rfl, g2, v', l', hg2, h2, f2, o2⟩
      · refine (rpBack k g w h hk hg hw ht).mono ?_
        rintro e w' ⟨rfl, h2, f2⟩
        exact ⟨rfl, h2, f2⟩
/-- How many are left to anyone. -/
def leftC (S : List stIt) (who : Int) : Int := if 0 ≤ who ∧ who < 16 then (leftL S who.toNat).length else 0
theorem left_both (n : Nat) (G : Nat → Int) (S : List stIt) (who : Int) (hn : 0 < n) (hl : S.length = n) (hS : ∀ f, f < n → (atL S f).who = -1 ∧ (atL S f).tk = false ∨ ∃ g : Nat, g < 16 ∧ (atL S f).who = g) : ∃ X : Int,
    PAll n G S (fun w b s fb V L st => Calls Try.prog 12 #[.pointer (some ⟨b, 0, none⟩), .int .i64 who] w fun e w' => e = .returned (.int .i64 X) ∧ w = w') ∧
    RAll n G S (fun w q t rb uv tv => Calls Try.prog 46 #[.pointer (some ⟨q, 0, none⟩), .int .i64 who] w fun e w' => e = .returned (.int .i64 X) ∧ w = w') := by
  by_cases h0 : who < 0
  · exact ⟨0, fun w b s fb V L st h => plLeftNo who w h.toPlIn hn (.inl h0), fun w q t rb uv tv h => rpLeftNeg who w h h0⟩
  · obtain ⟨g, rfl⟩ : ∃ g : Nat, who = g := ⟨who.toNat, by omega⟩
    by_cases hg : g < 16
    · refine ⟨(leftL S g).length, fun w b s fb V L st h => ?_, fun w q t rb uv tv h => rpLeft g w h⟩
      rw [← (h.perm g hg).length_eq]
      exact plLeft g w h.toPlIn hn hg
    · have hz : leftL S g = [] := by
        rw [List.eq_nil_iff_forall_not_mem]
        intro x hx
        obtain ⟨k, hk, h1, _⟩ := mem_leftL.1 hx
        rcases hS k (by omega) with hh | ⟨g', h2, h3⟩
        · omega
        · omega
      refine ⟨0, fun w b s fb V L st h => plLeftNo g w h.toPlIn hn (.inr (by omega)), fun w q t rb uv tv h => ?_⟩
      have := rpLeft g w h
      rw [hz] at this
      exact this
/-- Both pools. -/
structure PP (w0 w : World) (n : Nat) (b s fb : Nat) (G : Nat → Int) (V : Nat → Value) (L : Nat → List plIt) (st : Value) (S : List stIt) (q t rb : Nat) (G2 : Nat → Int) (uv tv : Value) (S2 : List stIt) : Prop where
  p : PlAt w b s fb n G V L st S
  r : RPlAt w q t rb n G2 uv tv S2
  fp : From w0.heap.size b s fb V st
  frb : w0.heap.size ≤ rb
  fu : ∀ a, uv.ownBlock = some a → w0.heap.size ≤ a
  ft : ∀ a, tv.ownBlock = some a → w0.heap.size ≤ a
  ap : ∀ g, g < 16 → ∀ a, (V g).ownBlock = some a → uv.ownBlock ≠ some a
  bel : Bel w0.heap.size w0 w
section
variable {w0 w w' : World} {n b s fb : Nat} {G : Nat → Int} {V : Nat → Value} {L : Nat → List plIt} {st : Value} {S : List stIt} {q t rb : Nat} {G2 : Nat → Int} {uv tv : Value} {S2 : List stIt} {G' : Nat → Int} {S' : List stIt}
theorem PlAt.tch_typ (h : PlAt w b s fb n G V L st S) {g : Nat} (hg : g < 16) {i : Nat} (hi : Proofs.Ytklgfnboadchmaa.tch b fb (V g) st i) : ∃ c ty, w.heap[i]? = some (.cells c ty (0, 0)) ∧ (ty = 92 ∨ ty = 101 ∨ ty = 3 ∨ ty = 103) := by
  rcases hi with rfl | rfl | e | e
  · exact ⟨_, _, h.blk, .inl rfl⟩
  · obtain ⟨curf, s3, _⟩ := h.sto.2.2.1
    exact ⟨_, _, s3, .inr (.inl rfl)⟩
  · obtain ⟨cur, hc⟩ := own_typR (h.rows g hg) e.symm
    exact ⟨_, _, hc, .inr (.inr (.inl rfl))⟩
  · obtain ⟨cur, hc⟩ := own_typR h.seats e.symm
    exact ⟨_, _, hc, .inr (.inr (.inr rfl))⟩
theorem RPlAt.tch_typ (h : RPlAt w q t rb n G2 uv tv S2) (hn : 0 < n) {i : Nat} (hi : tchR rb uv tv i) : (∃ c ty, w.heap[i]? = some (.cells c ty (0, 0)) ∧ (ty = 45 ∨ ty = 4)) ∨ (uv.ownBlock = some i ∧ ∃ c, w.heap[i]? = some (.cells c 3 (0, 0))) := by
  rcases hi with rfl | e | e
  · obtain ⟨cur, hc⟩ := h.sto.blkR hn
    exact .inl ⟨_, _, hc, .inl rfl⟩
  · exact .inr ⟨e.symm, own_typR h.whos e.symm⟩
  · obtain ⟨cur, hc⟩ := own_typR h.tks e.symm
    exact .inl ⟨_, _, hc, .inr rfl⟩
theorem typ_same {i : Nat} {c1 c2 : Array Value} {t1 t2 : TypeId} {f1 f2 : Nat × Nat} (h1 : w.heap[i]? = some (.cells c1 t1 f1)) (h2 : w.heap[i]? = some (.cells c2 t2 f2)) : t1 = t2 := by
  rw [h1] at h2
  cases h2
  rfl
theorem PP.stepP (h : PP w0 w n b s fb G V L st S q t rb G2 uv tv S2) (m : PMove w w' b s fb n G' V L st S') : ∃ V' L', PP w0 w' n b s fb G' V' L' st S' q t rb G2 uv tv S2 := by
  obtain ⟨g, v', l', hg, hp, f, ho⟩ := m
  refine ⟨setV V g v', setV L g l', hp, h.r.frs f (fun i c ty fz hi ht hx => ?_) (fun a ha hx => ?_), h.fp.put hg h.bel.2 ho, h.frb, h.fu, h.ft, fun k hk a ha e => ?_, f.bel h.bel (h.fp.tch hg)⟩
  · obtain ⟨c2, ty2, hc2, ht2⟩ := h.p.tch_typ hg hx
    have := typ_same hi hc2
    subst this
    rcases ht2 with rfl | rfl | rfl | rfl <;> revert ht <;> decide
  · rcases hx with rfl | rfl | e | e
    · obtain ⟨cur, hc⟩ := own_typR h.r.whos ha
      exact absurd (typ_same h.p.blk hc) (by decide)
    · obtain ⟨cur, hc⟩ := own_typR h.r.whos ha
      obtain ⟨curf, s3, _⟩ := h.p.sto.2.2.1
      exact absurd (typ_same s3 hc) (by decide)
    · exact h.ap g hg a e.symm ha
    · obtain ⟨cur, hc⟩ := own_typR h.r.whos ha
      obtain ⟨cur2, hc2⟩ := own_typR h.p.seats e.symm
      exact absurd (typ_same hc2 hc) (by decide)
  · by_cases hkg : k = g
    · subst hkg
      rw [setV_at] at ha
      rcases ho with ho | ho
      · exact h.ap k hk a (ho ▸ ha) e
      · have h1 := ho a ha
        have h2 := (h.r.whos.lt a e).2
        omega
    · rw [setV_ne _ _ hkg] at ha
      exact h.ap k hk a ha e
theorem PP.notR (h : PP w0 w n b s fb G V L st S q t rb G2 uv tv S2) {i : Nat} {c : Array Value} {ty : TypeId} {fz : Nat × Nat} (hi : w.heap[i]? = some (.cells c ty fz)) (h1 : ty ≠ 45) (h2 : ty ≠ 4) (h3 : ty ≠ 3) : ¬ tchR rb uv tv i := by
  intro hx
  rcases h.r.tch_typ h.p.pos hx with ⟨c2, ty2, hc2, ht2⟩ | ⟨_, c2, hc2⟩
  · have := typ_same hi hc2
    subst this
    rcases ht2 with rfl | rfl
    · exact h1 rfl
    · exact h2 rfl
  · exact h3 (typ_same hi hc2)
theorem PP.stepR (h : PP w0 w n b s fb G V L st S q t rb G2 uv tv S2) (m : RMove w w' q t rb n G' uv tv S') : PP w0 w' n b s fb G V L st S q t rb G' uv tv S' := by
  obtain ⟨hr, f⟩ := m
  obtain ⟨curf, s3, _⟩ := h.p.sto.2.2.1
  refine ⟨h.p.frs f (h.notR h.p.blk (by decide) (by decide) (by decide)) (h.notR h.p.sto.2.1 (by decide) (by decide) (by decide)) (h.notR s3 (by decide) (by decide) (by decide)) (fun g hg a ha hx => ?_) (fun a ha => ?_), hr, h.fp, h.frb, h.fu, h.ft, h.ap, f.bel h.bel fun i hi => ?_⟩
  · obtain ⟨cur, hc⟩ := own_typR (h.p.rows g hg) ha
    rcases h.r.tch_typ h.p.pos hx with ⟨c2, ty2, hc2, ht2⟩ | ⟨e, _⟩
    · have := typ_same hc hc2
      subst this
      revert ht2
      decide
    · exact h.ap g hg a ha e
  · obtain ⟨cur, hc⟩ := own_typR h.p.seats ha
    exact h.notR hc (by decide) (by decide) (by decide)
  · rcases hi with rfl | e | e
    · exact h.frb
    · exact h.fu i e.symm
    · exact h.ft i e.symm
theorem PP.saveP (h : PP w0 w n b s fb G V L st S q t rb G2 uv tv S2) (hU : Upd fb w w') (hs : StoAt w' s fb n G') : PP w0 w' n b s fb G' V L st S q t rb G2 uv tv S2 := by
  obtain ⟨curf, s3, _⟩ := h.p.sto.2.2.1
  have f : Frs (fun i => i = fb) w w' := Frs.of_upd hU rfl
  refine ⟨⟨h.p.toPlIn.stored hU hs, h.p.perm, h.p.pos⟩, h.r.frs f (fun i c ty fz hi ht hx => ?_) (fun a ha hx => ?_), h.fp, h.frb, h.fu, h.ft, h.ap, h.bel.upd hU h.fp.fb⟩
  · subst hx
    have := typ_same hi s3
    subst this
    revert ht
    decide
  · subst hx
    obtain ⟨cur, hc⟩ := own_typR h.r.whos ha
    exact absurd (typ_same s3 hc) (by decide)
theorem PP.saveR (h : PP w0 w n b s fb G V L st S q t rb G2 uv tv S2) (hU : Upd rb w w') (hs : RStoAt w' t rb n G') : PP w0 w' n b s fb G V L st S q t rb G' uv tv S2 :=
  h.stepR ⟨h.r.stored h.p.pos hU hs, Frs.of_upd hU (.inl rfl)⟩
theorem PP.below (h : PP w0 w n b s fb G V L st S q t rb G2 uv tv S2) (hb : Below w.heap.size w w') : PP w0 w' n b s fb G V L st S q t rb G2 uv tv S2 :=
  ⟨h.p.below hb, h.r.below hb, h.fp, h.frb, h.fu, h.ft, h.ap, h.bel.of hb⟩
end
section
variable {w0 w w' : World} {n b s fb : Nat} {G : Nat → Int} {V : Nat → Value} {L : Nat → List plIt} {st : Value} {S : List stIt} {q t rb : Nat} {G2 : Nat → Int} {uv tv : Value} {S2 : List stIt}
theorem PP.later (h : PP w0 w n b s fb G V L st S q t rb G2 uv tv S2) {x : Lat w} : PP w0 (Proofs.Ytklgfnboadchmaa.later w x) n b s fb G V L st S q t rb G2 uv tv S2 := h.below (later_below w x)
theorem PP.drew (h : PP w0 w n b s fb G V L st S q t rb G2 uv tv S2) : PP w0 w.drew n b s fb G V L st S q t rb G2 uv tv S2 := h.below (Bel.refl w).drew.1
theorem PMove.bel {B : Nat} {a : World} (m : PMove w w' b s fb n G V L st S) (hF : From B b s fb V st) (h : Bel B a w) : Bel B a w' := by
  obtain ⟨g, v', l', hg, hp, f, ho⟩ := m
  exact f.bel h (hF.tch hg)
theorem PP.rbel {a : World} (hP : PP w0 w n b s fb G V L st S q t rb G2 uv tv S2) {G' : Nat → Int} {S' : List stIt} (m : RMove w w' q t rb n G' uv tv S') (h : Bel w0.heap.size a w) : Bel w0.heap.size a w' := by
  refine m.2.bel h fun i hi => ?_
  rcases hi with rfl | e | e
  · exact hP.frb
  · exact hP.fu i e.symm
  · exact hP.ft i e.symm
end
end Go.Proofs.Ytklgfnboadchmaa
end

section
/- Contracts of the package gmap. A map in memory is a function from pages to (frame, rights). -/
namespace Go.Proofs.Ytklgfnboadchmaa
open Go.ChangeShapes Go.WideShapes Go.ChangeAt Go.RowKit
set_option linter.unusedVariables false
set_option maxRecDepth 20000

@[go_sem] theorem place_held : Try.prog.stoodInHeld 32 = false := by kernel_rfl
@[go_sem] theorem place_guard : Try.prog.eqGuardType Try.prog.depth 32 = false := by kernel_rfl
@[go_sem high] theorem eql_place (a b a' b' : Int) (w : World) : (binOp .eql 32 (.agg #[.int .i64 a, .int .i64 b]) (.agg #[.int .i64 a', .int .i64 b'])).run Try.prog w = .ok (.bool (a == a' && b == b')) w := by
  simp [go_sem]
  repeat' split
  all_goals simp_all
@[go_sem high] theorem neq_place (a b a' b' : Int) (w : World) : (binOp .neq 32 (.agg #[.int .i64 a, .int .i64 b]) (.agg #[.int .i64 a', .int .i64 b'])).run Try.prog w = .ok (.bool (!(a == a' && b == b'))) w := by
  simp [go_sem]
  repeat' split
  all_goals simp_all

def mapCells (M : Nat → Int × Int) : List Value := ((List.range 12).flatMap fun i => [.int .i64 (M i).1, .int .i64 (M i).2]) ++ [.bool true]
def MapAt (w : World) (b : Nat) (M : Nat → Int × Int) : Prop := w.heap[b]? = some (.cells (mapCells M).toArray 35 (0, 0))

theorem lt12 {k : Nat} (h : k < 12) : k = 0 ∨ k = 1 ∨ k = 2 ∨ k = 3 ∨ k = 4 ∨ k = 5 ∨ k = 6 ∨ k = 7 ∨ k = 8 ∨ k = 9 ∨ k = 10 ∨ k = 11 := by omega

theorem MapAt.cell {w : World} {b : Nat} {M : Nat → Int × Int} (h : MapAt w b M) (o : Nat) : w.cell? ⟨b, o, none⟩ = (mapCells M)[o]? := by
  unfold MapAt at h
  simp [World.cell?, h]
theorem MapAt.frozen {w : World} {b : Nat} {M : Nat → Int × Int} (h : MapAt w b M) (o : Nat) : w.frozen? ⟨b, o, none⟩ = false := by
  unfold MapAt at h
  simp [World.frozen?, h]
theorem mapCells_frame (M : Nat → Int × Int) (k : Nat) (h : k < 12) : (mapCells M)[k * 2]? = some (.int .i64 (M k).1) := by
  rcases lt12 h with rfl | rfl | rfl | rfl | rfl | rfl | rfl | rfl | rfl | rfl | rfl | rfl <;> rfl
theorem mapCells_rights (M : Nat → Int × Int) (k : Nat) (h : k < 12) : (mapCells M)[k * 2 + 1]? = some (.int .i64 (M k).2) := by
  rcases lt12 h with rfl | rfl | rfl | rfl | rfl | rfl | rfl | rfl | rfl | rfl | rfl | rfl <;> rfl
theorem mapCells_made (M : Nat → Int × Int) : (mapCells M)[24]? = some (.bool true) := rfl

def pageB (n : Int) : Bool := decide (0 ≤ n) && decide (n < 12)
def isThere (M : Nat → Int × Int) (k : Nat) : Bool := !((M k).1 == 0) || !((M k).2 == 0)

theorem none_map (b : Nat) (M : Nat → Int × Int) (w : World) (h : MapAt w b M) : Calls Try.prog 38 #[.pointer (some ⟨b, 0, none⟩)] w fun e w' => e = .returned (.bool false) ∧ w = w' := by
  have h1 : w.cell? ⟨b, 24, none⟩ = some (.bool true) := (h.cell 24).trans (mapCells_made M)
  clear h
  go_enter Try.func38, Try.ntmps38
  go_wp2
  go_ret
  exact ⟨rfl, rfl⟩

theorem MapAt.lt {w : World} {b : Nat} {M : Nat → Int × Int} (h : MapAt w b M) : b < w.heap.size := lt_heap h
theorem MapAt.later {w : World} {b : Nat} {M : Nat → Int × Int} {x : Lat w} (h : MapAt w b M) : MapAt (Proofs.Ytklgfnboadchmaa.later w x) b M := heap_later h
theorem MapAt.alloc {w : World} {b : Nat} {M : Nat → Int × Int} {o : Obj} (h : MapAt w b M) : MapAt (w.alloc o) b M := heap_alloc h

theorem page_any (n : Int) (w : World) : Calls Try.prog 55 #[.int .i64 n] w fun e w' => e = .returned (.bool (pageB n)) ∧ w = w' := by
  by_cases h0 : 0 ≤ n
  case' neg => have h0' : decide (0 ≤ n) = false := by simp; omega
  all_goals
    go_enter Try.func55, Try.ntmps55
    go_wp2
    go_ret
    exact ⟨ret_bool (by simp [pageB, *]), rfl⟩

theorem there_in (b : Nat) (M : Nat → Int × Int) (k : Nat) (hk : k < 12) (w : World) (h : MapAt w b M) :
    Calls Try.prog 39 #[.pointer (some ⟨b, 0, none⟩), .int .i64 k] w fun e w' => e = .returned (.bool (isThere M k)) ∧ w = w' := by
  have hp : pageB (k : Int) = true := by simp [pageB]; omega
  have h1 : w.cell? ⟨b, k * 2, none⟩ = some (.int .i64 (M k).1) := (h.cell _).trans (mapCells_frame M k hk)
  have h2 : w.cell? ⟨b, k * 2 + 1, none⟩ = some (.int .i64 (M k).2) := (h.cell _).trans (mapCells_rights M k hk)
  clear h
  go_enter Try.func39, Try.ntmps39
  go_wp2_with (go_at_call 55; refine (page_any _ _).mono ?_; rintro e w' ⟨rfl, rfl⟩)
  go_ret
  exact ⟨rfl, rfl⟩

theorem there_out (b : Nat) (n : Int) (hn : pageB n = false) (w : World) :
    Calls Try.prog 39 #[.pointer (some ⟨b, 0, none⟩), .int .i64 n] w fun e w' => e = .returned (.bool false) ∧ w = w' := by
  go_enter Try.func39, Try.ntmps39
  go_wp2_with (go_at_call 55; refine (page_any _ _).mono ?_; rintro e w' ⟨rfl, rfl⟩)
  go_ret
  exact ⟨rfl, rfl⟩

def placeB (fr ri : Int) : Bool := decide (0 ≤ fr) && (decide (fr < 32) && (decide (1 ≤ ri) && decide (ri ≤ 3)))

theorem place_any (fr ri : Int) (w : World) : Calls Try.prog 56 #[.agg #[.int .i64 fr, .int .i64 ri]] w fun e w' => e = .returned (.bool (placeB fr ri)) ∧ Below w.heap.size w w' := by
  by_cases h0 : 0 ≤ fr
  case' neg => have h0' : decide (0 ≤ fr) = false := by simp; omega
  case' pos =>
    by_cases h1 : fr < 32
    case' neg => have h1' : decide (fr < 32) = false := by simp; omega
    case' pos =>
      by_cases h2 : 1 ≤ ri
      case' neg => have h2' : decide (1 ≤ ri) = false := by simp; omega
  all_goals
    go_enter Try.func56, Try.ntmps56
    go_wp2
    go_ret
    exact ⟨ret_bool (by simp [placeB, *]), (Below.refl _ _).alloc (Nat.le_refl _) _⟩

def upd (M : Nat → Int × Int) (k : Nat) (p : Int × Int) : Nat → Int × Int := fun i => if i = k then p else M i

theorem mapCells_upd (M : Nat → Int × Int) (k : Nat) (h : k < 12) (fr ri : Int) : ((mapCells M).toArray.setIfInBounds (k * 2) (.int .i64 fr)).setIfInBounds (k * 2 + 1) (.int .i64 ri) = (mapCells (upd M k (fr, ri))).toArray := by
  rcases lt12 h with rfl | rfl | rfl | rfl | rfl | rfl | rfl | rfl | rfl | rfl | rfl | rfl <;> rfl

theorem MapAt.set {w : World} {b : Nat} {M : Nat → Int × Int} (h : MapAt w b M) (k : Nat) (hk : k < 12) (fr ri : Int) :
    MapAt ((w.setCell ⟨b, k * 2, none⟩ (.int .i64 fr)).setCell ⟨b, k * 2 + 1, none⟩ (.int .i64 ri)) b (upd M k (fr, ri)) := by
  have := heap_setCell_at (o := k * 2 + 1) (u := .int .i64 ri) (heap_setCell_at (o := k * 2) (u := .int .i64 fr) h)
  rwa [mapCells_upd M k hk] at this

def setRes (M : Nat → Int × Int) (n fr ri : Int) : Int := if pageB n = true ∧ placeB fr ri = true then (if isThere M n.toNat then 5 else 0) else 1
def setNew (M : Nat → Int × Int) (n fr ri : Int) : Nat → Int × Int := if pageB n = true ∧ placeB fr ri = true ∧ isThere M n.toNat = false then upd M n.toNat (fr, ri) else M

theorem set_any (b : Nat) (M : Nat → Int × Int) (n fr ri : Int) (w : World) (h : MapAt w b M) :
    Calls Try.prog 23 #[.pointer (some ⟨b, 0, none⟩), .int .i64 n, .agg #[.int .i64 fr, .int .i64 ri]] w fun e w' => e = .returned (.int .i64 (setRes M n fr ri)) ∧ Upd b w w' ∧ MapAt w' b (setNew M n fr ri) := by
  have hb := h.lt
  cases hp : pageB n with
  | false =>
    go_enter Try.func23, Try.ntmps23
    go_wp2_with (first | (go_at_call 55; refine (page_any _ _).mono ?_; rintro e w' ⟨rfl, rfl⟩) | (go_at_call 38; refine (none_map _ M _ h.alloc).mono ?_; rintro e w' ⟨rfl, rfl⟩))
    go_ret
    exact ⟨ret_int (by simp [setRes, hp]), (Upd.refl _ _).alloc, by simp only [setNew, hp, Bool.false_eq_true, false_and, if_false]; exact h.alloc⟩
  | true =>
    have hp' : 0 ≤ n ∧ n < 12 := by simpa [pageB] using hp
    obtain ⟨k, rfl⟩ := Int.eq_ofNat_of_zero_le hp'.1
    have hk : k < 12 := by omega
    clear hp'
    cases hq : placeB fr ri with
    | false =>
      go_enter Try.func23, Try.ntmps23
      go_wp2_with (first | (go_at_call 55; refine (page_any _ _).mono ?_; rintro e w' ⟨rfl, rfl⟩) | (go_at_call 56; refine (Calls.lat (place_any _ _ _)).mono ?_; rintro e w' ⟨rfl, x, rfl⟩) | (go_at_call 38; refine (none_map _ M _ h.alloc).mono ?_; rintro e w' ⟨rfl, rfl⟩))
      go_ret
      exact ⟨ret_int (by simp [setRes, hq]), (Upd.refl _ _).alloc.later, by simp only [setNew, hq, Bool.false_eq_true, false_and, and_false, if_false]; exact h.alloc.later⟩
    | true =>
      cases ht : isThere M k with
      | true =>
        go_enter Try.func23, Try.ntmps23
        go_wp2_with (first | (go_at_call 55; refine (page_any _ _).mono ?_; rintro e w' ⟨rfl, rfl⟩) | (go_at_call 56; refine (Calls.lat (place_any _ _ _)).mono ?_; rintro e w' ⟨rfl, x, rfl⟩) | (go_at_call 38; refine (none_map _ M _ h.alloc).mono ?_; rintro e w' ⟨rfl, rfl⟩) | (go_at_call 39; refine (there_in _ M k hk _ h.alloc.later).mono ?_; rintro e w' ⟨rfl, rfl⟩))
        go_ret
        exact ⟨ret_int (by simp [setRes, hp, hq, ht]), (Upd.refl _ _).alloc.later, by simp only [setNew, Int.toNat_natCast, ht, Bool.true_eq_false, and_false, if_false]; exact h.alloc.later⟩
      | false =>
        have h1 : w.cell? ⟨b, k * 2, none⟩ = some (.int .i64 (M k).1) := (h.cell _).trans (mapCells_frame M k hk)
        have h2 : w.cell? ⟨b, k * 2 + 1, none⟩ = some (.int .i64 (M k).2) := (h.cell _).trans (mapCells_rights M k hk)
        have h3 : w.frozen? ⟨b, k * 2, none⟩ = false := h.frozen _
        have h4 : w.frozen? ⟨b, k * 2 + 1, none⟩ = false := h.frozen _
        go_enter Try.func23, Try.ntmps23
        go_wp2_with (first | (go_at_call 55; refine (page_any _ _).mono ?_; rintro e w' ⟨rfl, rfl⟩) | (go_at_call 56; refine (Calls.lat (place_any _ _ _)).mono ?_; rintro e w' ⟨rfl, x, rfl⟩) | (go_at_call 38; refine (none_map _ M _ h.alloc).mono ?_; rintro e w' ⟨rfl, rfl⟩) | (go_at_call 39; refine (there_in _ M k hk _ h.alloc.later).mono ?_; rintro e w' ⟨rfl, rfl⟩))
        go_region
        go_wp2
        go_ret
        refine ⟨ret_int (by simp [setRes, hp, hq, ht]), ((Upd.refl _ _).alloc.later.setCell.setCell).drew, ?_⟩
        simp only [setNew, Int.toNat_natCast, hp, hq, ht, and_self, if_true]
        exact h.alloc.later.set k hk fr ri

def dropRes (M : Nat → Int × Int) (n : Int) : Int := if pageB n = true then (if isThere M n.toNat then 0 else 3) else 1
def dropNew (M : Nat → Int × Int) (n : Int) : Nat → Int × Int := if pageB n = true then upd M n.toNat (0, 0) else M

theorem upd_same (M : Nat → Int × Int) (k : Nat) (h : isThere M k = false) : upd M k (0, 0) = M := by
  funext i
  unfold upd
  split
  · rename_i e
    subst e
    simp [isThere] at h
    exact Prod.ext h.1.symm h.2.symm
  · rfl

theorem drop_any (b : Nat) (M : Nat → Int × Int) (n : Int) (w : World) (h : MapAt w b M) :
    Calls Try.prog 36 #[.pointer (some ⟨b, 0, none⟩), .int .i64 n] w fun e w' => e = .returned (.int .i64 (dropRes M n)) ∧ Upd b w w' ∧ MapAt w' b (dropNew M n) := by
  have hb := h.lt
  cases hp : pageB n with
  | false =>
    go_enter Try.func36, Try.ntmps36
    go_wp2_with (first | (go_at_call 55; refine (page_any _ _).mono ?_; rintro e w' ⟨rfl, rfl⟩) | (go_at_call 38; refine (none_map _ M _ h).mono ?_; rintro e w' ⟨rfl, rfl⟩))
    go_ret
    exact ⟨ret_int (by simp [dropRes, hp]), Upd.refl _ _, by simp only [dropNew, hp, Bool.false_eq_true, if_false]; exact h⟩
  | true =>
    have hp' : 0 ≤ n ∧ n < 12 := by simpa [pageB] using hp
    obtain ⟨k, rfl⟩ := Int.eq_ofNat_of_zero_le hp'.1
    have hk : k < 12 := by omega
    clear hp'
    have h1 : w.cell? ⟨b, k * 2, none⟩ = some (.int .i64 (M k).1) := (h.cell _).trans (mapCells_frame M k hk)
    have h2 : w.cell? ⟨b, k * 2 + 1, none⟩ = some (.int .i64 (M k).2) := (h.cell _).trans (mapCells_rights M k hk)
    have h3 : w.frozen? ⟨b, k * 2, none⟩ = false := h.frozen _
    have h4 : w.frozen? ⟨b, k * 2 + 1, none⟩ = false := h.frozen _
    cases ht : isThere M k with
    | false =>
      go_enter Try.func36, Try.ntmps36
      go_wp2_with (first | (go_at_call 55; refine (page_any _ _).mono ?_; rintro e w' ⟨rfl, rfl⟩) | (go_at_call 38; refine (none_map _ M _ h).mono ?_; rintro e w' ⟨rfl, rfl⟩) | (go_at_call 39; refine (there_in _ M k hk _ h).mono ?_; rintro e w' ⟨rfl, rfl⟩))
      go_ret
      exact ⟨ret_int (by simp [dropRes, hp, ht]), Upd.refl _ _, by simp only [dropNew, Int.toNat_natCast, hp, if_true, upd_same M k ht]; exact h⟩
    | true =>
      go_enter Try.func36, Try.ntmps36
      go_wp2_with (first | (go_at_call 55; refine (page_any _ _).mono ?_; rintro e w' ⟨rfl, rfl⟩) | (go_at_call 38; refine (none_map _ M _ h).mono ?_; rintro e w' ⟨rfl, rfl⟩) | (go_at_call 39; refine (there_in _ M k hk _ h).mono ?_; rintro e w' ⟨rfl, rfl⟩))
      go_ret
      exact ⟨ret_int (by simp [dropRes, hp, ht]), (Upd.refl _ _).setCell.setCell, by simp only [dropNew, Int.toNat_natCast, hp, if_true]; exact h.set k hk 0 0⟩

def getF (M : Nat → Int × Int) (n : Int) : Int := if pageB n = true then (M n.toNat).1 else 0
def getR (M : Nat → Int × Int) (n : Int) : Int := if pageB n = true then (M n.toNat).2 else 0
def getT (M : Nat → Int × Int) (n : Int) : Bool := pageB n && isThere M n.toNat

theorem get_any (b : Nat) (M : Nat → Int × Int) (n : Int) (w : World) (h : MapAt w b M) :
    Calls Try.prog 16 #[.pointer (some ⟨b, 0, none⟩), .int .i64 n] w fun e w' => e = .returned (.tuple #[.agg #[.int .i64 (getF M n), .int .i64 (getR M n)], .bool (getT M n)]) ∧ Below w.heap.size w w' := by
  have hb := h.lt
  cases hp : pageB n with
  | false =>
    go_enter Try.func16, Try.ntmps16
    go_wp2_with (first | (go_at_call 39; refine (there_out _ _ hp _).mono ?_; rintro e w' ⟨rfl, rfl⟩) | (go_at_call 38; refine (none_map _ M _ h.alloc).mono ?_; rintro e w' ⟨rfl, rfl⟩))
    exact bodyPost_ret (v := .tuple #[.agg #[.int .i64 0, .int .i64 0], .bool false]) (by simp [results, Try.results16, go_sem]) rfl ⟨by simp [getF, getR, getT, hp], (Bel.refl _).alloc.1⟩
  | true =>
    have hp' : 0 ≤ n ∧ n < 12 := by simpa [pageB] using hp
    obtain ⟨k, rfl⟩ := Int.eq_ofNat_of_zero_le hp'.1
    have hk : k < 12 := by omega
    clear hp'
    have h1 : w.cell? ⟨b, k * 2, none⟩ = some (.int .i64 (M k).1) := (h.cell _).trans (mapCells_frame M k hk)
    have h2 : w.cell? ⟨b, k * 2 + 1, none⟩ = some (.int .i64 (M k).2) := (h.cell _).trans (mapCells_rights M k hk)
    cases ht : isThere M k with
    | false =>
      have hz : (M k).1 = 0 ∧ (M k).2 = 0 := by simpa [isThere] using ht
      go_enter Try.func16, Try.ntmps16
      go_wp2_with (first | (go_at_call 39; refine (there_in _ M k hk _ h.alloc).mono ?_; rintro e w' ⟨rfl, rfl⟩) | (go_at_call 38; refine (none_map _ M _ h.alloc).mono ?_; rintro e w' ⟨rfl, rfl⟩))
      exact bodyPost_ret (v := .tuple #[.agg #[.int .i64 0, .int .i64 0], .bool false]) (by simp [results, Try.results16, go_sem]) rfl ⟨by simp [getF, getR, getT, hp, ht, hz], (Bel.refl _).alloc.1⟩
    | true =>
      go_enter Try.func16, Try.ntmps16
      go_wp2_with (first | (go_at_call 39; refine (there_in _ M k hk _ h.alloc).mono ?_; rintro e w' ⟨rfl, rfl⟩) | (go_at_call 38; refine (none_map _ M _ h.alloc).mono ?_; rintro e w' ⟨rfl, rfl⟩))
      exact bodyPost_ret (v := .tuple #[.agg #[.int .i64 (M k).1, .int .i64 (M k).2], .bool true]) (by simp [results, Try.results16, go_sem]) rfl ⟨by simp [getF, getR, getT, hp, ht], (Bel.refl _).alloc.1⟩

def mayB (n ri kind : Int) : Bool := if kind = 0 then decide (n < 8) else if kind = 1 then bits .and .i64 ri 1 != 0 else if kind = 2 then bits .and .i64 ri 2 != 0 else false

def allowsI (M : Nat → Int × Int) (n kind : Int) : Int := if getT M n then (if mayB n (getR M n) kind then 0 else 6) else 7

end Go.Proofs.Ytklgfnboadchmaa
end

section
/- gmap's Pages and the law package's awake. -/
namespace Go.Proofs.Ytklgfnboadchmaa
open Go.ChangeShapes Go.WideShapes Go.ChangeAt Go.RowKit
set_option linter.unusedVariables false
set_option maxRecDepth 20000

/-- The pages below k that are there, rising. -/
def pagesTo (M : Nat → Int × Int) (k : Nat) : List Int := ((List.range k).filter (isThere M)).map (fun i : Nat => (i : Int))
theorem pagesTo_succ (M : Nat → Int × Int) (k : Nat) : pagesTo M (k + 1) = if isThere M k = true then pagesTo M k ++ [(k : Int)] else pagesTo M k := by
  unfold pagesTo
  rw [List.range_succ, List.filter_append]
  cases h : isThere M k <;> simp [h]
theorem pagesTo_le (M : Nat → Int × Int) (k : Nat) : (pagesTo M k).length ≤ k := by
  unfold pagesTo
  rw [List.length_map]
  have := List.length_filter_le (isThere M) (List.range k)
  simpa using this

theorem Try.infoInt : (Try.prog.info? 3).map (fun i => (i.zero, i.size, i.bytes)) = some (some (.int .i64 0), 1, 8) := by kernel_rfl

def Owned (w : World) (B : Nat) (v : Value) (l : List Int) : Prop := w.ownsRow B 3 1 v l.length (l.map (Value.int .i64))

set_option maxHeartbeats 400000 in
theorem pages_any (b : Nat) (M : Nat → Int × Int) (w : World) (h : MapAt w b M) :
    Calls Try.prog 11 #[.pointer (some ⟨b, 0, none⟩)] w fun e w' => ∃ v, e = .returned v ∧ Owned w' w.heap.size v (pagesTo M 12) ∧ Below w.heap.size w w' := by
  have hb := h.lt
  obtain ⟨i0, hi, hz0, hz1, hz2⟩ := info_parts Try.infoInt
  go_enter Try.func11, Try.ntmps11
  go_wp2_with (go_at_call 38; refine (none_map _ M _ h).mono ?_; rintro e w' ⟨rfl, rfl⟩)
  go_loopw [3, 7] (fun v i wr => ∃ k : Nat, k ≤ 12 ∧ i = .int .i64 k ∧ Owned wr w.heap.size v (pagesTo M k) ∧ Below w.heap.size w wr) (fun _ i _ => 12 - (intOf i).toNat)
  case atStart => exact ⟨0, Nat.zero_le _, rfl, (by unfold Owned pagesTo; exact World.ownsRow_nil _ _ _ _), Below.refl _ _⟩
  case round =>
    obtain ⟨k, hk, rfl, hown, hbel⟩ := hrel
    have hmap : MapAt wr b M := (hbel.block b hb).trans h
    have hle := pagesTo_le M k
    have hsz := hbel.size
    by_cases hlt : k < 12
    · cases ht : isThere M k with
      | true =>
        go_wp2_with (first
          | (go_at_call 39; refine (there_in _ M k hlt _ hmap).mono ?_; rintro e w' ⟨rfl, rfl⟩)
          | (at_builtin; refine wpList_append_own _ rfl _ _ 39 rfl w.heap.size 3 i0 (.int .i64 0) 1 8 Try.underlying39 hi hz0 hz1 hz2 rfl (by decide) _ _ _ rfl (World.ownsRow.alloc hown _) ⟨wr.heap.size, 0, none⟩ 1 1 [.int .i64 k] rfl rfl ?c1 ?c2 ?c3 ?c4 ?c5 ?_))
        case c1 =>
          intro j u hj
          match j, hj with
          | 0, hj => simp at hj; subst hj; simp [Addr.add]
        case c2 => intro u hu; simp at hu; subst hu; rfl
        case c3 => unfold maxLen; omega
        case c4 => omega
        case c5 => simp; omega
        intro v' w1 hown' hgrow _
        go_wp2
        go_roundw
        case rel =>
          refine ⟨k + 1, by omega, by go_num, ?_, ?_⟩
          · unfold Owned
            rw [pagesTo_succ, if_pos ht]
            simpa using hown'
          · exact ((Bel.append ⟨hbel, hsz⟩ hown hgrow)).1
        case measure => simp [intOf]; omega
      | false =>
        go_wp2_with (go_at_call 39; refine (there_in _ M k hlt _ hmap).mono ?_; rintro e w' ⟨rfl, rfl⟩)
        go_roundw
        case rel => exact ⟨k + 1, by omega, by go_num, by rw [pagesTo_succ, if_neg (by simp [ht])]; exact hown, hbel⟩
        case measure => simp [intOf]; omega
    · obtain rfl : k = 12 := by omega
      go_wp2
      go_ret
      exact ⟨_, rfl, hown, hbel⟩

set_option maxHeartbeats 400000 in
theorem new_map (w : World) : Calls Try.prog 8 #[] w fun e w' => e = .returned (.pointer (some ⟨w.heap.size, 0, none⟩)) ∧ w' = w.alloc (.cells (mapCells fun _ => (0, 0)).toArray 35) := by
  go_enter Try.func8, Try.ntmps8
  go_wp2
  go_ret
  exact ⟨rfl, rfl⟩

def zeroMap : Nat → Int × Int := fun _ => (0, 0)
theorem new_map' (w : World) : Calls Try.prog 8 #[] w fun e w' => e = .returned (.pointer (some ⟨w.heap.size, 0, none⟩)) ∧ ∃ x, w' = later w x ∧ MapAt (later w x) w.heap.size zeroMap :=
  (new_map w).mono fun e w' ⟨he, hw⟩ => ⟨he, ⟨w', by subst hw; exact (Bel.refl _).alloc.1⟩, rfl, by subst hw; exact Go.heap_alloc_new w _⟩

end Go.Proofs.Ytklgfnboadchmaa
end

section
/- Plain laws on bits and numbers, no program in sight. -/
namespace Go.Proofs.Ytklgfnboadchmaa

theorem nat_clear2 (x : Nat) (h : x < 4294967296) : x &&& 4294967292 = x / 4 * 4 := by
  have e : (4294967292 : Nat) = (2 ^ 30 - 1) <<< 2 := by decide
  have e2 : x &&& ((2 ^ 30 - 1) <<< 2) = ((x >>> 2) &&& (2 ^ 30 - 1)) <<< 2 := by
    apply Nat.eq_of_testBit_eq
    intro i
    simp only [Nat.testBit_and, Nat.testBit_shiftLeft, Nat.testBit_shiftRight]
    by_cases hi : 2 ≤ i
    · rw [show 2 + (i - 2) = i by omega]
      cases x.testBit i <;> simp
    · simp [hi]
  rw [e, e2, Nat.and_two_pow_sub_one_eq_mod, Nat.shiftLeft_eq, Nat.shiftRight_eq_div_pow]
  omega

theorem u32_andNot3 (a : Int) (h1 : 0 ≤ a) (h2 : a ≤ 4294967295) : bits .andNot .u32 a 3 = a / 4 * 4 := by
  rw [u32_andNot a 3 h1 (by omega) (by omega) (by omega)]
  have := nat_clear2 a.toNat (by omega)
  rw [show (4294967295 - (3 : Int).toNat) = 4294967292 by decide, this]
  omega

theorem u32_and1 (a : Int) (h1 : 0 ≤ a) (h2 : a ≤ 4294967295) : bits .and .u32 a 1 = a % 2 := by
  rw [u32_and a 1 h1 (by omega) (by omega) (by omega)]
  rw [show (1 : Int).toNat = 1 by decide, nat_mask1]
  omega

end Go.Proofs.Ytklgfnboadchmaa
end

section
/- The walk of hermitagelaw15.GmapRights: true at every page, frame and rights. -/
namespace Go.Proofs.Ytklgfnboadchmaa
open Go.ChangeShapes Go.WideShapes Go.ChangeAt Go.RowKit
set_option linter.unusedVariables false
set_option maxRecDepth 20000

theorem pageB_nat {k : Nat} (h : k < 12) : pageB (k : Int) = true := by simp [pageB]; omega
theorem placeB_of {fr ri : Int} (h0 : 0 ≤ fr) (h1 : fr < 32) (h2 : 1 ≤ ri) (h3 : ri ≤ 3) : placeB fr ri = true := by simp [placeB]; omega
theorem there_upd (M : Nat → Int × Int) (k : Nat) {fr ri : Int} (h : 1 ≤ ri) : isThere (upd M k (fr, ri)) k = true := by
  have : ¬ ri = 0 := by omega
  simp [isThere, upd, this]
theorem there_upd_ne (M : Nat → Int × Int) {k j : Nat} (p : Int × Int) (h : j ≠ k) : isThere (upd M k p) j = isThere M j := by
  simp [isThere, upd, h]

theorem pages_one (k : Nat) (hk : k < 12) (fr ri : Int) (h : 1 ≤ ri) : pagesTo (upd zeroMap k (fr, ri)) 12 = [(k : Int)] := by
  have ht := there_upd zeroMap k (fr := fr) h
  have hf : ∀ j, j ≠ k → isThere (upd zeroMap k (fr, ri)) j = false := fun j hj => by rw [there_upd_ne _ _ hj]; rfl
  have e : (List.range 12).filter (isThere (upd zeroMap k (fr, ri))) = (List.range 12).filter (fun j => j == k) := by
    apply List.filter_congr
    intro j _
    by_cases hj : j = k
    · subst hj; simp [ht]
    · rw [hf j hj]; simp [hj]
  unfold pagesTo
  rw [e]
  rcases lt12 hk with rfl | rfl | rfl | rfl | rfl | rfl | rfl | rfl | rfl | rfl | rfl | rfl <;> rfl

theorem mayB_load {n ri : Int} (h : 1 ≤ ri) (h' : ri ≤ 3) : mayB n ri 1 = (bits .and .i64 ri 1 != 0) := by simp [mayB]
theorem mayB_store {n ri : Int} : mayB n ri 2 = (bits .and .i64 ri 2 != 0) := by simp [mayB]

end Go.Proofs.Ytklgfnboadchmaa
end

section
/- Contracts of the reference's gmap: the same functions of a map as the program's. -/
namespace Go.Proofs.Ytklgfnboadchmaa
open Go.ChangeShapes Go.WideShapes Go.ChangeAt Go.RowKit
set_option linter.unusedVariables false
set_option maxRecDepth 20000

def rmapCells (M : Nat → Int × Int) : List Value := ((List.range 12).map fun i => .bool (isThere M i)) ++ ((List.range 12).flatMap fun i => [.int .i64 (M i).1, .int .i64 (M i).2])
def RMapAt (w : World) (b : Nat) (M : Nat → Int × Int) : Prop := w.heap[b]? = some (.cells (rmapCells M).toArray 49 (0, 0))

theorem RMapAt.cell {w : World} {b : Nat} {M : Nat → Int × Int} (h : RMapAt w b M) (o : Nat) : w.cell? ⟨b, o, none⟩ = (rmapCells M)[o]? := by
  unfold RMapAt at h
  simp [World.cell?, h]
theorem RMapAt.frozen {w : World} {b : Nat} {M : Nat → Int × Int} (h : RMapAt w b M) (o : Nat) : w.frozen? ⟨b, o, none⟩ = false := by
  unfold RMapAt at h
  simp [World.frozen?, h]
theorem RMapAt.lt {w : World} {b : Nat} {M : Nat → Int × Int} (h : RMapAt w b M) : b < w.heap.size := lt_heap h
theorem RMapAt.later {w : World} {b : Nat} {M : Nat → Int × Int} {x : Lat w} (h : RMapAt w b M) : RMapAt (Proofs.Ytklgfnboadchmaa.later w x) b M := heap_later h
theorem RMapAt.alloc {w : World} {b : Nat} {M : Nat → Int × Int} {o : Obj} (h : RMapAt w b M) : RMapAt (w.alloc o) b M := heap_alloc h
theorem rmapCells_there (M : Nat → Int × Int) (k : Nat) (h : k < 12) : (rmapCells M)[k]? = some (.bool (isThere M k)) := by
  rcases lt12 h with rfl | rfl | rfl | rfl | rfl | rfl | rfl | rfl | rfl | rfl | rfl | rfl <;> rfl
theorem rmapCells_frame (M : Nat → Int × Int) (k : Nat) (h : k < 12) : (rmapCells M)[12 + k * 2]? = some (.int .i64 (M k).1) := by
  rcases lt12 h with rfl | rfl | rfl | rfl | rfl | rfl | rfl | rfl | rfl | rfl | rfl | rfl <;> rfl
theorem rmapCells_rights (M : Nat → Int × Int) (k : Nat) (h : k < 12) : (rmapCells M)[12 + k * 2 + 1]? = some (.int .i64 (M k).2) := by
  rcases lt12 h with rfl | rfl | rfl | rfl | rfl | rfl | rfl | rfl | rfl | rfl | rfl | rfl <;> rfl
theorem rmapCells_upd (M : Nat → Int × Int) (k : Nat) (h : k < 12) (fr ri : Int) : (((rmapCells M).toArray.setIfInBounds k (.bool (!(fr == 0) || !(ri == 0)))).setIfInBounds (12 + k * 2) (.int .i64 fr)).setIfInBounds (12 + k * 2 + 1) (.int .i64 ri) = (rmapCells (upd M k (fr, ri))).toArray := by
  rcases lt12 h with rfl | rfl | rfl | rfl | rfl | rfl | rfl | rfl | rfl | rfl | rfl | rfl <;> rfl
theorem RMapAt.set {w : World} {b : Nat} {M : Nat → Int × Int} (h : RMapAt w b M) (k : Nat) (hk : k < 12) (fr ri : Int) :
    RMapAt (((w.setCell ⟨b, k, none⟩ (.bool (!(fr == 0) || !(ri == 0)))).setCell ⟨b, 12 + k * 2, none⟩ (.int .i64 fr)).setCell ⟨b, 12 + k * 2 + 1, none⟩ (.int .i64 ri)) b (upd M k (fr, ri)) := by
  have := heap_setCell_at (o := 12 + k * 2 + 1) (u := .int .i64 ri) (heap_setCell_at (o := 12 + k * 2) (u := .int .i64 fr) (heap_setCell_at (o := k) (u := .bool (!(fr == 0) || !(ri == 0))) h))
  rwa [rmapCells_upd M k hk] at this

theorem is_any (n : Int) (w : World) : Calls Try.prog 51 #[.int .i64 n] w fun e w' => e = .returned (.bool (pageB n)) ∧ w = w' := by
  by_cases h0 : 0 ≤ n
  case' neg => have h0' : decide (0 ≤ n) = false := by simp; omega
  all_goals
    go_enter Try.func51, Try.ntmps51
    go_wp2
    go_ret
    exact ⟨ret_bool (by simp [pageB, *]), rfl⟩

set_option maxHeartbeats 400000 in
theorem rget_any (b : Nat) (M : Nat → Int × Int) (n : Int) (w : World) (h : RMapAt w b M) :
    Calls Try.prog 17 #[.pointer (some ⟨b, 0, none⟩), .int .i64 n] w fun e w' => e = .returned (.tuple #[.agg #[.int .i64 (getF M n), .int .i64 (getR M n)], .bool (getT M n)]) ∧ Below w.heap.size w w' := by
  have hb := h.lt
  cases hp : pageB n with
  | false =>
    go_enter Try.func17, Try.ntmps17
    go_wp2_with (go_at_call 51; refine (is_any _ _).mono ?_; rintro e w' ⟨rfl, rfl⟩)
    exact bodyPost_ret (v := .tuple #[.agg #[.int .i64 0, .int .i64 0], .bool false]) (by simp [results, Try.results17, go_sem]) rfl ⟨by simp [getF, getR, getT, hp], (Bel.refl _).alloc.1⟩
  | true =>
    have hp' : 0 ≤ n ∧ n < 12 := by simpa [pageB] using hp
    obtain ⟨k, rfl⟩ := Int.eq_ofNat_of_zero_le hp'.1
    have hk : k < 12 := by omega
    clear hp'
    have h0 : w.cell? ⟨b, k, none⟩ = some (.bool (isThere M k)) := (h.cell _).trans (rmapCells_there M k hk)
    have h1 : w.cell? ⟨b, 12 + k * 2, none⟩ = some (.int .i64 (M k).1) := (h.cell _).trans (rmapCells_frame M k hk)
    have h2 : w.cell? ⟨b, 12 + k * 2 + 1, none⟩ = some (.int .i64 (M k).2) := (h.cell _).trans (rmapCells_rights M k hk)
    go_enter Try.func17, Try.ntmps17
    go_wp2_with (go_at_call 51; refine (is_any _ _).mono ?_; rintro e w' ⟨rfl, rfl⟩)
    go_region
    go_wp2
    exact bodyPost_ret (v := .tuple #[.agg #[.int .i64 (M k).1, .int .i64 (M k).2], .bool (isThere M k)]) (by simp [results, Try.results17, go_sem]) rfl ⟨by simp [getF, getR, getT, hp], (Bel.refl _).alloc.drew.1⟩

theorem nonzero_place {fr ri : Int} (h : placeB fr ri = true) : (!(fr == 0) || !(ri == 0)) = true := by
  have : ¬ ri = 0 := by simp [placeB] at h; omega
  simp [this]

set_option maxHeartbeats 1000000 in
theorem rset_any (b : Nat) (M : Nat → Int × Int) (n fr ri : Int) (w : World) (h : RMapAt w b M) :
    Calls Try.prog 49 #[.pointer (some ⟨b, 0, none⟩), .int .i64 n, .agg #[.int .i64 fr, .int .i64 ri]] w fun e w' => e = .returned (.int .i64 (setRes M n fr ri)) ∧ Upd b w w' ∧ RMapAt w' b (setNew M n fr ri) := by
  have hb := h.lt
  cases hp : pageB n with
  | false =>
    go_enter Try.func49, Try.ntmps49
    go_wp2_with (go_at_call 51; refine (is_any _ _).mono ?_; rintro e w' ⟨rfl, rfl⟩)
    go_ret
    exact ⟨ret_int (by simp [setRes, hp]), (Upd.refl _ _).alloc, by simp only [setNew, hp, Bool.false_eq_true, false_and, if_false]; exact h.alloc⟩
  | true =>
    have hp' : 0 ≤ n ∧ n < 12 := by simpa [pageB] using hp
    obtain ⟨k, rfl⟩ := Int.eq_ofNat_of_zero_le hp'.1
    have hk : k < 12 := by omega
    clear hp'
    cases hq : placeB fr ri with
    | false =>
      have hc : fr < 0 ∨ (0 ≤ fr ∧ 32 ≤ fr) ∨ (0 ≤ fr ∧ fr < 32 ∧ ri < 1) ∨ (0 ≤ fr ∧ fr < 32 ∧ 1 ≤ ri ∧ 3 < ri) := by
        simp [placeB] at hq
        omega
      rcases hc with hc | ⟨hc, hc'⟩ | ⟨hc, hc', hc''⟩ | ⟨hc, hc', hc'', hc'''⟩
      all_goals
        go_enter Try.func49, Try.ntmps49
        go_wp2_with (go_at_call 51; refine (is_any _ _).mono ?_; rintro e w' ⟨rfl, rfl⟩)
        go_ret
        exact ⟨ret_int (by simp [setRes, hq]), (Upd.refl _ _).alloc, by simp only [setNew, hq, Bool.false_eq_true, false_and, and_false, if_false]; exact h.alloc⟩
    | true =>
      have hc : 0 ≤ fr ∧ fr < 32 ∧ 1 ≤ ri ∧ ri ≤ 3 := by simpa [placeB] using hq
      obtain ⟨q0, q1, q2, q3⟩ := hc
      have hnz := nonzero_place hq
      have h0 : w.cell? ⟨b, k, none⟩ = some (.bool (isThere M k)) := (h.cell _).trans (rmapCells_there M k hk)
      have h1 : w.cell? ⟨b, 12 + k * 2, none⟩ = some (.int .i64 (M k).1) := (h.cell _).trans (rmapCells_frame M k hk)
      have h2 : w.cell? ⟨b, 12 + k * 2 + 1, none⟩ = some (.int .i64 (M k).2) := (h.cell _).trans (rmapCells_rights M k hk)
      have z0 : w.frozen? ⟨b, k, none⟩ = false := h.frozen _
      have z1 : w.frozen? ⟨b, 12 + k * 2, none⟩ = false := h.frozen _
      have z2 : w.frozen? ⟨b, 12 + k * 2 + 1, none⟩ = false := h.frozen _
      cases ht : isThere M k with
      | true =>
        rw [ht] at h0
        go_enter Try.func49, Try.ntmps49
        go_wp2_with (go_at_call 51; refine (is_any _ _).mono ?_; rintro e w' ⟨rfl, rfl⟩)
        go_ret
        exact ⟨ret_int (by simp [setRes, hp, hq, ht]), (Upd.refl _ _).alloc, by simp only [setNew, Int.toNat_natCast, ht, Bool.true_eq_false, and_false, if_false]; exact h.alloc⟩
      | false =>
        rw [ht] at h0
        have hnz' := Lib.hid hnz
        clear hnz
        go_enter Try.func49, Try.ntmps49
        go_wp2_with (go_at_call 51; refine (is_any _ _).mono ?_; rintro e w' ⟨rfl, rfl⟩)
        go_region
        go_wp2
        go_ret
        refine ⟨ret_int (by simp [setRes, hp, hq, ht]), ?_, ?_⟩
        · exact ((Upd.refl _ _).setCell.setCell.setCell).alloc.drew
        · simp only [setNew, Int.toNat_natCast, hp, hq, ht, and_self, if_true]
          have := h.set k hk fr ri
          rw [hnz'.out] at this
          exact this.alloc (o := .cells #[.int .i64 fr, .int .i64 ri] 32)

set_option maxHeartbeats 400000 in
theorem rdrop_any (b : Nat) (M : Nat → Int × Int) (n : Int) (w : World) (h : RMapAt w b M) :
    Calls Try.prog 44 #[.pointer (some ⟨b, 0, none⟩), .int .i64 n] w fun e w' => e = .returned (.int .i64 (dropRes M n)) ∧ Upd b w w' ∧ RMapAt w' b (dropNew M n) := by
  have hb := h.lt
  cases hp : pageB n with
  | false =>
    go_enter Try.func44, Try.ntmps44
    go_wp2_with (go_at_call 51; refine (is_any _ _).mono ?_; rintro e w' ⟨rfl, rfl⟩)
    go_ret
    exact ⟨ret_int (by simp [dropRes, hp]), Upd.refl _ _, by simp only [dropNew, hp, Bool.false_eq_true, if_false]; exact h⟩
  | true =>
    have hp' : 0 ≤ n ∧ n < 12 := by simpa [pageB] using hp
    obtain ⟨k, rfl⟩ := Int.eq_ofNat_of_zero_le hp'.1
    have hk : k < 12 := by omega
    clear hp'
    have h0 : w.cell? ⟨b, k, none⟩ = some (.bool (isThere M k)) := (h.cell _).trans (rmapCells_there M k hk)
    have h1 : w.cell? ⟨b, 12 + k * 2, none⟩ = some (.int .i64 (M k).1) := (h.cell _).trans (rmapCells_frame M k hk)
    have h2 : w.cell? ⟨b, 12 + k * 2 + 1, none⟩ = some (.int .i64 (M k).2) := (h.cell _).trans (rmapCells_rights M k hk)
    have z0 : w.frozen? ⟨b, k, none⟩ = false := h.frozen _
    have z1 : w.frozen? ⟨b, 12 + k * 2, none⟩ = false := h.frozen _
    have z2 : w.frozen? ⟨b, 12 + k * 2 + 1, none⟩ = false := h.frozen _
    cases ht : isThere M k with
    | false =>
      rw [ht] at h0
      go_enter Try.func44, Try.ntmps44
      go_wp2_with (go_at_call 51; refine (is_any _ _).mono ?_; rintro e w' ⟨rfl, rfl⟩)
      go_ret
      exact ⟨ret_int (by simp [dropRes, hp, ht]), Upd.refl _ _, by simp only [dropNew, Int.toNat_natCast, hp, if_true, upd_same M k ht]; exact h⟩
    | true =>
      rw [ht] at h0
      go_enter Try.func44, Try.ntmps44
      go_wp2_with (go_at_call 51; refine (is_any _ _).mono ?_; rintro e w' ⟨rfl, rfl⟩)
      go_ret
      exact ⟨ret_int (by simp [dropRes, hp, ht]), (Upd.refl _ _).setCell.setCell.setCell, by simp only [dropNew, Int.toNat_natCast, hp, if_true]; exact h.set k hk 0 0⟩

/-- What is there has rights that may be. -/
def ValidMap (M : Nat → Int × Int) : Prop := ∀ i, isThere M i = true → 1 ≤ (M i).2 ∧ (M i).2 ≤ 3
theorem ValidMap.zero : ValidMap zeroMap := fun i h => by simp [isThere, zeroMap] at h
theorem ValidMap.set {M : Nat → Int × Int} (h : ValidMap M) (n fr ri : Int) : ValidMap (setNew M n fr ri) := by
  unfold setNew
  split
  · rename_i hc
    obtain ⟨_, hq, _⟩ := hc
    intro i hi
    by_cases he : i = n.toNat
    · subst he
      simp [placeB] at hq
      simp [upd]
      omega
    · rw [there_upd_ne _ _ he] at hi
      simpa [upd, he] using h i hi
  · exact h
theorem ValidMap.drop {M : Nat → Int × Int} (h : ValidMap M) (n : Int) : ValidMap (dropNew M n) := by
  unfold dropNew
  split
  · intro i hi
    by_cases he : i = n.toNat
    · subst he
      simp [isThere, upd] at hi
    · rw [there_upd_ne _ _ he] at hi
      simpa [upd, he] using h i hi
  · exact h

theorem may_one {ri : Int} (h : 1 ≤ ri) (h' : ri ≤ 3) : (bits .and .i64 ri 1 != 0) = (ri % 2 == 1) ∧ (bits .and .i64 ri 2 != 0) = decide (2 ≤ ri) := by
  have : ri = 1 ∨ ri = 2 ∨ ri = 3 := by omega
  rcases this with rfl | rfl | rfl <;> decide

theorem allows_ref {M : Nat → Int × Int} (hv : ValidMap M) (n kind : Int) (h : getT M n = true) :
    allowsI M n kind = if (decide (kind = 0) && decide (n < 8) || decide (kind = 1) && (getR M n % 2 == 1) || decide (kind = 2) && decide (2 ≤ getR M n)) = true then 0 else 6 := by
  have hp : pageB n = true ∧ isThere M n.toNat = true := by simpa [getT] using h
  have hr := hv _ hp.2
  have hg : getR M n = (M n.toNat).2 := by simp [getR, hp.1]
  obtain ⟨e1, e2⟩ := may_one hr.1 hr.2
  unfold allowsI mayB
  rw [if_pos h, hg, e1, e2]
  by_cases h0 : kind = 0
  · subst h0; simp
  · by_cases h1 : kind = 1
    · subst h1; simp
    · by_cases h2 : kind = 2
      · subst h2; simp
      · simp [h0, h1, h2]

end Go.Proofs.Ytklgfnboadchmaa
end

section
/- Contracts of gmap at a map that nobody made. -/
namespace Go.Proofs.Ytklgfnboadchmaa
open Go.ChangeShapes Go.WideShapes Go.ChangeAt Go.RowKit
set_option linter.unusedVariables false
set_option maxRecDepth 20000

def ZeroGmap (w : World) (p : Option Addr) : Prop := p = none ∨ ∃ b, p = some ⟨b, 0, none⟩ ∧ w.cell? ⟨b, 24, none⟩ = some (.bool false)
theorem ZeroGmap.nil (w : World) : ZeroGmap w none := .inl rfl
theorem ZeroGmap.alloc {w : World} {p : Option Addr} {o : Obj} (h : ZeroGmap w p) : ZeroGmap (w.alloc o) p := by
  rcases h with rfl | ⟨b, rfl, hc⟩
  · exact .inl rfl
  · exact .inr ⟨b, rfl, by rw [alloc_old_cell _ _ _ (block_lt_of_cell hc)]; exact hc⟩

theorem gnone_zero (p : Option Addr) (w : World) (h : ZeroGmap w p) : Calls Try.prog 38 #[.pointer p] w fun e w' => e = .returned (.bool true) ∧ w = w' := by
  rcases h with rfl | ⟨b, rfl, hc⟩
  all_goals
    go_enter Try.func38, Try.ntmps38
    go_wp2
    go_ret
    exact ⟨rfl, rfl⟩

theorem gset_zero (p : Option Addr) (n fr ri : Int) (w : World) (h : ZeroGmap w p) : Calls Try.prog 23 #[.pointer p, .int .i64 n, .agg #[.int .i64 fr, .int .i64 ri]] w fun e w' => e = .returned (.int .i64 7) ∧ Below w.heap.size w w' := by
  go_enter Try.func23, Try.ntmps23
  go_wp2_with (go_at_call 38; refine (gnone_zero _ _ h.alloc).mono ?_; rintro e w' ⟨rfl, rfl⟩)
  go_ret
  exact ⟨rfl, (by refine (?_ : Bel _ _ _).1; repeat (first | exact hbel | exact Bel.refl _ | apply Bel.later | apply Bel.alloc | apply Bel.drew | (refine Bel.laterB ?_ (by first | exact Nat.le_refl _ | omega | (simp; omega) | simp)) | (refine Bel.setCell ?_ (by first | exact Nat.le_refl _ | omega | (simp; omega) | simp))))⟩

theorem gdrop_zero (p : Option Addr) (n : Int) (w : World) (h : ZeroGmap w p) : Calls Try.prog 36 #[.pointer p, .int .i64 n] w fun e w' => e = .returned (.int .i64 7) ∧ w = w' := by
  go_enter Try.func36, Try.ntmps36
  go_wp2_with (go_at_call 38; refine (gnone_zero _ _ h).mono ?_; rintro e w' ⟨rfl, rfl⟩)
  go_ret
  exact ⟨rfl, rfl⟩

theorem gget_zero (p : Option Addr) (n : Int) (w : World) (h : ZeroGmap w p) : Calls Try.prog 16 #[.pointer p, .int .i64 n] w fun e w' => e = .returned (.tuple #[.agg #[.int .i64 0, .int .i64 0], .bool false]) ∧ Below w.heap.size w w' := by
  go_enter Try.func16, Try.ntmps16
  go_wp2_with (go_at_call 38; refine (gnone_zero _ _ h.alloc).mono ?_; rintro e w' ⟨rfl, rfl⟩)
  exact bodyPost_ret (v := .tuple #[.agg #[.int .i64 0, .int .i64 0], .bool false]) (by simp [results, Try.results16, go_sem]) rfl ⟨rfl, (by refine (?_ : Bel _ _ _).1; repeat (first | exact hbel | exact Bel.refl _ | apply Bel.later | apply Bel.alloc | apply Bel.drew | (refine Bel.laterB ?_ (by first | exact Nat.le_refl _ | omega | (simp; omega) | simp)) | (refine Bel.setCell ?_ (by first | exact Nat.le_refl _ | omega | (simp; omega) | simp))))⟩

theorem gpages_zero (p : Option Addr) (w : World) (h : ZeroGmap w p) : Calls Try.prog 11 #[.pointer p] w fun e w' => e = .returned (.slice none 0 0) ∧ w = w' := by
  go_enter Try.func11, Try.ntmps11
  go_wp2_with (go_at_call 38; refine (gnone_zero _ _ h).mono ?_; rintro e w' ⟨rfl, rfl⟩)
  go_ret
  exact ⟨rfl, rfl⟩

end Go.Proofs.Ytklgfnboadchmaa
end

section
/- image: rows of words; contracts of Cut, page. -/
namespace Go.Proofs.Ytklgfnboadchmaa
open Go.ChangeShapes Go.WideShapes Go.ChangeAt Go.RowKit
set_option linter.unusedVariables false
set_option maxRecDepth 20000

/-- Words. -/
def Wrd (W : Nat → Int) : Prop := ∀ i, 0 ≤ W i ∧ W i ≤ 4294967295
/-- A row of words of one's own. -/
def URow (w : World) (g N : Nat) (W : Nat → Int) : Prop := ∃ cur : Array Value, w.heap[g]? = some (.cells cur 66 (0, 0)) ∧ ∀ i, i < N → cur[i]? = some (.int .u32 (W i))
theorem URow.lt {w : World} {g N : Nat} {W : Nat → Int} (h : URow w g N W) : g < w.heap.size := let ⟨_, h, _⟩ := h; lt_heap h
theorem URow.cell {w : World} {g N : Nat} {W : Nat → Int} (h : URow w g N W) {i : Nat} (hi : i < N) : w.cell? ⟨g, i, none⟩ = some (.int .u32 (W i)) := by
  obtain ⟨cur, h1, h2⟩ := h
  simp [World.cell?, h1, h2 i hi]
/-- Words that came in. -/
def USrc (w : World) (p : Option Addr) (n : Nat) (W : Nat → Int) : Prop := (p = none → n = 0) ∧ Wrd W ∧ (1 ≤ n → ∃ b o, p = some ⟨b, o, none⟩ ∧ HasYet w b ∧ ∀ i, i < n → w.cell? ⟨b, o + i, none⟩ = some (.int .u32 (W i)))
theorem bounds_u32' {x : Int} (h : (Lit.int .u32 x).wf = true) : 0 ≤ x ∧ x ≤ 4294967295 := bounds_u32 h
theorem usrc_of_ok {w : World} {p : Option Addr} {n c : Nat} {f0 : Nat → List Value} (h : SliceOk [some .u32] w p n c f0) : ∃ W, USrc w p n W := by
  have hp : p = none → n = 0 := fun e => by have h1 := h.1; have h2 := h.2.2.1 e; omega
  by_cases hn : 1 ≤ n
  · obtain ⟨b, o, _, rfl, hb, _⟩ := h.int1 (i := 0) (by omega)
    obtain ⟨f, hf⟩ := Deep.choose_lt (α := Int) (n := n) (p := fun i x => (0 ≤ x ∧ x ≤ 4294967295) ∧ w.cell? ⟨b, o + i, none⟩ = some (.int .u32 x)) (fun i hi => by
      obtain ⟨b', o', x, ha, _, _, hw, hc⟩ := h.int1 hi
      simp only [Option.some.injEq, Addr.mk.injEq, and_true] at ha
      obtain ⟨rfl, rfl⟩ := ha
      exact ⟨x, bounds_u32 hw, hc⟩)
    refine ⟨fun i => if i < n then f i else 0, hp, fun i => ?_, fun _ => ⟨b, o, rfl, hb, fun i hi => ?_⟩⟩
    · dsimp only
      split
      · rename_i hi; exact (hf i hi).1
      · simp
    · simp only [if_pos hi]; exact (hf i hi).2
  · exact ⟨fun _ => 0, hp, fun _ => by simp, fun h => absurd h hn⟩
theorem USrc.below {w w' : World} {p : Option Addr} {n : Nat} {W : Nat → Int} (h : USrc w p n W) (hb : Below w.heap.size w w') : USrc w' p n W :=
  ⟨h.1, h.2.1, fun hn => let ⟨b, o, e, h1, h2⟩ := h.2.2 hn; ⟨b, o, e, Nat.lt_of_lt_of_le h1 hb.size, fun i hi => (hb.cell (p := ⟨b, o + i, none⟩) h1).trans (h2 i hi)⟩⟩

theorem Try.wordInfo : (Try.prog.info? 66).map (fun i => (i.zero, i.size, i.bytes)) = some (some (.int .u32 0), 1, 4) := by kernel_rfl
theorem Try.wordSize : (Try.prog.info? 66).map (·.size) = some 1 := by kernel_rfl
def zerosU (N : Nat) : Array Value := madeCells (Value.int .u32 0).cells (N * 1)
theorem zerosU_size (N : Nat) : (zerosU N).size = N := by rw [zerosU, size_madeCells, Nat.mul_one]
theorem make_words (N : Nat) (hN : N ≤ 1000) (w : World) : (Instr.makeSlice 22 (.int .i64 N) (.int .i64 N)).run Try.prog w = .ok (.slice (some ⟨w.heap.size, 0, none⟩) N N) (w.alloc (.cells (zerosU N) 66)) := by
  obtain ⟨i0, hi, hz0, hz1, hz2⟩ := info_parts Try.wordInfo
  have := run_make (P := Try.prog) w 22 66 i0 (.int .u32 0) Try.underlying22 hi hz0 .i64 .i64 N N (by omega) (Int.le_refl _) (by rw [hz2]; omega) (by omega)
  rw [hz1, Int.toNat_natCast] at this
  exact this

def wordsL (W : Nat → Int) (N : Nat) : List Value := (List.range N).map fun i => .int .u32 (W i)
theorem wordsL_length (W : Nat → Int) (N : Nat) : (wordsL W N).length = N := by simp [wordsL]
theorem wordsL_at (W : Nat → Int) (N i : Nat) (h : i < N) : (wordsL W N)[i]? = some (.int .u32 (W i)) := by simp [wordsL, h]
theorem wordsL_one (W : Nat → Int) (N : Nat) : ∀ u ∈ wordsL W N, u.oneCell' = true := by
  intro u hu
  simp only [wordsL, List.mem_map] at hu
  obtain ⟨i, _, rfl⟩ := hu
  rfl

/-- How many words there is room for. -/
def cutN (n : Nat) (pages : Int) : Nat := min n (16 * (min pages 8).toNat)
theorem cutN_le (n : Nat) (pages : Int) : cutN n pages ≤ 128 := by unfold cutN; omega

set_option maxHeartbeats 1000000 in
theorem cut_any (p : Option Addr) (n c : Nat) (W : Nat → Int) (pages : Int) (w : World) (hU : USrc w p n W) (hn : n ≤ 140737488355328) :
    Calls Try.prog 21 #[.slice p n c, .int .i64 pages] w fun e w' => ∃ g, e = .returned (.slice (some ⟨g, 0, none⟩) (cutN n pages) (cutN n pages)) ∧ w.heap.size ≤ g ∧ URow w' g (cutN n pages) W ∧ Below w.heap.size w w' := by
  have hmk0 : ∀ w : World, (Instr.makeSlice 22 (.int .i64 0) (.int .i64 0)).run Try.prog w = .ok (.slice (some ⟨w.heap.size, 0, none⟩) 0 0) (w.alloc (.cells (zerosU 0) 66)) := make_words 0 (by omega)
  by_cases hz : n = 0
  · subst hz
    have hN : cutN 0 pages = 0 := by unfold cutN; omega
    rw [hN]
    have hg := Go.heap_alloc_new w (.cells (zerosU 0) 66)
    have hbel : Bel w.heap.size w (w.alloc (.cells (zerosU 0) 66)) := (Bel.refl w).alloc
    clear hN hU
    rcases (by omega : pages ≤ 0 ∨ (0 < pages ∧ pages ≤ 8) ∨ 8 < pages) with h0 | ⟨h0, h8⟩ | h8
    · have hp8 : pages ≤ 8 := by omega
      go_enter Try.func21, Try.ntmps21
      go_wp2_with (first | (refine wpList_copy_nothing rfl (.tmp 19) (.tmp 20) 22 22 rfl 66 Try.underlying22 Try.wordSize (some ⟨w.heap.size, 0, none⟩) p 0 0 _ c rfl rfl (Nat.min_zero _) ?_))
      go_ret
      exact ⟨_, rfl, Nat.le_refl _, ⟨_, hg, fun i hi => by omega⟩, hbel.1⟩
    · have hge : (0 : Int) ≤ pages * 16 := by omega
      go_enter Try.func21, Try.ntmps21
      go_wp2_with (first | (refine wpList_copy_nothing rfl (.tmp 19) (.tmp 20) 22 22 rfl 66 Try.underlying22 Try.wordSize (some ⟨w.heap.size, 0, none⟩) p 0 0 _ c rfl rfl (Nat.min_zero _) ?_))
      go_ret
      exact ⟨_, rfl, Nat.le_refl _, ⟨_, hg, fun i hi => by omega⟩, hbel.1⟩
    · have hp8 : ¬ pages ≤ 8 := by omega
      go_enter Try.func21, Try.ntmps21
      go_wp2_with (first | (refine wpList_copy_nothing rfl (.tmp 19) (.tmp 20) 22 22 rfl 66 Try.underlying22 Try.wordSize (some ⟨w.heap.size, 0, none⟩) p 0 0 _ c rfl rfl (Nat.min_zero _) ?_))
      go_ret
      exact ⟨_, rfl, Nat.le_refl _, ⟨_, hg, fun i hi => by omega⟩, hbel.1⟩
  by_cases h0 : pages ≤ 0
  · have hN : cutN n pages = 0 := by unfold cutN; omega
    rw [hN]
    have hg := Go.heap_alloc_new w (.cells (zerosU 0) 66)
    have hbel : Bel w.heap.size w (w.alloc (.cells (zerosU 0) 66)) := (Bel.refl w).alloc
    have hp8 : pages ≤ 8 := by omega
    clear hN hU
    go_enter Try.func21, Try.ntmps21
    go_wp2_with (first | (refine wpList_copy_nothing rfl (.tmp 19) (.tmp 20) 22 22 rfl 66 Try.underlying22 Try.wordSize (some ⟨w.heap.size, 0, none⟩) p 0 0 _ c rfl rfl (Nat.min_zero _) ?_))
    go_ret
    exact ⟨_, rfl, Nat.le_refl _, ⟨_, hg, fun i hi => by omega⟩, hbel.1⟩
  have hp0 : 0 < pages := by omega
  by_cases hall : (n : Int) ≤ max 0 (min pages 8) * 16
  · have hN : cutN n pages = n := by unfold cutN; omega
    rw [hN]
    obtain ⟨N, hNe⟩ : ∃ N, N = n := ⟨_, rfl⟩
    subst hNe
    have hNn : True := trivial
    have hmk := make_words N (by omega)
    by_cases h8 : pages ≤ 8
    · have hle : (N : Int) ≤ pages * 16 := by omega
      clear hall hN
      have hg := Go.heap_alloc_new w (.cells (zerosU N) 66)
      have hbel : Bel w.heap.size w (w.alloc (.cells (zerosU N) 66)) := (Bel.refl w).alloc
      obtain ⟨b, o, rfl, hbl, hcs⟩ := (hU.below hbel.1).2.2 (by omega)
      have hsrc : ∀ j u, (wordsL W N)[j]? = some u → (w.alloc (.cells (zerosU N) 66)).cell? ((⟨b, o, none⟩ : Addr).add j) = some u := by
        intro j u hj
        have hjl : j < N := by have := (List.getElem?_eq_some_iff.1 hj).1; rwa [wordsL_length] at this
        rw [wordsL_at _ N j hjl] at hj
        cases hj
        rw [add_plain]
        exact hcs j (by omega)
      have hcsl : (wordsL W N).length = N := wordsL_length W N
      have h1c := wordsL_one W N
      have hat := wordsL_at W N
      generalize wordsL W N = cs at *
      have hfit : 0 + cs.length ≤ (zerosU N).size := by rw [hcsl, zerosU_size]; omega
      have hpost : URow ((w.alloc (.cells (zerosU N) 66)).setRow w.heap.size (cs ++ (zerosU N).toList.drop N).toArray) w.heap.size N W :=
        ⟨_, setRow_heap _ _ _ _ _ _ hg, fun i hi => by
          rw [← Array.getElem?_toList, List.toList_toArray]
          have hil : i < cs.length := by omega
          rw [List.getElem?_append_left hil]
          exact hat i hi⟩
      have H := Lib.hid hpost
      clear hpost
      go_enter Try.func21, Try.ntmps21
      go_wp2_with (first | (refine wpList_copy_own rfl (.tmp 19) (.tmp 20) 22 22 rfl 66 Try.underlying22 Try.wordSize w.heap.size 0 N N ⟨b, o, none⟩ _ c rfl rfl (zerosU N) 66 hg cs (hcsl.trans (by first | exact (Nat.min_self _).symm | exact (Nat.min_eq_right (Nat.le_of_lt hNn)).symm)) hsrc hfit h1c ?_))
      go_ret
      exact ⟨_, rfl, Nat.le_refl _, H.out, below_setRow hbel.1 (Nat.le_refl _) _⟩
    · have hle : (N : Int) ≤ 128 := by omega
      clear hall hN
      have hg := Go.heap_alloc_new w (.cells (zerosU N) 66)
      have hbel : Bel w.heap.size w (w.alloc (.cells (zerosU N) 66)) := (Bel.refl w).alloc
      obtain ⟨b, o, rfl, hbl, hcs⟩ := (hU.below hbel.1).2.2 (by omega)
      have hsrc : ∀ j u, (wordsL W N)[j]? = some u → (w.alloc (.cells (zerosU N) 66)).cell? ((⟨b, o, none⟩ : Addr).add j) = some u := by
        intro j u hj
        have hjl : j < N := by have := (List.getElem?_eq_some_iff.1 hj).1; rwa [wordsL_length] at this
        rw [wordsL_at _ N j hjl] at hj
        cases hj
        rw [add_plain]
        exact hcs j (by omega)
      have hcsl : (wordsL W N).length = N := wordsL_length W N
      have h1c := wordsL_one W N
      have hat := wordsL_at W N
      generalize wordsL W N = cs at *
      have hfit : 0 + cs.length ≤ (zerosU N).size := by rw [hcsl, zerosU_size]; omega
      have hpost : URow ((w.alloc (.cells (zerosU N) 66)).setRow w.heap.size (cs ++ (zerosU N).toList.drop N).toArray) w.heap.size N W :=
        ⟨_, setRow_heap _ _ _ _ _ _ hg, fun i hi => by
          rw [← Array.getElem?_toList, List.toList_toArray]
          have hil : i < cs.length := by omega
          rw [List.getElem?_append_left hil]
          exact hat i hi⟩
      have H := Lib.hid hpost
      clear hpost
      go_enter Try.func21, Try.ntmps21
      go_wp2_with (first | (refine wpList_copy_own rfl (.tmp 19) (.tmp 20) 22 22 rfl 66 Try.underlying22 Try.wordSize w.heap.size 0 N N ⟨b, o, none⟩ _ c rfl rfl (zerosU N) 66 hg cs (hcsl.trans (by first | exact (Nat.min_self _).symm | exact (Nat.min_eq_right (Nat.le_of_lt hNn)).symm)) hsrc hfit h1c ?_))
      go_ret
      exact ⟨_, rfl, Nat.le_refl _, H.out, below_setRow hbel.1 (Nat.le_refl _) _⟩
  · obtain ⟨N, hN⟩ : ∃ N, cutN n pages = N := ⟨_, rfl⟩
    rw [hN]
    have hX : max 0 (min pages 8) * 16 = (N : Int) := by unfold cutN at hN; omega
    have hNn : N < n := by omega
    have hmk := make_words N (by omega)
    by_cases h8 : pages ≤ 8
    · have hle : ¬ (n : Int) ≤ pages * 16 := by omega
      replace hX : pages * 16 = (N : Int) := by omega
      rw [← hX] at hmk
      clear hall hN hX
      have hg := Go.heap_alloc_new w (.cells (zerosU N) 66)
      have hbel : Bel w.heap.size w (w.alloc (.cells (zerosU N) 66)) := (Bel.refl w).alloc
      obtain ⟨b, o, rfl, hbl, hcs⟩ := (hU.below hbel.1).2.2 (by omega)
      have hsrc : ∀ j u, (wordsL W N)[j]? = some u → (w.alloc (.cells (zerosU N) 66)).cell? ((⟨b, o, none⟩ : Addr).add j) = some u := by
        intro j u hj
        have hjl : j < N := by have := (List.getElem?_eq_some_iff.1 hj).1; rwa [wordsL_length] at this
        rw [wordsL_at _ N j hjl] at hj
        cases hj
        rw [add_plain]
        exact hcs j (by omega)
      have hcsl : (wordsL W N).length = N := wordsL_length W N
      have h1c := wordsL_one W N
      have hat := wordsL_at W N
      generalize wordsL W N = cs at *
      have hfit : 0 + cs.length ≤ (zerosU N).size := by rw [hcsl, zerosU_size]; omega
      have hpost : URow ((w.alloc (.cells (zerosU N) 66)).setRow w.heap.size (cs ++ (zerosU N).toList.drop N).toArray) w.heap.size N W :=
        ⟨_, setRow_heap _ _ _ _ _ _ hg, fun i hi => by
          rw [← Array.getElem?_toList, List.toList_toArray]
          have hil : i < cs.length := by omega
          rw [List.getElem?_append_left hil]
          exact hat i hi⟩
      have H := Lib.hid hpost
      clear hpost
      go_enter Try.func21, Try.ntmps21
      go_wp2_with (first | (refine wpList_copy_own rfl (.tmp 19) (.tmp 20) 22 22 rfl 66 Try.underlying22 Try.wordSize w.heap.size 0 N N ⟨b, o, none⟩ _ c rfl rfl (zerosU N) 66 hg cs (hcsl.trans (by first | exact (Nat.min_self _).symm | exact (Nat.min_eq_right (Nat.le_of_lt hNn)).symm)) hsrc hfit h1c ?_))
      go_ret
      exact ⟨_, rfl, Nat.le_refl _, H.out, below_setRow hbel.1 (Nat.le_refl _) _⟩
    · have hle : ¬ (n : Int) ≤ 128 := by omega
      have hX8 : (128 : Int) = (N : Int) := by omega
      rw [← hX8] at hmk
      clear hall hN hX hX8
      have hg := Go.heap_alloc_new w (.cells (zerosU N) 66)
      have hbel : Bel w.heap.size w (w.alloc (.cells (zerosU N) 66)) := (Bel.refl w).alloc
      obtain ⟨b, o, rfl, hbl, hcs⟩ := (hU.below hbel.1).2.2 (by omega)
      have hsrc : ∀ j u, (wordsL W N)[j]? = some u → (w.alloc (.cells (zerosU N) 66)).cell? ((⟨b, o, none⟩ : Addr).add j) = some u := by
        intro j u hj
        have hjl : j < N := by have := (List.getElem?_eq_some_iff.1 hj).1; rwa [wordsL_length] at this
        rw [wordsL_at _ N j hjl] at hj
        cases hj
        rw [add_plain]
        exact hcs j (by omega)
      have hcsl : (wordsL W N).length = N := wordsL_length W N
      have h1c := wordsL_one W N
      have hat := wordsL_at W N
      generalize wordsL W N = cs at *
      have hfit : 0 + cs.length ≤ (zerosU N).size := by rw [hcsl, zerosU_size]; omega
      have hpost : URow ((w.alloc (.cells (zerosU N) 66)).setRow w.heap.size (cs ++ (zerosU N).toList.drop N).toArray) w.heap.size N W :=
        ⟨_, setRow_heap _ _ _ _ _ _ hg, fun i hi => by
          rw [← Array.getElem?_toList, List.toList_toArray]
          have hil : i < cs.length := by omega
          rw [List.getElem?_append_left hil]
          exact hat i hi⟩
      have H := Lib.hid hpost
      clear hpost
      go_enter Try.func21, Try.ntmps21
      go_wp2_with (first | (refine wpList_copy_own rfl (.tmp 19) (.tmp 20) 22 22 rfl 66 Try.underlying22 Try.wordSize w.heap.size 0 N N ⟨b, o, none⟩ _ c rfl rfl (zerosU N) 66 hg cs (hcsl.trans (by first | exact (Nat.min_self _).symm | exact (Nat.min_eq_right (Nat.le_of_lt hNn)).symm)) hsrc hfit h1c ?_))
      go_ret
      exact ⟨_, rfl, Nat.le_refl _, H.out, below_setRow hbel.1 (Nat.le_refl _) _⟩
end Go.Proofs.Ytklgfnboadchmaa
end

section
/- image: the pool with its store and a guest's map; what a call may touch. -/
namespace Go.Proofs.Ytklgfnboadchmaa
open Go.ChangeShapes Go.WideShapes Go.ChangeAt Go.RowKit
set_option linter.unusedVariables false
set_option maxRecDepth 20000

/-- What a call did: it touched no block out of A; what is in A' now was in A, or is new. -/
structure Mv (A A' : Nat → Prop) (w w' : World) : Prop where
  fr : Frs A w w'
  nw : ∀ i, A' i → A i ∨ w.heap.size ≤ i
section
variable {A A' A'' : Nat → Prop} {w w' w'' : World}
theorem Mv.trans (h : Mv A A' w w') (k : Mv A' A'' w' w'') : Mv A A'' w w'' := by
  refine ⟨⟨k.fr.os.trans h.fr.os, k.fr.tape.trans h.fr.tape, k.fr.output.trans h.fr.output, Nat.le_trans h.fr.size k.fr.size, fun i hi hn => ?_⟩, fun i hi => ?_⟩
  · refine (k.fr.block i (Nat.lt_of_lt_of_le hi h.fr.size) fun h2 => ?_).trans (h.fr.block i hi hn)
    rcases h.nw i h2 with e | e
    · exact hn e
    · omega
  · rcases k.nw i hi with e | e
    · exact h.nw i e
    · exact .inr (Nat.le_trans h.fr.size e)
theorem Mv.refl (A : Nat → Prop) (w : World) : Mv A A w w := ⟨Frs.refl _ _, fun _ h => .inl h⟩
theorem Mv.of_below (A : Nat → Prop) (h : Below w.heap.size w w') : Mv A A w w' := ⟨Frs.of_below h, fun _ h => .inl h⟩
theorem Mv.of_upd {c : Nat} (hc : A c) (h : Upd c w w') : Mv A A w w' := ⟨Frs.of_upd h hc, fun _ h => .inl h⟩
theorem Mv.below (h : Mv A A' w w') (k : Below w'.heap.size w' w'') : Mv A A' w w'' := h.trans (Mv.of_below A' k)
theorem Mv.out (h : Mv A A' w w') {j : Nat} (hj : j < w.heap.size) (hn : ¬ A j) : ¬ A' j := fun h2 => by
  rcases h.nw j h2 with e | e
  · exact hn e
  · omega
theorem Mv.cell (h : Mv A A' w w') {j o : Nat} {s : Option Nat} (hj : j < w.heap.size) (hn : ¬ A j) : w'.cell? ⟨j, o, s⟩ = w.cell? ⟨j, o, s⟩ := by
  have := h.fr.block j hj hn
  simp [World.cell?, this]
theorem cell_lt {j o : Nat} {s : Option Nat} {v : Value} (h : w.cell? ⟨j, o, s⟩ = some v) : j < w.heap.size := block_lt_of_cell h
theorem Mv.held (h : Mv A A' w w') {j o : Nat} {s : Option Nat} {v : Value} (hc : w.cell? ⟨j, o, s⟩ = some v) (hn : ¬ A j) : w'.cell? ⟨j, o, s⟩ = some v := (h.cell (cell_lt hc) hn).trans hc
theorem Mv.bel {B : Nat} {a : World} (h : Mv A A' w w') (hb : Bel B a w) (hA : ∀ i, A i → B ≤ i) : Bel B a w' := h.fr.bel hb hA
theorem Mv.low {B : Nat} (h : Mv A A' w w') (hA : ∀ i, A i → B ≤ i) (hB : B ≤ w.heap.size) : ∀ i, A' i → B ≤ i := fun i hi => by
  rcases h.nw i hi with e | e
  · exact hA i e
  · exact Nat.le_trans hB e
theorem URow.mv {g N : Nat} {W : Nat → Int} (h : URow w g N W) (m : Mv A A' w w') (hn : ¬ A g) : URow w' g N W := by
  obtain ⟨cur, h1, h2⟩ := h
  exact ⟨cur, (m.fr.block g (lt_heap h1) hn).trans h1, h2⟩
theorem USrc.mv {p : Option Addr} {n : Nat} {W : Nat → Int} (h : USrc w p n W) (m : Mv A A' w w') (hn : 1 ≤ n → ∀ b o, p = some ⟨b, o, none⟩ → ¬ A b) : USrc w' p n W :=
  ⟨h.1, h.2.1, fun h1 => by
    obtain ⟨b, o, e, hb, hc⟩ := h.2.2 h1
    exact ⟨b, o, e, Nat.lt_of_lt_of_le hb m.fr.size, fun i hi => m.held (hc i hi) (hn h1 b o e)⟩⟩
theorem USrc.out {p : Option Addr} {n : Nat} {W : Nat → Int} (h : USrc w p n W) (hA : ∀ i, A i → w.heap.size ≤ i) : 1 ≤ n → ∀ b o, p = some ⟨b, o, none⟩ → ¬ A b := fun h1 b o e hx => by
  obtain ⟨b', o', e', hb, _⟩ := h.2.2 h1
  rw [e] at e'
  simp only [Option.some.injEq, Addr.mk.injEq, and_true] at e'
  obtain ⟨rfl, _⟩ := e'
  have h2 := hA _ hx
  have h3 : b < w.heap.size := hb
  omega
end

/-- The pool over its store, and a map; A: their blocks. -/
structure Img (A : Nat → Prop) (w : World) (b s fb mb n : Nat) (G : Nat → Int) (S : List stIt) (M : Nat → Int × Int) : Prop where
  pl : ∃ V L st, PlAt w b s fb n G V L st S ∧ ∀ i, A i ↔ AllP b s fb V st i ∨ i = mb
  m : MapAt w mb M
section
variable {A : Nat → Prop} {w w' : World} {b s fb mb n : Nat} {G G' : Nat → Int} {S S' : List stIt} {M M' : Nat → Int × Int} {V : Nat → Value} {L : Nat → List plIt} {st : Value}
theorem PlAt.all_typ (h : PlAt w b s fb n G V L st S) {i : Nat} (hi : AllP b s fb V st i) : ∃ c ty, w.heap[i]? = some (.cells c ty (0, 0)) ∧ (ty = 92 ∨ ty = 95 ∨ ty = 101 ∨ ty = 3 ∨ ty = 103) := by
  rcases hi with rfl | rfl | rfl | ⟨g, hg, e⟩ | e
  · exact ⟨_, _, h.blk, .inl rfl⟩
  · exact ⟨_, _, h.sto.2.1, .inr (.inl rfl)⟩
  · obtain ⟨curf, s3, _⟩ := h.sto.2.2.1
    exact ⟨_, _, s3, .inr (.inr (.inl rfl))⟩
  · obtain ⟨cur, hc⟩ := own_typR (h.rows g hg) e.symm
    exact ⟨_, _, hc, .inr (.inr (.inr (.inl rfl)))⟩
  · obtain ⟨cur, hc⟩ := own_typR h.seats e.symm
    exact ⟨_, _, hc, .inr (.inr (.inr (.inr rfl)))⟩
theorem PlAt.not_map (h : PlAt w b s fb n G V L st S) (hm : MapAt w mb M) : ¬ AllP b s fb V st mb := fun hx => by
  obtain ⟨c, ty, hc, ht⟩ := h.all_typ hx
  have := typ_same hm hc
  subst this
  revert ht
  decide
theorem Img.hn (h : Img A w b s fb mb n G S M) : 0 < n := let ⟨_, _, _, hp, _⟩ := h.pl; hp.pos
theorem Img.len (h : Img A w b s fb mb n G S M) : S.length = n := let ⟨_, _, _, hp, _⟩ := h.pl; hp.len
theorem Img.n32 (h : Img A w b s fb mb n G S M) : n ≤ 32 := let ⟨_, _, _, hp, _⟩ := h.pl; hp.sto.1
theorem Img.who (h : Img A w b s fb mb n G S M) : ∀ f, f < n → (atL S f).who = -1 ∧ (atL S f).tk = false ∨ ∃ g : Nat, g < 16 ∧ (atL S f).who = g := let ⟨_, _, _, hp, _⟩ := h.pl; hp.who
theorem Img.sto (h : Img A w b s fb mb n G S M) : StoAt w s fb n G := let ⟨_, _, _, hp, _⟩ := h.pl; hp.sto
theorem Img.afb (h : Img A w b s fb mb n G S M) : A fb := let ⟨_, _, _, _, hA⟩ := h.pl; (hA fb).2 (.inl (.inr (.inr (.inl rfl))))
theorem Img.amb (h : Img A w b s fb mb n G S M) : A mb := let ⟨_, _, _, _, hA⟩ := h.pl; (hA mb).2 (.inr rfl)
theorem Img.lt (h : Img A w b s fb mb n G S M) : ∀ i, A i → i < w.heap.size := fun i hi => by
  obtain ⟨V, L, st, hp, hA⟩ := h.pl
  rcases (hA i).1 hi with e | rfl
  · exact hp.all_lt e
  · exact h.m.lt
theorem Img.below (h : Img A w b s fb mb n G S M) (hb : Below w.heap.size w w') : Img A w' b s fb mb n G S M := by
  obtain ⟨V, L, st, hp, hA⟩ := h.pl
  exact ⟨⟨V, L, st, hp.below hb, hA⟩, (hb.block mb h.m.lt).trans h.m⟩
theorem Img.later {x : Lat w} (h : Img A w b s fb mb n G S M) : Img A (Proofs.Ytklgfnboadchmaa.later w x) b s fb mb n G S M := h.below (later_below w x)
theorem Img.alloc {o : Obj} (h : Img A w b s fb mb n G S M) : Img A (w.alloc o) b s fb mb n G S M := h.below (Bel.refl w).alloc.1
/-- The pool did something. -/
theorem Img.move (h : Img A w b s fb mb n G S M) : ∃ V L st, PlAt w b s fb n G V L st S ∧ ∀ w' G' S', PMove w w' b s fb n G' V L st S' → ∃ A', Img A' w' b s fb mb n G' S' M ∧ Mv A A' w w' := by
  obtain ⟨V, L, st, hp, hA⟩ := h.pl
  refine ⟨V, L, st, hp, fun w' G' S' mv => ?_⟩
  obtain ⟨g, v', l', hg, hp', f, ho⟩ := mv
  have hnm := hp.not_map h.m
  have hf : Frs A w w' := ⟨f.os, f.tape, f.output, f.size, fun i hi hn => f.block i hi fun ht => hn ((hA i).2 (.inl (tch_all hg ht)))⟩
  refine ⟨fun i => AllP b s fb (setV V g v') st i ∨ i = mb, ⟨⟨_, _, _, hp', fun i => Iff.rfl⟩, (f.block mb h.m.lt fun ht => hnm (tch_all hg ht)).trans h.m⟩, hf, fun i hi => ?_⟩
  rcases hi with (e | e | e | ⟨q, hq, e⟩ | e) | e
  · exact .inl ((hA i).2 (.inl (.inl e)))
  · exact .inl ((hA i).2 (.inl (.inr (.inl e))))
  · exact .inl ((hA i).2 (.inl (.inr (.inr (.inl e)))))
  · by_cases hqg : q = g
    · subst hqg
      rw [setV_at] at e
      rcases ho with ho | ho
      · exact .inl ((hA i).2 (.inl (.inr (.inr (.inr (.inl ⟨q, hq, by rw [e, ho]⟩))))))
      · exact .inr (ho i e.symm)
    · rw [setV_ne _ _ hqg] at e
      exact .inl ((hA i).2 (.inl (.inr (.inr (.inr (.inl ⟨q, hq, e⟩))))))
  · exact .inl ((hA i).2 (.inl (.inr (.inr (.inr (.inr e))))))
  · exact .inl ((hA i).2 (.inr e))
/-- The store did something. -/
theorem Img.stored (h : Img A w b s fb mb n G S M) (hU : Upd fb w w') (hs : StoAt w' s fb n G') : Img A w' b s fb mb n G' S M := by
  obtain ⟨V, L, st, hp, hA⟩ := h.pl
  have hnm := hp.not_map h.m
  exact ⟨⟨V, L, st, ⟨hp.toPlIn.stored hU hs, hp.perm, hp.pos⟩, hA⟩, heap_upd h.m hU fun e => hnm (e ▸ .inr (.inr (.inl rfl)))⟩
/-- The map did something. -/
theorem Img.mapped (h : Img A w b s fb mb n G S M) (hU : Upd mb w w') (hm : MapAt w' mb M') : Img A w' b s fb mb n G S M' := by
  obtain ⟨V, L, st, hp, hA⟩ := h.pl
  have hnm := hp.not_map h.m
  have f : Frs (fun i => i = mb) w w' := Frs.of_upd hU rfl
  exact ⟨⟨V, L, st, hp.frs f (fun e => hnm (e ▸ .inl rfl)) (fun e => hnm (e ▸ .inr (.inl rfl))) (fun e => hnm (e ▸ .inr (.inr (.inl rfl)))) (fun g hg a ha e => hnm (e ▸ .inr (.inr (.inr (.inl ⟨g, hg, ha.symm⟩))))) (fun a ha e => hnm (e ▸ .inr (.inr (.inr (.inr ha.symm))))), hA⟩, hm⟩

/-- The lowest that is left to a partition. -/
def lowF (S : List stIt) (g : Nat) : Nat := ((List.range S.length).find? fun k => decide ((atL S k).who = (g : Int) ∧ (atL S k).tk = false)).getD 0
theorem Low.eq {g f : Nat} (h : Low S g f) : lowF S g = f := by
  have : (List.range S.length).find? (fun k => decide ((atL S k).who = (g : Int) ∧ (atL S k).tk = false)) = some f := by
    rw [List.find?_range_eq_some]
    refine ⟨by simp [h.who, h.tk], List.mem_range.2 h.lt, fun j hj => ?_⟩
    have := h.low j hj
    simp only [Bool.not_eq_true', decide_eq_false_iff_not]
    exact this
  rw [lowF, this]
  rfl
theorem low_of_left {g : Nat} (hl : 0 < (leftL S g).length) : Low S g (lowF S g) := by
  obtain ⟨x, hx⟩ := List.exists_mem_of_length_pos hl
  obtain ⟨k, hk, h1, h2, _⟩ := mem_leftL.1 hx
  obtain ⟨f, hfk, hpf, hpre⟩ := least (P := fun k => (atL S k).who = (g : Int) ∧ (atL S k).tk = false) k ⟨h1, h2⟩
  have hlow : Low S g f := ⟨by omega, hpf.1, hpf.2, hpre⟩
  rw [hlow.eq]
  exact hlow
theorem iTake (g : Nat) (hg : g < 16) (hl : 0 < (leftL S g).length) (w : World) (h : Img A w b s fb mb n G S M) :
    Calls Try.prog 34 #[.pointer (some ⟨b, 0, none⟩), .int .i64 g] w fun e w' => e = .returned (.tuple #[.int .i64 (lowF S g), .int .i64 0]) ∧ ∃ A', Img A' w' b s fb mb n G (S.set (lowF S g) ⟨g, true⟩) M ∧ Mv A A' w w' := by
  obtain ⟨V, L, st, hp, hm⟩ := h.move
  have hlow := low_of_left hl
  rcases plTakeAny g w hp hg with ⟨h0, _⟩ | ⟨f', hf', hlow', hc⟩
  · exact absurd ⟨hlow.who, hlow.tk⟩ (hp.none_left hg h0 _ (by rw [← hp.len]; exact hlow.lt))
  · obtain rfl := low_one hlow hlow'
    refine hc.mono ?_
    rintro e w' ⟨rfl, v', l', h2, f2, o2⟩
    exact ⟨rfl, hm _ _ _ ⟨g, v', l', hg, h2, f2, o2⟩⟩
/-- What Back makes of the states, of the bytes. -/
def backS (S : List stIt) (f : Int) : List stIt := if fin S.length f ∧ (atL S f.toNat).tk = true then S.set f.toNat ⟨(atL S f.toNat).who, false⟩ else S
def backG (S : List stIt) (G : Nat → Int) (f : Int) : Nat → Int := if fin S.length f ∧ (atL S f.toNat).tk = true then putF G (f.toNat * 64) 64 0 else G
def backE (S : List stIt) (f : Int) : Int := if fin S.length f then (if (atL S f.toNat).tk = true then 0 else 3) else 1
theorem iBack (f : Int) (w : World) (h : Img A w b s fb mb n G S M) :
    Calls Try.prog 37 #[.pointer (some ⟨b, 0, none⟩), .int .i64 f] w fun e w' => e = .returned (.int .i64 (backE S f)) ∧ ∃ A', Img A' w' b s fb mb n (backG S G f) (backS S f) M ∧ Mv A A' w w' := by
  obtain ⟨V, L, st, hp, hm⟩ := h.move
  have hlen := hp.len
  by_cases hf : fin n f
  · have hf' := hf
    obtain ⟨k, rfl, hk⟩ := hf.nat
    cases ht : (atL S k).tk
    · refine (plBackFree k w hp.toPlIn hk ht).mono ?_
      rintro e w' ⟨rfl, rfl⟩
      refine ⟨by rw [backE, hlen, if_pos hf', Int.toNat_natCast, ht]; rfl, A, ?_, Mv.refl _ _⟩
      rw [backG, backS, Int.toNat_natCast, ht, if_neg (by simp), if_neg (by simp)]
      exact h
    · refine (plBack k w hp hk ht).mono ?_
      rintro e w' ⟨rfl, g2, v', l', hg2, hw2, h2, f2, o2⟩
      refine ⟨by rw [backE, hlen, if_pos hf', Int.toNat_natCast, ht]; rfl, ?_⟩
      rw [backG, backS, Int.toNat_natCast, ht, hlen, if_pos ⟨hf', rfl⟩, if_pos ⟨hf', rfl⟩, hw2]
      exact hm _ _ _ ⟨g2, v', l', hg2, h2, f2, o2⟩
  · refine (plBackNo f w hp.toPlIn hp.pos (fin.out hf)).mono ?_
    rintro e w' ⟨rfl, rfl⟩
    refine ⟨by rw [backE, hlen, if_neg hf], A, ?_, Mv.refl _ _⟩
    rw [backG, backS, hlen, if_neg (fun x => hf x.1), if_neg (fun x => hf x.1)]
    exact h
theorem iSave (f o k v : Int) (hk : (Lit.int .i64 k).wf = true) (h0 : 0 ≤ v) (h1 : v ≤ 4294967295) (w : World) (h : Img A w b s fb mb n G S M) :
    Calls Try.prog 24 #[.pointer (some ⟨s, 0, none⟩), .int .i64 f, .int .i64 o, .int .i64 k, .int .u32 v] w fun e w' => e = .returned (.int .i64 (svE n f o k)) ∧ Img A w' b s fb mb n (svG n G f o k v) S M ∧ Mv A A w w' := by
  refine (fsave_any s fb n f o k v G w h.sto hk h0 h1).mono ?_
  rintro e w' ⟨rfl, hu, hs⟩
  exact ⟨rfl, h.stored hu hs, Mv.of_upd h.afb hu⟩
theorem iSet (i fr ri : Int) (w : World) (h : Img A w b s fb mb n G S M) :
    Calls Try.prog 23 #[.pointer (some ⟨mb, 0, none⟩), .int .i64 i, .agg #[.int .i64 fr, .int .i64 ri]] w fun e w' => e = .returned (.int .i64 (setRes M i fr ri)) ∧ Img A w' b s fb mb n G S (setNew M i fr ri) ∧ Mv A A w w' := by
  refine (set_any mb M i fr ri w h.m).mono ?_
  rintro e w' ⟨rfl, hu, hs⟩
  exact ⟨rfl, h.mapped hu hs, Mv.of_upd h.amb hu⟩
theorem iDrop (i : Int) (w : World) (h : Img A w b s fb mb n G S M) :
    Calls Try.prog 36 #[.pointer (some ⟨mb, 0, none⟩), .int .i64 i] w fun e w' => e = .returned (.int .i64 (dropRes M i)) ∧ Img A w' b s fb mb n G S (dropNew M i) ∧ Mv A A w w' := by
  refine (drop_any mb M i w h.m).mono ?_
  rintro e w' ⟨rfl, hu, hs⟩
  exact ⟨rfl, h.mapped hu hs, Mv.of_upd h.amb hu⟩
theorem iGet (i : Int) (w : World) (h : Img A w b s fb mb n G S M) :
    Calls Try.prog 16 #[.pointer (some ⟨mb, 0, none⟩), .int .i64 i] w fun e w' => e = .returned (.tuple #[.agg #[.int .i64 (getF M i), .int .i64 (getR M i)], .bool (getT M i)]) ∧ Below w.heap.size w w' := get_any mb M i w h.m
theorem iLeft (who : Int) (w : World) (h : Img A w b s fb mb n G S M) :
    Calls Try.prog 12 #[.pointer (some ⟨b, 0, none⟩), .int .i64 who] w fun e w' => e = .returned (.int .i64 (leftC S who)) ∧ w = w' := by
  obtain ⟨V, L, st, hp, hm⟩ := h.pl
  by_cases h0 : 0 ≤ who ∧ who < 16
  · obtain ⟨g, rfl⟩ : ∃ g : Nat, who = g := ⟨who.toNat, by omega⟩
    rw [leftC, if_pos h0, Int.toNat_natCast, ← (hp.perm g (by omega)).length_eq]
    exact plLeft g w hp.toPlIn hp.pos (by omega)
  · rw [leftC, if_neg h0]
    exact plLeftNo who w hp.toPlIn hp.pos (by omega)
/-- Is it taken? -/
def takenB (S : List stIt) (f : Int) : Bool := if fin S.length f then (atL S f.toNat).tk else false
theorem iTaken (f : Int) (w : World) (h : Img A w b s fb mb n G S M) :
    Calls Try.prog 19 #[.pointer (some ⟨b, 0, none⟩), .int .i64 f] w fun e w' => e = .returned (.bool (takenB S f)) ∧ w = w' := by
  obtain ⟨V, L, st, hp, hm⟩ := h.pl
  by_cases hf : fin n f
  · have hf' := hf
    obtain ⟨k, rfl, hk⟩ := hf.nat
    rw [takenB, hp.len, if_pos hf', Int.toNat_natCast]
    exact plTaken k w hp.toPlIn hk
  · rw [takenB, hp.len, if_neg hf]
    exact plTakenNo f w hp.toPlIn hp.pos (fin.out hf)
theorem iOwnNo (w : World) (h : Img A w b s fb mb n G S M) :
    Calls Try.prog 30 #[.pointer (some ⟨b, 0, none⟩), .int .i64 (-1), .int .i64 0] w fun e w' => e = .returned (.int .i64 1) ∧ w = w' := by
  obtain ⟨V, L, st, hp, hm⟩ := h.pl
  exact plOwnNo (-1) 0 w hp.toPlIn hp.pos (.inl (by omega))
end
end Go.Proofs.Ytklgfnboadchmaa
end

section
/- image: contracts of made, free, may, page. -/
namespace Go.Proofs.Ytklgfnboadchmaa
open Go.ChangeShapes Go.WideShapes Go.ChangeAt Go.RowKit
set_option linter.unusedVariables false
set_option maxRecDepth 20000

section
variable {A : Nat → Prop} {w w' : World} {b s fb mb n : Nat} {G G' : Nat → Int} {S S' : List stIt} {M M' : Nat → Int × Int}
theorem iMade (w : World) (h : Img A w b s fb mb n G S M) :
    Calls Try.prog 61 #[.pointer (some ⟨b, 0, none⟩), .pointer (some ⟨s, 0, none⟩), .pointer (some ⟨mb, 0, none⟩)] w fun e w' => e = .returned (.bool true) ∧ Img A w' b s fb mb n G S M ∧ Mv A A w w' := by
  have hn0 : (0 : Int) < n := by have := h.hn; omega
  have hd : dropRes M (-1) = 1 := by unfold dropRes pageB; simp
  have hd2 : dropNew M (-1) = M := by unfold dropNew pageB; simp
  go_enter Try.func61, Try.ntmps61
  go_wp2_with fail
  refine (iOwnNo _ h).mono ?_
  rintro e w1 ⟨rfl, rfl⟩
  go_wp2_with fail
  refine (len_of s fb n G _ h.sto).mono ?_
  rintro e w1 ⟨rfl, b1⟩
  have h1 := h.below b1
  go_wp2_with fail
  refine (iDrop (-1) _ h1).mono ?_
  rintro e w2 ⟨rfl, h2, m2⟩
  rw [hd2] at h2
  rw [hd]
  go_wp2
  go_ret
  exact ⟨rfl, h2, (Mv.of_below A b1).trans m2⟩
/-- None of the first pages is there. -/
def freeB (M : Nat → Int × Int) (k : Nat) : Bool := (List.range k).all fun i => !isThere M i
theorem freeB_at {k : Nat} (h : freeB M k = true) {i : Nat} (hi : i < k) : isThere M i = false := by
  simp [freeB] at h
  exact h i hi
theorem freeB_succ (k : Nat) : freeB M (k + 1) = (freeB M k && !isThere M k) := by
  simp [freeB, List.range_succ]
theorem freeB_no {k i : Nat} (hi : i < k) (h : isThere M i = true) : freeB M k = false := by
  simp [freeB]
  exact ⟨i, hi, h⟩
theorem getT_nat {i : Nat} (hi : i < 12) : getT M (i : Int) = isThere M i := by
  have : pageB (i : Int) = true := pageB_nat hi
  simp [getT, this]
theorem iFree (k : Nat) (hk : k ≤ 8) (w : World) (h : Img A w b s fb mb n G S M) :
    Calls Try.prog 62 #[.pointer (some ⟨mb, 0, none⟩), .int .i64 k] w fun e w' => e = .returned (.bool (freeB M k)) ∧ Below w.heap.size w w' := by
  go_enter Try.func62, Try.ntmps62
  go_wp2_with fail
  go_loopw [9] (fun iv wr => ∃ i : Nat, i ≤ k ∧ iv = .int .i64 i ∧ freeB M i = true ∧ Bel w.heap.size w wr) (fun iv _ => k - (intOf iv).toNat)
  case atStart => exact ⟨0, Nat.zero_le _, rfl, rfl, Bel.refl w⟩
  case round =>
    obtain ⟨i, hi, rfl, hf, hbel⟩ := hrel
    have h1 := h.below hbel.1
    by_cases hik : i < k
    · go_wp2_with fail
      refine (iGet i _ h1).mono ?_
      rintro e w2 ⟨rfl, b2⟩
      rw [getT_nat (by omega)]
      have hb2 := hbel.of b2
      cases ht : isThere M i
      · go_wp2
        go_roundw
        case rel => exact ⟨i + 1, by omega, by go_num, by rw [freeB_succ, hf, ht]; rfl, hb2.alloc⟩
        case measure => simp [intOf]; omega
      · go_wp2
        go_ret
        exact ⟨by rw [freeB_no hik ht]; rfl, hb2.alloc.1⟩
    · obtain rfl : i = k := by omega
      go_wp2
      go_ret
      exact ⟨by rw [hf]; rfl, hbel.1⟩
/-- The error of Lay. -/
def layE (S : List stIt) (M : Nat → Int × Int) (who pages : Int) : Int :=
  if pages < 1 ∨ 8 < pages ∨ who < 0 ∨ 16 ≤ who then 1 else if freeB M pages.toNat = false then 5 else if leftC S who < pages then 2 else 0
theorem iMay (who pages : Int) (w : World) (h : Img A w b s fb mb n G S M) :
    Calls Try.prog 32 #[.pointer (some ⟨b, 0, none⟩), .pointer (some ⟨s, 0, none⟩), .pointer (some ⟨mb, 0, none⟩), .int .i64 who, .int .i64 pages] w fun e w' => e = .returned (.int .i64 (layE S M who pages)) ∧ Img A w' b s fb mb n G S M ∧ Mv A A w w' := by
  by_cases hbad : pages < 1 ∨ 8 < pages ∨ who < 0 ∨ 16 ≤ who
  · rw [layE, if_pos hbad]
    rcases (by omega : pages < 1 ∨ (¬ pages < 1 ∧ 8 < pages) ∨ (¬ pages < 1 ∧ ¬ 8 < pages ∧ who < 0) ∨ (¬ pages < 1 ∧ ¬ 8 < pages ∧ ¬ who < 0 ∧ 16 ≤ who)) with h1 | ⟨h1, h2⟩ | ⟨h1, h2, h3⟩ | ⟨h1, h2, h3, h4⟩
    all_goals
      clear hbad
      go_enter Try.func32, Try.ntmps32
      go_wp2_with fail
      refine (iMade _ h).mono ?_
      rintro e w1 ⟨rfl, g1, m1⟩
      go_wp2
      go_ret
      exact ⟨rfl, g1, m1⟩
  · rw [layE, if_neg hbad]
    obtain ⟨k, rfl⟩ : ∃ k : Nat, pages = k := ⟨pages.toNat, by omega⟩
    rw [Int.toNat_natCast]
    have h1 : ¬ (k : Int) < 1 := by omega
    have h2 : ¬ (8 : Int) < k := by omega
    have h3 : ¬ who < 0 := by omega
    have h4 : ¬ 16 ≤ who := by omega
    have hk8 : k ≤ 8 := by omega
    clear hbad
    have h1' : ¬ k < 1 := by omega
    have h2' : ¬ 8 < k := by omega
    cases hf : freeB M k
    · go_enter Try.func32, Try.ntmps32
      go_wp2_with fail
      refine (iMade _ h).mono ?_
      rintro e w1 ⟨rfl, g1, m1⟩
      go_wp2_with fail
      refine (iFree k hk8 _ g1).mono ?_
      rintro e w2 ⟨rfl, b2⟩
      rw [hf]
      go_wp2
      go_ret
      exact ⟨rfl, g1.below b2, m1.below b2⟩
    · obtain ⟨X, hX⟩ : ∃ X, leftC S who = X := ⟨_, rfl⟩
      by_cases hl : X < k
      · rw [if_neg (by simp), hX, if_pos hl]
        go_enter Try.func32, Try.ntmps32
        go_wp2_with fail
        refine (iMade _ h).mono ?_
        rintro e w1 ⟨rfl, g1, m1⟩
        go_wp2_with fail
        refine (iFree k hk8 _ g1).mono ?_
        rintro e w2 ⟨rfl, b2⟩
        rw [hf]
        go_wp2_with fail
        refine (iLeft who _ (g1.below b2)).mono ?_
        rintro e w3 ⟨rfl, rfl⟩
        rw [hX]
        go_wp2
        go_ret
        exact ⟨rfl, g1.below b2, m1.below b2⟩
      · rw [if_neg (by simp), hX, if_neg hl]
        go_enter Try.func32, Try.ntmps32
        go_wp2_with fail
        refine (iMade _ h).mono ?_
        rintro e w1 ⟨rfl, g1, m1⟩
        go_wp2_with fail
        refine (iFree k hk8 _ g1).mono ?_
        rintro e w2 ⟨rfl, b2⟩
        rw [hf]
        go_wp2_with fail
        refine (iLeft who _ (g1.below b2)).mono ?_
        rintro e w3 ⟨rfl, rfl⟩
        rw [hX]
        go_wp2
        go_ret
        exact ⟨rfl, g1.below b2, m1.below b2⟩
end
/-- Where a page's words begin, and how many they are. -/
def pgO (N i : Nat) : Nat := min N (16 * i)
def pgN (N i : Nat) : Nat := min N (pgO N i + 16) - pgO N i
theorem ipage (g N i : Nat) (hN : N ≤ 128) (hi : i < 8) : ∃ o c, (0 < pgN N i → o = i * 16) ∧ ∀ w : World,
    Calls Try.prog 35 #[.slice (some ⟨g, 0, none⟩) N N, .int .i64 i] w fun e w' => e = .returned (.slice (some ⟨g, o, none⟩) (pgN N i) c) ∧ w = w' := by
  rcases (by omega : N ≤ 16 * i ∨ (16 * i < N ∧ N ≤ 16 * i + 16) ∨ 16 * i + 16 < N) with h1 | ⟨h1, h2⟩ | h1
  · have e1 : pgO N i = N := by unfold pgO; omega
    have e2 : pgN N i = 0 := by unfold pgN; rw [e1]; omega
    refine ⟨0, 0, by omega, fun w => ?_⟩
    rw [e2]
    have hx : (N : Int) ≤ (i : Int) * 16 := by omega
    have hx2 : (N : Int) ≤ N + 16 := by omega
    clear e1 e2
    go_enter Try.func35, Try.ntmps35
    go_wp2
    go_ret
    exact ⟨rfl, rfl⟩
  · have e1 : pgO N i = i * 16 := by unfold pgO; omega
    have e2 : pgN N i = N - i * 16 := by unfold pgN; rw [e1]; omega
    refine ⟨i * 16, N - i * 16, fun _ => rfl, fun w => ?_⟩
    rw [e2]
    have hx : ¬ (N : Int) ≤ (i : Int) * 16 := by omega
    have hx2 : (N : Int) ≤ (i : Int) * 16 + 16 := by omega
    clear e1 e2
    go_enter Try.func35, Try.ntmps35
    go_wp2
    go_ret
    exact ⟨rfl, rfl⟩
  · have e1 : pgO N i = i * 16 := by unfold pgO; omega
    have e2 : pgN N i = 16 := by unfold pgN; rw [e1]; omega
    refine ⟨i * 16, N - i * 16, fun _ => rfl, fun w => ?_⟩
    rw [e2]
    have hx : ¬ (N : Int) ≤ (i : Int) * 16 := by omega
    have hx2 : ¬ (N : Int) ≤ (i : Int) * 16 + 16 := by omega
    clear e1 e2
    go_enter Try.func35, Try.ntmps35
    go_wp2
    go_ret
    exact ⟨rfl, rfl⟩
end Go.Proofs.Ytklgfnboadchmaa
end

section
/- image: Lay's closure, Lay, Strip. -/
namespace Go.Proofs.Ytklgfnboadchmaa
open Go.ChangeShapes Go.WideShapes Go.ChangeAt Go.RowKit
set_option linter.unusedVariables false
set_option maxRecDepth 20000

/-- The bytes with the first words of page i in frame f. -/
def wG (n f : Nat) (W : Nat → Int) (N i : Nat) (G : Nat → Int) : Nat → Nat → Int
  | 0 => G
  | k + 1 => if i * 16 + k < N then svG n (wG n f W N i G k) f (4 * (k : Int)) 4 (W (i * 16 + k)) else wG n f W N i G k
theorem wG_yes {n f : Nat} {W : Nat → Int} {N i : Nat} {G : Nat → Int} {k : Nat} (h : i * 16 + k < N) : wG n f W N i G (k + 1) = svG n (wG n f W N i G k) f (4 * (k : Int)) 4 (W (i * 16 + k)) := by rw [wG, if_pos h]
theorem wG_no {n f : Nat} {W : Nat → Int} {N i : Nat} {G : Nat → Int} {k : Nat} (h : ¬ i * 16 + k < N) : wG n f W N i G (k + 1) = wG n f W N i G k := by rw [wG, if_neg h]
theorem wG_end {n f : Nat} {W : Nat → Int} {N i : Nat} {G : Nat → Int} : ∀ {k m : Nat}, N ≤ i * 16 + k → k ≤ m → wG n f W N i G m = wG n f W N i G k
  | k, 0, _, h => by obtain rfl : k = 0 := by omega
                     rfl
  | k, m + 1, h1, h2 => by
    by_cases e : k = m + 1
    · rw [e]
    · rw [wG_no (by omega), wG_end h1 (by omega)]
theorem pgN_end {n f : Nat} {W : Nat → Int} {N i : Nat} {G : Nat → Int} : wG n f W N i G (pgN N i) = wG n f W N i G 16 := by
  by_cases h : i * 16 + 16 ≤ N
  · have : pgN N i = 16 := by unfold pgN pgO; omega
    rw [this]
  · exact (wG_end (by unfold pgN pgO; omega) (by unfold pgN; omega)).symm
theorem pgN_in {N i k : Nat} (h : k < pgN N i) : i * 16 + k < N ∧ k < 16 := by
  unfold pgN pgO at h
  omega
/-- States, bytes, pages. -/
structure Im3 where
  S : List stIt
  G : Nat → Int
  M : Nat → Int × Int
def lay1 (n g : Nat) (W : Nat → Int) (N i : Nat) (x : Im3) : Im3 := ⟨x.S.set (lowF x.S g) ⟨g, true⟩, wG n (lowF x.S g) W N i x.G 16, setNew x.M i (lowF x.S g) 3⟩
def layTo (n g : Nat) (W : Nat → Int) (N : Nat) (x : Im3) : Nat → Im3
  | 0 => x
  | i + 1 => lay1 n g W N i (layTo n g W N x i)

section
variable {A : Nat → Prop} {w w' : World} {b s fb mb n : Nat} {G G' : Nat → Int} {S S' : List stIt} {M M' : Nat → Int × Int}
/-- What Lay's closure has captured. -/
structure Cap (A : Nat → Prop) (w : World) (b s mb g gw N : Nat) (W : Nat → Int) (pb wb ab sb xb : Nat) : Prop where
  cp : w.cell? ⟨pb, 0, none⟩ = some (.pointer (some ⟨b, 0, none⟩))
  cw : w.cell? ⟨wb, 0, none⟩ = some (.int .i64 g)
  ca : w.cell? ⟨ab, 0, none⟩ = some (.slice (some ⟨gw, 0, none⟩) N N)
  cs : w.cell? ⟨sb, 0, none⟩ = some (.pointer (some ⟨s, 0, none⟩))
  cx : w.cell? ⟨xb, 0, none⟩ = some (.pointer (some ⟨mb, 0, none⟩))
  row : URow w gw N W
  np : ¬ A pb
  nw : ¬ A wb
  na : ¬ A ab
  ns : ¬ A sb
  nx : ¬ A xb
  nr : ¬ A gw
theorem Cap.mv {A A' : Nat → Prop} {w w' : World} {b s mb g gw N : Nat} {W : Nat → Int} {pb wb ab sb xb : Nat} (h : Cap A w b s mb g gw N W pb wb ab sb xb) (m : Mv A A' w w') : Cap A' w' b s mb g gw N W pb wb ab sb xb :=
  ⟨m.held h.cp h.np, m.held h.cw h.nw, m.held h.ca h.na, m.held h.cs h.ns, m.held h.cx h.nx, h.row.mv m h.nr, m.out (cell_lt h.cp) h.np, m.out (cell_lt h.cw) h.nw, m.out (cell_lt h.ca) h.na, m.out (cell_lt h.cs) h.ns, m.out (cell_lt h.cx) h.nx, m.out h.row.lt h.nr⟩

set_option maxHeartbeats 2000000 in
theorem iLay1 (g gw N i : Nat) (W : Nat → Int) (pb wb ab sb xb : Nat) (hg : g < 16) (hN : N ≤ 128) (hi : i < 8) (hW : Wrd W) (hl : 0 < (leftL S g).length) (ht : isThere M i = false) (w : World) (h : Img A w b s fb mb n G S M) (hc : Cap A w b s mb g gw N W pb wb ab sb xb) :
    Calls Try.prog 33 #[.int .i64 i, .pointer (some ⟨pb, 0, none⟩), .pointer (some ⟨wb, 0, none⟩), .pointer (some ⟨ab, 0, none⟩), .pointer (some ⟨sb, 0, none⟩), .pointer (some ⟨xb, 0, none⟩)] w fun e w' => e = .returned (.int .i64 0) ∧ ∃ A', Img A' w' b s fb mb n (lay1 n g W N i ⟨S, G, M⟩).G (lay1 n g W N i ⟨S, G, M⟩).S (lay1 n g W N i ⟨S, G, M⟩).M ∧ Mv A A' w w' := by
  obtain ⟨po, pc, hpo, hpage⟩ := ipage gw N i hN hi
  have c1 := hc.cp
  have c2 := hc.cw
  obtain ⟨f, hf⟩ : ∃ f, lowF S g = f := ⟨_, rfl⟩
  have hlow := low_of_left hl
  rw [hf] at hlow
  have hfn : f < n := by rw [← h.len]; exact hlow.lt
  have hn32 := h.n32
  have hres : setRes M i f 3 = 0 := by rw [setRes, if_pos ⟨pageB_nat (by omega), placeB_of (by omega) (by omega) (by omega) (by omega)⟩, Int.toNat_natCast, ht]; rfl
  have HR := Lib.hid hres
  have HL := Lib.hid hf
  clear hres
  unfold lay1
  simp only
  rw [hf]
  have hTk := iTake g hg hl w h
  rw [hf] at hTk
  clear hf
  go_enter Try.func33, Try.ntmps33
  go_wp2_with fail
  refine hTk.mono ?_
  rintro e w1 ⟨rfl, A1, h1, m1⟩
  have k1 := hc.mv m1
  have c3 := k1.ca
  clear c1 c2 hTk
  go_wp2_with fail
  refine (hpage _).mono ?_
  rintro e w2 ⟨rfl, rfl⟩
  clear c3
  go_wp2_with fail
  go_loopw [25] (fun kv wr => ∃ k : Nat, k ≤ pgN N i ∧ kv = .int .i64 k ∧ Img A1 wr b s fb mb n (wG n f W N i G k) (S.set f ⟨g, true⟩) M ∧ Mv A1 A1 w1 wr) (fun kv _ => pgN N i - (intOf kv).toNat)
  case atStart => exact ⟨0, Nat.zero_le _, rfl, h1, Mv.refl _ _⟩
  case round =>
    obtain ⟨k, hk, rfl, h2, m2⟩ := hrel
    have k2 := k1.mv m2
    by_cases hkn : k < pgN N i
    · have hpo' := hpo (by omega)
      subst hpo'
      obtain ⟨hkN, hk16⟩ := pgN_in hkn
      have c4 := k2.cs
      have c5 := k2.row.cell hkN
      have hlt := k2.row.lt
      have hw := hW (i * 16 + k)
      go_wp2_with fail
      refine (iSave f (4 * (k : Int)) 4 (W (i * 16 + k)) (by decide) hw.1 hw.2 _ h2).mono ?_
      rintro e w3 ⟨rfl, h3, m3⟩
      rw [← wG_yes hkN] at h3
      go_wp2_with fail
      go_roundw
      case rel => exact ⟨k + 1, by omega, by go_num, h3, m2.trans m3⟩
      case measure => simp [intOf]; omega
    · obtain rfl : k = pgN N i := by omega
      rw [pgN_end] at h2
      have c6 := k2.cx
      go_wp2_with fail
      refine (iSet i f 3 _ h2).mono ?_
      rintro e w4 ⟨rfl, h4, m4⟩
      rw [HR.out]
      go_wp2
      go_ret
      exact ⟨rfl, A1, h4, m1.trans (m2.trans m4)⟩
/-- Lay. -/
def layX (n : Nat) (x : Im3) (who pages : Int) (W : Nat → Int) (N : Nat) : Im3 := if layE x.S x.M who pages = 0 then layTo n who.toNat W N x pages.toNat else x
end
end Go.Proofs.Ytklgfnboadchmaa
end

section
/- image: Lay. -/
namespace Go.Proofs.Ytklgfnboadchmaa
open Go.ChangeShapes Go.WideShapes Go.ChangeAt Go.RowKit
set_option linter.unusedVariables false
set_option maxRecDepth 20000

theorem left_taken {S : List stIt} {g f : Nat} (h : Low S g f) : (leftL (S.set f ⟨g, true⟩) g).length + 1 = (leftL S g).length := by
  have h1 := (left_set (S := S) (q := g) (x := ⟨g, true⟩) h.lt).length_eq
  have h2 := (left_set (S := S) (q := g) (x := atL S f) h.lt).length_eq
  rw [set_self h.lt, if_pos ⟨h.who, h.tk⟩] at h2
  rw [if_neg (by simp)] at h1
  simp at h1 h2
  omega
theorem setNew_other {M : Nat → Int × Int} {i j : Nat} {f r : Int} (h : j ≠ i) : setNew M i f r j = M j := by
  unfold setNew
  split
  · simp [upd, h]
  · rfl
section
variable {n g N : Nat} {W : Nat → Int} {x : Im3}
theorem layTo_there {j : Nat} : ∀ {i : Nat}, i ≤ j → isThere (layTo n g W N x i).M j = isThere x.M j
  | 0, _ => rfl
  | i + 1, h => by
    rw [layTo, lay1, ← layTo_there (i := i) (by omega)]
    simp only [isThere, setNew_other (show j ≠ i by omega)]
theorem layTo_left : ∀ {i : Nat}, i ≤ (leftL x.S g).length → (leftL (layTo n g W N x i).S g).length + i = (leftL x.S g).length
  | 0, _ => rfl
  | i + 1, h => by
    have h1 := layTo_left (i := i) (by omega)
    have h2 := left_taken (low_of_left (S := (layTo n g W N x i).S) (g := g) (by omega))
    rw [layTo, lay1]
    simp only
    omega
end
theorem layE_ok {S : List stIt} {M : Nat → Int × Int} {who pages : Int} (h : layE S M who pages = 0) : ∃ g k : Nat, who = g ∧ pages = k ∧ g < 16 ∧ 1 ≤ k ∧ k ≤ 8 ∧ freeB M k = true ∧ k ≤ (leftL S g).length := by
  unfold layE at h
  by_cases h1 : pages < 1 ∨ 8 < pages ∨ who < 0 ∨ 16 ≤ who
  · rw [if_pos h1] at h; omega
  · rw [if_neg h1] at h
    by_cases h2 : freeB M pages.toNat = false
    · rw [if_pos h2] at h; omega
    · rw [if_neg h2] at h
      by_cases h3 : leftC S who < pages
      · rw [if_pos h3] at h; omega
      · refine ⟨who.toNat, pages.toNat, by omega, by omega, by omega, by omega, by omega, by simpa using h2, ?_⟩
        rw [leftC, if_pos (by omega)] at h3
        omega
section
variable {A : Nat → Prop} {w w' : World} {b s fb mb n : Nat} {x : Im3}
set_option maxHeartbeats 2000000 in
theorem iLay (who pages : Int) (p : Option Addr) (n1 c1 : Nat) (W : Nat → Int) (hn1 : n1 ≤ 140737488355328) (w : World) (h : Img A w b s fb mb n x.G x.S x.M) (hU : USrc w p n1 W) (hp : 1 ≤ n1 → ∀ b o, p = some ⟨b, o, none⟩ → ¬ A b) :
    Calls Try.prog 9 #[.pointer (some ⟨b, 0, none⟩), .pointer (some ⟨s, 0, none⟩), .pointer (some ⟨mb, 0, none⟩), .int .i64 who, .int .i64 pages, .slice p n1 c1] w fun e w' => e = .returned (.int .i64 (layE x.S x.M who pages)) ∧ ∃ A', Img A' w' b s fb mb n (layX n x who pages W (cutN n1 pages)).G (layX n x who pages W (cutN n1 pages)).S (layX n x who pages W (cutN n1 pages)).M ∧ Mv A A' w w' := by
  by_cases hE : layE x.S x.M who pages = 0
  · rw [layX, if_pos hE, hE]
    have HE := Lib.hid hE
    obtain ⟨g, k, rfl, rfl, hg, hk1, hk8, hfree, hleft⟩ := layE_ok hE
    rw [Int.toNat_natCast, Int.toNat_natCast]
    clear hE
    have hN8 := cutN_le n1 k
    have hcut := fun w h => cut_any p n1 c1 W k w h hn1
    generalize cutN n1 (k : Int) = N at *
    have hnA : ∀ i, w.heap.size ≤ i → ¬ A i := fun i hi hA => by have := h.lt i hA; omega
    go_enter Try.func9, Try.ntmps9
    go_wp2_with fail
    refine (iMay g k _ h.alloc.alloc.alloc.alloc).mono ?_
    rintro e w1 ⟨rfl, h1, m1⟩
    rw [HE.out]
    have q1 := m1.held (j := w.heap.size) (o := 0) (s := none) (v := .pointer (some ⟨b, 0, none⟩)) (by simp [go_sem]) (hnA _ (by omega))
    have q2 := m1.held (j := w.heap.size + 1) (o := 0) (s := none) (v := .pointer (some ⟨s, 0, none⟩)) (by simp [go_sem]) (hnA _ (by omega))
    have q3 := m1.held (j := w.heap.size + 1 + 1) (o := 0) (s := none) (v := .pointer (some ⟨mb, 0, none⟩)) (by simp [go_sem]) (hnA _ (by omega))
    have q4 := m1.held (j := w.heap.size + 1 + 1 + 1) (o := 0) (s := none) (v := .int .i64 g) (by simp [go_sem]) (hnA _ (by omega))
    have hmv : Mv A A w w1 := (Mv.of_below A (((((Bel.refl w).alloc).alloc).alloc).alloc).1).trans m1
    have hsz : w.heap.size + 4 ≤ w1.heap.size := by
      have := m1.fr.size
      simp at this
      omega
    clear m1
    go_wp2_with fail
    refine (hcut _ (hU.mv hmv hp)).mono ?_
    rintro e w2 ⟨gw, rfl, hgw, hrow, b2⟩
    have h2 := h1.below b2
    have hsz2 := b2.size
    have r1 := (b2.cell (p := ⟨w.heap.size, 0, none⟩) (by show w.heap.size < _; omega)).trans q1
    have r2 := (b2.cell (p := ⟨w.heap.size + 1, 0, none⟩) (by show w.heap.size + 1 < _; omega)).trans q2
    have r3 := (b2.cell (p := ⟨w.heap.size + 1 + 1, 0, none⟩) (by show w.heap.size + 1 + 1 < _; omega)).trans q3
    have r4 := (b2.cell (p := ⟨w.heap.size + 1 + 1 + 1, 0, none⟩) (by show w.heap.size + 1 + 1 + 1 < _; omega)).trans q4
    have hcap : Cap A (w2.alloc (.cells #[.slice (some ⟨gw, 0, none⟩) N N] 22)) b s mb g gw N W w.heap.size (w.heap.size + 1 + 1 + 1) w2.heap.size (w.heap.size + 1) (w.heap.size + 1 + 1) := by
      have hb3 := (Bel.refl w2).alloc (o := .cells #[.slice (some ⟨gw, 0, none⟩) N N] 22) |>.1
      refine ⟨(hb3.cell (p := ⟨w.heap.size, 0, none⟩) (by show w.heap.size < _; omega)).trans r1, (hb3.cell (p := ⟨w.heap.size + 1 + 1 + 1, 0, none⟩) (by show w.heap.size + 1 + 1 + 1 < _; omega)).trans r4, by simp [go_sem], (hb3.cell (p := ⟨w.heap.size + 1, 0, none⟩) (by show w.heap.size + 1 < _; omega)).trans r2, (hb3.cell (p := ⟨w.heap.size + 1 + 1, 0, none⟩) (by show w.heap.size + 1 + 1 < _; omega)).trans r3, ?_, hnA _ (by omega), hnA _ (by omega), hnA _ (by omega), hnA _ (by omega), hnA _ (by omega), hnA _ (by omega)⟩
      obtain ⟨cur, e1, e2⟩ := hrow
      exact ⟨cur, heap_alloc e1, e2⟩
    have hmk : ∀ (fn : Fn) (first cap : Array Value) (w : World), (Instr.makeFunc fn first cap).run Try.prog w = .ok (.func fn first cap) w := fun _ _ _ _ => rfl
    have h3 := h2.alloc (o := .cells #[.slice (some ⟨gw, 0, none⟩) N N] 22)
    have m3 : Mv A A w (w2.alloc (.cells #[.slice (some ⟨gw, 0, none⟩) N N] 22)) := (hmv.below b2).below (Bel.refl w2).alloc.1
    clear q1 q2 q3 q4 r1 r2 r3 r4 h1 h2 hmv hrow hsz
    go_wp2_with fail
    generalize w2.alloc (.cells #[.slice (some ⟨gw, 0, none⟩) N N] 22) = w3 at *
    generalize w2.heap.size = ab at *
    clear hsz2 b2 hmk hgw
    go_loopw [32] (fun iv wr => ∃ (i : Nat) (A' : Nat → Prop), i ≤ k ∧ iv = .int .i64 i ∧ Img A' wr b s fb mb n (layTo n g W N x i).G (layTo n g W N x i).S (layTo n g W N x i).M ∧ Cap A' wr b s mb g gw N W w.heap.size (w.heap.size + 1 + 1 + 1) ab (w.heap.size + 1) (w.heap.size + 1 + 1) ∧ Mv A A' w wr) (fun iv _ => k - (intOf iv).toNat)
    case atStart => exact ⟨0, A, Nat.zero_le _, rfl, h3, hcap, m3⟩
    case round =>
      clear h3 hcap m3
      obtain ⟨i, A', hi, rfl, h4, hcap, m4⟩ := hrel
      by_cases hik : i < k
      · have hlf : 0 < (leftL (layTo n g W N x i).S g).length := by
          have := layTo_left (n := n) (g := g) (N := N) (W := W) (x := x) (i := i) (by omega)
          omega
        have hth : isThere (layTo n g W N x i).M i = false := (layTo_there (Nat.le_refl i)).trans (freeB_at hfree hik)
        have hL := iLay1 g gw N i W _ _ _ _ _ hg hN8 (by omega) hU.2.1 hlf hth wr h4 hcap
        clear hlf hth
        go_wp2_with fail
        refine hL.mono ?_
        rintro e w5 ⟨rfl, A5, h5, m5⟩
        have hcap5 := hcap.mv m5
        clear hL hcap
        go_wp2
        go_roundw
        case rel => exact ⟨i + 1, A5, by omega, by go_num, h5, hcap5, m4.trans m5⟩
        case measure => simp [intOf]; omega
      · obtain rfl : i = k := by omega
        clear hcap
        go_wp2
        go_ret
        exact ⟨rfl, A', h4, m4⟩
  · rw [layX, if_neg hE]
    obtain ⟨E, hEE⟩ : ∃ E, layE x.S x.M who pages = E := ⟨_, rfl⟩
    have HE := Lib.hid hEE
    rw [hEE] at hE ⊢
    clear hEE
    go_enter Try.func9, Try.ntmps9
    go_wp2_with fail
    refine (iMay who pages _ h.alloc.alloc.alloc.alloc).mono ?_
    rintro e w1 ⟨rfl, h1, m1⟩
    rw [HE.out]
    go_wp2
    go_ret
    exact ⟨rfl, A, h1, (Mv.of_below A (((((Bel.refl w).alloc).alloc).alloc).alloc).1).trans m1⟩
end
end Go.Proofs.Ytklgfnboadchmaa
end

section
/- image: Strip. -/
namespace Go.Proofs.Ytklgfnboadchmaa
open Go.ChangeShapes Go.WideShapes Go.ChangeAt Go.RowKit
set_option linter.unusedVariables false
set_option maxRecDepth 20000

/-- What Strip makes of the first pages. -/
def strTo (x : Im3) : Nat → Im3
  | 0 => x
  | i + 1 => if isThere (strTo x i).M i = true then ⟨backS (strTo x i).S ((strTo x i).M i).1, backG (strTo x i).S (strTo x i).G ((strTo x i).M i).1, upd (strTo x i).M i (0, 0)⟩ else strTo x i
/-- How many are there. -/
def cntT (M : Nat → Int × Int) : Nat → Nat
  | 0 => 0
  | i + 1 => cntT M i + if isThere M i = true then 1 else 0
theorem cntT_le (M : Nat → Int × Int) : ∀ i, cntT M i ≤ i
  | 0 => Nat.le_refl _
  | i + 1 => by
    have := cntT_le M i
    rw [cntT]
    split <;> omega
theorem strTo_M {x : Im3} {j : Nat} : ∀ {i : Nat}, i ≤ j → (strTo x i).M j = x.M j
  | 0, _ => rfl
  | i + 1, h => by
    rw [strTo]
    split
    · simp only [upd]
      rw [if_neg (by omega)]
      exact strTo_M (by omega)
    · exact strTo_M (by omega)
theorem strTo_there {x : Im3} {i : Nat} : isThere (strTo x i).M i = isThere x.M i := by
  rw [isThere, isThere, strTo_M (Nat.le_refl i)]
section
variable {A : Nat → Prop} {w w' : World} {b s fb mb n : Nat} {x : Im3}
set_option maxHeartbeats 2000000 in
theorem iStrip (w : World) (h : Img A w b s fb mb n x.G x.S x.M) :
    Calls Try.prog 10 #[.pointer (some ⟨b, 0, none⟩), .pointer (some ⟨mb, 0, none⟩)] w fun e w' => e = .returned (.int .i64 (cntT x.M 8)) ∧ ∃ A', Img A' w' b s fb mb n (strTo x 8).G (strTo x 8).S (strTo x 8).M ∧ Mv A A' w w' := by
  go_enter Try.func10, Try.ntmps10
  go_wp2_with fail
  go_loopw [5, 9] (fun cv iv wr => ∃ (i : Nat) (A' : Nat → Prop), i ≤ 8 ∧ iv = .int .i64 i ∧ cv = .int .i64 (cntT x.M i) ∧ Img A' wr b s fb mb n (strTo x i).G (strTo x i).S (strTo x i).M ∧ Mv A A' w wr) (fun _ iv _ => 8 - (intOf iv).toNat)
  case atStart => exact ⟨0, A, by omega, rfl, rfl, h, Mv.refl _ _⟩
  case round =>
    obtain ⟨i, A', hi, rfl, rfl, h1, m1⟩ := hrel
    have hcl := cntT_le x.M i
    by_cases hi8 : i < 8
    · have hp := pageB_nat (show i < 12 by omega)
      cases ht : isThere x.M i
      · have hs : strTo x (i + 1) = strTo x i := by rw [strTo, if_neg (by rw [strTo_there, ht]; simp)]
        have hc : cntT x.M (i + 1) = cntT x.M i := by rw [cntT, ht]; rfl
        have hg : getT (strTo x i).M (i : Int) = false := by rw [getT_nat (by omega), strTo_there, ht]
        rw [← hs] at h1
        have HG := Lib.hid hg
        have HC := Lib.hid hc
        clear hg hc
        go_wp2_with fail
        refine (Calls.mono (iGet i _ (hs ▸ h1)) ?_)
        rintro e w2 ⟨rfl, b2⟩
        rw [HG.out]
        go_wp2
        go_roundw
        case rel => exact ⟨i + 1, A', by omega, by go_num, by rw [HC.out], (h1.below b2).alloc, (m1.below b2).below (Bel.refl w2).alloc.1⟩
        case measure => simp [intOf]; omega
      · have hs : strTo x (i + 1) = ⟨backS (strTo x i).S ((strTo x i).M i).1, backG (strTo x i).S (strTo x i).G ((strTo x i).M i).1, upd (strTo x i).M i (0, 0)⟩ := by rw [strTo, if_pos (by rw [strTo_there, ht])]
        have hc : cntT x.M (i + 1) = cntT x.M i + 1 := by rw [cntT, ht]; rfl
        have hg : getT (strTo x i).M (i : Int) = true := by rw [getT_nat (by omega), strTo_there, ht]
        have hgf : getF (strTo x i).M (i : Int) = ((strTo x i).M i).1 := by rw [getF, if_pos hp, Int.toNat_natCast]
        have hd : dropRes (strTo x i).M (i : Int) = 0 := by rw [dropRes, if_pos hp, Int.toNat_natCast, strTo_there, ht]; rfl
        have hd2 : dropNew (strTo x i).M (i : Int) = upd (strTo x i).M i (0, 0) := by rw [dropNew, if_pos hp, Int.toNat_natCast]
        have HG := Lib.hid hg
        have HF := Lib.hid hgf
        have HD := Lib.hid hd
        have HC := Lib.hid hc
        clear hg hc hgf hd
        go_wp2_with fail
        refine (iGet i _ h1).mono ?_
        rintro e w2 ⟨rfl, b2⟩
        rw [HG.out, HF.out]
        have h2 := (h1.below b2)
        go_wp2_with fail
        refine (iDrop i _ h2.alloc).mono ?_
        rintro e w3 ⟨rfl, h3, m3⟩
        rw [HD.out]
        rw [hd2] at h3
        have q := m3.held (j := w2.heap.size) (o := 0) (s := none) (v := .int .i64 ((strTo x i).M i).1) (by simp [go_sem]) (fun hA => by have := h2.lt _ hA; omega)
        go_wp2_with fail
        refine (iBack _ _ h3).mono ?_
        rintro e w4 ⟨rfl, A4, h4, m4⟩
        have h5 : Img A4 w4 b s fb mb n (strTo x (i + 1)).G (strTo x (i + 1)).S (strTo x (i + 1)).M := by rw [hs]; exact h4
        have m5 : Mv A A4 w w4 := (((m1.below b2).below (Bel.refl w2).alloc.1).trans m3).trans m4
        clear h4 h3 h2 h1 m1 m3 m4 q b2 hs hd2
        go_wp2
        go_roundw
        case rel => exact ⟨i + 1, A4, by omega, by go_num, by rw [HC.out]; go_num, h5, m5⟩
        case measure => simp [intOf]; omega
    · obtain rfl : i = 8 := by omega
      go_wp2
      go_ret
      exact ⟨rfl, A', h1, m1⟩
end
end Go.Proofs.Ytklgfnboadchmaa
end
