/- image: both sides beside each other; the reference's Strip. -/
import Derived.Test.YtklgfnboadchmaaImR
import Derived.Test.YtklgfnboadchmaaRowsU
namespace Go.Proofs.Ytklgfnboadchmaa
open Go.ChangeShapes Go.WideShapes Go.ChangeAt Go.RowKit
set_option linter.unusedVariables false
set_option maxRecDepth 20000

section
variable {w w' : World} {q t rb kb n : Nat} {uv tv : Value}
set_option maxHeartbeats 2000000 in
theorem rStrip (x : Im3) (w : World) (h : RImg w q t rb kb n uv tv x.G x.S x.M) :
    Calls Try.prog 14 #[.pointer (some ⟨q, 0, none⟩), .pointer (some ⟨kb, 0, none⟩)] w fun e w' => e = .returned (.int .i64 (cntT x.M 8)) ∧ RImg w' q t rb kb n uv tv (strTo x 8).G (strTo x 8).S (strTo x 8).M ∧ Frs (rSet rb kb uv tv) w w' := by
  go_enter Try.func14, Try.ntmps14
  go_wp2_with fail
  go_loopw [5, 6] (fun cv iv wr => ∃ i : Nat, i ≤ 8 ∧ iv = .int .i64 i ∧ cv = .int .i64 (cntT x.M i) ∧ RImg wr q t rb kb n uv tv (strTo x i).G (strTo x i).S (strTo x i).M ∧ Frs (rSet rb kb uv tv) w wr) (fun _ iv _ => 8 - (intOf iv).toNat)
  case atStart => exact ⟨0, by omega, rfl, rfl, h, Frs.refl _ _⟩
  case round =>
    obtain ⟨i, hi, rfl, rfl, h1, m1⟩ := hrel
    have hcl := cntT_le x.M i
    by_cases hi8 : i < 8
    · have hp := pageB_nat (show i < 12 by omega)
      cases ht : isThere x.M i
      · have hs : strTo x (i + 1) = strTo x i := by rw [strTo, if_neg (by rw [strTo_there, ht]; simp)]
        have hc : cntT x.M (i + 1) = cntT x.M i := by rw [cntT, ht]; rfl
        have hg : getT (strTo x i).M (i : Int) = false := by rw [getT_nat (by omega), strTo_there, ht]
        have h1' := h1
        rw [← hs] at h1
        have HG := Lib.hid hg
        have HC := Lib.hid hc
        clear hg hc
        go_wp2_with fail
        refine (Calls.mono (rget_any kb (strTo x i).M i _ h1'.m) ?_)
        rintro e w2 ⟨rfl, b2⟩
        rw [HG.out]
        go_wp2
        go_roundw
        case rel => exact ⟨i + 1, by omega, by go_num, by rw [HC.out], (h1.below b2).alloc, (m1.trans (Frs.of_below b2)).trans (Frs.of_below (Bel.refl w2).alloc.1)⟩
        case measure => simp [intOf]; omega
      · have hs : strTo x (i + 1) = ⟨backS (strTo x i).S ((strTo x i).M i).1, backG (strTo x i).S (strTo x i).G ((strTo x i).M i).1, upd (strTo x i).M i (0, 0)⟩ := by rw [strTo, if_pos (by rw [strTo_there, ht])]
        have hc : cntT x.M (i + 1) = cntT x.M i + 1 := by rw [cntT, ht]; rfl
        have hg : getT (strTo x i).M (i : Int) = true := by rw [getT_nat (by omega), strTo_there, ht]
        have hgf : getF (strTo x i).M (i : Int) = ((strTo x i).M i).1 := by rw [getF, if_pos hp, Int.toNat_natCast]
        have hd2 : dropNew (strTo x i).M (i : Int) = upd (strTo x i).M i (0, 0) := by rw [dropNew, if_pos hp, Int.toNat_natCast]
        have hfb := h1.mb i
        have HG := Lib.hid hg
        have HF := Lib.hid hgf
        have HC := Lib.hid hc
        clear hg hc hgf
        go_wp2_with fail
        refine (rget_any kb (strTo x i).M i _ h1.m).mono ?_
        rintro e w2 ⟨rfl, b2⟩
        rw [HG.out, HF.out]
        have h2 := (h1.below b2)
        go_wp2_with fail
        refine (rdrop_any kb (strTo x i).M i _ h2.alloc.m).mono ?_
        rintro e w3 ⟨rfl, u3, s3⟩
        obtain ⟨h3, m3⟩ := h2.alloc.mapped u3 s3 (dropNew_mb h2.mb i)
        rw [hd2] at h3
        have q0 := frs_cell (j := w2.heap.size) (o := 0) (s := none) (v := .int .i64 ((strTo x i).M i).1) (Frs.of_upd (p := fun j => j = kb) u3 rfl) (by simp [go_sem]) (fun e => by have := h2.m.lt; omega)
        go_wp2_with fail
        refine (rBack _ hfb _ h3).mono ?_
        rintro e w4 ⟨rfl, h4, m4⟩
        have h5 : RImg w4 q t rb kb n uv tv (strTo x (i + 1)).G (strTo x (i + 1)).S (strTo x (i + 1)).M := by rw [hs]; exact h4
        have m5 : Frs (rSet rb kb uv tv) w w4 := (((m1.trans (Frs.of_below b2)).trans (Frs.of_below (Bel.refl w2).alloc.1)).trans m3).trans m4
        clear h4 h3 h2 h1 m1 m3 m4 q0 b2 hs hd2 u3 s3
        go_wp2
        go_roundw
        case rel => exact ⟨i + 1, by omega, by go_num, by rw [HC.out]; go_num, h5, m5⟩
        case measure => simp [intOf]; omega
    · obtain rfl : i = 8 := by omega
      go_wp2
      go_ret
      exact ⟨rfl, h1, m1⟩
end
section
variable {A A' : Nat → Prop} {w0 w w' : World} {b s fb mb n : Nat} {G G' : Nat → Int} {S S' : List stIt} {M M' : Nat → Int × Int} {q t rb kb : Nat} {uv tv : Value} {G2 : Nat → Int} {S2 : List stIt} {M2 : Nat → Int × Int}
/-- Both sides. -/
structure TwoI (w0 w : World) (A : Nat → Prop) (b s fb mb n : Nat) (G : Nat → Int) (S : List stIt) (M : Nat → Int × Int) (q t rb kb : Nat) (uv tv : Value) (G2 : Nat → Int) (S2 : List stIt) (M2 : Nat → Int × Int) : Prop where
  i : Img A w b s fb mb n G S M
  r : RImg w q t rb kb n uv tv G2 S2 M2
  lo : ∀ i, A i → w0.heap.size ≤ i
  lr : ∀ i, rSet rb kb uv tv i → w0.heap.size ≤ i
  ap : ∀ a, uv.ownBlock = some a → ¬ A a
  bel : Bel w0.heap.size w0 w
theorem Img.typ (h : Img A w b s fb mb n G S M) {i : Nat} (hi : A i) : ∃ c ty, w.heap[i]? = some (.cells c ty (0, 0)) ∧ (ty = 92 ∨ ty = 95 ∨ ty = 101 ∨ ty = 3 ∨ ty = 103 ∨ ty = 35) := by
  obtain ⟨V, L, st, hp, hA⟩ := h.pl
  rcases (hA i).1 hi with e | rfl
  · obtain ⟨c, ty, hc, ht⟩ := hp.all_typ e
    refine ⟨c, ty, hc, ?_⟩
    rcases ht with e | e | e | e | e <;> simp [e]
  · exact ⟨_, _, h.m, by simp⟩
theorem Img.frs {p : Nat → Prop} (h : Img A w b s fb mb n G S M) (f : Frs p w w') (hp : ∀ i, A i → ¬ p i) : Img A w' b s fb mb n G S M := by
  obtain ⟨V, L, st, hpl, hA⟩ := h.pl
  have hn : ∀ i, AllP b s fb V st i → ¬ p i := fun i hi => hp i ((hA i).2 (.inl hi))
  exact ⟨⟨V, L, st, hpl.frs f (hn _ (.inl rfl)) (hn _ (.inr (.inl rfl))) (hn _ (.inr (.inr (.inl rfl)))) (fun g hg a ha => hn _ (.inr (.inr (.inr (.inl ⟨g, hg, ha.symm⟩))))) (fun a ha => hn _ (.inr (.inr (.inr (.inr ha.symm))))), hA⟩, (f.block mb h.m.lt (hp mb h.amb)).trans h.m⟩
theorem RImg.frs {p : Nat → Prop} (h : RImg w q t rb kb n uv tv G2 S2 M2) (f : Frs p w w') (hp : ∀ i c ty fz, w.heap[i]? = some (.cells c ty fz) → (ty = 56 ∨ ty = 45 ∨ ty = 5 ∨ ty = 62 ∨ ty = 4) → ¬ p i) (hu : ∀ a, uv.ownBlock = some a → ¬ p a) (hk : ¬ p kb) : RImg w' q t rb kb n uv tv G2 S2 M2 :=
  ⟨h.p.frs f hp hu, (f.block kb h.m.lt hk).trans h.m, h.hn, h.mb⟩
theorem TwoI.disj (h : TwoI w0 w A b s fb mb n G S M q t rb kb uv tv G2 S2 M2) {i : Nat} (hi : A i) : ¬ rSet rb kb uv tv i := fun hr => by
  obtain ⟨c, ty, hc, ht⟩ := h.i.typ hi
  rcases hr with hr | rfl
  · rcases h.r.p.tch_typ h.r.hn hr with ⟨c2, ty2, hc2, ht2⟩ | ⟨e, _⟩
    · have := typ_same hc hc2
      subst this
      rcases ht with rfl | rfl | rfl | rfl | rfl | rfl <;> revert ht2 <;> decide
    · exact h.ap i e hi
  · have := typ_same hc h.r.m
    subst this
    revert ht
    decide
theorem TwoI.stepI (h : TwoI w0 w A b s fb mb n G S M q t rb kb uv tv G2 S2 M2) (hi : Img A' w' b s fb mb n G' S' M') (m : Mv A A' w w') : TwoI w0 w' A' b s fb mb n G' S' M' q t rb kb uv tv G2 S2 M2 := by
  refine ⟨hi, h.r.frs m.fr (fun i c ty fz hc ht hA => ?_) h.ap (fun hA => h.disj hA (.inr rfl)), m.low h.lo h.bel.2, h.lr, fun a ha => m.out ?_ (h.ap a ha), m.bel h.bel h.lo⟩
  · obtain ⟨c2, ty2, hc2, ht2⟩ := h.i.typ hA
    have := typ_same hc hc2
    subst this
    rcases ht2 with rfl | rfl | rfl | rfl | rfl | rfl <;> revert ht <;> decide
  · exact (h.r.p.whos.lt a ha).2
theorem TwoI.stepR (h : TwoI w0 w A b s fb mb n G S M q t rb kb uv tv G2 S2 M2) {G3 : Nat → Int} {S3 : List stIt} {M3 : Nat → Int × Int} (hr : RImg w' q t rb kb n uv tv G3 S3 M3) (f : Frs (rSet rb kb uv tv) w w') : TwoI w0 w' A b s fb mb n G S M q t rb kb uv tv G3 S3 M3 :=
  ⟨h.i.frs f (fun i hi => h.disj hi), hr, h.lo, h.lr, h.ap, f.bel h.bel h.lr⟩
theorem TwoI.below (h : TwoI w0 w A b s fb mb n G S M q t rb kb uv tv G2 S2 M2) (hb : Below w.heap.size w w') : TwoI w0 w' A b s fb mb n G S M q t rb kb uv tv G2 S2 M2 :=
  ⟨h.i.below hb, h.r.below hb, h.lo, h.lr, h.ap, h.bel.of hb⟩
theorem TwoI.drew (h : TwoI w0 w A b s fb mb n G S M q t rb kb uv tv G2 S2 M2) : TwoI w0 w.drew A b s fb mb n G S M q t rb kb uv tv G2 S2 M2 := h.below (Bel.refl w).drew.1
theorem TwoI.later {x : Lat w} (h : TwoI w0 w A b s fb mb n G S M q t rb kb uv tv G2 S2 M2) : TwoI w0 (Proofs.Ytklgfnboadchmaa.later w x) A b s fb mb n G S M q t rb kb uv tv G2 S2 M2 := h.below (later_below w x)
theorem PP.two {V : Nat → Value} {L : Nat → List plIt} {st : Value} (h : PP w0 w n b s fb G V L st S q t rb G2 uv tv S2) (hm : MapAt w mb zeroMap) (hk : RMapAt w kb zeroMap) (h1 : w0.heap.size ≤ mb) (h2 : w0.heap.size ≤ kb) : ∃ A, TwoI w0 w A b s fb mb n G S zeroMap q t rb kb uv tv G2 S2 zeroMap := by
  refine ⟨fun i => AllP b s fb V st i ∨ i = mb, ⟨⟨V, L, st, h.p, fun i => Iff.rfl⟩, hm⟩, ⟨h.r, hk, h.p.pos, fun i => by simp [zeroMap]⟩, fun i hi => ?_, fun i hi => ?_, fun a ha hA => ?_, h.bel⟩
  · rcases hi with (rfl | rfl | rfl | ⟨g, hg, e⟩ | e) | rfl
    · exact h.fp.b
    · exact h.fp.s
    · exact h.fp.fb
    · exact h.fp.V g hg i e.symm
    · exact h.fp.st i e.symm
    · exact h1
  · rcases hi with (rfl | e | e) | rfl
    · exact h.frb
    · exact h.fu i e.symm
    · exact h.ft i e.symm
    · exact h2
  · obtain ⟨cur, hc⟩ := own_typR h.r.whos ha
    rcases hA with (rfl | rfl | rfl | ⟨g, hg, e⟩ | e) | rfl
    · exact absurd (typ_same h.p.blk hc) (by decide)
    · exact absurd (typ_same h.p.sto.2.1 hc) (by decide)
    · obtain ⟨curf, s3, _⟩ := h.p.sto.2.2.1
      exact absurd (typ_same s3 hc) (by decide)
    · exact h.ap g hg a e.symm ha
    · obtain ⟨cur2, hc2⟩ := own_typR h.p.seats e.symm
      exact absurd (typ_same hc2 hc) (by decide)
    · exact absurd (typ_same hm hc) (by decide)
end
end Go.Proofs.Ytklgfnboadchmaa
