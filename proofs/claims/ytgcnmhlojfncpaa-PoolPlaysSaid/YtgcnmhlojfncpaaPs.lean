/- Law 07, PoolScrub: the frames that were taken, in a row. -/
import Derived.Test.YtgcnmhlojfncpaaPt
namespace Go.Proofs.Ytgcnmhlojfncpaa
open Go.ChangeShapes Go.WideShapes Go.ChangeAt Go.RowKit
set_option linter.unusedVariables false

theorem clean_other {G : Nat → Int} {f k a m : Nat} {v : Int} (h : a + m ≤ 64) (hk : k ≠ f) : cleanB (fr (putF G (f * 64 + a) m v) k) = cleanB (fr G k) := by
  rw [Bool.eq_iff_iff, cleanB_true, cleanB_true]
  unfold fr
  constructor
  · intro hx i hi; rw [← fr_other G f k a m v h hk i hi]; exact hx i hi
  · intro hx i hi; rw [fr_other G f k a m v h hk i hi]; exact hx i hi
theorem clean_self (G : Nat → Int) (f : Nat) : cleanB (fr (putF G (f * 64) 64 0) f) = true := cleanB_true.2 (zero_fr G f)
theorem clean_else {G : Nat → Int} {f k : Nat} (hk : k ≠ f) : cleanB (fr (putF G (f * 64) 64 0) k) = cleanB (fr G k) := by
  have h := clean_other (G := G) (f := f) (k := k) (a := 0) (m := 64) (v := 0) (Nat.le_refl _) hk
  rw [Nat.add_zero] at h
  exact h
theorem plIt_ne {k f : Nat} (h : k ≠ f) : (⟨(k : Int)⟩ : plIt) ≠ ⟨(f : Int)⟩ := fun e => h (by injection e with e; omega)

/-- What is known of the frames: those in the list are taken. -/
structure Have (n : Nat) (G : Nat → Int) (S : List stIt) (T : List plIt) : Prop where
  len : S.length = n
  who : ∀ f, f < n → ∃ g : Nat, g < 4 ∧ (atL S f).who = g
  tk : ∀ f : Nat, f < n → ((atL S f).tk = true ↔ (⟨(f : Int)⟩ : plIt) ∈ T)
  clean : ∀ f, f < n → (atL S f).tk = false → cleanB (fr G f) = true
  nodup : T.Nodup
  lt : ∀ x ∈ T, ∃ f : Nat, f < n ∧ x = ⟨(f : Int)⟩
theorem Have.take {n : Nat} {G : Nat → Int} {S : List stIt} {T : List plIt} (h : Have n G S T) {f g a m : Nat} {v : Int} (hf : f < n) (hg : g < 4) (ht : (atL S f).tk = false) (ha : a + m ≤ 64) :
    Have n (putF G (f * 64 + a) m v) (S.set f ⟨g, true⟩) (T ++ [⟨(f : Int)⟩]) := by
  have hfS : f < S.length := by rw [h.len]; exact hf
  have hni : (⟨(f : Int)⟩ : plIt) ∉ T := fun e => by have := (h.tk f hf).2 e; rw [ht] at this; cases this
  refine ⟨by rw [List.length_set]; exact h.len, fun k hk => ?_, fun k hk => ?_, fun k hk hkt => ?_, ?_, fun x hx => ?_⟩
  · rw [atL_setS hfS]
    split
    · exact ⟨g, hg, rfl⟩
    · exact h.who k hk
  · rw [atL_setS hfS, List.mem_append, List.mem_singleton]
    by_cases e : k = f
    · subst e; simp
    · rw [if_neg e, h.tk k hk]
      exact ⟨.inl, fun hx => hx.elim id (fun e2 => absurd e2 (plIt_ne e))⟩
  · rw [atL_setS hfS] at hkt
    by_cases e : k = f
    · rw [if_pos e] at hkt; cases hkt
    · rw [if_neg e] at hkt
      rw [clean_other ha e]
      exact h.clean k hk hkt
  · rw [List.nodup_append]
    refine ⟨h.nodup, by simp, fun x hx y hy => ?_⟩
    rw [List.mem_singleton] at hy
    rintro rfl
    exact hni (hy ▸ hx)
  · rcases List.mem_append.1 hx with hx | hx
    · exact h.lt x hx
    · exact ⟨f, hf, List.mem_singleton.1 hx⟩
theorem Have.full {n : Nat} {G : Nat → Int} {S : List stIt} {T : List plIt} (h : Have n G S T) (hall : ∀ f, f < n → (atL S f).tk = true) : T.length = n := by
  have hp : T.Perm ((List.range n).map fun k : Nat => (⟨(k : Int)⟩ : plIt)) := by
    refine (List.perm_ext_iff_of_nodup h.nodup ?_).2 fun x => ?_
    · rw [List.nodup_iff_pairwise_ne, List.pairwise_map]
      exact (List.nodup_iff_pairwise_ne.1 List.nodup_range).imp fun hne => plIt_ne hne
    · rw [List.mem_map]
      constructor
      · intro hx
        obtain ⟨f, hf, rfl⟩ := h.lt x hx
        exact ⟨f, List.mem_range.2 hf, rfl⟩
      · rintro ⟨f, hf, rfl⟩
        exact (h.tk f (List.mem_range.1 hf)).1 (hall f (List.mem_range.1 hf))
  rw [hp.length_eq]
  simp
theorem Have.short {n : Nat} {G : Nat → Int} {S : List stIt} {T : List plIt} (h : Have n G S T) : T.length ≤ n := by
  have hp : T.Perm (((List.range n).filter fun k => (atL S k).tk).map fun k : Nat => (⟨(k : Int)⟩ : plIt)) := by
    refine (List.perm_ext_iff_of_nodup h.nodup ?_).2 fun x => ?_
    · rw [List.nodup_iff_pairwise_ne, List.pairwise_map]
      exact (List.nodup_iff_pairwise_ne.1 (List.nodup_range.filter _)).imp fun hne => plIt_ne hne
    · rw [List.mem_map]
      constructor
      · intro hx
        obtain ⟨f, hf, rfl⟩ := h.lt x hx
        exact ⟨f, List.mem_filter.2 ⟨List.mem_range.2 hf, (h.tk f hf).2 hx⟩, rfl⟩
      · rintro ⟨f, hf, rfl⟩
        have := List.mem_filter.1 hf
        exact (h.tk f (List.mem_range.1 this.1)).1 this.2
  rw [hp.length_eq, List.length_map]
  exact Nat.le_trans (List.length_filter_le _ _) (by rw [List.length_range]; exact Nat.le_refl _)
/-- The first i of them were given back. -/
structure Gone (n : Nat) (G : Nat → Int) (S : List stIt) (T : List plIt) (i : Nat) : Prop where
  len : S.length = n
  who : ∀ f, f < n → ∃ g : Nat, g < 4 ∧ (atL S f).who = g
  tk : ∀ f : Nat, f < n → ((atL S f).tk = true ↔ ∃ j, i ≤ j ∧ j < T.length ∧ atL T j = ⟨(f : Int)⟩)
  clean : ∀ f, f < n → (atL S f).tk = false → cleanB (fr G f) = true
  inj : ∀ i j, i < T.length → j < T.length → atL T i = atL T j → i = j
  lt : ∀ i, i < T.length → ∃ f : Nat, f < n ∧ atL T i = ⟨(f : Int)⟩
theorem Have.gone {n : Nat} {G : Nat → Int} {S : List stIt} {T : List plIt} (h : Have n G S T) : Gone n G S T 0 := by
  refine ⟨h.len, h.who, fun f hf => (h.tk f hf).trans ⟨fun hx => ?_, ?_⟩, h.clean, fun i j hi hj e => ?_, fun i hi => h.lt _ (mem_atL hi)⟩
  · obtain ⟨j, hj, e⟩ := mem_is_atL hx
    exact ⟨j, Nat.zero_le _, hj, e.symm⟩
  · rintro ⟨j, _, hj, e⟩
    rw [← e]
    exact mem_atL hj
  · rw [atL_eq hi, atL_eq hj] at e
    exact (List.getElem_inj h.nodup).1 e
theorem Gone.back {n : Nat} {G : Nat → Int} {S : List stIt} {T : List plIt} {i f g : Nat} (h : Gone n G S T i) (hf : f < n) (hg : g < 4) (hi : i < T.length) (hat : atL T i = ⟨(f : Int)⟩) :
    Gone n (putF G (f * 64) 64 0) (S.set f ⟨g, false⟩) T (i + 1) := by
  have hfS : f < S.length := by rw [h.len]; exact hf
  refine ⟨by rw [List.length_set]; exact h.len, fun k hk => ?_, fun k hk => ?_, fun k hk hkt => ?_, h.inj, h.lt⟩
  · rw [atL_setS hfS]
    split
    · exact ⟨g, hg, rfl⟩
    · exact h.who k hk
  · rw [atL_setS hfS]
    by_cases e : k = f
    · subst e
      rw [if_pos rfl]
      refine ⟨fun e => by (cases e), ?_⟩
      rintro ⟨j, h1, h2, h3⟩
      have := h.inj i j hi h2 (by rw [hat, h3])
      omega
    · rw [if_neg e, h.tk k hk]
      constructor
      · rintro ⟨j, h1, h2, h3⟩
        refine ⟨j, ?_, h2, h3⟩
        have : i ≠ j := by
          rintro rfl
          rw [hat] at h3
          exact plIt_ne e h3.symm
        omega
      · rintro ⟨j, h1, h2, h3⟩
        exact ⟨j, by omega, h2, h3⟩
  · by_cases e : k = f
    · subst e; exact clean_self G k
    · rw [atL_setS hfS, if_neg e] at hkt
      rw [clean_else e]
      exact h.clean k hk hkt
theorem Gone.none {n : Nat} {G : Nat → Int} {S : List stIt} {T : List plIt} {i : Nat} (h : Gone n G S T i) (hi : T.length ≤ i) : Have n G S [] := by
  have htk : ∀ f, f < n → (atL S f).tk ≠ true := fun f hf e => by
    obtain ⟨j, h1, h2, _⟩ := (h.tk f hf).1 e
    omega
  exact ⟨h.len, h.who, fun f hf => ⟨fun e => absurd e (htk f hf), fun hx => by cases hx⟩, h.clean, List.nodup_nil, fun x hx => by cases hx⟩

/-- A pool, and a row of ints beside it. -/
structure Scr (w0 w : World) (b s fb n : Nat) (G : Nat → Int) (V : Nat → Value) (L : Nat → List plIt) (st : Value) (S : List stIt) (lv : Value) (T : List plIt) : Prop where
  pl : PlAt w b s fb n G V L st S
  fr : From w0.heap.size b s fb V st
  bel : Bel w0.heap.size w0 w
  row : w.ownsRow w0.heap.size 3 1 lv T.length (T.flatMap plEnc)
  ap : ∀ a, lv.ownBlock = some a → ∀ g, g < 16 → (V g).ownBlock ≠ some a
section
variable {w0 w w' : World} {n : Nat} {b s fb : Nat} {G : Nat → Int} {V : Nat → Value} {L : Nat → List plIt} {st : Value} {S : List stIt} {lv : Value} {T : List plIt}
theorem own_typ {B size m : Nat} {e : TypeId} {u : Value} {xs : List Value} (h : w.ownsRow B e size u m xs) {a : Nat} (ha : u.ownBlock = some a) : ∃ cur, w.heap[a]? = some (.cells cur e (0, 0)) := by
  rcases h.2 with ⟨rfl, _⟩ | ⟨g, cap, cur, rfl, hg, hh, hr⟩
  · cases ha
  · cases ha
    exact ⟨cur, hh⟩
theorem PlAt.not_tch (h : PlAt w b s fb n G V L st S) {g B m : Nat} {u : Value} {xs : List Value} (ho : w.ownsRow B 3 1 u m xs) {a : Nat} (ha : u.ownBlock = some a) (hap : (V g).ownBlock ≠ some a) : ¬ Proofs.Ytgcnmhlojfncpaa.tch b fb (V g) st a := by
  obtain ⟨cur, hc⟩ := own_typ ho ha
  rintro (rfl | rfl | e | e)
  · exact types_ne h.blk hc (by decide) rfl
  · obtain ⟨curf, s3, _⟩ := h.sto.2.2.1
    exact types_ne s3 hc (by decide) rfl
  · exact hap e.symm
  · obtain ⟨cur2, hc2⟩ := own_typ h.seats e.symm
    exact types_ne hc2 hc (by decide) rfl
theorem Scr.step (h : Scr w0 w b s fb n G V L st S lv T) {g : Nat} (hg : g < 16) {v' : Value} {G2 : Nat → Int} {l' : List plIt} {S2 : List stIt}
    (hp : PlAt w' b s fb n G2 (setV V g v') (setV L g l') st S2) (f : Frs (tch b fb (V g) st) w w') (ho : v'.ownBlock = (V g).ownBlock ∨ ∀ a, v'.ownBlock = some a → w.heap.size ≤ a) :
    Scr w0 w' b s fb n G2 (setV V g v') (setV L g l') st S2 lv T := by
  refine ⟨hp, h.fr.put hg h.bel.2 ho, f.bel h.bel (h.fr.tch hg), ownsRow_frs h.row f fun a ha => h.pl.not_tch h.row ha (h.ap a ha g hg), fun a ha k hk e => ?_⟩
  by_cases hkg : k = g
  · subst hkg
    rw [setV_at] at e
    rcases ho with ho | ho
    · exact h.ap a ha k hk (ho ▸ e)
    · have h1 := ho a e
      have h2 := (h.row.lt a ha).2
      omega
  · rw [setV_ne _ _ hkg] at e
    exact h.ap a ha k hk e
theorem Scr.below (h : Scr w0 w b s fb n G V L st S lv T) (hb : Below w.heap.size w w') : Scr w0 w' b s fb n G V L st S lv T :=
  ⟨h.pl.below hb, h.fr, h.bel.of hb, ownsRow_below h.row hb, h.ap⟩
theorem Scr.fresh (h : Scr w0 w b s fb n G V L st S lv T) : Scr w0 w b s fb n G V L st S (.slice none 0 0) [] :=
  ⟨h.pl, h.fr, h.bel, World.ownsRow_nil _ _ _ _, fun a ha => by cases ha⟩
theorem Scr.saved (h : Scr w0 w b s fb n G V L st S lv T) {G' : Nat → Int} (hU : Upd fb w w') (hs : StoAt w' s fb n G') : Scr w0 w' b s fb n G' V L st S lv T :=
  ⟨⟨h.pl.toPlIn.stored hU hs, h.pl.perm, h.pl.pos⟩, h.fr, h.bel.upd hU h.fr.fb, ownsRow_upd h.row hU (fun e => by
    obtain ⟨cur, hc⟩ := own_typ h.row e
    obtain ⟨curf, s3, _⟩ := h.pl.sto.2.2.1
    exact types_ne s3 hc (by decide) rfl), h.ap⟩
theorem Scr.item (h : Scr w0 w b s fb n G V L st S lv T) {i : Nat} (hi : i < T.length) : ∃ g cap, lv = .slice (some ⟨g, 0, none⟩) T.length cap ∧ g < w.heap.size ∧ w.cell? ⟨g, i, none⟩ = some (.int .i64 (atL T i).fr) := by
  obtain ⟨hl, h2⟩ := h.row
  rcases h2 with ⟨_, h0⟩ | ⟨g, cap, cur, rfl, hb, hg, hle, hm, hs, ht⟩
  · omega
  · refine ⟨g, cap, rfl, lt_heap hg, ?_⟩
    have := flat_at plEnc_length T i 0 hi (by omega)
    rw [← ht, List.getElem?_take, if_pos (by omega), Array.getElem?_toList] at this
    simp only [Nat.mul_one, Nat.add_zero] at this
    rw [World.cell?, hg]
    exact this
/-- The row grew. -/
theorem Scr.grew (h : Scr w0 w b s fb n G V L st S lv T) {x : plIt} {ob : Obj} {g4 cap4 : Nat}
    (hown : w'.ownsRow w0.heap.size 3 1 (.slice (some ⟨g4, 0, none⟩) (T.length + 1) cap4) (T.length + 1) (T.flatMap plEnc ++ plEnc x)) (hg : (w.alloc ob).grownBy w' lv.ownBlock) (hat : lv.ownBlock = some g4 ∨ g4 = w.heap.size + 1) :
    Scr w0 w' b s fb n G V L st S (.slice (some ⟨g4, 0, none⟩) (T.length + 1) cap4) (T ++ [x]) := by
  have hbel := h.bel.append h.row hg
  have hall : Bel w.heap.size w (w.alloc ob) := (Bel.refl w).alloc
  have h2 := h.pl.below hall.1
  have hf : Frs (fun i => lv.ownBlock = some i) (w.alloc ob) w' := ⟨hg.os, hg.tape, hg.output, hg.size, fun i hi hne => hg.block i hi (fun e => hne e.symm)⟩
  have hn : ∀ i cur ty fz, w.heap[i]? = some (.cells cur ty fz) → ty ≠ 3 → lv.ownBlock ≠ some i := fun i cur ty fz hi ht e => by
    obtain ⟨cur2, hc⟩ := own_typ h.row e
    exact types_ne hi hc ht rfl
  obtain ⟨curf, s3, s4⟩ := h.pl.sto.2.2.1
  refine ⟨h2.frs hf (hn _ _ _ _ h.pl.blk (by decide)) (hn _ _ _ _ h.pl.sto.2.1 (by decide)) (hn _ _ _ _ s3 (by decide)) (fun k hk a ha e => h.ap a e k hk ha) (fun a ha e => ?_), h.fr, hbel, by simpa using hown, fun a ha k hk e => ?_⟩
  · obtain ⟨cur, hc⟩ := own_typ h.pl.seats ha
    exact hn _ _ _ _ hc (by decide) e
  · simp only [Value.ownBlock, Option.some.injEq] at ha
    subst ha
    rcases hat with hat | hat
    · exact h.ap _ hat k hk e
    · have := ((h.pl.rows k hk).lt _ e).2
      omega
end
end Go.Proofs.Ytgcnmhlojfncpaa
