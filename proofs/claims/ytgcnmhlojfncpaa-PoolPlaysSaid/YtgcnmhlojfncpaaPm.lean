/- The pool: what stays where one of its parts is worked on. -/
import Derived.Test.YtgcnmhlojfncpaaPl
namespace Go.Proofs.Ytgcnmhlojfncpaa
open Go.ChangeShapes Go.WideShapes Go.ChangeAt Go.RowKit
set_option linter.unusedVariables false

/-- The pool in block b, over the store s. -/
structure PlIn (w : World) (b s fb n : Nat) (G : Nat → Int) (V : Nat → Value) (L : Nat → List plIt) (st : Value) (S : List stIt) : Prop where
  blk : w.heap[b]? = some (.cells (plBlk (.pointer (some ⟨s, 0, none⟩)) st V) 43 (0, 0))
  rows : ∀ g, g < 16 → w.ownsRow (b + 1) 3 1 (V g) (L g).length ((L g).flatMap plEnc)
  heap : ∀ g, g < 16 → HeapN plLt (L g) (L g).length
  apart : ∀ g h, g < 16 → h < 16 → g ≠ h → ∀ a, (V g).ownBlock = some a → (V h).ownBlock ≠ some a
  seats : w.ownsRow (b + 1) 70 2 st S.length (S.flatMap stEnc)
  len : S.length = n
  sto : StoAt w s fb n G
  who : ∀ f, f < n → (atL S f).who = -1 ∧ (atL S f).tk = false ∨ ∃ g : Nat, g < 16 ∧ (atL S f).who = g
structure PlAt (w : World) (b s fb n : Nat) (G : Nat → Int) (V : Nat → Value) (L : Nat → List plIt) (st : Value) (S : List stIt) : Prop extends PlIn w b s fb n G V L st S where
  perm : ∀ g, g < 16 → (L g).Perm (leftL S g)
  pos : 0 < n

/-- The blocks that a call on the pool may touch. -/
def tch (b fb : Nat) (v st : Value) (i : Nat) : Prop := i = b ∨ i = fb ∨ some i = v.ownBlock ∨ some i = st.ownBlock
structure Frs (p : Nat → Prop) (w w' : World) : Prop where
  os : w'.os = w.os
  tape : w'.tape = w.tape
  output : w'.output = w.output
  size : w.heap.size ≤ w'.heap.size
  block : ∀ i, i < w.heap.size → ¬ p i → w'.heap[i]? = w.heap[i]?
theorem Frs.of_below {p : Nat → Prop} {w w' : World} (h : Below w.heap.size w w') : Frs p w w' := ⟨h.os, h.tape, h.output, h.size, fun i hi _ => h.block i hi⟩
theorem Frs.refl (p : Nat → Prop) (w : World) : Frs p w w := ⟨rfl, rfl, rfl, Nat.le_refl _, fun _ _ _ => rfl⟩
theorem Frs.trans {p : Nat → Prop} {a c d : World} (h : Frs p a c) (k : Frs p c d) : Frs p a d := ⟨k.os.trans h.os, k.tape.trans h.tape, k.output.trans h.output, Nat.le_trans h.size k.size, fun i hi hp => (k.block i (Nat.lt_of_lt_of_le hi h.size) hp).trans (h.block i hi hp)⟩
theorem Frs.of_upd {p : Nat → Prop} {c : Nat} {w w' : World} (h : Upd c w w') (hc : p c) : Frs p w w' := ⟨h.os, h.tape, h.output, h.size, fun i hi hp => h.block i hi (by rintro ⟨⟩; exact hp hc)⟩
theorem Frs.of_frm {p : Nat → Prop} {b : Nat} {v v' : Value} {w w' : World} (h : Frm b v v' w w') (hb : p b) (hv : ∀ i, some i = v.ownBlock → p i) : Frs p w w' :=
  ⟨h.os, h.tape, h.output, h.size, fun i hi hp => h.block i hi (fun e => hp (e ▸ hb)) (fun e => hp (hv i e))⟩
theorem Frs.bel {p : Nat → Prop} {B : Nat} {a w w' : World} (f : Frs p w w') (h : Bel B a w) (hp : ∀ i, p i → B ≤ i) : Bel B a w' :=
  ⟨h.1.trans ⟨f.os, f.tape, f.output, f.size, fun k hk => f.block k (Nat.lt_of_lt_of_le hk h.2) (fun e => by have := hp k e; omega)⟩, Nat.le_trans h.2 f.size⟩
section
variable {w w' : World} {b s fb n : Nat} {G : Nat → Int} {V : Nat → Value} {L : Nat → List plIt} {st : Value} {S : List stIt}
theorem PlIn.lt (h : PlIn w b s fb n G V L st S) : b < w.heap.size := lt_heap h.blk
theorem PlIn.row (h : PlIn w b s fb n G V L st S) {g : Nat} (hg : g < 16) : plRow w b (fun v => plBlk (.pointer (some ⟨s, 0, none⟩)) st (setV V g v)) (V g) (L g) :=
  ⟨by show w.heap[b]? = some (.cells (plBlk _ st (setV V g (V g))) _ (0, 0)); rw [setV_same]; exact h.blk, h.rows g hg⟩
theorem PlIn.seatRow (h : PlIn w b s fb n G V L st S) : RowIn 70 2 stEnc w b 43 (fun v => plBlk (.pointer (some ⟨s, 0, none⟩)) v V) st S := ⟨h.blk, h.seats⟩
theorem PlIn.below (h : PlIn w b s fb n G V L st S) (hb : Below w.heap.size w w') : PlIn w' b s fb n G V L st S :=
  ⟨(hb.block b h.lt).trans h.blk, fun g hg => ownsRow_below (h.rows g hg) hb, h.heap, h.apart, ownsRow_below h.seats hb, h.len, h.sto.below hb, h.who⟩
theorem PlAt.below (h : PlAt w b s fb n G V L st S) (hb : Below w.heap.size w w') : PlAt w' b s fb n G V L st S := ⟨h.toPlIn.below hb, h.perm, h.pos⟩
theorem PlIn.cellS (h : PlIn w b s fb n G V L st S) : w.cell? ⟨b, 0, none⟩ = some (.pointer (some ⟨s, 0, none⟩)) := (cell_of_row _ _ _ _ _ _ h.blk).trans rfl
theorem PlIn.cellT (h : PlIn w b s fb n G V L st S) : w.cell? ⟨b, 1, none⟩ = some st := (cell_of_row _ _ _ _ _ _ h.blk).trans rfl
theorem PlIn.cellV (h : PlIn w b s fb n G V L st S) {g : Nat} (hg : g < 16) : w.cell? ⟨b, 2 + g, none⟩ = some (V g) := (cell_of_row _ _ _ _ _ _ h.blk).trans (plBlk_at _ _ _ hg)
/-- A frame's state, where it lies. -/
theorem PlIn.seat (h : PlIn w b s fb n G V L st S) {f : Nat} (hf : f < n) : ∃ g cap, st = .slice (some ⟨g, 0, none⟩) n cap ∧ n ≤ cap ∧ cap ≤ maxLen ∧ b < g ∧ g < w.heap.size ∧ w.cell? ⟨g, f * 2, none⟩ = some (.int .i64 (atL S f).who) ∧ w.cell? ⟨g, f * 2 + 1, none⟩ = some (.bool (atL S f).tk) ∧ ∀ x, w.frozen? ⟨g, x, none⟩ = false := by
  obtain ⟨g, cap, hv, h1, h2, h3, h4, hc, hf2⟩ := h.seatRow.item stEnc_length (i := f) (by rw [h.len]; exact hf)
  rw [h.len] at hv h1
  have c0 := hc f (by rw [h.len]; exact hf) 0 (by omega)
  have c1 := hc f (by rw [h.len]; exact hf) 1 (by omega)
  simp only [stEnc, List.getElem?_cons_zero, List.getElem?_cons_succ, Nat.add_zero] at c0 c1
  exact ⟨g, cap, hv, h1, h2, h3, h4, c0, c1, hf2⟩
theorem StoAt.frm {v v' : Value} {l : List plIt} {blk : Value → Array Value} (h : StoAt w s fb n G) (hr : plRow w b blk v l) (f : Frm b v v' w w') : StoAt w' s fb n G := by
  obtain ⟨h1, h2, ⟨cur, h3, h4⟩, h5⟩ := h
  exact ⟨h1, f.other hr h2 (by decide) (by decide), ⟨cur, f.other hr h3 (by decide) (by decide), h4⟩, h5⟩
/-- One partition's row was worked on. -/
theorem PlIn.put (h : PlIn w b s fb n G V L st S) {g : Nat} (hg : g < 16) {v' : Value} {l' : List plIt} (r : plRow w' b (fun v => plBlk (.pointer (some ⟨s, 0, none⟩)) st (setV V g v)) v' l') (hh : HeapN plLt l' l'.length) (f : Frm b (V g) v' w w') : PlIn w' b s fb n G (setV V g v') (setV L g l') st S := by
  refine ⟨r.1, fun k hk => ?_, fun k hk => ?_, fun k j hk hj hkj a ha => ?_, ownsRow_other f (h.row hg) h.seats (by decide) (by decide), h.len, h.sto.frm (h.row hg) f, h.who⟩
  · by_cases e : k = g
    · subst e; rw [setV_at, setV_at]; exact r.2
    · rw [setV_ne _ _ e, setV_ne _ _ e]
      exact ownsRow_frm (h.rows k hk) f (Nat.lt_succ_self _) (fun a ha => fun e2 => h.apart g k hg hk (Ne.symm e) a e2 ha)
  · by_cases e : k = g
    · subst e; rw [setV_at]; exact hh
    · rw [setV_ne _ _ e]; exact h.heap k hk
  · have own : ∀ j, j < 16 → j ≠ g → ∀ a, (V j).ownBlock = some a → v'.ownBlock ≠ some a := fun j hj hne a ha e => by
      rcases f.own with ho | ho
      · exact h.apart j g hj hg hne a ha (ho ▸ e)
      · have h1 := ho a e
        have h2 := ((h.rows j hj).lt a ha).2
        omega
    by_cases e : k = g
    · subst e
      rw [setV_at] at ha
      rw [setV_ne _ _ (Ne.symm hkj)]
      exact fun e2 => own j hj (Ne.symm hkj) a e2 ha
    · rw [setV_ne _ _ e] at ha
      by_cases e2 : j = g
      · subst e2; rw [setV_at]; exact own k hk e a ha
      · rw [setV_ne _ _ e2]; exact h.apart k j hk hj hkj a ha
/-- A frame's state was written. -/
theorem PlIn.seatSet (h : PlIn w b s fb n G V L st S) {f g cap j : Nat} (hf : f < n) (hv : st = .slice (some ⟨g, 0, none⟩) n cap) {x : stIt} {u : Value} (hj : j < 2) (hx : stEnc x = (stEnc (atL S f)).set j u)
    (hw : x.who = -1 ∧ x.tk = false ∨ ∃ g : Nat, g < 16 ∧ x.who = g) : PlIn (w.setCell ⟨g, f * 2 + j, none⟩ u) b s fb n G V L st (S.set f x) := by
  have hfS : f < S.length := by rw [h.len]; exact hf
  have hU : Upd g w (w.setCell ⟨g, f * 2 + j, none⟩ u) := (Upd.refl g w).setCell
  have hrow := h.seatRow
  obtain ⟨cur, hcur, hcells⟩ : ∃ cur : Array Value, w.heap[g]? = some (.cells cur 70 (0, 0)) ∧ ∀ k, k < S.length → ∀ j, j < 2 → cur[k * 2 + j]? = (stEnc (atL S k))[j]? := by
    rcases hrow.2.2 with ⟨h2, _⟩ | ⟨g', cap', cur, hv2, _, hh, _⟩
    · rw [hv] at h2; cases h2
    · rw [hv] at hv2
      simp only [Value.slice.injEq, Option.some.injEq, Addr.mk.injEq, and_true] at hv2
      obtain ⟨rfl, _, _⟩ := hv2
      refine ⟨cur, hh, fun k hk j hj => ?_⟩
      obtain ⟨gx, cx, hvx, _, _, _, _, hc, _⟩ := hrow.item stEnc_length hk
      rw [hv] at hvx
      simp only [Value.slice.injEq, Option.some.injEq, Addr.mk.injEq, and_true] at hvx
      obtain ⟨rfl, _, _⟩ := hvx
      rw [← cell_of_row _ _ _ _ _ _ hh]
      exact hc k hk j hj
  have hne : ∀ {i : Nat} {c : Array Value} {ty : TypeId} {fr : Nat × Nat}, w.heap[i]? = some (.cells c ty fr) → ty ≠ 70 → i ≠ g := fun hi ht => typ_ne hi hcur ht
  have hown : ∀ k, k < 16 → (V k).ownBlock ≠ some g := fun k hk e => by
    rcases (h.rows k hk).2 with ⟨hv2, _⟩ | ⟨gx, capx, curx, hv2, _, hh, _⟩
    · rw [hv2] at e; cases e
    · rw [hv2] at e
      simp only [Value.ownBlock, Option.some.injEq] at e
      exact hne hh (by decide) e
  have hw2 := hrow.wrote stEnc_length (g := g) (cap := cap) (by rw [h.len]; exact hv) hU (show (S.set f x).length = S.length from List.length_set ..) ⟨cur, _, hcur, heap_setCell_at hcur, by simp, fun k hk j' hj' => by
    have hsz : f * 2 + j < cur.size := by
      have := hcells f hfS j hj
      rw [List.getElem?_eq_getElem (by rw [stEnc_length]; exact hj)] at this
      exact (Array.getElem?_eq_some_iff.1 this).1
    rw [atL_setS hfS, Array.getElem?_setIfInBounds]
    by_cases e : f * 2 + j = k * 2 + j'
    · obtain ⟨rfl, rfl⟩ : f = k ∧ j = j' := by omega
      rw [if_pos rfl, if_pos hsz, if_pos rfl, hx, List.getElem?_set_self (by rw [stEnc_length]; exact hj)]
    · rw [if_neg e]
      by_cases e2 : k = f
      · subst e2
        rw [if_pos rfl, hx, List.getElem?_set_ne (by omega), hcells k hk j' hj']
      · rw [if_neg e2, hcells k hk j' hj']⟩
  obtain ⟨s1, s2, ⟨curf, s3, s4⟩, s5⟩ := h.sto
  refine ⟨hw2.1, fun k hk => ownsRow_upd (h.rows k hk) hU (hown k hk), h.heap, h.apart, hw2.2, by rw [List.length_set]; exact h.len, ⟨s1, heap_upd s2 hU (hne s2 (by decide)), ⟨curf, heap_upd s3 hU (hne s3 (by decide)), s4⟩, s5⟩, fun k hk => ?_⟩
  rw [atL_setS hfS]
  by_cases e : k = f
  · rw [if_pos e]; exact hw
  · rw [if_neg e]; exact h.who k hk
/-- A frame's bytes were written. -/
theorem PlIn.stored (h : PlIn w b s fb n G V L st S) {G' : Nat → Int} (hU : Upd fb w w') (hs : StoAt w' s fb n G') : PlIn w' b s fb n G' V L st S := by
  obtain ⟨s1, s2, ⟨curf, s3, s4⟩, s5⟩ := h.sto
  have hne : ∀ {i : Nat} {c : Array Value} {ty : TypeId} {fr : Nat × Nat}, w.heap[i]? = some (.cells c ty fr) → ty ≠ 79 → i ≠ fb := fun hi ht => typ_ne hi s3 ht
  have hown : ∀ {B size m : Nat} {e : TypeId} {u : Value} {xs : List Value}, w.ownsRow B e size u m xs → e ≠ 79 → u.ownBlock ≠ some fb := fun {B size m e u xs} ho he e2 => by
    rcases ho.2 with ⟨hv2, _⟩ | ⟨gx, capx, curx, hv2, _, hh, _⟩
    · rw [hv2] at e2; cases e2
    · rw [hv2] at e2
      simp only [Value.ownBlock, Option.some.injEq] at e2
      exact hne hh he e2
  exact ⟨heap_upd h.blk hU (hne h.blk (by decide)), fun k hk => ownsRow_upd (h.rows k hk) hU (hown (h.rows k hk) (by decide)), h.heap, h.apart, ownsRow_upd h.seats hU (hown h.seats (by decide)), h.len, hs, h.who⟩
end
end Go.Proofs.Ytgcnmhlojfncpaa
