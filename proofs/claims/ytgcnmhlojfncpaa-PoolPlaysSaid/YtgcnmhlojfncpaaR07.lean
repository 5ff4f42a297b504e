/- The reference's pool: where it lies; New. -/
import Derived.Test.YtgcnmhlojfncpaaPt
namespace Go.Proofs.Ytgcnmhlojfncpaa
open Go.ChangeShapes Go.WideShapes Go.ChangeAt Go.RowKit
set_option linter.unusedVariables false

def whEnc (x : stIt) : List Value := [.int .i64 x.who]
def tkEnc (x : stIt) : List Value := [.bool x.tk]
theorem whEnc_length (x : stIt) : (whEnc x).length = 1 := rfl
theorem tkEnc_length (x : stIt) : (tkEnc x).length = 1 := rfl
def rpBlk (tp uv tv : Value) : Array Value := #[tp, uv, tv]
theorem rpBlk_ok1 (tp tv : Value) : BlkOk (fun v => rpBlk tp v tv) 1 := ⟨fun _ => rfl, fun _ _ => rfl⟩
theorem rpBlk_ok2 (tp uv : Value) : BlkOk (fun v => rpBlk tp uv v) 2 := ⟨fun _ => rfl, fun _ _ => rfl⟩
/-- The reference's pool in block q, over the store t. -/
structure RPlAt (w : World) (q t rb n : Nat) (G : Nat → Int) (uv tv : Value) (S : List stIt) : Prop where
  blk : w.heap[q]? = some (.cells (rpBlk (.pointer (some ⟨t, 0, none⟩)) uv tv) 63 (0, 0))
  whos : w.ownsRow (q + 1) 3 1 uv S.length (S.flatMap whEnc)
  tks : w.ownsRow (q + 1) 4 1 tv S.length (S.flatMap tkEnc)
  len : S.length = n
  sto : RStoAt w t rb n G
  who : ∀ f, f < n → (atL S f).who = -1 ∧ (atL S f).tk = false ∨ ∃ g : Nat, g < 16 ∧ (atL S f).who = g
/-- What a call on it may touch. -/
def tchR (rb : Nat) (uv tv : Value) (i : Nat) : Prop := i = rb ∨ some i = uv.ownBlock ∨ some i = tv.ownBlock
theorem flatMap_set_same {α : Type} [Inhabited α] {enc : α → List Value} {l : List α} {f : Nat} {x : α} (hf : f < l.length) (hx : enc x = enc (atL l f)) : (l.set f x).flatMap enc = l.flatMap enc := by
  rw [List.flatMap_def, List.flatMap_def, List.map_set, hx, atL_eq hf]
  congr 1
  rw [← List.getElem_map enc]
  exact List.set_getElem_self (by simpa using hf)
/-- One cell of a row of single cells is written. -/
theorem RowIn.cell1 {α : Type} [Inhabited α] {T t : TypeId} {enc : α → List Value} {w : World} {q : Nat} {blk : Value → Array Value} {v : Value} {l : List α} (h1 : ∀ x : α, (enc x).length = 1) (h : RowIn T 1 enc w q t blk v l) {f g cap : Nat} (hf : f < l.length)
    (hv : v = .slice (some ⟨g, 0, none⟩) l.length cap) {x : α} {u : Value} (hx : enc x = [u]) : RowIn T 1 enc (w.setCell ⟨g, f, none⟩ u) q t blk v (l.set f x) := by
  obtain ⟨cur, hcur, hcells⟩ : ∃ cur : Array Value, w.heap[g]? = some (.cells cur T (0, 0)) ∧ ∀ k, k < l.length → ∀ j, j < 1 → cur[k * 1 + j]? = (enc (atL l k))[j]? := by
    rcases h.2.2 with ⟨h2, _⟩ | ⟨g', cap', cur, hv2, _, hh, _⟩
    · rw [hv] at h2; cases h2
    · rw [hv] at hv2
      simp only [Value.slice.injEq, Option.some.injEq, Addr.mk.injEq, and_true] at hv2
      obtain ⟨rfl, _, _⟩ := hv2
      refine ⟨cur, hh, fun k hk j hj => ?_⟩
      obtain ⟨gx, cx, hvx, _, _, _, _, hc, _⟩ := h.item h1 hk
      rw [hv] at hvx
      simp only [Value.slice.injEq, Option.some.injEq, Addr.mk.injEq, and_true] at hvx
      obtain ⟨rfl, _, _⟩ := hvx
      rw [← cell_of_row _ _ _ _ _ _ hh]
      exact hc k hk j hj
  refine h.wrote h1 (g := g) (cap := cap) hv ((Upd.refl g w).setCell) (show (l.set f x).length = l.length from List.length_set ..) ⟨cur, _, hcur, heap_setCell_at hcur, by simp, fun k hk j' hj' => ?_⟩
  obtain rfl : j' = 0 := by omega
  have hsz : f < cur.size := by
    have := hcells f hf 0 (by omega)
    rw [List.getElem?_eq_getElem (by rw [h1]; omega)] at this
    have := (Array.getElem?_eq_some_iff.1 this).1
    omega
  have hk1 := hcells k hk 0 (by omega)
  simp only [Nat.mul_one, Nat.add_zero] at hk1 ⊢
  rw [atL_setS hf, Array.getElem?_setIfInBounds]
  by_cases e : f = k
  · subst e
    rw [if_pos rfl, if_pos hsz, if_pos rfl, hx]
    rfl
  · rw [if_neg e, if_neg (fun h => e h.symm), hk1]
section
variable {w w' : World} {q t rb n : Nat} {G : Nat → Int} {uv tv : Value} {S : List stIt} {p : Nat → Prop}
theorem RPlAt.lt (h : RPlAt w q t rb n G uv tv S) : q < w.heap.size := lt_heap h.blk
theorem RPlAt.rowW (h : RPlAt w q t rb n G uv tv S) : RowIn 3 1 whEnc w q 63 (fun v => rpBlk (.pointer (some ⟨t, 0, none⟩)) v tv) uv S := ⟨h.blk, h.whos⟩
theorem RPlAt.rowT (h : RPlAt w q t rb n G uv tv S) : RowIn 4 1 tkEnc w q 63 (fun v => rpBlk (.pointer (some ⟨t, 0, none⟩)) uv v) tv S := ⟨h.blk, h.tks⟩
theorem RPlAt.below (h : RPlAt w q t rb n G uv tv S) (hb : Below w.heap.size w w') : RPlAt w' q t rb n G uv tv S :=
  ⟨(hb.block q h.lt).trans h.blk, ownsRow_below h.whos hb, ownsRow_below h.tks hb, h.len, h.sto.below hb, h.who⟩
theorem RPlAt.cell0 (h : RPlAt w q t rb n G uv tv S) : w.cell? ⟨q, 0, none⟩ = some (.pointer (some ⟨t, 0, none⟩)) := (cell_of_row _ _ _ _ _ _ h.blk).trans rfl
theorem RPlAt.cell1 (h : RPlAt w q t rb n G uv tv S) : w.cell? ⟨q, 1, none⟩ = some uv := (cell_of_row _ _ _ _ _ _ h.blk).trans rfl
theorem RPlAt.cell2 (h : RPlAt w q t rb n G uv tv S) : w.cell? ⟨q, 2, none⟩ = some tv := (cell_of_row _ _ _ _ _ _ h.blk).trans rfl
theorem RPlAt.itemW (h : RPlAt w q t rb n G uv tv S) {f : Nat} (hf : f < n) : ∃ g cap, uv = .slice (some ⟨g, 0, none⟩) n cap ∧ n ≤ cap ∧ cap ≤ maxLen ∧ g < w.heap.size ∧ (∀ k, k < n → w.cell? ⟨g, k, none⟩ = some (.int .i64 (atL S k).who)) ∧ ∀ x, w.frozen? ⟨g, x, none⟩ = false := by
  obtain ⟨g, cap, hv, h1, h2, h3, h4, hc, hf2⟩ := h.rowW.item whEnc_length (i := f) (by rw [h.len]; exact hf)
  rw [h.len] at hv h1
  refine ⟨g, cap, hv, h1, h2, h4, fun k hk => ?_, hf2⟩
  have := hc k (by rw [h.len]; exact hk) 0 (by omega)
  simpa only [Nat.mul_one, Nat.add_zero, whEnc, List.getElem?_cons_zero] using this
theorem RPlAt.itemT (h : RPlAt w q t rb n G uv tv S) {f : Nat} (hf : f < n) : ∃ g cap, tv = .slice (some ⟨g, 0, none⟩) n cap ∧ n ≤ cap ∧ cap ≤ maxLen ∧ g < w.heap.size ∧ (∀ k, k < n → w.cell? ⟨g, k, none⟩ = some (.bool (atL S k).tk)) ∧ ∀ x, w.frozen? ⟨g, x, none⟩ = false := by
  obtain ⟨g, cap, hv, h1, h2, h3, h4, hc, hf2⟩ := h.rowT.item tkEnc_length (i := f) (by rw [h.len]; exact hf)
  rw [h.len] at hv h1
  refine ⟨g, cap, hv, h1, h2, h4, fun k hk => ?_, hf2⟩
  have := hc k (by rw [h.len]; exact hk) 0 (by omega)
  simpa only [Nat.mul_one, Nat.add_zero, tkEnc, List.getElem?_cons_zero] using this
theorem own_typR {B size m : Nat} {e : TypeId} {u : Value} {xs : List Value} (h : w.ownsRow B e size u m xs) {a : Nat} (ha : u.ownBlock = some a) : ∃ cur, w.heap[a]? = some (.cells cur e (0, 0)) := by
  rcases h.2 with ⟨rfl, _⟩ | ⟨g, cap, cur, rfl, hg, hh, hr⟩
  · cases ha
  · cases ha
    exact ⟨cur, hh⟩
/-- Whose a frame is was written. -/
theorem RPlAt.setWho (h : RPlAt w q t rb n G uv tv S) {f g cap : Nat} (hf : f < n) (hv : uv = .slice (some ⟨g, 0, none⟩) n cap) {x : stIt} (hx : x.tk = (atL S f).tk)
    (hw : ∃ k : Nat, k < 16 ∧ x.who = k) : RPlAt (w.setCell ⟨g, f, none⟩ (.int .i64 x.who)) q t rb n G uv tv (S.set f x) := by
  have hfS : f < S.length := by rw [h.len]; exact hf
  have hU : Upd g w (w.setCell ⟨g, f, none⟩ (.int .i64 x.who)) := (Upd.refl g w).setCell
  have hr := h.rowW.cell1 whEnc_length hfS (by rw [h.len]; exact hv) (x := x) (u := .int .i64 x.who) rfl
  obtain ⟨cur, hc⟩ := own_typR h.whos (a := g) (by rw [hv]; rfl)
  refine ⟨hr.1, hr.2, ?_, by rw [List.length_set]; exact h.len, h.sto.upd hU hc (by decide) (by decide) (by decide), fun k hk => ?_⟩
  · rw [flatMap_set_same hfS (by unfold tkEnc; rw [hx]), List.length_set]
    exact ownsRow_upd h.tks hU fun e => by
      obtain ⟨cur2, hc2⟩ := own_typR h.tks e
      exact types_ne hc2 hc (by decide) rfl
  · rw [atL_setS hfS]
    by_cases e : k = f
    · rw [if_pos e]; exact .inr hw
    · rw [if_neg e]; exact h.who k hk
/-- Whether it is taken was written. -/
theorem RPlAt.setTk (h : RPlAt w q t rb n G uv tv S) {f g cap : Nat} (hf : f < n) (hv : tv = .slice (some ⟨g, 0, none⟩) n cap) {x : stIt} (hx : x.who = (atL S f).who)
    (hw : ∃ k : Nat, k < 16 ∧ x.who = k) : RPlAt (w.setCell ⟨g, f, none⟩ (.bool x.tk)) q t rb n G uv tv (S.set f x) := by
  have hfS : f < S.length := by rw [h.len]; exact hf
  have hU : Upd g w (w.setCell ⟨g, f, none⟩ (.bool x.tk)) := (Upd.refl g w).setCell
  have hr := h.rowT.cell1 tkEnc_length hfS (by rw [h.len]; exact hv) (x := x) (u := .bool x.tk) rfl
  obtain ⟨cur, hc⟩ := own_typR h.tks (a := g) (by rw [hv]; rfl)
  refine ⟨hr.1, ?_, hr.2, by rw [List.length_set]; exact h.len, h.sto.upd hU hc (by decide) (by decide) (by decide), fun k hk => ?_⟩
  · rw [flatMap_set_same hfS (by unfold whEnc; rw [hx]), List.length_set]
    exact ownsRow_upd h.whos hU fun e => by
      obtain ⟨cur2, hc2⟩ := own_typR h.whos e
      exact types_ne hc2 hc (by decide) rfl
  · rw [atL_setS hfS]
    by_cases e : k = f
    · rw [if_pos e]; exact .inr hw
    · rw [if_neg e]; exact h.who k hk
/-- Bytes were written. -/
theorem RStoAt.blkR (h : RStoAt w t rb n G) (hn : 0 < n) : ∃ cur, w.heap[rb]? = some (.cells cur 22 (0, 0)) := by
  obtain ⟨_, _, v, h1, h2⟩ := h
  rcases h2 with ⟨rfl, rfl⟩ | ⟨c, cur, rfl, q2, q3, q4, q5, q6⟩
  · omega
  · exact ⟨cur, q4⟩
theorem RPlAt.stored (h : RPlAt w q t rb n G uv tv S) (hn : 0 < n) {G' : Nat → Int} (hU : Upd rb w w') (hs : RStoAt w' t rb n G') : RPlAt w' q t rb n G' uv tv S := by
  obtain ⟨cur, hc⟩ := h.sto.blkR hn
  have hown : ∀ {B size m : Nat} {e : TypeId} {u : Value} {xs : List Value}, w.ownsRow B e size u m xs → e ≠ 22 → u.ownBlock ≠ some rb := fun {B size m e u xs} ho he e2 => by
    obtain ⟨cur2, hc2⟩ := own_typR ho e2
    exact types_ne hc2 hc he rfl
  exact ⟨heap_upd h.blk hU (types_ne h.blk hc (by decide)), ownsRow_upd h.whos hU (hown h.whos (by decide)), ownsRow_upd h.tks hU (hown h.tks (by decide)), h.len, hs, h.who⟩
theorem RStoAt.frs (h : RStoAt w t rb n G) (f : Frs p w w') (hp : ∀ i c ty fz, w.heap[i]? = some (.cells c ty fz) → (ty = 75 ∨ ty = 22 ∨ ty = 5) → ¬ p i) : RStoAt w' t rb n G := by
  obtain ⟨hn, hG, v, h1, h2⟩ := h
  refine ⟨hn, hG, v, (f.block t (lt_heap h1) (hp _ _ _ _ h1 (.inl rfl))).trans h1, ?_⟩
  rcases h2 with h2 | ⟨c, cur, q1, q2, q3, q4, q5, q6⟩
  · exact .inl h2
  · refine .inr ⟨c, cur, q1, q2, q3, (f.block rb (lt_heap q4) (hp _ _ _ _ q4 (.inr (.inl rfl)))).trans q4, q5, fun k hk => ?_⟩
    obtain ⟨g, c', r1, r2, r3, r4⟩ := q6 k hk
    obtain ⟨cur2, s1, s2⟩ := r4
    exact ⟨g, c', r1, r2, r3, cur2, (f.block g (lt_heap s1) (hp _ _ _ _ s1 (.inr (.inr rfl)))).trans s1, s2⟩
theorem RPlAt.frs (h : RPlAt w q t rb n G uv tv S) (f : Frs p w w') (hp : ∀ i c ty fz, w.heap[i]? = some (.cells c ty fz) → (ty = 75 ∨ ty = 22 ∨ ty = 5 ∨ ty = 63 ∨ ty = 4) → ¬ p i) (hu : ∀ a, uv.ownBlock = some a → ¬ p a) : RPlAt w' q t rb n G uv tv S := by
  refine ⟨(f.block q h.lt (hp _ _ _ _ h.blk (by simp))).trans h.blk, ownsRow_frs h.whos f hu, ownsRow_frs h.tks f fun a ha => ?_, h.len, h.sto.frs f fun i c ty fz hi ht => hp i c ty fz hi ?_, h.who⟩
  · obtain ⟨cur2, hc2⟩ := own_typR h.tks ha
    exact hp _ _ _ _ hc2 (by simp)
  · rcases ht with rfl | rfl | rfl <;> simp
end
end Go.Proofs.Ytgcnmhlojfncpaa
