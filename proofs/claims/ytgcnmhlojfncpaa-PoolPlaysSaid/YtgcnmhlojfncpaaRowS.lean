/- A row of items in memory: two of them change places. -/
import Derived.Test.YtgcnmhlojfncpaaRowM
import Derived.Deep.MidRow
namespace Go.Proofs.Ytgcnmhlojfncpaa
open Go.ChangeShapes Go.WideShapes Go.ChangeAt Go.RowKit
set_option linter.unusedVariables false

theorem heap_setCells_at {b : Nat} {t : TypeId} {fr : Nat × Nat} : ∀ (vs : List Value) (o : Nat) (w : World) (cs : Array Value), w.heap[b]? = some (.cells cs t fr) → ∃ cs', (w.setCells b o vs).heap[b]? = some (.cells cs' t fr) ∧ cs'.size = cs.size
  | [], _, w, cs, h => ⟨cs, h, rfl⟩
  | v :: r, o, w, cs, h => by
    rw [World.setCells]
    obtain ⟨cs', h1, h2⟩ := heap_setCells_at r (o + 1) _ _ (heap_setCell_at (o := o) (u := v) h)
    exact ⟨cs', h1, h2.trans (by simp)⟩
theorem upd_setCells {b : Nat} : ∀ (vs : List Value) (o : Nat) (a w : World), Upd b a w → Upd b a (w.setCells b o vs)
  | [], _, _, _, h => h
  | v :: r, o, a, w, h => by
    rw [World.setCells]
    exact upd_setCells r (o + 1) a _ h.setCell

section
variable {α : Type} [Inhabited α] {T : TypeId} {sz : Nat} {enc : α → List Value} {w w' : World} {b o : Nat} {t : TypeId} {blk : Value → Array Value} {v : Value} {l : List α}

theorem setCells_item (g i x j : Nat) (vs : List Value) (hs : vs.length = sz) (ht : w.there g (i * sz) sz) (hj : j < sz) : (w.setCells g (i * sz) vs).cell? ⟨g, x * sz + j, none⟩ = if x = i then vs[j]? else w.cell? ⟨g, x * sz + j, none⟩ := by
  by_cases hx : x = i
  · subst hx
    rw [if_pos rfl, World.cell?_setCells_in g vs (x * sz) w (fun k hk => (ht k (by omega)).1) j (by omega), List.getElem?_eq_getElem (by omega)]
  · rw [if_neg hx, World.cell?_setCells_out g vs (i * sz) w ⟨g, x * sz + j, none⟩ (fun _ _ => ?_)]
    show x * sz + j < i * sz ∨ i * sz + vs.length ≤ x * sz + j
    rcases Nat.lt_or_gt_of_ne hx with h | h
    · have := Nat.mul_le_mul_right sz (show x + 1 ≤ i from h)
      rw [Nat.succ_mul] at this
      omega
    · have := Nat.mul_le_mul_right sz (show i + 1 ≤ x from h)
      rw [Nat.succ_mul] at this
      omega

/-- Two items change places. -/
theorem RowIn.swapped (h : RowIn T sz enc w b t blk v l) (he : ∀ x : α, (enc x).length = sz) {i k g cap : Nat} (hv : v = .slice (some ⟨g, 0, none⟩) l.length cap) (hi : i < l.length) (hk : k < l.length) (hth : ∀ x, x < l.length → w.there g (x * sz) sz) :
    RowIn T sz enc ((w.setCells g (i * sz) (enc (atL l k))).setCells g (k * sz) (enc (atL l i))) b t blk v (swapL l i k) := by
  have hu : Upd g w ((w.setCells g (i * sz) (enc (atL l k))).setCells g (k * sz) (enc (atL l i))) := upd_setCells _ _ _ _ (upd_setCells _ _ _ _ (.refl g w))
  obtain ⟨g', cap', hv', hle, hm, hbg, hg, hc, hf⟩ := h.item he hi
  rw [hv] at hv'
  simp only [Value.slice.injEq, Option.some.injEq, Addr.mk.injEq, and_true, true_and] at hv'
  obtain ⟨rfl, rfl⟩ := hv'
  have h2 : ∃ cur, w.heap[g]? = some (.cells cur T (0, 0)) := by
    rcases h.2.2 with ⟨h3, h0⟩ | ⟨g', cap', cur, h3, hb, hg, _⟩
    · omega
    · rw [hv] at h3
      simp only [Value.slice.injEq, Option.some.injEq, Addr.mk.injEq, and_true, true_and] at h3
      obtain ⟨rfl, _⟩ := h3
      exact ⟨cur, hg⟩
  obtain ⟨cur, hcur⟩ := h2
  obtain ⟨cur1, h3, h4⟩ := heap_setCells_at (enc (atL l k)) (i * sz) w cur hcur
  obtain ⟨cur2, h5, h6⟩ := heap_setCells_at (enc (atL l i)) (k * sz) _ cur1 h3
  refine h.wrote he hv hu (swapL_length l i k) ⟨cur, cur2, hcur, h5, h6.trans h4, fun x hx j hj => ?_⟩
  have hcell := cell_of_row _ g (x * sz + j) cur2 T (0, 0) h5
  rw [← hcell, setCells_item g k x j _ (he _) (World.there_setCells (hth k hk) _ _ _) hj, setCells_item g i x j _ (he _) (hth i hi) hj, atL_swap hi hk]
  split
  · rfl
  · split
    · rfl
    · exact hc x hx j hj
theorem frm_swapped {i k g n cap : Nat} (hv : v = .slice (some ⟨g, 0, none⟩) n cap) (xs ys : List Value) : Frm b v v w ((w.setCells g i xs).setCells g k ys) :=
  .of_upd (upd_setCells _ _ _ _ (upd_setCells _ _ _ _ (.refl g w))) (by rw [hv]; rfl)
end
end Go.Proofs.Ytgcnmhlojfncpaa
