/- Texts of this proof in one: HppP, RowP, RowG, Reg7, OctA, OctB, OctW, OctP, Z06, R06, OnewayZeroWalk, Frm, FrmW, FrmX, FrmY, R06x, R06y, R06z. -/
import Derived.Test.YtklgfnboadchmaaMrgA
import Derived.WalkKit
import Derived.Laws.BitsAllLaws
import Derived.Test.YtklgfnboadchmaaRows
import Derived.Laws.BytesArg
import Derived.Deep.RegionLaw
import Derived.Deep.AppendLies
import Derived.OwnWalk
import Derived.Deep.MidRow
import Derived.Laws.CopyOwn
import Derived.Stop.BytesEq
import Derived.Deep.RegionHeld3

section
/- container/heap over a row: Push, Pop, Remove. -/
namespace Go.Proofs.Ytklgfnboadchmaa
open Go.ChangeShapes Go.WideShapes Go.ChangeAt Go.RowKit
set_option linter.unusedVariables false
variable {o : Nat}

set_option maxRecDepth 20000 in
theorem plHPush (b : Nat) (blk : Value → Array Value) (v : Value) (l : List plIt) (x : plIt) (w : World) (hb : BlkOk blk o) (h : plRow w b blk v l) (hh : HeapN plLt l l.length) (hn : l.length < 1000000) :
    Calls Try.prog 69 #[.iface 110 (.pointer (some ⟨b, o, none⟩)), plVal x] w fun e w' => e = .returned (.tuple #[]) ∧ ∃ v' l', plRow w' b blk v' l' ∧ HeapN plLt l' l'.length ∧ l'.Perm (l ++ [x]) ∧ Frm b v v' w w' := by
  have hm1 : ∀ w' : World, (method 243 110 (.pointer (some ⟨b, o, none⟩)) "Push").run Try.prog w' = .ok (93, .pointer (some ⟨b, o, none⟩)) w' := fun _ => by kernel_rfl
  have hm2 : ∀ w' : World, (method 243 110 (.pointer (some ⟨b, o, none⟩)) "Len").run Try.prog w' = .ok (42, .pointer (some ⟨b, o, none⟩)) w' := fun _ => by kernel_rfl
  obtain ⟨n, hln⟩ : ∃ n, l.length = n := ⟨_, rfl⟩
  obtain ⟨p1, p2, p3⟩ := push_heap plLt_ordered hln x (by rw [← hln]; exact hh)
  go_enter Try.func69, Try.ntmps69
  go_wp2_with fail
  refine (plPush b blk v l x _ hb h (by omega)).mono ?_
  rintro e w1 ⟨rfl, v1, h1, f1⟩
  have hl1 : (l ++ [x]).length = n + 1 := by simp [hln]
  have hi : ((l ++ [x]).length : Int) = n + 1 := by omega
  go_wp2_with fail
  refine (plLen b blk v1 _ _ hb h1).mono ?_
  rintro e w2 ⟨rfl, rfl⟩
  rw [hi]
  go_wp2_with fail
  refine (plUp b blk v1 _ n _ hb h1 (by omega) (by omega)).mono ?_
  rintro e w3 ⟨rfl, h3, f3⟩
  go_wp2
  go_end0
  exact ⟨rfl, v1, _, h3, by rw [p3]; exact p1, p2, f1.trans f3⟩

set_option maxRecDepth 20000 in
theorem plHPop (b : Nat) (blk : Value → Array Value) (v : Value) (l : List plIt) (n : Nat) (w : World) (hb : BlkOk blk o) (h : plRow w b blk v l) (hl : l.length = n + 1) (hh : HeapN plLt l l.length) (hn : l.length ≤ 1000000) :
    Calls Try.prog 63 #[.iface 110 (.pointer (some ⟨b, o, none⟩))] w fun e w' => e = .returned (plVal (atL l 0)) ∧ ∃ v' l', plRow w' b blk v' l' ∧ HeapN plLt l' l'.length ∧ l'.length = n ∧ (atL l 0 :: l').Perm l ∧ Frm b v v' w w' := by
  have hm1 : ∀ w' : World, (method 243 110 (.pointer (some ⟨b, o, none⟩)) "Pop").run Try.prog w' = .ok (92, .pointer (some ⟨b, o, none⟩)) w' := fun _ => by kernel_rfl
  have hm2 : ∀ w' : World, (method 243 110 (.pointer (some ⟨b, o, none⟩)) "Len").run Try.prog w' = .ok (42, .pointer (some ⟨b, o, none⟩)) w' := fun _ => by kernel_rfl
  have hm3 : ∀ w' : World, (method 243 110 (.pointer (some ⟨b, o, none⟩)) "Swap").run Try.prog w' = .ok (94, .pointer (some ⟨b, o, none⟩)) w' := fun _ => by kernel_rfl
  rw [hl] at hh
  obtain ⟨p1, p2, p3⟩ := pop_heap plLt_ordered hl hh
  have hi : (l.length : Int) = n + 1 := by omega
  have hs : (swapL l 0 n).length = n + 1 := by rw [swapL_length]; exact hl
  have hd : (downL plLt n n (swapL l 0 n) 0).1.length = n + 1 := by rw [downL_length]; exact hs
  have ht : ((downL plLt n n (swapL l 0 n) 0).1.take n).length = n := by rw [List.length_take]; omega
  go_enter Try.func63, Try.ntmps63
  go_wp2_with fail
  refine (plLen b blk v _ _ hb h).mono ?_
  rintro e w1 ⟨rfl, rfl⟩
  rw [hi]
  go_wp2_with fail
  refine (plSwap b blk v l 0 n _ hb h (by omega) (by omega)).mono ?_
  rintro e w2 ⟨rfl, h2, f2⟩
  go_wp2_with fail
  refine (plDown b blk v _ 0 n _ hb h2 (by omega) (by omega) (by omega)).mono ?_
  rintro e w3 ⟨rfl, h3, f3⟩
  go_wp2_with fail
  refine (plPop b blk v _ n _ hb h3 hd).mono ?_
  rintro e w4 ⟨rfl, v4, h4, f4⟩
  go_wp2
  go_ret
  exact ⟨by first | rfl | rw [p2], v4, _, h4, by rw [ht]; exact p1, ht, p3, (f2.trans f3).trans f4⟩
end Go.Proofs.Ytklgfnboadchmaa
end

section
/- Two rows of items in memory, of other types: what one of them does leaves the other one as it is. -/
namespace Go.Proofs.Ytklgfnboadchmaa
open Go.ChangeShapes Go.WideShapes Go.ChangeAt Go.RowKit
set_option linter.unusedVariables false

theorem typ_ne {w : World} {a b : Nat} {c1 c2 : Array Value} {t1 t2 : TypeId} {f1 f2 : Nat × Nat} (ha : w.heap[a]? = some (.cells c1 t1 f1)) (hb : w.heap[b]? = some (.cells c2 t2 f2)) (ht : t1 ≠ t2) : a ≠ b := by
  rintro rfl
  rw [ha] at hb
  cases hb
  exact ht rfl

theorem heap_setCell_ne' {w : World} {b o i : Nat} {s : Option Nat} {u : Value} (h : i ≠ b) : (w.setCell ⟨b, o, s⟩ u).heap[i]? = w.heap[i]? := by
  simp [World.setCell, Array.getElem?_modify, Ne.symm h]

section
variable {α β : Type} {T T' : TypeId} {sz sz' : Nat} {enc : α → List Value} {enc' : β → List Value} {w w' : World} {b b' : Nat} {t t' : TypeId} {blk blk' : Value → Array Value} {v v2 v' : Value} {l : List α} {l' : List β}

/-- A block of another type than the row's two is as it was. -/
theorem Frm.other (f : Frm b v v2 w w') (h : RowIn T sz enc w b t blk v l) {i : Nat} {c : Array Value} {ty : TypeId} {fr : Nat × Nat} (hi : w.heap[i]? = some (.cells c ty fr)) (h1 : ty ≠ t) (h2 : ty ≠ T) : w'.heap[i]? = some (.cells c ty fr) := by
  refine (f.block i (lt_heap hi) (typ_ne hi h.1 h1) (fun e => ?_)).trans hi
  rcases h.2.2 with ⟨hv, _⟩ | ⟨g, cap, cur, hv, hg, hh, _⟩
  · rw [hv] at e; cases e
  · rw [hv] at e
    simp only [Value.ownBlock, Option.some.injEq] at e
    subst e
    exact typ_ne hi hh h2 rfl
theorem RowIn.frm (h' : RowIn T' sz' enc' w b' t' blk' v' l') (h : RowIn T sz enc w b t blk v l) (f : Frm b v v2 w w') (h1 : t' ≠ t) (h2 : t' ≠ T) (h3 : T' ≠ t) (h4 : T' ≠ T) : RowIn T' sz' enc' w' b' t' blk' v' l' := by
  refine ⟨f.other h h'.1 h1 h2, h'.2.1, ?_⟩
  rcases h'.2.2 with h5 | ⟨g, cap, cur, hv, hg, hh, hr⟩
  · exact .inl h5
  · exact .inr ⟨g, cap, cur, hv, hg, f.other h hh h3 h4, hr⟩
theorem ownsRow_other (f : Frm b v v2 w w') (h : RowIn T sz enc w b t blk v l) {B size n : Nat} {e : TypeId} {u : Value} {xs : List Value} (ho : w.ownsRow B e size u n xs) (h3 : e ≠ t) (h4 : e ≠ T) : w'.ownsRow B e size u n xs := by
  refine ⟨ho.1, ?_⟩
  rcases ho.2 with hn | ⟨g, cap, cur, hv, hg, hh, hr⟩
  · exact .inl hn
  · exact .inr ⟨g, cap, cur, hv, hg, f.other h hh h3 h4, hr⟩
/-- A row whose slice is known, at an item. -/
theorem RowIn.at [Inhabited α] {a : Option Addr} {c : Nat} (h : RowIn T sz enc w b t blk (.slice a l.length c) l) (he : ∀ x : α, (enc x).length = sz) {i : Nat} (hi : i < l.length) : ∃ g, a = some ⟨g, 0, none⟩ ∧ l.length ≤ c ∧ c ≤ maxLen ∧ b < g ∧ g < w.heap.size ∧
    (∀ k, k < l.length → ∀ j, j < sz → w.cell? ⟨g, k * sz + j, none⟩ = (enc (atL l k))[j]?) ∧ ∀ x, w.frozen? ⟨g, x, none⟩ = false := by
  obtain ⟨g, cap, hv, h1, h2, h3, h4, h5, h6⟩ := h.item he hi
  simp only [Value.slice.injEq, true_and] at hv
  obtain ⟨rfl, rfl⟩ := hv
  exact ⟨g, rfl, h1, h2, h3, h4, h5, h6⟩
/-- Beside the row a slice of the call's own grew, of another type. -/
theorem RowIn.grewBy (h : RowIn T sz enc w b t blk v l) {B n size : Nat} {e : TypeId} {u : Value} {xs : List Value} {ob : Obj} (ho : w.ownsRow B e size u n xs) (hg : (w.alloc ob).grownBy w' u.ownBlock) (h1 : e ≠ t) (h2 : e ≠ T) : RowIn T sz enc w' b t blk v l := by
  have key : ∀ {i : Nat} {c : Array Value} {ty : TypeId} {fr : Nat × Nat}, w.heap[i]? = some (.cells c ty fr) → e ≠ ty → w'.heap[i]? = some (.cells c ty fr) := fun {i c ty fr} hi hne => by
    refine (hg.block i (by have := lt_heap hi; simp; omega) (fun e2 => ?_)).trans (heap_alloc hi)
    rcases ho.2 with ⟨hv, _⟩ | ⟨g, cap, cur, hv, _, hh, _⟩
    · rw [hv] at e2; cases e2
    · rw [hv] at e2
      simp only [Value.ownBlock, Option.some.injEq] at e2
      subst e2
      exact typ_ne hh hi hne rfl
  refine ⟨key h.1 h1, h.2.1, ?_⟩
  rcases h.2.2 with h3 | ⟨g, cap, cur, hv, hg, hh, hr⟩
  · exact .inl h3
  · exact .inr ⟨g, cap, cur, hv, hg, key hh h2, hr⟩
theorem Frm.grewBy {w0 : World} (f : Frm b v v2 w0 w) {n size : Nat} {e : TypeId} {u : Value} {xs : List Value} {ob : Obj} (ho : w.ownsRow w0.heap.size e size u n xs) (hg : (w.alloc ob).grownBy w' u.ownBlock) : Frm b v v2 w0 w' := by
  have h1 : Below w.heap.size w (w.alloc ob) := (Bel.refl w).alloc.1
  refine ⟨hg.os.trans (h1.os.trans f.os), hg.tape.trans (h1.tape.trans f.tape), hg.output.trans (h1.output.trans f.output), ?_, fun i hi hb hv => ?_, f.own⟩
  · have := hg.size
    have := f.size
    have := h1.size
    omega
  · have := f.size
    refine (hg.block i (by simp; omega) (fun e => ?_)).trans ((h1.block i (by omega)).trans (f.block i hi hb hv))
    have := (ho.lt i e.symm).1
    omega
end
end Go.Proofs.Ytklgfnboadchmaa
end

section
/- Rows of items in memory: general words on lists, rows and what stays. -/
namespace Go.Proofs.Ytklgfnboadchmaa
open Go.ChangeShapes Go.WideShapes Go.ChangeAt Go.RowKit
set_option linter.unusedVariables false

section
variable {α : Type} [Inhabited α]
theorem mem_atL {l : List α} {i : Nat} (h : i < l.length) : atL l i ∈ l := by rw [atL_eq h]; exact List.getElem_mem h
theorem mem_is_atL {l : List α} {y : α} (h : y ∈ l) : ∃ i, i < l.length ∧ y = atL l i := by
  obtain ⟨i, hi, rfl⟩ := List.getElem_of_mem h
  exact ⟨i, hi, (atL_eq hi).symm⟩
theorem take_succ_atL {l : List α} {j : Nat} (hj : j < l.length) : l.take (j + 1) = l.take j ++ [atL l j] := by
  rw [atL_eq hj, List.take_succ_eq_append_getElem hj]
theorem drop_atL {l : List α} {j : Nat} (hj : j < l.length) : l.drop j = atL l j :: l.drop (j + 1) := by
  rw [atL_eq hj, List.drop_eq_getElem_cons hj]
theorem atL_out {l : List α} {j : Nat} (hj : l.length ≤ j) : atL l j = default := by simp [atL, List.getD, List.getElem?_eq_none hj]
end

section
variable {α : Type} {T : TypeId} {sz : Nat} {enc : α → List Value} {w w' : World} {b : Nat} {t : TypeId} {blk : Value → Array Value} {v : Value} {l : List α}
theorem RowIn.upd {c : Nat} (h : RowIn T sz enc w b t blk v l) (hu : Upd c w w') (hb : c ≠ b) (hv : v.ownBlock ≠ some c) : RowIn T sz enc w' b t blk v l := by
  refine ⟨heap_upd h.1 hu (Ne.symm hb), h.2.1, ?_⟩
  rcases h.2.2 with h2 | ⟨g, cap, cur, hv2, hg2, hh, hr⟩
  · exact .inl h2
  · exact .inr ⟨g, cap, cur, hv2, hg2, heap_upd hh hu (fun e => hv (by rw [hv2, ← e]; rfl)), hr⟩
/-- The struct's block was written beside the row's field. -/
theorem RowIn.reblk {blk' : Value → Array Value} (h : RowIn T sz enc w b t blk v l) (hu : Upd b w w') (hb : w'.heap[b]? = some (.cells (blk' v) t (0, 0))) : RowIn T sz enc w' b t blk' v l := by
  refine ⟨hb, h.2.1, ?_⟩
  rcases h.2.2 with h2 | ⟨g, cap, cur, hv, hg, hh, hr⟩
  · exact .inl h2
  · exact .inr ⟨g, cap, cur, hv, hg, heap_upd hh hu (by omega), hr⟩
theorem RowIn.grown {r : Option Nat} (h : RowIn T sz enc w b t blk v l) (hg : w.grownBy w' r) (hb : r ≠ some b) (hv : ∀ g, v.ownBlock = some g → r ≠ some g) : RowIn T sz enc w' b t blk v l := by
  refine ⟨(hg.block b h.lt (fun e => hb e.symm)).trans h.1, h.2.1, ?_⟩
  rcases h.2.2 with h2 | ⟨g, cap, cur, hv2, hg2, hh, hr⟩
  · exact .inl h2
  · exact .inr ⟨g, cap, cur, hv2, hg2, (hg.block g (lt_heap hh) (fun e => hv g (by rw [hv2]; rfl) e.symm)).trans hh, hr⟩
end
theorem Frm.of_own {b : Nat} {v : Value} {a w : World} (h : Upd b a w) : Frm b v v a w := ⟨h.os, h.tape, h.output, h.size, fun i hi hb _ => h.block i hi (by rintro ⟨⟩; exact hb rfl), .inl rfl⟩
theorem ownsRow_frm {w w' : World} {B b size n : Nat} {e : TypeId} {v v' u : Value} {xs : List Value} (h : w.ownsRow B e size u n xs) (hF : Frm b v v' w w') (hb : b < B) (hne : ∀ g, u.ownBlock = some g → v.ownBlock ≠ some g) : w'.ownsRow B e size u n xs := by
  refine ⟨h.1, ?_⟩
  rcases h.2 with hn | ⟨g, cap, cur, hv, hg, hh, hr⟩
  · exact .inl hn
  · refine .inr ⟨g, cap, cur, hv, hg, (hF.block g (lt_heap hh) (by omega) (fun e => hne g (by rw [hv]; rfl) e.symm)).trans hh, hr⟩
theorem ownsRow_below {w w' : World} {B size n : Nat} {e : TypeId} {u : Value} {xs : List Value} (h : w.ownsRow B e size u n xs) (hb : Below w.heap.size w w') : w'.ownsRow B e size u n xs := by
  refine ⟨h.1, ?_⟩
  rcases h.2 with hn | ⟨g, cap, cur, hv, hg, hh, hr⟩
  · exact .inl hn
  · exact .inr ⟨g, cap, cur, hv, hg, (hb.block g (lt_heap hh)).trans hh, hr⟩
theorem ownsRow_upd {w w' : World} {B size n c : Nat} {e : TypeId} {u : Value} {xs : List Value} (h : w.ownsRow B e size u n xs) (hu : Upd c w w') (hc : u.ownBlock ≠ some c) : w'.ownsRow B e size u n xs := by
  refine ⟨h.1, ?_⟩
  rcases h.2 with hn | ⟨g, cap, cur, hv, hg, hh, hr⟩
  · exact .inl hn
  · exact .inr ⟨g, cap, cur, hv, hg, heap_upd hh hu (fun e => hc (by rw [hv, ← e]; rfl)), hr⟩
theorem ownsRow_base {w : World} {B B' size n : Nat} {e : TypeId} {v : Value} {xs : List Value} (h : w.ownsRow B e size v n xs) (hb : B' ≤ B) : w.ownsRow B' e size v n xs := by
  refine ⟨h.1, ?_⟩
  rcases h.2 with hn | ⟨g, cap, cur, hv, hg, hr⟩
  · exact .inl hn
  · exact .inr ⟨g, cap, cur, hv, Nat.le_trans hb hg, hr⟩
theorem ownsRow_shape {w : World} {B size n : Nat} {e : TypeId} {v : Value} {xs : List Value} (h : w.ownsRow B e size v n xs) : ∃ a c, v = .slice a n c := by
  rcases h.2 with ⟨h1, h2⟩ | ⟨g, cap, cur, h1, _⟩
  · exact ⟨none, 0, by rw [h1, h2]⟩
  · exact ⟨_, _, h1⟩

/-- Where a slice of items lies, and which; it is read alone. -/
def ItemsAt {α : Type} [Inhabited α] (sz : Nat) (enc : α → List Value) (w : World) (a : Option Addr) (n : Nat) (l : List α) : Prop :=
  l.length = n ∧ (0 < n → ∃ g o, a = some ⟨g, o, none⟩ ∧ g < w.heap.size ∧ ∀ i, i < n → ∀ j, j < sz → w.cell? ⟨g, o + i * sz + j, none⟩ = (enc (atL l i))[j]?)
section
variable {α : Type} [Inhabited α] {sz : Nat} {enc : α → List Value} {w w' : World} {a : Option Addr} {n : Nat} {l : List α}
theorem ItemsAt.below (h : ItemsAt sz enc w a n l) (hb : Below w.heap.size w w') : ItemsAt sz enc w' a n l :=
  ⟨h.1, fun hn => let ⟨g, o, ha, hg, hc⟩ := h.2 hn; ⟨g, o, ha, Nat.lt_of_lt_of_le hg hb.size, fun i hi j hj => (hb.cell (p := ⟨g, o + i * sz + j, none⟩) hg).trans (hc i hi j hj)⟩⟩
theorem ItemsAt.bel {B : Nat} {w0 : World} (h : ItemsAt sz enc w0 a n l) (hB : B = w0.heap.size) (hb : Bel B w0 w') : ItemsAt sz enc w' a n l := by
  subst hB; exact h.below hb.1
/-- A slice that the call owns, as one that is read. -/
theorem items_of_owned (he : ∀ x : α, (enc x).length = sz) {B : Nat} {e : TypeId} {v : Value} (h : w.ownsRow B e sz v l.length (l.flatMap enc)) : ∃ a c, v = .slice a l.length c ∧ l.length ≤ c ∧ c ≤ maxLen ∧ ItemsAt sz enc w a l.length l ∧ ∀ g, v.ownBlock = some g → B ≤ g := by
  rcases h.2 with ⟨rfl, hn⟩ | ⟨g, cap, cur, rfl, hb, hg, hle, hm, hs, ht⟩
  · exact ⟨none, 0, by rw [hn], by omega, Nat.zero_le _, ⟨rfl, fun h => by omega⟩, fun g hg => by cases hg⟩
  · refine ⟨_, cap, rfl, hle, hm, ⟨rfl, fun hn => ⟨g, 0, rfl, lt_heap hg, fun i hi j hj => ?_⟩⟩, fun g hg => by cases hg; exact hb⟩
    rw [← flat_at he l i j hi hj, ← ht, List.getElem?_take, if_pos, Array.getElem?_toList, Nat.zero_add]
    · simp [World.cell?, hg]
    · have : (i + 1) * sz ≤ l.length * sz := Nat.mul_le_mul_right _ hi
      rw [Nat.succ_mul] at this
      omega
end
end Go.Proofs.Ytklgfnboadchmaa
end

section
/- Own: the class of worlds in which one block is as in W: for a drawn region whose only call writes elsewhere. -/
namespace Go.Proofs.Ytklgfnboadchmaa
set_option linter.unusedVariables false

def LatH (W : World) (g : Nat) : Type := { w : World // w.heap[g]? = W.heap[g]? }
instance (W : World) (g : Nat) : Nonempty (LatH W g) := ⟨⟨W, rfl⟩⟩
def laterH (W : World) (g : Nat) (x : LatH W g) : World := x.1
@[go_sem] theorem laterH_cell (W : World) (g o : Nat) (s : Option Nat) (x : LatH W g) : (laterH W g x).cell? ⟨g, o, s⟩ = W.cell? ⟨g, o, s⟩ := World.cell?_of_block (w := W) x.2
theorem laterH_of {W : World} {g : Nat} {w : World} (h : w.heap[g]? = W.heap[g]?) : ∃ x : LatH W g, w = laterH W g x := ⟨⟨w, h⟩, rfl⟩

end Go.Proofs.Ytklgfnboadchmaa
end

section
/- Plain: numbers in bytes, the lowest byte first; no program in sight. -/
namespace Go.Proofs.Ytklgfnboadchmaa

def Byt (f : Nat → Int) : Prop := ∀ i, 0 ≤ f i ∧ f i ≤ 255
/-- The number of the m bytes from a on. -/
def getV (f : Nat → Int) (a : Nat) : Nat → Int
  | 0 => 0
  | k + 1 => getV f a k + f (a + k) * (256 : Int) ^ k
theorem getV_succ (f : Nat → Int) (a k : Nat) : getV f a (k + 1) = getV f a k + f (a + k) * (256 : Int) ^ k := rfl
theorem getV_zero (f : Nat → Int) (a : Nat) : getV f a 0 = 0 := rfl
theorem getV_bound {f : Nat → Int} (h : Byt f) (a : Nat) : ∀ k, 0 ≤ getV f a k ∧ getV f a k < (256 : Int) ^ k
  | 0 => by simp [getV]
  | k + 1 => by
    obtain ⟨h1, h2⟩ := getV_bound h a k
    obtain ⟨h3, h4⟩ := h (a + k)
    have hp : (0 : Int) < 256 ^ k := Int.pow_pos (by decide)
    have h5 : 0 ≤ f (a + k) * (256 : Int) ^ k := Int.mul_nonneg h3 (by omega)
    have h6 : f (a + k) * (256 : Int) ^ k ≤ 255 * (256 : Int) ^ k := Int.mul_le_mul_of_nonneg_right h4 (by omega)
    rw [getV_succ, Int.pow_succ]
    omega
/-- The bytes with a number's first m bytes from a on. -/
def putF (f : Nat → Int) (a m : Nat) (v : Int) : Nat → Int := fun i => if a ≤ i ∧ i < a + m then v / (256 : Int) ^ (i - a) % 256 else f i
theorem putF_byt {f : Nat → Int} (h : Byt f) (a m : Nat) (v : Int) : Byt (putF f a m v) := fun i => by
  unfold putF
  split
  · omega
  · exact h i
theorem putF_zero (f : Nat → Int) (a : Nat) (v : Int) : putF f a 0 v = f := by
  funext i
  unfold putF
  rw [if_neg (by omega)]
theorem putF_succ (f : Nat → Int) (a k : Nat) (v : Int) : putF f a (k + 1) v = fun i => if i = a + k then v / (256 : Int) ^ k % 256 else putF f a k v i := by
  funext i
  unfold putF
  by_cases e : i = a + k
  · subst e
    rw [if_pos (by omega), if_pos rfl, show a + k - a = k by omega]
  · rw [if_neg e]
    by_cases h : a ≤ i ∧ i < a + k
    · rw [if_pos (by omega), if_pos h]
    · rw [if_neg (by omega), if_neg h]

theorem or8 (v x : Int) (h1 : 0 ≤ v) (h2 : v < 256) (h3 : 0 ≤ x) (h4 : x ≤ 255) : bits .or .u32 v (x * 256) = v + x * 256 := by
  rw [u32_or v (x * 256) h1 (by omega) (by omega) (by omega), Nat.or_comm, nat_join 8 _ _ (by omega) (by omega)]
  omega
theorem or16 (v x : Int) (h1 : 0 ≤ v) (h2 : v < 65536) (h3 : 0 ≤ x) (h4 : x ≤ 255) : bits .or .u32 v (x * 65536) = v + x * 65536 := by
  rw [u32_or v (x * 65536) h1 (by omega) (by omega) (by omega), Nat.or_comm, nat_join 16 _ _ (by omega) (by omega)]
  omega
theorem or24 (v x : Int) (h1 : 0 ≤ v) (h2 : v < 16777216) (h3 : 0 ≤ x) (h4 : x ≤ 255) : bits .or .u32 v (x * 16777216) = v + x * 16777216 := by
  rw [u32_or v (x * 16777216) h1 (by omega) (by omega) (by omega), Nat.or_comm, nat_join 24 _ _ (by omega) (by omega)]
  omega
theorem or0 (x : Int) (h3 : 0 ≤ x) (h4 : x ≤ 255) : bits .or .u32 0 x = x := by
  rw [u32_or 0 x (by omega) (by omega) (by omega) (by omega)]
  simp
  omega

/-- What a number's place is: its bytes are all there. -/
def inP (n : Nat) (at' wd : Int) : Prop := (wd = 1 ∨ wd = 2 ∨ wd = 4) ∧ 0 ≤ at' ∧ at' ≤ n ∧ wd ≤ n - at'
instance (n : Nat) (at' wd : Int) : Decidable (inP n at' wd) := inferInstanceAs (Decidable (_ ∧ _))
theorem inP.nat {n : Nat} {at' wd : Int} (h : inP n at' wd) : ∃ a m : Nat, at' = a ∧ wd = m ∧ (m = 1 ∨ m = 2 ∨ m = 4) ∧ a + m ≤ n := by
  obtain ⟨h1, h2, h3, h4⟩ := h
  refine ⟨at'.toNat, wd.toNat, by omega, by omega, by omega, by omega⟩

/-- The highest bit in all bits above. -/
def signV (v wd : Int) : Int := if wd = 1 then (if 128 ≤ v % 256 then v % 256 + 4294967040 else v % 256) else if wd = 2 then (if 32768 ≤ v % 65536 then v % 65536 + 4294901760 else v % 65536) else v

/-- What is put is got. -/
theorem get_put1 (f : Nat → Int) (a : Nat) (v : Int) : getV (putF f a 1 v) a 1 = v % 256 := by
  simp [getV, putF]
theorem get_put2 (f : Nat → Int) (a : Nat) (v : Int) : getV (putF f a 2 v) a 2 = v % 65536 := by
  simp [getV, putF]
  omega
theorem get_put4 (f : Nat → Int) (a : Nat) (v : Int) (h0 : 0 ≤ v) (h1 : v < 4294967296) : getV (putF f a 4 v) a 4 = v := by
  simp [getV, putF]
  omega

end Go.Proofs.Ytklgfnboadchmaa
end

section
/- Contracts of octet and of its reference that only read. -/
namespace Go.Proofs.Ytklgfnboadchmaa
open Go.ChangeShapes Go.WideShapes Go.ChangeAt Go.RowKit
set_option linter.unusedVariables false

/-- n bytes lie in block b, from o on. -/
def BAt (w : World) (b o n : Nat) (f : Nat → Int) : Prop := HasYet w b ∧ (∀ i, i < n → w.cell? ⟨b, o + i, none⟩ = some (.int .u8 (f i))) ∧ Byt f
theorem BAt.below {w w' : World} {b o n : Nat} {f : Nat → Int} (h : BAt w b o n f) (hb : Below w.heap.size w w') : BAt w' b o n f :=
  ⟨Nat.lt_of_lt_of_le h.1 hb.size, fun i hi => (hb.cell (p := ⟨b, o + i, none⟩) h.1).trans (h.2.1 i hi), h.2.2⟩
theorem BAt.later {w : World} {b o n : Nat} {f : Nat → Int} {x : Lat w} (h : BAt w b o n f) : BAt (Proofs.Ytklgfnboadchmaa.later w x) b o n f := h.below (later_below w x)
theorem BAt.alloc {w : World} {b o n : Nat} {f : Nat → Int} {ob : Obj} (h : BAt w b o n f) : BAt (w.alloc ob) b o n f := h.below (Bel.refl w).alloc.1

theorem window_in (b o n c a m : Nat) (w : World) (hm : m = 1 ∨ m = 2 ∨ m = 4) (h : a + m ≤ n) (hc : n ≤ c) (hn : n ≤ 140737488355328) :
    Calls Try.prog 65 #[.slice (some ⟨b, o, none⟩) n c, .int .i64 a, .int .i64 m] w fun e w' => e = .returned (.tuple #[.slice (some ⟨b, o + a, none⟩) m m, .bool true]) ∧ w = w' := by
  have h1 : ¬ (a : Int) < 0 := by omega
  rcases hm with rfl | rfl | rfl
  all_goals
    go_enter Try.func65, Try.ntmps65
    go_wp2
    go_ret2
    exact ⟨rfl, rfl⟩

theorem window_out (p : Option Addr) (n c : Nat) (a m : Int) (w : World) (h : ¬ inP n a m) (hn : n ≤ 140737488355328) (hm : (Lit.int .i64 m).wf = true) :
    Calls Try.prog 65 #[.slice p n c, .int .i64 a, .int .i64 m] w fun e w' => e = .returned (.tuple #[.slice none 0 0, .bool false]) ∧ w = w' := by
  have bm := bounds_i64 hm
  obtain ⟨bm1, bm2⟩ := bm
  by_cases hw : m = 1 ∨ m = 2 ∨ m = 4
  · have hr : a < 0 ∨ (0 ≤ a ∧ (n : Int) < a) ∨ (0 ≤ a ∧ a ≤ n ∧ (n : Int) - a < m) := by
      unfold inP at h
      by_cases g1 : 0 ≤ a
      · by_cases g2 : a ≤ n
        · by_cases g3 : m ≤ (n : Int) - a
          · exact absurd ⟨hw, g1, g2, g3⟩ h
          · omega
        · omega
      · omega
    clear h hm
    rcases hw with rfl | rfl | rfl
    all_goals
      rcases hr with h1 | ⟨h1, h2⟩ | ⟨h1, h2, h3⟩
      all_goals
        go_enter Try.func65, Try.ntmps65
        go_wp2
        go_ret2
        exact ⟨rfl, rfl⟩
  · have e1 : (m != 1) = true := by simp; omega
    have e2 : (m != 2) = true := by simp; omega
    have e4 : (m != 4) = true := by simp; omega
    clear hw h hm
    go_enter Try.func65, Try.ntmps65
    go_wp2
    go_ret2
    exact ⟨rfl, rfl⟩

set_option maxHeartbeats 1000000 in
theorem gather_any (b o n a m : Nat) (f : Nat → Int) (w : World) (h : BAt w b o n f) (hm : m ≤ 4) (ha : a + m ≤ n) :
    Calls Try.prog 66 #[.slice (some ⟨b, o + a, none⟩) m m] w fun e w' => e = .returned (.int .u32 (getV f a m)) ∧ w = w' := by
  obtain ⟨hb, hc, hf⟩ := h
  go_enter Try.func66, Try.ntmps66
  go_wp2
  go_loop [3, 7] (fun v i => ∃ k : Nat, k ≤ m ∧ i = .int .i64 k ∧ v = .int .u32 (getV f a k)) (fun _ i => m - (intOf i).toNat)
  case atStart => exact ⟨0, Nat.zero_le _, rfl, rfl⟩
  case round =>
    obtain ⟨k, hk, rfl, rfl⟩ := hrel
    have bv := getV_bound hf a k
    by_cases hlt : k < m
    · have cx := hc (a + k) (by omega)
      rw [← Nat.add_assoc] at cx
      have bx := hf (a + k)
      have hs := getV_succ f a k
      obtain ⟨V, hV⟩ : ∃ V, getV f a k = V := ⟨_, rfl⟩
      obtain ⟨x, hx⟩ : ∃ x, f (a + k) = x := ⟨_, rfl⟩
      rw [hV] at bv hs ⊢
      rw [hx] at bx hs cx
      obtain ⟨bv0, bv1⟩ := bv
      obtain ⟨bx0, bx1⟩ := bx
      have H := Lib.hid hs
      clear hs hV hx hc hf
      have hk4 : k = 0 ∨ k = 1 ∨ k = 2 ∨ k = 3 := by omega
      rcases hk4 with rfl | rfl | rfl | rfl
      · obtain rfl : V = 0 := by simp at bv1; omega
        simp only [Nat.add_zero] at cx
        have ho := or0 x bx0 bx1
        go_wp2
        go_round
        case rel => exact ⟨1, by omega, rfl, by rw [H.out]; simp⟩
        case measure => simp [intOf]; omega
      · have bv2 : V < 256 := by simpa using bv1
        have ho := or8 V x bv0 bv2 bx0 bx1
        go_wp2
        go_round
        case rel => exact ⟨2, by omega, rfl, by rw [H.out]; simp⟩
        case measure => simp [intOf]; omega
      · have bv2 : V < 65536 := by simpa using bv1
        have ho := or16 V x bv0 bv2 bx0 bx1
        go_wp2
        go_round
        case rel => exact ⟨3, by omega, rfl, by rw [H.out]; simp⟩
        case measure => simp [intOf]; omega
      · have bv2 : V < 16777216 := by simpa using bv1
        have ho := or24 V x bv0 bv2 bx0 bx1
        go_wp2
        go_round
        case rel => exact ⟨4, by omega, rfl, by rw [H.out]; simp⟩
        case measure => simp [intOf]; omega
    · obtain rfl : k = m := by omega
      go_wp2
      go_ret
      exact ⟨rfl, rfl⟩

theorem get_in (b o n c a m : Nat) (f : Nat → Int) (w : World) (h : BAt w b o n f) (hm : m = 1 ∨ m = 2 ∨ m = 4) (ha : a + m ≤ n) (hc : n ≤ c) (hn : n ≤ 140737488355328) :
    Calls Try.prog 54 #[.slice (some ⟨b, o, none⟩) n c, .int .i64 a, .int .i64 m] w fun e w' => e = .returned (.tuple #[.int .u32 (getV f a m), .int .i64 0]) ∧ w = w' := by
  go_enter Try.func54, Try.ntmps54
  go_wp2_with (first
    | (go_at_call 65; refine (window_in b o n c a m _ hm ha hc hn).mono ?_; rintro e w' ⟨rfl, rfl⟩)
    | (go_at_call 66; refine (gather_any b o n a m f _ h (by omega) ha).mono ?_; rintro e w' ⟨rfl, rfl⟩))
  go_ret2
  exact ⟨rfl, rfl⟩
theorem get_out (p : Option Addr) (n c : Nat) (a m : Int) (w : World) (h : ¬ inP n a m) (hn : n ≤ 140737488355328) (hm : (Lit.int .i64 m).wf = true) :
    Calls Try.prog 54 #[.slice p n c, .int .i64 a, .int .i64 m] w fun e w' => e = .returned (.tuple #[.int .u32 0, .int .i64 1]) ∧ w = w' := by
  go_enter Try.func54, Try.ntmps54
  go_wp2_with (go_at_call 65; refine (window_out _ _ _ _ _ _ h hn hm).mono ?_; rintro e w' ⟨rfl, rfl⟩)
  go_ret2
  exact ⟨rfl, rfl⟩

theorem rin_in (p : Option Addr) (n c a m : Nat) (w : World) (hm : m = 1 ∨ m = 2 ∨ m = 4) (h : a + m ≤ n) (hn : n ≤ 140737488355328) :
    Calls Try.prog 72 #[.slice p n c, .int .i64 a, .int .i64 m] w fun e w' => e = .returned (.bool true) ∧ w = w' := by
  have h1 : (0 : Int) ≤ a := by omega
  have h2 : (a : Int) ≤ n := by omega
  rcases hm with rfl | rfl | rfl
  all_goals
    go_enter Try.func72, Try.ntmps72
    go_wp2
    go_ret
    exact ⟨ret_bool (by first | rfl | (simp; done) | (simp; omega)), rfl⟩
theorem rin_out (p : Option Addr) (n c : Nat) (a m : Int) (w : World) (h : ¬ inP n a m) (hn : n ≤ 140737488355328) (hm : (Lit.int .i64 m).wf = true) :
    Calls Try.prog 72 #[.slice p n c, .int .i64 a, .int .i64 m] w fun e w' => e = .returned (.bool false) ∧ w = w' := by
  have bm := bounds_i64 hm
  obtain ⟨bm1, bm2⟩ := bm
  by_cases hw : m = 1 ∨ m = 2 ∨ m = 4
  · have hr : a < 0 ∨ (0 ≤ a ∧ (n : Int) < a) ∨ (0 ≤ a ∧ a ≤ n ∧ (n : Int) - a < m) := by
      unfold inP at h
      by_cases g1 : 0 ≤ a
      · by_cases g2 : a ≤ n
        · by_cases g3 : m ≤ (n : Int) - a
          · exact absurd ⟨hw, g1, g2, g3⟩ h
          · omega
        · omega
      · omega
    clear h hm
    rcases hw with rfl | rfl | rfl
    all_goals
      rcases hr with h1 | ⟨h1, h2⟩ | ⟨h1, h2, h3⟩
      all_goals
        go_enter Try.func72, Try.ntmps72
        go_wp2
        go_ret
        exact ⟨ret_bool (by first | rfl | (simp; done) | (simp; omega)), rfl⟩
  · have e1 : (m != 1) = true := by simp; omega
    have e2 : (m != 2) = true := by simp; omega
    have e4 : (m != 4) = true := by simp; omega
    clear hw h hm
    go_enter Try.func72, Try.ntmps72
    go_wp2
    go_ret
    exact ⟨rfl, rfl⟩

end Go.Proofs.Ytklgfnboadchmaa
end

section
/- Contracts of octet and of its reference that write; the law package's awake. -/
namespace Go.Proofs.Ytklgfnboadchmaa
open Go.ChangeShapes Go.WideShapes Go.ChangeAt Go.RowKit
set_option linter.unusedVariables false

/-- A block of bytes of the call's own, of which the first n are these. -/
def RowAt (w : World) (g n : Nat) (f : Nat → Int) : Prop := ∃ cur : Array Value, w.heap[g]? = some (.cells cur 5 (0, 0)) ∧ (∀ i, i < n → cur[i]? = some (.int .u8 (f i))) ∧ Byt f
theorem RowAt.lt {w : World} {g n : Nat} {f : Nat → Int} (h : RowAt w g n f) : g < w.heap.size := let ⟨_, h, _⟩ := h; lt_heap h
theorem RowAt.cell {w : World} {g n : Nat} {f : Nat → Int} (h : RowAt w g n f) {i : Nat} (hi : i < n) : w.cell? ⟨g, i, none⟩ = some (.int .u8 (f i)) := by
  obtain ⟨cur, hg, hc, _⟩ := h
  rw [show w.cell? ⟨g, i, none⟩ = cur[i]? by simp [World.cell?, hg]]
  exact hc i hi
theorem RowAt.frozen {w : World} {g n : Nat} {f : Nat → Int} (h : RowAt w g n f) (i : Nat) : w.frozen? ⟨g, i, none⟩ = false := by
  obtain ⟨cur, hg, hc, _⟩ := h
  simp [World.frozen?, hg]
theorem RowAt.bat {w : World} {g n : Nat} {f : Nat → Int} (h : RowAt w g n f) : BAt w g 0 n f := ⟨h.lt, fun i hi => by rw [Nat.zero_add]; exact h.cell hi, let ⟨_, _, _, hf⟩ := h; hf⟩
theorem RowAt.below {w w' : World} {g n : Nat} {f : Nat → Int} (h : RowAt w g n f) (hb : Below w.heap.size w w') : RowAt w' g n f :=
  let ⟨cur, hg, hc⟩ := h; ⟨cur, (hb.block g (lt_heap hg)).trans hg, hc⟩
theorem RowAt.set {w : World} {g n : Nat} {f : Nat → Int} (h : RowAt w g n f) {k : Nat} (hk : k < n) (x : Int) (h0 : 0 ≤ x) (h1 : x ≤ 255) : RowAt (w.setCell ⟨g, k, none⟩ (.int .u8 x)) g n (fun i => if i = k then x else f i) := by
  obtain ⟨cur, hg, hc, hf⟩ := h
  have hks : k < cur.size := (Array.getElem?_eq_some_iff.1 (hc k hk)).1
  refine ⟨cur.setIfInBounds k (.int .u8 x), heap_setCell_at hg, fun i hi => ?_, fun i => ?_⟩
  · by_cases e : i = k
    · subst e; simp [hks]
    · simp only [if_neg e]; rw [Array.getElem?_setIfInBounds_ne (fun h => e h.symm)]; exact hc i hi
  · dsimp only
    split
    · exact ⟨h0, h1⟩
    · exact hf i

def bytesL (f : Nat → Int) (n : Nat) : List Value := (List.range n).map fun i => .int .u8 (f i)
theorem bytesL_length (f : Nat → Int) (n : Nat) : (bytesL f n).length = n * 1 := by simp [bytesL]
theorem bytesL_at (f : Nat → Int) (n i : Nat) (h : i < n) : (bytesL f n)[i]? = some (.int .u8 (f i)) := by simp [bytesL, h]
theorem bytesL_one (f : Nat → Int) (n : Nat) : ∀ u ∈ bytesL f n, u.oneCell' = true := by
  intro u hu
  simp only [bytesL, List.mem_map] at hu
  obtain ⟨i, _, rfl⟩ := hu
  rfl
theorem row_of_owned {w : World} {B n : Nat} {v : Value} {f : Nat → Int} (h : w.ownsRow B 5 1 v n (bytesL f n)) (hf : Byt f) :
    (∃ q c, v = .slice q n c) ∧ (1 ≤ n → ∃ g cap, v = .slice (some ⟨g, 0, none⟩) n cap ∧ n ≤ cap ∧ cap ≤ maxLen ∧ B ≤ g ∧ RowAt w g n f) := by
  rcases h.2 with ⟨rfl, rfl⟩ | ⟨g, cap, cur, rfl, hb, hg, hle, hm, hs, ht⟩
  · exact ⟨⟨none, 0, rfl⟩, fun h => absurd h (by omega)⟩
  · refine ⟨⟨_, cap, rfl⟩, fun _ => ⟨g, cap, rfl, hle, hm, hb, cur, hg, fun i hi => ?_, hf⟩⟩
    have f1 := bytesL_at f n i hi
    rw [← ht, List.getElem?_take, if_pos (by omega)] at f1
    rw [← Array.getElem?_toList]
    exact f1

/-- Bytes as a parameter, or another list, has them. -/
def SrcAt (w : World) (p : Option Addr) (n : Nat) (f : Nat → Int) : Prop := (p = none → n = 0) ∧ Byt f ∧ (1 ≤ n → ∃ b o, p = some ⟨b, o, none⟩ ∧ BAt w b o n f)
theorem SrcAt.below {w w' : World} {p : Option Addr} {n : Nat} {f : Nat → Int} (h : SrcAt w p n f) (hb : Below w.heap.size w w') : SrcAt w' p n f :=
  ⟨h.1, h.2.1, fun hn => let ⟨b, o, hp, hx⟩ := h.2.2 hn; ⟨b, o, hp, hx.below hb⟩⟩
theorem BAt.src {w : World} {b o n : Nat} {f : Nat → Int} (h : BAt w b o n f) : SrcAt w (some ⟨b, o, none⟩) n f := ⟨(fun h => by cases h), h.2.2, fun _ => ⟨b, o, rfl, h⟩⟩

theorem Try.infoByte : (Try.prog.info? 5).map (fun i => (i.zero, i.size, i.bytes)) = some (some (.int .u8 0), 1, 1) := by kernel_rfl

set_option maxHeartbeats 400000 in
theorem clone_any (p : Option Addr) (n c : Nat) (f : Nat → Int) (w : World) (h : SrcAt w p n f) (hn : n ≤ 140737488355328) :
    Calls Try.prog 67 #[.slice p n c] w fun e w' => ∃ v, e = .returned v ∧ Below w.heap.size w w' ∧ (∃ q c', v = .slice q n c') ∧ (1 ≤ n → ∃ g cap, v = .slice (some ⟨g, 0, none⟩) n cap ∧ n ≤ cap ∧ cap ≤ maxLen ∧ w.heap.size ≤ g ∧ RowAt w' g n f) := by
  obtain ⟨i0, hi, hz0, hz1, hz2⟩ := info_parts Try.infoByte
  have hnil := fun (wx : World) => Lib.run_eql_slice_nil (P := Try.prog) wx 45
  obtain ⟨hp, hf, hx⟩ := h
  cases p with
  | none =>
    have H0 := Lib.hid (hp rfl)
    clear hp hx hn
    go_enter Try.func67, Try.ntmps67
    go_wp2
    go_ret
    exact ⟨_, rfl, Below.refl _ _, ⟨none, 0, by rw [H0.out]; rfl⟩, fun h => absurd h (by rw [H0.out]; omega)⟩
  | some ad =>
    have hnews : ∀ j u, (bytesL f n)[j]? = some u → w.cell? (ad.add j) = some u := by
      intro j u hj
      have hjl : j < n := by have := (List.getElem?_eq_some_iff.1 hj).1; rwa [bytesL_length, Nat.mul_one] at this
      obtain ⟨b, o, he, hb⟩ := hx (by omega)
      cases he
      rw [bytesL_at f n j hjl] at hj
      cases hj
      rw [add_plain]
      exact hb.2.1 j hjl
    have hnews' : ∀ (ob : Obj) j u, (bytesL f n)[j]? = some u → (w.alloc ob).cell? (ad.add j) = some u := by
      intro ob j u hj
      have hjl : j < n := by have := (List.getElem?_eq_some_iff.1 hj).1; rwa [bytesL_length, Nat.mul_one] at this
      obtain ⟨b, o, he, hb⟩ := hx (by omega)
      cases he
      rw [bytesL_at f n j hjl] at hj
      cases hj
      rw [add_plain]
      exact hb.alloc.2.1 j hjl
    clear hx hp
    go_enter Try.func67, Try.ntmps67
    go_wp2_with (at_builtin; refine wpList_append_own _ rfl (.tmp 5) (.tmp 6) 45 rfl w.heap.size 5 i0 (.int .u8 0) 1 1 Try.underlying45 hi hz0 hz1 hz2 rfl (by decide) _ 0 [] rfl (World.ownsRow_made w #[] 0 (Nat.le_refl _) (Nat.zero_le _) rfl) ad n c (bytesL f n) rfl (bytesL_length f n) ?c1 (bytesL_one f n) ?c3 ?c4 (by simp) ?_)
    case c1 => first | exact hnews | exact hnews' _
    case c3 => unfold maxLen; omega
    case c4 => omega
    intro v' w1 hown hgrow _
    have ho := row_of_owned (n := n) (f := f) (by simpa using hown) hf
    have hb1 : Below w.heap.size w w1 := (Bel.upd (Bel.refl w).alloc (show Upd w.heap.size _ _ from hgrow) (Nat.le_refl _)).1
    go_wp2
    go_ret
    exact ⟨v', rfl, hb1, ho.1, ho.2⟩

set_option maxHeartbeats 1000000 in
theorem spread_any (g n a m : Nat) (v : Int) (f : Nat → Int) (w : World) (h : RowAt w g n f) (hm : m ≤ 4) (ha : a + m ≤ n) (h0 : 0 ≤ v) (h1 : v ≤ 4294967295) :
    Calls Try.prog 68 #[.slice (some ⟨g, a, none⟩) m m, .int .u32 v] w fun e w' => (∃ x, e = .returned x) ∧ Upd g w w' ∧ RowAt w' g n (putF f a m v) := by
  go_enter Try.func68, Try.ntmps68
  go_wp2
  go_loopw [7] (fun i wr => ∃ k : Nat, k ≤ m ∧ i = .int .i64 k ∧ Upd g w wr ∧ RowAt wr g n (putF f a k v)) (fun i _ => m - (intOf i).toNat)
  case atStart => exact ⟨0, Nat.zero_le _, rfl, Upd.refl _ _, by rw [putF_zero]; exact h⟩
  case round =>
    obtain ⟨k, hk, rfl, hu, hr⟩ := hrel
    by_cases hlt : k < m
    · have cx := hr.cell (i := a + k) (by omega)
      have cf := hr.frozen (a + k)
      have hset := hr.set (k := a + k) (by omega) (v / (256 : Int) ^ k % 256) (by omega) (by omega)
      rw [← putF_succ] at hset
      have H := Lib.hid hset
      clear hset hr h
      have hk4 : k = 0 ∨ k = 1 ∨ k = 2 ∨ k = 3 := by omega
      rcases hk4 with rfl | rfl | rfl | rfl
      · simp only [Nat.add_zero] at cx cf
        go_wp2
        go_roundw
        case rel => exact ⟨1, by omega, rfl, Upd.setCell hu, by simpa using H.out⟩
        case measure => simp [intOf]; omega
      · go_wp2
        go_roundw
        case rel => exact ⟨2, by omega, rfl, Upd.setCell hu, by simpa using H.out⟩
        case measure => simp [intOf]; omega
      · go_wp2
        go_roundw
        case rel => exact ⟨3, by omega, rfl, Upd.setCell hu, by simpa using H.out⟩
        case measure => simp [intOf]; omega
      · go_wp2
        go_roundw
        case rel =>
          have e : v / 16777216 % 256 = v / 16777216 := by omega
          have h := H.out
          simp [e] at h
          exact ⟨4, by omega, rfl, Upd.setCell hu, by simpa using h⟩
        case measure => simp [intOf]; omega
    · obtain rfl : k = m := by omega
      go_wp2
      go_end0
      exact ⟨⟨_, rfl⟩, hu, hr⟩

theorem put_in (b o n c a m : Nat) (v : Int) (f : Nat → Int) (w : World) (h : BAt w b o n f) (hm : m = 1 ∨ m = 2 ∨ m = 4) (ha : a + m ≤ n) (hn : n ≤ 140737488355328) (h0 : 0 ≤ v) (h1 : v ≤ 4294967295) :
    Calls Try.prog 57 #[.slice (some ⟨b, o, none⟩) n c, .int .i64 a, .int .i64 m, .int .u32 v] w fun e w' => ∃ g cap, e = .returned (.tuple #[.slice (some ⟨g, 0, none⟩) n cap, .int .i64 0]) ∧ n ≤ cap ∧ cap ≤ maxLen ∧ w.heap.size ≤ g ∧ RowAt w' g n (putF f a m v) ∧ Below w.heap.size w w' := by
  go_enter Try.func57, Try.ntmps57
  go_wp2_with fail
  refine (clone_any _ n c f _ h.src hn).mono ?_
  rintro e w1 ⟨v1, rfl, hb1, _, hg⟩
  obtain ⟨g, cap, rfl, hle, hcm, hgb, hrow⟩ := hg (by omega)
  go_wp2_with fail
  refine (window_in g 0 n cap a m _ hm ha hle hn).mono ?_
  rintro e w' ⟨rfl, rfl⟩
  go_wp2_with fail
  refine (spread_any g n a m v f _ hrow (by omega) ha h0 h1).mono ?_
  rintro e w2 ⟨⟨x, rfl⟩, hu, hr2⟩
  go_wp2_with fail
  go_ret2
  exact ⟨g, cap, rfl, hle, hcm, hgb, hr2, (Bel.upd (Bel.of (Bel.refl w) hb1) hu hgb).1⟩

theorem put_out (p : Option Addr) (n c : Nat) (a m v : Int) (f : Nat → Int) (w : World) (hs : SrcAt w p n f) (h : ¬ inP n a m) (hn : n ≤ 140737488355328) (hm : (Lit.int .i64 m).wf = true) :
    Calls Try.prog 57 #[.slice p n c, .int .i64 a, .int .i64 m, .int .u32 v] w fun e w' => e = .returned (.tuple #[.slice none 0 0, .int .i64 1]) ∧ Below w.heap.size w w' := by
  go_enter Try.func57, Try.ntmps57
  go_wp2_with fail
  refine (clone_any _ n c f _ hs hn).mono ?_
  rintro e w1 ⟨v1, rfl, hb1, ⟨q, c', rfl⟩, _⟩
  go_wp2_with fail
  refine (window_out _ _ _ _ _ _ h hn hm).mono ?_
  rintro e w' ⟨rfl, rfl⟩
  go_wp2_with fail
  go_ret2
  exact ⟨rfl, hb1⟩

end Go.Proofs.Ytklgfnboadchmaa
end

section
/- The reference's Put. -/
namespace Go.Proofs.Ytklgfnboadchmaa
open Go.ChangeShapes Go.WideShapes Go.ChangeAt Go.RowKit
set_option linter.unusedVariables false

set_option maxRecDepth 20000 in
set_option maxHeartbeats 1000000 in
theorem rput_in (b o n c a m : Nat) (v : Int) (f : Nat → Int) (w : World) (h : BAt w b o n f) (hm : m = 1 ∨ m = 2 ∨ m = 4) (ha : a + m ≤ n) (hn : n ≤ 140737488355328) (h0 : 0 ≤ v) (h1 : v ≤ 4294967295) :
    Calls Try.prog 64 #[.slice (some ⟨b, o, none⟩) n c, .int .i64 a, .int .i64 m, .int .u32 v] w fun e w' => ∃ g cap, e = .returned (.tuple #[.slice (some ⟨g, 0, none⟩) n cap, .int .i64 0]) ∧ n ≤ cap ∧ cap ≤ maxLen ∧ w.heap.size ≤ g ∧ RowAt w' g n (putF f a m v) ∧ Below w.heap.size w w' := by
  obtain ⟨i0, hi, hz0, hz1, hz2⟩ := info_parts Try.infoByte
  have hnews : ∀ j u, (bytesL f n)[j]? = some u → w.cell? ((⟨b, o, none⟩ : Addr).add j) = some u := by
    intro j u hj
    have hjl : j < n := by have := (List.getElem?_eq_some_iff.1 hj).1; rwa [bytesL_length, Nat.mul_one] at this
    rw [bytesL_at f n j hjl] at hj
    cases hj
    rw [add_plain]
    exact h.2.1 j hjl
  go_enter Try.func64, Try.ntmps64
  go_wp2_with (first
    | (go_at_call 72; refine (rin_in _ n c a m _ hm ha hn).mono ?_; rintro e w' ⟨rfl, rfl⟩)
    | (at_builtin; refine wpList_append_own _ rfl (.tmp 17) (.tmp 18) 45 rfl w.heap.size 5 i0 (.int .u8 0) 1 1 Try.underlying45 hi hz0 hz1 hz2 rfl (by decide) _ 0 [] rfl (World.ownsRow_made w #[] 0 (Nat.le_refl _) (Nat.zero_le _) rfl) ⟨b, o, none⟩ n c (bytesL f n) rfl (bytesL_length f n) ?c1 (bytesL_one f n) ?c3 ?c4 (by simp) ?_))
  case c1 => first | exact hnews | (intro j u hj; have := hnews j u hj; simpa using this) | (intro j u hj; rw [alloc_old_cell _ _ _ (by rw [add_plain]; exact h.1)]; exact hnews j u hj)
  case c3 => unfold maxLen; omega
  case c4 => omega
  intro v' w1 hown hgrow _
  have ho := row_of_owned (n := n) (f := f) (by simpa using hown) h.2.2
  have hb1 : Below w.heap.size w w1 := (Bel.upd (Bel.refl w).alloc (show Upd w.heap.size _ _ from hgrow) (Nat.le_refl _)).1
  obtain ⟨g, cap, rfl, hle, hcm, hgb, hrow⟩ := ho.2 (by omega)
  clear hown hgrow ho hnews
  have hf := h.2.2
  clear h
  go_wp2
  go_loopw [11] (fun i wr => ∃ k : Nat, k ≤ m ∧ i = .int .i64 k ∧ Upd g w1 wr ∧ RowAt wr g n (putF f a k v)) (fun i _ => m - (intOf i).toNat)
  case atStart => exact ⟨0, Nat.zero_le _, rfl, Upd.refl _ _, by rw [putF_zero]; exact hrow⟩
  case round =>
    obtain ⟨k, hk, rfl, hu, hr⟩ := hrel
    by_cases hlt : k < m
    · have cx := hr.cell (i := a + k) (by omega)
      have cf := hr.frozen (a + k)
      have hset := hr.set (k := a + k) (by omega) (v / (256 : Int) ^ k % 256) (by omega) (by omega)
      rw [← putF_succ] at hset
      have H := Lib.hid hset
      have hk4 : k = 0 ∨ k = 1 ∨ k = 2 ∨ k = 3 := by omega
      clear hset hr hrow hm
      rcases hk4 with rfl | rfl | rfl | rfl
      · simp only [Nat.add_zero] at cx cf
        go_wp2
        go_roundw
        case rel => exact ⟨1, by omega, rfl, Upd.setCell hu, by simpa using H.out⟩
        case measure => simp [intOf]; omega
      · go_wp2
        go_roundw
        case rel => exact ⟨2, by omega, rfl, Upd.setCell hu, by simpa using H.out⟩
        case measure => simp [intOf]; omega
      · go_wp2
        go_roundw
        case rel => exact ⟨3, by omega, rfl, Upd.setCell hu, by simpa using H.out⟩
        case measure => simp [intOf]; omega
      · go_wp2
        go_roundw
        case rel =>
          have e : v / 16777216 % 256 = v / 16777216 := by omega
          have h := H.out
          simp [e] at h
          exact ⟨4, by omega, rfl, Upd.setCell hu, by simpa using h⟩
        case measure => simp [intOf]; omega
    · obtain rfl : k = m := by omega
      clear hm
      go_wp2
      go_ret2
      exact ⟨g, cap, rfl, hle, hcm, hgb, hr, (Bel.upd (Bel.of (Bel.refl w) hb1) hu hgb).1⟩

theorem rput_out (p : Option Addr) (n c : Nat) (a m v : Int) (w : World) (h : ¬ inP n a m) (hn : n ≤ 140737488355328) (hm : (Lit.int .i64 m).wf = true) :
    Calls Try.prog 64 #[.slice p n c, .int .i64 a, .int .i64 m, .int .u32 v] w fun e w' => e = .returned (.tuple #[.slice none 0 0, .int .i64 1]) ∧ w = w' := by
  go_enter Try.func64, Try.ntmps64
  go_wp2_with (go_at_call 72; refine (rin_out _ _ _ _ _ _ h hn hm).mono ?_; rintro e w' ⟨rfl, rfl⟩)
  go_ret2
  exact ⟨rfl, rfl⟩

end Go.Proofs.Ytklgfnboadchmaa
end

section
/- Contracts at an object that nobody made: nil, or of zero values ((*hermitage/frames.Store)). -/
namespace Go.Proofs.Ytklgfnboadchmaa
open Go.ChangeShapes Go.WideShapes Go.ChangeAt Go.RowKit
set_option linter.unusedVariables false
set_option maxRecDepth 20000

def ZeroAt (w : World) (p : Option Addr) : Prop := p = none ∨ ∃ b, p = some ⟨b, 0, none⟩ ∧ w.cell? ⟨b, 1, none⟩ = some (.bool false)
theorem ZeroAt.nil (w : World) : ZeroAt w none := .inl rfl
theorem ZeroAt.below {w w' : World} {p : Option Addr} (h : ZeroAt w p) (hb : Below w.heap.size w w') : ZeroAt w' p := by
  rcases h with rfl | ⟨b, rfl, hc⟩
  · exact .inl rfl
  · exact .inr ⟨b, rfl, (hb.cell (p := ⟨b, 1, none⟩) (block_lt_of_cell hc)).trans hc⟩
theorem ZeroAt.later {w : World} {p : Option Addr} {x : Lat w} (h : ZeroAt w p) : ZeroAt (Proofs.Ytklgfnboadchmaa.later w x) p := h.below (later_below w x)
theorem ZeroAt.alloc {w : World} {p : Option Addr} {o : Obj} (h : ZeroAt w p) : ZeroAt (w.alloc o) p := h.below (Bel.refl w).alloc.1

theorem z_none (p : Option Addr)  (w : World) (h : ZeroAt w p) : Calls Try.prog 43 #[.pointer p] w fun e w' => e = .returned (.bool true) ∧ Below w.heap.size w w' := by
  rcases h with rfl | ⟨b, rfl, hc⟩
  all_goals
    go_enter Try.func43, Try.ntmps43
    go_wp2
    first | go_ret | go_ret2
    exact ⟨rfl, (by refine (?_ : Bel _ _ _).1; repeat (first | exact hbel | exact Bel.refl _ | apply Bel.later | apply Bel.alloc | apply Bel.drew | (refine Bel.laterB ?_ (by first | exact Nat.le_refl _ | omega | (simp; omega) | simp)) | (refine Bel.setCell ?_ (by first | exact Nat.le_refl _ | omega | (simp; omega) | simp))))⟩

theorem z_may (p : Option Addr) (n : Int) (w : World) (h : ZeroAt w p) : Calls Try.prog 52 #[.pointer p, .int .i64 n] w fun e w' => e = .returned (.int .i64 7) ∧ Below w.heap.size w w' := by
  go_enter Try.func52, Try.ntmps52
  go_wp2_with (first | (go_at_call 43; refine (Calls.lat (z_none _ _ (by repeat (first | exact h | apply ZeroAt.alloc | apply ZeroAt.later)))).mono ?_; rintro e w' ⟨rfl, x, rfl⟩))
  first | (go_ret; exact ⟨rfl, (by refine (?_ : Bel _ _ _).1; repeat (first | exact hbel | exact Bel.refl _ | apply Bel.later | apply Bel.alloc | apply Bel.drew | (refine Bel.laterB ?_ (by first | exact Nat.le_refl _ | omega | (simp; omega) | simp)) | (refine Bel.setCell ?_ (by first | exact Nat.le_refl _ | omega | (simp; omega) | simp))))⟩) | (go_ret2; exact ⟨rfl, (by refine (?_ : Bel _ _ _).1; repeat (first | exact hbel | exact Bel.refl _ | apply Bel.later | apply Bel.alloc | apply Bel.drew | (refine Bel.laterB ?_ (by first | exact Nat.le_refl _ | omega | (simp; omega) | simp)) | (refine Bel.setCell ?_ (by first | exact Nat.le_refl _ | omega | (simp; omega) | simp))))⟩) | exact bodyPost_ret (v := .int .i64 7) (by simp [results, Try.results52, go_sem]) rfl ⟨rfl, (by refine (?_ : Bel _ _ _).1; repeat (first | exact hbel | exact Bel.refl _ | apply Bel.later | apply Bel.alloc | apply Bel.drew | (refine Bel.laterB ?_ (by first | exact Nat.le_refl _ | omega | (simp; omega) | simp)) | (refine Bel.setCell ?_ (by first | exact Nat.le_refl _ | omega | (simp; omega) | simp))))⟩

theorem z_Load (p : Option Addr) (n : Int) (o : Int) (q : Int) (w : World) (h : ZeroAt w p) : Calls Try.prog 22 #[.pointer p, .int .i64 n, .int .i64 o, .int .i64 q] w fun e w' => e = .returned (.tuple #[.int .u32 0, .int .i64 7]) ∧ Below w.heap.size w w' := by
  go_enter Try.func22, Try.ntmps22
  go_wp2_with (first | (go_at_call 52; refine (Calls.lat (z_may _ _ _ (by repeat (first | exact h | apply ZeroAt.alloc | apply ZeroAt.later)))).mono ?_; rintro e w' ⟨rfl, x, rfl⟩))
  first | (go_ret; exact ⟨rfl, (by refine (?_ : Bel _ _ _).1; repeat (first | exact hbel | exact Bel.refl _ | apply Bel.later | apply Bel.alloc | apply Bel.drew | (refine Bel.laterB ?_ (by first | exact Nat.le_refl _ | omega | (simp; omega) | simp)) | (refine Bel.setCell ?_ (by first | exact Nat.le_refl _ | omega | (simp; omega) | simp))))⟩) | (go_ret2; exact ⟨rfl, (by refine (?_ : Bel _ _ _).1; repeat (first | exact hbel | exact Bel.refl _ | apply Bel.later | apply Bel.alloc | apply Bel.drew | (refine Bel.laterB ?_ (by first | exact Nat.le_refl _ | omega | (simp; omega) | simp)) | (refine Bel.setCell ?_ (by first | exact Nat.le_refl _ | omega | (simp; omega) | simp))))⟩) | exact bodyPost_ret (v := .tuple #[.int .u32 0, .int .i64 7]) (by simp [results, Try.results22, go_sem]) rfl ⟨rfl, (by refine (?_ : Bel _ _ _).1; repeat (first | exact hbel | exact Bel.refl _ | apply Bel.later | apply Bel.alloc | apply Bel.drew | (refine Bel.laterB ?_ (by first | exact Nat.le_refl _ | omega | (simp; omega) | simp)) | (refine Bel.setCell ?_ (by first | exact Nat.le_refl _ | omega | (simp; omega) | simp))))⟩

theorem z_Save (p : Option Addr) (n : Int) (o : Int) (q : Int) (v : Int) (w : World) (h : ZeroAt w p) : Calls Try.prog 24 #[.pointer p, .int .i64 n, .int .i64 o, .int .i64 q, .int .u32 v] w fun e w' => e = .returned (.int .i64 7) ∧ Below w.heap.size w w' := by
  go_enter Try.func24, Try.ntmps24
  go_wp2_with (first | (go_at_call 52; refine (Calls.lat (z_may _ _ _ (by repeat (first | exact h | apply ZeroAt.alloc | apply ZeroAt.later)))).mono ?_; rintro e w' ⟨rfl, x, rfl⟩))
  first | (go_ret; exact ⟨rfl, (by refine (?_ : Bel _ _ _).1; repeat (first | exact hbel | exact Bel.refl _ | apply Bel.later | apply Bel.alloc | apply Bel.drew | (refine Bel.laterB ?_ (by first | exact Nat.le_refl _ | omega | (simp; omega) | simp)) | (refine Bel.setCell ?_ (by first | exact Nat.le_refl _ | omega | (simp; omega) | simp))))⟩) | (go_ret2; exact ⟨rfl, (by refine (?_ : Bel _ _ _).1; repeat (first | exact hbel | exact Bel.refl _ | apply Bel.later | apply Bel.alloc | apply Bel.drew | (refine Bel.laterB ?_ (by first | exact Nat.le_refl _ | omega | (simp; omega) | simp)) | (refine Bel.setCell ?_ (by first | exact Nat.le_refl _ | omega | (simp; omega) | simp))))⟩) | exact bodyPost_ret (v := .int .i64 7) (by simp [results, Try.results24, go_sem]) rfl ⟨rfl, (by refine (?_ : Bel _ _ _).1; repeat (first | exact hbel | exact Bel.refl _ | apply Bel.later | apply Bel.alloc | apply Bel.drew | (refine Bel.laterB ?_ (by first | exact Nat.le_refl _ | omega | (simp; omega) | simp)) | (refine Bel.setCell ?_ (by first | exact Nat.le_refl _ | omega | (simp; omega) | simp))))⟩

theorem z_Clear (p : Option Addr) (n : Int) (w : World) (h : ZeroAt w p) : Calls Try.prog 70 #[.pointer p, .int .i64 n] w fun e w' => e = .returned (.int .i64 7) ∧ Below w.heap.size w w' := by
  go_enter Try.func70, Try.ntmps70
  go_wp2_with (first | (go_at_call 52; refine (Calls.lat (z_may _ _ _ (by repeat (first | exact h | apply ZeroAt.alloc | apply ZeroAt.later)))).mono ?_; rintro e w' ⟨rfl, x, rfl⟩))
  first | (go_ret; exact ⟨rfl, (by refine (?_ : Bel _ _ _).1; repeat (first | exact hbel | exact Bel.refl _ | apply Bel.later | apply Bel.alloc | apply Bel.drew | (refine Bel.laterB ?_ (by first | exact Nat.le_refl _ | omega | (simp; omega) | simp)) | (refine Bel.setCell ?_ (by first | exact Nat.le_refl _ | omega | (simp; omega) | simp))))⟩) | (go_ret2; exact ⟨rfl, (by refine (?_ : Bel _ _ _).1; repeat (first | exact hbel | exact Bel.refl _ | apply Bel.later | apply Bel.alloc | apply Bel.drew | (refine Bel.laterB ?_ (by first | exact Nat.le_refl _ | omega | (simp; omega) | simp)) | (refine Bel.setCell ?_ (by first | exact Nat.le_refl _ | omega | (simp; omega) | simp))))⟩) | exact bodyPost_ret (v := .int .i64 7) (by simp [results, Try.results70, go_sem]) rfl ⟨rfl, (by refine (?_ : Bel _ _ _).1; repeat (first | exact hbel | exact Bel.refl _ | apply Bel.later | apply Bel.alloc | apply Bel.drew | (refine Bel.laterB ?_ (by first | exact Nat.le_refl _ | omega | (simp; omega) | simp)) | (refine Bel.setCell ?_ (by first | exact Nat.le_refl _ | omega | (simp; omega) | simp))))⟩

theorem z_Bytes (p : Option Addr) (n : Int) (w : World) (h : ZeroAt w p) : Calls Try.prog 18 #[.pointer p, .int .i64 n] w fun e w' => e = .returned (.tuple #[.slice none 0 0, .int .i64 7]) ∧ Below w.heap.size w w' := by
  go_enter Try.func18, Try.ntmps18
  go_wp2_with (first | (go_at_call 52; refine (Calls.lat (z_may _ _ _ (by repeat (first | exact h | apply ZeroAt.alloc | apply ZeroAt.later)))).mono ?_; rintro e w' ⟨rfl, x, rfl⟩))
  first | (go_ret; exact ⟨rfl, (by refine (?_ : Bel _ _ _).1; repeat (first | exact hbel | exact Bel.refl _ | apply Bel.later | apply Bel.alloc | apply Bel.drew | (refine Bel.laterB ?_ (by first | exact Nat.le_refl _ | omega | (simp; omega) | simp)) | (refine Bel.setCell ?_ (by first | exact Nat.le_refl _ | omega | (simp; omega) | simp))))⟩) | (go_ret2; exact ⟨rfl, (by refine (?_ : Bel _ _ _).1; repeat (first | exact hbel | exact Bel.refl _ | apply Bel.later | apply Bel.alloc | apply Bel.drew | (refine Bel.laterB ?_ (by first | exact Nat.le_refl _ | omega | (simp; omega) | simp)) | (refine Bel.setCell ?_ (by first | exact Nat.le_refl _ | omega | (simp; omega) | simp))))⟩) | exact bodyPost_ret (v := .tuple #[.slice none 0 0, .int .i64 7]) (by simp [results, Try.results18, go_sem]) rfl ⟨rfl, (by refine (?_ : Bel _ _ _).1; repeat (first | exact hbel | exact Bel.refl _ | apply Bel.later | apply Bel.alloc | apply Bel.drew | (refine Bel.laterB ?_ (by first | exact Nat.le_refl _ | omega | (simp; omega) | simp)) | (refine Bel.setCell ?_ (by first | exact Nat.le_refl _ | omega | (simp; omega) | simp))))⟩

theorem z_Len (p : Option Addr)  (w : World) (h : ZeroAt w p) : Calls Try.prog 13 #[.pointer p] w fun e w' => e = .returned (.int .i64 0) ∧ Below w.heap.size w w' := by
  go_enter Try.func13, Try.ntmps13
  go_wp2_with (first | (go_at_call 43; refine (Calls.lat (z_none _ _ (by repeat (first | exact h | apply ZeroAt.alloc | apply ZeroAt.later)))).mono ?_; rintro e w' ⟨rfl, x, rfl⟩))
  first | (go_ret; exact ⟨rfl, (by refine (?_ : Bel _ _ _).1; repeat (first | exact hbel | exact Bel.refl _ | apply Bel.later | apply Bel.alloc | apply Bel.drew | (refine Bel.laterB ?_ (by first | exact Nat.le_refl _ | omega | (simp; omega) | simp)) | (refine Bel.setCell ?_ (by first | exact Nat.le_refl _ | omega | (simp; omega) | simp))))⟩) | (go_ret2; exact ⟨rfl, (by refine (?_ : Bel _ _ _).1; repeat (first | exact hbel | exact Bel.refl _ | apply Bel.later | apply Bel.alloc | apply Bel.drew | (refine Bel.laterB ?_ (by first | exact Nat.le_refl _ | omega | (simp; omega) | simp)) | (refine Bel.setCell ?_ (by first | exact Nat.le_refl _ | omega | (simp; omega) | simp))))⟩) | exact bodyPost_ret (v := .int .i64 0) (by simp [results, Try.results13, go_sem]) rfl ⟨rfl, (by refine (?_ : Bel _ _ _).1; repeat (first | exact hbel | exact Bel.refl _ | apply Bel.later | apply Bel.alloc | apply Bel.drew | (refine Bel.laterB ?_ (by first | exact Nat.le_refl _ | omega | (simp; omega) | simp)) | (refine Bel.setCell ?_ (by first | exact Nat.le_refl _ | omega | (simp; omega) | simp))))⟩

theorem z_Clean (p : Option Addr) (n : Int) (w : World) (h : ZeroAt w p) : Calls Try.prog 25 #[.pointer p, .int .i64 n] w fun e w' => e = .returned (.bool false) ∧ Below w.heap.size w w' := by
  go_enter Try.func25, Try.ntmps25
  go_wp2_with (first | (go_at_call 52; refine (Calls.lat (z_may _ _ _ (by repeat (first | exact h | apply ZeroAt.alloc | apply ZeroAt.later)))).mono ?_; rintro e w' ⟨rfl, x, rfl⟩))
  first | (go_ret; exact ⟨rfl, (by refine (?_ : Bel _ _ _).1; repeat (first | exact hbel | exact Bel.refl _ | apply Bel.later | apply Bel.alloc | apply Bel.drew | (refine Bel.laterB ?_ (by first | exact Nat.le_refl _ | omega | (simp; omega) | simp)) | (refine Bel.setCell ?_ (by first | exact Nat.le_refl _ | omega | (simp; omega) | simp))))⟩) | (go_ret2; exact ⟨rfl, (by refine (?_ : Bel _ _ _).1; repeat (first | exact hbel | exact Bel.refl _ | apply Bel.later | apply Bel.alloc | apply Bel.drew | (refine Bel.laterB ?_ (by first | exact Nat.le_refl _ | omega | (simp; omega) | simp)) | (refine Bel.setCell ?_ (by first | exact Nat.le_refl _ | omega | (simp; omega) | simp))))⟩) | exact bodyPost_ret (v := .bool false) (by simp [results, Try.results25, go_sem]) rfl ⟨rfl, (by refine (?_ : Bel _ _ _).1; repeat (first | exact hbel | exact Bel.refl _ | apply Bel.later | apply Bel.alloc | apply Bel.drew | (refine Bel.laterB ?_ (by first | exact Nat.le_refl _ | omega | (simp; omega) | simp)) | (refine Bel.setCell ?_ (by first | exact Nat.le_refl _ | omega | (simp; omega) | simp))))⟩


end Go.Proofs.Ytklgfnboadchmaa
end

section
/- The reference's store of frames: New. -/
namespace Go.Proofs.Ytklgfnboadchmaa
open Go.ChangeShapes Go.WideShapes Go.ChangeAt Go.RowKit
set_option linter.unusedVariables false
set_option maxRecDepth 20000

theorem Try.infoRow : (Try.prog.info? 45).map (fun i => (i.zero, i.size, i.bytes)) = some (some (.slice none 0 0), 1, 24) := by kernel_rfl
theorem ownsRow_otherC {w : World} {B n size b : Nat} {e : TypeId} {v u : Value} {xs : List Value} {a : Addr} (h : w.ownsRow B e size v n xs) (ha : a.block < B) : (w.setCell a u).ownsRow B e size v n xs := by
  refine ⟨h.1, ?_⟩
  rcases h.2 with hn | ⟨g, cap, cur, hv, hb, hg, hr⟩
  · exact .inl hn
  · exact .inr ⟨g, cap, cur, hv, hb, heap_setCell_ne hg (by omega), hr⟩
def zeros64 : Array Value := Array.replicate 64 (.int .u8 0)

set_option maxRecDepth 100000 in
set_option maxHeartbeats 1000000 in
theorem rnew_any (n : Nat) (w : World) (hn : n ≤ 32) :
    Calls Try.prog 27 #[.int .i64 n] w fun e w' => ∃ t, e = .returned (.tuple #[.pointer (some ⟨t, 0, none⟩), .int .i64 0]) ∧ Below w.heap.size w w' := by
  obtain ⟨i0, hi, hz0, hz1, hz2⟩ := info_parts Try.infoRow
  have hmk : ∀ w : World, (Instr.makeSlice 45 (.int .i64 64) (.int .i64 64)).run Try.prog w = .ok (.slice (some ⟨w.heap.size, 0, none⟩) 64 64) (w.alloc (.cells zeros64 5)) := fun _ => by kernel_rfl
  have hn' : (n : Int) ≤ 32 := by omega
  go_enter Try.func27, Try.ntmps27
  go_wp2
  go_loopw [5] (fun i wr => ∃ (k : Nat) (v : Value) (xs : List Value), k ≤ n ∧ i = .int .i64 k ∧ Bel w.heap.size w wr ∧ wr.heap[w.heap.size]? = some (.cells #[v] 56 (0, 0)) ∧ wr.ownsRow (w.heap.size + 1) 45 1 v k xs) (fun i _ => n - (intOf i).toNat)
  case atStart => exact ⟨0, .slice none 0 0, [], Nat.zero_le _, rfl, (Bel.refl w).alloc, Go.heap_alloc_new w _, World.ownsRow_nil _ _ _ _⟩
  case round =>
    obtain ⟨k, v, xs, hk, rfl, hbel, hR, hown⟩ := hrel
    have hsz : w.heap.size + 1 ≤ wr.heap.size := lt_heap hR
    have hsz0 : w.heap.size < wr.heap.size := hsz
    have hsz1 : w.heap.size < wr.heap.size + 1 := by omega
    by_cases hlt : k < n
    · have q0 : wr.cell? ⟨w.heap.size, 0, none⟩ = some v := by simp [World.cell?, hR]
      have q1 : wr.frozen? ⟨w.heap.size, 0, none⟩ = false := by simp [World.frozen?, hR]
      have hown2 := (hown.drew.alloc (.cells zeros64 5)).alloc (.cells #[.slice (some ⟨wr.heap.size, 0, none⟩) 64 64] 45)
      have hnb : ((wr.alloc (.cells zeros64 5)).alloc (.cells #[.slice (some ⟨wr.heap.size, 0, none⟩) 64 64] 45)).heap[wr.heap.size + 1]? = some (.cells #[.slice (some ⟨wr.heap.size, 0, none⟩) 64 64] 45 (0, 0)) := by
        have := Go.heap_alloc_new (wr.alloc (.cells zeros64 5)) (.cells #[.slice (some ⟨wr.heap.size, 0, none⟩) 64 64] 45)
        rw [show (wr.alloc (.cells zeros64 5)).heap.size = wr.heap.size + 1 from by simp] at this
        exact this
      have hne : some w.heap.size ≠ v.ownBlock := fun h => by have := (hown.lt _ h.symm).1; omega
      have hbel2 : Bel w.heap.size w _ := (hbel.alloc (o := .cells zeros64 5)).alloc (o := .cells #[.slice (some ⟨wr.heap.size, 0, none⟩) 64 64] 45) |>.drew
      go_wp2
      go_region_law ((refine step_append_lies _ (by rfl) _ _ _ (by rfl) (w.heap.size + 1) 45 i0 _ 1 24 Try.underlying54 hi hz0 hz1 hz2 rfl (by omega) v k xs (by rfl) hown2 ⟨wr.heap.size + 1, 0, none⟩ 1 1 [.slice (some ⟨wr.heap.size, 0, none⟩) 64 64] (by rfl) (by rfl) (World.news_of_block (cs := #[.slice (some ⟨wr.heap.size, 0, none⟩) 64 64]) (t := 45) (fr := (0, 0)) hnb) (by simp [Value.oneCell']) (by omega) (by unfold maxLen; omega) (by omega) (by simp; omega) (wr.heap.size + 2) (by simp) ?_; intro g cap w1 hown1 hgrow hat hlt1; have hR1 : w1.heap[w.heap.size]? = some (.cells #[v] 56 (0, 0)) := (hgrow.block w.heap.size (by simp; omega) hne).trans (heap_alloc (heap_alloc hR)); have r0 : w1.cell? ⟨w.heap.size, 0, none⟩ = some v := (by simp [World.cell?, hR1]); have r1 : w1.frozen? ⟨w.heap.size, 0, none⟩ = false := (by simp [World.frozen?, hR1])))
      all_goals
        go_wp2
        go_roundw
        case rel => exact ⟨k + 1, _, _, by omega, by go_num, Bel.setCell ⟨hbel2.1.grown hgrow hbel2.2 (fun q hq => by have := (hown.lt q hq).1; omega), Nat.le_trans hbel2.2 hgrow.size⟩ (Nat.le_refl _), heap_setCell_at (o := 0) hR1, ownsRow_otherC (b := 0) hown1 (by simp)⟩
        case measure => simp [intOf]; omega
    · obtain rfl : k = n := by omega
      go_wp2
      go_ret2
      exact ⟨_, rfl, hbel.1⟩

end Go.Proofs.Ytklgfnboadchmaa
end

section
/- The walk of hermitagelaw30.OnewayZero: true at every input. -/
namespace Go.Proofs.Ytklgfnboadchmaa
open Go.ChangeShapes Go.WideShapes Go.ChangeAt Go.RowKit
set_option linter.unusedVariables false
set_option maxRecDepth 20000

/-- A store of n frames that a call made. -/
def MadeAt (w : World) (p : Option Addr) (n : Nat) : Prop := ∃ s q c, p = some ⟨s, 0, none⟩ ∧ w.cell? ⟨s, 0, none⟩ = some (.slice q n c) ∧ w.cell? ⟨s, 1, none⟩ = some (.bool true)
theorem MadeAt.below {w w' : World} {p : Option Addr} {n : Nat} (h : MadeAt w p n) (hb : Below w.heap.size w w') : MadeAt w' p n :=
  let ⟨s, q, c, hp, h0, h1⟩ := h
  ⟨s, q, c, hp, (hb.cell (p := ⟨s, 0, none⟩) (block_lt_of_cell h0)).trans h0, (hb.cell (p := ⟨s, 1, none⟩) (block_lt_of_cell h1)).trans h1⟩

theorem Try.infoFrame : (Try.prog.info? 101).map (fun i => (i.zero, i.size, i.bytes)) = some (some (.agg (Array.replicate 64 (.int .u8 0))), 64, 64) := by kernel_rfl

set_option maxHeartbeats 1000000 in
theorem fnew_any (n : Nat) (w : World) (hn : n ≤ 32) :
    Calls Try.prog 26 #[.int .i64 n] w fun e w' => ∃ s, e = .returned (.tuple #[.pointer (some ⟨s, 0, none⟩), .int .i64 0]) ∧ MadeAt w' (some ⟨s, 0, none⟩) n ∧ Below w.heap.size w w' := by
  obtain ⟨i0, hi, hz0, hz1, hz2⟩ := info_parts Try.infoFrame
  have hn' : (n : Int) ≤ 32 := by omega
  go_enter Try.func26, Try.ntmps26
  go_wp2_with (first | (at_make; refine wpList_make_full _ rfl (.tmp 10) (.tmp 10) 93 rfl w.heap.size 101 i0 (.agg (Array.replicate 64 (.int .u8 0))) 64 Try.underlying93 hi hz0 hz1 _ _ _ _ n rfl rfl (by omega) (by omega) (by rw [hz2]; omega) (by unfold maxLen; omega) (Nat.le_refl _) ?_) | go_in)
  intro w1 hown hgrow
  have hb1 : Below w.heap.size w w1 := ⟨hgrow.os, hgrow.tape, hgrow.output, hgrow.size, fun i hi => hgrow.block i hi (by simp)⟩
  clear hown hgrow
  go_wp2
  go_ret2
  all_goals exact ⟨w1.heap.size, rfl, ⟨w1.heap.size, some ⟨w.heap.size, 0, none⟩, n, rfl, by simp [go_sem], by simp [go_sem]⟩, (Bel.of (Bel.refl w) hb1).alloc.1⟩

theorem none_made (p : Option Addr) (n : Nat) (w : World) (h : MadeAt w p n) : Calls Try.prog 43 #[.pointer p] w fun e w' => e = .returned (.bool false) ∧ Below w.heap.size w w' := by
  obtain ⟨s, q, c, rfl, h0, h1⟩ := h
  go_enter Try.func43, Try.ntmps43
  go_wp2
  go_ret
  exact ⟨rfl, Below.refl _ _⟩
theorem may_out (p : Option Addr) (n : Nat) (f : Int) (w : World) (h : MadeAt w p n) (hf : f < 0 ∨ (n : Int) ≤ f) : Calls Try.prog 52 #[.pointer p, .int .i64 f] w fun e w' => e = .returned (.int .i64 1) ∧ Below w.heap.size w w' := by
  have hnn : (0 : Int) ≤ n := Int.natCast_nonneg _
  have hf' : f < 0 ∨ (¬ f < 0 ∧ (n : Int) ≤ f) := by omega
  have h2 := h
  obtain ⟨s, q, c, rfl, h0, h1⟩ := h
  clear hf
  rcases hf' with hf | ⟨hf, hf2⟩
  all_goals
    go_enter Try.func52, Try.ntmps52
    go_wp2_with fail
    refine (Calls.lat (none_made _ _ _ h2)).mono ?_
    rintro e w' ⟨rfl, x, rfl⟩
    have hls : s < w.heap.size := block_lt_of_cell h0
    go_wp2
    go_ret
    exact ⟨rfl, (by refine (?_ : Bel _ _ _).1; repeat (first | exact hbel | exact Bel.refl _ | apply Bel.later | apply Bel.alloc | apply Bel.drew | (refine Bel.laterB ?_ (by first | exact Nat.le_refl _ | omega | (simp; omega) | simp)) | (refine Bel.setCell ?_ (by first | exact Nat.le_refl _ | omega | (simp; omega) | simp))))⟩

/-- Why a frame can't be read: 7 or 1. -/
def Bad (w : World) (p : Option Addr) (f E : Int) : Prop := (E = 7 ∨ E = 1) ∧ ∀ w', Below w.heap.size w w' → Calls Try.prog 52 #[.pointer p, .int .i64 f] w' fun e w'' => e = .returned (.int .i64 E) ∧ Below w'.heap.size w' w''
theorem bad_nil (w : World) (f : Int) : Bad w none f 7 := ⟨.inl rfl, fun w' _ => z_may none f w' (ZeroAt.nil _)⟩
theorem bad_out {w : World} {p : Option Addr} {n : Nat} {f : Int} (h : MadeAt w p n) (hf : f < 0 ∨ (n : Int) ≤ f) : Bad w p f 1 := ⟨.inr rfl, fun w' hb => may_out p n f w' (h.below hb) hf⟩
theorem Bad.below {w w' : World} {p : Option Addr} {f E : Int} (h : Bad w p f E) (hb : Below w.heap.size w w') : Bad w' p f E := ⟨h.1, fun w'' hb' => h.2 w'' (hb.trans (hb'.mono hb.size))⟩

theorem load_bad (p : Option Addr) (f o k E : Int) (w : World) (h : Bad w p f E) : Calls Try.prog 22 #[.pointer p, .int .i64 f, .int .i64 o, .int .i64 k] w fun e w' => e = .returned (.tuple #[.int .u32 0, .int .i64 E]) ∧ Below w.heap.size w w' := by
  obtain ⟨hE, hc⟩ := h
  rcases hE with rfl | rfl
  all_goals
    go_enter Try.func22, Try.ntmps22
    go_wp2_with fail
    refine (Calls.lat (hc _ (Below.refl _ _))).mono ?_
    rintro e w' ⟨rfl, x, rfl⟩
    go_wp2
    go_ret2
    exact ⟨rfl, (by refine (?_ : Bel _ _ _).1; repeat (first | exact hbel | exact Bel.refl _ | apply Bel.later | apply Bel.alloc | apply Bel.drew | (refine Bel.laterB ?_ (by first | exact Nat.le_refl _ | omega | (simp; omega) | simp)) | (refine Bel.setCell ?_ (by first | exact Nat.le_refl _ | omega | (simp; omega) | simp))))⟩
end Go.Proofs.Ytklgfnboadchmaa
end

section
/- Contracts of the store of frames, in bounds: what only reads. -/
namespace Go.Proofs.Ytklgfnboadchmaa
open Go.ChangeShapes Go.WideShapes Go.ChangeAt Go.RowKit
set_option linter.unusedVariables false
set_option maxRecDepth 20000

theorem types_ne {w : World} {a b : Nat} {c1 c2 : Array Value} {t1 t2 : TypeId} {f1 f2 : Nat × Nat} (ha : w.heap[a]? = some (.cells c1 t1 f1)) (hb : w.heap[b]? = some (.cells c2 t2 f2)) (ht : t1 ≠ t2) : a ≠ b := by
  rintro rfl
  rw [ha] at hb
  cases hb
  exact ht rfl

/-- A store of n frames lies in block s, its bytes in block fb. -/
def StoAt (w : World) (s fb n : Nat) (G : Nat → Int) : Prop :=
  n ≤ 32 ∧ w.heap[s]? = some (.cells #[.slice (some ⟨fb, 0, none⟩) n n, .bool true] 95 (0, 0)) ∧
  (∃ cur : Array Value, w.heap[fb]? = some (.cells cur 101 (0, 0)) ∧ cur.size = n * 64 ∧ ∀ i, i < n * 64 → cur[i]? = some (.int .u8 (G i))) ∧ Byt G
theorem StoAt.ne {w : World} {s fb n : Nat} {G : Nat → Int} (h : StoAt w s fb n G) : s ≠ fb := let ⟨_, h1, ⟨_, h2, _⟩, _⟩ := h; types_ne h1 h2 (by decide)
theorem StoAt.below {w w' : World} {s fb n : Nat} {G : Nat → Int} (h : StoAt w s fb n G) (hb : Below w.heap.size w w') : StoAt w' s fb n G :=
  let ⟨hn, h1, ⟨cur, h2, h3⟩, h4⟩ := h
  ⟨hn, (hb.block s (lt_heap h1)).trans h1, ⟨cur, (hb.block fb (lt_heap h2)).trans h2, h3⟩, h4⟩
theorem StoAt.later {w : World} {s fb n : Nat} {G : Nat → Int} {x : Lat w} (h : StoAt w s fb n G) : StoAt (Proofs.Ytklgfnboadchmaa.later w x) s fb n G := h.below (later_below w x)
theorem StoAt.alloc {w : World} {s fb n : Nat} {G : Nat → Int} {o : Obj} (h : StoAt w s fb n G) : StoAt (w.alloc o) s fb n G := h.below (Bel.refl w).alloc.1
theorem StoAt.drew {w : World} {s fb n : Nat} {G : Nat → Int} (h : StoAt w s fb n G) : StoAt w.drew s fb n G := h
theorem StoAt.upd {w w' : World} {s fb n b : Nat} {G : Nat → Int} (h : StoAt w s fb n G) (hu : Upd b w w') (h1 : s ≠ b) (h2 : fb ≠ b) : StoAt w' s fb n G :=
  let ⟨hn, q1, ⟨cur, q2, q3⟩, q4⟩ := h
  ⟨hn, heap_upd q1 hu h1, ⟨cur, heap_upd q2 hu h2, q3⟩, q4⟩
theorem StoAt.cell0 {w : World} {s fb n : Nat} {G : Nat → Int} (h : StoAt w s fb n G) : w.cell? ⟨s, 0, none⟩ = some (.slice (some ⟨fb, 0, none⟩) n n) := by
  obtain ⟨_, h1, _⟩ := h
  simp [World.cell?, h1]
theorem StoAt.cell1 {w : World} {s fb n : Nat} {G : Nat → Int} (h : StoAt w s fb n G) : w.cell? ⟨s, 1, none⟩ = some (.bool true) := by
  obtain ⟨_, h1, _⟩ := h
  simp [World.cell?, h1]
theorem StoAt.made {w : World} {s fb n : Nat} {G : Nat → Int} (h : StoAt w s fb n G) : MadeAt w (some ⟨s, 0, none⟩) n := ⟨s, _, _, rfl, h.cell0, h.cell1⟩
theorem StoAt.lt {w : World} {s fb n : Nat} {G : Nat → Int} (h : StoAt w s fb n G) : s < w.heap.size := let ⟨_, h1, _⟩ := h; lt_heap h1
theorem StoAt.ltb {w : World} {s fb n : Nat} {G : Nat → Int} (h : StoAt w s fb n G) : fb < w.heap.size := let ⟨_, _, ⟨_, h1, _⟩, _⟩ := h; lt_heap h1

/-- A frame's bytes, of all bytes. -/
def fr (G : Nat → Int) (f : Nat) : Nat → Int := fun i => G (f * 64 + i)
theorem fr_byt {G : Nat → Int} (h : Byt G) (f : Nat) : Byt (fr G f) := fun i => h _
theorem StoAt.bat {w : World} {s fb n : Nat} {G : Nat → Int} (h : StoAt w s fb n G) {f : Nat} (hf : f < n) : BAt w fb (f * 64) 64 (fr G f) := by
  obtain ⟨_, _, ⟨cur, h1, h2, h3⟩, h4⟩ := h
  refine ⟨lt_heap h1, fun i hi => ?_, fr_byt h4 f⟩
  have hlt : f * 64 + i < n * 64 := by
    have : (f + 1) * 64 ≤ n * 64 := Nat.mul_le_mul_right _ hf
    omega
  rw [show w.cell? ⟨fb, f * 64 + i, none⟩ = cur[f * 64 + i]? by simp [World.cell?, h1]]
  exact h3 _ hlt

theorem may_in (s fb n f : Nat) (G : Nat → Int) (w : World) (h : StoAt w s fb n G) (hf : f < n) : Calls Try.prog 52 #[.pointer (some ⟨s, 0, none⟩), .int .i64 f] w fun e w' => e = .returned (.int .i64 0) ∧ Below w.heap.size w w' := by
  have hm := h.made
  have h0 := h.cell0
  have hl := h.lt
  have hn1 : ¬ (f : Int) < 0 := by omega
  have hn2 : ¬ (n : Int) ≤ f := by omega
  clear h
  go_enter Try.func52, Try.ntmps52
  go_wp2_with fail
  refine (Calls.lat (none_made _ _ _ hm)).mono ?_
  rintro e w' ⟨rfl, x, rfl⟩
  clear hm
  go_wp2
  go_ret
  exact ⟨rfl, (by refine (?_ : Bel _ _ _).1; repeat (first | exact hbel | exact Bel.refl _ | apply Bel.later | apply Bel.alloc | apply Bel.drew | (refine Bel.laterB ?_ (by first | exact Nat.le_refl _ | omega | (simp; omega) | simp)) | (refine Bel.setCell ?_ (by first | exact Nat.le_refl _ | omega | (simp; omega) | simp))))⟩

theorem len_of (s fb n : Nat) (G : Nat → Int) (w : World) (h : StoAt w s fb n G) : Calls Try.prog 13 #[.pointer (some ⟨s, 0, none⟩)] w fun e w' => e = .returned (.int .i64 n) ∧ Below w.heap.size w w' := by
  have hm := h.made
  have h0 := h.cell0
  have hl := h.lt
  clear h
  go_enter Try.func13, Try.ntmps13
  go_wp2_with fail
  refine (Calls.lat (none_made _ _ _ hm)).mono ?_
  rintro e w' ⟨rfl, x, rfl⟩
  clear hm
  go_wp2
  go_ret
  exact ⟨rfl, (by refine (?_ : Bel _ _ _).1; repeat (first | exact hbel | exact Bel.refl _ | apply Bel.later | apply Bel.alloc | apply Bel.drew | (refine Bel.laterB ?_ (by first | exact Nat.le_refl _ | omega | (simp; omega) | simp)) | (refine Bel.setCell ?_ (by first | exact Nat.le_refl _ | omega | (simp; omega) | simp))))⟩

theorem load_in (s fb n f a m : Nat) (G : Nat → Int) (w : World) (h : StoAt w s fb n G) (hf : f < n) (hm : m = 1 ∨ m = 2 ∨ m = 4) (ha : a + m ≤ 64) : Calls Try.prog 22 #[.pointer (some ⟨s, 0, none⟩), .int .i64 f, .int .i64 a, .int .i64 m] w fun e w' => e = .returned (.tuple #[.int .u32 (getV (fr G f) a m), .int .i64 0]) ∧ Below w.heap.size w w' := by
  have h0 := h.cell0
  have hl := h.lt
  have hn1 : ¬ (f : Int) < 0 := by omega
  have hn2 : (f : Int) < n := by omega
  go_enter Try.func22, Try.ntmps22
  go_wp2_with fail
  refine (Calls.lat (may_in _ _ _ _ _ _ h hf)).mono ?_
  rintro e w' ⟨rfl, x, rfl⟩
  go_wp2_with fail
  refine (get_in fb (f * 64) 64 64 a m _ _ (h.later.bat hf) hm ha (by omega) (by omega)).mono ?_
  rintro e w' ⟨rfl, rfl⟩
  go_wp2_with fail
  go_ret2
  exact ⟨rfl, (by refine (?_ : Bel _ _ _).1; repeat (first | exact hbel | exact Bel.refl _ | apply Bel.later | apply Bel.alloc | apply Bel.drew | (refine Bel.laterB ?_ (by first | exact Nat.le_refl _ | omega | (simp; omega) | simp)) | (refine Bel.setCell ?_ (by first | exact Nat.le_refl _ | omega | (simp; omega) | simp))))⟩

theorem load_out (s fb n f : Nat) (a m : Int) (G : Nat → Int) (w : World) (h : StoAt w s fb n G) (hf : f < n) (hi : ¬ inP 64 a m) (hm : (Lit.int .i64 m).wf = true) : Calls Try.prog 22 #[.pointer (some ⟨s, 0, none⟩), .int .i64 f, .int .i64 a, .int .i64 m] w fun e w' => e = .returned (.tuple #[.int .u32 0, .int .i64 1]) ∧ Below w.heap.size w w' := by
  have h0 := h.cell0
  have hl := h.lt
  have hn1 : ¬ (f : Int) < 0 := by omega
  have hn2 : (f : Int) < n := by omega
  go_enter Try.func22, Try.ntmps22
  go_wp2_with fail
  refine (Calls.lat (may_in _ _ _ _ _ _ h hf)).mono ?_
  rintro e w' ⟨rfl, x, rfl⟩
  go_wp2_with fail
  refine (get_out _ _ _ _ _ _ hi (by omega) hm).mono ?_
  rintro e w' ⟨rfl, rfl⟩
  go_wp2_with fail
  go_ret2
  exact ⟨rfl, (by refine (?_ : Bel _ _ _).1; repeat (first | exact hbel | exact Bel.refl _ | apply Bel.later | apply Bel.alloc | apply Bel.drew | (refine Bel.laterB ?_ (by first | exact Nat.le_refl _ | omega | (simp; omega) | simp)) | (refine Bel.setCell ?_ (by first | exact Nat.le_refl _ | omega | (simp; omega) | simp))))⟩

end Go.Proofs.Ytklgfnboadchmaa
end

section
/- Contracts of the store of frames, in bounds: what writes, copies and compares; New. -/
namespace Go.Proofs.Ytklgfnboadchmaa
open Go.ChangeShapes Go.WideShapes Go.ChangeAt Go.RowKit
set_option linter.unusedVariables false
set_option maxRecDepth 20000

theorem setRow_upd {w : World} {g : Nat} {cs : Array Value} : Upd g w (w.setRow g cs) := ⟨rfl, rfl, rfl, by simp [World.setRow], fun k _ hne => setRow_other w g k cs (by rintro rfl; exact hne rfl)⟩

theorem putF_fr (G : Nat → Int) (f a m : Nat) (v : Int) : putF (fr G f) a m v = fr (putF G (f * 64 + a) m v) f := by
  funext i
  unfold putF fr
  dsimp only
  by_cases h : a ≤ i ∧ i < a + m
  · rw [if_pos h, if_pos (by omega), show f * 64 + i - (f * 64 + a) = i - a by omega]
  · rw [if_neg h, if_neg (by omega)]
theorem fr_other (G : Nat → Int) (f k a m : Nat) (v : Int) (h : a + m ≤ 64) (hk : k ≠ f) (i : Nat) (hi : i < 64) : putF G (f * 64 + a) m v (k * 64 + i) = G (k * 64 + i) := by
  unfold putF
  rw [if_neg (by omega)]

/-- The array behind a piece of its was laid anew. -/
theorem splice_at {cur : List Value} {off : Nat} {cs : List Value} (h : off + cs.length ≤ cur.length) (i : Nat) :
    (cur.take off ++ (cs ++ cur.drop (off + cs.length)))[i]? = if off ≤ i ∧ i < off + cs.length then cs[i - off]? else cur[i]? := by
  by_cases h1 : i < off
  · rw [List.getElem?_append_left (by simp; omega), List.getElem?_take, if_pos h1, if_neg (by omega)]
  · rw [List.getElem?_append_right (by simp; omega), List.length_take, Nat.min_eq_left (by omega)]
    by_cases h2 : i < off + cs.length
    · rw [List.getElem?_append_left (by omega), if_pos (by omega)]
    · rw [List.getElem?_append_right (by omega), List.getElem?_drop, if_neg (by omega), show off + cs.length + (i - off - cs.length) = i by omega]

theorem StoAt.setRow {w : World} {s fb n f : Nat} {G G' : Nat → Int} {cur : Array Value} (h : StoAt w s fb n G) (hc : w.heap[fb]? = some (.cells cur 101 (0, 0))) (hf : f < n) (hb : Byt G')
    (ho : ∀ i, i < n * 64 → ¬ (f * 64 ≤ i ∧ i < f * 64 + 64) → G' i = G i) :
    StoAt (w.setRow fb (cur.toList.take (f * 64) ++ (bytesL (fr G' f) 64 ++ cur.toList.drop (f * 64 + (bytesL (fr G' f) 64).length))).toArray) s fb n G' := by
  have hne := h.ne
  obtain ⟨hn, h1, ⟨cur', h2, h3, h4⟩, h5⟩ := h
  rw [hc] at h2
  cases h2
  have hlen : (bytesL (fr G' f) 64).length = 64 := by simp [bytesL]
  have hf64 : f * 64 + 64 ≤ n * 64 := by
    have : (f + 1) * 64 ≤ n * 64 := Nat.mul_le_mul_right _ hf
    omega
  refine ⟨hn, (setRow_other w fb s _ hne).trans h1, ⟨_, setRow_heap w fb _ _ _ _ hc, ?_, fun i hi => ?_⟩, hb⟩
  · simp [hlen, h3]; omega
  · rw [← Array.getElem?_toList, List.toList_toArray, splice_at (by rw [hlen]; simp [h3]; omega), hlen]
    by_cases hin : f * 64 ≤ i ∧ i < f * 64 + 64
    · rw [if_pos hin, bytesL_at _ _ _ (by omega)]
      unfold fr
      rw [show f * 64 + (i - f * 64) = i by omega]
    · rw [if_neg hin, Array.getElem?_toList, h4 i hi, ho i hi hin]

theorem Try.byteSize : (Try.prog.info? 5).map (·.size) = some 1 := by kernel_rfl
theorem Try.frameSize : (Try.prog.info? 101).map (·.size) = some 64 := by kernel_rfl

set_option maxHeartbeats 1000000 in
theorem save_in (s fb n f a m : Nat) (v : Int) (G : Nat → Int) (w : World) (h : StoAt w s fb n G) (hf : f < n) (hm : m = 1 ∨ m = 2 ∨ m = 4) (ha : a + m ≤ 64) (h0 : 0 ≤ v) (h1 : v ≤ 4294967295) :
    Calls Try.prog 24 #[.pointer (some ⟨s, 0, none⟩), .int .i64 f, .int .i64 a, .int .i64 m, .int .u32 v] w fun e w' => e = .returned (.int .i64 0) ∧ Upd fb w w' ∧ StoAt w' s fb n (putF G (f * 64 + a) m v) := by
  have c0 := h.cell0
  have hl := h.lt
  have hn1 : ¬ (f : Int) < 0 := by omega
  have hn2 : (f : Int) < n := by omega
  go_enter Try.func24, Try.ntmps24
  go_wp2_with fail
  refine (Calls.lat (may_in _ _ _ _ _ _ h hf)).mono ?_
  rintro e w' ⟨rfl, x, rfl⟩
  go_wp2_with fail
  refine (put_in fb (f * 64) 64 64 a m v _ _ (h.later.bat hf) hm ha (by omega) h0 h1).mono ?_
  rintro e w2 ⟨g, cap, rfl, hle, hcm, hgb, hrow, hb2⟩
  have hs2 := h.later.below hb2
  have hb : Upd fb w w2 := (Upd.of_below (later_below w x)).trans (.of_below hb2)
  rw [putF_fr] at hrow
  generalize hG' : putF G (f * 64 + a) m v = G' at *
  have hby : Byt G' := by rw [← hG']; exact putF_byt h.2.2.2 _ _ _
  have hother : ∀ i, i < n * 64 → ¬ (f * 64 ≤ i ∧ i < f * 64 + 64) → G' i = G i := by
    intro i hi hn
    rw [← hG']
    unfold putF
    rw [if_neg (by omega)]
  have d0 := hs2.cell0
  obtain ⟨cur, hc, hcs, _⟩ := hs2.2.2.1
  have hset := hs2.setRow hc hf hby hother
  have hsrc : ∀ j u, (bytesL (fr G' f) 64)[j]? = some u → w2.cell? ((⟨g, 0, none⟩ : Addr).add j) = some u := by
    intro j u hj
    have hjl : j < 64 := by have := (List.getElem?_eq_some_iff.1 hj).1; rwa [bytesL_length, Nat.mul_one] at this
    rw [bytesL_at _ 64 j hjl] at hj
    cases hj
    rw [add_plain, Nat.zero_add]
    exact hrow.cell hjl
  have hfit : f * 64 + (bytesL (fr G' f) 64).length ≤ cur.size := by
    have : (f + 1) * 64 ≤ n * 64 := Nat.mul_le_mul_right _ hf
    rw [bytesL_length, hcs]; omega
  have hcsl : (bytesL (fr G' f) 64).length = Nat.min 64 64 := by rw [bytesL_length]; rfl
  have h1c := bytesL_one (fr G' f) 64
  have HG := Lib.hid hG'
  clear h hm hG' hother hcs
  generalize bytesL (fr G' f) 64 = cs at *
  rw [show cs.length = 64 from hcsl] at hset
  go_wp2_with (refine wpList_copy_own rfl (.tmp 43) (.tmp 44) 45 45 rfl 5 Try.underlying45 Try.byteSize fb (f * 64) 64 64 ⟨g, 0, none⟩ 64 cap rfl rfl cur 101 hc cs hcsl hsrc hfit h1c ?_)
  go_wp2
  go_ret
  rw [HG.out]
  exact ⟨rfl, hb.trans setRow_upd, hset⟩

theorem save_out (s fb n f : Nat) (a m v : Int) (G : Nat → Int) (w : World) (h : StoAt w s fb n G) (hf : f < n) (hi : ¬ inP 64 a m) (hm : (Lit.int .i64 m).wf = true) :
    Calls Try.prog 24 #[.pointer (some ⟨s, 0, none⟩), .int .i64 f, .int .i64 a, .int .i64 m, .int .u32 v] w fun e w' => e = .returned (.int .i64 1) ∧ Below w.heap.size w w' := by
  have c0 := h.cell0
  have hl := h.lt
  have hn1 : ¬ (f : Int) < 0 := by omega
  have hn2 : (f : Int) < n := by omega
  go_enter Try.func24, Try.ntmps24
  go_wp2_with fail
  refine (Calls.lat (may_in _ _ _ _ _ _ h hf)).mono ?_
  rintro e w' ⟨rfl, x, rfl⟩
  go_wp2_with fail
  refine (Calls.lat (put_out _ _ _ _ _ _ _ _ (h.later.bat hf).src hi (by omega) hm)).mono ?_
  rintro e w' ⟨rfl, x2, rfl⟩
  go_wp2_with fail
  go_ret
  exact ⟨rfl, (by refine (?_ : Bel _ _ _).1; repeat (first | exact hbel | exact Bel.refl _ | apply Bel.later | apply Bel.alloc | apply Bel.drew | (refine Bel.laterB ?_ (by first | exact Nat.le_refl _ | omega | (simp; omega) | simp)) | (refine Bel.setCell ?_ (by first | exact Nat.le_refl _ | omega | (simp; omega) | simp))))⟩
theorem save_bad (p : Option Addr) (f o k v E : Int) (w : World) (h : Bad w p f E) : Calls Try.prog 24 #[.pointer p, .int .i64 f, .int .i64 o, .int .i64 k, .int .u32 v] w fun e w' => e = .returned (.int .i64 E) ∧ Below w.heap.size w w' := by
  obtain ⟨hE, hc⟩ := h
  rcases hE with rfl | rfl
  all_goals
    go_enter Try.func24, Try.ntmps24
    go_wp2_with fail
    refine (Calls.lat (hc _ (Below.refl _ _))).mono ?_
    rintro e w' ⟨rfl, x, rfl⟩
    go_wp2
    go_ret
    exact ⟨rfl, (by refine (?_ : Bel _ _ _).1; repeat (first | exact hbel | exact Bel.refl _ | apply Bel.later | apply Bel.alloc | apply Bel.drew | (refine Bel.laterB ?_ (by first | exact Nat.le_refl _ | omega | (simp; omega) | simp)) | (refine Bel.setCell ?_ (by first | exact Nat.le_refl _ | omega | (simp; omega) | simp))))⟩

end Go.Proofs.Ytklgfnboadchmaa
end

section
/- Contracts of the store of frames, in bounds: Clear, Bytes, Clean; New. -/
namespace Go.Proofs.Ytklgfnboadchmaa
open Go.ChangeShapes Go.WideShapes Go.ChangeAt Go.RowKit
set_option linter.unusedVariables false
set_option maxRecDepth 20000

theorem setCells_upd {b : Nat} : ∀ (vs : List Value) (o : Nat) (w : World), Upd b w (w.setCells b o vs)
  | [], _, w => Upd.refl b w
  | v :: r, o, w => by
    rw [World.setCells]
    exact (Upd.setCell (Upd.refl b w)).trans (setCells_upd r (o + 1) _)
theorem setCells_heap {b : Nat} {t : TypeId} {fr : Nat × Nat} : ∀ (vs : List Value) (o : Nat) (w : World) (cur : Array Value), w.heap[b]? = some (.cells cur t fr) → o + vs.length ≤ cur.size →
    ∃ cur', (w.setCells b o vs).heap[b]? = some (.cells cur' t fr) ∧ cur'.size = cur.size ∧ ∀ i, cur'[i]? = if o ≤ i ∧ i < o + vs.length then vs[i - o]? else cur[i]?
  | [], o, w, cur, h, _ => ⟨cur, h, rfl, fun i => by rw [if_neg (by simp <;> omega)]⟩
  | v :: r, o, w, cur, h, hl => by
    rw [World.setCells]
    simp only [List.length_cons] at hl
    obtain ⟨cur', h1, h2, h3⟩ := setCells_heap r (o + 1) (w.setCell ⟨b, o, none⟩ v) _ (heap_setCell_at (o := o) (u := v) h) (by simp; omega)
    refine ⟨cur', h1, by simpa using h2, fun i => ?_⟩
    rw [h3 i]
    simp only [List.length_cons]
    by_cases e : i = o
    · subst e
      rw [if_neg (by omega), if_pos (by omega), Nat.sub_self]
      simp [show i < cur.size by omega]
    · by_cases h4 : o + 1 ≤ i ∧ i < o + 1 + r.length
      · rw [if_pos h4, if_pos (by omega), show i - o = (i - (o + 1)) + 1 by omega, List.getElem?_cons_succ]
      · rw [if_neg h4, if_neg (by omega), Array.getElem?_setIfInBounds_ne (by omega)]

def zeros64L : List Value := List.replicate 64 (.int .u8 0)

theorem byt_putF {G : Nat → Int} (h : Byt G) (a m : Nat) (v : Int) : Byt (putF G a m v) := putF_byt h a m v

theorem StoAt.zeroed {w : World} {s fb n f : Nat} {G : Nat → Int} (h : StoAt w s fb n G) (hf : f < n) : StoAt (w.setCells fb (f * 64) zeros64L) s fb n (putF G (f * 64) 64 0) := by
  have hne := h.ne
  obtain ⟨hn, h1, ⟨cur, h2, h3, h4⟩, h5⟩ := h
  have hf64 : f * 64 + 64 ≤ n * 64 := by
    have : (f + 1) * 64 ≤ n * 64 := Nat.mul_le_mul_right _ hf
    omega
  obtain ⟨cur', q1, q2, q3⟩ := setCells_heap zeros64L (f * 64) w cur h2 (by rw [h3]; simp [zeros64L]; omega)
  refine ⟨hn, heap_upd h1 (setCells_upd _ _ _) hne, ⟨cur', q1, q2.trans h3, fun i hi => ?_⟩, byt_putF h5 _ _ _⟩
  rw [q3 i]
  unfold putF
  have hlen : zeros64L.length = 64 := by simp [zeros64L]
  rw [hlen]
  by_cases hin : f * 64 ≤ i ∧ i < f * 64 + 64
  · rw [if_pos hin, if_pos hin]
    simp only [zeros64L, List.getElem?_replicate]
    rw [if_pos (by omega)]
    simp
  · rw [if_neg hin, if_neg hin]
    exact h4 i hi

theorem StoAt.there {w : World} {s fb n f : Nat} {G : Nat → Int} (h : StoAt w s fb n G) (hf : f < n) : w.there fb (f * 64) 64 := by
  intro j hj
  refine ⟨by rw [(h.bat hf).2.1 j hj]; rfl, ?_⟩
  obtain ⟨_, _, ⟨cur, h2, _⟩, _⟩ := h
  simp [World.frozen?, h2]

theorem wpList_zero64 {P : Program} {ops : Array Oper} {rest : List Oper} {op : Oper} {a : Act} {w : World} {Q : Exit → Act → World → Prop} (hgd : op.guard = none) (ty : TypeId) (x y : Operand) (ho : op.op = .store ty x y)
    (b o : Nat) (hx : a.eval x = .pointer (some ⟨b, o, none⟩)) (hy : a.eval y = .agg zeros64L.toArray) (ht : w.there b o 64) (hi : (P.info? ty).map (·.size) = some 64)
    (h : wpList P ops Q rest (a.put op.dst undef) (w.setCells b o zeros64L)) : wpList P ops Q (op :: rest) a w :=
  wpList_store_mid hgd ty x y ho b o zeros64L.toArray hx hy (by simpa [zeros64L] using ht) (by simpa [zeros64L] using hi) (all_oneCell_toArray (by intro v hv; rw [List.eq_of_mem_replicate hv]; rfl)) h

set_option maxHeartbeats 1000000 in
theorem clear_in (s fb n f : Nat) (G : Nat → Int) (w : World) (h : StoAt w s fb n G) (hf : f < n) :
    Calls Try.prog 70 #[.pointer (some ⟨s, 0, none⟩), .int .i64 f] w fun e w' => e = .returned (.int .i64 0) ∧ Upd fb w w' ∧ StoAt w' s fb n (putF G (f * 64) 64 0) := by
  have c0 := h.cell0
  have hl := h.lt
  have hn1 : ¬ (f : Int) < 0 := by omega
  have hn2 : (f : Int) < n := by omega
  go_enter Try.func70, Try.ntmps70
  go_wp2_with fail
  refine (Calls.lat (may_in _ _ _ _ _ _ h hf)).mono ?_
  rintro e w' ⟨rfl, x, rfl⟩
  have hz := h.later (x := x) |>.zeroed hf
  have ht := h.later (x := x) |>.there hf
  have hb : Upd fb w (later w x) := Upd.of_below (later_below w x)
  clear h
  go_wp2_with (refine wpList_zero64 rfl 101 (.tmp 18) (.tmp 17) rfl fb (f * 64) rfl rfl ht Try.frameSize ?_)
  go_wp2
  go_ret
  exact ⟨rfl, hb.trans (setCells_upd _ _ _), hz⟩

set_option maxHeartbeats 1000000 in
theorem fbytes_in (s fb n f : Nat) (G : Nat → Int) (w : World) (h : StoAt w s fb n G) (hf : f < n) :
    Calls Try.prog 18 #[.pointer (some ⟨s, 0, none⟩), .int .i64 f] w fun e w' => ∃ g, e = .returned (.tuple #[.slice (some ⟨g, 0, none⟩) 64 64, .int .i64 0]) ∧ w.heap.size ≤ g ∧ RowAt w' g 64 (fr G f) ∧ Below w.heap.size w w' := by
  have c0 := h.cell0
  have hl := h.lt
  have hn1 : ¬ (f : Int) < 0 := by omega
  have hn2 : (f : Int) < n := by omega
  have hmk : ∀ w : World, (Instr.makeSlice 45 (.int .i64 64) (.int .i64 64)).run Try.prog w = .ok (.slice (some ⟨w.heap.size, 0, none⟩) 64 64) (w.alloc (.cells zeros64L.toArray 5)) := fun _ => by kernel_rfl
  go_enter Try.func18, Try.ntmps18
  go_wp2_with fail
  refine (Calls.lat (may_in _ _ _ _ _ _ h hf)).mono ?_
  rintro e w' ⟨rfl, x, rfl⟩
  have hb := h.later (x := x) |>.alloc (o := .cells zeros64L.toArray 5) |>.bat hf
  have hby := fr_byt h.2.2.2 f
  have hsrc : ∀ j u, (bytesL (fr G f) 64)[j]? = some u → ((later w x).alloc (.cells zeros64L.toArray 5)).cell? ((⟨fb, f * 64, none⟩ : Addr).add j) = some u := by
    intro j u hj
    have hjl : j < 64 := by have := (List.getElem?_eq_some_iff.1 hj).1; rwa [bytesL_length, Nat.mul_one] at this
    rw [bytesL_at _ 64 j hjl] at hj
    cases hj
    rw [add_plain]
    exact hb.2.1 j hjl
  have hg := Go.heap_alloc_new (later w x) (.cells zeros64L.toArray 5)
  have hcsl : (bytesL (fr G f) 64).length = Nat.min 64 64 := by rw [bytesL_length]; rfl
  have h1c := bytesL_one (fr G f) 64
  have hat := bytesL_at (fr G f) 64
  have hsz : w.heap.size ≤ (later w x).heap.size := later_size w x
  have hbel : Bel w.heap.size w ((later w x).alloc (.cells zeros64L.toArray 5)) := (Bel.refl w).later.alloc
  clear h hb
  generalize bytesL (fr G f) 64 = cs at *
  have hfit : 0 + cs.length ≤ zeros64L.toArray.size := by rw [hcsl]; simp [zeros64L]
  have hpost : RowAt (((later w x).alloc (.cells zeros64L.toArray 5)).setRow (later w x).heap.size (zeros64L.toArray.toList.take 0 ++ (cs ++ zeros64L.toArray.toList.drop (0 + cs.length))).toArray) (later w x).heap.size 64 (fr G f) :=
    ⟨_, setRow_heap _ _ _ _ _ _ hg, fun i hi => by
      rw [← Array.getElem?_toList, List.toList_toArray, splice_at (by simpa using hfit), if_pos (by rw [hcsl]; exact ⟨Nat.zero_le _, by simpa using hi⟩), Nat.sub_zero]
      exact hat i hi, hby⟩
  have H := Lib.hid hpost
  clear hpost
  go_wp2_with (first | (refine wpList_copy_own rfl (.tmp 15) (.tmp 22) 45 45 rfl 5 Try.underlying45 Try.byteSize (later w x).heap.size 0 64 64 ⟨fb, f * 64, none⟩ 64 64 rfl rfl zeros64L.toArray 5 hg cs hcsl hsrc hfit h1c ?_))
  go_wp2
  go_ret2
  have hpost := H.out
  simp only [List.take_zero, List.nil_append, Nat.zero_add, show cs.length = 64 from hcsl] at hpost
  exact ⟨_, rfl, hsz, hpost, (hbel.upd setRow_upd hsz).1⟩

end Go.Proofs.Ytklgfnboadchmaa
end

section
/- Contracts of the store of frames: Clean; New. -/
namespace Go.Proofs.Ytklgfnboadchmaa
open Go.ChangeShapes Go.WideShapes Go.ChangeAt Go.RowKit
set_option linter.unusedVariables false
set_option maxRecDepth 20000

def bytesU (f : Nat → Int) (n : Nat) : List UInt8 := (List.range n).map fun i => UInt8.ofNat (f i).toNat
theorem bytesU_length (f : Nat → Int) (n : Nat) : (bytesU f n).length = n := by simp [bytesU]
theorem bytesU_at {f : Nat → Int} (h : Byt f) {n i : Nat} (hi : i < n) : ((bytesU f n).map Extern.Stop.cell)[i]? = some (.int .u8 (f i)) := by
  have := h i
  simp [bytesU, hi, Extern.Stop.cell, UInt8.toNat_ofNat']
  omega
theorem bytesU_beq {f g : Nat → Int} (hf : Byt f) (hg : Byt g) (n : Nat) : (bytesU f n == bytesU g n) = decide (∀ i, i < n → f i = g i) := by
  rw [Bool.eq_iff_iff, beq_iff_eq, decide_eq_true_iff]
  constructor
  · intro h i hi
    have h1 := bytesU_at hf hi
    rw [h, bytesU_at hg hi] at h1
    simpa using h1.symm
  · intro h
    refine List.ext_getElem? fun i => ?_
    by_cases hi : i < n
    · simp [bytesU, hi, h i hi]
    · rw [List.getElem?_eq_none (by simp [bytesU]; omega), List.getElem?_eq_none (by simp [bytesU]; omega)]
/-- A frame has zeros alone. -/
def cleanB (f : Nat → Int) : Bool := (List.range 64).all fun i => f i == 0
theorem cleanB_true {f : Nat → Int} : cleanB f = true ↔ ∀ i, i < 64 → f i = 0 := by simp [cleanB]
theorem cleanB_false {f : Nat → Int} {i : Nat} (hi : i < 64) (h : f i ≠ 0) : cleanB f = false := by
  rw [← Bool.not_eq_true, cleanB_true]
  exact fun hx => h (hx i hi)
theorem bytesU_zero : bytesU (fun _ => 0) 64 = List.replicate 64 0 := by decide
theorem zeros64L_cell : (zeros64L : List Value) = (List.replicate 64 (0 : UInt8)).map Extern.Stop.cell := by simp [zeros64L, Extern.Stop.cell]
theorem clean_beq {f : Nat → Int} (hf : Byt f) : (bytesU f 64 == List.replicate 64 0) = cleanB f := by
  rw [← bytesU_zero, bytesU_beq hf (fun _ => by simp) 64, Bool.eq_iff_iff, cleanB_true, decide_eq_true_iff]

theorem wpList_eqz64 {P : Program} {ops : Array Oper} {rest : List Oper} {op : Oper} {a : Act} {w : World} {Q : Exit → Act → World → Prop} (hgd : op.guard = none) (ty ty' : TypeId) (x y : Operand) (ho : op.op = .binOp .eql ty x y ty')
    (e : TypeId) (ht : P.underlying ty = some (.array 64 e)) (he : P.underlying e = some (.int .u8)) (hsz : ∀ w, (sizeOf e).run P w = .ok 1 w) (hm : P.eqGuardType P.depth ty = false)
    (xs : List UInt8) (hxl : xs.length = 64) (hx : a.eval x = .agg (xs.map Extern.Stop.cell).toArray) (hy : a.eval y = .agg zeros64L.toArray) (b : Bool) (hb : (xs == List.replicate 64 0) = b)
    (h : wpList P ops Q rest (a.put op.dst (.bool b)) w) : wpList P ops Q (op :: rest) a w := by
  refine wpList_plain hgd fun K hK => ?_
  unfold Oper.wp execOp
  rw [zeros64L_cell] at hy
  subst hb
  simp only [ho, hx, hy, Sem.run_bind, run_eqGuard_agg _ _ _ _ _ _ _ hm, Result.andThen_ok, run_eql_bytes w ty e 64 ht he hsz xs (List.replicate 64 0) hxl (by simp), Sem.run_pure]
  exact hK _ _ h

theorem Try.byteRun (w : World) : (sizeOf 5).run Try.prog w = .ok 1 w := by kernel_rfl
theorem Try.frameGuard : Try.prog.eqGuardType Try.prog.depth 101 = false := by kernel_rfl

theorem StoAt.range {w : World} {s fb n f : Nat} {G : Nat → Int} (h : StoAt w s fb n G) (hf : f < n) : w.rangeAt fb (f * 64) ((bytesU (fr G f) 64).map Extern.Stop.cell) := by
  intro j u hj
  have hjl : j < 64 := by have := (List.getElem?_eq_some_iff.1 hj).1; simpa [bytesU] using this
  rw [bytesU_at (fr_byt h.2.2.2 f) hjl] at hj
  cases hj
  exact (h.bat hf).2.1 j hjl

set_option maxHeartbeats 1000000 in
theorem clean_in (s fb n f : Nat) (G : Nat → Int) (w : World) (h : StoAt w s fb n G) (hf : f < n) :
    Calls Try.prog 25 #[.pointer (some ⟨s, 0, none⟩), .int .i64 f] w fun e w' => e = .returned (.bool (cleanB (fr G f))) ∧ Below w.heap.size w w' := by
  have c0 := h.cell0
  have hl := h.lt
  have hn1 : ¬ (f : Int) < 0 := by omega
  have hn2 : (f : Int) < n := by omega
  have hcl := Lib.hid (clean_beq (fr_byt h.2.2.2 f))
  go_enter Try.func25, Try.ntmps25
  go_wp2_with fail
  refine (Calls.lat (may_in _ _ _ _ _ _ h hf)).mono ?_
  rintro e w' ⟨rfl, x, rfl⟩
  have hr := (h.later (x := x)).range hf
  have hxl := bytesU_length (fr G f) 64
  have hsz : (Try.prog.info? 101).map (·.size) = some ((bytesU (fr G f) 64).map Extern.Stop.cell).length := by rw [List.length_map, hxl]; exact Try.frameSize
  clear h
  generalize bytesU (fr G f) 64 = xs at *
  go_wp2_with (first
    | (refine wpList_load_mid rfl 101 (.tmp 14) rfl fb (f * 64) rfl (xs.map Extern.Stop.cell) (.array 64 5) hr Try.underlying101 rfl hsz ?_)
    | (refine wpList_eqz64 rfl 101 101 (.tmp 15) (.tmp 16) rfl 5 Try.underlying101 Try.underlying5 Try.byteRun Try.frameGuard xs hxl rfl rfl _ hcl.out ?_))
  go_ret
  exact ⟨rfl, (by refine (?_ : Bel _ _ _).1; repeat (first | exact hbel | exact Bel.refl _ | apply Bel.later | apply Bel.alloc | apply Bel.drew | (refine Bel.laterB ?_ (by first | exact Nat.le_refl _ | omega | (simp; omega) | simp)) | (refine Bel.setCell ?_ (by first | exact Nat.le_refl _ | omega | (simp; omega) | simp))))⟩

set_option maxHeartbeats 1000000 in
theorem fnew_full (n : Nat) (w : World) (hn : n ≤ 32) :
    Calls Try.prog 26 #[.int .i64 n] w fun e w' => ∃ s fb, e = .returned (.tuple #[.pointer (some ⟨s, 0, none⟩), .int .i64 0]) ∧ w.heap.size ≤ s ∧ w.heap.size ≤ fb ∧ StoAt w' s fb n (fun _ => 0) ∧ Below w.heap.size w w' := by
  obtain ⟨i0, hi, hz0, hz1, hz2⟩ := info_parts Try.infoFrame
  have hn' : (n : Int) ≤ 32 := by omega
  go_enter Try.func26, Try.ntmps26
  go_wp2_with (first | (at_make; refine wpList_make_full _ rfl (.tmp 10) (.tmp 10) 93 rfl w.heap.size 101 i0 (.agg (Array.replicate 64 (.int .u8 0))) 64 Try.underlying93 hi hz0 hz1 _ _ _ _ n rfl rfl (by omega) (by omega) (by rw [hz2]; omega) (by unfold maxLen; omega) (Nat.le_refl _) ?_) | go_in)
  intro w1 hown hgrow
  have hb1 : Below w.heap.size w w1 := ⟨hgrow.os, hgrow.tape, hgrow.output, hgrow.size, fun i hi => hgrow.block i hi (by simp)⟩
  have hfb : ∃ cur : Array Value, w1.heap[w.heap.size]? = some (.cells cur 101 (0, 0)) ∧ cur.size = n * 64 ∧ ∀ i, i < n * 64 → cur[i]? = some (.int .u8 0) := by
    rcases hown.2 with ⟨hx, _⟩ | ⟨g, cap, cur, hx, _, hg, _, _, hs, ht⟩
    · cases hx
    · simp only [Value.slice.injEq, Option.some.injEq, Addr.mk.injEq] at hx
      obtain ⟨⟨rfl, _⟩, _, rfl⟩ := hx
      refine ⟨cur, hg, by omega, fun i hi => ?_⟩
      have h1 : (cur.toList.take (n * 64))[i]? = (madeCells (Array.replicate 64 (Value.int .u8 0)) (n * 64)).toList[i]? := by rw [ht]
      rw [List.getElem?_take, if_pos hi, Array.getElem?_toList] at h1
      rw [h1]
      have hm : i % 64 < 64 := Nat.mod_lt _ (by omega)
      simp [madeCells, hi, hm]
  clear hown hgrow
  go_wp2
  go_ret2
  all_goals
    obtain ⟨cur, q1, q2, q3⟩ := hfb
    refine ⟨w1.heap.size, w.heap.size, rfl, hb1.size, Nat.le_refl _, ⟨hn, ?_, ⟨cur, heap_alloc q1, q2, q3⟩, fun _ => by simp⟩, (Bel.of (Bel.refl w) hb1).alloc.1⟩
    exact Go.heap_alloc_new w1 _

theorem fnew_err (n : Int) (w : World) (hn : n < 0 ∨ 32 < n) :
    Calls Try.prog 26 #[.int .i64 n] w fun e w' => e = .returned (.tuple #[.pointer none, .int .i64 1]) ∧ w = w' := by
  have hn' : n < 0 ∨ (¬ n < 0 ∧ 32 < n) := by omega
  clear hn
  rcases hn' with h | ⟨h, h'⟩
  all_goals
    go_enter Try.func26, Try.ntmps26
    go_wp2
    go_ret2
    exact ⟨rfl, rfl⟩

end Go.Proofs.Ytklgfnboadchmaa
end

section
/- The reference's store of frames: New with its rows; what only reads. -/
namespace Go.Proofs.Ytklgfnboadchmaa
open Go.ChangeShapes Go.WideShapes Go.ChangeAt Go.RowKit
set_option linter.unusedVariables false
set_option maxRecDepth 20000

/-- The reference's store of n frames. -/
def RStoAt (w : World) (t rb n : Nat) (G : Nat → Int) : Prop :=
  n ≤ 32 ∧ Byt G ∧ ∃ v : Value, w.heap[t]? = some (.cells #[v] 56 (0, 0)) ∧
   ((n = 0 ∧ v = .slice none 0 0) ∨ ∃ c cur, v = .slice (some ⟨rb, 0, none⟩) n c ∧ n ≤ c ∧ c ≤ maxLen ∧ w.heap[rb]? = some (.cells cur 45 (0, 0)) ∧ n ≤ cur.size ∧
     ∀ f, f < n → ∃ g c', cur[f]? = some (.slice (some ⟨g, 0, none⟩) 64 c') ∧ 64 ≤ c' ∧ c' ≤ maxLen ∧ RowAt w g 64 (fr G f))
theorem RStoAt.below {w w' : World} {t rb n : Nat} {G : Nat → Int} (h : RStoAt w t rb n G) (hb : Below w.heap.size w w') : RStoAt w' t rb n G := by
  obtain ⟨hn, hG, v, h1, h2⟩ := h
  refine ⟨hn, hG, v, (hb.block t (lt_heap h1)).trans h1, ?_⟩
  rcases h2 with h2 | ⟨c, cur, q1, q2, q3, q4, q5, q6⟩
  · exact .inl h2
  · exact .inr ⟨c, cur, q1, q2, q3, (hb.block rb (lt_heap q4)).trans q4, q5, fun f hf => let ⟨g, c', r1, r2, r3, r4⟩ := q6 f hf; ⟨g, c', r1, r2, r3, r4.below hb⟩⟩
theorem RStoAt.later {w : World} {t rb n : Nat} {G : Nat → Int} {x : Lat w} (h : RStoAt w t rb n G) : RStoAt (Proofs.Ytklgfnboadchmaa.later w x) t rb n G := h.below (later_below w x)
theorem RStoAt.alloc {w : World} {t rb n : Nat} {G : Nat → Int} {o : Obj} (h : RStoAt w t rb n G) : RStoAt (w.alloc o) t rb n G := h.below (Bel.refl w).alloc.1
theorem RStoAt.drew {w : World} {t rb n : Nat} {G : Nat → Int} (h : RStoAt w t rb n G) : RStoAt w.drew t rb n G := h
theorem RowAt.upd {w w' : World} {g n b : Nat} {f : Nat → Int} (h : RowAt w g n f) (hu : Upd b w w') (hne : g ≠ b) : RowAt w' g n f :=
  let ⟨cur, hg, hc⟩ := h; ⟨cur, heap_upd hg hu hne, hc⟩
/-- Another kind of block is written. -/
theorem RStoAt.upd {w w' : World} {t rb n b : Nat} {G : Nat → Int} (h : RStoAt w t rb n G) (hu : Upd b w w') {c : Array Value} {ty : TypeId} {f : Nat × Nat} (hb : w.heap[b]? = some (.cells c ty f))
    (h1 : 56 ≠ ty) (h2 : 45 ≠ ty) (h3 : 5 ≠ ty) : RStoAt w' t rb n G := by
  obtain ⟨hn, hG, v, q1, q2⟩ := h
  refine ⟨hn, hG, v, heap_upd q1 hu (types_ne q1 hb h1), ?_⟩
  rcases q2 with q2 | ⟨c, cur, q2, q3, q4, q5, q6, q7⟩
  · exact .inl q2
  · exact .inr ⟨c, cur, q2, q3, q4, heap_upd q5 hu (types_ne q5 hb h2), q6, fun f hf => let ⟨g, c', r1, r2, r3, r4⟩ := q7 f hf; ⟨g, c', r1, r2, r3, r4.upd hu (let ⟨_, x, _⟩ := r4; types_ne x hb h3)⟩⟩
theorem RStoAt.lt {w : World} {t rb n : Nat} {G : Nat → Int} (h : RStoAt w t rb n G) : t < w.heap.size := let ⟨_, _, _, h1, _⟩ := h; lt_heap h1
/-- Its slice. -/
theorem RStoAt.cell0 {w : World} {t rb n : Nat} {G : Nat → Int} (h : RStoAt w t rb n G) : ∃ q c, w.cell? ⟨t, 0, none⟩ = some (.slice q n c) := by
  obtain ⟨_, _, v, h1, h2⟩ := h
  have hc : w.cell? ⟨t, 0, none⟩ = some v := by simp [World.cell?, h1]
  rcases h2 with ⟨rfl, rfl⟩ | ⟨c, cur, rfl, _⟩
  · exact ⟨_, _, hc⟩
  · exact ⟨_, _, hc⟩
/-- Where it has a frame. -/
theorem RStoAt.row {w : World} {t rb n : Nat} {G : Nat → Int} (h : RStoAt w t rb n G) {f : Nat} (hf : f < n) : ∃ c g c', w.cell? ⟨t, 0, none⟩ = some (.slice (some ⟨rb, 0, none⟩) n c) ∧ n ≤ c ∧ c ≤ maxLen ∧ rb < w.heap.size ∧
    w.cell? ⟨rb, f, none⟩ = some (.slice (some ⟨g, 0, none⟩) 64 c') ∧ w.frozen? ⟨rb, f, none⟩ = false ∧ 64 ≤ c' ∧ c' ≤ maxLen ∧ RowAt w g 64 (fr G f) := by
  obtain ⟨_, _, v, h1, h2⟩ := h
  rcases h2 with ⟨rfl, rfl⟩ | ⟨c, cur, rfl, q2, q3, q4, q5, q6⟩
  · omega
  · obtain ⟨g, c', r1, r2, r3, r4⟩ := q6 f hf
    exact ⟨c, g, c', by simp [World.cell?, h1], q2, q3, lt_heap q4, by simp [World.cell?, q4, r1], by simp [World.frozen?, q4], r2, r3, r4⟩
/-- A row is another one. -/
theorem RStoAt.set {w : World} {t rb n : Nat} {G G' : Nat → Int} (h : RStoAt w t rb n G) {f g c' : Nat} (hf : f < n) (hG : Byt G') (ho : ∀ k, k < n → k ≠ f → ∀ i, i < 64 → G' (k * 64 + i) = G (k * 64 + i))
    (h64 : 64 ≤ c') (hm : c' ≤ maxLen) (hr : RowAt w g 64 (fr G' f)) : RStoAt (w.setCell ⟨rb, f, none⟩ (.slice (some ⟨g, 0, none⟩) 64 c')) t rb n G' := by
  obtain ⟨hn, _, v, h1, h2⟩ := h
  rcases h2 with ⟨rfl, rfl⟩ | ⟨c, cur, rfl, q2, q3, q4, q5, q6⟩
  · omega
  · have hu : Upd rb w (w.setCell ⟨rb, f, none⟩ (.slice (some ⟨g, 0, none⟩) 64 c')) := Upd.setCell (Upd.refl rb w)
    have hrow : ∀ {g' : Nat} {F : Nat → Int}, RowAt w g' 64 F → RowAt (w.setCell ⟨rb, f, none⟩ (.slice (some ⟨g, 0, none⟩) 64 c')) g' 64 F := fun r => r.upd hu (let ⟨_, x, _⟩ := r; types_ne x q4 (by decide))
    refine ⟨hn, hG, _, heap_upd h1 hu (types_ne h1 q4 (by decide)), .inr ⟨c, _, rfl, q2, q3, heap_setCell_at q4, by simpa using q5, fun k hk => ?_⟩⟩
    by_cases e : k = f
    · subst e
      exact ⟨g, c', by simp [show k < cur.size by omega], h64, hm, hrow hr⟩
    · obtain ⟨g', c'', r1, r2, r3, r4⟩ := q6 k hk
      refine ⟨g', c'', by rw [Array.getElem?_setIfInBounds_ne (fun h => e h.symm)]; exact r1, r2, r3, hrow ?_⟩
      obtain ⟨cu, s1, s2, _⟩ := r4
      exact ⟨cu, s1, fun i hi => by rw [s2 i hi]; unfold fr; rw [ho k hk e i hi], fr_byt hG k⟩

theorem zeros64_row {w : World} {g : Nat} (h : w.heap[g]? = some (.cells zeros64 5 (0, 0))) : RowAt w g 64 (fun _ => 0) :=
  ⟨_, h, fun i hi => by simp [zeros64, hi], fun _ => by simp⟩

set_option maxRecDepth 100000 in
set_option maxHeartbeats 1000000 in
theorem rnew_full (n : Nat) (w : World) (hn : n ≤ 32) :
    Calls Try.prog 27 #[.int .i64 n] w fun e w' => ∃ t rb, e = .returned (.tuple #[.pointer (some ⟨t, 0, none⟩), .int .i64 0]) ∧ w.heap.size ≤ t ∧ w.heap.size ≤ rb ∧ RStoAt w' t rb n (fun _ => 0) ∧ Below w.heap.size w w' := by
  obtain ⟨i0, hi, hz0, hz1, hz2⟩ := info_parts Try.infoRow
  have hmk : ∀ w : World, (Instr.makeSlice 45 (.int .i64 64) (.int .i64 64)).run Try.prog w = .ok (.slice (some ⟨w.heap.size, 0, none⟩) 64 64) (w.alloc (.cells zeros64 5)) := fun _ => by kernel_rfl
  have hn' : (n : Int) ≤ 32 := by omega
  go_enter Try.func27, Try.ntmps27
  go_wp2
  go_loopw [5] (fun i wr => ∃ (k : Nat) (v : Value) (xs : List Value), k ≤ n ∧ i = .int .i64 k ∧ Bel w.heap.size w wr ∧ wr.heap[w.heap.size]? = some (.cells #[v] 56 (0, 0)) ∧ wr.ownsRow (w.heap.size + 1) 45 1 v k xs ∧ xs.length = k ∧
      ∀ f, f < k → ∃ g, xs[f]? = some (.slice (some ⟨g, 0, none⟩) 64 64) ∧ wr.heap[g]? = some (.cells zeros64 5 (0, 0))) (fun i _ => n - (intOf i).toNat)
  case atStart => exact ⟨0, .slice none 0 0, [], Nat.zero_le _, rfl, (Bel.refl w).alloc, Go.heap_alloc_new w _, World.ownsRow_nil _ _ _ _, rfl, fun f hf => absurd hf (by omega)⟩
  case round =>
    obtain ⟨k, v, xs, hk, rfl, hbel, hR, hown, hxl, hrows⟩ := hrel
    have hsz : w.heap.size + 1 ≤ wr.heap.size := lt_heap hR
    have hsz0 : w.heap.size < wr.heap.size := hsz
    have hsz1 : w.heap.size < wr.heap.size + 1 := by omega
    have Hrows := Lib.hid hrows
    have Hxl := Lib.hid hxl
    clear hrows hxl
    by_cases hlt : k < n
    · have q0 : wr.cell? ⟨w.heap.size, 0, none⟩ = some v := by simp [World.cell?, hR]
      have q1 : wr.frozen? ⟨w.heap.size, 0, none⟩ = false := by simp [World.frozen?, hR]
      have hown2 := (hown.drew.alloc (.cells zeros64 5)).alloc (.cells #[.slice (some ⟨wr.heap.size, 0, none⟩) 64 64] 45)
      have hnb : ((wr.alloc (.cells zeros64 5)).alloc (.cells #[.slice (some ⟨wr.heap.size, 0, none⟩) 64 64] 45)).heap[wr.heap.size + 1]? = some (.cells #[.slice (some ⟨wr.heap.size, 0, none⟩) 64 64] 45 (0, 0)) := by
        have := Go.heap_alloc_new (wr.alloc (.cells zeros64 5)) (.cells #[.slice (some ⟨wr.heap.size, 0, none⟩) 64 64] 45)
        rw [show (wr.alloc (.cells zeros64 5)).heap.size = wr.heap.size + 1 from by simp] at this
        exact this
      have hne : some w.heap.size ≠ v.ownBlock := fun h => by have := (hown.lt _ h.symm).1; omega
      have hbel2 : Bel w.heap.size w _ := (hbel.alloc (o := .cells zeros64 5)).alloc (o := .cells #[.slice (some ⟨wr.heap.size, 0, none⟩) 64 64] 45) |>.drew
      go_wp2
      go_region_law ((refine step_append_lies _ (by rfl) _ _ _ (by rfl) (w.heap.size + 1) 45 i0 _ 1 24 Try.underlying54 hi hz0 hz1 hz2 rfl (by omega) v k xs (by rfl) hown2 ⟨wr.heap.size + 1, 0, none⟩ 1 1 [.slice (some ⟨wr.heap.size, 0, none⟩) 64 64] (by rfl) (by rfl) (World.news_of_block (cs := #[.slice (some ⟨wr.heap.size, 0, none⟩) 64 64]) (t := 45) (fr := (0, 0)) hnb) (by simp [Value.oneCell']) (by omega) (by unfold maxLen; omega) (by omega) (by simp; omega) (wr.heap.size + 2) (by simp) ?_; intro g cap w1 hown1 hgrow hat hlt1; have hR1 : w1.heap[w.heap.size]? = some (.cells #[v] 56 (0, 0)) := (hgrow.block w.heap.size (by simp; omega) hne).trans (heap_alloc (heap_alloc hR)); have r0 : w1.cell? ⟨w.heap.size, 0, none⟩ = some v := (by simp [World.cell?, hR1]); have r1 : w1.frozen? ⟨w.heap.size, 0, none⟩ = false := (by simp [World.frozen?, hR1])))
      all_goals
        go_wp2
        go_roundw
        case rel =>
          refine ⟨k + 1, _, _, by omega, by go_num, Bel.setCell ⟨hbel2.1.grown hgrow hbel2.2 (fun q hq => by have := (hown.lt q hq).1; omega), Nat.le_trans hbel2.2 hgrow.size⟩ (Nat.le_refl _), heap_setCell_at (o := 0) hR1, ownsRow_otherC (b := 0) hown1 (by simp), by simp [Hxl.out], ?_⟩
          have hkeep : ∀ g' : Nat, ((wr.alloc (.cells zeros64 5)).alloc (.cells #[.slice (some ⟨wr.heap.size, 0, none⟩) 64 64] 45)).heap[g']? = some (.cells zeros64 5 (0, 0)) → w1.heap[g']? = some (.cells zeros64 5 (0, 0)) := by
            intro g' hg'
            refine (hgrow.block g' (lt_heap hg') ?_).trans hg'
            intro e
            rcases hown2.2 with ⟨rfl, _⟩ | ⟨q, cap', cur', rfl, _, hq, _⟩
            · cases e
            · cases e
              exact types_ne hg' hq (by decide) rfl
          have hset : ∀ (g' : Nat) (u : Value), w1.heap[g']? = some (.cells zeros64 5 (0, 0)) → (w1.setCell ⟨w.heap.size, 0, none⟩ u).heap[g']? = some (.cells zeros64 5 (0, 0)) := fun g' u hg' => heap_setCell_ne hg' (types_ne hg' hR1 (by decide))
          intro f hf
          by_cases e : f < k
          · obtain ⟨g', h1, h2⟩ := Hrows.out f e
            exact ⟨g', by rw [List.getElem?_append_left (by rw [Hxl.out]; exact e)]; exact h1, hset _ _ (hkeep g' (heap_alloc (heap_alloc h2)))⟩
          · obtain rfl : f = k := by omega
            refine ⟨wr.heap.size, by rw [List.getElem?_append_right (by rw [Hxl.out]; omega)]; simp [Hxl.out], hset _ _ (hkeep _ (heap_alloc (Go.heap_alloc_new wr _)))⟩
        case measure => simp [intOf]; omega
    · obtain rfl : k = n := by omega
      have hfin : ∃ rb, w.heap.size ≤ rb ∧ RStoAt wr w.heap.size rb k (fun _ => 0) := by
        rcases hown.2 with ⟨rfl, h0⟩ | ⟨q, cap, cur, rfl, hqb, hq, hle, hm, hs, ht⟩
        · exact ⟨w.heap.size, Nat.le_refl _, hn, fun _ => by simp, _, hR, .inl ⟨h0, by subst h0; rfl⟩⟩
        · refine ⟨q, by omega, hn, fun _ => by simp, _, hR, .inr ⟨cap, cur, rfl, hle, hm, hq, by omega, fun f hf => ?_⟩⟩
          obtain ⟨g, h1, h2⟩ := Hrows.out f hf
          rw [← ht, List.getElem?_take, if_pos (by omega), Array.getElem?_toList] at h1
          exact ⟨g, 64, h1, Nat.le_refl _, by unfold maxLen; omega, zeros64_row h2⟩
      go_wp2
      go_ret2
      obtain ⟨rb, hrb, hst⟩ := hfin
      exact ⟨_, rb, rfl, Nat.le_refl _, hrb, hst, hbel.1⟩

theorem rnew_err (n : Int) (w : World) (hn : n < 0 ∨ 32 < n) :
    Calls Try.prog 27 #[.int .i64 n] w fun e w' => e = .returned (.tuple #[.pointer none, .int .i64 1]) ∧ w = w' := by
  have hn' : n < 0 ∨ (¬ n < 0 ∧ 32 < n) := by omega
  clear hn
  rcases hn' with h | ⟨h, h'⟩
  all_goals
    go_enter Try.func27, Try.ntmps27
    go_wp2
    go_ret2
    exact ⟨rfl, rfl⟩

end Go.Proofs.Ytklgfnboadchmaa
end

section
/- The reference's store of frames: Is, Load, Save, Clear, Bytes, Clean. -/
namespace Go.Proofs.Ytklgfnboadchmaa
open Go.ChangeShapes Go.WideShapes Go.ChangeAt Go.RowKit
set_option linter.unusedVariables false
set_option maxRecDepth 20000

theorem is_of (t rb n : Nat) (f : Int) (G : Nat → Int) (w : World) (h : RStoAt w t rb n G) (hw : (Lit.int .i64 f).wf = true) : Calls Try.prog 59 #[.pointer (some ⟨t, 0, none⟩), .int .i64 f] w fun e w' => e = .returned (.bool (decide (0 ≤ f ∧ f < n))) ∧ w = w' := by
  obtain ⟨q, c, h0⟩ := h.cell0
  clear h
  by_cases h1 : 0 ≤ f
  · go_enter Try.func59, Try.ntmps59
    go_wp2
    go_ret
    exact ⟨ret_bool (by simp [h1]), rfl⟩
  · go_enter Try.func59, Try.ntmps59
    go_wp2
    go_ret
    exact ⟨ret_bool (by simp; omega), rfl⟩
theorem is_yes (t rb n f : Nat) (G : Nat → Int) (w : World) (h : RStoAt w t rb n G) (hf : f < n) : Calls Try.prog 59 #[.pointer (some ⟨t, 0, none⟩), .int .i64 f] w fun e w' => e = .returned (.bool true) ∧ w = w' := by
  have hn := h.1
  refine (is_of t rb n f G w h (by simp [Lit.wf, IntKind.min, IntKind.max, IntKind.bits, IntKind.signed]; omega)).mono ?_
  rintro e w' ⟨rfl, rfl⟩
  exact ⟨ret_bool (by simp; omega), rfl⟩
theorem is_no (t rb n : Nat) (f : Int) (G : Nat → Int) (w : World) (h : RStoAt w t rb n G) (hw : (Lit.int .i64 f).wf = true) (hf : f < 0 ∨ (n : Int) ≤ f) : Calls Try.prog 59 #[.pointer (some ⟨t, 0, none⟩), .int .i64 f] w fun e w' => e = .returned (.bool false) ∧ w = w' := by
  refine (is_of t rb n f G w h hw).mono ?_
  rintro e w' ⟨rfl, rfl⟩
  exact ⟨ret_bool (by simp; omega), rfl⟩

theorem rsave_in (t rb n f a m : Nat) (v : Int) (G : Nat → Int) (w : World) (h : RStoAt w t rb n G) (hf : f < n) (hm : m = 1 ∨ m = 2 ∨ m = 4) (ha : a + m ≤ 64) (hv0 : 0 ≤ v) (hv1 : v ≤ 4294967295) :
    Calls Try.prog 50 #[.pointer (some ⟨t, 0, none⟩), .int .i64 f, .int .i64 a, .int .i64 m, .int .u32 v] w fun e w' => e = .returned (.int .i64 0) ∧ Upd rb w w' ∧ RStoAt w' t rb n (putF G (f * 64 + a) m v) := by
  obtain ⟨c, g, c', h0, hnc, hcm, hrb, h1, h2, h64, hcm', hr⟩ := h.row hf
  have hn1 : (0 : Int) ≤ f := by omega
  have hn2 : (f : Int) < n := by omega
  have hty : (Lit.int .i64 (f : Int)).wf = true := by
    have := h.1
    simp [Lit.wf, IntKind.min, IntKind.max, IntKind.bits, IntKind.signed]; omega
  go_enter Try.func50, Try.ntmps50
  go_wp2_with fail
  refine (is_yes _ _ _ _ _ _ h hf).mono ?_
  rintro e w' ⟨rfl, rfl⟩
  go_wp2_with fail
  refine (rput_in g 0 64 c' a m v _ _ hr.bat hm ha (by omega) hv0 hv1).mono ?_
  rintro e w2 ⟨g2, cap, rfl, hle, hcm2, hgb, hrow, hb2⟩
  have hst := h.below hb2
  obtain ⟨c, g, c', d0, _, _, _, d1, d2, _, _, _⟩ := hst.row hf
  rw [putF_fr] at hrow
  have hfin := hst.set (G' := putF G (f * 64 + a) m v) hf (byt_putF h.2.1 _ _ _) (fun k _ hk i hi => fr_other G f k a m v ha hk i hi) hle hcm2 hrow
  have hb : Upd rb w w2 := .of_below hb2
  clear h hr h0 h1 h2 hst hrow hm
  go_wp2
  go_ret
  exact ⟨rfl, hb.setCell, hfin⟩
theorem rsave_out (t rb n f : Nat) (a m v : Int) (G : Nat → Int) (w : World) (h : RStoAt w t rb n G) (hf : f < n) (hi : ¬ inP 64 a m) (hm : (Lit.int .i64 m).wf = true) :
    Calls Try.prog 50 #[.pointer (some ⟨t, 0, none⟩), .int .i64 f, .int .i64 a, .int .i64 m, .int .u32 v] w fun e w' => e = .returned (.int .i64 1) ∧ w = w' := by
  obtain ⟨c, g, c', h0, hnc, hcm, hrb, h1, h2, h64, hcm', hr⟩ := h.row hf
  have hn1 : (0 : Int) ≤ f := by omega
  have hn2 : (f : Int) < n := by omega
  go_enter Try.func50, Try.ntmps50
  go_wp2_with fail
  refine (is_yes _ _ _ _ _ _ h hf).mono ?_
  rintro e w' ⟨rfl, rfl⟩
  go_wp2_with fail
  refine (rput_out _ _ _ _ _ _ _ hi (by omega) hm).mono ?_
  rintro e w' ⟨rfl, rfl⟩
  go_wp2_with fail
  go_ret
  exact ⟨rfl, rfl⟩
theorem rsave_no (t rb n : Nat) (f a m v : Int) (G : Nat → Int) (w : World) (h : RStoAt w t rb n G) (hw : (Lit.int .i64 f).wf = true) (hf : f < 0 ∨ (n : Int) ≤ f) :
    Calls Try.prog 50 #[.pointer (some ⟨t, 0, none⟩), .int .i64 f, .int .i64 a, .int .i64 m, .int .u32 v] w fun e w' => e = .returned (.int .i64 1) ∧ w = w' := by
  go_enter Try.func50, Try.ntmps50
  go_wp2_with fail
  refine (is_no _ _ _ _ _ _ h hw hf).mono ?_
  rintro e w' ⟨rfl, rfl⟩
  go_wp2_with fail
  go_ret
  exact ⟨rfl, rfl⟩

theorem zero_fr (G : Nat → Int) (f : Nat) : ∀ i, i < 64 → fr (putF G (f * 64) 64 0) f i = 0 := by
  intro i hi
  unfold fr putF
  rw [if_pos (by omega)]
  simp

set_option maxHeartbeats 1000000 in
theorem rclear_in (t rb n f : Nat) (G : Nat → Int) (w : World) (h : RStoAt w t rb n G) (hf : f < n) :
    Calls Try.prog 60 #[.pointer (some ⟨t, 0, none⟩), .int .i64 f] w fun e w' => e = .returned (.int .i64 0) ∧ Upd rb w w' ∧ RStoAt w' t rb n (putF G (f * 64) 64 0) := by
  obtain ⟨c, g, c', h0, hnc, hcm, hrb, h1, h2, h64, hcm', hr⟩ := h.row hf
  have hn1 : (0 : Int) ≤ f := by omega
  have hn2 : (f : Int) < n := by omega
  have ht := h.lt
  have hmk : ∀ w : World, (Instr.makeSlice 45 (.int .i64 64) (.int .i64 64)).run Try.prog w = .ok (.slice (some ⟨w.heap.size, 0, none⟩) 64 64) (w.alloc (.cells zeros64 5)) := fun _ => by kernel_rfl
  have hnew : RowAt ((w.drew).alloc (.cells zeros64 5)) w.heap.size 64 (fr (putF G (f * 64) 64 0) f) := by
    refine ⟨_, Go.heap_alloc_new w.drew _, fun i hi => ?_, fr_byt (byt_putF h.2.1 _ _ _) f⟩
    rw [zero_fr G f i hi]
    simp [zeros64, hi]
  have hfin := (h.drew.alloc (o := .cells zeros64 5)).set (G' := putF G (f * 64) 64 0) hf (byt_putF h.2.1 _ _ _) (fun k _ hk i hi => fr_other G f k 0 64 0 (by omega) hk i hi) (Nat.le_refl 64) (by unfold maxLen; omega) hnew
  have hu : Upd rb w ((w.drew).alloc (.cells zeros64 5)) := (Upd.refl rb w).drew.alloc
  go_enter Try.func60, Try.ntmps60
  go_wp2_with fail
  refine (is_yes _ _ _ _ _ _ h hf).mono ?_
  rintro e w' ⟨rfl, rfl⟩
  have hcomm : (w.drew.alloc (.cells zeros64 5)).setCell ⟨rb, f, none⟩ (.slice (some ⟨w.heap.size, 0, none⟩) 64 64) = ((w.setCell ⟨rb, f, none⟩ (.slice (some ⟨w.heap.size, 0, none⟩) 64 64)).alloc (.cells zeros64 5)).drew := by simp [go_sem, hrb]
  have hu2 := hu.setCell (o := f) (s := none) (u := .slice (some ⟨w.heap.size, 0, none⟩) 64 64)
  rw [hcomm] at hfin hu2
  have H := Lib.hid hfin
  have Hu := Lib.hid hu2
  clear h hr hfin hnew hu hu2 hcomm
  go_wp2_with fail
  go_region
  all_goals
    go_wp2
    go_ret
    exact ⟨rfl, Hu.out, H.out⟩
theorem rclear_no (t rb n : Nat) (f : Int) (G : Nat → Int) (w : World) (h : RStoAt w t rb n G) (hw : (Lit.int .i64 f).wf = true) (hf : f < 0 ∨ (n : Int) ≤ f) :
    Calls Try.prog 60 #[.pointer (some ⟨t, 0, none⟩), .int .i64 f] w fun e w' => e = .returned (.int .i64 1) ∧ w = w' := by
  go_enter Try.func60, Try.ntmps60
  go_wp2_with fail
  refine (is_no _ _ _ _ _ _ h hw hf).mono ?_
  rintro e w' ⟨rfl, rfl⟩
  go_wp2_with fail
  go_ret
  exact ⟨rfl, rfl⟩

end Go.Proofs.Ytklgfnboadchmaa
end

section
/- The reference's store of frames: Bytes, Clean. The law package's awake, all. -/
namespace Go.Proofs.Ytklgfnboadchmaa
open Go.ChangeShapes Go.WideShapes Go.ChangeAt Go.RowKit
set_option linter.unusedVariables false
set_option maxRecDepth 20000

/-! ### Out of bounds, the store of frames -/
theorem clear_bad (p : Option Addr) (f E : Int) (w : World) (h : Bad w p f E) : Calls Try.prog 70 #[.pointer p, .int .i64 f] w fun e w' => e = .returned (.int .i64 E) ∧ Below w.heap.size w w' := by
  obtain ⟨hE, hc⟩ := h
  rcases hE with rfl | rfl
  all_goals
    go_enter Try.func70, Try.ntmps70
    go_wp2_with fail
    refine (Calls.lat (hc _ (Below.refl _ _))).mono ?_
    rintro e w' ⟨rfl, x, rfl⟩
    go_wp2
    go_ret
    exact ⟨rfl, (by refine (?_ : Bel _ _ _).1; repeat (first | exact hbel | exact Bel.refl _ | apply Bel.later | apply Bel.alloc | apply Bel.drew | (refine Bel.laterB ?_ (by first | exact Nat.le_refl _ | omega | (simp; omega) | simp)) | (refine Bel.setCell ?_ (by first | exact Nat.le_refl _ | omega | (simp; omega) | simp))))⟩
theorem bytes_bad (p : Option Addr) (f E : Int) (w : World) (h : Bad w p f E) : Calls Try.prog 18 #[.pointer p, .int .i64 f] w fun e w' => e = .returned (.tuple #[.slice none 0 0, .int .i64 E]) ∧ Below w.heap.size w w' := by
  obtain ⟨hE, hc⟩ := h
  rcases hE with rfl | rfl
  all_goals
    go_enter Try.func18, Try.ntmps18
    go_wp2_with fail
    refine (Calls.lat (hc _ (Below.refl _ _))).mono ?_
    rintro e w' ⟨rfl, x, rfl⟩
    go_wp2
    go_ret2
    exact ⟨rfl, (by refine (?_ : Bel _ _ _).1; repeat (first | exact hbel | exact Bel.refl _ | apply Bel.later | apply Bel.alloc | apply Bel.drew | (refine Bel.laterB ?_ (by first | exact Nat.le_refl _ | omega | (simp; omega) | simp)) | (refine Bel.setCell ?_ (by first | exact Nat.le_refl _ | omega | (simp; omega) | simp))))⟩
theorem clean_bad (p : Option Addr) (f E : Int) (w : World) (h : Bad w p f E) : Calls Try.prog 25 #[.pointer p, .int .i64 f] w fun e w' => e = .returned (.bool false) ∧ Below w.heap.size w w' := by
  obtain ⟨hE, hc⟩ := h
  rcases hE with rfl | rfl
  all_goals
    go_enter Try.func25, Try.ntmps25
    go_wp2_with fail
    refine (Calls.lat (hc _ (Below.refl _ _))).mono ?_
    rintro e w' ⟨rfl, x, rfl⟩
    go_wp2
    go_ret
    exact ⟨rfl, (by refine (?_ : Bel _ _ _).1; repeat (first | exact hbel | exact Bel.refl _ | apply Bel.later | apply Bel.alloc | apply Bel.drew | (refine Bel.laterB ?_ (by first | exact Nat.le_refl _ | omega | (simp; omega) | simp)) | (refine Bel.setCell ?_ (by first | exact Nat.le_refl _ | omega | (simp; omega) | simp))))⟩
theorem StoAt.bad {w : World} {s fb n : Nat} {G : Nat → Int} (h : StoAt w s fb n G) {f : Int} (hf : f < 0 ∨ (n : Int) ≤ f) : Bad w (some ⟨s, 0, none⟩) f 1 := bad_out h.made hf

theorem clean_zero : cleanB (fr (fun _ => 0) 0) = true := cleanB_true.2 fun _ _ => rfl
theorem clean_one : cleanB (fr (putF (fun _ => 0) (0 * 64 + 60) 4 1) 0) = false := cleanB_false (i := 60) (by omega) (by simp [fr, putF])

end Go.Proofs.Ytklgfnboadchmaa
end
