/- Texts of this proof in one: Kit, Heap, RowM, Reg, Reg2, Reg3, ProwA, Reg4, Reg5, Reg6, Prow, RowS, Pswp, Ppsh, Ppop, HupP, HdnP, Heap2. -/
import Derived.WalkKit
import Derived.ProofKit
import Derived.OpenShut
import Derived.ShutString
import Derived.ChangeOld
import Derived.SizedLaws
import Derived.Deep.Slices
import Derived.BigQuiet
import Derived.Lib.Hide
import Derived.Outline
import Derived.WalkLawsBesides
import Derived.WalkSpells
import Derived.OrdersHeld
import Derived.Deep.RegionHeld
import Derived.Test.YtklgfnboadchmaaRows
import Derived.Deep.RegionLaw
import Derived.Deep.AppendLies
import Derived.OwnWalk
import Derived.Deep.MidRow
import Derived.WalkSmall

section
/- Own lemmas over any program: flat values (structs and arrays of integers and bools) and slices of them, read as data, opened into their cells. -/
namespace Go.Proofs.Ytklgfnboadchmaa
open Go.ChangeShapes Go.WideShapes Go.ChangeAt Go.RowKit Go.Deep

/-- What one cell holds: 'some k': a number of kind k; 'none': a bool. -/
def cellOk : Option IntKind → Value → Prop
  | some k, v => ∃ n, v = .int k n ∧ (Lit.int k n).wf = true
  | none, v => ∃ b, v = .bool b

def rowOk : List (Option IntKind) → List Value → Prop
  | [], [] => True
  | k :: ks, v :: vs => cellOk k v ∧ rowOk ks vs
  | _, _ => False

theorem rowOk_nil {vs : List Value} (h : rowOk [] vs) : vs = [] := by
  cases vs with
  | nil => rfl
  | cons v vs => exact h.elim

theorem rowOk_cons {k : Option IntKind} {ks : List (Option IntKind)} {vs : List Value} (h : rowOk (k :: ks) vs) : ∃ v r, vs = v :: r ∧ cellOk k v ∧ rowOk ks r := by
  cases vs with
  | nil => exact h.elim
  | cons v r => exact ⟨v, r, rfl, h.1, h.2⟩

theorem rowOk_int {k : IntKind} {ks : List (Option IntKind)} {vs : List Value} (h : rowOk (some k :: ks) vs) : ∃ n r, vs = .int k n :: r ∧ (Lit.int k n).wf = true ∧ rowOk ks r := by
  obtain ⟨v, r, rfl, ⟨n, rfl, hw⟩, hr⟩ := rowOk_cons h
  exact ⟨n, r, rfl, hw, hr⟩

theorem rowOk_bool {ks : List (Option IntKind)} {vs : List Value} (h : rowOk (Option.none :: ks) vs) : ∃ b r, vs = .bool b :: r ∧ rowOk ks r := by
  obtain ⟨v, r, rfl, ⟨n, rfl⟩, hr⟩ := rowOk_cons h
  exact ⟨n, r, rfl, hr⟩

theorem rowOk_length : ∀ {ks : List (Option IntKind)} {vs : List Value}, rowOk ks vs → vs.length = ks.length
  | [], vs, h => by simp [rowOk_nil h]
  | k :: ks, vs, h => by
    obtain ⟨v, r, rfl, _, hr⟩ := rowOk_cons h
    simp [rowOk_length hr]

theorem rowOk_append : ∀ {ks ls : List (Option IntKind)} {vs us : List Value}, rowOk ks vs → rowOk ls us → rowOk (ks ++ ls) (vs ++ us)
  | [], ls, vs, us, h, h' => by rw [rowOk_nil h]; exact h'
  | k :: ks, ls, vs, us, h, h' => by
    obtain ⟨v, r, rfl, hc, hr⟩ := rowOk_cons h
    exact ⟨hc, rowOk_append hr h'⟩

/-- Fields that lie one behind the other from 'at' on: their kinds. -/
def joinFields : Nat → List (Nat × Nat × List (Option IntKind)) → Option (List (Option IntKind))
  | _, [] => some []
  | p, (o, s, l) :: r => if o = p ∧ l.length = s then (joinFields (p + s) r).map (l ++ ·) else none

/-- A type of integers and bools alone: its cells' kinds. -/
def flatKinds (P : Program) : Nat → TypeId → Option (List (Option IntKind))
  | 0, _ => none
  | n + 1, t =>
    match P.underlying t with
    | some .bool => some [none]
    | some (.int k) => some [some k]
    | some (.struct fs) => ((fs.toList.mapM fun f => (flatKinds P n f.type).map fun l => (f.offset, P.cellsOf f.type, l)).bind (joinFields 0)).bind fun ks => if ks.length = P.cellsOf t then some ks else none
    | some (.array m e) => (flatKinds P n e).bind fun l => if l.length = P.cellsOf e ∧ m * l.length = P.cellsOf t then some (List.replicate m l).flatten else none
    | _ => none

section
variable {H : Type} {enc : TypeId × Value → H} {P : Program} {w : World} {base : Nat} {spare : Nat → Bool} {held : Bool}

theorem joinFields_ok : ∀ (l : List (Nat × Nat × List (Option IntKind))) (p : Nat) (ks : List (Option IntKind)) (cs : List Value), joinFields p l = some ks → cs.length = p + ks.length →
    (∀ x ∈ l, rowOk x.2.2 ((cs.drop x.1).take x.2.1)) → rowOk ks (cs.drop p)
  | [], p, ks, cs, h, hl, _ => by
    simp [joinFields] at h
    subst h
    rw [List.drop_of_length_le (by simpa using Nat.le_of_eq hl)]
    trivial
  | (o, s, l) :: r, p, ks, cs, h, hl, hx => by
    unfold joinFields at h
    split at h
    · rename_i hc
      obtain ⟨rfl, hls⟩ := hc
      rw [Option.map_eq_some_iff] at h
      obtain ⟨k2, hk2, rfl⟩ := h
      have h1 := hx (o, s, l) (by simp)
      have h2 := joinFields_ok r (o + s) k2 cs hk2 (by simp at hl; omega) (fun x hm => hx x (by simp [hm]))
      have e : cs.drop o = (cs.drop o).take s ++ cs.drop (o + s) := by
        rw [← List.drop_drop]
        exact (List.take_append_drop s (cs.drop o)).symm
      rw [e]
      exact rowOk_append h1 h2
    · cases h

theorem rows_ok (l : List (Option IntKind)) : ∀ (m : Nat) (cs : List Value), cs.length = m * l.length → (∀ i, i < m → rowOk l ((cs.drop (i * l.length)).take l.length)) → rowOk (List.replicate m l).flatten cs
  | 0, cs, hl, _ => by
    have : cs = [] := by
      apply List.eq_nil_of_length_eq_zero
      simpa using hl
    subst this
    trivial
  | m + 1, cs, hl, h => by
    have h0 := h 0 (by omega)
    simp only [Nat.zero_mul, List.drop_zero] at h0
    have ih := rows_ok l m (cs.drop l.length) (by rw [List.length_drop, hl, Nat.succ_mul]; omega) (fun i hi => by
      have := h (i + 1) (by omega)
      rw [List.drop_drop]
      rwa [Nat.succ_mul, Nat.add_comm] at this)
    rw [List.replicate_succ, List.flatten_cons, ← List.take_append_drop l.length cs]
    exact rowOk_append h0 ih

theorem flat_of_trod : ∀ (n : Nat) (t : TypeId) (ks : List (Option IntKind)) (fuel : Nat) (cs : List Value) (x : DataW H × List MemPlace), flatKinds P n t = some ks →
    DataW.trod enc P w base spare held fuel t cs = some x → rowOk ks cs
  | 0, _, _, _, _, _, h, _ => by cases h
  | n + 1, t, ks, fuel, cs, x, h, ht => by
    unfold flatKinds at h
    split at h
    · rename_i hu
      cases h
      obtain ⟨b, rfl, _⟩ := DataW.trod_bool hu ht
      exact ⟨⟨b, rfl⟩, trivial⟩
    · rename_i k hu
      cases h
      obtain ⟨m, rfl, _, hw⟩ := DataW.trod_int hu ht
      exact ⟨⟨m, rfl, hw⟩, trivial⟩
    · rename_i fs hu
      rw [Option.bind_eq_some_iff] at h
      obtain ⟨ks', hb, hk⟩ := h
      split at hk
      · rename_i hlen
        cases hk
        rw [Option.bind_eq_some_iff] at hb
        obtain ⟨l, hm, hj⟩ := hb
        obtain ⟨xs, m, _, _, hcl, hxl, hf⟩ := DataW.trod_struct hu ht
        have := joinFields_ok l 0 ks cs hj (by rw [hcl, hlen]; omega) (fun y hy => by
          obtain ⟨f, hfm, hfe⟩ := WideShapes.mapM_mem hm y hy
          rw [Option.map_eq_some_iff] at hfe
          obtain ⟨l', hl', rfl⟩ := hfe
          obtain ⟨i, hi⟩ := List.mem_iff_getElem?.1 hfm
          have hff := hf i f (by simpa using hi)
          have hilt : i < xs.length := by
            rw [hxl]
            have := (List.getElem?_eq_some_iff.1 hi).1
            simpa using this
          rw [List.getElem?_eq_getElem hilt] at hff
          exact flat_of_trod n f.type l' m _ _ hl' hff)
        simpa using this
      · cases hk
    · rename_i m e hu
      rw [Option.bind_eq_some_iff] at h
      obtain ⟨l, hl, hk⟩ := h
      split at hk
      · rename_i hc
        cases hk
        obtain ⟨xs, m', _, _, hcl, hxl, hf⟩ := DataW.trod_array hu ht
        refine rows_ok l m cs (by rw [hcl, hc.2]) (fun i hi => ?_)
        have hfi := hf i hi
        rw [List.getElem?_eq_getElem (by omega)] at hfi
        rw [← hc.1] at hfi
        exact flat_of_trod n e l m' _ _ hl hfi
      · cases hk
    · cases h

/-- A struct or an array by value. -/
theorem open_flat {r : Reach} {b0 : Nat} {n : Nat} {t : TypeId} {ks : List (Option IntKind)} {v : Value} {d : DataW H} {p : List MemPlace} (hf : flatKinds P n t = some ks) (ha : (∃ fs, P.underlying t = some (.struct fs)) ∨ ∃ m e, P.underlying t = some (.array m e))
    (hv : Value.okWide P w r b0 t v) (h : DataW.Trod enc P w base spare held t v d p) : ∃ cs : List Value, v = .agg cs.toArray ∧ rowOk ks cs := by
  obtain ⟨fuel, ht⟩ := h
  have hr := flat_of_trod n t ks fuel _ _ hf ht
  have : ∃ cs, v = .agg cs := by
    unfold Value.okWide at hv
    rcases ha with ⟨fs, hu⟩ | ⟨m, e, hu⟩ <;> rw [hu] at hv <;> exact ⟨_, hv.choose_spec.1⟩
  obtain ⟨cs, rfl⟩ := this
  exact ⟨cs.toList, rfl, by simpa [Value.cells] using hr⟩

/-- A slice of flat elements, as the walk wants it: where it has elements, its cells are there, row by row. -/
def SliceOk (ks : List (Option IntKind)) (w : World) (a : Option Addr) (len cap : Nat) (f : Nat → List Value) : Prop :=
  len ≤ cap ∧ cap ≤ maxLen ∧ (a = none → cap = 0) ∧ (0 < cap → ∃ b off, a = some ⟨b, off, none⟩ ∧ b < w.heap.size ∧ ∀ i, i < cap → rowOk ks (f i) ∧ ∀ j, j < ks.length → w.cell? ⟨b, off + (i * ks.length + j), none⟩ = some ((f i).getD j undef))

theorem SliceOk.at {ks : List (Option IntKind)} {w : World} {a : Option Addr} {len cap : Nat} {f : Nat → List Value} (h : SliceOk ks w a len cap f) {i : Nat} (hi : i < len) :
    ∃ b off, a = some ⟨b, off, none⟩ ∧ b < w.heap.size ∧ rowOk ks (f i) ∧ ∀ j, j < ks.length → w.cell? ⟨b, off + (i * ks.length + j), none⟩ = some ((f i).getD j undef) := by
  obtain ⟨hl, _, _, hx⟩ := h
  obtain ⟨b, off, ha, hb, hc⟩ := hx (by omega)
  exact ⟨b, off, ha, hb, (hc i (by omega)).1, (hc i (by omega)).2⟩
theorem SliceOk.int1 {k : IntKind} {w : World} {a : Option Addr} {len cap : Nat} {f : Nat → List Value} (h : SliceOk [some k] w a len cap f) {i : Nat} (hi : i < len) :
    ∃ b off n, a = some ⟨b, off, none⟩ ∧ b < w.heap.size ∧ f i = [.int k n] ∧ (Lit.int k n).wf = true ∧ w.cell? ⟨b, off + i, none⟩ = some (.int k n) := by
  obtain ⟨b, off, ha, hb, hr, hc⟩ := h.at hi
  obtain ⟨n, r, hf, hw, hr⟩ := rowOk_int hr
  obtain rfl := rowOk_nil hr
  have := hc 0 (by simp)
  rw [hf] at this
  exact ⟨b, off, n, ha, hb, hf, hw, by simpa using this⟩
theorem SliceOk.int2 {k k' : IntKind} {w : World} {a : Option Addr} {len cap : Nat} {f : Nat → List Value} (h : SliceOk [some k, some k'] w a len cap f) {i : Nat} (hi : i < len) :
    ∃ b off n n', a = some ⟨b, off, none⟩ ∧ b < w.heap.size ∧ f i = [.int k n, .int k' n'] ∧ (Lit.int k n).wf = true ∧ (Lit.int k' n').wf = true ∧ w.cell? ⟨b, off + i * 2, none⟩ = some (.int k n) ∧ w.cell? ⟨b, off + i * 2 + 1, none⟩ = some (.int k' n') := by
  obtain ⟨b, off, ha, hb, hr, hc⟩ := h.at hi
  obtain ⟨n, r, hf, hw, hr⟩ := rowOk_int hr
  obtain ⟨n', r, rfl, hw', hr⟩ := rowOk_int hr
  obtain rfl := rowOk_nil hr
  have h0 := hc 0 (by simp)
  have h1 := hc 1 (by simp)
  rw [hf] at h0 h1
  exact ⟨b, off, n, n', ha, hb, hf, hw, hw', by simpa using h0, by simpa [Nat.add_assoc] using h1⟩

theorem open_flats {r : Reach} {b0 : Nat} {n : Nat} {t e : TypeId} {k : Option IntKind} {ks : List (Option IntKind)} {v : Value} {d : DataW H} {p : List MemPlace} (ht : P.underlying t = some (.slice e)) (hf : flatKinds P n e = some (k :: ks)) (hc : P.cellsOf e = (k :: ks).length)
    (hv : Value.okWide P w r b0 t v) (h : DataW.Trod enc P w base (fun _ => true) held t v d p) : ∃ a len cap f, v = .slice a len cap ∧ SliceOk (k :: ks) w a len cap f ∧ ((d = .nil ∧ cap = 0) ∨ ∃ el sp, d = .slice el sp ∧ el.length + sp.length = cap) := by
  obtain ⟨a, len, cap, rfl⟩ := okWide_slice ht hv
  obtain ⟨fuel, hd⟩ := h
  rcases open_slice ht hd with ⟨hcs, hxd⟩ | ⟨x, l, c, m, n', D, Pl, hcs, _, hl, hm, hmm, hxd, hx⟩
  · simp [Value.cells] at hcs
    obtain ⟨rfl, rfl, rfl⟩ := hcs
    simp only [Prod.mk.injEq] at hxd
    exact ⟨_, _, _, fun _ => [], rfl, ⟨Nat.le_refl _, Nat.zero_le _, fun _ => rfl, fun h => absurd h (Nat.lt_irrefl _)⟩, .inl ⟨hxd.1, rfl⟩⟩
  · simp [Value.cells] at hcs
    obtain ⟨rfl, rfl, rfl⟩ := hcs
    simp only [if_true] at hmm
    subst hmm
    obtain ⟨f, hfx⟩ := choose_lt (α := List Value) (p := fun i cs' => w.cells? base (x.add (i * P.cellsOf e)) (P.cellsOf e) = some cs' ∧ rowOk (k :: ks) cs') (fun i hi => by
      obtain ⟨cs', h1, h2⟩ := hx i hi
      exact ⟨cs', h1, flat_of_trod n e _ n' _ _ hf h2⟩)
    simp only [Prod.mk.injEq] at hxd
    refine ⟨_, _, _, f, rfl, ⟨hl, hm, (fun h => by cases h), fun hpos => ?_⟩, .inr ⟨_, _, hxd.1, by simp; omega⟩⟩
    obtain ⟨b, off, spot⟩ := x
    have hcell : ∀ i, i < m → ∀ j, j < (k :: ks).length → w.cell? ((⟨b, off, spot⟩ : Addr).add (i * (k :: ks).length + j)) = some ((f i).getD j undef) := by
      intro i hi j hj
      obtain ⟨h1, h2⟩ := hfx i hi
      rw [hc] at h1
      obtain ⟨_, h3, h4⟩ := World.cells?_some h1
      have h5 := h4 j hj
      rw [add_add] at h5
      rw [h5]
      have hlen := rowOk_length h2
      have hjl : j < (f i).length := by omega
      rw [List.getElem?_eq_getElem hjl]
      simp [List.getD, List.getElem?_eq_getElem hjl]
    have hspot : spot = none := by
      have := hcell 0 hpos 0 (by simp)
      simpa [Addr.add] using World.cell?_spot this
    subst hspot
    refine ⟨b, off, rfl, ?_, fun i hi => ⟨(hfx i hi).2, fun j hj => ?_⟩⟩
    · have h0 := hcell 0 hpos 0 (by simp)
      simpa [Addr.add] using World.block_lt_of_cell? w _ h0
    · have := hcell i hi j hj
      rwa [add_plain] at this

end

theorem ret_int {k : IntKind} {a b : Int} (h : a = b) : Ending.returned (.int k a) = .returned (.int k b) := by rw [h]
theorem ret_bool {a b : Bool} (h : a = b) : Ending.returned (.bool a) = .returned (.bool b) := by rw [h]

/-! ### 'later': a world of which nothing is known but that what was there is as it was -/

def Lat (W : World) : Type := { w' : World // Below W.heap.size W w' }
instance latNonempty (W : World) : Nonempty (Lat W) := ⟨⟨W, Below.refl _ _⟩⟩
def later (W : World) (x : Lat W) : World := x.1
theorem later_below (W : World) (x : Lat W) : Below W.heap.size W (later W x) := x.2
/-- There is such a block: stated so that the walk's simp finds it through new blocks and 'later'. -/
def Has (w : World) (b : Nat) : Prop := b < w.heap.size
/-- The same, not to be rewritten. -/
def HasYet (w : World) (b : Nat) : Prop := Has w b
@[go_sem low] theorem has_base {w : World} {b : Nat} : Has w b ↔ (b < w.heap.size ∨ HasYet w b) := ⟨fun h => .inl h, fun h => h.elim id id⟩
@[go_sem] theorem has_alloc {w : World} {o : Obj} {b : Nat} : Has (w.alloc o) b ↔ b = w.heap.size ∨ Has w b := by show b < _ ↔ b = _ ∨ b < _; simp; omega
@[go_sem] theorem has_setCell {w : World} {p : Addr} {u : Value} {b : Nat} : Has (w.setCell p u) b ↔ Has w b := by
  show b < _ ↔ b < _
  simp [World.setCell]
@[go_sem] theorem has_drew {w : World} {b : Nat} : Has w.drew b ↔ Has w b := Iff.rfl
theorem has_later_of {W : World} {x : Lat W} {b : Nat} (h : Has W b) : Has (later W x) b := Nat.lt_of_lt_of_le h (later_below W x).size
@[go_sem] theorem has_later {W : World} {x : Lat W} {b : Nat} : Has (later W x) b ↔ (Has W b ∨ HasYet (later W x) b) := ⟨fun h => .inr h, fun h => h.elim has_later_of id⟩
@[go_sem] theorem later_cell (W : World) (x : Lat W) (a : Addr) (h : Has W a.block) : (later W x).cell? a = W.cell? a := (later_below W x).cell h
@[go_sem] theorem later_frozen (W : World) (x : Lat W) (a : Addr) (h : Has W a.block) : (later W x).frozen? a = W.frozen? a := (later_below W x).frozen h
@[go_sem high] theorem alloc_old_cell (w : World) (o : Obj) (a : Addr) (h : Has w a.block) : (w.alloc o).cell? a = w.cell? a := World.cell?_of_block (w := w) (Below.heap_alloc w o a.block h)
@[go_sem high] theorem alloc_old_frozen (w : World) (o : Obj) (a : Addr) (h : Has w a.block) : (w.alloc o).frozen? a = w.frozen? a := World.frozen?_of_block (w := w) (Below.heap_alloc w o a.block h)
theorem later_heap (W : World) (x : Lat W) (k : Nat) (h : k < W.heap.size) : (later W x).heap[k]? = W.heap[k]? := (later_below W x).block k h
theorem later_size (W : World) (x : Lat W) : W.heap.size ≤ (later W x).heap.size := (later_below W x).size
theorem later_of {W w' : World} (h : Below W.heap.size W w') : ∃ x, w' = later W x := ⟨⟨w', h⟩, rfl⟩

/-- Below, and nothing has gone: what a law's walk carries along. -/
def Bel (B : Nat) (a w : World) : Prop := Below B a w ∧ B ≤ w.heap.size
theorem Bel.refl (w : World) : Bel w.heap.size w w := ⟨Below.refl _ _, Nat.le_refl _⟩
theorem Bel.of {B : Nat} {a w w' : World} (h : Bel B a w) (hb : Below w.heap.size w w') : Bel B a w' := ⟨h.1.trans (hb.mono h.2), Nat.le_trans h.2 hb.size⟩
theorem Bel.later {B : Nat} {a w : World} {x : Lat w} (h : Bel B a w) : Bel B a (Proofs.Ytklgfnboadchmaa.later w x) := h.of (later_below w x)
theorem Bel.alloc {B : Nat} {a w : World} {o : Obj} (h : Bel B a w) : Bel B a (w.alloc o) := h.of ((Below.refl _ _).alloc (Nat.le_refl _) _)
theorem Bel.drew {B : Nat} {a w : World} (h : Bel B a w) : Bel B a w.drew := h.of (Below.refl _ _).drew
theorem Bel.setCell {B : Nat} {a w : World} {p : Addr} {u : Value} (h : Bel B a w) (hp : B ≤ p.block) : Bel B a (w.setCell p u) := ⟨h.1.setCell hp u, by have := h.2; simpa [World.setCell] using this⟩
theorem Bel.trans {B B' : Nat} {a b c : World} (h : Bel B a b) (k : Bel B' b c) (hB : B ≤ B') : Bel B a c := ⟨h.1.trans (k.1.mono hB), Nat.le_trans hB k.2⟩

/-- What was there is as it was, but for block b; nothing has gone. -/
def Upd (b : Nat) (a w : World) : Prop := a.grownBy w (some b)
theorem Upd.refl (b : Nat) (w : World) : Upd b w w := ⟨rfl, rfl, rfl, Nat.le_refl _, fun _ _ _ => rfl⟩
theorem Upd.trans {b : Nat} {a c w : World} (h : Upd b a c) (k : Upd b c w) : Upd b a w :=
  ⟨k.os.trans h.os, k.tape.trans h.tape, k.output.trans h.output, Nat.le_trans h.size k.size, fun i hi hne => (k.block i (Nat.lt_of_lt_of_le hi h.size) hne).trans (h.block i hi hne)⟩
theorem Upd.of_below {b : Nat} {a w : World} (h : Below a.heap.size a w) : Upd b a w := ⟨h.os, h.tape, h.output, h.size, fun i hi _ => h.block i hi⟩
theorem Upd.later {b : Nat} {a w : World} {x : Lat w} (h : Upd b a w) : Upd b a (Proofs.Ytklgfnboadchmaa.later w x) := h.trans (.of_below (later_below w x))
theorem Upd.alloc {b : Nat} {a w : World} {o : Obj} (h : Upd b a w) : Upd b a (w.alloc o) := h.trans (.of_below ((Below.refl _ _).alloc (Nat.le_refl _) _))
theorem Upd.drew {b : Nat} {a w : World} (h : Upd b a w) : Upd b a w.drew := h.trans (.of_below (Below.refl _ _).drew)
theorem Upd.setCell {b o : Nat} {a w : World} {s : Option Nat} {u : Value} (h : Upd b a w) : Upd b a (w.setCell ⟨b, o, s⟩ u) :=
  h.trans ⟨rfl, rfl, rfl, by simp [World.setCell], fun i _ hne => Below.heap_setCell _ _ _ _ (by rintro rfl; exact hne rfl)⟩
/-- A block that is written from B on: all below B is as it was. -/
theorem Bel.upd {B b : Nat} {a w w' : World} (h : Bel B a w) (hu : Upd b w w') (hb : B ≤ b) : Bel B a w' :=
  ⟨h.1.trans ⟨hu.os, hu.tape, hu.output, hu.size, fun k hk => hu.block k (Nat.lt_of_lt_of_le hk h.2) (by rintro ⟨⟩; omega)⟩, Nat.le_trans h.2 hu.size⟩
theorem Bel.append {B : Nat} {a w w' : World} {o : Obj} {e : TypeId} {size n : Nat} {v : Value} {xs : List Value} (h : Bel B a w) (hown : w.ownsRow B e size v n xs) (hg : (w.alloc o).grownBy w' v.ownBlock) : Bel B a w' :=
  ⟨h.alloc.1.grown hg h.alloc.2 (fun q hq => (hown.lt q hq).1), Nat.le_trans h.alloc.2 hg.size⟩
theorem heap_later {w : World} {x : Lat w} {b : Nat} {o : Obj} (h : w.heap[b]? = some o) : (later w x).heap[b]? = some o :=
  (later_heap w x b (Array.getElem?_eq_some_iff.1 h).1).trans h
theorem heap_alloc {w : World} {b : Nat} {o o' : Obj} (h : w.heap[b]? = some o) : (w.alloc o').heap[b]? = some o :=
  (Below.heap_alloc w o' b (Array.getElem?_eq_some_iff.1 h).1).trans h
theorem heap_upd {w w' : World} {b b' : Nat} {o : Obj} (h : w.heap[b]? = some o) (hu : Upd b' w w') (hne : b ≠ b') : w'.heap[b]? = some o :=
  (hu.block b (Array.getElem?_eq_some_iff.1 h).1 (by rintro ⟨⟩; exact hne rfl)).trans h
theorem heap_setCell_at {w : World} {b o : Nat} {cs : Array Value} {t : TypeId} {fr : Nat × Nat} {u : Value} (h : w.heap[b]? = some (.cells cs t fr)) : (w.setCell ⟨b, o, none⟩ u).heap[b]? = some (.cells (cs.setIfInBounds o u) t fr) := by
  simp [World.setCell, Array.getElem?_modify, h]
theorem heap_setCell_ne {w : World} {b : Nat} {a : Addr} {o : Obj} {u : Value} (h : w.heap[b]? = some o) (hne : b ≠ a.block) : (w.setCell a u).heap[b]? = some o :=
  (Below.heap_setCell _ _ _ _ hne).trans h
theorem lt_heap {w : World} {b : Nat} {o : Obj} (h : w.heap[b]? = some o) : b < w.heap.size := (Array.getElem?_eq_some_iff.1 h).1

/-- A world of which nothing is known but that what was there, but for block b, is as it was. -/
def LatB (b : Nat) (W : World) : Type := { w' : World // Upd b W w' }
def laterB (b : Nat) (W : World) (x : LatB b W) : World := x.1
theorem laterB_upd (b : Nat) (W : World) (x : LatB b W) : Upd b W (laterB b W x) := x.2
@[go_sem] theorem laterB_cell (b : Nat) (W : World) (x : LatB b W) (a : Addr) (h : Has W a.block) (hne : a.block ≠ b) : (laterB b W x).cell? a = W.cell? a :=
  World.cell?_of_block (w := W) ((laterB_upd b W x).block a.block h (by rintro ⟨⟩; exact hne rfl))
@[go_sem] theorem laterB_frozen (b : Nat) (W : World) (x : LatB b W) (a : Addr) (h : Has W a.block) (hne : a.block ≠ b) : (laterB b W x).frozen? a = W.frozen? a :=
  World.frozen?_of_block (w := W) ((laterB_upd b W x).block a.block h (by rintro ⟨⟩; exact hne rfl))
theorem has_laterB_of {b : Nat} {W : World} {x : LatB b W} {c : Nat} (h : Has W c) : Has (laterB b W x) c := Nat.lt_of_lt_of_le h (laterB_upd b W x).size
@[go_sem] theorem has_laterB {b : Nat} {W : World} {x : LatB b W} {c : Nat} : Has (laterB b W x) c ↔ (Has W c ∨ HasYet (laterB b W x) c) := ⟨fun h => .inr h, fun h => h.elim has_laterB_of id⟩
theorem Bel.laterB {B b : Nat} {a w : World} {x : LatB b w} (h : Bel B a w) (hb : B ≤ b) : Bel B a (Proofs.Ytklgfnboadchmaa.laterB b w x) := h.upd (laterB_upd b w x) hb
theorem heap_laterB {w : World} {b c : Nat} {x : LatB c w} {o : Obj} (h : w.heap[b]? = some o) (hne : b ≠ c) : (laterB c w x).heap[b]? = some o := heap_upd h (laterB_upd c w x) hne

/-- Where a slice of n integers lies, and which. -/
def IntsAt (k : IntKind) (w : World) (a : Option Addr) (n : Nat) (l : List Int) : Prop :=
  l.length = n ∧ (0 < n → ∃ g o, a = some ⟨g, o, none⟩ ∧ HasYet w g ∧ ∀ i, i < n → w.cell? ⟨g, o + i, none⟩ = some (.int k (l.getD i 0)))
theorem IntsAt.later {k : IntKind} {w : World} {a : Option Addr} {n : Nat} {l : List Int} {x : Lat w} (h : IntsAt k w a n l) : IntsAt k (Proofs.Ytklgfnboadchmaa.later w x) a n l :=
  ⟨h.1, fun hn => let ⟨g, o, ha, hg, hc⟩ := h.2 hn; ⟨g, o, ha, has_later_of hg, fun i hi => (later_cell w x ⟨g, o + i, none⟩ hg).trans (hc i hi)⟩⟩
theorem IntsAt.alloc {k : IntKind} {w : World} {a : Option Addr} {n : Nat} {l : List Int} {ob : Obj} (h : IntsAt k w a n l) : IntsAt k (w.alloc ob) a n l :=
  ⟨h.1, fun hn => let ⟨g, o, ha, hg, hc⟩ := h.2 hn; ⟨g, o, ha, (has_alloc.2 (.inr hg) : Has _ _), fun i hi => (alloc_old_cell w ob ⟨g, o + i, none⟩ hg).trans (hc i hi)⟩⟩
theorem IntsAt.bel {k : IntKind} {w w' : World} {a : Option Addr} {n : Nat} {l : List Int} (h : IntsAt k w a n l) (hb : Bel w.heap.size w w') : IntsAt k w' a n l :=
  ⟨h.1, fun hn => let ⟨g, o, ha, hg, hc⟩ := h.2 hn; ⟨g, o, ha, Nat.lt_of_lt_of_le hg hb.2, fun i hi => (hb.1.cell (p := ⟨g, o + i, none⟩) hg).trans (hc i hi)⟩⟩
/-- A slice that the call owns, as one that is read. -/
theorem ints_of_owned {k : IntKind} {w : World} {B : Nat} {e : TypeId} {v : Value} {l : List Int} (h : w.ownsRow B e 1 v l.length (l.map (Value.int k))) : ∃ a c, v = .slice a l.length c ∧ l.length ≤ c ∧ c ≤ maxLen ∧ IntsAt k w a l.length l ∧ (a = none → c = 0) := by
  rcases h.2 with ⟨rfl, hn⟩ | ⟨g, cap, cur, rfl, hb, hg, hle, hm, hs, ht⟩
  · have hl : l = [] := List.eq_nil_of_length_eq_zero hn
    subst hl
    exact ⟨none, 0, rfl, Nat.le_refl _, Nat.zero_le _, ⟨rfl, fun h => absurd h (Nat.lt_irrefl _)⟩, fun _ => rfl⟩
  · refine ⟨_, cap, rfl, hle, hm, ⟨rfl, fun hn => ⟨g, 0, rfl, lt_heap hg, fun i hi => ?_⟩⟩, fun h => by cases h⟩
    rw [Nat.mul_one] at ht
    have h1 : (cur.toList.take l.length)[i]? = (l.map (Value.int k))[i]? := by rw [ht]
    rw [List.getElem?_take, if_pos hi] at h1
    have h2 : w.cell? ⟨g, 0 + i, none⟩ = cur[i]? := by simp [World.cell?, hg]
    rw [h2, ← Array.getElem?_toList, h1]
    simp [List.getD, List.getElem?_eq_getElem hi]

section
variable {P : Program}
theorem Calls.latB {f : FuncId} {args : Array Value} {w : World} {b : Nat} {E : Ending → Prop} {R : World → Prop} (h : Calls P f args w fun e w' => E e ∧ Upd b w w' ∧ R w') : Calls P f args w fun e w' => E e ∧ ∃ x, w' = laterB b w x ∧ R w' :=
  h.mono fun _ w' ⟨he, hu, hr⟩ => ⟨he, ⟨w', hu⟩, rfl, hr⟩
/-- A contract's 'Below' as 'later'. -/
theorem Calls.lat {f : FuncId} {args : Array Value} {w : World} {E : Ending → Prop} (h : Calls P f args w fun e w' => E e ∧ Below w.heap.size w w') : Calls P f args w fun e w' => E e ∧ ∃ x, w' = later w x :=
  h.mono fun _ _ ⟨he, hb⟩ => ⟨he, later_of hb⟩

/-- A region that draws its order and only reads, or calls what leaves all that was there as it was: walked once. -/
theorem wp_region_later {id : Nat} {Q : Exit → Act → World → Prop} {a : Act} {w : World} {l : List Oper} (hm : P.follows .mixedOrders = true) (hB : Region.lexB .any l.toArray = true)
    (h : wpQuiet P l.toArray (fun w' => ∃ x, w' = later w x) (fun a' => ∀ w', (∃ x, w' = later w x) → Q .normal a' w') l a) : (Code.region id l.toArray true).wp P Q a w :=
  wp_region_quiet (C := fun w' => ∃ x, w' = later w x) hm hB (later_of (Below.refl _ _).drew) (by simpa using h)

theorem Calls.later_of {f : FuncId} {args : Array Value} {w : World} {x : Lat w} {v : Value}
    (h : Calls P f args (later w x) fun e w' => e = .returned v ∧ Below (later w x).heap.size (later w x) w') : Calls P f args (later w x) fun e w'' => e = .returned v ∧ ∃ m, w'' = later w m :=
  h.mono fun _ _ ⟨he, hb⟩ => ⟨he, Proofs.Ytklgfnboadchmaa.later_of ((later_below w x).trans (hb.mono (later_size w x)))⟩

theorem Calls.later_same {f : FuncId} {args : Array Value} {w : World} {x : Lat w} {v : Value}
    (h : Calls P f args (later w x) fun e w' => e = .returned v ∧ later w x = w') : Calls P f args (later w x) fun e w'' => e = .returned v ∧ ∃ m, w'' = later w m :=
  h.mono fun _ _ ⟨he, hm⟩ => ⟨he, x, hm.symm⟩
end

end Go.Proofs.Ytklgfnboadchmaa
end

section
/- Plain: a binary heap in a list, as container/heap keeps it; no program in sight. -/
namespace Go.Proofs.Ytklgfnboadchmaa
set_option linter.unusedVariables false

section
variable {α : Type} [Inhabited α] (lt : α → α → Bool)

/-- What the order is to be. -/
structure Ordered : Prop where
  asymm : ∀ a b, lt a b = true → lt b a = false
  trans : ∀ a b c, lt b a = false → lt c b = false → lt c a = false

def atL (l : List α) (i : Nat) : α := l.getD i default
def swapL (l : List α) (i k : Nat) : List α := (l.set i (atL l k)).set k (atL l i)
def par (i : Nat) : Nat := (i - 1) / 2

theorem swapL_length (l : List α) (i k : Nat) : (swapL l i k).length = l.length := by simp [swapL]
theorem atL_eq {l : List α} {i : Nat} (h : i < l.length) : atL l i = l[i] := by simp [atL, List.getD, List.getElem?_eq_getElem h]
theorem atL_swap {l : List α} {i k : Nat} (hi : i < l.length) (hk : k < l.length) (x : Nat) : atL (swapL l i k) x = if x = k then atL l i else if x = i then atL l k else atL l x := by
  unfold swapL
  by_cases h1 : x = k
  · subst h1
    rw [if_pos rfl, atL, List.getD, List.getElem?_set_self (by simpa using hk)]
    rfl
  · rw [if_neg h1, atL, List.getD, List.getElem?_set_ne (fun h => h1 h.symm)]
    by_cases h2 : x = i
    · subst h2
      rw [if_pos rfl, List.getElem?_set_self hi]
      rfl
    · rw [if_neg h2, List.getElem?_set_ne (fun h => h2 h.symm)]
      rfl
theorem swapL_perm {l : List α} {i k : Nat} (hi : i < l.length) (hk : k < l.length) : (swapL l i k).Perm l := by
  unfold swapL
  rw [atL_eq hi, atL_eq hk]
  exact List.set_set_perm hi hk

/-- No element is ahead of its parent. -/
def Rel (l : List α) (x : Nat) : Prop := lt (atL l x) (atL l (par x)) = false
def HeapN (l : List α) (n : Nat) : Prop := ∀ x, 0 < x → x < n → Rel lt l x
/-- But at j, which may be ahead of its parent. -/
def HeapU (l : List α) (n j : Nat) : Prop := (∀ x, 0 < x → x < n → x ≠ j → Rel lt l x) ∧ ∀ x, 0 < x → x < n → par x = j → 0 < j → lt (atL l x) (atL l (par j)) = false
/-- But at i, of which its children may be ahead. -/
def HeapD (l : List α) (n i : Nat) : Prop := (∀ x, 0 < x → x < n → par x ≠ i → x ≠ i → Rel lt l x) ∧ ∀ x, 0 < x → x < n → par x = i → 0 < i → lt (atL l x) (atL l (par i)) = false

/-- container/heap's up. -/
def upL : Nat → List α → Nat → List α
  | 0, l, _ => l
  | f + 1, l, j => if par j = j then l else if lt (atL l j) (atL l (par j)) then upL f (swapL l (par j) j) (par j) else l
/-- The child that is ahead. -/
def kid (n : Nat) (l : List α) (i : Nat) : Nat := if 2 * i + 2 < n ∧ lt (atL l (2 * i + 2)) (atL l (2 * i + 1)) = true then 2 * i + 2 else 2 * i + 1
/-- .. and its down: the list, and where it ended. -/
def downL (n : Nat) : Nat → List α → Nat → List α × Nat
  | 0, l, i => (l, i)
  | f + 1, l, i =>
    if n ≤ 2 * i + 1 then (l, i) else
    if lt (atL l (kid lt n l i)) (atL l i) then downL n f (swapL l i (kid lt n l i)) (kid lt n l i) else (l, i)

variable {lt}
theorem kid_lt {n i : Nat} {l : List α} (h : ¬ n ≤ 2 * i + 1) : par (kid lt n l i) = i ∧ i < kid lt n l i ∧ kid lt n l i < n := by
  unfold kid par
  split <;> omega
theorem kid_min (H : Ordered lt) {n i : Nat} {l : List α} : ∀ x, 0 < x → x < n → par x = i → lt (atL l x) (atL l (kid lt n l i)) = false := by
  intro x h0 hx hpx
  have hself : ∀ a : α, lt a a = false := fun a => by
    cases hs : lt a a
    · rfl
    · have := H.asymm _ _ hs; rw [hs] at this; exact this
  have hx2 : x = 2 * i + 1 ∨ x = 2 * i + 2 := by unfold par at hpx; omega
  unfold kid
  by_cases hc : 2 * i + 2 < n ∧ lt (atL l (2 * i + 2)) (atL l (2 * i + 1)) = true
  · rw [if_pos hc]
    rcases hx2 with rfl | rfl
    · exact H.asymm _ _ hc.2
    · exact hself _
  · rw [if_neg hc]
    rcases hx2 with rfl | rfl
    · exact hself _
    · cases hs : lt (atL l (2 * i + 2)) (atL l (2 * i + 1))
      · rfl
      · exact absurd ⟨hx, hs⟩ hc
theorem upL_length : ∀ (f : Nat) (l : List α) (j : Nat), (upL lt f l j).length = l.length
  | 0, _, _ => rfl
  | f + 1, l, j => by
    unfold upL
    split
    · rfl
    · split
      · rw [upL_length f, swapL_length]
      · rfl
theorem upL_perm : ∀ (f : Nat) (l : List α) (j : Nat), j < l.length → (upL lt f l j).Perm l
  | 0, _, _, _ => List.Perm.refl _
  | f + 1, l, j, hj => by
    have hp : par j < l.length := by unfold par; omega
    unfold upL
    split
    · exact List.Perm.refl _
    · split
      · exact (upL_perm f _ _ (by rw [swapL_length]; exact hp)).trans (swapL_perm hp hj)
      · exact List.Perm.refl _
theorem downL_length {n : Nat} : ∀ (f : Nat) (l : List α) (i : Nat), (downL lt n f l i).1.length = l.length
  | 0, _, _ => rfl
  | f + 1, l, i => by
    unfold downL
    split
    · rfl
    · split
      · rw [downL_length f, swapL_length]
      · rfl
theorem downL_perm {n : Nat} : ∀ (f : Nat) (l : List α) (i : Nat), n ≤ l.length → i < l.length → (downL lt n f l i).1.Perm l
  | 0, _, _, _, _ => List.Perm.refl _
  | f + 1, l, i, hn, hi => by
    unfold downL
    split
    · exact List.Perm.refl _
    · rename_i hb
      have hj : kid lt n l i < l.length := by have := kid_lt (lt := lt) (l := l) hb; omega
      split
      · exact (downL_perm f _ _ (by rw [swapL_length]; exact hn) (by rw [swapL_length]; exact hj)).trans (swapL_perm hi hj)
      · exact List.Perm.refl _
/-- What lies behind n stays. -/
theorem downL_behind {n : Nat} : ∀ (f : Nat) (l : List α) (i : Nat), n ≤ l.length → i < n → ∀ x, n ≤ x → atL (downL lt n f l i).1 x = atL l x
  | 0, _, _, _, _, _, _ => rfl
  | f + 1, l, i, hn, hi, x, hx => by
    unfold downL
    split
    · rfl
    · rename_i hb
      have hj : kid lt n l i < n := (kid_lt (lt := lt) (l := l) hb).2.2
      split
      · rw [downL_behind f _ _ (by rw [swapL_length]; exact hn) hj x hx, atL_swap (by omega) (by omega), if_neg (by omega), if_neg (by omega)]
      · rfl

theorem up_heap (H : Ordered lt) {n : Nat} : ∀ (f : Nat) (l : List α) (j : Nat), j ≤ f → j < n → n ≤ l.length → HeapU lt l n j → HeapN lt (upL lt f l j) n
  | 0, l, j, hf, hj, hn, hu => by
    intro x h0 hx
    exact hu.1 x h0 hx (by omega)
  | f + 1, l, j, hf, hj, hn, hu => by
    unfold upL
    split
    · rename_i hp
      intro x h0 hx
      exact hu.1 x h0 hx (by unfold par at hp; omega)
    · rename_i hp
      have hpj : par j < j := by unfold par at *; omega
      split
      · rename_i hlt
        refine up_heap H f _ _ (by omega) (by omega) (by rw [swapL_length]; exact hn) ⟨fun x h0 hx hne => ?_, fun x h0 hx hpx hp0 => ?_⟩
        · unfold Rel
          rw [atL_swap (by omega) (by omega), atL_swap (by omega) (by omega)]
          by_cases e1 : x = j
          · subst e1
            rw [if_pos rfl, if_neg (by omega), if_pos rfl]
            exact H.asymm _ _ hlt
          · rw [if_neg e1, if_neg hne]
            by_cases e2 : par x = j
            · rw [if_pos e2]
              exact hu.2 x h0 hx e2 (by omega)
            · rw [if_neg e2]
              by_cases e3 : par x = par j
              · rw [if_pos e3]
                have h1 := hu.1 x h0 hx e1
                unfold Rel at h1
                rw [e3] at h1
                exact H.trans _ _ _ (H.asymm _ _ hlt) h1
              · rw [if_neg e3]
                exact hu.1 x h0 hx e1
        · rw [atL_swap (by omega) (by omega), atL_swap (by omega) (by omega)]
          have hpp : par (par j) < par j := by
            revert hp0
            unfold par
            omega
          rw [if_neg (show par (par j) ≠ j by omega), if_neg (show par (par j) ≠ par j by omega)]
          have h2 := hu.1 (par j) hp0 (by omega) (by omega)
          by_cases e1 : x = j
          · rw [if_pos e1]
            exact h2
          · rw [if_neg e1]
            have hxp : x ≠ par j := by
              rintro rfl
              revert hpx
              unfold par at *
              omega
            rw [if_neg hxp]
            have h1 := hu.1 x h0 hx e1
            unfold Rel at h1 h2
            rw [hpx] at h1
            exact H.trans _ _ _ h2 h1
      · rename_i hlt
        intro x h0 hx
        by_cases e : x = j
        · subst e
          unfold Rel
          simpa using hlt
        · exact hu.1 x h0 hx e

theorem down_heap (H : Ordered lt) {n : Nat} : ∀ (f : Nat) (l : List α) (i : Nat), n ≤ f + i → i < n → n ≤ l.length → HeapD lt l n i → (0 < i → Rel lt l i) → HeapN lt (downL lt n f l i).1 n
  | 0, l, i, hf, hi, hn, hd, hr => by omega
  | f + 1, l, i, hf, hi, hn, hd, hr => by
    unfold downL
    split
    · intro x h0 hx
      by_cases e : x = i
      · subst e; exact hr h0
      · exact hd.1 x h0 hx (by unfold par; omega) e
    · rename_i hb
      obtain ⟨hjp, hij, hjn⟩ := kid_lt (lt := lt) (l := l) hb
      have hmin := kid_min H (n := n) (i := i) (l := l)
      generalize kid lt n l i = j at *
      split
      · rename_i hlt
        refine down_heap H f _ _ (by omega) hjn (by rw [swapL_length]; exact hn) ⟨fun x h0 hx hpx hne => ?_, fun x h0 hx hpx hp0 => ?_⟩ (fun h0 => ?_)
        · unfold Rel
          rw [atL_swap (by omega) (by omega), atL_swap (by omega) (by omega)]
          rw [if_neg hne, if_neg hpx]
          by_cases e1 : x = i
          · subst e1
            have hpi : par x ≠ x := by unfold par; omega
            rw [if_pos rfl, if_neg hpi]
            exact hd.2 j (by omega) hjn hjp h0
          · rw [if_neg e1]
            by_cases e2 : par x = i
            · rw [if_pos e2]
              exact hmin x h0 hx e2
            · rw [if_neg e2]
              exact hd.1 x h0 hx e2 e1
        · have hxj : x ≠ j := by rintro rfl; revert hpx; unfold par; omega
          have hxi : x ≠ i := by rintro rfl; revert hpx; unfold par; omega
          rw [hjp, atL_swap (by omega) (by omega), atL_swap (by omega) (by omega), if_neg hxj, if_neg hxi, if_neg (by omega), if_pos rfl]
          have := hd.1 x h0 hx (by omega) hxi
          unfold Rel at this
          rw [hpx] at this
          exact this
        · unfold Rel
          rw [hjp, atL_swap (by omega) (by omega), atL_swap (by omega) (by omega), if_pos rfl, if_neg (by omega), if_pos rfl]
          exact H.asymm _ _ hlt
      · rename_i hlt
        have hlt2 : lt (atL l j) (atL l i) = false := by simpa using hlt
        intro x h0 hx
        by_cases e : x = i
        · subst e; exact hr h0
        · by_cases e2 : par x = i
          · unfold Rel
            rw [e2]
            exact H.trans _ _ _ hlt2 (hmin x h0 hx e2)
          · exact hd.1 x h0 hx e2 e

end
end Go.Proofs.Ytklgfnboadchmaa
end

section
/- A row of items in memory, behind a struct's field: where it lies, and what stays. -/
namespace Go.Proofs.Ytklgfnboadchmaa
open Go.ChangeShapes Go.WideShapes Go.ChangeAt Go.RowKit
set_option linter.unusedVariables false

section
variable {α : Type}

/-- The struct's block b is 'blk v' (v: the slice); the slice's own block has the items. -/
def RowIn (T : TypeId) (sz : Nat) (enc : α → List Value) (w : World) (b : Nat) (t : TypeId) (blk : Value → Array Value) (v : Value) (l : List α) : Prop :=
  w.heap[b]? = some (.cells (blk v) t (0, 0)) ∧ w.ownsRow (b + 1) T sz v l.length (l.flatMap enc)

/-- The slice lies at place o of the struct. -/
def BlkOk (blk : Value → Array Value) (o : Nat) : Prop := (∀ v, (blk v)[o]? = some v) ∧ ∀ v v', (blk v).setIfInBounds o v' = blk v'

/-- What an operation on the row leaves as it was: all but the struct's block and the slice's own. -/
structure Frm (b : Nat) (v v' : Value) (w w' : World) : Prop where
  os : w'.os = w.os
  tape : w'.tape = w.tape
  output : w'.output = w.output
  size : w.heap.size ≤ w'.heap.size
  block : ∀ i, i < w.heap.size → i ≠ b → some i ≠ v.ownBlock → w'.heap[i]? = w.heap[i]?
  own : v'.ownBlock = v.ownBlock ∨ ∀ g, v'.ownBlock = some g → w.heap.size ≤ g
theorem Frm.refl (b : Nat) (v : Value) (w : World) : Frm b v v w w := ⟨rfl, rfl, rfl, Nat.le_refl _, fun _ _ _ _ => rfl, .inl rfl⟩
theorem Frm.trans {b : Nat} {v v' v'' : Value} {a c d : World} (h : Frm b v v' a c) (k : Frm b v' v'' c d) : Frm b v v'' a d := by
  refine ⟨k.os.trans h.os, k.tape.trans h.tape, k.output.trans h.output, Nat.le_trans h.size k.size, fun i hi hb hv => ?_, ?_⟩
  · refine (k.block i (Nat.lt_of_lt_of_le hi h.size) hb ?_).trans (h.block i hi hb hv)
    rcases h.own with ho | ho
    · rw [ho]; exact hv
    · intro e
      have := ho i e.symm
      omega
  · rcases k.own with ko | ko
    · rw [ko]; exact h.own
    · exact .inr fun g hg => Nat.le_trans h.size (ko g hg)
theorem Frm.of_below {b : Nat} {v : Value} {a w : World} (h : Below a.heap.size a w) : Frm b v v a w := ⟨h.os, h.tape, h.output, h.size, fun i hi _ _ => h.block i hi, .inl rfl⟩
/-- The own block alone was written. -/
theorem Frm.of_upd {b g : Nat} {v : Value} {a w : World} (h : Upd g a w) (hg : v.ownBlock = some g) : Frm b v v a w := ⟨h.os, h.tape, h.output, h.size, fun i hi _ hv => h.block i hi (by rintro ⟨⟩; exact hv hg.symm), .inl rfl⟩
theorem Frm.cell {b : Nat} {v v' : Value} {w w' : World} (h : Frm b v v' w w') {p : Addr} (hp : p.block < w.heap.size) (hb : p.block ≠ b) (hv : some p.block ≠ v.ownBlock) : w'.cell? p = w.cell? p :=
  World.cell?_of_block (w := w) (h.block p.block hp hb hv)
theorem Bel.frm {B b : Nat} {v v' : Value} {a w w' : World} (h : Bel B a w) (hf : Frm b v v' w w') (hb : B ≤ b) (hv : ∀ g, v.ownBlock = some g → B ≤ g) : Bel B a w' :=
  ⟨h.1.trans ⟨hf.os, hf.tape, hf.output, hf.size, fun k hk => hf.block k (Nat.lt_of_lt_of_le hk h.2) (by omega) (fun e => by have := hv k e.symm; omega)⟩, Nat.le_trans h.2 hf.size⟩

variable {T : TypeId} {sz : Nat} {enc : α → List Value} {w w' : World} {b o : Nat} {t : TypeId} {blk : Value → Array Value} {v : Value} {l : List α}

theorem RowIn.lt (h : RowIn T sz enc w b t blk v l) : b < w.heap.size := lt_heap h.1
theorem RowIn.own (h : RowIn T sz enc w b t blk v l) : ∀ g, v.ownBlock = some g → b < g ∧ g < w.heap.size := fun g hg => let ⟨h1, h2⟩ := h.2.lt g hg; ⟨by omega, h2⟩
theorem RowIn.below (h : RowIn T sz enc w b t blk v l) (hb : Below w.heap.size w w') : RowIn T sz enc w' b t blk v l := by
  refine ⟨(hb.block b h.lt).trans h.1, h.2.1, ?_⟩
  rcases h.2.2 with h2 | ⟨g, cap, cur, hv, hg, hh, hr⟩
  · exact .inl h2
  · exact .inr ⟨g, cap, cur, hv, hg, (hb.block g (lt_heap hh)).trans hh, hr⟩
theorem RowIn.later {x : Lat w} (h : RowIn T sz enc w b t blk v l) : RowIn T sz enc (Proofs.Ytklgfnboadchmaa.later w x) b t blk v l := h.below (later_below w x)
theorem RowIn.alloc {ob : Obj} (h : RowIn T sz enc w b t blk v l) : RowIn T sz enc (w.alloc ob) b t blk v l := h.below (Bel.refl w).alloc.1
theorem RowIn.drew (h : RowIn T sz enc w b t blk v l) : RowIn T sz enc w.drew b t blk v l := h
theorem RowIn.field (h : RowIn T sz enc w b t blk v l) (hb : BlkOk blk o) : w.cell? ⟨b, o, none⟩ = some v := by
  have := hb.1 v
  simp [World.cell?, h.1, this]
theorem RowIn.free (h : RowIn T sz enc w b t blk v l) (o : Nat) : w.frozen? ⟨b, o, none⟩ = false := by simp [World.frozen?, h.1]

theorem flat_at [Inhabited α] (he : ∀ x : α, (enc x).length = sz) : ∀ (l : List α) (i j : Nat), i < l.length → j < sz → (l.flatMap enc)[i * sz + j]? = (enc (atL l i))[j]?
  | [], i, _, hi, _ => by simp at hi
  | x :: l, 0, j, _, hj => by
    rw [List.flatMap_cons, Nat.zero_mul, Nat.zero_add, List.getElem?_append_left (by rw [he]; exact hj)]
    rfl
  | x :: l, i + 1, j, hi, hj => by
    rw [List.flatMap_cons, List.getElem?_append_right (by rw [he, Nat.succ_mul]; omega), he, Nat.succ_mul, show i * sz + sz + j - sz = i * sz + j by omega, flat_at he l i j (by simpa using hi) hj]
    rfl
theorem flat_length (he : ∀ x : α, (enc x).length = sz) : ∀ l : List α, (l.flatMap enc).length = l.length * sz
  | [] => by simp
  | x :: l => by rw [List.flatMap_cons, List.length_append, he, flat_length he l, List.length_cons, Nat.succ_mul]; omega

/-- Where it has an item, its cells. -/
theorem RowIn.item [Inhabited α] (h : RowIn T sz enc w b t blk v l) (he : ∀ x : α, (enc x).length = sz) {i : Nat} (hi : i < l.length) : ∃ g cap, v = .slice (some ⟨g, 0, none⟩) l.length cap ∧ l.length ≤ cap ∧ cap ≤ maxLen ∧ b < g ∧ g < w.heap.size ∧
    (∀ k, k < l.length → ∀ j, j < sz → w.cell? ⟨g, k * sz + j, none⟩ = (enc (atL l k))[j]?) ∧ ∀ x, w.frozen? ⟨g, x, none⟩ = false := by
  obtain ⟨_, hl, h2⟩ := h
  rcases h2 with ⟨_, h0⟩ | ⟨g, cap, cur, rfl, hb, hg, hle, hm, hs, ht⟩
  · omega
  · refine ⟨g, cap, rfl, hle, hm, by omega, lt_heap hg, fun k hk j hj => ?_, fun x => by simp [World.frozen?, hg]⟩
    rw [← flat_at he l k j hk hj, ← ht, List.getElem?_take, if_pos, Array.getElem?_toList]
    · simp [World.cell?, hg]
    · have : (k + 1) * sz ≤ l.length * sz := Nat.mul_le_mul_right _ hk
      rw [Nat.succ_mul] at this
      omega

/-- The own block was written: the items anew. -/
theorem RowIn.wrote [Inhabited α] {l' : List α} (h : RowIn T sz enc w b t blk v l) (he : ∀ x : α, (enc x).length = sz) {g cap : Nat} (hv : v = .slice (some ⟨g, 0, none⟩) l.length cap) (hu : Upd g w w') (hl : l'.length = l.length)
    (hc : ∃ cur cur' : Array Value, w.heap[g]? = some (.cells cur T (0, 0)) ∧ w'.heap[g]? = some (.cells cur' T (0, 0)) ∧ cur'.size = cur.size ∧ ∀ k, k < l.length → ∀ j, j < sz → cur'[k * sz + j]? = (enc (atL l' k))[j]?) : RowIn T sz enc w' b t blk v l' := by
  obtain ⟨h1, hl0, h2⟩ := h
  rcases h2 with ⟨rfl, h0⟩ | ⟨g', cap', cur, rfl, hb, hg, hle, hm, hs, ht⟩
  · cases hv
  · simp only [Value.slice.injEq, Option.some.injEq, Addr.mk.injEq, and_true] at hv
    obtain ⟨rfl, _, rfl⟩ := hv
    obtain ⟨cur0, cur', c1, c2, c3, c4⟩ := hc
    rw [hg] at c1
    cases c1
    refine ⟨heap_upd h1 hu (by omega), flat_length he l', .inr ⟨g', cap', cur', by rw [hl], hb, c2, by omega, hm, by omega, ?_⟩⟩
    refine List.ext_getElem? fun x => ?_
    by_cases hx : x < l'.length * sz
    · have hz : 0 < sz := by rcases Nat.eq_zero_or_pos sz with h | h; · subst h; simp at hx
                             · exact h
      have hk : x / sz < l'.length := Nat.div_lt_of_lt_mul (by rw [Nat.mul_comm]; exact hx)
      have hj : x % sz < sz := Nat.mod_lt _ hz
      have hxe : x / sz * sz + x % sz = x := by rw [Nat.mul_comm]; exact Nat.div_add_mod x sz
      rw [List.getElem?_take, if_pos hx, Array.getElem?_toList, ← hxe, c4 (x / sz) (by omega) (x % sz) hj, flat_at he l' _ _ hk hj]
    · rw [List.getElem?_eq_none (by simp; omega), List.getElem?_eq_none (by rw [flat_length he]; omega)]

/-- The field was stored into. -/
theorem RowIn.stored {v' : Value} {l' : List α} (hb : BlkOk blk o) (hB : w.heap[b]? = some (.cells (blk v) t (0, 0))) (ho : w.ownsRow (b + 1) T sz v' l'.length (l'.flatMap enc)) : RowIn T sz enc (w.setCell ⟨b, o, none⟩ v') b t blk v' l' := by
  have h1 := heap_setCell_at (o := o) (u := v') hB
  rw [hb.2] at h1
  refine ⟨h1, ho.1, ?_⟩
  rcases ho.2 with h2 | ⟨g, cap, cur, hv, hg, hh, hr⟩
  · exact .inl h2
  · exact .inr ⟨g, cap, cur, hv, hg, heap_setCell_ne hh (by show g ≠ b; omega), hr⟩

end
end Go.Proofs.Ytklgfnboadchmaa
end

section
/- Own laws over any program: a region that draws its order, in which reads are taken first and calls come one behind the other, is walked once. -/
namespace Go.Proofs.Ytklgfnboadchmaa
set_option linter.unusedVariables false

/-- An operation that yields a value and does nothing else. -/
def calm (o : Oper) : Bool :=
  match o.op with
  | .move _ | .assign _ | .pick .. | .load .. | .binOp .. | .unOp .. | .convert .. | .makeInterface .. | .slice .. | .fieldAddr .. | .field .. | .indexAddr .. | .index .. | .extract .. | .nilCheck _ | .build .. => true
  | .call c => match c.callee with
    | .builtin .len | .builtin .cap => true
    | _ => false
  | _ => false

section
variable {P : Program} {ops : Array Oper} {Q : Exit → Act → World → Prop} {md : Region.Mode} {S S' : World → Prop}

theorem run_v {s : Sem Value} {w w' : World} {n : Next} (h : (do pure (Next.value (← s)) : Sem Next).run P w = .ok n w') : ∃ u, n = .value u := by
  rw [Sem.run_bind] at h
  cases hs : s.run P w with
  | ok u w1 =>
    rw [hs] at h
    simp [Result.andThen, Sem.run_pure] at h
    exact ⟨u, h.1.symm⟩
  | halt x w1 =>
    rw [hs] at h
    simp [Result.andThen] at h

theorem run_panic_ne {w w' : World} {n : Next} (h : (runtimePanic .nilDeref : Sem Next).run P w = .ok n w') : False := by
  simp [runtimePanic] at h

theorem calm_value {o : Oper} (hc : calm o = true) {ρ : Operand → Value} {w w' : World} {n : Next} (h : (execOp ρ o).run P w = .ok n w') : ∃ u, n = .value u := by
  unfold calm at hc
  unfold execOp at h
  split at hc
  case h_1 hop => rw [hop] at h; simp [Sem.run_pure] at h; exact ⟨_, h.1.symm⟩
  case h_2 hop => rw [hop] at h; simp [Sem.run_pure] at h; exact ⟨_, h.1.symm⟩
  case h_3 hop =>
    rw [hop] at h
    simp only [Sem.run_bind] at h
    generalize (asBool _).run P w = r at h
    cases r with
    | ok u w1 => simp [Result.andThen, Sem.run_pure] at h; exact ⟨_, h.1.symm⟩
    | halt x w1 => simp [Result.andThen] at h
  case h_17 c hop =>
    rw [hop] at h
    split at hc
    · rename_i hcl
      simp only [resolve, hcl, pure_bind, invoke, builtin] at h
      exact run_v h
    · rename_i hcl
      simp only [resolve, hcl, pure_bind, invoke, builtin] at h
      exact run_v h
    · cases hc
  case h_15 x hop =>
    rw [hop] at h
    simp only at h
    split at h
    · exact (run_panic_ne h).elim
    · exact (run_panic_ne h).elim
    · exact (run_panic_ne h).elim
    · split at h
      · exact (run_panic_ne h).elim
      · simp [Sem.run_bind, Result.andThen] at h
        split at h
        · split at h
          · simp at h; exact ⟨_, h.1.symm⟩
          · cases h
        · cases h
      · simp [Sem.run_pure] at h; exact ⟨_, h.1.symm⟩
    · simp [Sem.run_pure] at h; exact ⟨_, h.1.symm⟩
  case h_18 => cases hc
  all_goals
    rename_i hop
    rw [hop] at h
    exact run_v h

theorem yieldsIf_of_quiet {o : Oper} {v : Value} {a : Act} (hc : calm o = true) (hw : Region.wanted o (yielded ops a.tmps) = true) (h : ∀ w, S w → o.quietAt P a S w v) : YieldsIf P ops S o v a :=
  .inl ⟨hw, fun w hS => by
    have h1 := h w hS
    unfold Oper.quietAt at h1
    cases hr : (execOp a.eval o).run P w with
    | ok n w1 =>
      obtain ⟨u, rfl⟩ := calm_value hc hr
      rw [hr] at h1
      obtain ⟨rfl, rfl⟩ := h1
      rfl
    | halt x w1 =>
      rw [hr] at h1
      exact h1.elim⟩

/-- These may come up, one behind the other, each apart from all that has not come up. -/
def segB (md : Region.Mode) (ops : Array Oper) : List Nat → Array Bool → Bool
  | [], _ => true
  | i :: is, listed => (Region.ready md ops listed).contains i && Region.free md ops listed i && ((ops[i]?).map calm).getD false && segB md ops is (listed.setIfInBounds i true)

def listAll : List Nat → Array Bool → Array Bool
  | [], listed => listed
  | i :: is, listed => listAll is (listed.setIfInBounds i true)

theorem wpAnyH_weaken (hS : ∀ x, S' x → S x) : ∀ (fuel : Nat) (listed : Array Bool) (a : Act) (w : World), wpAnyH P md ops Q S' fuel listed a w → wpAnyH P md ops Q S fuel listed a w
  | 0, _, _, _, h => h
  | fuel + 1, _, _, _, h => ⟨h.1, fun i hi => wpOp_mono (fun a' w' h' => ⟨hS _ h'.1, wpAnyH_weaken hS fuel _ a' w' h'.2⟩) (h.2 i hi)⟩

/-- Reads, taken first. -/
theorem wpSeg' (hs : Region.noSelect ops = true) (hQ : ∀ c a w t v, Q (.panic c) (Act.put a (some t) v) w → Q (.panic c) a w) : ∀ (is : List Nat) (l : List Oper) (fuel : Nat) (listed : Array Bool) (a : Act) (w : World),
    is.filterMap (fun i => ops[i]?) = l → segB md ops is listed = true → S w → wpQuiet P ops S (fun a' => wpAnyH P md ops Q S fuel (listAll is listed) a' w) l a →
    wpAnyH P md ops Q S (fuel + is.length) listed a w
  | [], l, fuel, listed, a, w, hl, _, _, h => by
    simp at hl
    subst hl
    exact h
  | i :: is, l, fuel, listed, a, w, hl, hB, hSw, h => by
    simp only [segB, Bool.and_eq_true] at hB
    obtain ⟨⟨⟨hr, hf⟩, hcalm⟩, hB'⟩ := hB
    cases hi : ops[i]? with
    | none => rw [hi] at hcalm; simp at hcalm
    | some o =>
      rw [hi] at hcalm
      simp at hcalm
      rw [List.filterMap_cons, hi] at hl
      subst hl
      have hq : ∀ v : Value, ∀ c a w, Q (.panic c) (Act.put a o.dst v) w → Q (.panic c) a w := by
        intro v c a w hx
        cases hd : o.dst with
        | none => rw [hd] at hx; exact hx
        | some t => rw [hd] at hx; exact hQ c a w t v hx
      simp only [wpQuiet] at h
      by_cases hw : Region.wanted o (yielded ops a.tmps) = true
      · rw [if_pos hw] at h
        obtain ⟨v, h1, h2⟩ := h
        exact wpAnyH_take hi hs hf hr (hq v) (yieldsIf_of_quiet hcalm hw h1) hSw (wpSeg' hs hQ is _ fuel _ _ w rfl hB' hSw h2)
      · rw [if_neg hw] at h
        exact wpAnyH_take hi hs hf hr (hq undef) (.inr ⟨by simpa using hw, rfl⟩) hSw (wpSeg' hs hQ is _ fuel _ _ w rfl hB' hSw h)

theorem wpSeg (is : List Nat) (fuel : Nat) {l : List Oper} {n : Nat} {listed : Array Bool} {a : Act} {w : World} (hn : n = fuel + is.length) (hl : is.filterMap (fun i => ops[i]?) = l)
    (hB : (Region.noSelect ops && segB md ops is listed) = true) (hQ : ∀ c a w t v, Q (.panic c) (Act.put a (some t) v) w → Q (.panic c) a w) (hSw : S w)
    (h : wpQuiet P ops S (fun a' => wpAnyH P md ops Q S fuel (listAll is listed) a' w) l a) : wpAnyH P md ops Q S n listed a w := by
  rw [Bool.and_eq_true] at hB
  subst hn
  exact wpSeg' hB.1 hQ is l fuel listed a w hl hB.2 hSw h

/-- The one that may come up. Behind it the class of worlds may be a narrower one. -/
theorem wpOne (i fuel : Nat) {o : Oper} {n : Nat} {listed : Array Bool} {a : Act} {w : World} (hn : n = fuel + 1) (ho : ops[i]? = some o) (hr : Region.ready md ops listed = [i])
    (h : ∀ K : Act → World → Prop, Shut (∀ (S' : World → Prop) a w', (∀ x, S' x → S x) → S' w' → wpAnyH P md ops Q S' fuel (listed.setIfInBounds i true) a w' → K a w') →
      if Region.wanted o (yielded ops a.tmps) = true then Oper.wp P o a w K Q else K (a.put o.dst undef) w) : wpAnyH P md ops Q S n listed a w := by
  subst hn
  refine wpAnyH_all hr (by simp) fun j hj => ?_
  obtain rfl : j = i := by simpa using hj
  have h1 := h (fun a' w' => S w' ∧ wpAnyH P md ops Q S fuel (listed.setIfInBounds j true) a' w') (show Shut _ from fun S' a w' hS hw hx => ⟨hS _ hw, wpAnyH_weaken hS _ _ _ _ hx⟩)
  unfold wpOp
  simp only [ho]
  split
  · rename_i hw
    rw [if_pos hw] at h1
    exact .inl h1
  · rename_i hw
    rw [if_neg hw] at h1
    exact h1

theorem wp_region_line (n : Nat) {id : Nat} {a : Act} {w : World} (S : World → Prop) (hm : P.follows .mixedOrders = true) (hn : ops.size = n)
    (h : wpAnyH P .any ops Q S n (Array.replicate n false) a w.drew) : (Code.region id ops true).wp P Q a w :=
  wp_region_held hm (by subst hn; exact h)

end

/-- A world in which all that lies below B is as it was. -/
def LatF (B : Nat) (W : World) : Type := { w' : World // RowKit.Below B W w' }
instance latFNonempty (B : Nat) (W : World) : Nonempty (LatF B W) := ⟨⟨W, RowKit.Below.refl _ _⟩⟩
def laterF (B : Nat) (W : World) (x : LatF B W) : World := x.1
theorem laterF_below (B : Nat) (W : World) (x : LatF B W) : RowKit.Below B W (laterF B W x) := x.2
@[go_sem] theorem laterF_cell (B : Nat) (W : World) (x : LatF B W) (a : Addr) (h : a.block < B) : (laterF B W x).cell? a = W.cell? a := (laterF_below B W x).cell h
@[go_sem] theorem laterF_frozen (B : Nat) (W : World) (x : LatF B W) (a : Addr) (h : a.block < B) : (laterF B W x).frozen? a = W.frozen? a := (laterF_below B W x).frozen h
theorem laterF_of {B : Nat} {W w' : World} (h : RowKit.Below B W w') : ∃ x, w' = laterF B W x := ⟨⟨w', h⟩, rfl⟩
theorem laterF_drew {B : Nat} {W : World} : ∃ x : LatF B W, W.drew = laterF B W x := laterF_of (RowKit.Below.refl _ _).drew
theorem Bel.here {B : Nat} {W : World} (h : B ≤ W.heap.size) : Bel B W W := ⟨RowKit.Below.refl _ _, h⟩

end Go.Proofs.Ytklgfnboadchmaa
end

section
/- Own laws over any program: a region that draws its order, with a call beside a new variable. -/
namespace Go.Proofs.Ytklgfnboadchmaa
set_option linter.unusedVariables false

section
variable {P : Program} {ops : Array Oper} {Q : Exit → Act → World → Prop} {md : Region.Mode} {S : World → Prop}

theorem wpQuiet_mono {K K' : Act → Prop} (h : ∀ a, K a → K' a) : ∀ (l : List Oper) (a : Act), wpQuiet P ops S K l a → wpQuiet P ops S K' l a
  | [], a, hh => h a hh
  | o :: rest, a, hh => by
    simp only [wpQuiet] at hh ⊢
    split
    · rename_i hw; rw [if_pos hw] at hh; exact Oper.quiet_mono (wpQuiet_mono h rest) hh
    · rename_i hw; rw [if_neg hw] at hh; exact wpQuiet_mono h rest _ hh

theorem calm_noSelect {o : Oper} (hc : calm o = true) : ∀ cs b, o.op ≠ .select cs b := by
  intro cs b he
  unfold calm at hc
  rw [he] at hc
  cases hc

/-- What nobody looks at may stand there already. -/
theorem wpQuiet_put {oj : Oper} (x : Value) {K K' : Act → Prop} (h : ∀ a, K a → K' (a.put oj.dst x)) : ∀ (l : List Oper) (a : Act), (∀ o ∈ l, calm o = true ∧ oj.apart ops o = true) → wpQuiet P ops S K l a → wpQuiet P ops S K' l (a.put oj.dst x)
  | [], a, _, hh => h a hh
  | o :: rest, a, hl, hh => by
    obtain ⟨hc, hap⟩ := hl o (by simp)
    obtain ⟨h1, h2, h3⟩ := Oper.apart_spec hap
    have ih := fun a => wpQuiet_put x h rest a (fun o ho => hl o (by simp [ho]))
    simp only [wpQuiet] at hh ⊢
    rw [wanted_put (ops := ops) o a oj.dst x h1]
    split
    · rename_i hw
      rw [if_pos hw] at hh
      obtain ⟨v, hv, hn⟩ := hh
      refine ⟨v, fun w hw' => ?_, ?_⟩
      · have := hv w hw'
        unfold Oper.quietAt at *
        rwa [execOp_put (ops := ops) o (calm_noSelect hc) a oj.dst x h1]
      · rw [Act.put_comm a x v h2]
        exact ih _ hn
    · rename_i hw
      rw [if_neg hw] at hh
      rw [Act.put_comm a x undef h2]
      exact ih _ hh

theorem pick_mem {is : List Nat} {l : List Oper} (hl : is.filterMap (fun i => ops[i]?) = l) {p : Oper → Bool} (h : is.all (fun k => ((ops[k]?).map p).getD false) = true) : ∀ o ∈ l, p o = true := by
  intro o ho
  rw [← hl, List.mem_filterMap] at ho
  obtain ⟨k, hk, hko⟩ := ho
  have := (List.all_eq_true.1 h) k hk
  rw [hko] at this
  simpa using this

/-- A call that leaves all that was there as it was, and a new variable, in either order; what is read behind the call alone. -/
theorem wpCallAlloc (i j fuel : Nat) (is : List Nat) {oi oj : Oper} {l : List Oper} {n : Nat} {listed : Array Bool} {a : Act} {w : World} (f : FuncId) (args : Array Value) (v : Value) (ob : Obj) (di dj : Tmp) (hn : n = fuel + 1 + is.length + 1) (hoi : ops[i]? = some oi) (hoj : ops[j]? = some oj)
    (hl : is.filterMap (fun i => ops[i]?) = l) (hdi : oi.dst = some di) (hdj : oj.dst = some dj) (hgi : oi.guard = none) (hgj : oj.guard = none) (hsi : ∀ cs b, oi.op ≠ .select cs b)
    (hr : Region.ready md ops listed = [i, j]) (hri : Region.ready md ops (listAll is (listed.setIfInBounds i true)) = [j]) (hrj : Region.ready md ops (listed.setIfInBounds j true) = [i]) (hap : oj.apart ops oi = true)
    (hB : (Region.noSelect ops && segB md ops is (listed.setIfInBounds i true) && segB md ops is ((listed.setIfInBounds j true).setIfInBounds i true) && is.all (fun k => ((ops[k]?).map fun o => calm o && oj.apart ops o).getD false)) = true)
    (hL : listAll is ((listed.setIfInBounds j true).setIfInBounds i true) = (listAll is (listed.setIfInBounds i true)).setIfInBounds j true)
    (hQ : ∀ c a w t v, Q (.panic c) (Act.put a (some t) v) w → Q (.panic c) a w)
    (hei : ∀ w1, (execOp a.eval oi).run P w1 = .ok (.enter f args) w1) (hej : ∀ (ρ : Operand → Value) w1, (execOp ρ oj).run P w1 = .ok (.value (.pointer (some ⟨w1.heap.size, 0, none⟩))) (w1.alloc ob))
    (hS : ∀ x, RowKit.Below w.heap.size w x → S x) (hc : ∀ w1, RowKit.Below w.heap.size w w1 → Calls P f args w1 fun e w2 => e = .returned v ∧ RowKit.Below w1.heap.size w1 w2)
    (h : wpQuiet P ops S (fun a' => ∀ g w', w.heap.size ≤ g → RowKit.Below w.heap.size w w' → w'.heap[g]? = some ob → wpAnyH P md ops Q S fuel ((listAll is (listed.setIfInBounds i true)).setIfInBounds j true) (a'.put (some dj) (.pointer (some ⟨g, 0, none⟩))) w') l (a.put (some di) v)) :
    wpAnyH P md ops Q S n listed a w := by
  obtain ⟨h1, h2, h3⟩ := Oper.apart_spec hap
  rw [← hdi, ← hdj] at h
  have wi : ∀ a : Act, Region.wanted oi (yielded ops a.tmps) = true := fun a => by simp [Region.wanted, hgi]
  have wj : ∀ a : Act, Region.wanted oj (yielded ops a.tmps) = true := fun a => by simp [Region.wanted, hgj]
  simp only [Bool.and_eq_true] at hB
  obtain ⟨⟨⟨hB1, hB2⟩, hB3⟩, hB4⟩ := hB
  have hmem := pick_mem hl hB4
  subst hn
  refine wpAnyH_all hr (by simp) fun k hk => ?_
  have hk2 : k = i ∨ k = j := by simpa using hk
  rcases hk2 with rfl | rfl
  · unfold wpOp
    simp only [hoi, wi, if_true]
    refine .inl ?_
    unfold Oper.wp
    rw [hei]
    simp only [Oper.upon]
    refine (hc w (RowKit.Below.refl _ _)).mono ?_
    rintro e w2 ⟨rfl, hb⟩
    refine ⟨hS _ hb, wpSeg' hB1 hQ is l (fuel + 1) _ _ w2 hl hB2 (hS _ hb) (wpQuiet_mono (fun a' ha => ?_) l _ h)⟩
    refine wpAnyH_all hri (by simp) fun k hk => ?_
    obtain rfl : k = j := by simpa using hk
    unfold wpOp
    simp only [hoj, wj, if_true]
    refine .inl ?_
    unfold Oper.wp
    rw [hej]
    simp only [Oper.upon]
    have hb2 : RowKit.Below w.heap.size w (w2.alloc ob) := hb.trans (((RowKit.Below.refl _ _).alloc (Nat.le_refl _) _).mono hb.size)
    exact ⟨hS _ hb2, ha _ _ hb.size hb2 (Go.heap_alloc_new w2 ob)⟩
  · unfold wpOp
    simp only [hoj, wj, if_true]
    refine .inl ?_
    unfold Oper.wp
    rw [hej]
    simp only [Oper.upon]
    have hb1 : RowKit.Below w.heap.size w (w.alloc ob) := (RowKit.Below.refl _ _).alloc (Nat.le_refl _) _
    refine ⟨hS _ hb1, ?_⟩
    rw [show fuel + 1 + is.length = (fuel + is.length) + 1 by omega]
    refine wpAnyH_all hrj (by simp) fun k hk => ?_
    obtain rfl : k = i := by simpa using hk
    unfold wpOp
    simp only [hoi, wi, if_true]
    refine .inl ?_
    unfold Oper.wp
    rw [execOp_put (ops := ops) oi hsi a oj.dst _ h1, hei]
    simp only [Oper.upon]
    refine (hc _ hb1).mono ?_
    rintro e w2 ⟨rfl, hb⟩
    have hb2 : RowKit.Below w.heap.size w w2 := hb1.trans (hb.mono hb1.size)
    refine ⟨hS _ hb2, ?_⟩
    have hg : w2.heap[w.heap.size]? = some ob := (hb.block _ (by simp)).trans (Go.heap_alloc_new w ob)
    refine wpSeg' hB1 hQ is l fuel _ _ w2 hl hB3 (hS _ hb2) ?_
    rw [← Act.put_comm a v _ (fun d hd he => h2 d he hd)]
    refine wpQuiet_put (.pointer (some ⟨w.heap.size, 0, none⟩)) (fun a' ha => ?_) l _ (fun o ho => by have := hmem o ho; simpa using this) h
    rw [hL]
    exact ha _ _ (Nat.le_refl _) hb2 hg
end

/-- The class of worlds behind a call is a narrower one. -/
theorem later_narrow {W w1 : World} (hb : RowKit.Below W.heap.size W w1) : ∀ x, (∃ y : Lat w1, x = later w1 y) → ∃ y : Lat W, x = later W y := by
  rintro x ⟨y, rfl⟩
  exact later_of (hb.trans ((later_below w1 y).mono hb.size))
theorem later_drew {W : World} : ∃ y : Lat W, W.drew = later W y := later_of (RowKit.Below.refl _ _).drew
theorem later_self {W : World} : ∃ y : Lat W, W = later W y := later_of (RowKit.Below.refl _ _)

end Go.Proofs.Ytklgfnboadchmaa
end

section
/- Own laws over any program: a region that draws its order, of which a first part only reads and all else waits for all of it ('x, y = y, x'). -/
namespace Go.Proofs.Ytklgfnboadchmaa
set_option linter.unusedVariables false

section
variable {P : Program} {ops : Array Oper} {Q : Exit → Act → World → Prop} {md : Region.Mode} {S : World → Prop}

def allIn (is : List Nat) (listed : Array Bool) : Bool := is.all fun i => listed.getD i false

/-- Whatever order is picked, till all of 'is' have come up; the world stays. -/
def wpPre (P : Program) (md : Region.Mode) (ops : Array Oper) (Q : Exit → Act → World → Prop) (is : List Nat) (R : Array Bool → Act → Prop) (w : World) : Nat → Array Bool → Act → Prop
  | 0, listed, a => allIn is listed = true ∧ R listed a
  | m + 1, listed, a => allIn is listed = false ∧ (∀ i ∈ Region.ready md ops listed, i ∈ is) ∧ Region.ready md ops listed ≠ [] ∧
      ∀ i ∈ Region.ready md ops listed, wpOp P ops Q i (fun a' w' => w' = w ∧ wpPre P md ops Q is R w m (listed.setIfInBounds i true) a') a w

theorem ready_unlisted {i : Nat} {listed : Array Bool} (h : i ∈ Region.ready md ops listed) : listed.getD i true = false := (mem_ready.1 h).1
theorem getD_false_of_true {i : Nat} {listed : Array Bool} (h : listed.getD i true = false) : listed.getD i false = false := by
  rcases Nat.lt_or_ge i listed.size with h' | h'
  · simp [h'] at h ⊢; exact h
  · simp [Array.getElem?_eq_none h'] at h

theorem allIn_set {is : List Nat} {i : Nat} {listed : Array Bool} {j : Nat} (h : allIn is (listed.setIfInBounds i true) = true) (hj : j ∈ is) (hne : j ≠ i) : listed.getD j false = true := by
  have := (List.all_eq_true.1 h) j hj
  rwa [getD_set_ne false (Ne.symm hne)] at this

theorem wpPre_first {is : List Nat} {R : Array Bool → Act → Prop} {w : World} {i : Nat} {oi : Oper} {v : Value} (hi : ops[i]? = some oi) (hsel : ∀ (j : Nat) (o : Oper) cs b, ops[j]? = some o → o.op ≠ .select cs b)
    (hQ : ∀ c a w, Q (.panic c) (a.put oi.dst v) w → Q (.panic c) a w) (his : i ∈ is) :
    ∀ (m : Nat) (listed : Array Bool) (a : Act),
      (∀ j oj, ops[j]? = some oj → j ≠ i → listed.getD j true = false → (∀ e ∈ oj.after, Region.binds md e = true → e.on ≠ i) → oi.apart ops oj = true) →
      (∀ j oj, ops[j]? = some oj → listed.getD j true = false → j ∉ is → ∃ e ∈ oj.after, Region.binds md e = true ∧ e.on = i) →
      i ∈ Region.ready md ops listed → YieldsIf P ops (fun x => x = w) oi v a →
      wpPre P md ops Q is R w m (listed.setIfInBounds i true) (a.put oi.dst v) → wpPre P md ops Q is R w (m + 1) listed a := by
  intro m
  induction m with
  | zero =>
    intro listed a hfree hph hr hy H
    have hun := ready_unlisted hr
    have hjis : ∀ j ∈ Region.ready md ops listed, j ∈ is := by
      intro j hj
      by_cases hji : j ∈ is
      · exact hji
      · obtain ⟨hjun, oj, hoj, hall⟩ := mem_ready.1 hj
        obtain ⟨e, he, hb, ho⟩ := hph j oj hoj hjun hji
        have := hall e he hb
        rw [ho, getD_false_of_true hun] at this
        cases this
    refine ⟨?_, hjis, fun h => (by rw [h] at hr; cases hr), fun j hj => ?_⟩
    · cases hc : allIn is listed
      · rfl
      · have := (List.all_eq_true.1 hc) i his
        rw [getD_false_of_true hun] at this
        cases this
    · by_cases hji : j = i
      · subst hji
        exact hy.wpOp hi rfl ⟨rfl, H⟩
      · have := allIn_set H.1 (hjis j hj) hji
        have h2 := getD_false_of_true (ready_unlisted hj)
        rw [h2] at this
        cases this
  | succ m ih =>
    intro listed a hfree hph hr hy H
    have hun := ready_unlisted hr
    have hjis : ∀ j ∈ Region.ready md ops listed, j ∈ is := by
      intro j hj
      by_cases hji : j ∈ is
      · exact hji
      · obtain ⟨hjun, oj, hoj, hall⟩ := mem_ready.1 hj
        obtain ⟨e, he, hb, ho⟩ := hph j oj hoj hjun hji
        have := hall e he hb
        rw [ho, getD_false_of_true hun] at this
        cases this
    refine ⟨?_, hjis, fun h => (by rw [h] at hr; cases hr), fun j hj => ?_⟩
    · cases hc : allIn is listed
      · rfl
      · have := (List.all_eq_true.1 hc) i his
        rw [getD_false_of_true hun] at this
        cases this
    · by_cases hji : j = i
      · subst hji
        exact hy.wpOp hi rfl ⟨rfl, H⟩
      · have h1 := H.2.2.2 j (ready_mono hj hji)
        obtain ⟨hjun, oj, hoj, hall⟩ := mem_ready.1 hj
        have hnot : ∀ e ∈ oj.after, Region.binds md e = true → e.on ≠ i := fun e he hb heq => by
          have h1 := hall e he hb
          rw [heq, getD_false_of_true hun] at h1
          cases h1
        have h2 := wpOp_putIf hoj (hfree j oj hoj hji hjun hnot) (fun cs b => hsel i oi cs b hi) (fun cs b => hsel j oj cs b hoj) hQ hy h1
        have keepUn : ∀ k, (listed.setIfInBounds j true).getD k true = false → listed.getD k true = false := fun k hun' => by
          by_cases hjk : j = k
          · subst hjk; exact hjun
          · rw [getD_set_ne true hjk] at hun'; exact hun'
        refine wpOp_mono (fun a' w' h3 => ?_) h2
        obtain ⟨h3, h4, h5⟩ := h3
        refine ⟨h4, ih (listed.setIfInBounds j true) a' (fun k ok hk hki hun' hno => hfree k ok hk hki (keepUn k hun') hno) (fun k ok hk hun' hno => hph k ok hk (keepUn k hun') hno) (ready_mono hr (Ne.symm hji)) h3 ?_⟩
        rw [Array.setIfInBounds_comm _ _ hji]
        exact h5

theorem wpAnyH_of_pre {is : List Nat} {w : World} {fuel : Nat} (hS : S w) : ∀ (m : Nat) (listed : Array Bool) (a : Act),
    wpPre P md ops Q is (fun listed' a' => wpAnyH P md ops Q S fuel listed' a' w) w m listed a → wpAnyH P md ops Q S (fuel + m) listed a w
  | 0, _, _, h => h.2
  | m + 1, listed, a, h => ⟨fun h0 => absurd h0 h.2.2.1, fun i hi => wpOp_mono (fun a' w' ⟨hw, hp⟩ => by subst hw; exact ⟨hS, wpAnyH_of_pre hS m _ a' hp⟩) (h.2.2.2 i hi)⟩

/-- All that is not of 'is' waits for all of it. -/
def phaseB (md : Region.Mode) (ops : Array Oper) (is : List Nat) (listed : Array Bool) : Bool :=
  (List.range ops.size).all fun k => listed.getD k true || is.contains k || ((ops[k]?).map fun o => is.all fun i => o.after.any fun e => Region.binds md e && e.on == i).getD false

theorem phaseB_spec {is : List Nat} {listed : Array Bool} (h : phaseB md ops is listed = true) {i : Nat} (hi : i ∈ is) : ∀ j oj, ops[j]? = some oj → listed.getD j true = false → j ∉ is → ∃ e ∈ oj.after, Region.binds md e = true ∧ e.on = i := by
  intro j oj hoj hun hnot
  have hj := (List.all_eq_true.1 h) j (by simpa using (Array.getElem?_eq_some_iff.1 hoj).1)
  rw [hoj] at hj
  simp only [Bool.or_eq_true, hun, Bool.false_eq_true, false_or, Option.map_some, Option.getD_some] at hj
  rcases hj with hj | hj
  · exact absurd (by simpa using hj) hnot
  · have := (List.all_eq_true.1 hj) i hi
    obtain ⟨e, he, hb⟩ := Array.any_eq_true'.1 this
    simp only [Bool.and_eq_true, beq_iff_eq] at hb
    exact ⟨e, he, hb.1, hb.2⟩

/-- The reads of the first part, walked once. -/
theorem wpPre_seg {all : List Nat} {R : Array Bool → Act → Prop} {w : World} (hs : Region.noSelect ops = true) (hQ : ∀ c a w t v, Q (.panic c) (Act.put a (some t) v) w → Q (.panic c) a w) : ∀ (is : List Nat) (l : List Oper) (listed : Array Bool) (a : Act),
    is.filterMap (fun i => ops[i]?) = l → segB md ops is listed = true → (∀ i ∈ is, i ∈ all) → (∀ i ∈ all, ∀ j oj, ops[j]? = some oj → listed.getD j true = false → j ∉ all → ∃ e ∈ oj.after, Region.binds md e = true ∧ e.on = i) →
    allIn all (listAll is listed) = true → wpQuiet P ops (fun x => x = w) (fun a' => R (listAll is listed) a') l a → wpPre P md ops Q all R w is.length listed a
  | [], l, listed, a, hl, _, _, _, hall, h => by
    simp at hl
    subst hl
    exact ⟨hall, h⟩
  | i :: is, l, listed, a, hl, hB, hsub, hph, hall, h => by
    simp only [segB, Bool.and_eq_true] at hB
    obtain ⟨⟨⟨hr, hf⟩, hcalm⟩, hB'⟩ := hB
    cases hi : ops[i]? with
    | none => rw [hi] at hcalm; simp at hcalm
    | some o =>
      rw [hi] at hcalm
      simp at hcalm
      rw [List.filterMap_cons, hi] at hl
      subst hl
      have hq : ∀ v : Value, ∀ c a w, Q (.panic c) (Act.put a o.dst v) w → Q (.panic c) a w := by
        intro v c a w hx
        cases hd : o.dst with
        | none => rw [hd] at hx; exact hx
        | some t => rw [hd] at hx; exact hQ c a w t v hx
      have hia := hsub i (by simp)
      have hph' : ∀ k ∈ all, ∀ j oj, ops[j]? = some oj → (listed.setIfInBounds i true).getD j true = false → j ∉ all → ∃ e ∈ oj.after, Region.binds md e = true ∧ e.on = k := by
        intro k hk j oj hoj hun hnot
        refine hph k hk j oj hoj ?_ hnot
        have hne : i ≠ j := by rintro rfl; exact hnot hia
        rwa [getD_set_ne true hne] at hun
      simp only [wpQuiet] at h
      by_cases hw : Region.wanted o (yielded ops a.tmps) = true
      · rw [if_pos hw] at h
        obtain ⟨v, h1, h2⟩ := h
        exact wpPre_first hi (Region.noSelect_spec hs) (hq v) hia is.length listed a (Region.free_spec hi hf) (hph i hia) (by simpa using hr) (yieldsIf_of_quiet hcalm hw h1) (wpPre_seg hs hQ is _ _ _ rfl hB' (fun k hk => hsub k (by simp [hk])) hph' hall h2)
      · rw [if_neg hw] at h
        exact wpPre_first hi (Region.noSelect_spec hs) (hq undef) hia is.length listed a (Region.free_spec hi hf) (hph i hia) (by simpa using hr) (.inr ⟨by simpa using hw, rfl⟩) (wpPre_seg hs hQ is _ _ _ rfl hB' (fun k hk => hsub k (by simp [hk])) hph' hall h)

theorem wpPhase (is : List Nat) (fuel : Nat) {l : List Oper} {n : Nat} {listed : Array Bool} {a : Act} {w : World} (hn : n = fuel + is.length) (hl : is.filterMap (fun i => ops[i]?) = l)
    (hB : (Region.noSelect ops && segB md ops is listed && phaseB md ops is listed && allIn is (listAll is listed)) = true) (hQ : ∀ c a w t v, Q (.panic c) (Act.put a (some t) v) w → Q (.panic c) a w) (hSw : S w)
    (h : wpQuiet P ops (fun x => x = w) (fun a' => wpAnyH P md ops Q S fuel (listAll is listed) a' w) l a) : wpAnyH P md ops Q S n listed a w := by
  simp only [Bool.and_eq_true] at hB
  obtain ⟨⟨⟨hB1, hB2⟩, hB3⟩, hB4⟩ := hB
  subst hn
  exact wpAnyH_of_pre hSw is.length listed a (wpPre_seg hB1 hQ is l listed a hl hB2 (fun i hi => hi) (fun i hi => phaseB_spec hB3 hi) hB4 h)

end
end Go.Proofs.Ytklgfnboadchmaa
end

section
/- pool.left's row: Len. Printed by rows.py. -/
namespace Go.Proofs.Ytklgfnboadchmaa
open Go.ChangeShapes Go.WideShapes Go.ChangeAt Go.RowKit
set_option linter.unusedVariables false

structure plIt where
  fr : Int
deriving Inhabited
def plEnc (x : plIt) : List Value := [.int .i64 x.fr]
/-- As an 'any'. -/
abbrev plVal (x : plIt) : Value := .iface 3 (.int .i64 (x).fr)
theorem plEnc_length (x : plIt) : (plEnc x).length = 1 := rfl
abbrev plRow (w : World) (b : Nat) (blk : Value → Array Value) (v : Value) (l : List plIt) : Prop := RowIn 3 1 plEnc w b 92 blk v l

theorem RowIn.shape {α : Type} {T : TypeId} {sz : Nat} {enc : α → List Value} {w : World} {b : Nat} {t : TypeId} {blk : Value → Array Value} {v : Value} {l : List α} (h : RowIn T sz enc w b t blk v l) : ∃ a c, v = .slice a l.length c := by
  rcases h.2.2 with ⟨h1, h2⟩ | ⟨g, cap, cur, h1, _⟩
  · exact ⟨none, 0, by rw [h1, h2]⟩
  · exact ⟨_, _, h1⟩
variable {o : Nat}

theorem plLen (b : Nat) (blk : Value → Array Value) (v : Value) (l : List plIt) (w : World) (hb : BlkOk blk o) (h : plRow w b blk v l) :
    Calls Try.prog 42 #[.pointer (some ⟨b, o, none⟩)] w fun e w' => e = .returned (.int .i64 l.length) ∧ w = w' := by
  have q0 := h.field hb
  have q1 := h.free o
  obtain ⟨a, c, rfl⟩ := h.shape
  go_enter Try.func42, Try.ntmps42
  go_wp2
  go_ret
  exact ⟨rfl, rfl⟩
end Go.Proofs.Ytklgfnboadchmaa
end

section
/- Own laws over any program: in a drawn region, a store of a whole struct or row that alone may come up. -/
namespace Go.Proofs.Ytklgfnboadchmaa
set_option linter.unusedVariables false

section
variable {P : Program} {ops : Array Oper} {Q : Exit → Act → World → Prop} {md : Region.Mode} {S : World → Prop}

theorem wpStoreMid (i fuel : Nat) (ty : TypeId) (x y : Operand) (b o : Nat) (cells : Array Value) {n : Nat} {listed : Array Bool} {a : Act} {w : World} (hn : n = fuel + 1) (ho : (ops[i]?).map (fun o => (o.dst, o.op, o.guard)) = some (none, .store ty x y, none)) (hr : Region.ready md ops listed = [i])
    (hx : a.eval x = .pointer (some ⟨b, o, none⟩)) (hy : a.eval y = .agg cells)
    (hi : (P.info? ty).map (·.size) = some cells.size) (h1 : cells.all (·.oneCell') = true) (ht : w.there b o cells.size) (hS : S (w.setCells b o cells.toList))
    (h : wpAnyH P md ops Q S fuel (listed.setIfInBounds i true) a (w.setCells b o cells.toList)) : wpAnyH P md ops Q S n listed a w := by
  obtain ⟨op, ho', h2⟩ := Option.map_eq_some_iff.1 ho
  simp only [Prod.mk.injEq] at h2
  obtain ⟨hd, hop, hg⟩ := h2
  have hw : Region.wanted op (yielded ops a.tmps) = true := by simp [Region.wanted, hg]
  refine wpOne i fuel hn ho' hr fun K hK => ?_
  rw [if_pos hw]
  refine wp_store_mid ty x y hop b o cells hx hy ht hi h1 ?_
  rw [hd]
  exact hK.out S _ _ (fun _ h => h) hS h

end
end Go.Proofs.Ytklgfnboadchmaa
end

section
/- Own: the class of worlds in which one cell is as in W: for a drawn region whose only call writes elsewhere. -/
namespace Go.Proofs.Ytklgfnboadchmaa
set_option linter.unusedVariables false

def LatC (W : World) (a : Addr) : Type := { w : World // w.cell? a = W.cell? a }
instance (W : World) (a : Addr) : Nonempty (LatC W a) := ⟨⟨W, rfl⟩⟩
def laterC (W : World) (a : Addr) (x : LatC W a) : World := x.1
@[go_sem] theorem laterC_cell (W : World) (a : Addr) (x : LatC W a) : (laterC W a x).cell? a = W.cell? a := x.2
theorem laterC_of {W : World} {a : Addr} {w : World} (h : w.cell? a = W.cell? a) : ∃ x : LatC W a, w = laterC W a x := ⟨⟨w, h⟩, rfl⟩

end Go.Proofs.Ytklgfnboadchmaa
end

section
/- Own laws over any program: in a drawn region, two new variables that alone may come up, in either order. -/
namespace Go.Proofs.Ytklgfnboadchmaa
set_option linter.unusedVariables false

section
variable {P : Program} {ops : Array Oper} {Q : Exit → Act → World → Prop} {md : Region.Mode} {S : World → Prop}

theorem wpTwoAlloc (i j fuel : Nat) {oi oj : Oper} {n : Nat} {listed : Array Bool} {a : Act} {w : World} (obi obj : Obj) (di dj : Tmp) (hn : n = fuel + 2) (hoi : ops[i]? = some oi) (hoj : ops[j]? = some oj)
    (hdi : oi.dst = some di) (hdj : oj.dst = some dj) (hne : di ≠ dj) (hgi : oi.guard = none) (hgj : oj.guard = none)
    (hr : Region.ready md ops listed = [i, j]) (hri : Region.ready md ops (listed.setIfInBounds i true) = [j]) (hrj : Region.ready md ops (listed.setIfInBounds j true) = [i])
    (hij : i ≠ j)
    (hei : ∀ (ρ : Operand → Value) w1, (execOp ρ oi).run P w1 = .ok (.value (.pointer (some ⟨w1.heap.size, 0, none⟩))) (w1.alloc obi)) (hej : ∀ (ρ : Operand → Value) w1, (execOp ρ oj).run P w1 = .ok (.value (.pointer (some ⟨w1.heap.size, 0, none⟩))) (w1.alloc obj))
    (hS : ∀ x, RowKit.Below w.heap.size w x → S x)
    (h : ∀ g1 g2 w', w.heap.size ≤ g1 → w.heap.size ≤ g2 → g1 ≠ g2 → RowKit.Below w.heap.size w w' → w'.heap[g1]? = some obi → w'.heap[g2]? = some obj →
      wpAnyH P md ops Q S fuel ((listed.setIfInBounds i true).setIfInBounds j true) ((a.put (some di) (.pointer (some ⟨g1, 0, none⟩))).put (some dj) (.pointer (some ⟨g2, 0, none⟩))) w') :
    wpAnyH P md ops Q S n listed a w := by
  have wi : ∀ a : Act, Region.wanted oi (yielded ops a.tmps) = true := fun a => by simp [Region.wanted, hgi]
  have wj : ∀ a : Act, Region.wanted oj (yielded ops a.tmps) = true := fun a => by simp [Region.wanted, hgj]
  subst hn
  have b1 : ∀ ob, RowKit.Below w.heap.size w (w.alloc ob) := fun ob => (RowKit.Below.refl _ _).alloc (Nat.le_refl _) _
  have b2 : ∀ ob ob', RowKit.Below w.heap.size w ((w.alloc ob).alloc ob') := fun ob ob' => (b1 ob).trans (((RowKit.Below.refl _ _).alloc (Nat.le_refl _) _).mono (b1 ob).size)
  have hs : ∀ ob, (w.alloc ob).heap.size = w.heap.size + 1 := fun ob => by simp
  have h1 : ∀ ob ob', ((w.alloc ob).alloc ob').heap[w.heap.size]? = some ob := fun ob ob' => (RowKit.Below.heap_alloc (w.alloc ob) ob' w.heap.size (by rw [hs]; omega)).trans (Go.heap_alloc_new w ob)
  have h2 : ∀ ob ob', ((w.alloc ob).alloc ob').heap[w.heap.size + 1]? = some ob' := fun ob ob' => by
    have := Go.heap_alloc_new (w.alloc ob) ob'
    rwa [hs] at this
  refine wpAnyH_all hr (by simp) fun k hk => ?_
  have hk2 : k = i ∨ k = j := by simpa using hk
  rcases hk2 with rfl | rfl
  · unfold wpOp
    simp only [hoi, wi, if_true]
    refine .inl ?_
    unfold Oper.wp
    rw [hei]
    simp only [Oper.upon]
    refine ⟨hS _ (b1 _), wpAnyH_all hri (by simp) fun k hk => ?_⟩
    obtain rfl : k = j := by simpa using hk
    unfold wpOp
    simp only [hoj, wj, if_true]
    refine .inl ?_
    unfold Oper.wp
    rw [hej]
    simp only [Oper.upon]
    refine ⟨hS _ (b2 _ _), ?_⟩
    rw [hdi, hdj]
    rw [hs]
    exact h w.heap.size (w.heap.size + 1) _ (Nat.le_refl _) (by omega) (by omega) (b2 _ _) (h1 _ _) (h2 _ _)
  · unfold wpOp
    simp only [hoj, wj, if_true]
    refine .inl ?_
    unfold Oper.wp
    rw [hej]
    simp only [Oper.upon]
    refine ⟨hS _ (b1 _), wpAnyH_all hrj (by simp) fun k hk => ?_⟩
    obtain rfl : k = i := by simpa using hk
    unfold wpOp
    simp only [hoi, wi, if_true]
    refine .inl ?_
    unfold Oper.wp
    rw [hei]
    simp only [Oper.upon]
    refine ⟨hS _ (b2 _ _), ?_⟩
    rw [hdi, hdj, Array.setIfInBounds_comm _ _ hij.symm, hs]
    have := h (w.heap.size + 1) w.heap.size ((w.alloc obj).alloc obi) (by omega) (Nat.le_refl _) (by omega) (b2 _ _) (h2 _ _) (h1 _ _)
    rw [Act.put_comm] at this
    · exact this
    · intro d hd e
      cases e
      cases hd
      exact hne rfl
end
end Go.Proofs.Ytklgfnboadchmaa
end

section
/- The left frames' row: Less. -/
namespace Go.Proofs.Ytklgfnboadchmaa
open Go.ChangeShapes Go.WideShapes Go.ChangeAt Go.RowKit
set_option linter.unusedVariables false

def plLt (x y : plIt) : Bool := decide (x.fr < y.fr)
theorem plLt_ordered : Ordered plLt := by
  constructor
  · intro a b h
    simp only [plLt, decide_eq_true_eq, decide_eq_false_iff_not] at *
    omega
  · intro a b c h k
    simp only [plLt, decide_eq_false_iff_not] at *
    omega
variable {o : Nat}
set_option maxRecDepth 100000 in
set_option maxHeartbeats 1000000 in
theorem plLess (b : Nat) (blk : Value → Array Value) (v : Value) (l : List plIt) (i k : Nat) (w : World) (hb : BlkOk blk o) (h : plRow w b blk v l) (hi : i < l.length) (hk : k < l.length) :
    Calls Try.prog 91 #[.pointer (some ⟨b, o, none⟩), .int .i64 i, .int .i64 k] w fun e w' => e = .returned (.bool (plLt (atL l i) (atL l k))) ∧ Below w.heap.size w w' := by
  have q0 := h.field hb
  have q1 := h.free o
  have hlt := h.lt
  obtain ⟨g, cap, rfl, hle, hm, hbg, hg, hc, hf⟩ := h.item plEnc_length hi
  have c0 := hc i hi 0 (by omega)
  have d0 := hc k hk 0 (by omega)
  simp only [plEnc, List.getElem?_cons_zero, Nat.add_zero, Nat.mul_one] at c0 d0
  clear hc
  have hv : plLt (atL l i) (atL l k) = decide ((atL l i).fr < (atL l k).fr) := rfl
  rw [hv]
  clear hv
  go_enter Try.func91, Try.ntmps91
  go_wp2
  refine wp_region_later (by kernel_rfl) (by kernel_rfl) ?_
  (repeat (go_big_quiet_step (fail)))
  refine wpQuiet_nil ?_
  intro _ hw'
  obtain ⟨x9, hw''⟩ := hw'
  subst hw''
  go_wp2_with fail
  go_ret
  exact ⟨rfl, later_below _ _⟩
end Go.Proofs.Ytklgfnboadchmaa
end

section
/- A row of items in memory: two of them change places. -/
namespace Go.Proofs.Ytklgfnboadchmaa
open Go.ChangeShapes Go.WideShapes Go.ChangeAt Go.RowKit
set_option linter.unusedVariables false

theorem heap_setCells_at {b : Nat} {t : TypeId} {fr : Nat × Nat} : ∀ (vs : List Value) (o : Nat) (w : World) (cs : Array Value), w.heap[b]? = some (.cells cs t fr) → ∃ cs', (w.setCells b o vs).heap[b]? = some (.cells cs' t fr) ∧ cs'.size = cs.size
  | [], _, w, cs, h => ⟨cs, h, rfl⟩
  | v :: r, o, w, cs, h => by
    rw [World.setCells]
    obtain ⟨cs', h1, h2⟩ := heap_setCells_at r (o + 1) _ _ (heap_setCell_at (o := o) (u := v) h)
    exact ⟨cs', h1, h2.trans (by simp)⟩
theorem upd_setCells {b : Nat} : ∀ (vs : List Value) (o : Nat) (a w : World), Upd b a w → Upd b a (w.setCells b o vs)
  | [], _, _, _, h => h
  | v :: r, o, a, w, h => by
    rw [World.setCells]
    exact upd_setCells r (o + 1) a _ h.setCell

section
variable {α : Type} [Inhabited α] {T : TypeId} {sz : Nat} {enc : α → List Value} {w w' : World} {b o : Nat} {t : TypeId} {blk : Value → Array Value} {v : Value} {l : List α}

theorem setCells_item (g i x j : Nat) (vs : List Value) (hs : vs.length = sz) (ht : w.there g (i * sz) sz) (hj : j < sz) : (w.setCells g (i * sz) vs).cell? ⟨g, x * sz + j, none⟩ = if x = i then vs[j]? else w.cell? ⟨g, x * sz + j, none⟩ := by
  by_cases hx : x = i
  · subst hx
    rw [if_pos rfl, World.cell?_setCells_in g vs (x * sz) w (fun k hk => (ht k (by omega)).1) j (by omega), List.getElem?_eq_getElem (by omega)]
  · rw [if_neg hx, World.cell?_setCells_out g vs (i * sz) w ⟨g, x * sz + j, none⟩ (fun _ _ => ?_)]
    show x * sz + j < i * sz ∨ i * sz + vs.length ≤ x * sz + j
    rcases Nat.lt_or_gt_of_ne hx with h | h
    · have := Nat.mul_le_mul_right sz (show x + 1 ≤ i from h)
      rw [Nat.succ_mul] at this
      omega
    · have := Nat.mul_le_mul_right sz (show i + 1 ≤ x from h)
      rw [Nat.succ_mul] at this
      omega

/-- Two items change places. -/
theorem RowIn.swapped (h : RowIn T sz enc w b t blk v l) (he : ∀ x : α, (enc x).length = sz) {i k g cap : Nat} (hv : v = .slice (some ⟨g, 0, none⟩) l.length cap) (hi : i < l.length) (hk : k < l.length) (hth : ∀ x, x < l.length → w.there g (x * sz) sz) :
    RowIn T sz enc ((w.setCells g (i * sz) (enc (atL l k))).setCells g (k * sz) (enc (atL l i))) b t blk v (swapL l i k) := by
  have hu : Upd g w ((w.setCells g (i * sz) (enc (atL l k))).setCells g (k * sz) (enc (atL l i))) := upd_setCells _ _ _ _ (upd_setCells _ _ _ _ (.refl g w))
  obtain ⟨g', cap', hv', hle, hm, hbg, hg, hc, hf⟩ := h.item he hi
  rw [hv] at hv'
  simp only [Value.slice.injEq, Option.some.injEq, Addr.mk.injEq, and_true, true_and] at hv'
  obtain ⟨rfl, rfl⟩ := hv'
  have h2 : ∃ cur, w.heap[g]? = some (.cells cur T (0, 0)) := by
    rcases h.2.2 with ⟨h3, h0⟩ | ⟨g', cap', cur, h3, hb, hg, _⟩
    · omega
    · rw [hv] at h3
      simp only [Value.slice.injEq, Option.some.injEq, Addr.mk.injEq, and_true, true_and] at h3
      obtain ⟨rfl, _⟩ := h3
      exact ⟨cur, hg⟩
  obtain ⟨cur, hcur⟩ := h2
  obtain ⟨cur1, h3, h4⟩ := heap_setCells_at (enc (atL l k)) (i * sz) w cur hcur
  obtain ⟨cur2, h5, h6⟩ := heap_setCells_at (enc (atL l i)) (k * sz) _ cur1 h3
  refine h.wrote he hv hu (swapL_length l i k) ⟨cur, cur2, hcur, h5, h6.trans h4, fun x hx j hj => ?_⟩
  have hcell := cell_of_row _ g (x * sz + j) cur2 T (0, 0) h5
  rw [← hcell, setCells_item g k x j _ (he _) (World.there_setCells (hth k hk) _ _ _) hj, setCells_item g i x j _ (he _) (hth i hi) hj, atL_swap hi hk]
  split
  · rfl
  · split
    · rfl
    · exact hc x hx j hj
theorem frm_swapped {i k g n cap : Nat} (hv : v = .slice (some ⟨g, 0, none⟩) n cap) (xs ys : List Value) : Frm b v v w ((w.setCells g i xs).setCells g k ys) :=
  .of_upd (upd_setCells _ _ _ _ (upd_setCells _ _ _ _ (.refl g w))) (by rw [hv]; rfl)
end
end Go.Proofs.Ytklgfnboadchmaa
end

section
/- The left frames' row: Swap. -/
namespace Go.Proofs.Ytklgfnboadchmaa
open Go.ChangeShapes Go.WideShapes Go.ChangeAt Go.RowKit
set_option linter.unusedVariables false

theorem Upd.belowB {b : Nat} {a w : World} (hb : b ≤ a.heap.size) (h : Upd b a w) : Below b a w := ⟨h.os, h.tape, h.output, h.size, fun i hi => h.block i (by omega) (by rintro ⟨⟩; omega)⟩
variable {o : Nat}

set_option maxRecDepth 100000 in
set_option maxHeartbeats 1000000 in
theorem plSwap (b : Nat) (blk : Value → Array Value) (v : Value) (l : List plIt) (i k : Nat) (w : World) (hb : BlkOk blk o) (h : plRow w b blk v l) (hi : i < l.length) (hk : k < l.length) :
    Calls Try.prog 94 #[.pointer (some ⟨b, o, none⟩), .int .i64 i, .int .i64 k] w fun e w' => e = .returned (.tuple #[]) ∧ plRow w' b blk v (swapL l i k) ∧ Frm b v v w w' := by
  have q0 := h.field hb
  have q1 := h.free o
  have hlt := h.lt
  obtain ⟨g, cap, rfl, hle, hm, hbg, hg, hc, hf⟩ := h.item plEnc_length hi
  have c0 := hc i hi 0 (by omega)
  have d0 := hc k hk 0 (by omega)
  simp only [plEnc, List.getElem?_cons_zero, Nat.add_zero, Nat.mul_one] at c0 d0
  have z0 := hf i
  have z1 := hf k
  have hth : ∀ x, x < l.length → w.there g (x * 1) 1 := fun x hx j hj => by
    rw [hc x hx j hj]
    refine ⟨?_, hf _⟩
    match j, hj with
    | 0, _ => rfl
  have d1 : ((w.setCell ⟨g, i, none⟩ (.int .i64 (atL l k).fr)).cell? ⟨g, k, none⟩).isSome = true := by
    by_cases e : i = k
    · subst e
      rw [World.cell?_setCell_same' _ _ _ (by rw [c0]; rfl)]; rfl
    · rw [World.cell?_setCell_other _ _ _ _ (fun h => e (by simp only [Addr.mk.injEq] at h; exact h.2.1)), d0]; rfl
  obtain ⟨dv, d2⟩ := Option.isSome_iff_exists.1 d1
  clear hc d1
  go_enter Try.func94, Try.ntmps94
  go_wp2
  have s1 : ∃ y : LatF g w, (w.setCell ⟨g, i, none⟩ (.int .i64 (atL l k).fr)).drew = laterF g w y := laterF_of (Upd.belowB (Nat.le_of_lt hg) (Upd.refl g w).setCell.drew)
  have s2 : ∃ y : LatF g w, ((w.setCell ⟨g, i, none⟩ (.int .i64 (atL l k).fr)).setCell ⟨g, k, none⟩ (.int .i64 (atL l i).fr)).drew = laterF g w y := laterF_of (Upd.belowB (Nat.le_of_lt hg) (Upd.refl g w).setCell.setCell.drew)
  (refine wp_region_line 28 (fun x => ∃ y : LatF g w, x = laterF g w y) (by kernel_rfl) rfl ?_)
  (refine wpSeg (0 :: 1 :: 2 :: 3 :: 4 :: 5 :: 6 :: 7 :: 8 :: 9 :: 10 :: 11 :: 12 :: 13 :: 14 :: 15 :: 17 :: 18 :: 19 :: 20 :: 21 :: 22 :: []) 6 (l := _) rfl (by simp only [List.filterMap_cons, List.filterMap_nil, List.getElem?_toArray, List.getElem?_cons_succ, List.getElem?_cons_zero]; rfl) (by kernel_rfl) (fun _ _ _ _ _ h => h) laterF_drew ?_; show wpQuiet _ _ _ _ (_ :: _ :: _ :: _ :: _ :: _ :: _ :: _ :: _ :: _ :: _ :: _ :: _ :: _ :: _ :: _ :: _ :: _ :: _ :: _ :: _ :: _ :: []) _; (repeat (go_big_quiet_step (fail))); refine wpQuiet_nil ?_; show wpAnyH _ _ _ _ _ _ _ _ _)
  (refine wpPhase (16 :: 23 :: []) 4 (l := _) rfl (by simp only [List.filterMap_cons, List.filterMap_nil, List.getElem?_toArray, List.getElem?_cons_succ, List.getElem?_cons_zero]; rfl) (by kernel_rfl) (fun _ _ _ _ _ h => h) (laterF_drew) ?_; show wpQuiet _ _ _ _ (_ :: _ :: []) _; (repeat (go_big_quiet_step (fail))); refine wpQuiet_nil ?_; show wpAnyH _ _ _ _ _ _ _ _ _)
  (refine wpSeg (24 :: []) 3 (l := _) rfl (by simp only [List.filterMap_cons, List.filterMap_nil, List.getElem?_toArray, List.getElem?_cons_succ, List.getElem?_cons_zero]; rfl) (by kernel_rfl) (fun _ _ _ _ _ h => h) laterF_drew ?_; show wpQuiet _ _ _ _ (_ :: []) _; (repeat (go_big_quiet_step (fail))); refine wpQuiet_nil ?_; show wpAnyH _ _ _ _ _ _ _ _ _)
  (refine wpOne 25 2 rfl rfl (by kernel_rfl) ?_; intro K hK; go_simp)
  (refine hK.out _ _ _ (fun _ h => h) (s1) ?_; clear hK K)
  (refine wpSeg (26 :: []) 1 (l := _) rfl (by simp only [List.filterMap_cons, List.filterMap_nil, List.getElem?_toArray, List.getElem?_cons_succ, List.getElem?_cons_zero]; rfl) (by kernel_rfl) (fun _ _ _ _ _ h => h) s1 ?_; show wpQuiet _ _ _ _ (_ :: []) _; (repeat (go_big_quiet_step (fail))); refine wpQuiet_nil ?_; show wpAnyH _ _ _ _ _ _ _ _ _)
  (refine wpOne 27 0 rfl rfl (by kernel_rfl) ?_; intro K hK; go_simp)
  (refine hK.out _ _ _ (fun _ h => h) (s2) ?_; clear hK K)
  refine wpAnyH_done (by kernel_rfl) ?_ _
  have r1 := h.swapped plEnc_length rfl hi hk hth
  have r2 : Frm b (.slice (some ⟨g, 0, none⟩) l.length cap) (.slice (some ⟨g, 0, none⟩) l.length cap) w ((w.setCells g (i * 1) (plEnc (atL l k))).setCells g (k * 1) (plEnc (atL l i))) := frm_swapped rfl _ _
  simp only [World.setCells, plEnc, Nat.mul_one] at r1 r2
  clear s1 s2 c0 d0 q0 q1 d2 z0 z1
  go_end0
  exact ⟨rfl, r1, ⟨r2.os, r2.tape, r2.output, r2.size, r2.block, r2.own⟩⟩
end Go.Proofs.Ytklgfnboadchmaa
end

section
/- pool.left's row: Push. Printed by rows.py. -/
namespace Go.Proofs.Ytklgfnboadchmaa
open Go.ChangeShapes Go.WideShapes Go.ChangeAt Go.RowKit
set_option linter.unusedVariables false

theorem frm_pushed {w w1 : World} {b o g n cap : Nat} {v u : Value} {ob : Obj} (hg : (w.drew.alloc ob).grownBy w1 v.ownBlock) (hat : v.ownBlock = some g ∨ g = w.heap.size + 1) :
    Frm b v (.slice (some ⟨g, 0, none⟩) n cap) w (w1.setCell ⟨b, o, none⟩ u) := by
  have h1 : Below w.heap.size w (w.drew.alloc ob) := (Bel.refl w).drew.alloc.1
  have hs : (w.drew.alloc ob).heap.size = w.heap.size + 1 := by simp
  refine ⟨hg.os.trans h1.os, hg.tape.trans h1.tape, hg.output.trans h1.output, ?_, fun i hi hb hv => ?_, ?_⟩
  · have := hg.size
    simp [World.setCell]
    omega
  · rw [show (w1.setCell ⟨b, o, none⟩ u).heap[i]? = w1.heap[i]? by simp [World.setCell, Array.getElem?_modify, Ne.symm hb]]
    exact (hg.block i (by omega) hv).trans (h1.block i hi)
  · rcases hat with hat | hat
    · exact .inl (by rw [hat]; rfl)
    · refine .inr fun g' hg' => ?_
      simp only [Value.ownBlock, Option.some.injEq] at hg'
      omega
variable {o : Nat}

theorem Try.plitemRow : (Try.prog.info? 3).map (fun i => (i.zero, i.size, i.bytes)) = some (some (.int .i64 0), 1, 8) := by kernel_rfl

set_option maxRecDepth 100000 in
set_option maxHeartbeats 1000000 in
theorem plPush (b : Nat) (blk : Value → Array Value) (v : Value) (l : List plIt) (x : plIt) (w : World) (hb : BlkOk blk o) (h : plRow w b blk v l) (hn : l.length ≤ 1000000) :
    Calls Try.prog 93 #[.pointer (some ⟨b, o, none⟩), plVal x] w fun e w' => e = .returned (.tuple #[]) ∧ ∃ v', plRow w' b blk v' (l ++ [x]) ∧ Frm b v v' w w' := by
  obtain ⟨y0⟩ := x
  change Calls Try.prog 93 #[.pointer (some ⟨b, o, none⟩), .iface 3 (.int .i64 y0)] w fun e w' => e = .returned (.tuple #[]) ∧ ∃ v', plRow w' b blk v' (l ++ [⟨y0⟩]) ∧ Frm b v v' w w'
  obtain ⟨i0, hi, hz0, hz1, hz2⟩ := info_parts Try.plitemRow
  have q0 : w.cell? ⟨b, o, none⟩ = some v := h.field hb
  have q1 := h.free o
  have hlt := h.lt
  have hlt1 : b < w.heap.size + 1 := by omega
  have hown2 := h.2.drew.alloc (.cells #[.int .i64 y0] 3)
  have hnb : (w.drew.alloc (.cells #[.int .i64 y0] 3)).heap[w.heap.size]? = some (.cells #[.int .i64 y0] 3 (0, 0)) := Go.heap_alloc_new w.drew _
  have hne : some b ≠ v.ownBlock := fun e => by have := (h.own _ e.symm).1; omega
  have hta : ∀ w' : World, (Instr.typeAssert (.iface 3 (.int .i64 y0)) 20 3 false).run Try.prog w' = .ok (.int .i64 y0) w' := fun _ => by kernel_rfl
  go_enter Try.func93, Try.ntmps93
  go_wp2
  go_region_law ((refine step_append_lies _ (by rfl) _ _ _ (by rfl) (b + 1) 3 i0 _ 1 8 Try.underlying39 hi hz0 hz1 hz2 rfl (by omega) v l.length _ (by rfl) hown2 ⟨w.heap.size, 0, none⟩ 1 1 [.int .i64 y0] (by rfl) (by rfl) (World.news_of_block (cs := #[.int .i64 y0]) (t := 3) (fr := (0, 0)) hnb) (by simp [Value.oneCell']) (by omega) (by unfold maxLen; omega) (by omega) (by simp; omega) (w.heap.size + 1) (by simp) ?_; intro g cap w1 hown1 hgrow hat hlt1; have hR1 : w1.heap[b]? = some (.cells (blk v) 92 (0, 0)) := (hgrow.block b (by simp; omega) hne).trans (heap_alloc h.1); have r0 : w1.cell? ⟨b, o, none⟩ = some v := (by have := hb.1 v; simp [World.cell?, hR1, this]); have r1 : w1.frozen? ⟨b, o, none⟩ = false := (by simp [World.frozen?, hR1])))
  all_goals
    go_wp2
    go_end0
    refine ⟨rfl, _, RowIn.stored hb hR1 ?_, frm_pushed hgrow hat⟩
    simpa [plEnc] using hown1
end Go.Proofs.Ytklgfnboadchmaa
end

section
/- pool.left's row: Pop. Printed by rows.py. -/
namespace Go.Proofs.Ytklgfnboadchmaa
open Go.ChangeShapes Go.WideShapes Go.ChangeAt Go.RowKit
set_option linter.unusedVariables false

theorem frm_stored {w w1 : World} {b o : Nat} {v v' u : Value} (h1 : Below w.heap.size w w1) (hv : v'.ownBlock = v.ownBlock) : Frm b v v' w (w1.setCell ⟨b, o, none⟩ u) := by
  refine ⟨h1.os, h1.tape, h1.output, ?_, fun i hi hb _ => ?_, .inl hv⟩
  · have := h1.size
    simp [World.setCell]
    omega
  · rw [show (w1.setCell ⟨b, o, none⟩ u).heap[i]? = w1.heap[i]? by simp [World.setCell, Array.getElem?_modify, Ne.symm hb]]
    exact h1.block i hi
variable {o : Nat}

theorem plPop (b : Nat) (blk : Value → Array Value) (v : Value) (l : List plIt) (k : Nat) (w : World) (hb : BlkOk blk o) (h : plRow w b blk v l) (hk : l.length = k + 1) :
    Calls Try.prog 92 #[.pointer (some ⟨b, o, none⟩)] w fun e w' => e = .returned (plVal (atL l k)) ∧ ∃ v', plRow w' b blk v' (l.take k) ∧ Frm b v v' w w' := by
  have q0 := h.field hb
  have q1 := h.free o
  have hlt := h.lt
  obtain ⟨g, cap, rfl, hle, hm, hbg, hg, hc, hf⟩ := h.item plEnc_length (i := k) (by omega)
  have c0 := hc k (by omega) 0 (by omega)
  simp only [plEnc, List.getElem?_cons_zero, Nat.add_zero, Nat.mul_one] at c0
  clear hc
  have hm' : cap ≤ 9223372036854775807 := by unfold maxLen at hm; omega
  have hl : l.length ≤ cap := hle
  have hki : (l.length : Int) = k + 1 := by omega
  go_enter Try.func92, Try.ntmps92
  go_wp2
  go_ret
  have hlt2 : (l.take k).length = k := by rw [List.length_take]; omega
  have hsp : l = l.take k ++ [atL l k] := by
    rw [atL_eq (by omega)]
    conv => lhs; rw [← List.take_append_drop k l]
    rw [List.drop_eq_getElem_cons (by omega), List.drop_eq_nil_of_le (by omega)]
  have hown : w.ownsRow (b + 1) 3 1 (.slice (some ⟨g, 0, none⟩) k cap) (l.take k).length ((l.take k).flatMap plEnc) := by
    rw [hlt2]
    refine ownsRow_pop (last := plEnc (atL l k)) ?_ ?_
    · rw [flat_length plEnc_length, hlt2]
    · have := h.2
      rw [hk] at this
      rw [show (l.take k).flatMap plEnc ++ plEnc (atL l k) = l.flatMap plEnc by conv => { rhs; rw [hsp] }; simp]
      exact this
  exact ⟨rfl, _, RowIn.stored hb h.1 hown, frm_stored (Below.refl _ _) rfl⟩
end Go.Proofs.Ytklgfnboadchmaa
end

section
/- container/heap over a row: up. -/
namespace Go.Proofs.Ytklgfnboadchmaa
open Go.ChangeShapes Go.WideShapes Go.ChangeAt Go.RowKit
set_option linter.unusedVariables false
variable {o : Nat}

set_option maxRecDepth 20000 in
theorem plUp (b : Nat) (blk : Value → Array Value) (v : Value) (l : List plIt) (j : Nat) (w : World) (hb : BlkOk blk o) (h : plRow w b blk v l) (hj : j < l.length) (hn : l.length ≤ 1000000) :
    Calls Try.prog 73 #[.iface 110 (.pointer (some ⟨b, o, none⟩)), .int .i64 j] w fun e w' => e = .returned (.tuple #[]) ∧ plRow w' b blk v (upL plLt j l j) ∧ Frm b v v w w' := by
  go_enter Try.func73, Try.ntmps73
  go_wp2
  go_loopw [1] (fun i wr => ∃ (j' : Nat) (l' : List plIt) (f : Nat), i = .int .i64 j' ∧ j' ≤ f ∧ upL plLt f l' j' = upL plLt j l j ∧ j' < l.length ∧ l'.length = l.length ∧ plRow wr b blk v l' ∧ Frm b v v w wr) (fun i _ => (intOf i).toNat)
  case atStart => exact ⟨j, l, j, rfl, Nat.le_refl _, rfl, hj, rfl, h, Frm.refl _ _ _⟩
  case round =>
    obtain ⟨j', l', f, rfl, hf, hu, hj', hl', hr, hF⟩ := hrel
    obtain ⟨p, hp⟩ : ∃ p, par j' = p := ⟨_, rfl⟩
    have hpar : Int.tdiv ((j' : Int) - 1) 2 = (p : Nat) := by
      rw [← hp]
      unfold par
      rcases Nat.eq_zero_or_pos j' with rfl | hp
      · rfl
      · rw [Int.tdiv_eq_ediv_of_nonneg (by omega)]; omega
    have hpj : p ≤ j' ∧ (p = j' → j' = 0) := by rw [← hp]; unfold par; omega
    have hp' := Lib.hid hp
    clear hp
    have hmL : ∀ w' : World, (method 243 110 (.pointer (some ⟨b, o, none⟩)) "Less").run Try.prog w' = .ok (91, .pointer (some ⟨b, o, none⟩)) w' := fun _ => by kernel_rfl
    have hmS : ∀ w' : World, (method 243 110 (.pointer (some ⟨b, o, none⟩)) "Swap").run Try.prog w' = .ok (94, .pointer (some ⟨b, o, none⟩)) w' := fun _ => by kernel_rfl
    by_cases hz : p = j'
    · obtain rfl := hpj.2 hz
      subst hz
      go_wp2_with fail
      have hd : l' = upL plLt j l j := by
        rw [← hu]
        cases f with
        | zero => rfl
        | succ f => simp [upL, par]
      go_end0
      exact ⟨rfl, by rw [← hd]; exact hr, hF⟩
    · have hlt : p < j' := by omega
      have hz' : ¬ (p : Int) = j' := by omega
      obtain ⟨f, rfl⟩ : ∃ f', f = f' + 1 := ⟨f - 1, by omega⟩
      have hne : ¬ par j' = j' := by rw [hp'.out]; omega
      cases ht : plLt (atL l' j') (atL l' p)
      · have hd : l' = upL plLt j l j := by
          rw [← hu, upL, if_neg hne, hp'.out, if_neg (by simp [ht])]
        clear hne hu
        go_wp2_with (first
          | (go_at_call 91; refine (plLess b blk v l' j' p _ hb hr (by omega) (by omega)).mono ?_; rintro e w1 ⟨rfl, hb1⟩; rw [ht]))
        go_end0
        exact ⟨rfl, by rw [← hd]; exact hr.below hb1, hF.trans (.of_below hb1)⟩
      · have hd : upL plLt f (swapL l' p j') p = upL plLt j l j := by
          rw [← hu, upL, if_neg hne, hp'.out, if_pos (by simp [ht])]
        clear hne hu
        go_wp2_with (first
          | (go_at_call 91; refine (plLess b blk v l' j' p _ hb hr (by omega) (by omega)).mono ?_; rintro e w1 ⟨rfl, hb1⟩; rw [ht]))
        have hr1 := hr.below hb1
        refine (plSwap b blk v l' p j' _ hb hr1 (by omega) (by omega)).mono ?_
        rintro e w2 ⟨rfl, hr2, hF2⟩
        go_wp2
        go_roundw
        case rel => exact ⟨p, _, f, rfl, by omega, hd, by omega, (swapL_length _ _ _).trans hl', hr2, (hF.trans (.of_below hb1)).trans hF2⟩
        case measure => simp [intOf]; omega
end Go.Proofs.Ytklgfnboadchmaa
end

section
/- container/heap over a row: down. -/
namespace Go.Proofs.Ytklgfnboadchmaa
open Go.ChangeShapes Go.WideShapes Go.ChangeAt Go.RowKit
set_option linter.unusedVariables false
variable {o : Nat}

set_option maxRecDepth 20000 in
set_option maxHeartbeats 1000000 in
theorem plDown (b : Nat) (blk : Value → Array Value) (v : Value) (l : List plIt) (i m : Nat) (w : World) (hb : BlkOk blk o) (h : plRow w b blk v l) (hi : i < l.length) (hm : m ≤ l.length) (hn : l.length ≤ 1000000) :
    Calls Try.prog 71 #[.iface 110 (.pointer (some ⟨b, o, none⟩)), .int .i64 i, .int .i64 m] w fun e w' => e = .returned (.bool (decide (i < (downL plLt m m l i).2))) ∧ plRow w' b blk v (downL plLt m m l i).1 ∧ Frm b v v w w' := by
  go_enter Try.func71, Try.ntmps71
  go_wp2
  go_loopw [7] (fun x wr => ∃ (k : Nat) (l' : List plIt) (f : Nat), x = .int .i64 k ∧ m ≤ f + k ∧ downL plLt m f l' k = downL plLt m m l i ∧ k < l.length ∧ l'.length = l.length ∧ plRow wr b blk v l' ∧ Frm b v v w wr) (fun x _ => m - (intOf x).toNat)
  case atStart => exact ⟨i, l, m, rfl, by omega, rfl, hi, rfl, h, Frm.refl _ _ _⟩
  case round =>
    obtain ⟨k, l', f, rfl, hf, hu, hk, hl', hr, hF⟩ := hrel
    have hmL : ∀ w' : World, (method 243 110 (.pointer (some ⟨b, o, none⟩)) "Less").run Try.prog w' = .ok (91, .pointer (some ⟨b, o, none⟩)) w' := fun _ => by kernel_rfl
    have hmS : ∀ w' : World, (method 243 110 (.pointer (some ⟨b, o, none⟩)) "Swap").run Try.prog w' = .ok (94, .pointer (some ⟨b, o, none⟩)) w' := fun _ => by kernel_rfl
    obtain ⟨q1, hq1⟩ : ∃ q1, q1 = 2 * k + 1 := ⟨_, rfl⟩
    obtain ⟨q2, hq2⟩ : ∃ q2, q2 = 2 * k + 2 := ⟨_, rfl⟩
    have i1 : 2 * (k : Int) + 1 = (q1 : Int) := by omega
    have i2 : (q1 : Int) + 1 = (q2 : Int) := by omega
    have b1 : q1 ≤ 3000000 := by omega
    have b2 : q2 ≤ 3000000 := by omega
    have kq1 : k < q1 := by omega
    have kq2 : k < q2 := by omega
    have h1 := Lib.hid hq1
    have h2 := Lib.hid hq2
    clear hq1 hq2
    by_cases hend : m ≤ q1
    · have hd : downL plLt m m l i = (l', k) := by
        rw [← hu]
        have := h1.out
        cases f with
        | zero => rfl
        | succ f => simp only [downL]; rw [if_pos (by omega)]
      clear hu
      go_wp2_with fail
      go_ret
      refine ⟨by rw [hd]; simp, by rw [hd]; exact hr, hF⟩
    · obtain ⟨f, rfl⟩ : ∃ f', f = f' + 1 := ⟨f - 1, by have := h1.out; omega⟩
      have hne : ¬ m ≤ 2 * k + 1 := by rw [← h1.out]; exact hend
      have hq1m : q1 < m := by omega
      by_cases h2m : q2 < m
      · cases hc : plLt (atL l' q2) (atL l' q1)
        · have hkid : kid plLt m l' k = q1 := by simp only [kid]; rw [← h2.out, ← h1.out, if_neg (by simp [hc])]
          cases ht : plLt (atL l' q1) (atL l' k)
          · have hd : downL plLt m m l i = (l', k) := by
              rw [← hu, downL, if_neg hne, hkid, if_neg (by simp [ht])]
            clear hne hu hkid
            go_wp2_with fail
            refine (plLess b blk v l' q2 q1 _ hb hr (by omega) (by omega)).mono ?_
            rintro e w1 ⟨rfl, hb1⟩
            rw [hc]
            go_wp2_with fail
            refine (plLess b blk v l' q1 k _ hb (hr.below hb1) (by omega) (by omega)).mono ?_
            rintro e w2 ⟨rfl, hb2⟩
            rw [ht]
            go_wp2_with fail
            go_ret
            refine ⟨by rw [hd]; simp, by rw [hd]; exact (hr.below hb1).below hb2, (hF.trans (.of_below hb1)).trans (.of_below hb2)⟩
          · have hd : downL plLt m f (swapL l' k q1) q1 = downL plLt m m l i := by
              rw [← hu, downL, if_neg hne, hkid, if_pos (by simp [ht])]
            clear hne hu hkid
            go_wp2_with fail
            refine (plLess b blk v l' q2 q1 _ hb hr (by omega) (by omega)).mono ?_
            rintro e w1 ⟨rfl, hb1⟩
            rw [hc]
            go_wp2_with fail
            refine (plLess b blk v l' q1 k _ hb (hr.below hb1) (by omega) (by omega)).mono ?_
            rintro e w2 ⟨rfl, hb2⟩
            rw [ht]
            have hr2 := (hr.below hb1).below hb2
            go_wp2_with fail
            refine (plSwap b blk v l' k q1 _ hb hr2 (by omega) (by omega)).mono ?_
            rintro e w3 ⟨rfl, hr3, hF3⟩
            go_wp2
            go_roundw
            case rel => exact ⟨q1, _, f, rfl, by omega, hd, by omega, (swapL_length _ _ _).trans hl', hr3, ((hF.trans (.of_below hb1)).trans (.of_below hb2)).trans hF3⟩
            case measure => simp [intOf]; omega
        · have hkid : kid plLt m l' k = q2 := by simp only [kid]; rw [← h2.out, ← h1.out, if_pos ⟨h2m, hc⟩]
          cases ht : plLt (atL l' q2) (atL l' k)
          · have hd : downL plLt m m l i = (l', k) := by
              rw [← hu, downL, if_neg hne, hkid, if_neg (by simp [ht])]
            clear hne hu hkid
            go_wp2_with fail
            refine (plLess b blk v l' q2 q1 _ hb hr (by omega) (by omega)).mono ?_
            rintro e w1 ⟨rfl, hb1⟩
            rw [hc]
            go_wp2_with fail
            refine (plLess b blk v l' q2 k _ hb (hr.below hb1) (by omega) (by omega)).mono ?_
            rintro e w2 ⟨rfl, hb2⟩
            rw [ht]
            go_wp2_with fail
            go_ret
            refine ⟨by rw [hd]; simp, by rw [hd]; exact (hr.below hb1).below hb2, (hF.trans (.of_below hb1)).trans (.of_below hb2)⟩
          · have hd : downL plLt m f (swapL l' k q2) q2 = downL plLt m m l i := by
              rw [← hu, downL, if_neg hne, hkid, if_pos (by simp [ht])]
            clear hne hu hkid
            go_wp2_with fail
            refine (plLess b blk v l' q2 q1 _ hb hr (by omega) (by omega)).mono ?_
            rintro e w1 ⟨rfl, hb1⟩
            rw [hc]
            go_wp2_with fail
            refine (plLess b blk v l' q2 k _ hb (hr.below hb1) (by omega) (by omega)).mono ?_
            rintro e w2 ⟨rfl, hb2⟩
            rw [ht]
            have hr2 := (hr.below hb1).below hb2
            go_wp2_with fail
            refine (plSwap b blk v l' k q2 _ hb hr2 (by omega) (by omega)).mono ?_
            rintro e w3 ⟨rfl, hr3, hF3⟩
            go_wp2
            go_roundw
            case rel => exact ⟨q2, _, f, rfl, by omega, hd, by omega, (swapL_length _ _ _).trans hl', hr3, ((hF.trans (.of_below hb1)).trans (.of_below hb2)).trans hF3⟩
            case measure => simp [intOf]; omega
      · have hkid : kid plLt m l' k = q1 := by simp only [kid]; rw [← h2.out, ← h1.out, if_neg (by simp [h2m])]
        cases ht : plLt (atL l' q1) (atL l' k)
        · have hd : downL plLt m m l i = (l', k) := by
            rw [← hu, downL, if_neg hne, hkid, if_neg (by simp [ht])]
          clear hne hu hkid
          go_wp2_with fail
          refine (plLess b blk v l' q1 k _ hb hr (by omega) (by omega)).mono ?_
          rintro e w2 ⟨rfl, hb2⟩
          rw [ht]
          go_wp2_with fail
          go_ret
          refine ⟨by rw [hd]; simp, by rw [hd]; exact hr.below hb2, hF.trans (.of_below hb2)⟩
        · have hd : downL plLt m f (swapL l' k q1) q1 = downL plLt m m l i := by
            rw [← hu, downL, if_neg hne, hkid, if_pos (by simp [ht])]
          clear hne hu hkid
          go_wp2_with fail
          refine (plLess b blk v l' q1 k _ hb hr (by omega) (by omega)).mono ?_
          rintro e w2 ⟨rfl, hb2⟩
          rw [ht]
          have hr2 := hr.below hb2
          go_wp2_with fail
          refine (plSwap b blk v l' k q1 _ hb hr2 (by omega) (by omega)).mono ?_
          rintro e w3 ⟨rfl, hr3, hF3⟩
          go_wp2
          go_roundw
          case rel => exact ⟨q1, _, f, rfl, by omega, hd, by omega, (swapL_length _ _ _).trans hl', hr3, (hF.trans (.of_below hb2)).trans hF3⟩
          case measure => simp [intOf]; omega
end Go.Proofs.Ytklgfnboadchmaa
end

section
/- Plain: a binary heap in a list: the least is ahead; what Push, Pop and Remove leave. -/
namespace Go.Proofs.Ytklgfnboadchmaa
set_option linter.unusedVariables false

theorem Ordered.irrefl {β : Type} {le : β → β → Bool} (H : Ordered le) (a : β) : le a a = false := by
  cases h : le a a
  · rfl
  · rw [← h]; exact H.asymm a a h

section
variable {α : Type} [Inhabited α] {lt : α → α → Bool}

theorem heap_min (H : Ordered lt) {l : List α} {n : Nat} (h : HeapN lt l n) : ∀ x, x < n → lt (atL l x) (atL l 0) = false := by
  intro x
  induction x using Nat.strongRecOn with
  | ind x ih =>
    intro hx
    rcases Nat.eq_zero_or_pos x with rfl | h0
    · exact H.irrefl _
    · have hp : par x < x := by unfold par; omega
      exact H.trans _ _ _ (ih (par x) hp (by omega)) (h x h0 hx)
theorem upL_behind : ∀ (f : Nat) (l : List α) (j : Nat), j < l.length → ∀ x, j < x → atL (upL lt f l j) x = atL l x
  | 0, _, _, _, _, _ => rfl
  | f + 1, l, j, hj, x, hx => by
    have hp : par j ≤ j := by unfold par; omega
    unfold upL
    split
    · rfl
    · split
      · rw [upL_behind f _ _ (by rw [swapL_length]; omega) x (by omega), atL_swap (by omega) hj, if_neg (by omega), if_neg (by omega)]
      · rfl
theorem atL_take {l : List α} {n x : Nat} (hx : x < n) : atL (l.take n) x = atL l x := by
  simp [atL, List.getD, hx]
theorem atL_append {l r : List α} {x : Nat} (hx : x < l.length) : atL (l ++ r) x = atL l x := by
  simp [atL, List.getD, List.getElem?_append_left hx]
theorem heap_congr {l r : List α} {n : Nat} (h : HeapN lt l n) (he : ∀ x, x < n → atL r x = atL l x) : HeapN lt r n := by
  intro x h0 hx
  have hp : par x < x := by unfold par; omega
  unfold Rel
  rw [he x hx, he (par x) (by omega)]
  exact h x h0 hx
theorem heap_take {l : List α} {n : Nat} (h : HeapN lt l n) : HeapN lt (l.take n) n := heap_congr h fun x hx => atL_take hx
theorem split_last {l : List α} {n : Nat} (hl : l.length = n + 1) : l = l.take n ++ [atL l n] := by
  rw [atL_eq (by omega)]
  conv => lhs; rw [← List.take_append_drop n l]
  rw [List.drop_eq_getElem_cons (by omega), List.drop_eq_nil_of_le (by omega)]
theorem perm_last {l : List α} {n : Nat} (hl : l.length = n + 1) : (atL l n :: l.take n).Perm l := by
  conv => rhs; rw [split_last hl]
  exact (List.perm_append_comm (l₁ := l.take n) (l₂ := [atL l n])).symm

/-- Push. -/
theorem push_heap (H : Ordered lt) {l : List α} {n : Nat} (hn : l.length = n) (x : α) (h : HeapN lt l n) : HeapN lt (upL lt n (l ++ [x]) n) (n + 1) ∧ (upL lt n (l ++ [x]) n).Perm (l ++ [x]) ∧ (upL lt n (l ++ [x]) n).length = n + 1 := by
  subst hn
  refine ⟨up_heap H _ _ _ (Nat.le_refl _) (by omega) (by simp) ⟨fun y h0 hy hne => ?_, fun y h0 hy hp hj => ?_⟩, upL_perm _ _ _ (by simp), by rw [upL_length]; simp⟩
  · have hpy : par y < y := by unfold par; omega
    unfold Rel
    rw [atL_append (by omega), atL_append (by omega)]
    exact h y h0 (by omega)
  · unfold par at hp
    omega

/-- Pop. -/
theorem pop_heap (H : Ordered lt) {l : List α} {n : Nat} (hl : l.length = n + 1) (h : HeapN lt l (n + 1)) :
    HeapN lt ((downL lt n n (swapL l 0 n) 0).1.take n) n ∧ atL (downL lt n n (swapL l 0 n) 0).1 n = atL l 0 ∧ (atL l 0 :: (downL lt n n (swapL l 0 n) 0).1.take n).Perm l := by
  have hsw : ∀ x, x ≠ 0 → x < n → atL (swapL l 0 n) x = atL l x := fun x h0 hx => by rw [atL_swap (by omega) (by omega), if_neg (by omega), if_neg h0]
  have hlen : (downL lt n n (swapL l 0 n) 0).1.length = n + 1 := by rw [downL_length, swapL_length]; exact hl
  have hlast : atL (downL lt n n (swapL l 0 n) 0).1 n = atL l 0 := by
    rcases Nat.eq_zero_or_pos n with rfl | hp
    · show atL (swapL l 0 0) 0 = atL l 0
      rw [atL_swap (by omega) (by omega)]; simp
    · rw [downL_behind _ _ _ (by rw [swapL_length]; omega) hp n (Nat.le_refl _), atL_swap (by omega) (by omega), if_pos rfl]
  refine ⟨heap_take ?_, hlast, ?_⟩
  · rcases Nat.eq_zero_or_pos n with rfl | hp
    · intro x h0 hx; omega
    · refine down_heap H _ _ _ (by omega) hp (by rw [swapL_length]; omega) ⟨fun x h0 hx hp hne => ?_, fun _ _ _ _ h => by omega⟩ (by omega)
      have hpx : par x < x := by unfold par; omega
      unfold Rel
      rw [hsw x hne hx, hsw (par x) hp (by omega)]
      exact h x h0 (by omega)
  · have := perm_last hlen
    rw [hlast] at this
    exact this.trans ((downL_perm _ _ _ (by rw [swapL_length]; omega) (by rw [swapL_length]; omega)).trans (swapL_perm (by omega) (by omega)))

/-- Where the item is ahead of its parent, down leaves all as it is. -/
theorem down_still (H : Ordered lt) {n i f : Nat} {l : List α} (hd : HeapD lt l n i) (h0 : 0 < i) (hlt : lt (atL l i) (atL l (par i)) = true) : downL lt n f l i = (l, i) := by
  cases f with
  | zero => rfl
  | succ f =>
    unfold downL
    split
    · rfl
    · rename_i hb
      obtain ⟨k1, k2, k3⟩ := kid_lt (lt := lt) (l := l) hb
      have := hd.2 (kid lt n l i) (by omega) k3 k1 h0
      rw [if_neg]
      rw [H.trans _ _ _ (H.asymm _ _ hlt) this]
      simp

/-- What Remove does ahead of its Pop. -/
def remL (lt : α → α → Bool) (n : Nat) (l : List α) (i : Nat) : List α :=
  if n = i then l else if i < (downL lt n n (swapL l i n) i).2 then (downL lt n n (swapL l i n) i).1 else upL lt i (downL lt n n (swapL l i n) i).1 i

theorem remove_heap (H : Ordered lt) {l : List α} {n i : Nat} (hl : l.length = n + 1) (hi : i ≤ n) (h : HeapN lt l (n + 1)) :
    HeapN lt ((remL lt n l i).take n) n ∧ (remL lt n l i).length = n + 1 ∧ atL (remL lt n l i) n = atL l i ∧ (atL l i :: (remL lt n l i).take n).Perm l := by
  have key : HeapN lt (remL lt n l i) n ∧ (remL lt n l i).length = n + 1 ∧ atL (remL lt n l i) n = atL l i ∧ (remL lt n l i).Perm l := by
    unfold remL
    split
    · rename_i e
      subst e
      exact ⟨fun x h0 hx => h x h0 (by omega), hl, rfl, List.Perm.refl _⟩
    · rename_i e
      have hin : i < n := by omega
      have hsw : ∀ x, x ≠ i → x < n → atL (swapL l i n) x = atL l x := fun x h0 hx => by rw [atL_swap (by omega) (by omega), if_neg (by omega), if_neg h0]
      have hsl : (swapL l i n).length = n + 1 := by rw [swapL_length]; exact hl
      have hsn : atL (swapL l i n) n = atL l i := by rw [atL_swap (by omega) (by omega), if_pos rfl]
      have hlen : (downL lt n n (swapL l i n) i).1.length = n + 1 := by rw [downL_length]; exact hsl
      have hlast : atL (downL lt n n (swapL l i n) i).1 n = atL l i := by rw [downL_behind _ _ _ (by omega) hin n (Nat.le_refl _), hsn]
      have hperm : (downL lt n n (swapL l i n) i).1.Perm l := (downL_perm _ _ _ (by omega) (by omega)).trans (swapL_perm (by omega) (by omega))
      have hD : HeapD lt (swapL l i n) n i := by
        refine ⟨fun x h0 hx hp hne => ?_, fun x h0 hx hp hi0 => ?_⟩
        · have hpx : par x < x := by unfold par; omega
          unfold Rel
          rw [hsw x hne hx, hsw (par x) hp (by omega)]
          exact h x h0 (by omega)
        · have hpx : par x < x := by unfold par; omega
          have hpi : par i < i := by unfold par; omega
          rw [hsw x (by omega) hx, hsw (par i) (by omega) (by omega)]
          have a1 := h x h0 (by omega)
          have a2 := h i hi0 (by omega)
          unfold Rel at a1 a2
          rw [hp] at a1
          exact H.trans _ _ _ a2 a1
      have up_ok : HeapU lt (downL lt n n (swapL l i n) i).1 n i → HeapN lt (upL lt i (downL lt n n (swapL l i n) i).1 i) n ∧ (upL lt i (downL lt n n (swapL l i n) i).1 i).length = n + 1 ∧ atL (upL lt i (downL lt n n (swapL l i n) i).1 i) n = atL l i ∧ (upL lt i (downL lt n n (swapL l i n) i).1 i).Perm l := fun hU =>
        ⟨up_heap H _ _ _ (Nat.le_refl _) hin (by omega) hU, by rw [upL_length]; exact hlen, by rw [upL_behind _ _ _ (by omega) n hin]; exact hlast, (upL_perm _ _ _ (by omega)).trans hperm⟩
      by_cases hr : 0 < i ∧ lt (atL (swapL l i n) i) (atL (swapL l i n) (par i)) = true
      · have hst := down_still H (f := n) hD hr.1 hr.2
        rw [if_neg (by rw [hst]; simp)]
        refine up_ok ?_
        rw [hst]
        refine ⟨fun x h0 hx hne => ?_, fun x h0 hx hp hi0 => hD.2 x h0 hx hp hi0⟩
        by_cases hp : par x = i
        · unfold Rel
          rw [hp]
          exact H.trans _ _ _ (H.asymm _ _ hr.2) (hD.2 x h0 hx hp hr.1)
        · exact hD.1 x h0 hx hp hne
      · have hN := down_heap H n (swapL l i n) i (by omega) hin (by omega) hD (fun h0 => by
          unfold Rel
          cases hc : lt (atL (swapL l i n) i) (atL (swapL l i n) (par i))
          · rfl
          · exact absurd ⟨h0, hc⟩ hr)
        split
        · exact ⟨hN, hlen, hlast, hperm⟩
        · refine up_ok ⟨fun x h0 hx _ => hN x h0 hx, fun x h0 hx hp hi0 => ?_⟩
          have a1 := hN x h0 hx
          have a2 := hN i hi0 hin
          unfold Rel at a1 a2
          rw [hp] at a1
          exact H.trans _ _ _ a2 a1
  obtain ⟨k1, k2, k3, k4⟩ := key
  refine ⟨heap_take k1, k2, k3, ?_⟩
  have := perm_last k2
  rw [k3] at this
  exact this.trans k4

end
end Go.Proofs.Ytklgfnboadchmaa
end
