/- Own lemmas over any program: flat values (structs and arrays of integers and bools) and slices of them, read as data, opened into their cells. -/
import Derived.WalkKit
import Derived.ProofKit
import Derived.OpenShut
import Derived.ShutString
import Derived.ChangeOld
import Derived.SizedLaws
import Derived.Deep.Slices
import Derived.BigQuiet
import Derived.Lib.Hide
import Derived.Outline
import Derived.WalkLawsBesides
import Derived.WalkSpells
namespace Go.Proofs.Ythppjkpejnaocaa
open Go.ChangeShapes Go.WideShapes Go.ChangeAt Go.RowKit Go.Deep

/-- What one cell holds: 'some k': a number of kind k; 'none': a bool. -/
def cellOk : Option IntKind → Value → Prop
  | some k, v => ∃ n, v = .int k n ∧ (Lit.int k n).wf = true
  | none, v => ∃ b, v = .bool b

def rowOk : List (Option IntKind) → List Value → Prop
  | [], [] => True
  | k :: ks, v :: vs => cellOk k v ∧ rowOk ks vs
  | _, _ => False

theorem rowOk_nil {vs : List Value} (h : rowOk [] vs) : vs = [] := by
  cases vs with
  | nil => rfl
  | cons v vs => exact h.elim

theorem rowOk_cons {k : Option IntKind} {ks : List (Option IntKind)} {vs : List Value} (h : rowOk (k :: ks) vs) : ∃ v r, vs = v :: r ∧ cellOk k v ∧ rowOk ks r := by
  cases vs with
  | nil => exact h.elim
  | cons v r => exact ⟨v, r, rfl, h.1, h.2⟩

theorem rowOk_int {k : IntKind} {ks : List (Option IntKind)} {vs : List Value} (h : rowOk (some k :: ks) vs) : ∃ n r, vs = .int k n :: r ∧ (Lit.int k n).wf = true ∧ rowOk ks r := by
  obtain ⟨v, r, rfl, ⟨n, rfl, hw⟩, hr⟩ := rowOk_cons h
  exact ⟨n, r, rfl, hw, hr⟩

theorem rowOk_bool {ks : List (Option IntKind)} {vs : List Value} (h : rowOk (Option.none :: ks) vs) : ∃ b r, vs = .bool b :: r ∧ rowOk ks r := by
  obtain ⟨v, r, rfl, ⟨n, rfl⟩, hr⟩ := rowOk_cons h
  exact ⟨n, r, rfl, hr⟩

theorem rowOk_length : ∀ {ks : List (Option IntKind)} {vs : List Value}, rowOk ks vs → vs.length = ks.length
  | [], vs, h => by simp [rowOk_nil h]
  | k :: ks, vs, h => by
    obtain ⟨v, r, rfl, _, hr⟩ := rowOk_cons h
    simp [rowOk_length hr]

theorem rowOk_append : ∀ {ks ls : List (Option IntKind)} {vs us : List Value}, rowOk ks vs → rowOk ls us → rowOk (ks ++ ls) (vs ++ us)
  | [], ls, vs, us, h, h' => by rw [rowOk_nil h]; exact h'
  | k :: ks, ls, vs, us, h, h' => by
    obtain ⟨v, r, rfl, hc, hr⟩ := rowOk_cons h
    exact ⟨hc, rowOk_append hr h'⟩

/-- Fields that lie one behind the other from 'at' on: their kinds. -/
def joinFields : Nat → List (Nat × Nat × List (Option IntKind)) → Option (List (Option IntKind))
  | _, [] => some []
  | p, (o, s, l) :: r => if o = p ∧ l.length = s then (joinFields (p + s) r).map (l ++ ·) else none

/-- A type of integers and bools alone: its cells' kinds. -/
def flatKinds (P : Program) : Nat → TypeId → Option (List (Option IntKind))
  | 0, _ => none
  | n + 1, t =>
    match P.underlying t with
    | some .bool => some [none]
    | some (.int k) => some [some k]
    | some (.struct fs) => ((fs.toList.mapM fun f => (flatKinds P n f.type).map fun l => (f.offset, P.cellsOf f.type, l)).bind (joinFields 0)).bind fun ks => if ks.length = P.cellsOf t then some ks else none
    | some (.array m e) => (flatKinds P n e).bind fun l => if l.length = P.cellsOf e ∧ m * l.length = P.cellsOf t then some (List.replicate m l).flatten else none
    | _ => none

section
variable {H : Type} {enc : TypeId × Value → H} {P : Program} {w : World} {base : Nat} {spare : Nat → Bool} {held : Bool}

theorem joinFields_ok : ∀ (l : List (Nat × Nat × List (Option IntKind))) (p : Nat) (ks : List (Option IntKind)) (cs : List Value), joinFields p l = some ks → cs.length = p + ks.length →
    (∀ x ∈ l, rowOk x.2.2 ((cs.drop x.1).take x.2.1)) → rowOk ks (cs.drop p)
  | [], p, ks, cs, h, hl, _ => by
    simp [joinFields] at h
    subst h
    rw [List.drop_of_length_le (by simpa using Nat.le_of_eq hl)]
    trivial
  | (o, s, l) :: r, p, ks, cs, h, hl, hx => by
    unfold joinFields at h
    split at h
    · rename_i hc
      obtain ⟨rfl, hls⟩ := hc
      rw [Option.map_eq_some_iff] at h
      obtain ⟨k2, hk2, rfl⟩ := h
      have h1 := hx (o, s, l) (by simp)
      have h2 := joinFields_ok r (o + s) k2 cs hk2 (by simp at hl; omega) (fun x hm => hx x (by simp [hm]))
      have e : cs.drop o = (cs.drop o).take s ++ cs.drop (o + s) := by
        rw [← List.drop_drop]
        exact (List.take_append_drop s (cs.drop o)).symm
      rw [e]
      exact rowOk_append h1 h2
    · cases h

theorem rows_ok (l : List (Option IntKind)) : ∀ (m : Nat) (cs : List Value), cs.length = m * l.length → (∀ i, i < m → rowOk l ((cs.drop (i * l.length)).take l.length)) → rowOk (List.replicate m l).flatten cs
  | 0, cs, hl, _ => by
    have : cs = [] := by
      apply List.eq_nil_of_length_eq_zero
      simpa using hl
    subst this
    trivial
  | m + 1, cs, hl, h => by
    have h0 := h 0 (by omega)
    simp only [Nat.zero_mul, List.drop_zero] at h0
    have ih := rows_ok l m (cs.drop l.length) (by rw [List.length_drop, hl, Nat.succ_mul]; omega) (fun i hi => by
      have := h (i + 1) (by omega)
      rw [List.drop_drop]
      rwa [Nat.succ_mul, Nat.add_comm] at this)
    rw [List.replicate_succ, List.flatten_cons, ← List.take_append_drop l.length cs]
    exact rowOk_append h0 ih

theorem flat_of_trod : ∀ (n : Nat) (t : TypeId) (ks : List (Option IntKind)) (fuel : Nat) (cs : List Value) (x : DataW H × List MemPlace), flatKinds P n t = some ks →
    DataW.trod enc P w base spare held fuel t cs = some x → rowOk ks cs
  | 0, _, _, _, _, _, h, _ => by cases h
  | n + 1, t, ks, fuel, cs, x, h, ht => by
    unfold flatKinds at h
    split at h
    · rename_i hu
      cases h
      obtain ⟨b, rfl, _⟩ := DataW.trod_bool hu ht
      exact ⟨⟨b, rfl⟩, trivial⟩
    · rename_i k hu
      cases h
      obtain ⟨m, rfl, _, hw⟩ := DataW.trod_int hu ht
      exact ⟨⟨m, rfl, hw⟩, trivial⟩
    · rename_i fs hu
      rw [Option.bind_eq_some_iff] at h
      obtain ⟨ks', hb, hk⟩ := h
      split at hk
      · rename_i hlen
        cases hk
        rw [Option.bind_eq_some_iff] at hb
        obtain ⟨l, hm, hj⟩ := hb
        obtain ⟨xs, m, _, _, hcl, hxl, hf⟩ := DataW.trod_struct hu ht
        have := joinFields_ok l 0 ks cs hj (by rw [hcl, hlen]; omega) (fun y hy => by
          obtain ⟨f, hfm, hfe⟩ := WideShapes.mapM_mem hm y hy
          rw [Option.map_eq_some_iff] at hfe
          obtain ⟨l', hl', rfl⟩ := hfe
          obtain ⟨i, hi⟩ := List.mem_iff_getElem?.1 hfm
          have hff := hf i f (by simpa using hi)
          have hilt : i < xs.length := by
            rw [hxl]
            have := (List.getElem?_eq_some_iff.1 hi).1
            simpa using this
          rw [List.getElem?_eq_getElem hilt] at hff
          exact flat_of_trod n f.type l' m _ _ hl' hff)
        simpa using this
      · cases hk
    · rename_i m e hu
      rw [Option.bind_eq_some_iff] at h
      obtain ⟨l, hl, hk⟩ := h
      split at hk
      · rename_i hc
        cases hk
        obtain ⟨xs, m', _, _, hcl, hxl, hf⟩ := DataW.trod_array hu ht
        refine rows_ok l m cs (by rw [hcl, hc.2]) (fun i hi => ?_)
        have hfi := hf i hi
        rw [List.getElem?_eq_getElem (by omega)] at hfi
        rw [← hc.1] at hfi
        exact flat_of_trod n e l m' _ _ hl hfi
      · cases hk
    · cases h

/-- A struct or an array by value. -/
theorem open_flat {r : Reach} {b0 : Nat} {n : Nat} {t : TypeId} {ks : List (Option IntKind)} {v : Value} {d : DataW H} {p : List MemPlace} (hf : flatKinds P n t = some ks) (ha : (∃ fs, P.underlying t = some (.struct fs)) ∨ ∃ m e, P.underlying t = some (.array m e))
    (hv : Value.okWide P w r b0 t v) (h : DataW.Trod enc P w base spare held t v d p) : ∃ cs : List Value, v = .agg cs.toArray ∧ rowOk ks cs := by
  obtain ⟨fuel, ht⟩ := h
  have hr := flat_of_trod n t ks fuel _ _ hf ht
  have : ∃ cs, v = .agg cs := by
    unfold Value.okWide at hv
    rcases ha with ⟨fs, hu⟩ | ⟨m, e, hu⟩ <;> rw [hu] at hv <;> exact ⟨_, hv.choose_spec.1⟩
  obtain ⟨cs, rfl⟩ := this
  exact ⟨cs.toList, rfl, by simpa [Value.cells] using hr⟩

/-- A slice of flat elements, as the walk wants it: where it has elements, its cells are there, row by row. -/
def SliceOk (ks : List (Option IntKind)) (w : World) (a : Option Addr) (len cap : Nat) (f : Nat → List Value) : Prop :=
  len ≤ cap ∧ cap ≤ maxLen ∧ (a = none → cap = 0) ∧ (0 < cap → ∃ b off, a = some ⟨b, off, none⟩ ∧ b < w.heap.size ∧ ∀ i, i < cap → rowOk ks (f i) ∧ ∀ j, j < ks.length → w.cell? ⟨b, off + (i * ks.length + j), none⟩ = some ((f i).getD j undef))

theorem SliceOk.at {ks : List (Option IntKind)} {w : World} {a : Option Addr} {len cap : Nat} {f : Nat → List Value} (h : SliceOk ks w a len cap f) {i : Nat} (hi : i < len) :
    ∃ b off, a = some ⟨b, off, none⟩ ∧ b < w.heap.size ∧ rowOk ks (f i) ∧ ∀ j, j < ks.length → w.cell? ⟨b, off + (i * ks.length + j), none⟩ = some ((f i).getD j undef) := by
  obtain ⟨hl, _, _, hx⟩ := h
  obtain ⟨b, off, ha, hb, hc⟩ := hx (by omega)
  exact ⟨b, off, ha, hb, (hc i (by omega)).1, (hc i (by omega)).2⟩
theorem SliceOk.int1 {k : IntKind} {w : World} {a : Option Addr} {len cap : Nat} {f : Nat → List Value} (h : SliceOk [some k] w a len cap f) {i : Nat} (hi : i < len) :
    ∃ b off n, a = some ⟨b, off, none⟩ ∧ b < w.heap.size ∧ f i = [.int k n] ∧ (Lit.int k n).wf = true ∧ w.cell? ⟨b, off + i, none⟩ = some (.int k n) := by
  obtain ⟨b, off, ha, hb, hr, hc⟩ := h.at hi
  obtain ⟨n, r, hf, hw, hr⟩ := rowOk_int hr
  obtain rfl := rowOk_nil hr
  have := hc 0 (by simp)
  rw [hf] at this
  exact ⟨b, off, n, ha, hb, hf, hw, by simpa using this⟩
theorem SliceOk.int2 {k k' : IntKind} {w : World} {a : Option Addr} {len cap : Nat} {f : Nat → List Value} (h : SliceOk [some k, some k'] w a len cap f) {i : Nat} (hi : i < len) :
    ∃ b off n n', a = some ⟨b, off, none⟩ ∧ b < w.heap.size ∧ f i = [.int k n, .int k' n'] ∧ (Lit.int k n).wf = true ∧ (Lit.int k' n').wf = true ∧ w.cell? ⟨b, off + i * 2, none⟩ = some (.int k n) ∧ w.cell? ⟨b, off + i * 2 + 1, none⟩ = some (.int k' n') := by
  obtain ⟨b, off, ha, hb, hr, hc⟩ := h.at hi
  obtain ⟨n, r, hf, hw, hr⟩ := rowOk_int hr
  obtain ⟨n', r, rfl, hw', hr⟩ := rowOk_int hr
  obtain rfl := rowOk_nil hr
  have h0 := hc 0 (by simp)
  have h1 := hc 1 (by simp)
  rw [hf] at h0 h1
  exact ⟨b, off, n, n', ha, hb, hf, hw, hw', by simpa using h0, by simpa [Nat.add_assoc] using h1⟩

theorem open_flats {r : Reach} {b0 : Nat} {n : Nat} {t e : TypeId} {k : Option IntKind} {ks : List (Option IntKind)} {v : Value} {d : DataW H} {p : List MemPlace} (ht : P.underlying t = some (.slice e)) (hf : flatKinds P n e = some (k :: ks)) (hc : P.cellsOf e = (k :: ks).length)
    (hv : Value.okWide P w r b0 t v) (h : DataW.Trod enc P w base (fun _ => true) held t v d p) : ∃ a len cap f, v = .slice a len cap ∧ SliceOk (k :: ks) w a len cap f ∧ ((d = .nil ∧ cap = 0) ∨ ∃ el sp, d = .slice el sp ∧ el.length + sp.length = cap) := by
  obtain ⟨a, len, cap, rfl⟩ := okWide_slice ht hv
  obtain ⟨fuel, hd⟩ := h
  rcases open_slice ht hd with ⟨hcs, hxd⟩ | ⟨x, l, c, m, n', D, Pl, hcs, _, hl, hm, hmm, hxd, hx⟩
  · simp [Value.cells] at hcs
    obtain ⟨rfl, rfl, rfl⟩ := hcs
    simp only [Prod.mk.injEq] at hxd
    exact ⟨_, _, _, fun _ => [], rfl, ⟨Nat.le_refl _, Nat.zero_le _, fun _ => rfl, fun h => absurd h (Nat.lt_irrefl _)⟩, .inl ⟨hxd.1, rfl⟩⟩
  · simp [Value.cells] at hcs
    obtain ⟨rfl, rfl, rfl⟩ := hcs
    simp only [if_true] at hmm
    subst hmm
    obtain ⟨f, hfx⟩ := choose_lt (α := List Value) (p := fun i cs' => w.cells? base (x.add (i * P.cellsOf e)) (P.cellsOf e) = some cs' ∧ rowOk (k :: ks) cs') (fun i hi => by
      obtain ⟨cs', h1, h2⟩ := hx i hi
      exact ⟨cs', h1, flat_of_trod n e _ n' _ _ hf h2⟩)
    simp only [Prod.mk.injEq] at hxd
    refine ⟨_, _, _, f, rfl, ⟨hl, hm, (fun h => by cases h), fun hpos => ?_⟩, .inr ⟨_, _, hxd.1, by simp; omega⟩⟩
    obtain ⟨b, off, spot⟩ := x
    have hcell : ∀ i, i < m → ∀ j, j < (k :: ks).length → w.cell? ((⟨b, off, spot⟩ : Addr).add (i * (k :: ks).length + j)) = some ((f i).getD j undef) := by
      intro i hi j hj
      obtain ⟨h1, h2⟩ := hfx i hi
      rw [hc] at h1
      obtain ⟨_, h3, h4⟩ := World.cells?_some h1
      have h5 := h4 j hj
      rw [add_add] at h5
      rw [h5]
      have hlen := rowOk_length h2
      have hjl : j < (f i).length := by omega
      rw [List.getElem?_eq_getElem hjl]
      simp [List.getD, List.getElem?_eq_getElem hjl]
    have hspot : spot = none := by
      have := hcell 0 hpos 0 (by simp)
      simpa [Addr.add] using World.cell?_spot this
    subst hspot
    refine ⟨b, off, rfl, ?_, fun i hi => ⟨(hfx i hi).2, fun j hj => ?_⟩⟩
    · have h0 := hcell 0 hpos 0 (by simp)
      simpa [Addr.add] using World.block_lt_of_cell? w _ h0
    · have := hcell i hi j hj
      rwa [add_plain] at this

end

theorem ret_int {k : IntKind} {a b : Int} (h : a = b) : Ending.returned (.int k a) = .returned (.int k b) := by rw [h]
theorem ret_bool {a b : Bool} (h : a = b) : Ending.returned (.bool a) = .returned (.bool b) := by rw [h]

/-! ### 'later': a world of which nothing is known but that what was there is as it was -/

def Lat (W : World) : Type := { w' : World // Below W.heap.size W w' }
instance latNonempty (W : World) : Nonempty (Lat W) := ⟨⟨W, Below.refl _ _⟩⟩
def later (W : World) (x : Lat W) : World := x.1
theorem later_below (W : World) (x : Lat W) : Below W.heap.size W (later W x) := x.2
/-- There is such a block: stated so that the walk's simp finds it through new blocks and 'later'. -/
def Has (w : World) (b : Nat) : Prop := b < w.heap.size
/-- The same, not to be rewritten. -/
def HasYet (w : World) (b : Nat) : Prop := Has w b
@[go_sem low] theorem has_base {w : World} {b : Nat} : Has w b ↔ (b < w.heap.size ∨ HasYet w b) := ⟨fun h => .inl h, fun h => h.elim id id⟩
@[go_sem] theorem has_alloc {w : World} {o : Obj} {b : Nat} : Has (w.alloc o) b ↔ b = w.heap.size ∨ Has w b := by show b < _ ↔ b = _ ∨ b < _; simp; omega
@[go_sem] theorem has_setCell {w : World} {p : Addr} {u : Value} {b : Nat} : Has (w.setCell p u) b ↔ Has w b := by
  show b < _ ↔ b < _
  simp [World.setCell]
@[go_sem] theorem has_drew {w : World} {b : Nat} : Has w.drew b ↔ Has w b := Iff.rfl
theorem has_later_of {W : World} {x : Lat W} {b : Nat} (h : Has W b) : Has (later W x) b := Nat.lt_of_lt_of_le h (later_below W x).size
@[go_sem] theorem has_later {W : World} {x : Lat W} {b : Nat} : Has (later W x) b ↔ (Has W b ∨ HasYet (later W x) b) := ⟨fun h => .inr h, fun h => h.elim has_later_of id⟩
@[go_sem] theorem later_cell (W : World) (x : Lat W) (a : Addr) (h : Has W a.block) : (later W x).cell? a = W.cell? a := (later_below W x).cell h
@[go_sem] theorem later_frozen (W : World) (x : Lat W) (a : Addr) (h : Has W a.block) : (later W x).frozen? a = W.frozen? a := (later_below W x).frozen h
@[go_sem high] theorem alloc_old_cell (w : World) (o : Obj) (a : Addr) (h : Has w a.block) : (w.alloc o).cell? a = w.cell? a := World.cell?_of_block (w := w) (Below.heap_alloc w o a.block h)
@[go_sem high] theorem alloc_old_frozen (w : World) (o : Obj) (a : Addr) (h : Has w a.block) : (w.alloc o).frozen? a = w.frozen? a := World.frozen?_of_block (w := w) (Below.heap_alloc w o a.block h)
theorem later_heap (W : World) (x : Lat W) (k : Nat) (h : k < W.heap.size) : (later W x).heap[k]? = W.heap[k]? := (later_below W x).block k h
theorem later_size (W : World) (x : Lat W) : W.heap.size ≤ (later W x).heap.size := (later_below W x).size
theorem later_of {W w' : World} (h : Below W.heap.size W w') : ∃ x, w' = later W x := ⟨⟨w', h⟩, rfl⟩

/-- Below, and nothing has gone: what a law's walk carries along. -/
def Bel (B : Nat) (a w : World) : Prop := Below B a w ∧ B ≤ w.heap.size
theorem Bel.refl (w : World) : Bel w.heap.size w w := ⟨Below.refl _ _, Nat.le_refl _⟩
theorem Bel.of {B : Nat} {a w w' : World} (h : Bel B a w) (hb : Below w.heap.size w w') : Bel B a w' := ⟨h.1.trans (hb.mono h.2), Nat.le_trans h.2 hb.size⟩
theorem Bel.later {B : Nat} {a w : World} {x : Lat w} (h : Bel B a w) : Bel B a (Proofs.Ythppjkpejnaocaa.later w x) := h.of (later_below w x)
theorem Bel.alloc {B : Nat} {a w : World} {o : Obj} (h : Bel B a w) : Bel B a (w.alloc o) := h.of ((Below.refl _ _).alloc (Nat.le_refl _) _)
theorem Bel.drew {B : Nat} {a w : World} (h : Bel B a w) : Bel B a w.drew := h.of (Below.refl _ _).drew
theorem Bel.setCell {B : Nat} {a w : World} {p : Addr} {u : Value} (h : Bel B a w) (hp : B ≤ p.block) : Bel B a (w.setCell p u) := ⟨h.1.setCell hp u, by have := h.2; simpa [World.setCell] using this⟩
theorem Bel.trans {B B' : Nat} {a b c : World} (h : Bel B a b) (k : Bel B' b c) (hB : B ≤ B') : Bel B a c := ⟨h.1.trans (k.1.mono hB), Nat.le_trans hB k.2⟩

/-- What was there is as it was, but for block b; nothing has gone. -/
def Upd (b : Nat) (a w : World) : Prop := a.grownBy w (some b)
theorem Upd.refl (b : Nat) (w : World) : Upd b w w := ⟨rfl, rfl, rfl, Nat.le_refl _, fun _ _ _ => rfl⟩
theorem Upd.trans {b : Nat} {a c w : World} (h : Upd b a c) (k : Upd b c w) : Upd b a w :=
  ⟨k.os.trans h.os, k.tape.trans h.tape, k.output.trans h.output, Nat.le_trans h.size k.size, fun i hi hne => (k.block i (Nat.lt_of_lt_of_le hi h.size) hne).trans (h.block i hi hne)⟩
theorem Upd.of_below {b : Nat} {a w : World} (h : Below a.heap.size a w) : Upd b a w := ⟨h.os, h.tape, h.output, h.size, fun i hi _ => h.block i hi⟩
theorem Upd.later {b : Nat} {a w : World} {x : Lat w} (h : Upd b a w) : Upd b a (Proofs.Ythppjkpejnaocaa.later w x) := h.trans (.of_below (later_below w x))
theorem Upd.alloc {b : Nat} {a w : World} {o : Obj} (h : Upd b a w) : Upd b a (w.alloc o) := h.trans (.of_below ((Below.refl _ _).alloc (Nat.le_refl _) _))
theorem Upd.drew {b : Nat} {a w : World} (h : Upd b a w) : Upd b a w.drew := h.trans (.of_below (Below.refl _ _).drew)
theorem Upd.setCell {b o : Nat} {a w : World} {s : Option Nat} {u : Value} (h : Upd b a w) : Upd b a (w.setCell ⟨b, o, s⟩ u) :=
  h.trans ⟨rfl, rfl, rfl, by simp [World.setCell], fun i _ hne => Below.heap_setCell _ _ _ _ (by rintro rfl; exact hne rfl)⟩
/-- A block that is written from B on: all below B is as it was. -/
theorem Bel.upd {B b : Nat} {a w w' : World} (h : Bel B a w) (hu : Upd b w w') (hb : B ≤ b) : Bel B a w' :=
  ⟨h.1.trans ⟨hu.os, hu.tape, hu.output, hu.size, fun k hk => hu.block k (Nat.lt_of_lt_of_le hk h.2) (by rintro ⟨⟩; omega)⟩, Nat.le_trans h.2 hu.size⟩
theorem Bel.append {B : Nat} {a w w' : World} {o : Obj} {e : TypeId} {size n : Nat} {v : Value} {xs : List Value} (h : Bel B a w) (hown : w.ownsRow B e size v n xs) (hg : (w.alloc o).grownBy w' v.ownBlock) : Bel B a w' :=
  ⟨h.alloc.1.grown hg h.alloc.2 (fun q hq => (hown.lt q hq).1), Nat.le_trans h.alloc.2 hg.size⟩
theorem heap_later {w : World} {x : Lat w} {b : Nat} {o : Obj} (h : w.heap[b]? = some o) : (later w x).heap[b]? = some o :=
  (later_heap w x b (Array.getElem?_eq_some_iff.1 h).1).trans h
theorem heap_alloc {w : World} {b : Nat} {o o' : Obj} (h : w.heap[b]? = some o) : (w.alloc o').heap[b]? = some o :=
  (Below.heap_alloc w o' b (Array.getElem?_eq_some_iff.1 h).1).trans h
theorem heap_upd {w w' : World} {b b' : Nat} {o : Obj} (h : w.heap[b]? = some o) (hu : Upd b' w w') (hne : b ≠ b') : w'.heap[b]? = some o :=
  (hu.block b (Array.getElem?_eq_some_iff.1 h).1 (by rintro ⟨⟩; exact hne rfl)).trans h
theorem heap_setCell_at {w : World} {b o : Nat} {cs : Array Value} {t : TypeId} {fr : Nat × Nat} {u : Value} (h : w.heap[b]? = some (.cells cs t fr)) : (w.setCell ⟨b, o, none⟩ u).heap[b]? = some (.cells (cs.setIfInBounds o u) t fr) := by
  simp [World.setCell, Array.getElem?_modify, h]
theorem heap_setCell_ne {w : World} {b : Nat} {a : Addr} {o : Obj} {u : Value} (h : w.heap[b]? = some o) (hne : b ≠ a.block) : (w.setCell a u).heap[b]? = some o :=
  (Below.heap_setCell _ _ _ _ hne).trans h
theorem lt_heap {w : World} {b : Nat} {o : Obj} (h : w.heap[b]? = some o) : b < w.heap.size := (Array.getElem?_eq_some_iff.1 h).1

/-- A world of which nothing is known but that what was there, but for block b, is as it was. -/
def LatB (b : Nat) (W : World) : Type := { w' : World // Upd b W w' }
def laterB (b : Nat) (W : World) (x : LatB b W) : World := x.1
theorem laterB_upd (b : Nat) (W : World) (x : LatB b W) : Upd b W (laterB b W x) := x.2
@[go_sem] theorem laterB_cell (b : Nat) (W : World) (x : LatB b W) (a : Addr) (h : Has W a.block) (hne : a.block ≠ b) : (laterB b W x).cell? a = W.cell? a :=
  World.cell?_of_block (w := W) ((laterB_upd b W x).block a.block h (by rintro ⟨⟩; exact hne rfl))
@[go_sem] theorem laterB_frozen (b : Nat) (W : World) (x : LatB b W) (a : Addr) (h : Has W a.block) (hne : a.block ≠ b) : (laterB b W x).frozen? a = W.frozen? a :=
  World.frozen?_of_block (w := W) ((laterB_upd b W x).block a.block h (by rintro ⟨⟩; exact hne rfl))
theorem has_laterB_of {b : Nat} {W : World} {x : LatB b W} {c : Nat} (h : Has W c) : Has (laterB b W x) c := Nat.lt_of_lt_of_le h (laterB_upd b W x).size
@[go_sem] theorem has_laterB {b : Nat} {W : World} {x : LatB b W} {c : Nat} : Has (laterB b W x) c ↔ (Has W c ∨ HasYet (laterB b W x) c) := ⟨fun h => .inr h, fun h => h.elim has_laterB_of id⟩
theorem Bel.laterB {B b : Nat} {a w : World} {x : LatB b w} (h : Bel B a w) (hb : B ≤ b) : Bel B a (Proofs.Ythppjkpejnaocaa.laterB b w x) := h.upd (laterB_upd b w x) hb
theorem heap_laterB {w : World} {b c : Nat} {x : LatB c w} {o : Obj} (h : w.heap[b]? = some o) (hne : b ≠ c) : (laterB c w x).heap[b]? = some o := heap_upd h (laterB_upd c w x) hne

/-- Where a slice of n integers lies, and which. -/
def IntsAt (k : IntKind) (w : World) (a : Option Addr) (n : Nat) (l : List Int) : Prop :=
  l.length = n ∧ (0 < n → ∃ g o, a = some ⟨g, o, none⟩ ∧ HasYet w g ∧ ∀ i, i < n → w.cell? ⟨g, o + i, none⟩ = some (.int k (l.getD i 0)))
theorem IntsAt.later {k : IntKind} {w : World} {a : Option Addr} {n : Nat} {l : List Int} {x : Lat w} (h : IntsAt k w a n l) : IntsAt k (Proofs.Ythppjkpejnaocaa.later w x) a n l :=
  ⟨h.1, fun hn => let ⟨g, o, ha, hg, hc⟩ := h.2 hn; ⟨g, o, ha, has_later_of hg, fun i hi => (later_cell w x ⟨g, o + i, none⟩ hg).trans (hc i hi)⟩⟩
theorem IntsAt.alloc {k : IntKind} {w : World} {a : Option Addr} {n : Nat} {l : List Int} {ob : Obj} (h : IntsAt k w a n l) : IntsAt k (w.alloc ob) a n l :=
  ⟨h.1, fun hn => let ⟨g, o, ha, hg, hc⟩ := h.2 hn; ⟨g, o, ha, (has_alloc.2 (.inr hg) : Has _ _), fun i hi => (alloc_old_cell w ob ⟨g, o + i, none⟩ hg).trans (hc i hi)⟩⟩
theorem IntsAt.bel {k : IntKind} {w w' : World} {a : Option Addr} {n : Nat} {l : List Int} (h : IntsAt k w a n l) (hb : Bel w.heap.size w w') : IntsAt k w' a n l :=
  ⟨h.1, fun hn => let ⟨g, o, ha, hg, hc⟩ := h.2 hn; ⟨g, o, ha, Nat.lt_of_lt_of_le hg hb.2, fun i hi => (hb.1.cell (p := ⟨g, o + i, none⟩) hg).trans (hc i hi)⟩⟩
/-- A slice that the call owns, as one that is read. -/
theorem ints_of_owned {k : IntKind} {w : World} {B : Nat} {e : TypeId} {v : Value} {l : List Int} (h : w.ownsRow B e 1 v l.length (l.map (Value.int k))) : ∃ a c, v = .slice a l.length c ∧ l.length ≤ c ∧ c ≤ maxLen ∧ IntsAt k w a l.length l ∧ (a = none → c = 0) := by
  rcases h.2 with ⟨rfl, hn⟩ | ⟨g, cap, cur, rfl, hb, hg, hle, hm, hs, ht⟩
  · have hl : l = [] := List.eq_nil_of_length_eq_zero hn
    subst hl
    exact ⟨none, 0, rfl, Nat.le_refl _, Nat.zero_le _, ⟨rfl, fun h => absurd h (Nat.lt_irrefl _)⟩, fun _ => rfl⟩
  · refine ⟨_, cap, rfl, hle, hm, ⟨rfl, fun hn => ⟨g, 0, rfl, lt_heap hg, fun i hi => ?_⟩⟩, fun h => by cases h⟩
    rw [Nat.mul_one] at ht
    have h1 : (cur.toList.take l.length)[i]? = (l.map (Value.int k))[i]? := by rw [ht]
    rw [List.getElem?_take, if_pos hi] at h1
    have h2 : w.cell? ⟨g, 0 + i, none⟩ = cur[i]? := by simp [World.cell?, hg]
    rw [h2, ← Array.getElem?_toList, h1]
    simp [List.getD, List.getElem?_eq_getElem hi]

section
variable {P : Program}
theorem Calls.latB {f : FuncId} {args : Array Value} {w : World} {b : Nat} {E : Ending → Prop} {R : World → Prop} (h : Calls P f args w fun e w' => E e ∧ Upd b w w' ∧ R w') : Calls P f args w fun e w' => E e ∧ ∃ x, w' = laterB b w x ∧ R w' :=
  h.mono fun _ w' ⟨he, hu, hr⟩ => ⟨he, ⟨w', hu⟩, rfl, hr⟩
/-- A contract's 'Below' as 'later'. -/
theorem Calls.lat {f : FuncId} {args : Array Value} {w : World} {E : Ending → Prop} (h : Calls P f args w fun e w' => E e ∧ Below w.heap.size w w') : Calls P f args w fun e w' => E e ∧ ∃ x, w' = later w x :=
  h.mono fun _ _ ⟨he, hb⟩ => ⟨he, later_of hb⟩

/-- A region that draws its order and only reads, or calls what leaves all that was there as it was: walked once. -/
theorem wp_region_later {id : Nat} {Q : Exit → Act → World → Prop} {a : Act} {w : World} {l : List Oper} (hm : P.follows .mixedOrders = true) (hB : Region.lexB .any l.toArray = true)
    (h : wpQuiet P l.toArray (fun w' => ∃ x, w' = later w x) (fun a' => ∀ w', (∃ x, w' = later w x) → Q .normal a' w') l a) : (Code.region id l.toArray true).wp P Q a w :=
  wp_region_quiet (C := fun w' => ∃ x, w' = later w x) hm hB (later_of (Below.refl _ _).drew) (by simpa using h)

theorem Calls.later_of {f : FuncId} {args : Array Value} {w : World} {x : Lat w} {v : Value}
    (h : Calls P f args (later w x) fun e w' => e = .returned v ∧ Below (later w x).heap.size (later w x) w') : Calls P f args (later w x) fun e w'' => e = .returned v ∧ ∃ m, w'' = later w m :=
  h.mono fun _ _ ⟨he, hb⟩ => ⟨he, Proofs.Ythppjkpejnaocaa.later_of ((later_below w x).trans (hb.mono (later_size w x)))⟩

theorem Calls.later_same {f : FuncId} {args : Array Value} {w : World} {x : Lat w} {v : Value}
    (h : Calls P f args (later w x) fun e w' => e = .returned v ∧ later w x = w') : Calls P f args (later w x) fun e w'' => e = .returned v ∧ ∃ m, w'' = later w m :=
  h.mono fun _ _ ⟨he, hm⟩ => ⟨he, x, hm.symm⟩
end

end Go.Proofs.Ythppjkpejnaocaa
