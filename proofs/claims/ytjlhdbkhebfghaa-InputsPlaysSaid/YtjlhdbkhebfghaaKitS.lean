/- Own lemmas over any program: flat values with strings among them, and slices of them, read as data, opened into their cells. -/
import Derived.Test.YtjlhdbkhebfghaaKit
namespace Go.Proofs.Ytjlhdbkhebfghaa
open Go.ChangeShapes Go.WideShapes Go.ChangeAt Go.RowKit Go.Deep

inductive Ck | int (k : IntKind) | bool | str

/-- What one cell holds: a number of a kind, a bool, a string. -/
def cellOkS : Ck → Value → Prop
  | .int k, v => ∃ n, v = .int k n ∧ (Lit.int k n).wf = true
  | .bool, v => ∃ b, v = .bool b
  | .str, v => ∃ s, v = .string s

def rowOkS : List (Ck) → List Value → Prop
  | [], [] => True
  | k :: ks, v :: vs => cellOkS k v ∧ rowOkS ks vs
  | _, _ => False

theorem rowOk_nilS {vs : List Value} (h : rowOkS [] vs) : vs = [] := by
  cases vs with
  | nil => rfl
  | cons v vs => exact h.elim

theorem rowOk_consS {k : Ck} {ks : List (Ck)} {vs : List Value} (h : rowOkS (k :: ks) vs) : ∃ v r, vs = v :: r ∧ cellOkS k v ∧ rowOkS ks r := by
  cases vs with
  | nil => exact h.elim
  | cons v r => exact ⟨v, r, rfl, h.1, h.2⟩

theorem rowOk_intS {k : IntKind} {ks : List (Ck)} {vs : List Value} (h : rowOkS (.int k :: ks) vs) : ∃ n r, vs = .int k n :: r ∧ (Lit.int k n).wf = true ∧ rowOkS ks r := by
  obtain ⟨v, r, rfl, ⟨n, rfl, hw⟩, hr⟩ := rowOk_consS h
  exact ⟨n, r, rfl, hw, hr⟩

theorem rowOk_boolS {ks : List (Ck)} {vs : List Value} (h : rowOkS (.bool :: ks) vs) : ∃ b r, vs = .bool b :: r ∧ rowOkS ks r := by
  obtain ⟨v, r, rfl, ⟨n, rfl⟩, hr⟩ := rowOk_consS h
  exact ⟨n, r, rfl, hr⟩

theorem rowOk_lengthS : ∀ {ks : List (Ck)} {vs : List Value}, rowOkS ks vs → vs.length = ks.length
  | [], vs, h => by simp [rowOk_nilS h]
  | k :: ks, vs, h => by
    obtain ⟨v, r, rfl, _, hr⟩ := rowOk_consS h
    simp [rowOk_lengthS hr]

theorem rowOk_appendS : ∀ {ks ls : List (Ck)} {vs us : List Value}, rowOkS ks vs → rowOkS ls us → rowOkS (ks ++ ls) (vs ++ us)
  | [], ls, vs, us, h, h' => by rw [rowOk_nilS h]; exact h'
  | k :: ks, ls, vs, us, h, h' => by
    obtain ⟨v, r, rfl, hc, hr⟩ := rowOk_consS h
    exact ⟨hc, rowOk_appendS hr h'⟩

/-- Fields that lie one behind the other from 'at' on: their kinds. -/
def joinFieldsS : Nat → List (Nat × Nat × List (Ck)) → Option (List (Ck))
  | _, [] => some []
  | p, (o, s, l) :: r => if o = p ∧ l.length = s then (joinFieldsS (p + s) r).map (l ++ ·) else none

/-- A type of integers and bools alone: its cells' kinds. -/
def flatKindsS (P : Program) : Nat → TypeId → Option (List (Ck))
  | 0, _ => none
  | n + 1, t =>
    match P.underlying t with
    | some .bool => some [.bool]
    | some .string => some [.str]
    | some (.int k) => some [.int k]
    | some (.struct fs) => ((fs.toList.mapM fun f => (flatKindsS P n f.type).map fun l => (f.offset, P.cellsOf f.type, l)).bind (joinFieldsS 0)).bind fun ks => if ks.length = P.cellsOf t then some ks else none
    | some (.array m e) => (flatKindsS P n e).bind fun l => if l.length = P.cellsOf e ∧ m * l.length = P.cellsOf t then some (List.replicate m l).flatten else none
    | _ => none

section
variable {H : Type} {enc : TypeId × Value → H} {P : Program} {w : World} {base : Nat} {spare : Nat → Bool} {held : Bool}

theorem joinFields_okS : ∀ (l : List (Nat × Nat × List (Ck))) (p : Nat) (ks : List (Ck)) (cs : List Value), joinFieldsS p l = some ks → cs.length = p + ks.length →
    (∀ x ∈ l, rowOkS x.2.2 ((cs.drop x.1).take x.2.1)) → rowOkS ks (cs.drop p)
  | [], p, ks, cs, h, hl, _ => by
    simp [joinFieldsS] at h
    subst h
    rw [List.drop_of_length_le (by simpa using Nat.le_of_eq hl)]
    trivial
  | (o, s, l) :: r, p, ks, cs, h, hl, hx => by
    unfold joinFieldsS at h
    split at h
    · rename_i hc
      obtain ⟨rfl, hls⟩ := hc
      rw [Option.map_eq_some_iff] at h
      obtain ⟨k2, hk2, rfl⟩ := h
      have h1 := hx (o, s, l) (by simp)
      have h2 := joinFields_okS r (o + s) k2 cs hk2 (by simp at hl; omega) (fun x hm => hx x (by simp [hm]))
      have e : cs.drop o = (cs.drop o).take s ++ cs.drop (o + s) := by
        rw [← List.drop_drop]
        exact (List.take_append_drop s (cs.drop o)).symm
      rw [e]
      exact rowOk_appendS h1 h2
    · cases h

theorem rows_okS (l : List (Ck)) : ∀ (m : Nat) (cs : List Value), cs.length = m * l.length → (∀ i, i < m → rowOkS l ((cs.drop (i * l.length)).take l.length)) → rowOkS (List.replicate m l).flatten cs
  | 0, cs, hl, _ => by
    have : cs = [] := by
      apply List.eq_nil_of_length_eq_zero
      simpa using hl
    subst this
    trivial
  | m + 1, cs, hl, h => by
    have h0 := h 0 (by omega)
    simp only [Nat.zero_mul, List.drop_zero] at h0
    have ih := rows_okS l m (cs.drop l.length) (by rw [List.length_drop, hl, Nat.succ_mul]; omega) (fun i hi => by
      have := h (i + 1) (by omega)
      rw [List.drop_drop]
      rwa [Nat.succ_mul, Nat.add_comm] at this)
    rw [List.replicate_succ, List.flatten_cons, ← List.take_append_drop l.length cs]
    exact rowOk_appendS h0 ih

theorem flat_of_trodS : ∀ (n : Nat) (t : TypeId) (ks : List (Ck)) (fuel : Nat) (cs : List Value) (x : DataW H × List MemPlace), flatKindsS P n t = some ks →
    DataW.trod enc P w base spare held fuel t cs = some x → rowOkS ks cs
  | 0, _, _, _, _, _, h, _ => by cases h
  | n + 1, t, ks, fuel, cs, x, h, ht => by
    unfold flatKindsS at h
    split at h
    · rename_i hu
      cases h
      obtain ⟨b, rfl, _⟩ := DataW.trod_bool hu ht
      exact ⟨⟨b, rfl⟩, trivial⟩
    · rename_i hu
      cases h
      obtain ⟨b, rfl, _⟩ := DataW.trod_string hu ht
      exact ⟨⟨b, rfl⟩, trivial⟩
    · rename_i k hu
      cases h
      obtain ⟨m, rfl, _, hw⟩ := DataW.trod_int hu ht
      exact ⟨⟨m, rfl, hw⟩, trivial⟩
    · rename_i fs hu
      rw [Option.bind_eq_some_iff] at h
      obtain ⟨ks', hb, hk⟩ := h
      split at hk
      · rename_i hlen
        cases hk
        rw [Option.bind_eq_some_iff] at hb
        obtain ⟨l, hm, hj⟩ := hb
        obtain ⟨xs, m, _, _, hcl, hxl, hf⟩ := DataW.trod_struct hu ht
        have := joinFields_okS l 0 ks cs hj (by rw [hcl, hlen]; omega) (fun y hy => by
          obtain ⟨f, hfm, hfe⟩ := WideShapes.mapM_mem hm y hy
          rw [Option.map_eq_some_iff] at hfe
          obtain ⟨l', hl', rfl⟩ := hfe
          obtain ⟨i, hi⟩ := List.mem_iff_getElem?.1 hfm
          have hff := hf i f (by simpa using hi)
          have hilt : i < xs.length := by
            rw [hxl]
            have := (List.getElem?_eq_some_iff.1 hi).1
            simpa using this
          rw [List.getElem?_eq_getElem hilt] at hff
          exact flat_of_trodS n f.type l' m _ _ hl' hff)
        simpa using this
      · cases hk
    · rename_i m e hu
      rw [Option.bind_eq_some_iff] at h
      obtain ⟨l, hl, hk⟩ := h
      split at hk
      · rename_i hc
        cases hk
        obtain ⟨xs, m', _, _, hcl, hxl, hf⟩ := DataW.trod_array hu ht
        refine rows_okS l m cs (by rw [hcl, hc.2]) (fun i hi => ?_)
        have hfi := hf i hi
        rw [List.getElem?_eq_getElem (by omega)] at hfi
        rw [← hc.1] at hfi
        exact flat_of_trodS n e l m' _ _ hl hfi
      · cases hk
    · cases h

/-- A struct or an array by value. -/
theorem open_flatS {r : Reach} {b0 : Nat} {n : Nat} {t : TypeId} {ks : List (Ck)} {v : Value} {d : DataW H} {p : List MemPlace} (hf : flatKindsS P n t = some ks) (ha : (∃ fs, P.underlying t = some (.struct fs)) ∨ ∃ m e, P.underlying t = some (.array m e))
    (hv : Value.okWide P w r b0 t v) (h : DataW.Trod enc P w base spare held t v d p) : ∃ cs : List Value, v = .agg cs.toArray ∧ rowOkS ks cs := by
  obtain ⟨fuel, ht⟩ := h
  have hr := flat_of_trodS n t ks fuel _ _ hf ht
  have : ∃ cs, v = .agg cs := by
    unfold Value.okWide at hv
    rcases ha with ⟨fs, hu⟩ | ⟨m, e, hu⟩ <;> rw [hu] at hv <;> exact ⟨_, hv.choose_spec.1⟩
  obtain ⟨cs, rfl⟩ := this
  exact ⟨cs.toList, rfl, by simpa [Value.cells] using hr⟩

/-- A slice of flat elements, as the walk wants it: where it has elements, its cells are there, row by row. -/
def SliceOkS (ks : List (Ck)) (w : World) (a : Option Addr) (len cap : Nat) (f : Nat → List Value) : Prop :=
  len ≤ cap ∧ cap ≤ maxLen ∧ (a = none → cap = 0) ∧ (0 < cap → ∃ b off, a = some ⟨b, off, none⟩ ∧ b < w.heap.size ∧ ∀ i, i < cap → rowOkS ks (f i) ∧ ∀ j, j < ks.length → w.cell? ⟨b, off + (i * ks.length + j), none⟩ = some ((f i).getD j undef))

theorem SliceOkS.at {ks : List (Ck)} {w : World} {a : Option Addr} {len cap : Nat} {f : Nat → List Value} (h : SliceOkS ks w a len cap f) {i : Nat} (hi : i < len) :
    ∃ b off, a = some ⟨b, off, none⟩ ∧ b < w.heap.size ∧ rowOkS ks (f i) ∧ ∀ j, j < ks.length → w.cell? ⟨b, off + (i * ks.length + j), none⟩ = some ((f i).getD j undef) := by
  obtain ⟨hl, _, _, hx⟩ := h
  obtain ⟨b, off, ha, hb, hc⟩ := hx (by omega)
  exact ⟨b, off, ha, hb, (hc i (by omega)).1, (hc i (by omega)).2⟩
theorem open_flatsS {r : Reach} {b0 : Nat} {n : Nat} {t e : TypeId} {k : Ck} {ks : List (Ck)} {v : Value} {d : DataW H} {p : List MemPlace} (ht : P.underlying t = some (.slice e)) (hf : flatKindsS P n e = some (k :: ks)) (hc : P.cellsOf e = (k :: ks).length)
    (hv : Value.okWide P w r b0 t v) (h : DataW.Trod enc P w base (fun _ => true) held t v d p) : ∃ a len cap f, v = .slice a len cap ∧ SliceOkS (k :: ks) w a len cap f ∧ ((d = .nil ∧ cap = 0) ∨ ∃ el sp, d = .slice el sp ∧ el.length + sp.length = cap) := by
  obtain ⟨a, len, cap, rfl⟩ := okWide_slice ht hv
  obtain ⟨fuel, hd⟩ := h
  rcases open_slice ht hd with ⟨hcs, hxd⟩ | ⟨x, l, c, m, n', D, Pl, hcs, _, hl, hm, hmm, hxd, hx⟩
  · simp [Value.cells] at hcs
    obtain ⟨rfl, rfl, rfl⟩ := hcs
    simp only [Prod.mk.injEq] at hxd
    exact ⟨_, _, _, fun _ => [], rfl, ⟨Nat.le_refl _, Nat.zero_le _, fun _ => rfl, fun h => absurd h (Nat.lt_irrefl _)⟩, .inl ⟨hxd.1, rfl⟩⟩
  · simp [Value.cells] at hcs
    obtain ⟨rfl, rfl, rfl⟩ := hcs
    simp only [if_true] at hmm
    subst hmm
    obtain ⟨f, hfx⟩ := choose_lt (α := List Value) (p := fun i cs' => w.cells? base (x.add (i * P.cellsOf e)) (P.cellsOf e) = some cs' ∧ rowOkS (k :: ks) cs') (fun i hi => by
      obtain ⟨cs', h1, h2⟩ := hx i hi
      exact ⟨cs', h1, flat_of_trodS n e _ n' _ _ hf h2⟩)
    simp only [Prod.mk.injEq] at hxd
    refine ⟨_, _, _, f, rfl, ⟨hl, hm, (fun h => by cases h), fun hpos => ?_⟩, .inr ⟨_, _, hxd.1, by simp; omega⟩⟩
    obtain ⟨b, off, spot⟩ := x
    have hcell : ∀ i, i < m → ∀ j, j < (k :: ks).length → w.cell? ((⟨b, off, spot⟩ : Addr).add (i * (k :: ks).length + j)) = some ((f i).getD j undef) := by
      intro i hi j hj
      obtain ⟨h1, h2⟩ := hfx i hi
      rw [hc] at h1
      obtain ⟨_, h3, h4⟩ := World.cells?_some h1
      have h5 := h4 j hj
      rw [add_add] at h5
      rw [h5]
      have hlen := rowOk_lengthS h2
      have hjl : j < (f i).length := by omega
      rw [List.getElem?_eq_getElem hjl]
      simp [List.getD, List.getElem?_eq_getElem hjl]
    have hspot : spot = none := by
      have := hcell 0 hpos 0 (by simp)
      simpa [Addr.add] using World.cell?_spot this
    subst hspot
    refine ⟨b, off, rfl, ?_, fun i hi => ⟨(hfx i hi).2, fun j hj => ?_⟩⟩
    · have h0 := hcell 0 hpos 0 (by simp)
      simpa [Addr.add] using World.block_lt_of_cell? w _ h0
    · have := hcell i hi j hj
      rwa [add_plain] at this

end

end Go.Proofs.Ytjlhdbkhebfghaa
