/- A row of items in memory, behind a struct's field: where it lies, and what stays. -/
import Derived.Test.YthppjkpejnaocaaHeap
namespace Go.Proofs.Ythppjkpejnaocaa
open Go.ChangeShapes Go.WideShapes Go.ChangeAt Go.RowKit
set_option linter.unusedVariables false

section
variable {α : Type}

/-- The struct's block b is 'blk v' (v: the slice); the slice's own block has the items. -/
def RowIn (T : TypeId) (sz : Nat) (enc : α → List Value) (w : World) (b : Nat) (t : TypeId) (blk : Value → Array Value) (v : Value) (l : List α) : Prop :=
  w.heap[b]? = some (.cells (blk v) t (0, 0)) ∧ w.ownsRow (b + 1) T sz v l.length (l.flatMap enc)

/-- The slice lies at place o of the struct. -/
def BlkOk (blk : Value → Array Value) (o : Nat) : Prop := (∀ v, (blk v)[o]? = some v) ∧ ∀ v v', (blk v).setIfInBounds o v' = blk v'

/-- What an operation on the row leaves as it was: all but the struct's block and the slice's own. -/
structure Frm (b : Nat) (v v' : Value) (w w' : World) : Prop where
  os : w'.os = w.os
  tape : w'.tape = w.tape
  output : w'.output = w.output
  size : w.heap.size ≤ w'.heap.size
  block : ∀ i, i < w.heap.size → i ≠ b → some i ≠ v.ownBlock → w'.heap[i]? = w.heap[i]?
  own : v'.ownBlock = v.ownBlock ∨ ∀ g, v'.ownBlock = some g → w.heap.size ≤ g
theorem Frm.refl (b : Nat) (v : Value) (w : World) : Frm b v v w w := ⟨rfl, rfl, rfl, Nat.le_refl _, fun _ _ _ _ => rfl, .inl rfl⟩
theorem Frm.trans {b : Nat} {v v' v'' : Value} {a c d : World} (h : Frm b v v' a c) (k : Frm b v' v'' c d) : Frm b v v'' a d := by
  refine ⟨k.os.trans h.os, k.tape.trans h.tape, k.output.trans h.output, Nat.le_trans h.size k.size, fun i hi hb hv => ?_, ?_⟩
  · refine (k.block i (Nat.lt_of_lt_of_le hi h.size) hb ?_).trans (h.block i hi hb hv)
    rcases h.own with ho | ho
    · rw [ho]; exact hv
    · intro e
      have := ho i e.symm
      omega
  · rcases k.own with ko | ko
    · rw [ko]; exact h.own
    · exact .inr fun g hg => Nat.le_trans h.size (ko g hg)
theorem Frm.of_below {b : Nat} {v : Value} {a w : World} (h : Below a.heap.size a w) : Frm b v v a w := ⟨h.os, h.tape, h.output, h.size, fun i hi _ _ => h.block i hi, .inl rfl⟩
/-- The own block alone was written. -/
theorem Frm.of_upd {b g : Nat} {v : Value} {a w : World} (h : Upd g a w) (hg : v.ownBlock = some g) : Frm b v v a w := ⟨h.os, h.tape, h.output, h.size, fun i hi _ hv => h.block i hi (by rintro ⟨⟩; exact hv hg.symm), .inl rfl⟩
theorem Frm.cell {b : Nat} {v v' : Value} {w w' : World} (h : Frm b v v' w w') {p : Addr} (hp : p.block < w.heap.size) (hb : p.block ≠ b) (hv : some p.block ≠ v.ownBlock) : w'.cell? p = w.cell? p :=
  World.cell?_of_block (w := w) (h.block p.block hp hb hv)
theorem Bel.frm {B b : Nat} {v v' : Value} {a w w' : World} (h : Bel B a w) (hf : Frm b v v' w w') (hb : B ≤ b) (hv : ∀ g, v.ownBlock = some g → B ≤ g) : Bel B a w' :=
  ⟨h.1.trans ⟨hf.os, hf.tape, hf.output, hf.size, fun k hk => hf.block k (Nat.lt_of_lt_of_le hk h.2) (by omega) (fun e => by have := hv k e.symm; omega)⟩, Nat.le_trans h.2 hf.size⟩

variable {T : TypeId} {sz : Nat} {enc : α → List Value} {w w' : World} {b o : Nat} {t : TypeId} {blk : Value → Array Value} {v : Value} {l : List α}

theorem RowIn.lt (h : RowIn T sz enc w b t blk v l) : b < w.heap.size := lt_heap h.1
theorem RowIn.own (h : RowIn T sz enc w b t blk v l) : ∀ g, v.ownBlock = some g → b < g ∧ g < w.heap.size := fun g hg => let ⟨h1, h2⟩ := h.2.lt g hg; ⟨by omega, h2⟩
theorem RowIn.below (h : RowIn T sz enc w b t blk v l) (hb : Below w.heap.size w w') : RowIn T sz enc w' b t blk v l := by
  refine ⟨(hb.block b h.lt).trans h.1, h.2.1, ?_⟩
  rcases h.2.2 with h2 | ⟨g, cap, cur, hv, hg, hh, hr⟩
  · exact .inl h2
  · exact .inr ⟨g, cap, cur, hv, hg, (hb.block g (lt_heap hh)).trans hh, hr⟩
theorem RowIn.later {x : Lat w} (h : RowIn T sz enc w b t blk v l) : RowIn T sz enc (Proofs.Ythppjkpejnaocaa.later w x) b t blk v l := h.below (later_below w x)
theorem RowIn.alloc {ob : Obj} (h : RowIn T sz enc w b t blk v l) : RowIn T sz enc (w.alloc ob) b t blk v l := h.below (Bel.refl w).alloc.1
theorem RowIn.drew (h : RowIn T sz enc w b t blk v l) : RowIn T sz enc w.drew b t blk v l := h
theorem RowIn.field (h : RowIn T sz enc w b t blk v l) (hb : BlkOk blk o) : w.cell? ⟨b, o, none⟩ = some v := by
  have := hb.1 v
  simp [World.cell?, h.1, this]
theorem RowIn.free (h : RowIn T sz enc w b t blk v l) (o : Nat) : w.frozen? ⟨b, o, none⟩ = false := by simp [World.frozen?, h.1]

theorem flat_at [Inhabited α] (he : ∀ x : α, (enc x).length = sz) : ∀ (l : List α) (i j : Nat), i < l.length → j < sz → (l.flatMap enc)[i * sz + j]? = (enc (atL l i))[j]?
  | [], i, _, hi, _ => by simp at hi
  | x :: l, 0, j, _, hj => by
    rw [List.flatMap_cons, Nat.zero_mul, Nat.zero_add, List.getElem?_append_left (by rw [he]; exact hj)]
    rfl
  | x :: l, i + 1, j, hi, hj => by
    rw [List.flatMap_cons, List.getElem?_append_right (by rw [he, Nat.succ_mul]; omega), he, Nat.succ_mul, show i * sz + sz + j - sz = i * sz + j by omega, flat_at he l i j (by simpa using hi) hj]
    rfl
theorem flat_length (he : ∀ x : α, (enc x).length = sz) : ∀ l : List α, (l.flatMap enc).length = l.length * sz
  | [] => by simp
  | x :: l => by rw [List.flatMap_cons, List.length_append, he, flat_length he l, List.length_cons, Nat.succ_mul]; omega

/-- Where it has an item, its cells. -/
theorem RowIn.item [Inhabited α] (h : RowIn T sz enc w b t blk v l) (he : ∀ x : α, (enc x).length = sz) {i : Nat} (hi : i < l.length) : ∃ g cap, v = .slice (some ⟨g, 0, none⟩) l.length cap ∧ l.length ≤ cap ∧ cap ≤ maxLen ∧ b < g ∧ g < w.heap.size ∧
    (∀ k, k < l.length → ∀ j, j < sz → w.cell? ⟨g, k * sz + j, none⟩ = (enc (atL l k))[j]?) ∧ ∀ x, w.frozen? ⟨g, x, none⟩ = false := by
  obtain ⟨_, hl, h2⟩ := h
  rcases h2 with ⟨_, h0⟩ | ⟨g, cap, cur, rfl, hb, hg, hle, hm, hs, ht⟩
  · omega
  · refine ⟨g, cap, rfl, hle, hm, by omega, lt_heap hg, fun k hk j hj => ?_, fun x => by simp [World.frozen?, hg]⟩
    rw [← flat_at he l k j hk hj, ← ht, List.getElem?_take, if_pos, Array.getElem?_toList]
    · simp [World.cell?, hg]
    · have : (k + 1) * sz ≤ l.length * sz := Nat.mul_le_mul_right _ hk
      rw [Nat.succ_mul] at this
      omega

/-- The own block was written: the items anew. -/
theorem RowIn.wrote [Inhabited α] {l' : List α} (h : RowIn T sz enc w b t blk v l) (he : ∀ x : α, (enc x).length = sz) {g cap : Nat} (hv : v = .slice (some ⟨g, 0, none⟩) l.length cap) (hu : Upd g w w') (hl : l'.length = l.length)
    (hc : ∃ cur cur' : Array Value, w.heap[g]? = some (.cells cur T (0, 0)) ∧ w'.heap[g]? = some (.cells cur' T (0, 0)) ∧ cur'.size = cur.size ∧ ∀ k, k < l.length → ∀ j, j < sz → cur'[k * sz + j]? = (enc (atL l' k))[j]?) : RowIn T sz enc w' b t blk v l' := by
  obtain ⟨h1, hl0, h2⟩ := h
  rcases h2 with ⟨rfl, h0⟩ | ⟨g', cap', cur, rfl, hb, hg, hle, hm, hs, ht⟩
  · cases hv
  · simp only [Value.slice.injEq, Option.some.injEq, Addr.mk.injEq, and_true] at hv
    obtain ⟨rfl, _, rfl⟩ := hv
    obtain ⟨cur0, cur', c1, c2, c3, c4⟩ := hc
    rw [hg] at c1
    cases c1
    refine ⟨heap_upd h1 hu (by omega), flat_length he l', .inr ⟨g', cap', cur', by rw [hl], hb, c2, by omega, hm, by omega, ?_⟩⟩
    refine List.ext_getElem? fun x => ?_
    by_cases hx : x < l'.length * sz
    · have hz : 0 < sz := by rcases Nat.eq_zero_or_pos sz with h | h; · subst h; simp at hx
                             · exact h
      have hk : x / sz < l'.length := Nat.div_lt_of_lt_mul (by rw [Nat.mul_comm]; exact hx)
      have hj : x % sz < sz := Nat.mod_lt _ hz
      have hxe : x / sz * sz + x % sz = x := by rw [Nat.mul_comm]; exact Nat.div_add_mod x sz
      rw [List.getElem?_take, if_pos hx, Array.getElem?_toList, ← hxe, c4 (x / sz) (by omega) (x % sz) hj, flat_at he l' _ _ hk hj]
    · rw [List.getElem?_eq_none (by simp; omega), List.getElem?_eq_none (by rw [flat_length he]; omega)]

/-- The field was stored into. -/
theorem RowIn.stored {v' : Value} {l' : List α} (hb : BlkOk blk o) (hB : w.heap[b]? = some (.cells (blk v) t (0, 0))) (ho : w.ownsRow (b + 1) T sz v' l'.length (l'.flatMap enc)) : RowIn T sz enc (w.setCell ⟨b, o, none⟩ v') b t blk v' l' := by
  have h1 := heap_setCell_at (o := o) (u := v') hB
  rw [hb.2] at h1
  refine ⟨h1, ho.1, ?_⟩
  rcases ho.2 with h2 | ⟨g, cap, cur, hv, hg, hh, hr⟩
  · exact .inl h2
  · exact .inr ⟨g, cap, cur, hv, hg, heap_setCell_ne hh (by show g ≠ b; omega), hr⟩

end
end Go.Proofs.Ythppjkpejnaocaa
