/- The inputs' row: Less. -/
import Derived.Test.YtjlhdbkhebfghaaIrowA
import Derived.Test.YtjlhdbkhebfghaaReg6
namespace Go.Proofs.Ytjlhdbkhebfghaa
open Go.ChangeShapes Go.WideShapes Go.ChangeAt Go.RowKit
set_option linter.unusedVariables false

def inLt (x y : inIt) : Bool := if x.tat = y.tat then decide (x.pl < y.pl) else decide (x.tat < y.tat)
theorem inLt_true (x y : inIt) : inLt x y = true ↔ x.tat < y.tat ∨ x.tat = y.tat ∧ x.pl < y.pl := by
  simp only [inLt]
  split <;> simp only [decide_eq_true_eq] <;> omega
theorem inLt_false (x y : inIt) : inLt x y = false ↔ y.tat < x.tat ∨ x.tat = y.tat ∧ y.pl ≤ x.pl := by
  simp only [inLt]
  split <;> simp only [decide_eq_false_iff_not] <;> omega
theorem inLt_ordered : Ordered inLt := by
  constructor
  · intro a b h
    rw [inLt_true] at h
    rw [inLt_false]
    omega
  · intro a b c h k
    rw [inLt_false] at *
    omega
theorem below_setCells {B b : Nat} {a : World} (hb : B ≤ b) : ∀ (vs : List Value) (o : Nat) (w : World), Below B a w → Below B a (w.setCells b o vs)
  | [], _, _, h => h
  | v :: r, o, w, h => by
    rw [World.setCells]
    exact below_setCells hb r (o + 1) _ (h.setCell hb v)
variable {o : Nat}
set_option maxRecDepth 100000 in
set_option maxHeartbeats 1000000 in
theorem inLess (b : Nat) (blk : Value → Array Value) (v : Value) (l : List inIt) (i k : Nat) (w : World) (hb : BlkOk blk o) (h : inRow w b blk v l) (hi : i < l.length) (hk : k < l.length) :
    Calls Try.prog 66 #[.pointer (some ⟨b, o, none⟩), .int .i64 i, .int .i64 k] w fun e w' => e = .returned (.bool (inLt (atL l i) (atL l k))) ∧ Below w.heap.size w w' := by
  have q0 := h.field hb
  have q1 := h.free o
  have hlt := h.lt
  obtain ⟨g, cap, rfl, hle, hm, hbg, hg, hc, hf⟩ := h.item inEnc_length hi
  have c0 := hc i hi 0 (by omega)
  have c1 := hc i hi 1 (by omega)
  have c2 := hc i hi 2 (by omega)
  have c3 := hc i hi 3 (by omega)
  have c4 := hc i hi 4 (by omega)
  have c5 := hc i hi 5 (by omega)
  have d0 := hc k hk 0 (by omega)
  have d1 := hc k hk 1 (by omega)
  have d2 := hc k hk 2 (by omega)
  have d3 := hc k hk 3 (by omega)
  have d4 := hc k hk 4 (by omega)
  have d5 := hc k hk 5 (by omega)
  simp only [inEnc, List.getElem?_cons_zero, List.getElem?_cons_succ, Nat.add_zero] at c0 c1 c2 c3 c4 c5 d0 d1 d2 d3 d4 d5
  clear hc
  have hlt2 : inLt (atL l i) (atL l k) = if (atL l i).tat = (atL l k).tat then decide ((atL l i).pl < (atL l k).pl) else decide ((atL l i).tat < (atL l k).tat) := rfl
  rw [hlt2]
  clear hlt2
  obtain ⟨x1, hx1⟩ : ∃ x, (atL l i).tat = x := ⟨_, rfl⟩
  obtain ⟨x2, hx2⟩ : ∃ x, (atL l k).tat = x := ⟨_, rfl⟩
  obtain ⟨y1, hy1⟩ : ∃ x, (atL l i).pl = x := ⟨_, rfl⟩
  obtain ⟨y2, hy2⟩ : ∃ x, (atL l k).pl = x := ⟨_, rfl⟩
  rw [hx1, hx2, hy1, hy2]
  have X1 := Lib.hid hx1
  have X2 := Lib.hid hx2
  have Y1 := Lib.hid hy1
  have Y2 := Lib.hid hy2
  clear hx1 hx2 hy1 hy2
  by_cases he : x1 = x2
  · rw [if_pos he]
    subst he
    go_enter Try.func66, Try.ntmps66
    go_wp2
    (refine wp_region_line 18 (fun x => ∃ y : LatF w.heap.size w, x = laterF w.heap.size w y) (by kernel_rfl) rfl ?_)
    (refine wpSeg (0 :: 1 :: 2 :: 3 :: 4 :: 5 :: 6 :: 7 :: 8 :: 9 :: 10 :: 11 :: 12 :: 13 :: []) 4 (l := _) rfl (by simp only [List.filterMap_cons, List.filterMap_nil, List.getElem?_toArray, List.getElem?_cons_succ, List.getElem?_cons_zero]; rfl) (by kernel_rfl) (fun _ _ _ _ _ h => h) (laterF_drew) ?_; show wpQuiet _ _ _ _ (_ :: _ :: _ :: _ :: _ :: _ :: _ :: _ :: _ :: _ :: _ :: _ :: _ :: _ :: []) _; (repeat (go_big_quiet_step (fail))); refine wpQuiet_nil ?_; show wpAnyH _ _ _ _ _ _ _ _ _)
    refine wpTwoAlloc 14 15 2 (.cells #[.int .i64 0, .int .i64 0, .int .i64 0, .int .i64 0, .string { data := #[] }, .int .i64 0] 89) (.cells #[.int .i64 0, .int .i64 0, .int .i64 0, .int .i64 0, .string { data := #[] }, .int .i64 0] 89) 7 8 rfl rfl rfl rfl rfl (by decide) rfl rfl (by kernel_rfl) (by kernel_rfl) (by kernel_rfl) (by decide) (by intro ρ w1; go_simp) (by intro ρ w1; go_simp) (fun x hx => laterF_of ((RowKit.Below.refl w.heap.size w).drew.trans hx)) ?_
    intro g1 g2 w2 hg1 hg2 hne hb2 h1 h2
    have hb3 : Below w.heap.size w w2 := (RowKit.Below.refl w.heap.size w).drew.trans hb2
    have t1 : w2.there g1 0 6 := fun j hj => by
      refine ⟨?_, by simp [World.frozen?, h1]⟩
      rw [cell_of_row _ _ _ _ _ _ h1]
      match j, hj with
      | 0, _ => rfl
      | 1, _ => rfl
      | 2, _ => rfl
      | 3, _ => rfl
      | 4, _ => rfl
      | 5, _ => rfl
    have t2 : w2.there g2 0 6 := fun j hj => by
      refine ⟨?_, by simp [World.frozen?, h2]⟩
      rw [cell_of_row _ _ _ _ _ _ h2]
      match j, hj with
      | 0, _ => rfl
      | 1, _ => rfl
      | 2, _ => rfl
      | 3, _ => rfl
      | 4, _ => rfl
      | 5, _ => rfl
    have hg1' : w.heap.size ≤ g1 := hg1
    have hg2' : w.heap.size ≤ g2 := hg2
    have s1 : Below w.heap.size w (w2.setCells g1 0 (inEnc (atL l i)).toArray.toList) := below_setCells hg1' _ _ _ hb3
    have s2 : Below w.heap.size w ((w2.setCells g1 0 (inEnc (atL l i)).toArray.toList).setCells g2 0 (inEnc (atL l k)).toArray.toList) := below_setCells hg2' _ _ _ s1
    refine wpStoreMid 16 1 89 (.tmp 7) (.tmp 15) g1 0 (inEnc (atL l i)).toArray rfl (by kernel_rfl) (by kernel_rfl) rfl rfl (by kernel_rfl) (by simp [inEnc, Value.oneCell']) t1 (laterF_of s1) ?_
    refine wpStoreMid 17 0 89 (.tmp 8) (.tmp 22) g2 0 (inEnc (atL l k)).toArray rfl (by kernel_rfl) (by kernel_rfl) rfl rfl (by kernel_rfl) (by simp [inEnc, Value.oneCell']) (World.there_setCells (w := w2) t2 _ _ _) (laterF_of s2) ?_
    refine wpAnyH_done (by kernel_rfl) ?_ _
    have r1 : ∀ j, j < 6 → ((w2.setCells g1 0 (inEnc (atL l i)).toArray.toList).setCells g2 0 (inEnc (atL l k)).toArray.toList).cell? ⟨g1, j, none⟩ = (inEnc (atL l i))[j]? := fun j hj => by
      rw [World.cell?_setCells_out g2 _ 0 _ ⟨g1, j, none⟩ (fun hb' _ => absurd hb' hne)]
      have := World.cell?_setCells_in g1 (inEnc (atL l i)) 0 w2 (fun q hq => (t1 q hq).1) j hj
      rw [List.getElem?_eq_getElem (by exact hj)]
      simpa using this
    have r2 : ∀ j, j < 6 → ((w2.setCells g1 0 (inEnc (atL l i)).toArray.toList).setCells g2 0 (inEnc (atL l k)).toArray.toList).cell? ⟨g2, j, none⟩ = (inEnc (atL l k))[j]? := fun j hj => by
      have := World.cell?_setCells_in g2 (inEnc (atL l k)) 0 (w2.setCells g1 0 (inEnc (atL l i)).toArray.toList) (fun q hq => (World.there_setCells (w := w2) t2 _ _ _ q hq).1) j hj
      rw [List.getElem?_eq_getElem (by exact hj)]
      simpa using this
    generalize ((w2.setCells g1 0 (inEnc (atL l i)).toArray.toList).setCells g2 0 (inEnc (atL l k)).toArray.toList) = w3 at r1 r2 s2 ⊢
    have a0 := r1 0 (by omega)
    have a5 := r1 5 (by omega)
    have b0 := r2 0 (by omega)
    have b5 := r2 5 (by omega)
    simp only [inEnc, List.getElem?_cons_zero, List.getElem?_cons_succ] at a0 a5 b0 b5
    simp only [Act.put, List.setIfInBounds_toArray, List.set_cons_zero, List.set_cons_succ]
    clear r1 r2 s1 t1 t2 h1 h2 hb2 hb3 c0 c1 c2 c3 c4 c5 d0 d1 d2 d3 d4 d5 q0 q1
    rw [X1.out] at a0
    rw [X2.out] at b0
    rw [Y1.out] at a5
    rw [Y2.out] at b5
    go_wp2_with fail
    go_ret
    exact ⟨rfl, s2⟩
  · rw [if_neg he]
    go_enter Try.func66, Try.ntmps66
    go_wp2
    (refine wp_region_line 18 (fun x => ∃ y : LatF w.heap.size w, x = laterF w.heap.size w y) (by kernel_rfl) rfl ?_)
    (refine wpSeg (0 :: 1 :: 2 :: 3 :: 4 :: 5 :: 6 :: 7 :: 8 :: 9 :: 10 :: 11 :: 12 :: 13 :: []) 4 (l := _) rfl (by simp only [List.filterMap_cons, List.filterMap_nil, List.getElem?_toArray, List.getElem?_cons_succ, List.getElem?_cons_zero]; rfl) (by kernel_rfl) (fun _ _ _ _ _ h => h) (laterF_drew) ?_; show wpQuiet _ _ _ _ (_ :: _ :: _ :: _ :: _ :: _ :: _ :: _ :: _ :: _ :: _ :: _ :: _ :: _ :: []) _; (repeat (go_big_quiet_step (fail))); refine wpQuiet_nil ?_; show wpAnyH _ _ _ _ _ _ _ _ _)
    refine wpTwoAlloc 14 15 2 (.cells #[.int .i64 0, .int .i64 0, .int .i64 0, .int .i64 0, .string { data := #[] }, .int .i64 0] 89) (.cells #[.int .i64 0, .int .i64 0, .int .i64 0, .int .i64 0, .string { data := #[] }, .int .i64 0] 89) 7 8 rfl rfl rfl rfl rfl (by decide) rfl rfl (by kernel_rfl) (by kernel_rfl) (by kernel_rfl) (by decide) (by intro ρ w1; go_simp) (by intro ρ w1; go_simp) (fun x hx => laterF_of ((RowKit.Below.refl w.heap.size w).drew.trans hx)) ?_
    intro g1 g2 w2 hg1 hg2 hne hb2 h1 h2
    have hb3 : Below w.heap.size w w2 := (RowKit.Below.refl w.heap.size w).drew.trans hb2
    have t1 : w2.there g1 0 6 := fun j hj => by
      refine ⟨?_, by simp [World.frozen?, h1]⟩
      rw [cell_of_row _ _ _ _ _ _ h1]
      match j, hj with
      | 0, _ => rfl
      | 1, _ => rfl
      | 2, _ => rfl
      | 3, _ => rfl
      | 4, _ => rfl
      | 5, _ => rfl
    have t2 : w2.there g2 0 6 := fun j hj => by
      refine ⟨?_, by simp [World.frozen?, h2]⟩
      rw [cell_of_row _ _ _ _ _ _ h2]
      match j, hj with
      | 0, _ => rfl
      | 1, _ => rfl
      | 2, _ => rfl
      | 3, _ => rfl
      | 4, _ => rfl
      | 5, _ => rfl
    have hg1' : w.heap.size ≤ g1 := hg1
    have hg2' : w.heap.size ≤ g2 := hg2
    have s1 : Below w.heap.size w (w2.setCells g1 0 (inEnc (atL l i)).toArray.toList) := below_setCells hg1' _ _ _ hb3
    have s2 : Below w.heap.size w ((w2.setCells g1 0 (inEnc (atL l i)).toArray.toList).setCells g2 0 (inEnc (atL l k)).toArray.toList) := below_setCells hg2' _ _ _ s1
    refine wpStoreMid 16 1 89 (.tmp 7) (.tmp 15) g1 0 (inEnc (atL l i)).toArray rfl (by kernel_rfl) (by kernel_rfl) rfl rfl (by kernel_rfl) (by simp [inEnc, Value.oneCell']) t1 (laterF_of s1) ?_
    refine wpStoreMid 17 0 89 (.tmp 8) (.tmp 22) g2 0 (inEnc (atL l k)).toArray rfl (by kernel_rfl) (by kernel_rfl) rfl rfl (by kernel_rfl) (by simp [inEnc, Value.oneCell']) (World.there_setCells (w := w2) t2 _ _ _) (laterF_of s2) ?_
    refine wpAnyH_done (by kernel_rfl) ?_ _
    have r1 : ∀ j, j < 6 → ((w2.setCells g1 0 (inEnc (atL l i)).toArray.toList).setCells g2 0 (inEnc (atL l k)).toArray.toList).cell? ⟨g1, j, none⟩ = (inEnc (atL l i))[j]? := fun j hj => by
      rw [World.cell?_setCells_out g2 _ 0 _ ⟨g1, j, none⟩ (fun hb' _ => absurd hb' hne)]
      have := World.cell?_setCells_in g1 (inEnc (atL l i)) 0 w2 (fun q hq => (t1 q hq).1) j hj
      rw [List.getElem?_eq_getElem (by exact hj)]
      simpa using this
    have r2 : ∀ j, j < 6 → ((w2.setCells g1 0 (inEnc (atL l i)).toArray.toList).setCells g2 0 (inEnc (atL l k)).toArray.toList).cell? ⟨g2, j, none⟩ = (inEnc (atL l k))[j]? := fun j hj => by
      have := World.cell?_setCells_in g2 (inEnc (atL l k)) 0 (w2.setCells g1 0 (inEnc (atL l i)).toArray.toList) (fun q hq => (World.there_setCells (w := w2) t2 _ _ _ q hq).1) j hj
      rw [List.getElem?_eq_getElem (by exact hj)]
      simpa using this
    generalize ((w2.setCells g1 0 (inEnc (atL l i)).toArray.toList).setCells g2 0 (inEnc (atL l k)).toArray.toList) = w3 at r1 r2 s2 ⊢
    have a0 := r1 0 (by omega)
    have a5 := r1 5 (by omega)
    have b0 := r2 0 (by omega)
    have b5 := r2 5 (by omega)
    simp only [inEnc, List.getElem?_cons_zero, List.getElem?_cons_succ] at a0 a5 b0 b5
    simp only [Act.put, List.setIfInBounds_toArray, List.set_cons_zero, List.set_cons_succ]
    clear r1 r2 s1 t1 t2 h1 h2 hb2 hb3 c0 c1 c2 c3 c4 c5 d0 d1 d2 d3 d4 d5 q0 q1
    rw [X1.out] at a0
    rw [X2.out] at b0
    rw [Y1.out] at a5
    rw [Y2.out] at b5
    go_wp2_with fail
    go_ret
    exact ⟨rfl, s2⟩
end Go.Proofs.Ytjlhdbkhebfghaa
