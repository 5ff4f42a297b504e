/- Contract of desc's Get. -/
import Derived.Test.YtclpbphofifojaaD21b
namespace Go.Proofs.Ytclpbphofifojaa
open Go.ChangeShapes Go.WideShapes Go.ChangeAt Go.RowKit
set_option linter.unusedVariables false

theorem dget_no (p : Option Addr) (n c : Nat) (w : World) (hn : n ≠ 16) :
    Calls Try.prog 32 #[.slice p n c] w fun e w' => e = .returned (.tuple #[.agg #[.int .u32 0, .int .u32 0, .int .u32 0, .int .u32 0], .int .i64 6]) ∧ Below w.heap.size w w' := by
  have h16 : ((n : Int) != 16) = true := by simp; omega
  go_enter Try.func32, Try.ntmps32
  go_wp2
  exact bodyPost_ret (v := .tuple #[.agg #[.int .u32 0, .int .u32 0, .int .u32 0, .int .u32 0], .int .i64 6]) (by simp [results, Try.results32, go_sem]) rfl ⟨rfl, (by refine (?_ : Bel _ _ _).1; repeat (first | exact hbel | exact Bel.refl _ | apply Bel.later | apply Bel.alloc | apply Bel.drew | (refine Bel.laterB ?_ (by first | exact Nat.le_refl _ | omega | (simp; omega) | simp)) | (refine Bel.setCell ?_ (by first | exact Nat.le_refl _ | omega | (simp; omega) | simp))))⟩

theorem cells_at {w : World} {b : Nat} {cs : Array Value} {t : TypeId} (h : w.heap[b]? = some (.cells cs t (0, 0))) (o : Nat) : w.cell? ⟨b, o, none⟩ = cs[o]? := by simp [World.cell?, h]
theorem free_at {w : World} {b : Nat} {cs : Array Value} {t : TypeId} (h : w.heap[b]? = some (.cells cs t (0, 0))) (o : Nat) : w.frozen? ⟨b, o, none⟩ = false := by simp [World.frozen?, h]
theorem words4 {w : World} {B : Nat} {v : Value} {f : Nat → Int} (h : Owned32 w B v (wordsOf f 4)) : ∃ g cap, v = .slice (some ⟨g, 0, none⟩) 4 cap ∧ 4 ≤ cap ∧ B ≤ g ∧ w.cell? ⟨g, 0, none⟩ = some (.int .u32 (getV f 0 4)) ∧ w.cell? ⟨g, 1, none⟩ = some (.int .u32 (getV f 4 4)) ∧ w.cell? ⟨g, 2, none⟩ = some (.int .u32 (getV f 8 4)) ∧ w.cell? ⟨g, 3, none⟩ = some (.int .u32 (getV f 12 4)) := by
  rcases h.2 with ⟨_, h0⟩ | ⟨g, cap, cur, rfl, hb, hg, hle, hm, hs, ht⟩
  · simp [wordsOf] at h0
  · rw [wordsOf_length] at ht hle
    have hk : ∀ i, i < 4 → w.cell? ⟨g, i, none⟩ = ((wordsOf f 4).map (Value.int .u32))[i]? := fun i hi => by
      rw [← ht, cells_at hg, List.getElem?_take, if_pos (by omega), Array.getElem?_toList]
    exact ⟨g, cap, by rw [wordsOf_length], hle, hb, hk 0 (by omega), hk 1 (by omega), hk 2 (by omega), hk 3 (by omega)⟩

set_option maxRecDepth 100000 in
set_option maxHeartbeats 1000000 in
theorem dget_in (p : Option Addr) (c : Nat) (f : Nat → Int) (w : World) (hs : SrcAt w p 16 f) (hc : 16 ≤ c) :
    Calls Try.prog 32 #[.slice p 16 c] w fun e w' => e = .returned (.tuple #[.agg #[.int .u32 (getV f 0 4), .int .u32 (getV f 4 4), .int .u32 (getV f 8 4), .int .u32 (getV f 12 4)], .int .i64 0]) ∧ Below w.heap.size w w' := by
  go_enter Try.func32, Try.ntmps32
  go_wp2_with fail
  refine (fields_any _ (.int .u32 0) (.int .u32 0) (.int .u32 0) (.int .u32 0) _ (by show _ < _; simp)).mono ?_
  rintro e wf ⟨rfl, hbf⟩
  have hbelf : Bel w.heap.size w wf := Bel.of (Bel.refl w).alloc.alloc hbf
  have sf := hbf.size
  simp at sf
  have hR : wf.heap[w.heap.size]? = some (.cells #[.int .u32 0, .int .u32 0, .int .u32 0, .int .u32 0] 30 (0, 0)) := (hbf.block _ (by simp; omega)).trans (heap_alloc (Go.heap_alloc_new w _))
  have hD : wf.heap[w.heap.size + 1]? = some (.cells #[.int .u32 0, .int .u32 0, .int .u32 0, .int .u32 0] 30 (0, 0)) := by
    have := Go.heap_alloc_new (w.alloc (.cells #[.int .u32 0, .int .u32 0, .int .u32 0, .int .u32 0] 30)) (.cells #[.int .u32 0, .int .u32 0, .int .u32 0, .int .u32 0] 30)
    rw [show (w.alloc (.cells #[.int .u32 0, .int .u32 0, .int .u32 0, .int .u32 0] 30)).heap.size = w.heap.size + 1 from by simp] at this
    exact (hbf.block _ (by simp)).trans this
  have hs1 := (hs.below hbelf.1)
  clear hs
  go_wp2_with fail
  refine (words_any p 16 c f _ (hs1.below (Bel.refl wf).alloc.1) hc (by omega)).mono ?_
  rintro e w1 ⟨v1, rfl, hown1, hb1⟩
  obtain ⟨g, cap, rfl, hcap, hgb, c0, c1, c2, c3⟩ := words4 hown1
  have hA1 : w1.heap[wf.heap.size]? = some (.cells #[.pointer (some ⟨w.heap.size + 1, 0, none⟩), .pointer (some ⟨w.heap.size + 1, 1, none⟩), .pointer (some ⟨w.heap.size + 1, 2, none⟩), .pointer (some ⟨w.heap.size + 1, 3, none⟩)] 72 (0, 0)) := (hb1.block _ (by simp)).trans (Go.heap_alloc_new wf _)
  have hR1 := (hb1.block w.heap.size (by simp; omega)).trans (heap_alloc hR)
  have hD1 := (hb1.block (w.heap.size + 1) (by simp; omega)).trans (heap_alloc hD)
  have hbel1 : Bel w.heap.size w w1 := hbelf.alloc.of hb1
  have sz1 : wf.heap.size + 1 ≤ w1.heap.size := by have := hb1.size; simpa using this
  have hg2 : wf.heap.size + 1 ≤ g := by simpa using hgb
  have hcc : (4 : Int) ≤ cap := by omega
  clear hb1 hR hD hbf hown1 hgb hs1 hbelf
  have a0 := cells_at hA1 0
  have a1 := cells_at hA1 1
  have a2 := cells_at hA1 2
  have a3 := cells_at hA1 3
  have d0 := cells_at hD1 0
  have d1 := cells_at hD1 1
  have d2 := cells_at hD1 2
  have d3 := cells_at hD1 3
  have e0 := cells_at hR1 0
  have e1 := cells_at hR1 1
  have e2 := cells_at hR1 2
  have e3 := cells_at hR1 3
  have f0 := free_at hD1 0
  have f1 := free_at hD1 1
  have f2 := free_at hD1 2
  have f3 := free_at hD1 3
  have g0 := free_at hR1 0
  have g1 := free_at hR1 1
  have g2 := free_at hR1 2
  have g3 := free_at hR1 3
  simp at a0 a1 a2 a3 d0 d1 d2 d3 e0 e1 e2 e3
  have n1 : ¬ g = w.heap.size := by omega
  have n2 : ¬ g = w.heap.size + 1 := by omega
  have n3 : ¬ wf.heap.size = w.heap.size := by omega
  have n4 : ¬ wf.heap.size = w.heap.size + 1 := by omega
  clear hA1 hR1 hD1
  go_wp2_with fail
  refine wp_loop_rounds 5 ?_
  rw [rounds_succ]
  go_wp2_with (rw [rounds_succ])
  have hbel := hbel1
  exact bodyPost_ret (v := .tuple #[.agg #[.int .u32 (getV f 0 4), .int .u32 (getV f 4 4), .int .u32 (getV f 8 4), .int .u32 (getV f 12 4)], .int .i64 0]) (by simp [results, Try.results32, go_sem, e0, e1, e2, e3]) rfl ⟨rfl, ((((((((hbel1.setCell (p := ⟨w.heap.size + 1, 0, none⟩) (Nat.le_succ _)).setCell (p := ⟨w.heap.size + 1, 1, none⟩) (Nat.le_succ _)).setCell (p := ⟨w.heap.size + 1, 2, none⟩) (Nat.le_succ _)).setCell (p := ⟨w.heap.size + 1, 3, none⟩) (Nat.le_succ _)).setCell (p := ⟨w.heap.size, 0, none⟩) (Nat.le_refl _)).setCell (p := ⟨w.heap.size, 1, none⟩) (Nat.le_refl _)).setCell (p := ⟨w.heap.size, 2, none⟩) (Nat.le_refl _)).setCell (p := ⟨w.heap.size, 3, none⟩) (Nat.le_refl _)).1⟩

end Go.Proofs.Ytclpbphofifojaa
