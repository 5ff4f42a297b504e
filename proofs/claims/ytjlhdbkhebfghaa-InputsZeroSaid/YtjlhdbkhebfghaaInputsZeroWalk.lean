/- law 33: InputsZero. -/
import Derived.Test.YtjlhdbkhebfghaaInW
import Derived.Test.YtjlhdbkhebfghaaKitS
namespace Go.Proofs.Ytjlhdbkhebfghaa
open Go.ChangeShapes Go.WideShapes Go.ChangeAt Go.RowKit
set_option linter.unusedVariables false

set_option maxRecDepth 20000 in
set_option maxHeartbeats 1000000 in
theorem inputsZero_walk (a0 : Int) (a1 : Int) (w : World) (w0 : (Lit.int .i64 a0).wf = true) (w1 : (Lit.int .i64 a1).wf = true) :
    Calls Try.prog 8 #[.int .i64 a0, .int .i64 a1] w fun e w' => e = .returned (.bool true) ∧ Below w.heap.size w w' := by
  clear w0 w1
  go_enter Try.func8, Try.ntmps8
  go_wp2_with fail
  have hU : InAt (w.alloc (.cells #[.slice none 0 0, .slice none 0 0, .slice none 0 0, .slice none 0 0, .int .i64 0] 63)) w.heap.size 0 (fun _ => .slice none 0 0) (fun _ => []) :=
    ⟨Go.heap_alloc_new w _, fun g hg => World.ownsRow_nil _ _ _ _, fun g hg x h0 hx => by simp at hx, fun g h _ _ _ a ha => by cases ha⟩
  have hub : Below w.heap.size w (w.alloc (.cells #[.slice none 0 0, .slice none 0 0, .slice none 0 0, .slice none 0 0, .int .i64 0] 63)) := (Bel.refl w).alloc.1
  refine (inNew 2 none 0 0 [] _ (by omega) (by omega) (by omega) ⟨rfl, fun h => by omega⟩ (fun i hi => by omega)).mono ?_
  rintro e wa ⟨V, L, rfl, hI, hp, hb1⟩
  have hUa := hU.below hb1
  have hba := hub.trans (hb1.mono hub.size)
  have hL : ∀ g, g < 4 → (L g).length = 0 := fun g hg => by rw [(hp g hg).length_eq]; simp [cntL]
  rw [show (w.alloc (.cells #[.slice none 0 0, .slice none 0 0, .slice none 0 0, .slice none 0 0, .int .i64 0] 63)).heap.size = w.heap.size + 1 by simp] at hI
  clear hU hub hp hb1
  go_wp2_with fail
  refine (inDueNo none a0 a1 _ (xRowNil a0 _)).mono ?_
  rintro e w' ⟨rfl, rfl⟩
  go_wp2_with fail
  refine (inDueNo (some ⟨w.heap.size, 0, none⟩) a0 a1 _ (xRowNo w.heap.size 0 _ _ a0 _ hUa (by omega))).mono ?_
  rintro e w' ⟨rfl, rfl⟩
  by_cases hg : a0 < 0 ∨ (2 : Int) ≤ a0
  · go_wp2_with fail
    refine (inDueNo (some ⟨w.heap.size + 1, 0, none⟩) a0 a1 _ (xRowNo (w.heap.size + 1) 2 _ _ a0 _ hI hg)).mono ?_
    rintro e w' ⟨rfl, rfl⟩
    go_wp2_with fail
    refine (inLeftNo none a0 _ (xRowNil a0 _)).mono ?_
    rintro e w' ⟨rfl, rfl⟩
    go_wp2_with fail
    refine (inLeftNo (some ⟨w.heap.size, 0, none⟩) a0 _ (xRowNo w.heap.size 0 _ _ a0 _ hUa (by omega))).mono ?_
    rintro e w' ⟨rfl, rfl⟩
    go_wp2_with fail
    refine (inLeftNo (some ⟨w.heap.size + 1, 0, none⟩) a0 _ (xRowNo (w.heap.size + 1) 2 _ _ a0 _ hI hg)).mono ?_
    rintro e w' ⟨rfl, rfl⟩
    go_wp2_with fail
    refine (awake33 _).mono ?_
    rintro e w7 ⟨rfl, b7⟩
    go_wp2
    go_ret
    exact ⟨rfl, hba.trans (b7.mono hba.size)⟩
  · obtain ⟨q, rfl⟩ : ∃ q : Nat, a0 = q := ⟨a0.toNat, by omega⟩
    have hq : q < 2 := by omega
    go_wp2_with fail
    refine (inDue (w.heap.size + 1) 2 V L q a1 _ hI (by omega) hq (by rw [hL q (by omega)]; omega)).mono ?_
    rintro e w2 ⟨out, xs, l2, v2, rfl, hT, hx4, hr, hI2, o2, f2⟩
    have hxl := hT.length
    rw [hL q (by omega)] at hxl
    have hx0 : xs.length = 0 := by omega
    have hl0 : (l2.length : Int) = 0 := by omega
    obtain ⟨ao, co, rfl⟩ := ownsRow_shape o2
    rw [hx0]
    have hU2 : InAt w2 w.heap.size 0 (fun _ => .slice none 0 0) (fun _ => []) := by
      refine ⟨(f2.block _ hUa.lt (by omega) (fun e => ?_)).trans hUa.blk, fun g hg => World.ownsRow_nil _ _ _ _, fun g hg x h0 hx => by simp at hx, fun g h _ _ _ a ha => by cases ha⟩
      have := ((hI.rows q (by omega)).lt _ e.symm).1
      omega
    have hb2 : Below w.heap.size w w2 := hba.trans ⟨f2.os, f2.tape, f2.output, f2.size, fun i hi => f2.block i (by have := hI.lt; omega) (by omega) (fun e => by have := ((hI.rows q (by omega)).lt _ e.symm).1; omega)⟩
    clear hT hr o2 hUa hI hba hxl hx0 f2
    go_wp2_with fail
    refine (inLeftNo none q _ (xRowNil q _)).mono ?_
    rintro e w' ⟨rfl, rfl⟩
    go_wp2_with fail
    refine (inLeftNo (some ⟨w.heap.size, 0, none⟩) q _ (xRowNo w.heap.size 0 _ _ q _ hU2 (by omega))).mono ?_
    rintro e w' ⟨rfl, rfl⟩
    go_wp2_with fail
    refine (inLeft (w.heap.size + 1) 2 _ _ q _ hI2 (by omega) hq).mono ?_
    rintro e w' ⟨rfl, rfl⟩
    rw [putF_at, hl0]
    go_wp2_with fail
    refine (awake33 _).mono ?_
    rintro e w7 ⟨rfl, b7⟩
    go_wp2
    go_ret
    exact ⟨rfl, hb2.trans (b7.mono hb2.size)⟩
end Go.Proofs.Ytjlhdbkhebfghaa
