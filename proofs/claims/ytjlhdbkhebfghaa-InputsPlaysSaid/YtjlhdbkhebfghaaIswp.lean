/- inputs.row's row: Swap. Printed by rows.py. -/
import Derived.Test.YtjlhdbkhebfghaaIrow
import Derived.Test.YtjlhdbkhebfghaaReg4
import Derived.Test.YtjlhdbkhebfghaaRowS
namespace Go.Proofs.Ytjlhdbkhebfghaa
open Go.ChangeShapes Go.WideShapes Go.ChangeAt Go.RowKit
set_option linter.unusedVariables false

theorem Upd.belowB {b : Nat} {a w : World} (hb : b ≤ a.heap.size) (h : Upd b a w) : Below b a w := ⟨h.os, h.tape, h.output, h.size, fun i hi => h.block i (by omega) (by rintro ⟨⟩; omega)⟩
variable {o : Nat}

set_option maxRecDepth 100000 in
set_option maxHeartbeats 400000 in
theorem inSwap (b : Nat) (blk : Value → Array Value) (v : Value) (l : List inIt) (i k : Nat) (w : World) (hb : BlkOk blk o) (h : inRow w b blk v l) (hi : i < l.length) (hk : k < l.length) :
    Calls Try.prog 69 #[.pointer (some ⟨b, o, none⟩), .int .i64 i, .int .i64 k] w fun e w' => e = .returned (.tuple #[]) ∧ inRow w' b blk v (swapL l i k) ∧ Frm b v v w w' := by
  have q0 := h.field hb
  have q1 := h.free o
  have hlt := h.lt
  obtain ⟨g, cap, rfl, hle, hm, hbg, hg, hc, hf⟩ := h.item inEnc_length hi
  have c0 := hc i hi 0 (by omega)
  have c1 := hc i hi 1 (by omega)
  have c2 := hc i hi 2 (by omega)
  have c3 := hc i hi 3 (by omega)
  have c4 := hc i hi 4 (by omega)
  have c5 := hc i hi 5 (by omega)
  have d0 := hc k hk 0 (by omega)
  have d1 := hc k hk 1 (by omega)
  have d2 := hc k hk 2 (by omega)
  have d3 := hc k hk 3 (by omega)
  have d4 := hc k hk 4 (by omega)
  have d5 := hc k hk 5 (by omega)
  simp only [inEnc, List.getElem?_cons_zero, List.getElem?_cons_succ, Nat.add_zero] at c0 c1 c2 c3 c4 c5 d0 d1 d2 d3 d4 d5
  have hth : ∀ x, x < l.length → w.there g (x * 6) 6 := fun x hx j hj => by
    rw [hc x hx j hj]
    refine ⟨?_, hf _⟩
    match j, hj with
    | 0, _ => rfl
    | 1, _ => rfl
    | 2, _ => rfl
    | 3, _ => rfl
    | 4, _ => rfl
    | 5, _ => rfl
  have hc' := Lib.hid hc
  clear hc
  go_enter Try.func69, Try.ntmps69
  go_wp2
  have s1 : ∃ y : LatF g w, w.drew.setCells g (i * 6) (inEnc (atL l k)).toArray.toList = laterF g w y := laterF_of (Upd.belowB (Nat.le_of_lt hg) (upd_setCells _ _ _ _ (Upd.refl g w).drew))
  have s2 : ∃ y : LatF g w, (w.drew.setCells g (i * 6) (inEnc (atL l k)).toArray.toList).setCells g (k * 6) (inEnc (atL l i)).toArray.toList = laterF g w y := laterF_of (Upd.belowB (Nat.le_of_lt hg) (upd_setCells _ _ _ _ (upd_setCells _ _ _ _ (Upd.refl g w).drew)))
  (refine wp_region_line 28 (fun x => ∃ y : LatF g w, x = laterF g w y) (by kernel_rfl) rfl ?_)
  (refine wpSeg (0 :: 1 :: 2 :: 3 :: 4 :: 5 :: 6 :: 7 :: 8 :: 9 :: 10 :: 11 :: 12 :: 13 :: 14 :: 15 :: 17 :: 18 :: 19 :: 20 :: 21 :: 22 :: []) 6 (l := _) rfl (by simp only [List.filterMap_cons, List.filterMap_nil, List.getElem?_toArray, List.getElem?_cons_succ, List.getElem?_cons_zero]; rfl) (by kernel_rfl) (fun _ _ _ _ _ h => h) laterF_drew ?_; show wpQuiet _ _ _ _ (_ :: _ :: _ :: _ :: _ :: _ :: _ :: _ :: _ :: _ :: _ :: _ :: _ :: _ :: _ :: _ :: _ :: _ :: _ :: _ :: _ :: _ :: []) _; (repeat (go_big_quiet_step (fail))); refine wpQuiet_nil ?_; show wpAnyH _ _ _ _ _ _ _ _ _)
  (refine wpPhase (16 :: 23 :: []) 4 (l := _) rfl (by simp only [List.filterMap_cons, List.filterMap_nil, List.getElem?_toArray, List.getElem?_cons_succ, List.getElem?_cons_zero]; rfl) (by kernel_rfl) (fun _ _ _ _ _ h => h) (laterF_drew) ?_; show wpQuiet _ _ _ _ (_ :: _ :: []) _; (repeat (go_big_quiet_step (fail))); refine wpQuiet_nil ?_; show wpAnyH _ _ _ _ _ _ _ _ _)
  (refine wpSeg (24 :: []) 3 (l := _) rfl (by simp only [List.filterMap_cons, List.filterMap_nil, List.getElem?_toArray, List.getElem?_cons_succ, List.getElem?_cons_zero]; rfl) (by kernel_rfl) (fun _ _ _ _ _ h => h) laterF_drew ?_; show wpQuiet _ _ _ _ (_ :: []) _; (repeat (go_big_quiet_step (fail))); refine wpQuiet_nil ?_; show wpAnyH _ _ _ _ _ _ _ _ _)
  refine wpStoreMid 25 2 89 (.tmp 30) (.tmp 22) g (i * 6) (inEnc (atL l k)).toArray rfl (by kernel_rfl) (by kernel_rfl) rfl rfl (by kernel_rfl) (by simp [inEnc, Value.oneCell']) (hth i hi) s1 ?_
  (refine wpSeg (26 :: []) 1 (l := _) rfl (by simp only [List.filterMap_cons, List.filterMap_nil, List.getElem?_toArray, List.getElem?_cons_succ, List.getElem?_cons_zero]; rfl) (by kernel_rfl) (fun _ _ _ _ _ h => h) s1 ?_; show wpQuiet _ _ _ _ (_ :: []) _; (repeat (go_big_quiet_step (fail))); refine wpQuiet_nil ?_; show wpAnyH _ _ _ _ _ _ _ _ _)
  refine wpStoreMid 27 0 89 (.tmp 31) (.tmp 29) g (k * 6) (inEnc (atL l i)).toArray rfl (by kernel_rfl) (by kernel_rfl) rfl rfl (by kernel_rfl) (by simp [inEnc, Value.oneCell']) (World.there_setCells (w := w.drew) (hth k hk) _ _ _) s2 ?_
  refine wpAnyH_done (by kernel_rfl) ?_ _
  have r1 := h.drew.swapped inEnc_length rfl hi hk hth
  have r2 : Frm b (.slice (some ⟨g, 0, none⟩) l.length cap) (.slice (some ⟨g, 0, none⟩) l.length cap) w.drew ((w.drew.setCells g (i * 6) (inEnc (atL l k))).setCells g (k * 6) (inEnc (atL l i))) := frm_swapped rfl _ _
  clear s1 s2 c0 c1 c2 c3 c4 c5 d0 d1 d2 d3 d4 d5 q0 q1
  go_end0
  exact ⟨rfl, r1, ⟨r2.os, r2.tape, r2.output, r2.size, r2.block, r2.own⟩⟩
end Go.Proofs.Ytjlhdbkhebfghaa
