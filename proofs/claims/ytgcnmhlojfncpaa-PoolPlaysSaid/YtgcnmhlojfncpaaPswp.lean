/- The left frames' row: Swap. -/
import Derived.Test.YtgcnmhlojfncpaaProw
import Derived.Test.YtgcnmhlojfncpaaReg4
import Derived.Test.YtgcnmhlojfncpaaRowS
namespace Go.Proofs.Ytgcnmhlojfncpaa
open Go.ChangeShapes Go.WideShapes Go.ChangeAt Go.RowKit
set_option linter.unusedVariables false

theorem Upd.belowB {b : Nat} {a w : World} (hb : b ≤ a.heap.size) (h : Upd b a w) : Below b a w := ⟨h.os, h.tape, h.output, h.size, fun i hi => h.block i (by omega) (by rintro ⟨⟩; omega)⟩
variable {o : Nat}

set_option maxRecDepth 100000 in
set_option maxHeartbeats 1000000 in
theorem plSwap (b : Nat) (blk : Value → Array Value) (v : Value) (l : List plIt) (i k : Nat) (w : World) (hb : BlkOk blk o) (h : plRow w b blk v l) (hi : i < l.length) (hk : k < l.length) :
    Calls Try.prog 67 #[.pointer (some ⟨b, o, none⟩), .int .i64 i, .int .i64 k] w fun e w' => e = .returned (.tuple #[]) ∧ plRow w' b blk v (swapL l i k) ∧ Frm b v v w w' := by
  have q0 := h.field hb
  have q1 := h.free o
  have hlt := h.lt
  obtain ⟨g, cap, rfl, hle, hm, hbg, hg, hc, hf⟩ := h.item plEnc_length hi
  have c0 := hc i hi 0 (by omega)
  have d0 := hc k hk 0 (by omega)
  simp only [plEnc, List.getElem?_cons_zero, Nat.add_zero, Nat.mul_one] at c0 d0
  have z0 := hf i
  have z1 := hf k
  have hth : ∀ x, x < l.length → w.there g (x * 1) 1 := fun x hx j hj => by
    rw [hc x hx j hj]
    refine ⟨?_, hf _⟩
    match j, hj with
    | 0, _ => rfl
  have d1 : ((w.setCell ⟨g, i, none⟩ (.int .i64 (atL l k).fr)).cell? ⟨g, k, none⟩).isSome = true := by
    by_cases e : i = k
    · subst e
      rw [World.cell?_setCell_same' _ _ _ (by rw [c0]; rfl)]; rfl
    · rw [World.cell?_setCell_other _ _ _ _ (fun h => e (by simp only [Addr.mk.injEq] at h; exact h.2.1)), d0]; rfl
  obtain ⟨dv, d2⟩ := Option.isSome_iff_exists.1 d1
  clear hc d1
  go_enter Try.func67, Try.ntmps67
  go_wp2
  have s1 : ∃ y : LatF g w, (w.setCell ⟨g, i, none⟩ (.int .i64 (atL l k).fr)).drew = laterF g w y := laterF_of (Upd.belowB (Nat.le_of_lt hg) (Upd.refl g w).setCell.drew)
  have s2 : ∃ y : LatF g w, ((w.setCell ⟨g, i, none⟩ (.int .i64 (atL l k).fr)).setCell ⟨g, k, none⟩ (.int .i64 (atL l i).fr)).drew = laterF g w y := laterF_of (Upd.belowB (Nat.le_of_lt hg) (Upd.refl g w).setCell.setCell.drew)
  (refine wp_region_line 28 (fun x => ∃ y : LatF g w, x = laterF g w y) (by kernel_rfl) rfl ?_)
  (refine wpSeg (0 :: 1 :: 2 :: 3 :: 4 :: 5 :: 6 :: 7 :: 8 :: 9 :: 10 :: 11 :: 12 :: 13 :: 14 :: 15 :: 17 :: 18 :: 19 :: 20 :: 21 :: 22 :: []) 6 (l := _) rfl (by simp only [List.filterMap_cons, List.filterMap_nil, List.getElem?_toArray, List.getElem?_cons_succ, List.getElem?_cons_zero]; rfl) (by kernel_rfl) (fun _ _ _ _ _ h => h) laterF_drew ?_; show wpQuiet _ _ _ _ (_ :: _ :: _ :: _ :: _ :: _ :: _ :: _ :: _ :: _ :: _ :: _ :: _ :: _ :: _ :: _ :: _ :: _ :: _ :: _ :: _ :: _ :: []) _; (repeat (go_big_quiet_step (fail))); refine wpQuiet_nil ?_; show wpAnyH _ _ _ _ _ _ _ _ _)
  (refine wpPhase (16 :: 23 :: []) 4 (l := _) rfl (by simp only [List.filterMap_cons, List.filterMap_nil, List.getElem?_toArray, List.getElem?_cons_succ, List.getElem?_cons_zero]; rfl) (by kernel_rfl) (fun _ _ _ _ _ h => h) (laterF_drew) ?_; show wpQuiet _ _ _ _ (_ :: _ :: []) _; (repeat (go_big_quiet_step (fail))); refine wpQuiet_nil ?_; show wpAnyH _ _ _ _ _ _ _ _ _)
  (refine wpSeg (24 :: []) 3 (l := _) rfl (by simp only [List.filterMap_cons, List.filterMap_nil, List.getElem?_toArray, List.getElem?_cons_succ, List.getElem?_cons_zero]; rfl) (by kernel_rfl) (fun _ _ _ _ _ h => h) laterF_drew ?_; show wpQuiet _ _ _ _ (_ :: []) _; (repeat (go_big_quiet_step (fail))); refine wpQuiet_nil ?_; show wpAnyH _ _ _ _ _ _ _ _ _)
  (refine wpOne 25 2 rfl rfl (by kernel_rfl) ?_; intro K hK; go_simp)
  (refine hK.out _ _ _ (fun _ h => h) (s1) ?_; clear hK K)
  (refine wpSeg (26 :: []) 1 (l := _) rfl (by simp only [List.filterMap_cons, List.filterMap_nil, List.getElem?_toArray, List.getElem?_cons_succ, List.getElem?_cons_zero]; rfl) (by kernel_rfl) (fun _ _ _ _ _ h => h) s1 ?_; show wpQuiet _ _ _ _ (_ :: []) _; (repeat (go_big_quiet_step (fail))); refine wpQuiet_nil ?_; show wpAnyH _ _ _ _ _ _ _ _ _)
  (refine wpOne 27 0 rfl rfl (by kernel_rfl) ?_; intro K hK; go_simp)
  (refine hK.out _ _ _ (fun _ h => h) (s2) ?_; clear hK K)
  refine wpAnyH_done (by kernel_rfl) ?_ _
  have r1 := h.swapped plEnc_length rfl hi hk hth
  have r2 : Frm b (.slice (some ⟨g, 0, none⟩) l.length cap) (.slice (some ⟨g, 0, none⟩) l.length cap) w ((w.setCells g (i * 1) (plEnc (atL l k))).setCells g (k * 1) (plEnc (atL l i))) := frm_swapped rfl _ _
  simp only [World.setCells, plEnc, Nat.mul_one] at r1 r2
  clear s1 s2 c0 d0 q0 q1 d2 z0 z1
  go_end0
  exact ⟨rfl, r1, ⟨r2.os, r2.tape, r2.output, r2.size, r2.block, r2.own⟩⟩
end Go.Proofs.Ytgcnmhlojfncpaa
