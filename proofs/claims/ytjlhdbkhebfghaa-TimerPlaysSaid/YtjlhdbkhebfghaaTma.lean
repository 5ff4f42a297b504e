/- Timers: Arm. -/
import Derived.Test.YtjlhdbkhebfghaaTmf
import Derived.Test.YtjlhdbkhebfghaaReg5
namespace Go.Proofs.Ytjlhdbkhebfghaa
open Go.ChangeShapes Go.WideShapes Go.ChangeAt Go.RowKit
set_option linter.unusedVariables false

def putU (u : Nat → Bool) (k : Nat) (c : Bool) : Nat → Bool := fun i => if i = k then c else u i
theorem tmBlk_set (u : Nat → Bool) (now k : Nat) (c : Bool) (v : Value) (hk : k < 4) : (tmBlk u now v).setIfInBounds (1 + k) (.bool c) = tmBlk (putU u k c) now v := by
  match k, hk with
  | 0, _ => simp [tmBlk, putU]
  | 1, _ => simp [tmBlk, putU]
  | 2, _ => simp [tmBlk, putU]
  | 3, _ => simp [tmBlk, putU]
theorem tmBlk_now (u : Nat → Bool) (now m : Nat) (v : Value) : (tmBlk u now v).setIfInBounds 5 (.int .i64 m) = tmBlk u m v := by simp [tmBlk]

/-- The struct's block was written beside the row's field. -/
theorem RowIn.reblk {α : Type} {T : TypeId} {sz : Nat} {enc : α → List Value} {w w' : World} {b : Nat} {t : TypeId} {blk blk' : Value → Array Value} {v : Value} {l : List α} (h : RowIn T sz enc w b t blk v l) (hu : Upd b w w')
    (hb : w'.heap[b]? = some (.cells (blk' v) t (0, 0))) : RowIn T sz enc w' b t blk' v l := by
  refine ⟨hb, h.2.1, ?_⟩
  rcases h.2.2 with h2 | ⟨g, cap, cur, hv, hg, hh, hr⟩
  · exact .inl h2
  · exact .inr ⟨g, cap, cur, hv, hg, heap_upd hh hu (by omega), hr⟩
theorem Frm.of_own {b : Nat} {v : Value} {a w : World} (h : Upd b a w) : Frm b v v a w := ⟨h.os, h.tape, h.output, h.size, fun i hi hb _ => h.block i hi (by rintro ⟨⟩; exact hb rfl), .inl rfl⟩

set_option maxRecDepth 20000 in
set_option maxHeartbeats 1000000 in
theorem tmArm (t now : Nat) (u : Nat → Bool) (v : Value) (l : List trIt) (due : Int) (k : Nat) (w : World) (h : TmAt w t u now v l) (hd : 0 ≤ due) (hf : freeU u = k) (hk : k < 4) (hn : now ≤ 1000000) (hl : l.length < 1000) :
    Calls Try.prog 12 #[.pointer (some ⟨t, 0, none⟩), .int .i64 due] w fun e w' => e = .returned (.tuple #[.int .i64 k, .int .i64 0]) ∧ ∃ v' l', TmAt w' t (putU u k true) (now + 1) v' l' ∧ l'.Perm (l ++ [⟨due, (now + 1 : Nat), k⟩]) ∧ Frm t v v' w w' := by
  obtain ⟨c0, cu, c5, c6⟩ := h.cells
  have ck := cu k hk
  clear cu
  have hlt := h.lt
  have z5 : w.frozen? ⟨t, 5, none⟩ = false := h.row.free 5
  have zk : w.frozen? ⟨t, 1 + k, none⟩ = false := h.row.free (1 + k)
  have hf4 : ¬ freeU u = 4 := by omega
  obtain ⟨m, hm⟩ : ∃ m, now + 1 = m := ⟨_, rfl⟩
  have e1 : (now : Int) + 1 = (m : Nat) := by omega
  have hmb : m ≤ 1000001 := by omega
  have HM := Lib.hid hm
  have HF := Lib.hid hf
  have HF4 := Lib.hid hf4
  clear hm hf hf4
  go_enter Try.func12, Try.ntmps12
  go_wp2_with fail
  refine (tmNone t now u v l _ h).mono ?_
  rintro e w' ⟨rfl, rfl⟩
  go_wp2_with fail
  refine (tmFree t now u v l _ h).mono ?_
  rintro e w' ⟨rfl, rfl⟩
  rw [if_neg HF4.out, HF.out]
  go_wp2_with fail
  have g5 : ((w.setCell ⟨t, 5, none⟩ (.int .i64 m)).setCell ⟨t, 1 + k, none⟩ (.bool true)).heap[t]? = some (.cells (tmBlk (putU u k true) m v) 77 (0, 0)) := by
    have := heap_setCell_at (o := 1 + k) (u := .bool true) (heap_setCell_at (o := 5) (u := .int .i64 m) h.row.1)
    rw [tmBlk_now, tmBlk_set _ _ _ _ _ hk] at this
    exact this
  have fu : Upd t w ((w.setCell ⟨t, 5, none⟩ (.int .i64 m)).setCell ⟨t, 1 + k, none⟩ (.bool true)) := (Upd.refl t w).setCell.setCell
  generalize ((w.setCell ⟨t, 5, none⟩ (.int .i64 m)).setCell ⟨t, 1 + k, none⟩ (.bool true)) = w2 at g5 fu ⊢
  have hr2 : trRow w2 t (tmBlk (putU u k true) m) v l := h.row.reblk fu g5
  have q5 : w2.cell? ⟨t, 5, none⟩ = some (.int .i64 m) := by simp [World.cell?, g5, tmBlk]
  clear c0 c5 c6 ck z5 zk g5
  (refine wp_region_line 14 (fun x => ∃ y : LatC w2 ⟨t, 5, none⟩, x = laterC w2 ⟨t, 5, none⟩ y) (by kernel_rfl) rfl ?_)
  (refine wpSeg (0 :: 1 :: 2 :: 3 :: 4 :: 5 :: 6 :: 7 :: 8 :: 9 :: 10 :: 11 :: 12 :: []) 1 (l := _) rfl (by simp only [List.filterMap_cons, List.filterMap_nil, List.getElem?_toArray, List.getElem?_cons_succ, List.getElem?_cons_zero]; rfl) (by kernel_rfl) (fun _ _ _ _ _ h => h) (laterC_of (w := w2.drew) rfl) ?_; show wpQuiet _ _ _ _ (_ :: _ :: _ :: _ :: _ :: _ :: _ :: _ :: _ :: _ :: _ :: _ :: _ :: []) _; (repeat (go_big_quiet_step (fail))); refine wpQuiet_nil ?_; show wpAnyH _ _ _ _ _ _ _ _ _)
  (refine wpOne 13 0 rfl rfl (by kernel_rfl) ?_; intro K hK; go_simp)
  refine (trHPush t (tmBlk (putU u k true) m) v l ⟨due, m, k⟩ _ (tmBlk_ok _ _) hr2.drew h.heap (by omega)).mono ?_
  rintro e w3 ⟨rfl, v3, l3, h3, hh3, p3, f3⟩
  have q6 : w3.cell? ⟨t, 5, none⟩ = some (.int .i64 m) := by simp [World.cell?, h3.1, tmBlk]
  (refine hK.out _ _ _ (fun _ h => h) (laterC_of (q6.trans q5.symm)) ?_; clear hK K)
  refine wpAnyH_done (by kernel_rfl) ?_ _
  go_wp2
  go_ret2
  rw [HM.out]
  exact ⟨rfl, v3, l3, ⟨h3, hh3⟩, p3, (Frm.of_own fu).trans ⟨f3.os, f3.tape, f3.output, f3.size, f3.block, f3.own⟩⟩
end Go.Proofs.Ytjlhdbkhebfghaa
