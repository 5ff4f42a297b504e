/- Timers: free, Reset. -/
import Derived.Test.YtjlhdbkhebfghaaTm
namespace Go.Proofs.Ytjlhdbkhebfghaa
open Go.ChangeShapes Go.WideShapes Go.ChangeAt Go.RowKit
set_option linter.unusedVariables false

/-- The least number that is not used; 4: all are. -/
def freeU (u : Nat → Bool) : Nat := if u 0 = false then 0 else if u 1 = false then 1 else if u 2 = false then 2 else if u 3 = false then 3 else 4

set_option maxRecDepth 20000 in
theorem tmFree (t now : Nat) (u : Nat → Bool) (v : Value) (l : List trIt) (w : World) (h : TmAt w t u now v l) :
    Calls Try.prog 33 #[.pointer (some ⟨t, 0, none⟩)] w fun e w' => e = .returned (if freeU u = 4 then .tuple #[.int .i64 0, .bool false] else .tuple #[.int .i64 (freeU u), .bool true]) ∧ w = w' := by
  obtain ⟨_, cu, _, _⟩ := h.cells
  have u0 := cu 0 (by omega)
  have u1 := cu 1 (by omega)
  have u2 := cu 2 (by omega)
  have u3 := cu 3 (by omega)
  clear cu
  obtain ⟨c0, hc0⟩ : ∃ c, u 0 = c := ⟨_, rfl⟩
  obtain ⟨c1, hc1⟩ : ∃ c, u 1 = c := ⟨_, rfl⟩
  obtain ⟨c2, hc2⟩ : ∃ c, u 2 = c := ⟨_, rfl⟩
  obtain ⟨c3, hc3⟩ : ∃ c, u 3 = c := ⟨_, rfl⟩
  rw [hc0] at u0
  rw [hc1] at u1
  rw [hc2] at u2
  rw [hc3] at u3
  have hfu : freeU u = if c0 = false then 0 else if c1 = false then 1 else if c2 = false then 2 else if c3 = false then 3 else 4 := by
    unfold freeU
    rw [hc0, hc1, hc2, hc3]
  rw [hfu]
  clear hfu hc0 hc1 hc2 hc3 h
  have x0 : ∀ w' : World, (Instr.index 37 (.agg #[.bool c0, .bool c1, .bool c2, .bool c3]) (.int .i64 0)).run Try.prog w' = .ok (.bool c0) w' := fun _ => by kernel_rfl
  have x1 : ∀ w' : World, (Instr.index 37 (.agg #[.bool c0, .bool c1, .bool c2, .bool c3]) (.int .i64 1)).run Try.prog w' = .ok (.bool c1) w' := fun _ => by kernel_rfl
  have x2 : ∀ w' : World, (Instr.index 37 (.agg #[.bool c0, .bool c1, .bool c2, .bool c3]) (.int .i64 2)).run Try.prog w' = .ok (.bool c2) w' := fun _ => by kernel_rfl
  have x3 : ∀ w' : World, (Instr.index 37 (.agg #[.bool c0, .bool c1, .bool c2, .bool c3]) (.int .i64 3)).run Try.prog w' = .ok (.bool c3) w' := fun _ => by kernel_rfl
  go_enter Try.func33, Try.ntmps33
  go_wp2
  go_loopw [10] (fun x wr => ∃ (k : Nat), x = .int .i64 k ∧ k ≤ 4 ∧ wr = w ∧ (0 < k → c0 = true) ∧ (1 < k → c1 = true) ∧ (2 < k → c2 = true) ∧ (3 < k → c3 = true)) (fun x _ => 4 - (intOf x).toNat)
  case atStart => exact ⟨0, rfl, by omega, rfl, by omega, by omega, by omega, by omega⟩
  case round =>
    obtain ⟨k, rfl, hk, rfl, k0, k1, k2, k3⟩ := hrel
    rcases (by omega : k = 0 ∨ k = 1 ∨ k = 2 ∨ k = 3 ∨ k = 4) with rfl | rfl | rfl | rfl | rfl
    · cases c0
      · go_wp2
        go_ret2
        exact ⟨rfl, rfl⟩
      · go_wp2
        go_roundw
        case rel => exact ⟨1, rfl, by omega, trivial, by simp⟩
        case measure => simp [intOf]
    · obtain rfl := k0 (by omega)
      cases c1
      · go_wp2
        go_ret2
        exact ⟨rfl, rfl⟩
      · go_wp2
        go_roundw
        case rel => exact ⟨2, rfl, by omega, trivial, by simp⟩
        case measure => simp [intOf]
    · obtain rfl := k0 (by omega)
      obtain rfl := k1 (by omega)
      cases c2
      · go_wp2
        go_ret2
        exact ⟨rfl, rfl⟩
      · go_wp2
        go_roundw
        case rel => exact ⟨3, rfl, by omega, trivial, by simp⟩
        case measure => simp [intOf]
    · obtain rfl := k0 (by omega)
      obtain rfl := k1 (by omega)
      obtain rfl := k2 (by omega)
      cases c3
      · go_wp2
        go_ret2
        exact ⟨rfl, rfl⟩
      · go_wp2
        go_roundw
        case rel => exact ⟨4, rfl, by omega, trivial, by simp⟩
        case measure => simp [intOf]
    · obtain rfl := k0 (by omega)
      obtain rfl := k1 (by omega)
      obtain rfl := k2 (by omega)
      obtain rfl := k3 (by omega)
      go_wp2
      go_ret2
      exact ⟨rfl, rfl⟩

set_option maxRecDepth 20000 in
set_option maxHeartbeats 1000000 in
theorem tmReset (t now : Nat) (u : Nat → Bool) (v : Value) (l : List trIt) (w : World) (h : TmAt w t u now v l) :
    Calls Try.prog 28 #[.pointer (some ⟨t, 0, none⟩)] w fun e w' => e = .returned (.int .i64 0) ∧ TmAt w' t (fun _ => false) 0 (.slice none 0 0) [] ∧ Frm t v (.slice none 0 0) w w' := by
  have hlt := h.lt
  go_enter Try.func28, Try.ntmps28
  go_wp2_with fail
  refine (tmNone t now u v l _ h).mono ?_
  rintro e w' ⟨rfl, rfl⟩
  go_wp2_with fail
  refine (tmNew _).mono ?_
  rintro e w1 ⟨rfl, hb1, h1⟩
  have h2 := h.below hb1
  have b1 := h1.lt
  have b2 := h2.lt
  have r1 := h1.row.1
  have r2 := h2.row.1
  have a0 : w1.cell? ⟨w.heap.size, 0, none⟩ = some (.slice none 0 0) := by simp [World.cell?, r1, tmBlk]
  have a1 : w1.cell? ⟨w.heap.size, 1, none⟩ = some (.bool false) := by simp [World.cell?, r1, tmBlk]
  have a2 : w1.cell? ⟨w.heap.size, 2, none⟩ = some (.bool false) := by simp [World.cell?, r1, tmBlk]
  have a3 : w1.cell? ⟨w.heap.size, 3, none⟩ = some (.bool false) := by simp [World.cell?, r1, tmBlk]
  have a4 : w1.cell? ⟨w.heap.size, 4, none⟩ = some (.bool false) := by simp [World.cell?, r1, tmBlk]
  have a5 : w1.cell? ⟨w.heap.size, 5, none⟩ = some (.int .i64 0) := by simp [World.cell?, r1, tmBlk]
  have a6 : w1.cell? ⟨w.heap.size, 6, none⟩ = some (.bool true) := by simp [World.cell?, r1, tmBlk]
  have d0 : w1.cell? ⟨t, 0, none⟩ = some v := by simp [World.cell?, r2, tmBlk]
  have d1 : w1.cell? ⟨t, 1, none⟩ = some (.bool (u 0)) := by simp [World.cell?, r2, tmBlk]
  have d2 : w1.cell? ⟨t, 2, none⟩ = some (.bool (u 1)) := by simp [World.cell?, r2, tmBlk]
  have d3 : w1.cell? ⟨t, 3, none⟩ = some (.bool (u 2)) := by simp [World.cell?, r2, tmBlk]
  have d4 : w1.cell? ⟨t, 4, none⟩ = some (.bool (u 3)) := by simp [World.cell?, r2, tmBlk]
  have d5 : w1.cell? ⟨t, 5, none⟩ = some (.int .i64 now) := by simp [World.cell?, r2, tmBlk]
  have d6 : w1.cell? ⟨t, 6, none⟩ = some (.bool true) := by simp [World.cell?, r2, tmBlk]
  have z0 : w1.frozen? ⟨t, 0, none⟩ = false := by simp [World.frozen?, r2]
  have z1 : w1.frozen? ⟨t, 1, none⟩ = false := by simp [World.frozen?, r2]
  have z2 : w1.frozen? ⟨t, 2, none⟩ = false := by simp [World.frozen?, r2]
  have z3 : w1.frozen? ⟨t, 3, none⟩ = false := by simp [World.frozen?, r2]
  have z4 : w1.frozen? ⟨t, 4, none⟩ = false := by simp [World.frozen?, r2]
  have z5 : w1.frozen? ⟨t, 5, none⟩ = false := by simp [World.frozen?, r2]
  have z6 : w1.frozen? ⟨t, 6, none⟩ = false := by simp [World.frozen?, r2]
  go_wp2
  go_ret
  have e2 : ((((((((w1.setCell ⟨t, 0, none⟩ (.slice none 0 0)).setCell ⟨t, 1, none⟩ (.bool false)).setCell ⟨t, 2, none⟩ (.bool false)).setCell ⟨t, 3, none⟩ (.bool false)).setCell ⟨t, 4, none⟩ (.bool false)).setCell ⟨t, 5, none⟩ (.int .i64 0)).setCell ⟨t, 6, none⟩ (.bool true))).heap[t]? = some (.cells (tmBlk (fun _ => false) 0 (.slice none 0 0)) 77 (0, 0)) := by
    have := heap_setCell_at (o := 6) (u := .bool true) (heap_setCell_at (o := 5) (u := .int .i64 0) (heap_setCell_at (o := 4) (u := .bool false) (heap_setCell_at (o := 3) (u := .bool false) (heap_setCell_at (o := 2) (u := .bool false) (heap_setCell_at (o := 1) (u := .bool false) (heap_setCell_at (o := 0) (u := .slice none 0 0) r2))))))
    exact this
  have f2 : Upd t w1 ((((((((w1.setCell ⟨t, 0, none⟩ (.slice none 0 0)).setCell ⟨t, 1, none⟩ (.bool false)).setCell ⟨t, 2, none⟩ (.bool false)).setCell ⟨t, 3, none⟩ (.bool false)).setCell ⟨t, 4, none⟩ (.bool false)).setCell ⟨t, 5, none⟩ (.int .i64 0)).setCell ⟨t, 6, none⟩ (.bool true))) := (((((((Upd.refl t w1).setCell).setCell).setCell).setCell).setCell).setCell).setCell
  refine ⟨rfl, ⟨⟨e2, World.ownsRow_nil _ _ _ _⟩, fun x h0 hx => by simp at hx⟩, ?_⟩
  exact ⟨f2.os.trans hb1.os, f2.tape.trans hb1.tape, f2.output.trans hb1.output, Nat.le_trans hb1.size f2.size, fun i hi hb _ => (f2.block i (Nat.lt_of_lt_of_le hi hb1.size) (by rintro ⟨⟩; exact hb rfl)).trans (hb1.block i hi), .inr fun g hg => by cases hg⟩
end Go.Proofs.Ytjlhdbkhebfghaa
