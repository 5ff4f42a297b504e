/- The reference's store of frames: New. -/
import Derived.Test.YtgcnmhlojfncpaaKit
import Derived.Test.YtgcnmhlojfncpaaRows
import Derived.Deep.RegionLaw
import Derived.Deep.AppendLies
import Derived.OwnWalk
namespace Go.Proofs.Ytgcnmhlojfncpaa
open Go.ChangeShapes Go.WideShapes Go.ChangeAt Go.RowKit
set_option linter.unusedVariables false

theorem Try.infoRow : (Try.prog.info? 22).map (fun i => (i.zero, i.size, i.bytes)) = some (some (.slice none 0 0), 1, 24) := by kernel_rfl
theorem ownsRow_otherC {w : World} {B n size b : Nat} {e : TypeId} {v u : Value} {xs : List Value} {a : Addr} (h : w.ownsRow B e size v n xs) (ha : a.block < B) : (w.setCell a u).ownsRow B e size v n xs := by
  refine ⟨h.1, ?_⟩
  rcases h.2 with hn | ⟨g, cap, cur, hv, hb, hg, hr⟩
  · exact .inl hn
  · exact .inr ⟨g, cap, cur, hv, hb, heap_setCell_ne hg (by omega), hr⟩
def zeros64 : Array Value := Array.replicate 64 (.int .u8 0)

set_option maxRecDepth 100000 in
set_option maxHeartbeats 1000000 in
theorem rnew_any (n : Nat) (w : World) (hn : n ≤ 32) :
    Calls Try.prog 16 #[.int .i64 n] w fun e w' => ∃ t, e = .returned (.tuple #[.pointer (some ⟨t, 0, none⟩), .int .i64 0]) ∧ Below w.heap.size w w' := by
  obtain ⟨i0, hi, hz0, hz1, hz2⟩ := info_parts Try.infoRow
  have hmk : ∀ w : World, (Instr.makeSlice 22 (.int .i64 64) (.int .i64 64)).run Try.prog w = .ok (.slice (some ⟨w.heap.size, 0, none⟩) 64 64) (w.alloc (.cells zeros64 5)) := fun _ => by kernel_rfl
  have hn' : (n : Int) ≤ 32 := by omega
  go_enter Try.func16, Try.ntmps16
  go_wp2
  go_loopw [5] (fun i wr => ∃ (k : Nat) (v : Value) (xs : List Value), k ≤ n ∧ i = .int .i64 k ∧ Bel w.heap.size w wr ∧ wr.heap[w.heap.size]? = some (.cells #[v] 75 (0, 0)) ∧ wr.ownsRow (w.heap.size + 1) 22 1 v k xs) (fun i _ => n - (intOf i).toNat)
  case atStart => exact ⟨0, .slice none 0 0, [], Nat.zero_le _, rfl, (Bel.refl w).alloc, Go.heap_alloc_new w _, World.ownsRow_nil _ _ _ _⟩
  case round =>
    obtain ⟨k, v, xs, hk, rfl, hbel, hR, hown⟩ := hrel
    have hsz : w.heap.size + 1 ≤ wr.heap.size := lt_heap hR
    have hsz0 : w.heap.size < wr.heap.size := hsz
    have hsz1 : w.heap.size < wr.heap.size + 1 := by omega
    by_cases hlt : k < n
    · have q0 : wr.cell? ⟨w.heap.size, 0, none⟩ = some v := by simp [World.cell?, hR]
      have q1 : wr.frozen? ⟨w.heap.size, 0, none⟩ = false := by simp [World.frozen?, hR]
      have hown2 := (hown.drew.alloc (.cells zeros64 5)).alloc (.cells #[.slice (some ⟨wr.heap.size, 0, none⟩) 64 64] 22)
      have hnb : ((wr.alloc (.cells zeros64 5)).alloc (.cells #[.slice (some ⟨wr.heap.size, 0, none⟩) 64 64] 22)).heap[wr.heap.size + 1]? = some (.cells #[.slice (some ⟨wr.heap.size, 0, none⟩) 64 64] 22 (0, 0)) := by
        have := Go.heap_alloc_new (wr.alloc (.cells zeros64 5)) (.cells #[.slice (some ⟨wr.heap.size, 0, none⟩) 64 64] 22)
        rw [show (wr.alloc (.cells zeros64 5)).heap.size = wr.heap.size + 1 from by simp] at this
        exact this
      have hne : some w.heap.size ≠ v.ownBlock := fun h => by have := (hown.lt _ h.symm).1; omega
      have hbel2 : Bel w.heap.size w _ := (hbel.alloc (o := .cells zeros64 5)).alloc (o := .cells #[.slice (some ⟨wr.heap.size, 0, none⟩) 64 64] 22) |>.drew
      go_wp2
      go_region_law ((refine step_append_lies _ (by rfl) _ _ _ (by rfl) (w.heap.size + 1) 22 i0 _ 1 24 Try.underlying73 hi hz0 hz1 hz2 rfl (by omega) v k xs (by rfl) hown2 ⟨wr.heap.size + 1, 0, none⟩ 1 1 [.slice (some ⟨wr.heap.size, 0, none⟩) 64 64] (by rfl) (by rfl) (World.news_of_block (cs := #[.slice (some ⟨wr.heap.size, 0, none⟩) 64 64]) (t := 22) (fr := (0, 0)) hnb) (by simp [Value.oneCell']) (by omega) (by unfold maxLen; omega) (by omega) (by simp; omega) (wr.heap.size + 2) (by simp) ?_; intro g cap w1 hown1 hgrow hat hlt1; have hR1 : w1.heap[w.heap.size]? = some (.cells #[v] 75 (0, 0)) := (hgrow.block w.heap.size (by simp; omega) hne).trans (heap_alloc (heap_alloc hR)); have r0 : w1.cell? ⟨w.heap.size, 0, none⟩ = some v := (by simp [World.cell?, hR1]); have r1 : w1.frozen? ⟨w.heap.size, 0, none⟩ = false := (by simp [World.frozen?, hR1])))
      all_goals
        go_wp2
        go_roundw
        case rel => exact ⟨k + 1, _, _, by omega, by go_num, Bel.setCell ⟨hbel2.1.grown hgrow hbel2.2 (fun q hq => by have := (hown.lt q hq).1; omega), Nat.le_trans hbel2.2 hgrow.size⟩ (Nat.le_refl _), heap_setCell_at (o := 0) hR1, ownsRow_otherC (b := 0) hown1 (by simp)⟩
        case measure => simp [intOf]; omega
    · obtain rfl : k = n := by omega
      go_wp2
      go_ret2
      exact ⟨_, rfl, hbel.1⟩

end Go.Proofs.Ytgcnmhlojfncpaa
