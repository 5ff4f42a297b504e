/- pool.left's row: Push. Printed by rows.py. -/
import Derived.Test.YtgcnmhlojfncpaaPswp
namespace Go.Proofs.Ytgcnmhlojfncpaa
open Go.ChangeShapes Go.WideShapes Go.ChangeAt Go.RowKit
set_option linter.unusedVariables false

theorem frm_pushed {w w1 : World} {b o g n cap : Nat} {v u : Value} {ob : Obj} (hg : (w.drew.alloc ob).grownBy w1 v.ownBlock) (hat : v.ownBlock = some g ∨ g = w.heap.size + 1) :
    Frm b v (.slice (some ⟨g, 0, none⟩) n cap) w (w1.setCell ⟨b, o, none⟩ u) := by
  have h1 : Below w.heap.size w (w.drew.alloc ob) := (Bel.refl w).drew.alloc.1
  have hs : (w.drew.alloc ob).heap.size = w.heap.size + 1 := by simp
  refine ⟨hg.os.trans h1.os, hg.tape.trans h1.tape, hg.output.trans h1.output, ?_, fun i hi hb hv => ?_, ?_⟩
  · have := hg.size
    simp [World.setCell]
    omega
  · rw [show (w1.setCell ⟨b, o, none⟩ u).heap[i]? = w1.heap[i]? by simp [World.setCell, Array.getElem?_modify, Ne.symm hb]]
    exact (hg.block i (by omega) hv).trans (h1.block i hi)
  · rcases hat with hat | hat
    · exact .inl (by rw [hat]; rfl)
    · refine .inr fun g' hg' => ?_
      simp only [Value.ownBlock, Option.some.injEq] at hg'
      omega
variable {o : Nat}

theorem Try.plitemRow : (Try.prog.info? 3).map (fun i => (i.zero, i.size, i.bytes)) = some (some (.int .i64 0), 1, 8) := by kernel_rfl

set_option maxRecDepth 100000 in
set_option maxHeartbeats 1000000 in
theorem plPush (b : Nat) (blk : Value → Array Value) (v : Value) (l : List plIt) (x : plIt) (w : World) (hb : BlkOk blk o) (h : plRow w b blk v l) (hn : l.length ≤ 1000000) :
    Calls Try.prog 66 #[.pointer (some ⟨b, o, none⟩), plVal x] w fun e w' => e = .returned (.tuple #[]) ∧ ∃ v', plRow w' b blk v' (l ++ [x]) ∧ Frm b v v' w w' := by
  obtain ⟨y0⟩ := x
  change Calls Try.prog 66 #[.pointer (some ⟨b, o, none⟩), .iface 3 (.int .i64 y0)] w fun e w' => e = .returned (.tuple #[]) ∧ ∃ v', plRow w' b blk v' (l ++ [⟨y0⟩]) ∧ Frm b v v' w w'
  obtain ⟨i0, hi, hz0, hz1, hz2⟩ := info_parts Try.plitemRow
  have q0 : w.cell? ⟨b, o, none⟩ = some v := h.field hb
  have q1 := h.free o
  have hlt := h.lt
  have hlt1 : b < w.heap.size + 1 := by omega
  have hown2 := h.2.drew.alloc (.cells #[.int .i64 y0] 3)
  have hnb : (w.drew.alloc (.cells #[.int .i64 y0] 3)).heap[w.heap.size]? = some (.cells #[.int .i64 y0] 3 (0, 0)) := Go.heap_alloc_new w.drew _
  have hne : some b ≠ v.ownBlock := fun e => by have := (h.own _ e.symm).1; omega
  have hta : ∀ w' : World, (Instr.typeAssert (.iface 3 (.int .i64 y0)) 20 3 false).run Try.prog w' = .ok (.int .i64 y0) w' := fun _ => by kernel_rfl
  go_enter Try.func66, Try.ntmps66
  go_wp2
  go_region_law ((refine step_append_lies _ (by rfl) _ _ _ (by rfl) (b + 1) 3 i0 _ 1 8 Try.underlying38 hi hz0 hz1 hz2 rfl (by omega) v l.length _ (by rfl) hown2 ⟨w.heap.size, 0, none⟩ 1 1 [.int .i64 y0] (by rfl) (by rfl) (World.news_of_block (cs := #[.int .i64 y0]) (t := 3) (fr := (0, 0)) hnb) (by simp [Value.oneCell']) (by omega) (by unfold maxLen; omega) (by omega) (by simp; omega) (w.heap.size + 1) (by simp) ?_; intro g cap w1 hown1 hgrow hat hlt1; have hR1 : w1.heap[b]? = some (.cells (blk v) 43 (0, 0)) := (hgrow.block b (by simp; omega) hne).trans (heap_alloc h.1); have r0 : w1.cell? ⟨b, o, none⟩ = some v := (by have := hb.1 v; simp [World.cell?, hR1, this]); have r1 : w1.frozen? ⟨b, o, none⟩ = false := (by simp [World.frozen?, hR1])))
  all_goals
    go_wp2
    go_end0
    refine ⟨rfl, _, RowIn.stored hb hR1 ?_, frm_pushed hgrow hat⟩
    simpa [plEnc] using hown1
end Go.Proofs.Ytgcnmhlojfncpaa
