/- The timers' row: Push. -/
import Derived.Test.YtjlhdbkhebfghaaTswp
namespace Go.Proofs.Ytjlhdbkhebfghaa
open Go.ChangeShapes Go.WideShapes Go.ChangeAt Go.RowKit
set_option linter.unusedVariables false

theorem frm_pushed {w w1 : World} {b o g n cap : Nat} {v u : Value} {ob : Obj} (hg : (w.drew.alloc ob).grownBy w1 v.ownBlock) (hat : v.ownBlock = some g ∨ g = w.heap.size + 1) :
    Frm b v (.slice (some ⟨g, 0, none⟩) n cap) w (w1.setCell ⟨b, o, none⟩ u) := by
  have h1 : Below w.heap.size w (w.drew.alloc ob) := (Bel.refl w).drew.alloc.1
  have hs : (w.drew.alloc ob).heap.size = w.heap.size + 1 := by simp
  refine ⟨hg.os.trans h1.os, hg.tape.trans h1.tape, hg.output.trans h1.output, ?_, fun i hi hb hv => ?_, ?_⟩
  · have := hg.size
    simp [World.setCell]
    omega
  · rw [show (w1.setCell ⟨b, o, none⟩ u).heap[i]? = w1.heap[i]? by simp [World.setCell, Array.getElem?_modify, Ne.symm hb]]
    exact (hg.block i (by omega) hv).trans (h1.block i hi)
  · rcases hat with hat | hat
    · exact .inl (by rw [hat]; rfl)
    · refine .inr fun g' hg' => ?_
      simp only [Value.ownBlock, Option.some.injEq] at hg'
      omega

theorem Try.titemRow : (Try.prog.info? 83).map (fun i => (i.zero, i.size, i.bytes)) = some (some (.agg #[.int .i64 0, .int .i64 0, .int .i64 0]), 3, 24) := by kernel_rfl

set_option maxRecDepth 100000 in
set_option maxHeartbeats 1000000 in
theorem trPush (b : Nat) (blk : Value → Array Value) (v : Value) (l : List trIt) (x : trIt) (w : World) (hb : BlkOk blk 0) (h : trRow w b blk v l) (hn : l.length ≤ 1000000) :
    Calls Try.prog 63 #[.pointer (some ⟨b, 0, none⟩), .iface 83 (.agg (trEnc x).toArray)] w fun e w' => e = .returned (.tuple #[]) ∧ ∃ v', trRow w' b blk v' (l ++ [x]) ∧ Frm b v v' w w' := by
  obtain ⟨d, s, n⟩ := x
  change Calls Try.prog 63 #[.pointer (some ⟨b, 0, none⟩), .iface 83 (.agg #[.int .i64 d, .int .i64 s, .int .i64 n])] w fun e w' => e = .returned (.tuple #[]) ∧ ∃ v', trRow w' b blk v' (l ++ [⟨d, s, n⟩]) ∧ Frm b v v' w w'
  obtain ⟨i0, hi, hz0, hz1, hz2⟩ := info_parts Try.titemRow
  have q0 : w.cell? ⟨b, 0, none⟩ = some v := h.field hb
  have q1 := h.free 0
  have hlt := h.lt
  have hlt1 : b < w.heap.size + 1 := by omega
  have hown2 := h.2.drew.alloc (.cells #[.int .i64 d, .int .i64 s, .int .i64 n] 83)
  have hnb : (w.drew.alloc (.cells #[.int .i64 d, .int .i64 s, .int .i64 n] 83)).heap[w.heap.size]? = some (.cells #[.int .i64 d, .int .i64 s, .int .i64 n] 83 (0, 0)) := Go.heap_alloc_new w.drew _
  have hne : some b ≠ v.ownBlock := fun e => by have := (h.own _ e.symm).1; omega
  have hta : ∀ w' : World, (Instr.typeAssert (.iface 83 (.agg #[.int .i64 d, .int .i64 s, .int .i64 n])) 20 83 false).run Try.prog w' = .ok (.agg #[.int .i64 d, .int .i64 s, .int .i64 n]) w' := fun _ => by kernel_rfl
  go_enter Try.func63, Try.ntmps63
  go_wp2
  go_region_law ((refine step_append_lies _ (by rfl) _ _ _ (by rfl) (b + 1) 83 i0 _ 3 24 Try.underlying73 hi hz0 hz1 hz2 rfl (by omega) v l.length _ (by rfl) hown2 ⟨w.heap.size, 0, none⟩ 1 1 [.int .i64 d, .int .i64 s, .int .i64 n] (by rfl) (by rfl) (World.news_of_block (cs := #[.int .i64 d, .int .i64 s, .int .i64 n]) (t := 83) (fr := (0, 0)) hnb) (by simp [Value.oneCell']) (by omega) (by unfold maxLen; omega) (by omega) (by simp; omega) (w.heap.size + 1) (by simp) ?_; intro g cap w1 hown1 hgrow hat hlt1; have hR1 : w1.heap[b]? = some (.cells (blk v) 77 (0, 0)) := (hgrow.block b (by simp; omega) hne).trans (heap_alloc h.1); have r0 : w1.cell? ⟨b, 0, none⟩ = some v := (by have := hb.1 v; simp [World.cell?, hR1, this]); have r1 : w1.frozen? ⟨b, 0, none⟩ = false := (by simp [World.frozen?, hR1])))
  all_goals
    go_wp2
    go_end0
    refine ⟨rfl, _, RowIn.stored hb hR1 ?_, frm_pushed hgrow hat⟩
    simpa [trEnc] using hown1
end Go.Proofs.Ytjlhdbkhebfghaa
