/- The reference of law 29: Arm, Cancel, Fire. -/
import Derived.Test.YtjlhdbkhebfghaaR29
namespace Go.Proofs.Ytjlhdbkhebfghaa
open Go.ChangeShapes Go.WideShapes Go.ChangeAt Go.RowKit
set_option linter.unusedVariables false

theorem Try.rtimerRow : (Try.prog.info? 94).map (fun i => (i.zero, i.size, i.bytes)) = some (some (.agg #[.int .i64 0, .int .i64 0]), 2, 16) := by kernel_rfl

set_option maxRecDepth 20000 in
set_option maxHeartbeats 1000000 in
theorem rArm (b : Nat) (v : Value) (m : List trIt) (due s : Int) (k : Nat) (w : World) (h : RfAt w b v m) (hm : m.length < 4) (hd : 0 ≤ due) (hk : k < 4) (hall : ∀ j, j < k → hasM m j = true) (hno : hasM m k = false) :
    Calls Try.prog 26 #[.pointer (some ⟨b, 0, none⟩), .int .i64 due] w fun e w' => e = .returned (.tuple #[.int .i64 k, .int .i64 0]) ∧ ∃ v', RfAt w' b v' (m ++ [⟨due, s, k⟩]) ∧ Frm b v v' w w' := by
  obtain ⟨i0, hi, hz0, hz1, hz2⟩ := info_parts Try.rtimerRow
  have q0 := h.field rfBlk_ok
  have q1 := h.free 0
  have hlt := h.lt
  have hne : v.ownBlock ≠ some b := fun e => by have := (h.own _ e).1; omega
  have HA := Lib.hid hall
  have HN := Lib.hid hno
  clear hall hno
  obtain ⟨a, c, rfl⟩ := h.shape
  go_enter Try.func26, Try.ntmps26
  go_wp2_with fail
  go_loopw [6] (fun jv wr => ∃ j : Nat, j ≤ k ∧ jv = .int .i64 j ∧ wr = w) (fun jv _ => k - (intOf jv).toNat)
  case atStart => exact ⟨0, Nat.zero_le _, rfl, rfl⟩
  case round =>
    obtain ⟨j, hj, rfl, hwr⟩ := hrel
    obtain rfl := hwr.symm
    by_cases hjk : j < k
    · go_wp2_with fail
      refine (rHas b _ m j _ h (by omega)).mono ?_
      rintro e w' ⟨rfl, rfl⟩
      rw [HA.out j hjk]
      go_wp2
      go_roundw
      case rel => exact ⟨j + 1, by omega, by go_num, trivial⟩
      case measure => simp [intOf]; omega
    · obtain rfl : j = k := by omega
      go_wp2_with fail
      refine (rHas b _ m j _ h (by omega)).mono ?_
      rintro e w' ⟨rfl, rfl⟩
      rw [HN.out]
      go_wp2_with (at_builtin; refine wpList_append_lies _ rfl _ _ 66 rfl (b + 1) 94 i0 (.agg #[.int .i64 0, .int .i64 0]) 2 16 Try.underlying66 hi hz0 hz1 hz2 rfl (by decide) _ _ _ rfl (World.ownsRow.alloc h.2 _) ⟨w.heap.size, 0, none⟩ 1 1 [.int .i64 j, .int .i64 due] rfl rfl ?c1 ?c2 (by decide) ?c3 ?c4 ?c5 (w.heap.size + 1) ?c6 ?_)
      case c1 =>
        intro x u hx
        match x, hx with
        | 0, hx => simp at hx; subst hx; simp [Addr.add]
        | 1, hx => simp at hx; subst hx; simp [Addr.add]
      case c2 => intro u hu; simp at hu; rcases hu with rfl | rfl <;> rfl
      case c3 => unfold maxLen; omega
      case c4 => omega
      case c5 => simp; omega
      case c6 => simp
      intro g4 cap4 w4 hown4 hgrow hat hlt4
      have r4 : w4.heap[b]? = some (.cells #[.slice a m.length c] 68 (0, 0)) := (hgrow.block b (by simp; omega) (fun e => hne e.symm)).trans (heap_alloc h.1)
      have q4 : w4.cell? ⟨b, 0, none⟩ = some (.slice a m.length c) := by simp [World.cell?, r4]
      have z4 : w4.frozen? ⟨b, 0, none⟩ = false := by simp [World.frozen?, r4]
      go_wp2
      go_ret2
      refine ⟨rfl, _, RowIn.stored (o := 0) (v' := .slice (some ⟨g4, 0, none⟩) (m.length + 1) cap4) (blk := fun v => #[v]) rfBlk_ok r4 ?_, ?_⟩
      · simpa [rfEnc] using hown4
      · have hs : (w.alloc (.cells #[.int .i64 j, .int .i64 due] 94)).heap.size = w.heap.size + 1 := by simp
        have h1 : Below w.heap.size w (w.alloc (.cells #[.int .i64 j, .int .i64 due] 94)) := (Bel.refl w).alloc.1
        refine ⟨hgrow.os.trans h1.os, hgrow.tape.trans h1.tape, hgrow.output.trans h1.output, ?_, fun i hi hb hv => ?_, ?_⟩
        · have := hgrow.size
          simp [World.setCell]
          omega
        · exact (heap_setCell_ne' hb).trans ((hgrow.block i (by omega) hv).trans (h1.block i hi))
        · rcases hat with hat | hat
          · exact .inl (by rw [hat]; rfl)
          · refine .inr fun g' hg' => ?_
            simp only [Value.ownBlock, Option.some.injEq] at hg'
            omega
end Go.Proofs.Ytjlhdbkhebfghaa
