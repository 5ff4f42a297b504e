/- The reference's pool: New. -/
import Derived.Test.YtgcnmhlojfncpaaR07
namespace Go.Proofs.Ytgcnmhlojfncpaa
open Go.ChangeShapes Go.WideShapes Go.ChangeAt Go.RowKit
set_option linter.unusedVariables false

theorem Try.intInfo7 : (Try.prog.info? 3).map (fun i => (i.zero, i.size, i.bytes)) = some (some (.int .i64 0), 1, 8) := by kernel_rfl
theorem Try.boolInfo7 : (Try.prog.info? 4).map (fun i => (i.zero, i.size, i.bytes)) = some (some (.bool false), 1, 1) := by kernel_rfl
theorem frs_grew {w w' : World} {ob : Obj} {r : Option Nat} (hg : (w.alloc ob).grownBy w' r) : Frs (fun i => r = some i) (w.alloc ob) w' := ⟨hg.os, hg.tape, hg.output, hg.size, fun i hi hne => hg.block i hi (fun e => hne e.symm)⟩
theorem rpNewNo (t rb : Nat) (G : Nat → Int) (w : World) (h : RStoAt w t rb 0 G) :
    Calls Try.prog 17 #[.pointer (some ⟨t, 0, none⟩)] w fun e w' => e = .returned (.tuple #[.pointer none, .int .i64 7]) ∧ w = w' := by
  obtain ⟨a, c, h0⟩ := h.cell0
  go_enter Try.func17, Try.ntmps17
  go_wp2
  go_ret2
  exact ⟨rfl, rfl⟩
set_option maxRecDepth 20000 in
set_option maxHeartbeats 2000000 in
theorem rpNew (t rb n : Nat) (G : Nat → Int) (w : World) (h : RStoAt w t rb n G) (hn : 0 < n) :
    Calls Try.prog 17 #[.pointer (some ⟨t, 0, none⟩)] w fun e w' => ∃ q uv tv, e = .returned (.tuple #[.pointer (some ⟨q, 0, none⟩), .int .i64 0]) ∧ w.heap.size ≤ q ∧ RPlAt w' q t rb n G uv tv (List.replicate n ⟨-1, false⟩) ∧ Below w.heap.size w w' ∧ (∀ a, uv.ownBlock = some a → w.heap.size ≤ a) ∧ ∀ a, tv.ownBlock = some a → w.heap.size ≤ a := by
  obtain ⟨i0, hi, hz0, hz1, hz2⟩ := info_parts Try.intInfo7
  obtain ⟨j0, hj, hy0, hy1, hy2⟩ := info_parts Try.boolInfo7
  obtain ⟨a0, c0, h0⟩ := h.cell0
  have htl := h.lt
  have hn0 : ((n : Int) == 0) = false := by rw [beq_eq_false_iff_ne]; omega
  have hn32 := h.1
  have hR2 : (w.alloc (.cells (rpBlk (.pointer (some ⟨t, 0, none⟩)) (.slice none 0 0) (.slice none 0 0)) 63)).heap[w.heap.size]? = some (.cells (rpBlk (.pointer (some ⟨t, 0, none⟩)) (.slice none 0 0) (.slice none 0 0)) 63 (0, 0)) := Go.heap_alloc_new w _
  have hb2 : Bel w.heap.size w (w.alloc (.cells (rpBlk (.pointer (some ⟨t, 0, none⟩)) (.slice none 0 0) (.slice none 0 0)) 63)) := Bel.alloc (Bel.refl w)
  have h2 := h.alloc (o := .cells (rpBlk (.pointer (some ⟨t, 0, none⟩)) (.slice none 0 0) (.slice none 0 0)) 63)
  go_enter Try.func17, Try.ntmps17
  go_wp2_with fail
  go_loopw [5] (fun kv wr => ∃ (k : Nat) (uv tv : Value), k ≤ n ∧ kv = .int .i64 k ∧ wr.heap[w.heap.size]? = some (.cells (rpBlk (.pointer (some ⟨t, 0, none⟩)) uv tv) 63 (0, 0)) ∧ wr.ownsRow (w.heap.size + 1) 3 1 uv k ((List.replicate k (⟨-1, false⟩ : stIt)).flatMap whEnc) ∧ wr.ownsRow (w.heap.size + 1) 4 1 tv k ((List.replicate k (⟨-1, false⟩ : stIt)).flatMap tkEnc) ∧ Bel w.heap.size w wr) (fun kv _ => n - (intOf kv).toNat)
  case atStart => exact ⟨0, .slice none 0 0, .slice none 0 0, Nat.zero_le _, rfl, hR2, World.ownsRow_nil _ _ _ _, World.ownsRow_nil _ _ _ _, hb2⟩
  case round =>
    obtain ⟨k, uv, tv, hk, rfl, hR, hU, hT, hbel⟩ := hrel
    clear hR2 hb2 h2
    have hlt := lt_heap hR
    have c00 : wr.cell? ⟨t, 0, none⟩ = some (.slice a0 n c0) := (hbel.1.cell (p := ⟨t, 0, none⟩) htl).trans h0
    by_cases hkn : k < n
    · have q0 : wr.cell? ⟨w.heap.size, 1, none⟩ = some uv := (cell_of_row _ _ _ _ _ _ hR).trans rfl
      have hneU : uv.ownBlock ≠ some w.heap.size := fun e => by have := (hU.lt _ e).1; omega
      have hneT : tv.ownBlock ≠ some w.heap.size := fun e => by have := (hT.lt _ e).1; omega
      have hUT : ∀ a, tv.ownBlock = some a → ¬ uv.ownBlock = some a := fun a h1 h2 => by
        obtain ⟨cur, hc⟩ := own_typR hU h2
        obtain ⟨cur2, hc2⟩ := own_typR hT h1
        exact types_ne hc hc2 (by decide) rfl
      obtain ⟨a, c, rfl⟩ := ownsRow_shape hU
      have hsU : (List.replicate (k + 1) (⟨-1, false⟩ : stIt)).flatMap whEnc = (List.replicate k (⟨-1, false⟩ : stIt)).flatMap whEnc ++ [.int .i64 (-1)] := by
        rw [List.replicate_succ', List.flatMap_append]
        rfl
      have hsT : (List.replicate (k + 1) (⟨-1, false⟩ : stIt)).flatMap tkEnc = (List.replicate k (⟨-1, false⟩ : stIt)).flatMap tkEnc ++ [.bool false] := by
        rw [List.replicate_succ', List.flatMap_append]
        rfl
      have HU := Lib.hid hsU
      have HT := Lib.hid hsT
      have HUT := Lib.hid hUT
      clear hsU hsT hUT
      go_wp2_with (at_builtin; refine wpList_append_lies _ rfl _ _ 38 rfl (w.heap.size + 1) 3 i0 (.int .i64 0) 1 8 Try.underlying38 hi hz0 hz1 hz2 rfl (by decide) _ _ _ rfl (World.ownsRow.alloc hU _) ⟨wr.heap.size, 0, none⟩ 1 1 [.int .i64 (-1)] rfl rfl ?c1 ?c2 (by decide) ?c3 ?c4 ?c5 (wr.heap.size + 1) ?c6 ?_)
      case c1 =>
        intro x u hx
        match x, hx with
        | 0, hx => simp at hx; subst hx; simp [Addr.add]
      case c2 => intro u hu; simp at hu; subst hu; rfl
      case c3 => unfold maxLen; omega
      case c4 => omega
      case c5 => simp; omega
      case c6 => simp
      intro g4 cap4 w4 hown4 hgrow hat hlt4
      have hfr := frs_grew hgrow
      have hT4 := ownsRow_frs (hT.alloc _) hfr (fun a ha => HUT.out a ha)
      have r4 := (hfr.block w.heap.size (by simp; omega) hneU).trans (heap_alloc hR)
      have q4 : w4.cell? ⟨w.heap.size, 1, none⟩ = some (.slice a k c) := (cell_of_row _ _ _ _ _ _ r4).trans rfl
      have z4 : w4.frozen? ⟨w.heap.size, 1, none⟩ = false := by simp [World.frozen?, r4]
      have hbel4 : Bel w.heap.size w w4 := hbel.append (ownsRow_base hU (by omega)) hgrow
      have r5 : (w4.setCell ⟨w.heap.size, 1, none⟩ (.slice (some ⟨g4, 0, none⟩) (k + 1) cap4)).heap[w.heap.size]? = some (.cells (rpBlk (.pointer (some ⟨t, 0, none⟩)) (.slice (some ⟨g4, 0, none⟩) (k + 1) cap4) tv) 63 (0, 0)) := heap_setCell_at (o := 1) r4
      have hU5 : Upd w.heap.size w4 (w4.setCell ⟨w.heap.size, 1, none⟩ (.slice (some ⟨g4, 0, none⟩) (k + 1) cap4)) := (Upd.refl _ w4).setCell
      have u5 := ownsRow_upd hown4 hU5 (fun e => by have := (hown4.lt _ e).1; omega)
      have t5 := ownsRow_upd hT4 hU5 hneT
      have hbel5 := Bel.setCell (p := ⟨w.heap.size, 1, none⟩) (u := .slice (some ⟨g4, 0, none⟩) (k + 1) cap4) hbel4 (Nat.le_refl _)
      have hs4 : w.heap.size < w4.heap.size := lt_heap r4
      have q6 : w4.cell? ⟨w.heap.size, 2, none⟩ = some tv := (cell_of_row _ _ _ _ _ _ r4).trans rfl
      obtain ⟨ta, tc, rfl⟩ := ownsRow_shape hT
      clear hR hU hT hgrow hat hfr hT4 r4 hbel hbel4 hU5 q0
      go_wp2_with (at_builtin; refine wpList_append_lies _ rfl _ _ 61 rfl (w.heap.size + 1) 4 j0 (.bool false) 1 1 Try.underlying61 hj hy0 hy1 hy2 rfl (by decide) _ _ _ rfl (World.ownsRow.alloc t5 _) ⟨w4.heap.size, 0, none⟩ 1 1 [.bool false] rfl rfl ?c1 ?c2 (by decide) ?c3 ?c4 ?c5 (w4.heap.size + 1) ?c6 ?_)
      case c1 =>
        intro x u hx
        match x, hx with
        | 0, hx =>
          simp at hx
          subst hx
          have hn := Go.heap_alloc_new (w4.setCell ⟨w.heap.size, 1, none⟩ (.slice (some ⟨g4, 0, none⟩) (k + 1) cap4)) (.cells #[.bool false] 4)
          rw [show (w4.setCell ⟨w.heap.size, 1, none⟩ (.slice (some ⟨g4, 0, none⟩) (k + 1) cap4)).heap.size = w4.heap.size by simp] at hn
          exact (cell_of_row _ _ _ _ _ _ hn).trans rfl
      case c2 => intro u hu; simp at hu; subst hu; rfl
      case c3 => unfold maxLen; omega
      case c4 => omega
      case c5 => simp; omega
      case c6 => simp
      intro g7 cap7 w7 hown7 hgrow hat hlt7
      have hfr := frs_grew hgrow
      have hneT7 : (Value.slice ta k tc).ownBlock ≠ some w.heap.size := fun e => by have := (t5.lt _ e).1; omega
      have u7 := ownsRow_frs (u5.alloc _) hfr (fun a ha e => by
        obtain ⟨cur, hc⟩ := own_typR u5 ha
        obtain ⟨cur2, hc2⟩ := own_typR t5 e
        exact types_ne hc hc2 (by decide) rfl)
      have r7 := (hfr.block w.heap.size (by simp; omega) hneT7).trans (heap_alloc r5)
      have z7 : w7.frozen? ⟨w.heap.size, 2, none⟩ = false := by simp [World.frozen?, r7]
      have q7 : w7.cell? ⟨w.heap.size, 2, none⟩ = some (.slice ta k tc) := (cell_of_row _ _ _ _ _ _ r7).trans rfl
      have hbel7 : Bel w.heap.size w w7 := hbel5.append (ownsRow_base t5 (by omega)) hgrow
      have r8 : (w7.setCell ⟨w.heap.size, 2, none⟩ (.slice (some ⟨g7, 0, none⟩) (k + 1) cap7)).heap[w.heap.size]? = some (.cells (rpBlk (.pointer (some ⟨t, 0, none⟩)) (.slice (some ⟨g4, 0, none⟩) (k + 1) cap4) (.slice (some ⟨g7, 0, none⟩) (k + 1) cap7)) 63 (0, 0)) := heap_setCell_at (o := 2) r7
      have hU8 : Upd w.heap.size w7 (w7.setCell ⟨w.heap.size, 2, none⟩ (.slice (some ⟨g7, 0, none⟩) (k + 1) cap7)) := (Upd.refl _ w7).setCell
      have u8 := ownsRow_upd u7 hU8 (fun e => by have := (u7.lt _ e).1; omega)
      have t8 := ownsRow_upd hown7 hU8 (fun e => by have := (hown7.lt _ e).1; omega)
      have hbel8 := Bel.setCell (p := ⟨w.heap.size, 2, none⟩) (u := .slice (some ⟨g7, 0, none⟩) (k + 1) cap7) hbel7 (Nat.le_refl _)
      clear hown4 r5 u5 t5 hbel5 hown7 hgrow hat hfr u7 r7 hbel7 hU8 q4 q6 z4 hneT7
      go_wp2
      go_roundw
      case rel => exact ⟨k + 1, _, _, by omega, by go_num, r8, by rw [HU.out]; exact u8, by rw [HT.out]; exact t8, hbel8⟩
      case measure => simp [intOf]; omega
    · have e : n = k := by omega
      subst e
      have hS := h.below hbel.1
      have hlenr : (List.replicate n (⟨-1, false⟩ : stIt)).length = n := List.length_replicate
      go_wp2
      go_ret2
      refine ⟨w.heap.size, uv, tv, rfl, Nat.le_refl _, ⟨hR, by rw [hlenr]; exact hU, by rw [hlenr]; exact hT, hlenr, hS, fun f hf => .inl (by rw [atL_replicate hf]; exact ⟨rfl, rfl⟩)⟩, hbel.1, fun a ha => ?_, fun a ha => ?_⟩
      · have := (hU.lt a ha).1; omega
      · have := (hT.lt a ha).1; omega
end Go.Proofs.Ytgcnmhlojfncpaa
