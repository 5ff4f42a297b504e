/- The reference of law 29: Cancel. -/
import Derived.Test.YtjlhdbkhebfghaaR29b
namespace Go.Proofs.Ytjlhdbkhebfghaa
open Go.ChangeShapes Go.WideShapes Go.ChangeAt Go.RowKit
set_option linter.unusedVariables false

theorem ownsRow_base {w : World} {B B' size n : Nat} {e : TypeId} {v : Value} {xs : List Value} (h : w.ownsRow B e size v n xs) (hb : B' ≤ B) : w.ownsRow B' e size v n xs := by
  refine ⟨h.1, ?_⟩
  rcases h.2 with hn | ⟨g, cap, cur, hv, hg, hr⟩
  · exact .inl hn
  · exact .inr ⟨g, cap, cur, hv, Nat.le_trans hb hg, hr⟩
theorem ownsRow_shape {w : World} {B size n : Nat} {e : TypeId} {v : Value} {xs : List Value} (h : w.ownsRow B e size v n xs) : ∃ a c, v = .slice a n c := by
  rcases h.2 with ⟨h1, h2⟩ | ⟨g, cap, cur, h1, _⟩
  · exact ⟨none, 0, by rw [h1, h2]⟩
  · exact ⟨_, _, h1⟩
def lessM (m : List trIt) (id : Int) : List trIt := m.filter fun x => !decide (x.id = id)
theorem lessM_take (m : List trIt) (id : Int) {j : Nat} (hj : j < m.length) : lessM (m.take (j + 1)) id = if (atL m j).id = id then lessM (m.take j) id else lessM (m.take j) id ++ [atL m j] := by
  rw [take_succ_atL hj]
  unfold lessM
  rw [List.filter_append]
  by_cases h : (atL m j).id = id <;> simp [h]
theorem lessM_le (m : List trIt) (id : Int) : (lessM m id).length ≤ m.length := List.length_filter_le ..

set_option maxRecDepth 20000 in
set_option maxHeartbeats 1000000 in
theorem rCancel (b : Nat) (v : Value) (m : List trIt) (id : Int) (w : World) (h : RfAt w b v m) (hm : m.length ≤ 1000000) :
    Calls Try.prog 27 #[.pointer (some ⟨b, 0, none⟩), .int .i64 id] w fun e w' => e = .returned (.bool (hasM m id)) ∧ ∃ v', RfAt w' b v' (lessM m id) ∧ Frm b v v' w w' := by
  obtain ⟨i0, hi, hz0, hz1, hz2⟩ := info_parts Try.rtimerRow
  have q0 := h.field rfBlk_ok
  have hlt := h.lt
  obtain ⟨a, c, rfl⟩ := h.shape
  go_enter Try.func27, Try.ntmps27
  go_wp2_with fail
  refine (rHas b _ m id _ h hm).mono ?_
  rintro e w' ⟨rfl, rfl⟩
  go_wp2_with fail
  go_loopw [6, 7] (fun out jv wr => ∃ j : Nat, j ≤ m.length ∧ jv = .int .i64 j ∧ wr.ownsRow w.heap.size 94 2 out (lessM (m.take j) id).length ((lessM (m.take j) id).flatMap rfEnc) ∧ Bel w.heap.size w wr) (fun _ jv _ => m.length - (intOf jv).toNat)
  case atStart => exact ⟨0, Nat.zero_le _, rfl, World.ownsRow_nil _ _ _ _, Bel.refl _⟩
  case round =>
    obtain ⟨j, hj, rfl, hown, hbel⟩ := hrel
    have p0 := (hbel.1.cell (p := ⟨b, 0, none⟩) hlt).trans q0
    by_cases hjl : j < m.length
    · obtain ⟨g, rfl, hle, hmx, hbg, hg, hc, hf⟩ := h.at rfEnc_length hjl
      have e1 := (hbel.1.cell (p := ⟨g, j * 2, none⟩) hg).trans (hc j hjl 0 (by omega))
      have e2 := (hbel.1.cell (p := ⟨g, j * 2 + 1, none⟩) hg).trans (hc j hjl 1 (by omega))
      simp only [rfEnc, List.getElem?_cons_zero, List.getElem?_cons_succ] at e1 e2
      have ht := lessM_take m id hjl
      have hll := lessM_le (m.take j) id
      rw [List.length_take] at hll
      have hws : w.heap.size ≤ wr.heap.size := hbel.2
      clear hc
      by_cases hid : (atL m j).id = id
      · rw [if_pos hid] at ht
        rw [hid] at e1
        have HT := Lib.hid ht
        clear ht hid hll
        go_wp2
        go_roundw
        case rel => exact ⟨j + 1, by omega, by go_num, by rw [HT.out]; exact hown, hbel⟩
        case measure => simp [intOf]; omega
      · rw [if_neg hid] at ht
        obtain ⟨d, s, i, hxe⟩ : ∃ d s i, atL m j = (⟨d, s, i⟩ : trIt) := ⟨_, _, _, rfl⟩
        rw [hxe] at ht e1 e2 hid
        simp only at e1 e2 hid
        have HT := Lib.hid ht
        clear ht hxe
        go_wp2_with (at_builtin; refine wpList_append_own _ rfl _ _ 66 rfl w.heap.size 94 i0 (.agg #[.int .i64 0, .int .i64 0]) 2 16 Try.underlying66 hi hz0 hz1 hz2 rfl (by decide) _ _ _ rfl (World.ownsRow.alloc hown _) ⟨wr.heap.size, 0, none⟩ 1 1 [.int .i64 i, .int .i64 d] rfl rfl ?c1 ?c2 ?c3 ?c4 ?c5 ?_)
        case c1 =>
          intro x u hx
          match x, hx with
          | 0, hx => simp at hx; subst hx; simp [Addr.add]
          | 1, hx => simp at hx; subst hx; simp [Addr.add]
        case c2 => intro u hu; simp at hu; rcases hu with rfl | rfl <;> rfl
        case c3 => unfold maxLen; omega
        case c4 => omega
        case c5 => simp; omega
        intro v4 w4 hown4 hgrow _
        have hbel4 := hbel.append hown hgrow
        go_wp2
        go_roundw
        case rel => exact ⟨j + 1, by omega, by go_num, by rw [HT.out]; simpa [rfEnc] using hown4, hbel4⟩
        case measure => simp [intOf]; omega
    · obtain rfl : j = m.length := by omega
      rw [List.take_length] at hown
      have r4 := (hbel.1.block b hlt).trans h.1
      have z4 : wr.frozen? ⟨b, 0, none⟩ = false := by simp [World.frozen?, r4]
      obtain ⟨a6, c6, rfl⟩ := ownsRow_shape hown
      go_wp2
      go_ret
      refine ⟨rfl, _, RowIn.stored (o := 0) (blk := fun v => #[v]) rfBlk_ok r4 (ownsRow_base hown (by omega)), ?_⟩
      refine ⟨hbel.1.os, hbel.1.tape, hbel.1.output, ?_, fun i hi hb hv => ?_, .inr fun g' hg' => (hown.lt g' hg').1⟩
      · have := hbel.2
        simp [World.setCell]
        omega
      · exact (heap_setCell_ne' hb).trans (hbel.1.block i hi)
end Go.Proofs.Ytjlhdbkhebfghaa
