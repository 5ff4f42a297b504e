/- Timers: Cancel. -/
import Derived.Test.YtjlhdbkhebfghaaTmg
namespace Go.Proofs.Ytjlhdbkhebfghaa
open Go.ChangeShapes Go.WideShapes Go.ChangeAt Go.RowKit
set_option linter.unusedVariables false

theorem tmCancelNo (t now : Nat) (u : Nat → Bool) (v : Value) (l : List trIt) (id : Int) (w : World) (h : TmAt w t u now v l) (hno : id < 0 ∨ 4 ≤ id ∨ ∃ k : Nat, k < 4 ∧ id = k ∧ u k = false) :
    Calls Try.prog 17 #[.pointer (some ⟨t, 0, none⟩), .int .i64 id] w fun e w' => e = .returned (.bool false) ∧ w = w' := by
  rcases hno with hno | hno | ⟨k, hk, rfl, hu⟩
  · go_enter Try.func17, Try.ntmps17
    go_wp2_with fail
    refine (tmNone t now u v l _ h).mono ?_
    rintro e w' ⟨rfl, rfl⟩
    go_wp2
    go_ret
    exact ⟨rfl, rfl⟩
  · have h1 : ¬ id < 0 := by omega
    go_enter Try.func17, Try.ntmps17
    go_wp2_with fail
    refine (tmNone t now u v l _ h).mono ?_
    rintro e w' ⟨rfl, rfl⟩
    go_wp2
    go_ret
    exact ⟨rfl, rfl⟩
  · have ck := h.cells.2.1 k hk
    rw [hu] at ck
    go_enter Try.func17, Try.ntmps17
    go_wp2_with fail
    refine (tmNone t now u v l _ h).mono ?_
    rintro e w' ⟨rfl, rfl⟩
    go_wp2
    go_ret
    exact ⟨rfl, rfl⟩

set_option maxRecDepth 20000 in
set_option maxHeartbeats 2000000 in
theorem tmCancel (t now : Nat) (u : Nat → Bool) (v : Value) (l : List trIt) (k : Nat) (w : World) (h : TmAt w t u now v l) (hk : k < 4) (hu : u k = true) (hin : ∃ x ∈ l, x.id = k) (hl : l.length ≤ 1000) :
    Calls Try.prog 17 #[.pointer (some ⟨t, 0, none⟩), .int .i64 k] w fun e w' => e = .returned (.bool true) ∧ ∃ v' l' x, x ∈ l ∧ x.id = k ∧ (x :: l').Perm l ∧ TmAt w' t (putU u k false) now v' l' ∧ Frm t v v' w w' := by
  obtain ⟨x0, hx0, hx0k⟩ := hin
  obtain ⟨i0, hi0, rfl⟩ := mem_is_atL hx0
  have hlt := h.lt
  have ck := h.cells.2.1 k hk
  rw [hu] at ck
  have c0 := h.cells.1
  obtain ⟨g, cap, hv, hle, hm, hbg, hg, hc, hf⟩ := h.row.item trEnc_length hi0
  have HC := Lib.hid hc
  clear hc
  subst hv
  have HX := Lib.hid hx0k
  clear hx0k hx0
  go_enter Try.func17, Try.ntmps17
  go_wp2_with fail
  refine (tmNone t now u _ l _ h).mono ?_
  rintro e w' ⟨rfl, rfl⟩
  go_wp2_with fail
  go_loopw [32] (fun x wr => ∃ j : Nat, x = .int .i64 j ∧ j ≤ i0 ∧ (∀ i, i < j → (atL l i).id ≠ k) ∧ Bel w.heap.size w wr) (fun x _ => l.length - (intOf x).toNat)
  case atStart => exact ⟨0, rfl, Nat.zero_le _, fun i hi => by omega, Bel.refl w⟩
  case round =>
    obtain ⟨j, rfl, hj, hbefore, hbel⟩ := hrel
    have HB := Lib.hid hbefore
    clear hbefore
    have hjl : j < l.length := by omega
    have b0 := (hbel.1.cell (p := ⟨g, j * 3, none⟩) hg).trans (HC.out j hjl 0 (by omega))
    have b1 := (hbel.1.cell (p := ⟨g, j * 3 + 1, none⟩) hg).trans (HC.out j hjl 1 (by omega))
    have b2 := (hbel.1.cell (p := ⟨g, j * 3 + 2, none⟩) hg).trans (HC.out j hjl 2 (by omega))
    simp only [trEnc, List.getElem?_cons_zero, List.getElem?_cons_succ] at b0 b1 b2
    by_cases hid : (atL l j).id = k
    · have hT := h.below hbel.1
      obtain ⟨m, hm1⟩ : ∃ m, l.length = m + 1 := ⟨l.length - 1, by omega⟩
      have HJ := Lib.hid hid
      rw [hid] at b2
      clear hid
      go_wp2_with fail
      refine (trHRem t (tmBlk u now) _ l m j _ (tmBlk_ok _ _) (hT.row.alloc) hm1 (by omega) hT.heap (by omega)).mono ?_
      rintro e w2 ⟨rfl, v2, l2, h2, hh2, hl2, p2, f2⟩
      have hT2 : TmAt w2 t u now v2 l2 := ⟨h2, hh2⟩
      have ck2 := hT2.cells.2.1 k hk
      have zk2 : w2.frozen? ⟨t, 1 + k, none⟩ = false := h2.free (1 + k)
      go_wp2
      go_ret
      have fu : Upd t w2 (w2.setCell ⟨t, 1 + k, none⟩ (.bool false)) := (Upd.refl t w2).setCell
      have g3 : (w2.setCell ⟨t, 1 + k, none⟩ (.bool false)).heap[t]? = some (.cells (tmBlk (putU u k false) now v2) 77 (0, 0)) := by
        have := heap_setCell_at (o := 1 + k) (u := .bool false) h2.1
        rw [tmBlk_set _ _ _ _ _ hk] at this
        exact this
      have fr : Frm t (.slice (some ⟨g, 0, none⟩) l.length cap) v2 w w2 := ((Frm.of_below hbel.1).trans (Frm.of_below (Bel.refl wr).alloc.1)).trans f2
      exact ⟨rfl, v2, l2, atL l j, mem_atL hjl, HJ.out, p2, ⟨h2.reblk fu g3, hh2⟩, fr.trans (Frm.of_own (v := v2) fu)⟩
    · have hji : j ≠ i0 := fun e => by subst e; exact hid HX.out
      go_wp2
      go_roundw
      case rel => exact ⟨j + 1, by go_num, by omega, fun i hi => by
        rcases Nat.lt_succ_iff_lt_or_eq.1 hi with h1 | h1
        · exact HB.out i h1
        · subst h1; exact hid, by repeat (first | exact hbel | apply Bel.alloc)⟩
      case measure => simp [intOf]; omega
end Go.Proofs.Ytjlhdbkhebfghaa
