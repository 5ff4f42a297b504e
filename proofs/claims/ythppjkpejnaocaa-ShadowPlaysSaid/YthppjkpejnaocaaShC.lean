/- shadow: narrow, protect. -/
import Derived.Test.YthppjkpejnaocaaShB
namespace Go.Proofs.Ythppjkpejnaocaa
open Go.ChangeShapes Go.WideShapes Go.ChangeAt Go.RowKit
set_option linter.unusedVariables false

def nrw (x : ln) : ln := { x with er := bits .andNot .i64 x.er 2 }
theorem narrow_any (g o : Nat) (r : Int) (w : World) (h : w.cell? ⟨g, o + 4, none⟩ = some (.int .i64 r)) (hz : w.frozen? ⟨g, o + 4, none⟩ = false) :
    Calls Try.prog 41 #[.pointer (some ⟨g, o, none⟩)] w fun e w' => e = .returned (.tuple #[]) ∧ w' = w.setCell ⟨g, o + 4, none⟩ (.int .i64 (bits .andNot .i64 r 2)) := by
  have hg := block_lt_of_cell h
  go_enter Try.func41, Try.ntmps41
  go_wp2
  go_end0
  exact ⟨rfl, rfl⟩
section
variable {b : Nat} {v : Value} {l : List ln}
/-- One line is narrowed where it lies. -/
theorem sh_nrw {w : World} (h : ShIn w b v l) {g cap i : Nat} (hi : i < l.length) (hv : v = .slice (some ⟨g, 0, none⟩) l.length cap) : ShIn (w.setCell ⟨g, i * 7 + 4, none⟩ (.int .i64 (bits .andNot .i64 (atL l i).er 2))) b v (l.set i (nrw (atL l i))) ∧ Frm b v v w (w.setCell ⟨g, i * 7 + 4, none⟩ (.int .i64 (bits .andNot .i64 (atL l i).er 2))) := by
  obtain ⟨cur, hcur⟩ := own_typR h.2 (show v.ownBlock = some g by rw [hv]; rfl)
  have hU : Upd g w (w.setCell ⟨g, i * 7 + 4, none⟩ (.int .i64 (bits .andNot .i64 (atL l i).er 2))) := (Upd.refl g w).setCell
  refine ⟨h.wrote lnEnc_length hv hU (by simp) ⟨cur, _, hcur, heap_setCell_at hcur, by simp, fun k hk j hj => ?_⟩, Frm.of_upd hU (by rw [hv]; rfl)⟩
  obtain ⟨g', cap', hv2, _, _, _, _, hc, _⟩ := h.item lnEnc_length hi
  rw [hv] at hv2
  simp only [Value.slice.injEq, Option.some.injEq, Addr.mk.injEq, and_true] at hv2
  obtain ⟨rfl, _⟩ := hv2
  have hck := hc k hk j hj
  rw [cell_of_row _ _ _ _ _ _ hcur] at hck
  have hci := hc i hi 4 (by omega)
  rw [cell_of_row _ _ _ _ _ _ hcur] at hci
  have hsz : i * 7 + 4 < cur.size := by
    rw [List.getElem?_eq_getElem (by rw [lnEnc_length]; omega)] at hci
    exact (Array.getElem?_eq_some_iff.1 hci).1
  have hat : atL (l.set i (nrw (atL l i))) k = if k = i then nrw (atL l i) else atL l k := by
    rw [atL_eq (by rw [List.length_set]; exact hk), List.getElem_set]
    by_cases e : i = k
    · rw [if_pos e, if_pos e.symm]
    · rw [if_neg e, if_neg (Ne.symm e), atL_eq hk]
  rw [hat, Array.getElem?_setIfInBounds]
  by_cases e : i * 7 + 4 = k * 7 + j
  · obtain ⟨rfl, rfl⟩ : i = k ∧ 4 = j := by omega
    rw [if_pos rfl, if_pos hsz, if_pos rfl]
    rfl
  · rw [if_neg e]
    by_cases e2 : k = i
    · subst e2
      rw [if_pos rfl, hck]
      have : j = 0 ∨ j = 1 ∨ j = 2 ∨ j = 3 ∨ j = 5 ∨ j = 6 := by omega
      rcases this with rfl | rfl | rfl | rfl | rfl | rfl <;> rfl
    · rw [if_neg e2, hck]
/-- The lines of these pages narrowed. -/
def prB (rt lf : Int) (x : ln) : Bool := x.ep == rt || x.ep == lf
def prX (rt lf : Int) (x : ln) : ln := if prB rt lf x = true then nrw x else x
def prTo (rt lf : Int) (l : List ln) (i : Nat) : List ln := (l.take i).map (prX rt lf) ++ l.drop i
theorem prTo_length (rt lf : Int) (l : List ln) (i : Nat) : (prTo rt lf l i).length = l.length := by simp [prTo]; omega
theorem prTo_at {rt lf : Int} {l : List ln} {i : Nat} (hi : i < l.length) : atL (prTo rt lf l i) i = atL l i := by
  rw [atL_eq (by rw [prTo_length]; exact hi), atL_eq hi]
  simp only [prTo]
  rw [List.getElem_append_right (by simp; omega)]
  simp [Nat.min_eq_left (Nat.le_of_lt hi)]
theorem prTo_succ {rt lf : Int} {l : List ln} {i : Nat} (hi : i < l.length) : prTo rt lf l (i + 1) = if prB rt lf (atL l i) = true then (prTo rt lf l i).set i (nrw (atL l i)) else prTo rt lf l i := by
  have e1 : prTo rt lf l (i + 1) = (l.take i).map (prX rt lf) ++ (prX rt lf (atL l i) :: l.drop (i + 1)) := by
    rw [prTo, take_succ_atL hi, List.map_append]
    simp
  have e2 : prTo rt lf l i = (l.take i).map (prX rt lf) ++ (atL l i :: l.drop (i + 1)) := by rw [prTo, drop_atL hi]
  rw [e1, e2]
  have hlen : ((l.take i).map (prX rt lf)).length = i := by simp; omega
  by_cases h : prB rt lf (atL l i) = true
  · rw [if_pos h, List.set_append_right _ _ (by omega), hlen, Nat.sub_self, prX, if_pos h]
    rfl
  · rw [if_neg h, prX, if_neg h]
/-- What protect does. -/
def protL (l : List ln) (rt lf : Int) : List ln :=
  if tableB (l.map (prX rt lf)) (atL (l.map (prX rt lf)) (l.length - 1)).ep = true then (l.map (prX rt lf)).set (l.length - 1) (nrw (atL (l.map (prX rt lf)) (l.length - 1))) else l.map (prX rt lf)
set_option maxHeartbeats 2000000 in
theorem sh_protect (rt lf : Int) (w : World) (h : ShIn w b v l) (hn : l.length ≤ 1000) (h0 : 0 < l.length) :
    Calls Try.prog 36 #[.pointer (some ⟨b, 0, none⟩), .int .i64 rt, .int .i64 lf] w fun e w' => e = .returned (.tuple #[]) ∧ ShIn w' b v (protL l rt lf) ∧ Frm b v v w w' := by
  have hlt := h.lt
  have c0 := shField _ h
  obtain ⟨g, cap, hv, h1, h2, h3, h4, _, _⟩ := h.item lnEnc_length h0
  rw [hv] at c0
  go_enter Try.func36, Try.ntmps36
  go_wp2_with fail
  go_loopw [14] (fun iv wr => ∃ i : Nat, i ≤ l.length ∧ iv = .int .i64 i ∧ ShIn wr b v (prTo rt lf l i) ∧ Frm b v v w wr) (fun iv _ => l.length - (intOf iv).toNat)
  case atStart => exact ⟨0, Nat.zero_le _, rfl, h, Frm.refl _ _ _⟩
  case round =>
    obtain ⟨i, hi, rfl, hr, hF⟩ := hrel
    have hlt2 := hr.lt
    have c0' := shField _ hr
    rw [hv] at c0'
    by_cases hil : i < l.length
    · obtain ⟨g', cap', hv2, _, _, _, hg4, hc, hz⟩ := hr.item lnEnc_length (i := i) (by rw [prTo_length]; exact hil)
      rw [hv, prTo_length] at hv2
      simp only [Value.slice.injEq, Option.some.injEq, Addr.mk.injEq, and_true, true_and] at hv2
      obtain ⟨rfl, rfl⟩ := hv2
      have d2 := hc i (by rw [prTo_length]; exact hil) 2 (by omega)
      have d4 := hc i (by rw [prTo_length]; exact hil) 4 (by omega)
      rw [prTo_at hil] at d2 d4
      simp only [lnEnc, List.getElem?_cons_succ, List.getElem?_cons_zero] at d2 d4
      have hsu := prTo_succ (rt := rt) (lf := lf) hil
      have hz4 := hz (i * 7 + 4)
      clear hc hz
      have hpr : prB rt lf (atL l i) = ((atL l i).ep == rt || (atL l i).ep == lf) := rfl
      by_cases hq : prB rt lf (atL l i) = true
      · rw [if_pos hq] at hsu
        have hnw := sh_nrw hr (g := g) (cap := cap) (i := i) (by rw [prTo_length]; exact hil) (by rw [prTo_length]; exact hv)
        rw [prTo_at hil, ← hsu] at hnw
        have HN := Lib.hid hnw
        have hcase : ((atL l i).ep = rt) ∨ (¬ (atL l i).ep = rt ∧ (atL l i).ep = lf) := by
          rw [hpr] at hq
          simp at hq
          by_cases e : (atL l i).ep = rt
          · exact .inl e
          · exact .inr ⟨e, by rcases hq with h | h; exact absurd h e; exact h⟩
        clear hnw hsu hpr hq
        rcases hcase with hq | ⟨hq1, hq⟩
        all_goals
          go_wp2_with fail
          refine (narrow_any g (i * 7) _ _ d4 hz4).mono ?_
          rintro e w3 ⟨rfl, rfl⟩
          have hN := HN.out
          generalize wr.setCell ⟨g, i * 7 + 4, none⟩ (.int .i64 (bits .andNot .i64 (atL l i).er 2)) = w4 at *
          go_wp2
          go_roundw
          case rel => exact ⟨i + 1, by omega, by go_num, hN.1, hF.trans hN.2⟩
          case measure => simp [intOf]; omega
      · rw [if_neg hq] at hsu
        rw [← hsu] at hr
        have hq1 : ((atL l i).ep == rt) = false ∧ ((atL l i).ep == lf) = false := by
          rw [hpr] at hq
          simpa using hq
        obtain ⟨hq1, hq2⟩ := hq1
        clear hsu hpr hq
        go_wp2
        go_roundw
        case rel => exact ⟨i + 1, by omega, by go_num, hr, hF⟩
        case measure => simp [intOf]; omega
    · obtain rfl : i = l.length := by omega
      rw [show prTo rt lf l l.length = l.map (prX rt lf) by simp [prTo]] at hr
      have hlen : (l.map (prX rt lf)).length = l.length := List.length_map ..
      obtain ⟨m, hm⟩ : ∃ m, l.length = m + 1 := ⟨l.length - 1, by omega⟩
      have hm1 : (l.length : Int) - 1 = (m : Int) := by omega
      have hpL : protL l rt lf = if tableB (l.map (prX rt lf)) (atL (l.map (prX rt lf)) m).ep = true then (l.map (prX rt lf)).set m (nrw (atL (l.map (prX rt lf)) m)) else l.map (prX rt lf) := by rw [protL, hm]; rfl
      generalize l.map (prX rt lf) = L at *
      have hx0 : (0 : Int) ≤ (l.length : Int) - 1 := by omega
      have hx1 : (l.length : Int) - 1 < (l.length : Int) := by omega
      go_wp2_with fail
      refine wp_region_later (by kernel_rfl) (by kernel_rfl) ?_
      repeat (first | go_big_quiet_step (fail))
      refine wpQuiet_nil ?_
      intro w9 hw'
      have hb9 : Below wr.heap.size wr w9 := by
        obtain ⟨x9, hw''⟩ := hw'
        subst hw''
        exact later_below wr x9
      clear hw' c0'
      have hr9 := hr.below hb9
      have hF9 := hF.trans (Frm.of_below hb9)
      have hlt9 := hr9.lt
      obtain ⟨g', cap', hv2, _, _, _, hg9, hc, hz⟩ := hr9.item lnEnc_length (i := m) (by omega)
      rw [hv, hlen] at hv2
      simp only [Value.slice.injEq, Option.some.injEq, Addr.mk.injEq, and_true, true_and] at hv2
      obtain ⟨rfl, rfl⟩ := hv2
      have d2 := hc m (by omega) 2 (by omega)
      have d4 := hc m (by omega) 4 (by omega)
      simp only [lnEnc, List.getElem?_cons_succ, List.getElem?_cons_zero] at d2 d4
      have hz4 := hz (m * 7 + 4)
      have HM := Lib.hid hm1
      clear hc hz hm1 hx0 hx1
      go_wp2_with fail
      have hTb := sh_table (atL L m).ep w9 hr9 (by omega)
      have hnw := sh_nrw hr9 (g := g) (cap := cap) (i := m) (by omega) (by rw [hlen]; exact hv)
      refine hTb.mono ?_
      rintro e w10 ⟨rfl, rfl⟩
      cases hT : tableB L (atL L m).ep
      · rw [hT, if_neg (by simp)] at hpL
        have HP := Lib.hid hpL
        clear hpL hT hTb hnw
        go_wp2_with fail
        go_end0
        exact ⟨rfl, by rw [HP.out]; exact hr9, hF9⟩
      · rw [hT, if_pos rfl] at hpL
        have HP := Lib.hid hpL
        have HN := Lib.hid hnw
        clear hpL hT hTb hnw
        go_wp2_with fail
        refine (narrow_any g (m * 7) _ _ d4 hz4).mono ?_
        rintro e w11 ⟨rfl, rfl⟩
        have hN := HN.out
        generalize w9.setCell ⟨g, m * 7 + 4, none⟩ (.int .i64 (bits .andNot .i64 (atL L m).er 2)) = w12 at *
        go_wp2_with fail
        go_end0
        exact ⟨rfl, by rw [HP.out]; exact hN.1, hF9.trans hN.2⟩
end
end Go.Proofs.Ythppjkpejnaocaa
