/- law 29: TimerOrder. -/
import Derived.Test.YtjlhdbkhebfghaaTmw
namespace Go.Proofs.Ytjlhdbkhebfghaa
open Go.ChangeShapes Go.WideShapes Go.ChangeAt Go.RowKit
set_option linter.unusedVariables false

theorem u16_bounds {a : Int} (h : (Lit.int .u16 a).wf = true) : 0 ≤ a ∧ a ≤ 65535 := by
  simp [Lit.wf, IntKind.min, IntKind.max, IntKind.bits, IntKind.signed] at h
  omega
/-- The first k of the four, as they were armed. -/
def four (A : Nat → Int) (k : Nat) : List trIt := (List.range k).map fun i => ⟨A i, (i + 1 : Nat), i⟩
theorem four_succ (A : Nat → Int) (k : Nat) : four A (k + 1) = four A k ++ [⟨A k, (k + 1 : Nat), k⟩] := by simp [four, List.range_succ]
def below (k : Nat) : Nat → Bool := fun i => decide (i < k)
theorem below_succ (k : Nat) : putU (below k) k true = below (k + 1) := by
  funext i
  simp only [putU, below]
  split
  · subst_vars; simp
  · simp; omega
theorem freeU_below (k : Nat) (hk : k < 4) : freeU (below k) = k := by
  rcases (by omega : k = 0 ∨ k = 1 ∨ k = 2 ∨ k = 3) with rfl | rfl | rfl | rfl <;> rfl

def fourA (a0 a1 a2 a3 : Int) (i : Nat) : Int := if i = 0 then a0 else if i = 1 then a1 else if i = 2 then a2 else a3
theorem four_length (A : Nat → Int) (k : Nat) : (four A k).length = k := by simp [four]

theorem ownsRow_ints {w : World} {B : Nat} {e : TypeId} {v : Value} {xs : List trIt} (h : w.ownsRow B e 1 v xs.length (xs.map fun x => .int .i64 x.id)) (hn : 0 < xs.length) : ∃ g cap, v = .slice (some ⟨g, 0, none⟩) xs.length cap ∧ g < w.heap.size ∧ ∀ i, i < xs.length → w.cell? ⟨g, i, none⟩ = some (.int .i64 (atL xs i).id) := by
  obtain ⟨hl, h2⟩ := h
  rcases h2 with ⟨_, h0⟩ | ⟨g, cap, cur, hv, hb, hg, hle, hm, hs, ht⟩
  · omega
  · refine ⟨g, cap, hv, lt_heap hg, fun i hi => ?_⟩
    have h0 : (cur.toList.take (xs.length * 1))[i]? = some (.int .i64 (atL xs i).id) := by
      rw [ht, List.getElem?_map, atL_eq hi, List.getElem?_eq_getElem hi]; rfl
    rw [List.getElem?_take, if_pos (by omega), Array.getElem?_toList] at h0
    simp [World.cell?, hg, h0]

set_option maxRecDepth 20000 in
set_option maxHeartbeats 2000000 in
theorem timerOrder_walk (a0 : Int) (a1 : Int) (a2 : Int) (a3 : Int) (w : World) (w0 : (Lit.int .u16 a0).wf = true) (w1 : (Lit.int .u16 a1).wf = true) (w2 : (Lit.int .u16 a2).wf = true) (w3 : (Lit.int .u16 a3).wf = true) :
    Calls Try.prog 3 #[.int .u16 a0, .int .u16 a1, .int .u16 a2, .int .u16 a3] w fun e w' => e = .returned (.bool true) ∧ Below w.heap.size w w' := by
  have l0 := u16_bounds w0
  have l1 := u16_bounds w1
  have l2 := u16_bounds w2
  have l3 := u16_bounds w3
  go_enter Try.func3, Try.ntmps3
  go_wp2_with fail
  refine (tmNew _).mono ?_
  rintro e wa ⟨rfl, b1, t1⟩
  go_wp2_with fail
  have hA : ∀ i, i < 4 → 0 ≤ fourA a0 a1 a2 a3 i ∧ fourA a0 a1 a2 a3 i ≤ 65535 := fun i hi => by
    simp only [fourA]
    split
    · exact l0
    · split
      · exact l1
      · split
        · exact l2
        · exact l3
  have hT0 := t1.lt
  go_loopw [11] (fun x wr => ∃ (k : Nat) (vv : Value) (ll : List trIt), x = .int .i64 k ∧ k ≤ 4 ∧ TmAt wr w.heap.size (below k) k vv ll ∧ ll.Perm (four (fourA a0 a1 a2 a3) k) ∧ Bel w.heap.size w wr ∧ wr.heap[wa.heap.size]? = some (.cells #[.int .i64 a0, .int .i64 a1, .int .i64 a2, .int .i64 a3] 3 (0, 0)) ∧ ∀ g, vv.ownBlock = some g → wa.heap.size < g) (fun x _ => 4 - (intOf x).toNat)
  case atStart => exact ⟨0, .slice none 0 0, [], rfl, by omega, t1.below (Bel.refl wa).alloc.1, List.Perm.refl _, Bel.alloc ⟨b1, b1.size⟩, Go.heap_alloc_new wa _, fun g hg => by cases hg⟩
  case round =>
    obtain ⟨k, vv, ll, rfl, hk, hT, hp, hbel, hS, hg⟩ := hrel
    by_cases hk4 : k < 4
    · have hcell : wr.cell? ⟨wa.heap.size, k, none⟩ = some (.int .i64 (fourA a0 a1 a2 a3 k)) := by
        rw [cell_of_row _ _ _ _ _ _ hS]
        rcases (by omega : k = 0 ∨ k = 1 ∨ k = 2 ∨ k = 3) with rfl | rfl | rfl | rfl <;> rfl
      go_wp2_with fail
      refine (tmArm w.heap.size k (below k) vv ll (fourA a0 a1 a2 a3 k) k _ hT (hA k hk4).1 (freeU_below k hk4) hk4 (by omega) (by rw [hp.length_eq, four_length]; omega)).mono ?_
      rintro e w2 ⟨rfl, v2, l2, t2, p2, f2⟩
      rw [below_succ] at t2
      go_wp2
      go_roundw
      case rel =>
        refine ⟨k + 1, v2, l2, by go_num, by omega, t2, ?_, ⟨hbel.1.trans ⟨f2.os, f2.tape, f2.output, f2.size, fun i hi => f2.block i (Nat.lt_of_lt_of_le hi hbel.2) (by omega) (fun e => by have := hg i e.symm; omega)⟩, Nat.le_trans hbel.2 f2.size⟩, ?_, ?_⟩
        · rw [four_succ]
          exact p2.trans (hp.append_right _)
        · exact (f2.block _ (lt_heap hS) (by omega) (fun e => by have := hg _ e.symm; omega)).trans hS
        · intro g e
          rcases f2.own with ho | ho
          · exact hg g (ho ▸ e)
          · have h1 := ho g e
            have h2 := lt_heap hS
            omega
      case measure => simp [intOf]; omega
    · obtain rfl : k = 4 := by omega
      go_wp2_with fail
      have hlen : ll.length = 4 := by rw [hp.length_eq, four_length]
      refine (tmArmFull w.heap.size 4 (below 4) vv ll 1 _ hT (by omega) rfl).mono ?_
      rintro e w' ⟨rfl, rfl⟩
      go_wp2_with fail
      refine (tmNext w.heap.size 4 (below 4) vv ll _ hT).mono ?_
      rintro e w' ⟨rfl, rfl⟩
      rw [if_neg (by omega)]
      have s0 : wr.cell? ⟨wa.heap.size, 0, none⟩ = some (.int .i64 a0) := by rw [cell_of_row _ _ _ _ _ _ hS]; rfl
      have s1 : wr.cell? ⟨wa.heap.size, 1, none⟩ = some (.int .i64 a1) := by rw [cell_of_row _ _ _ _ _ _ hS]; rfl
      have s2 : wr.cell? ⟨wa.heap.size, 2, none⟩ = some (.int .i64 a2) := by rw [cell_of_row _ _ _ _ _ _ hS]; rfl
      have s3 : wr.cell? ⟨wa.heap.size, 3, none⟩ = some (.int .i64 a3) := by rw [cell_of_row _ _ _ _ _ _ hS]; rfl
      have hSl := lt_heap hS
      obtain ⟨md, hmd⟩ : ∃ md, (atL ll 0).due = md := ⟨_, rfl⟩
      rw [hmd]
      have hle : md ≤ a0 ∧ md ≤ a1 ∧ md ≤ a2 ∧ md ≤ a3 := by
        have hge : ∀ i, i < 4 → md ≤ fourA a0 a1 a2 a3 i := fun i hi => by
          have hin : (⟨fourA a0 a1 a2 a3 i, (i + 1 : Nat), i⟩ : trIt) ∈ ll := hp.symm.subset (List.mem_map.2 ⟨i, List.mem_range.2 hi, rfl⟩)
          obtain ⟨j, hj, he⟩ := mem_is_atL hin
          have := heap_min trLt_ordered hT.heap j hj
          rw [← he, trLt_false] at this
          simp only at this
          omega
        exact ⟨hge 0 (by omega), hge 1 (by omega), hge 2 (by omega), hge 3 (by omega)⟩
      have hone : md = a0 ∨ md = a1 ∨ md = a2 ∨ md = a3 := by
        have hin := hp.subset (mem_atL (l := ll) (i := 0) (by omega))
        obtain ⟨i, hi, he⟩ := List.mem_map.1 hin
        have hi4 := List.mem_range.1 hi
        rw [← he] at hmd
        simp only at hmd
        rcases (by omega : i = 0 ∨ i = 1 ∨ i = 2 ∨ i = 3) with rfl | rfl | rfl | rfl
        · exact .inl hmd.symm
        · exact .inr (.inl hmd.symm)
        · exact .inr (.inr (.inl hmd.symm))
        · exact .inr (.inr (.inr hmd.symm))
      have hmv : (if a3 < if a2 < if a1 < a0 then a1 else a0 then a2 else if a1 < a0 then a1 else a0 then a3 else if a2 < if a1 < a0 then a1 else a0 then a2 else if a1 < a0 then a1 else a0) = md := by
        repeat' split
        all_goals omega
      have hmin : ∀ w' : World, (Builtin.min_ #[3, 3, 3, 3] 3 #[.int .i64 a0, .int .i64 a1, .int .i64 a2, .int .i64 a3]).run Try.prog w' = .ok (.int .i64 md) w' := fun w' => by
        simp [Builtin.min_, Builtin.min2, Sem.run_pure]
        exact hmv
      have HMD := Lib.hid hmd
      clear hmd hmv hle hone
      go_wp2_with fail
      refine wp_region_later (by kernel_rfl) (by kernel_rfl) ?_
      repeat (go_big_quiet_step (fail))
      refine wpQuiet_nil ?_
      intro _ hw'
      obtain ⟨x9, hw''⟩ := hw'
      subst hw''
      have hid4 : ∀ y ∈ ll, ∃ q : Nat, q < 4 ∧ y.id = q := fun y hy => by
        obtain ⟨q, hq, he⟩ := List.mem_map.1 (hp.subset hy)
        exact ⟨q, List.mem_range.1 hq, by rw [← he]⟩
      have hdue : ∀ y ∈ ll, y.due ≤ 70000 := fun y hy => by
        obtain ⟨q, hq, he⟩ := List.mem_map.1 (hp.subset hy)
        have := (hA q (List.mem_range.1 hq)).2
        rw [← he]
        simp only
        omega
      go_wp2_with fail
      refine (tmFire w.heap.size 4 (below 4) vv ll 70000 _ (hT.below (later_below wr x9)) hid4 (by omega)).mono ?_
      rintro e w5 ⟨out, xs, l5, v5, rfl, hF, hr, t5, o5, f5⟩
      have hxs : xs.Perm (four (fourA a0 a1 a2 a3) 4) := by
        have h1 := hF.filter hr
        rw [List.filter_eq_self.2 (fun y hy => by simpa using hdue y hy)] at h1
        exact h1.trans hp
      have hx4 : xs.length = 4 := by rw [hxs.length_eq, four_length]
      have hl5 : l5.length = 0 := by
        have := hF.perm.length_eq
        rw [List.length_append] at this
        omega
      obtain ⟨go, capo, rfl, hgo, hco⟩ := ownsRow_ints o5 (by omega)
      have HCO := Lib.hid hco
      clear hco
      rw [hx4]
      have hxid : ∀ i, i < 4 → ∃ q : Nat, q < 4 ∧ (atL xs i).id = q := fun i hi => hid4 _ (by
        have := (hxs.trans hp.symm).subset (mem_atL (l := xs) (i := i) (by omega))
        exact this)
      have hS5 : w5.heap[wa.heap.size]? = some (.cells #[.int .i64 a0, .int .i64 a1, .int .i64 a2, .int .i64 a3] 3 (0, 0)) := by
        have h1 := (later_below wr x9).block _ hSl
        refine (f5.block _ (Nat.lt_of_lt_of_le hSl (later_below wr x9).size) (by omega) (fun e => by have := hg _ e.symm; omega)).trans (h1.trans hS)
      have hAc : ∀ q, q < 4 → w5.cell? ⟨wa.heap.size, q, none⟩ = some (.int .i64 (fourA a0 a1 a2 a3 q)) := fun q hq => by
        rw [cell_of_row _ _ _ _ _ _ hS5]
        rcases (by omega : q = 0 ∨ q = 1 ∨ q = 2 ∨ q = 3) with rfl | rfl | rfl | rfl <;> rfl
      have HAC := Lib.hid hAc
      have hitem : ∀ j, j < 4 → ∃ q : Nat, q < 4 ∧ atL xs j = (⟨fourA a0 a1 a2 a3 q, (q + 1 : Nat), q⟩ : trIt) := fun j hj => by
        obtain ⟨q, hq, he⟩ := List.mem_map.1 (hxs.subset (mem_atL (l := xs) (i := j) (by omega)))
        exact ⟨q, List.mem_range.1 hq, he.symm⟩
      have hsort : ∀ j, j + 1 < 4 → trLt (atL xs (j + 1)) (atL xs j) = false := fun j hj => by
        have := List.pairwise_iff_getElem.1 hF.sorted j (j + 1) (by omega) (by omega) (by omega)
        rw [atL_eq (by omega), atL_eq (by omega)]
        exact this
      clear hAc hS5
      go_wp2_with fail
      go_loopw [19] (fun x wz => ∃ i : Nat, x = .int .i64 i ∧ i ≤ 4 ∧ wz = w5) (fun x _ => 4 - (intOf x).toNat)
      case atStart => exact ⟨0, rfl, by omega, rfl⟩
      case round =>
        obtain ⟨i, rfl, hi, hwz⟩ := hrel
        obtain rfl := hwz.symm
        by_cases hi4 : i < 4
        · obtain ⟨q, hq, hqe⟩ := hxid i hi4
          have ci := HCO.out i (by omega)
          rw [hqe] at ci
          have HQ := Lib.hid hqe
          have hq0 : ¬ (q : Int) < 0 := by omega
          have hq3 : ¬ 3 < (q : Int) := by omega
          clear hqe
          go_wp2
          go_roundw
          case rel => exact ⟨i + 1, by go_num, by omega, trivial⟩
          case measure => simp [intOf]; omega
        · obtain rfl : i = 4 := by omega
          go_wp2_with fail
          go_loopw [20] (fun x wz => ∃ i : Nat, x = .int .i64 i ∧ 1 ≤ i ∧ i ≤ 4 ∧ Bel w5.heap.size w5 wz) (fun x _ => 4 - (intOf x).toNat)
          case atStart => exact ⟨1, rfl, by omega, by omega, Bel.refl _⟩
          case round =>
            obtain ⟨i, rfl, hi1, hi4, hbz⟩ := hrel
            by_cases hi5 : i < 4
            · obtain ⟨p, rfl⟩ : ∃ p, i = p + 1 := ⟨i - 1, by omega⟩
              obtain ⟨q, hq, hqe⟩ := hitem p (by omega)
              obtain ⟨s, hs, hse⟩ := hitem (p + 1) (by omega)
              have hst := hsort p (by omega)
              rw [hqe, hse, trLt_false] at hst
              simp only at hst
              have c1 := (hbz.1.cell (p := ⟨go, p, none⟩) hgo).trans (HCO.out p (by omega))
              have c2 := (hbz.1.cell (p := ⟨go, p + 1, none⟩) hgo).trans (HCO.out (p + 1) (by omega))
              rw [hqe] at c1
              rw [hse] at c2
              simp only at c1 c2
              have d1 := (hbz.1.cell (p := ⟨wa.heap.size, q, none⟩) (block_lt_of_cell (HAC.out q hq))).trans (HAC.out q hq)
              have d2 := (hbz.1.cell (p := ⟨wa.heap.size, s, none⟩) (block_lt_of_cell (HAC.out s hs))).trans (HAC.out s hs)
              generalize fourA a0 a1 a2 a3 q = dq at *
              generalize fourA a0 a1 a2 a3 s = ds at *
              have hdlt : decide (ds < dq) = false := by simp; omega
              have e1 : ((p + 1 : Nat) : Int) - 1 = p := by omega
              have hgz : go < wr.heap.size := block_lt_of_cell c1
              have hwz : wa.heap.size < wr.heap.size := block_lt_of_cell d1
              have hp1 : p + 1 < 4 := hi5
              by_cases he : dq = ds
              · subst he
                have hqs : decide (s < q) = false := by simp; omega
                clear hst
                go_wp2_with fail
                refine wp_region_later (by kernel_rfl) (by kernel_rfl) ?_
                (repeat (go_big_quiet_step (fail)))
                refine wpQuiet_nil ?_
                intro _ hw'
                obtain ⟨x8, hw''⟩ := hw'
                subst hw''
                go_wp2
                exact ⟨⟨p + 2, by go_num, by omega, by omega, hbz.later⟩, by simp [intOf]; omega⟩
              · have hed : (dq == ds) = false := by simpa using he
                clear hst
                go_wp2_with fail
                refine wp_region_later (by kernel_rfl) (by kernel_rfl) ?_
                (repeat (go_big_quiet_step (fail)))
                refine wpQuiet_nil ?_
                intro _ hw'
                obtain ⟨x8, hw''⟩ := hw'
                subst hw''
                go_wp2
                exact ⟨⟨p + 2, by go_num, by omega, by omega, hbz.later⟩, by simp [intOf]; omega⟩
            · obtain rfl : i = 4 := by omega
              have ht9 := t5.below hbz.1
              have hl5' : (l5.length : Int) = 0 := by omega
              go_wp2_with fail
              refine (tmLen _ _ _ _ _ _ ht9).mono ?_
              rintro e w' ⟨rfl, rfl⟩
              rw [hl5']
              go_wp2_with fail
              refine (awake29 _).mono ?_
              rintro e w7 ⟨rfl, b7⟩
              go_wp2
              go_ret
              refine ⟨rfl, ?_⟩
              have hb5 : Bel w.heap.size w w5 := Bel.frm (hbel.later (x := x9)) f5 (Nat.le_refl _) (fun g hg' => Nat.le_of_lt (Nat.lt_trans hT0 (hg g hg')))
              have hb6 : Bel w.heap.size w wr := hb5.trans hbz (Nat.le_trans hbel.2 (Nat.le_trans (later_size _ _) f5.size))
              exact (hb6.of b7).1
end Go.Proofs.Ytjlhdbkhebfghaa
