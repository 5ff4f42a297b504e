/- The walk of hermitagelaw15.GmapStays: true at every input. -/
import Derived.Test.YtkicmdflflknaaaGmapRightsWalk
import Derived.StillTailTactics
namespace Go.Proofs.Ytkicmdflflknaaa
open Go.ChangeShapes Go.WideShapes Go.ChangeAt Go.RowKit
set_option linter.unusedVariables false

/-- The page k lies at (fr, ri). -/
def Stays (M : Nat → Int × Int) (k : Nat) (fr ri : Int) : Prop := M k = (fr, ri)

theorem Stays.drop {M : Nat → Int × Int} {k : Nat} {fr ri : Int} (h : Stays M k fr ri) (n : Int) (hn : (n == (k : Int)) = false) : Stays (dropNew M n) k fr ri := by
  unfold Stays dropNew at *
  split
  · rename_i hp
    have : 0 ≤ n := by simp [pageB] at hp; omega
    have hne : ¬ k = n.toNat := by simp at hn; omega
    simp [upd, hne, h]
  · exact h

theorem Stays.set {M : Nat → Int × Int} {k : Nat} {fr ri : Int} (h : Stays M k fr ri) (hri : 1 ≤ ri) (n f r : Int) : Stays (setNew M n f r) k fr ri := by
  unfold Stays setNew at *
  split
  · rename_i hp
    obtain ⟨hp, _, ht⟩ := hp
    have h0 : 0 ≤ n := by simp [pageB] at hp; omega
    by_cases he : k = n.toNat
    · rw [← he] at ht
      have : ¬ ri = 0 := by omega
      simp [isThere, h, this] at ht
    · simp [upd, he, h]
  · exact h

set_option maxRecDepth 100000 in
set_option maxHeartbeats 2000000 in
theorem gmapStays_core (k : Nat) (hk : k < 12) (fr ri : Int) (a0 : Int) (e0 : a0 % 12 = k) (b0 : 0 ≤ a0) (b0' : a0 ≤ 255)
    (p2 : Option Addr) (n2 c2 : Nat) (f2 : Nat → List Value) (p3 : Option Addr) (n3 c3 : Nat) (f3 : Nat → List Value) (p4 : Option Addr) (n4 c4 : Nat) (f4 : Nat → List Value) (w : World)
    (w2 : SliceOk [some .u8] w p2 n2 c2 f2) (w3 : SliceOk [some .i64] w p3 n3 c3 f3) (w4 : SliceOk [some .i64, some .i64] w p4 n4 c4 f4) :
    Calls Try.prog 4 #[.int .u8 a0, .agg #[.int .i64 fr, .int .i64 ri], .slice p2 n2 c2, .slice p3 n3 c3, .slice p4 n4 c4] w fun e w' => e = .returned (.bool true) ∧ Below w.heap.size w w' := by
  have p1 := pageB_nat hk
  cases hq : placeB fr ri with
  | false =>
    have s1 : setRes zeroMap k fr ri = 1 := by simp [setRes, hq]
    have s2 : setNew zeroMap k fr ri = zeroMap := by unfold setNew; rw [if_neg (by simp [hq])]
    have g1 : getT zeroMap k = false := by simp [getT, isThere, zeroMap]
    have l1 : allowsI zeroMap k 1 = 7 := by simp [allowsI, g1]
    have Hm := Lib.hid s2
    clear s2 w2 w3 w4
    go_enter Try.func4, Try.ntmps4
    go_wp2_with fail
    refine (new_map' _).mono ?_
    rintro e w' ⟨rfl, x0, rfl, hm0⟩
    simp at hm0
    go_wp2_with fail
    refine (Calls.latB (set_any _ _ k fr ri _ hm0)).mono ?_
    rintro e w' ⟨rfl, x1, rfl, hm1⟩
    rw [Hm.out] at hm1
    go_wp2_with fail
    refine (Calls.lat (get_any _ _ k _ hm1)).mono ?_
    rintro e w' ⟨rfl, x2, rfl⟩
    go_wp2_with fail
    refine (Calls.lat (allows_any _ _ k 1 _ hm1.later.alloc)).mono ?_
    rintro e w' ⟨rfl, x3, rfl⟩
    go_wp2_with fail
    refine (Calls.lat (awake15 _)).mono ?_
    rintro e w' ⟨rfl, x4, rfl⟩
    go_wp2_with fail
    go_ret
    exact ⟨rfl, (by refine (?_ : Bel _ _ _).1; repeat (first | exact hbel | exact Bel.refl _ | apply Bel.later | apply Bel.alloc | apply Bel.drew | (refine Bel.laterB ?_ (by first | omega | (simp; omega) | simp))))⟩
  | true =>
    have hb : 1 ≤ ri := by simp [placeB] at hq; omega
    have s1 : setRes zeroMap k fr ri = 0 := by simp [setRes, p1, hq]; rfl
    have s2 : setNew zeroMap k fr ri = upd zeroMap k (fr, ri) := by unfold setNew; rw [if_pos ⟨p1, hq, rfl⟩]; rfl
    have Hm := Lib.hid s2
    clear s2
    go_enter Try.func4, Try.ntmps4
    go_wp2_with fail
    refine (new_map' _).mono ?_
    rintro e w' ⟨rfl, x0, rfl, hm0⟩
    simp at hm0
    go_wp2_with fail
    refine (Calls.latB (set_any _ _ k fr ri _ hm0)).mono ?_
    rintro e w' ⟨rfl, x1, rfl, hm1⟩
    rw [Hm.out] at hm1
    go_wp2_with fail
    clear s1
    go_loopw [15] (fun iv wr => ∃ (i : Nat) (M : Nat → Int × Int), i ≤ 60 ∧ iv = .int .i64 i ∧ Bel w.heap.size w wr ∧ wr.cell? ⟨w.heap.size, 0, none⟩ = some (.int .i64 fr) ∧ wr.cell? ⟨w.heap.size, 1, none⟩ = some (.int .i64 ri) ∧ w.heap.size + 1 < wr.heap.size ∧ MapAt wr (w.heap.size + 1) M ∧ Stays M k fr ri) (fun iv _ => 60 - (intOf iv).toNat)
    case atStart =>
      refine ⟨0, _, Nat.zero_le _, rfl, (by repeat (first | exact hbel | exact Bel.refl _ | apply Bel.later | apply Bel.alloc | apply Bel.drew | (refine Bel.laterB ?_ (by first | omega | (simp; omega) | simp)))), by simp [go_sem], by simp [go_sem], ?_, hm1, by simp [Stays, upd]⟩
      exact hm1.lt
    case round =>
      obtain ⟨i, M, hi, rfl, hbel, q0, q1, hsz, hmap, hst⟩ := hrel
      have hsz' : w.heap.size < wr.heap.size := by omega
      clear hm1 hm0 hq p1
      by_cases hall : i < n2 ∧ i < n3 ∧ i < n4 ∧ i < 60
      · obtain ⟨i2, i3, i4, i60⟩ := hall
        obtain ⟨b2, o2, kd, rfl, l2, _, wkd, q2⟩ := w2.int1 i2
        obtain ⟨b3, o3, pg, rfl, l3, _, _, q3⟩ := w3.int1 i3
        obtain ⟨b4, o4, pf, pr, rfl, l4, _, _, _, q4, q5⟩ := w4.int2 i4
        have r2 : wr.cell? ⟨b2, o2 + i, none⟩ = some (.int .u8 kd) := (hbel.1.cell (p := ⟨b2, o2 + i, none⟩) l2).trans q2
        have r3 : wr.cell? ⟨b3, o3 + i, none⟩ = some (.int .i64 pg) := (hbel.1.cell (p := ⟨b3, o3 + i, none⟩) l3).trans q3
        have r4 : wr.cell? ⟨b4, o4 + i * 2, none⟩ = some (.int .i64 pf) := (hbel.1.cell (p := ⟨b4, o4 + i * 2, none⟩) l4).trans q4
        have r5 : wr.cell? ⟨b4, o4 + i * 2 + 1, none⟩ = some (.int .i64 pr) := (hbel.1.cell (p := ⟨b4, o4 + i * 2 + 1, none⟩) l4).trans q5
        clear q2 q3 q4 q5 w2 w3 w4
        have bkd := bounds_u8 wkd
        obtain ⟨bk0, bk1⟩ := bkd
        clear wkd
        cases he : (kd % 2 == 0) with
        | true =>
          cases hp : (pg == (k : Int)) with
          | true =>
            go_wp2_with fail
            go_roundw
            case rel => exact ⟨i + 1, M, by omega, by go_num, hbel, q0, q1, hsz, hmap, hst⟩
            case measure => simp [intOf]; omega
          | false =>
            have hst' := hst.drop pg hp
            have g1 : getF (dropNew M pg) k = fr := by simp [getF, pageB_nat hk, show dropNew M pg k = (fr, ri) from hst']
            have g2 : getR (dropNew M pg) k = ri := by simp [getR, pageB_nat hk, show dropNew M pg k = (fr, ri) from hst']
            have g3 : getT (dropNew M pg) k = true := by
              have : ¬ ri = 0 := by omega
              simp [getT, pageB_nat hk, isThere, show dropNew M pg k = (fr, ri) from hst', this]
            go_wp2_with fail
            refine (Calls.latB (drop_any _ _ pg _ hmap)).mono ?_
            rintro e w' ⟨rfl, y1, rfl, hmap1⟩
            go_wp2_with fail
            refine (Calls.lat (get_any _ _ k _ hmap1)).mono ?_
            rintro e w' ⟨rfl, y2, rfl⟩
            go_wp2_with fail
            go_roundw
            case rel => exact ⟨i + 1, _, by omega, by go_num, (by repeat (first | exact hbel | exact Bel.refl _ | apply Bel.later | apply Bel.alloc | apply Bel.drew | (refine Bel.laterB ?_ (by first | omega | (simp; omega) | simp)))), by simp [go_sem, hsz', q0], by simp [go_sem, hsz', q1], hmap1.later.alloc.lt, hmap1.later.alloc, hst'⟩
            case measure => simp [intOf]; omega
        | false =>
          have hst' := hst.set hb pg pf pr
          have g1 : getF (setNew M pg pf pr) k = fr := by simp [getF, pageB_nat hk, show setNew M pg pf pr k = (fr, ri) from hst']
          have g2 : getR (setNew M pg pf pr) k = ri := by simp [getR, pageB_nat hk, show setNew M pg pf pr k = (fr, ri) from hst']
          have g3 : getT (setNew M pg pf pr) k = true := by
            have : ¬ ri = 0 := by omega
            simp [getT, pageB_nat hk, isThere, show setNew M pg pf pr k = (fr, ri) from hst', this]
          have hp : (pg == (k : Int)) = true ∨ (pg == (k : Int)) = false := by cases (pg == (k : Int)) <;> simp
          rcases hp with hp | hp
          all_goals
            go_wp2_with fail
            go_still_tail 9, (by kernel_rfl)
            change wpList _ _ _ _ _ wr.drew
            go_wp2_with fail
            refine (Calls.latB (set_any _ _ pg pf pr _ (show MapAt wr.drew _ _ from hmap))).mono ?_
            rintro e w' ⟨rfl, y1, rfl, hmap1⟩
            go_wp2_with fail
            refine (Calls.lat (get_any _ _ k _ hmap1)).mono ?_
            rintro e w' ⟨rfl, y2, rfl⟩
            go_wp2_with fail
            go_roundw
            case rel => exact ⟨i + 1, _, by omega, by go_num, (by repeat (first | exact hbel | exact Bel.refl _ | apply Bel.later | apply Bel.alloc | apply Bel.drew | (refine Bel.laterB ?_ (by first | omega | (simp; omega) | simp)))), by simp [go_sem, hsz', q0], by simp [go_sem, hsz', q1], hmap1.later.alloc.lt, hmap1.later.alloc, hst'⟩
            case measure => simp [intOf]; omega
      · have d1 : dropRes M k = 0 := by
          have : ¬ ri = 0 := by omega
          simp [dropRes, pageB_nat hk, isThere, show M k = (fr, ri) from hst, this]
        have g3 : getT (dropNew M k) k = false := by simp [getT, dropNew, pageB_nat hk, isThere, upd]
        have g1 : getF (dropNew M k) k = 0 := by simp [getF, dropNew, pageB_nat hk, upd]
        have g2 : getR (dropNew M k) k = 0 := by simp [getR, dropNew, pageB_nat hk, upd]
        have a1 : allowsI (dropNew M k) k 1 = 7 := by simp [allowsI, g3]
        clear w2 w3 w4
        have hcase : ¬ i < n2 ∨ (i < n2 ∧ ¬ i < n3) ∨ (i < n2 ∧ i < n3 ∧ ¬ i < n4) ∨ (i < n2 ∧ i < n3 ∧ i < n4 ∧ ¬ i < 60) := by omega
        clear hall
        rcases hcase with h | ⟨h, h'⟩ | ⟨h, h', h''⟩ | ⟨h, h', h'', h'''⟩
        all_goals
          go_wp2_with fail
          refine (Calls.latB (drop_any _ _ k _ hmap)).mono ?_
          rintro e w' ⟨rfl, y1, rfl, hmap1⟩
          go_wp2_with fail
          refine (Calls.lat (get_any _ _ k _ hmap1)).mono ?_
          rintro e w' ⟨rfl, y2, rfl⟩
          go_wp2_with fail
          refine (Calls.lat (allows_any _ _ k 1 _ hmap1.later.alloc)).mono ?_
          rintro e w' ⟨rfl, y3, rfl⟩
          go_wp2_with fail
          refine (Calls.lat (awake15 _)).mono ?_
          rintro e w' ⟨rfl, y4, rfl⟩
          go_wp2_with fail
          go_ret
          exact ⟨rfl, (by refine (?_ : Bel _ _ _).1; repeat (first | exact hbel | exact Bel.refl _ | apply Bel.later | apply Bel.alloc | apply Bel.drew | (refine Bel.laterB ?_ (by first | omega | (simp; omega) | simp))))⟩

theorem gmapStays_walk (a0 : Int) (l1 : List Value) (p2 : Option Addr) (n2 c2 : Nat) (f2 : Nat → List Value) (p3 : Option Addr) (n3 c3 : Nat) (f3 : Nat → List Value) (p4 : Option Addr) (n4 c4 : Nat) (f4 : Nat → List Value) (w : World) (w0 : (Lit.int .u8 a0).wf = true) (w1 : rowOk [some .i64, some .i64] l1) (w2 : SliceOk [some .u8] w p2 n2 c2 f2) (hR2 : c2 * 1 ≤ 140737488351232) (w3 : SliceOk [some .i64] w p3 n3 c3 f3) (hR3 : c3 * 8 ≤ 140737488351232) (w4 : SliceOk [some .i64, some .i64] w p4 n4 c4 f4) (hR4 : c4 * 16 ≤ 140737488351232) :
    Calls Try.prog 4 #[.int .u8 a0, .agg l1.toArray, .slice p2 n2 c2, .slice p3 n3 c3, .slice p4 n4 c4] w fun e w' => e = .returned (.bool true) ∧ Below w.heap.size w w' := by
  obtain ⟨fr, r, rfl, _, w1⟩ := rowOk_int w1
  obtain ⟨ri, r, rfl, _, w1⟩ := rowOk_int w1
  obtain rfl := rowOk_nil w1
  have b0 := bounds_u8 w0
  exact gmapStays_core (a0 % 12).toNat (by omega) fr ri a0 (by omega) b0.1 b0.2 p2 n2 c2 f2 p3 n3 c3 f3 p4 n4 c4 f4 w w2 w3 w4

end Go.Proofs.Ytkicmdflflknaaa
