/- The walk of hermitagelaw32.SlotsRound: true at every table and step. -/
import Derived.Test.YtkicmdflflknaaaS32a
namespace Go.Proofs.Ytkicmdflflknaaa
open Go.ChangeShapes Go.WideShapes Go.ChangeAt Go.RowKit
set_option linter.unusedVariables false

theorem StepAt.next {L : Nat → Int × Int} {m : Nat} {n q : Int} {i : Nat} {off : Int} (h : StepAt L m n q i off) : StepAt L m (n + sumB L m) (q + 1) i off := by
  obtain ⟨h1, h2, h3, h4, h5⟩ := h
  refine ⟨h1, h2, h3, by omega, ?_⟩
  rw [Int.add_mul, h5]
  omega

set_option maxRecDepth 100000 in
set_option maxHeartbeats 2000000 in
theorem slotsRound_walk (p0 : Option Addr) (m c0 : Nat) (f0 : Nat → List Value) (a1 : Int) (w : World) (w0 : SliceOk [some .i64, some .i64] w p0 m c0 f0) (hR0 : c0 * 16 ≤ 140737488351232) (w1 : (Lit.int .u32 a1).wf = true) :
    Calls Try.prog 9 #[.slice p0 m c0, .int .u32 a1] w fun e w' => e = .returned (.bool true) ∧ Below w.heap.size w w' := by
  have b1 := bounds_u32 w1
  obtain ⟨b1, b1'⟩ := b1
  obtain ⟨L, hL⟩ := HasSlots.of_ok w0
  clear w0 hR0 w1
  go_enter Try.func9, Try.ntmps9
  go_wp2_with fail
  refine (new_any _ _ _ L _ hL).mono ?_
  rintro e wa ⟨hba, ⟨hok, t, g, cap, rfl, ht⟩ | ⟨hn, rfl⟩⟩
  · have hbela : Bel w.heap.size w wa := Bel.of (Bel.refl w) hba
    have hsum := sumB_bound hok.2.2 m (Nat.le_refl _)
    have hm1 := hok.1
    have hm8 := hok.2.1
    have ht0 : 0 ≤ sumB L m := by omega
    have ht1 : sumB L m ≤ 256 := by omega
    obtain ⟨q, i, off, hst⟩ := StepAt.find hok.2.2 hm1 a1 b1
    have hst2 := hst.next
    have him := hst.1
    have hq0 : 0 ≤ q := hst.2.2.2.1
    have hq1 : q ≤ 4294967295 := by
      have h1 := (hst.parts hok.2.2).2.2
      have h2 : a1 / sumB L m ≤ a1 := Int.ediv_le_self _ b1
      omega
    have s4 := shares_sum hok.2.2 m (Nat.le_refl _)
    have sp := share_pos hok.2.2 i m (Nat.le_refl _) him
    have r0 := shareB_bound 0 hok.2.2 m (Nat.le_refl _)
    have r1 := shareB_bound 1 hok.2.2 m (Nat.le_refl _)
    have r2 := shareB_bound 2 hok.2.2 m (Nat.le_refl _)
    have r3 := shareB_bound 3 hok.2.2 m (Nat.le_refl _)
    obtain ⟨r01, r02⟩ := r0
    obtain ⟨r11, r12⟩ := r1
    obtain ⟨r21, r22⟩ := r2
    obtain ⟨r31, r32⟩ := r3
    have S4 := Lib.hid s4
    clear hsum s4
    go_wp2_with fail
    refine (Calls.lat (tat _ _ _ _ _ _ q i off _ ht hok hst (by omega))).mono ?_
    rintro e w' ⟨rfl, x1, rfl⟩
    go_wp2_with fail
    refine (Calls.lat (tperiod _ _ _ _ _ _ ht.later.alloc hok)).mono ?_
    rintro e w' ⟨rfl, x2, rfl⟩
    go_wp2_with fail
    refine (Calls.lat (tat _ _ _ _ _ _ (q + 1) i off _ ht.later.alloc.later hok hst2 (by omega))).mono ?_
    rintro e w' ⟨rfl, x3, rfl⟩
    go_wp2_with fail
    refine wp_loop_rounds 5 ?_
    rw [rounds_succ]
    go_wp2_with fail
    refine (Calls.lat (tshare _ _ _ _ _ 0 _ (by repeat (first | exact ht | apply TabAt.later | apply TabAt.alloc)) hok)).mono ?_
    rintro e w' ⟨rfl, x4, rfl⟩
    go_wp2_with (rw [rounds_succ])
    refine (Calls.lat (tshare _ _ _ _ _ 1 _ (by repeat (first | exact ht | apply TabAt.later | apply TabAt.alloc)) hok)).mono ?_
    rintro e w' ⟨rfl, x5, rfl⟩
    go_wp2_with (rw [rounds_succ])
    refine (Calls.lat (tshare _ _ _ _ _ 2 _ (by repeat (first | exact ht | apply TabAt.later | apply TabAt.alloc)) hok)).mono ?_
    rintro e w' ⟨rfl, x6, rfl⟩
    go_wp2_with (rw [rounds_succ])
    refine (Calls.lat (tshare _ _ _ _ _ 3 _ (by repeat (first | exact ht | apply TabAt.later | apply TabAt.alloc)) hok)).mono ?_
    rintro e w' ⟨rfl, x7, rfl⟩
    have s4 := S4.out
    go_wp2_with (rw [rounds_succ])
    refine (Calls.lat (tperiod _ _ _ _ _ _ (by repeat (first | exact ht | apply TabAt.later | apply TabAt.alloc)) hok)).mono ?_
    rintro e w' ⟨rfl, x8, rfl⟩
    go_wp2_with fail
    refine (Calls.lat (tshare _ _ _ _ _ (L i).1 _ (by repeat (first | exact ht | apply TabAt.later | apply TabAt.alloc)) hok)).mono ?_
    rintro e w' ⟨rfl, x9, rfl⟩
    go_wp2_with fail
    refine (Calls.lat (awake32 _)).mono ?_
    rintro e w' ⟨rfl, x10, rfl⟩
    go_wp2_with fail
    go_ret
    have hbel := hbela
    exact ⟨rfl, (by refine (?_ : Bel _ _ _).1; repeat (first | exact hbel | exact Bel.refl _ | apply Bel.later | apply Bel.alloc | apply Bel.drew | (refine Bel.laterB ?_ (by first | exact Nat.le_refl _ | omega | (simp; omega) | simp)) | (refine Bel.setCell ?_ (by first | exact Nat.le_refl _ | omega | (simp; omega) | simp))))⟩
  · go_wp2_with fail
    refine (Calls.lat (awake32 _)).mono ?_
    rintro e w' ⟨rfl, x1, rfl⟩
    have hbel : Bel w.heap.size w wa := Bel.of (Bel.refl w) hba
    go_wp2_with fail
    go_ret
    exact ⟨rfl, (by refine (?_ : Bel _ _ _).1; repeat (first | exact hbel | exact Bel.refl _ | apply Bel.later | apply Bel.alloc | apply Bel.drew | (refine Bel.laterB ?_ (by first | exact Nat.le_refl _ | omega | (simp; omega) | simp)) | (refine Bel.setCell ?_ (by first | exact Nat.le_refl _ | omega | (simp; omega) | simp))))⟩

end Go.Proofs.Ytkicmdflflknaaa
