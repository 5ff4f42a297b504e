/- Rings of one way: Recv, and the reference's, at a frame that is there. -/
import Derived.Test.YtoigfpepdfbnkaaOwy
namespace Go.Proofs.Ytoigfpepdfbnkaa
open Go.ChangeShapes Go.WideShapes Go.ChangeAt Go.RowKit
set_option linter.unusedVariables false

theorem behind_is (n L : Int) (w : World) (h0 : 0 ≤ n) (h1 : n ≤ 4294967295) (hL : (if 8 < n then n - 8 else 0) = L) :
    Calls Try.prog 43 #[.int .u32 n] w fun e w' => e = .returned (.int .u32 L) ∧ w = w' := by
  subst hL
  exact behind_at n w h0 h1

set_option maxHeartbeats 1000000 in
theorem recv_in (s fb n F : Nat) (next : Int) (G : Nat → Int) (w : World) (h : StoAt w s fb n G) (hF : F < n) (h0 : 0 ≤ next) (h1 : next ≤ 4294967295) :
    Calls Try.prog 29 #[.pointer (some ⟨s, 0, none⟩), .int .i64 F, .int .u32 next] w fun e w' => e = .returned (.tuple #[gotV G F next, .int .i64 0]) ∧ Below w.heap.size w w' := by
  have hb := hd_bound h.2.2.2 F
  obtain ⟨hb0, hb1⟩ := hb
  obtain ⟨H, hH⟩ : ∃ H, hd G F = H := ⟨_, rfl⟩
  unfold gotV
  rw [hH] at hb0 hb1 ⊢
  have HH := Lib.hid hH
  clear hH
  by_cases hne : H = next
  · subst hne
    rw [if_pos rfl]
    go_enter Try.func29, Try.ntmps29
    go_wp2_with fail
    refine (Calls.lat (head_in s fb n F G _ h.alloc hF)).mono ?_
    rintro e w' ⟨rfl, x, rfl⟩
    rw [HH.out]
    go_wp2
    exact bodyPost_ret (v := .tuple #[.agg #[.int .u32 0, .int .u32 H, .int .u32 0, .bool false], .int .i64 0]) (by simp [results, Try.results29, go_sem]) rfl ⟨rfl, ((((((Bel.refl w).alloc.later).setCell (p := ⟨w.heap.size, 0, none⟩) (Nat.le_refl _)).setCell (p := ⟨w.heap.size, 1, none⟩) (Nat.le_refl _)).setCell (p := ⟨w.heap.size, 2, none⟩) (Nat.le_refl _)).setCell (p := ⟨w.heap.size, 3, none⟩) (Nat.le_refl _)).1⟩
  · rw [if_neg hne]
    have heq : (H == next) = false := by simpa using hne
    have hgp : 0 ≤ gapN H next ∧ gapN H next ≤ 4294967295 := by unfold gapN; omega
    obtain ⟨L, hL⟩ : ∃ L, lostN H next = L := ⟨_, rfl⟩
    have hL2 : (if 8 < (H - next) % 4294967296 then (H - next) % 4294967296 - 8 else 0) = L := hL
    have hLb : 0 ≤ L ∧ L ≤ 4294967295 := by rw [← hL]; unfold lostN; split <;> omega
    obtain ⟨FR, hFR⟩ : ∃ FR, fromN H next = FR := ⟨_, rfl⟩
    have hFR2 : (next + L) % 4294967296 = FR := by rw [← hL]; exact hFR
    have hFb : 0 ≤ FR ∧ FR ≤ 4294967295 := by omega
    obtain ⟨hFb0, hFb1⟩ := hFb
    obtain ⟨hLb0, hLb1⟩ := hLb
    unfold wdI
    have hpl := plN_int hFb0
    have hpl2 := plN_le FR
    rw [hFR, hL]
    obtain ⟨A, hA⟩ : ∃ A, plN FR = A := ⟨_, rfl⟩
    rw [hA] at hpl hpl2 ⊢
    have HP := Lib.hid hpl
    have HL := Lib.hid hL2
    have HFR := Lib.hid hFR2
    clear hgp hL hL2 hFR hFR2 hpl hA hne
    go_enter Try.func29, Try.ntmps29
    go_wp2_with fail
    refine (Calls.lat (head_in s fb n F G _ h.alloc hF)).mono ?_
    rintro e w' ⟨rfl, x, rfl⟩
    rw [HH.out]
    go_wp2_with fail
    refine (behind_is _ L _ (by omega) (by omega) HL.out).mono ?_
    rintro e w' ⟨rfl, rfl⟩
    go_wp2_with fail
    rw [HFR.out]
    refine (place_at FR A _ hFb0 hFb1 HP.out).mono ?_
    rintro e w' ⟨rfl, rfl⟩
    go_wp2_with fail
    refine (Calls.lat (load_in s fb n F A 4 G _ h.alloc.later hF (by omega) hpl2)).mono ?_
    rintro e w' ⟨rfl, x2, rfl⟩
    go_wp2
    exact bodyPost_ret (v := .tuple #[.agg #[.int .u32 (getV (fr G F) A 4), .int .u32 ((FR + 1) % 4294967296), .int .u32 L, .bool true], .int .i64 0]) (by simp [results, Try.results29, go_sem]) rfl ⟨rfl, (((((((Bel.refl w).alloc.later).later).setCell (p := ⟨w.heap.size, 0, none⟩) (Nat.le_refl _)).setCell (p := ⟨w.heap.size, 1, none⟩) (Nat.le_refl _)).setCell (p := ⟨w.heap.size, 2, none⟩) (Nat.le_refl _)).setCell (p := ⟨w.heap.size, 3, none⟩) (Nat.le_refl _)).1⟩

set_option maxHeartbeats 1000000 in
theorem rrecv_in (t rb n F : Nat) (next : Int) (G : Nat → Int) (w : World) (h : RStoAt w t rb n G) (hF : F < n) (h0 : 0 ≤ next) (h1 : next ≤ 4294967295) :
    Calls Try.prog 33 #[.pointer (some ⟨t, 0, none⟩), .int .i64 F, .int .u32 next] w fun e w' => e = .returned (.tuple #[gotV G F next, .int .i64 0]) ∧ Below w.heap.size w w' := by
  have hb := hd_bound h.2.1 F
  obtain ⟨hb0, hb1⟩ := hb
  obtain ⟨H, hH⟩ : ∃ H, hd G F = H := ⟨_, rfl⟩
  unfold gotV
  rw [hH] at hb0 hb1 ⊢
  have HH := Lib.hid hH
  clear hH
  by_cases hne : H = next
  · subst hne
    rw [if_pos rfl]
    go_enter Try.func33, Try.ntmps33
    go_wp2_with fail
    refine (rhead_in t rb n F G _ h.alloc hF).mono ?_
    rintro e w' ⟨rfl, rfl⟩
    rw [HH.out]
    go_wp2
    exact bodyPost_ret (v := .tuple #[.agg #[.int .u32 0, .int .u32 H, .int .u32 0, .bool false], .int .i64 0]) (by simp [results, Try.results33, go_sem]) rfl ⟨rfl, (by refine (?_ : Bel _ _ _).1; repeat (first | exact hbel | exact Bel.refl _ | apply Bel.later | apply Bel.alloc | apply Bel.drew | (refine Bel.laterB ?_ (by first | exact Nat.le_refl _ | omega | (simp; omega) | simp)) | (refine Bel.setCell ?_ (by first | exact Nat.le_refl _ | omega | (simp; omega) | simp))))⟩
  · rw [if_neg hne]
    have hgp : ((H - next) % 4294967296 == 0) = false := by
      rw [beq_eq_false_iff_ne]
      omega
    have hgb : 0 ≤ gapN H next ∧ gapN H next ≤ 4294967295 := by unfold gapN; omega
    obtain ⟨hgb0, hgb1⟩ := hgb
    obtain ⟨D, hD⟩ : ∃ D, gapN H next = D := ⟨_, rfl⟩
    have hD2 : (H - next) % 4294967296 = D := hD
    have hDL : lostN H next = if 8 < D then D - 8 else 0 := by unfold lostN; rw [hD]
    have hFRd : fromN H next = (next + lostN H next) % 4294967296 := rfl
    rw [hD2] at hgp
    rw [hD] at hgb0 hgb1
    clear hne hD
    have hD0 : (D == 0) = false := hgp
    clear hgp
    by_cases h8 : 8 < D
    case' pos =>
      rw [if_pos h8] at hDL
      obtain ⟨L, hL⟩ : ∃ L, D - 8 = L := ⟨_, rfl⟩
      rw [hL] at hDL
      have hLb0 : 0 ≤ L := by omega
      have hLb1 : L ≤ 4294967295 := by omega
    case' neg =>
      rw [if_neg h8] at hDL
      obtain ⟨L, hL⟩ : ∃ L : Int, 0 = L := ⟨_, rfl⟩
      rw [hL] at hDL
      have hLb0 : 0 ≤ L := by omega
      have hLb1 : L ≤ 4294967295 := by omega
    all_goals
      rw [hDL] at hFRd ⊢
      obtain ⟨FR, hFR⟩ : ∃ FR, (next + L) % 4294967296 = FR := ⟨_, rfl⟩
      rw [hFR] at hFRd
      rw [hFRd]
      have hFb0 : 0 ≤ FR := by omega
      have hFb1 : FR ≤ 4294967295 := by omega
      have hmod : next % 4294967296 = next := Int.emod_eq_of_lt h0 (by omega)
      unfold wdI
      have hpl := plN_int hFb0
      have hpl2 := plN_le FR
      obtain ⟨A, hA⟩ : ∃ A, plN FR = A := ⟨_, rfl⟩
      rw [hA] at hpl hpl2 ⊢
      have HP := Lib.hid hpl
      clear hpl hA hFRd hDL
    case' pos =>
      have HL := Lib.hid hL
      have HFR := Lib.hid hFR
      clear hL hFR
      go_enter Try.func33, Try.ntmps33
      go_wp2_with fail
      refine (rhead_in t rb n F G _ h.alloc hF).mono ?_
      rintro e w' ⟨rfl, rfl⟩
      rw [HH.out]
      have hL := HL.out
      have hFR := HFR.out
    case' neg =>
      subst hL
      have hFR2 : next = FR := by rw [← hFR]; simpa using hmod.symm
      subst hFR2
      clear hFR
      go_enter Try.func33, Try.ntmps33
      go_wp2_with fail
      refine (rhead_in t rb n F G _ h.alloc hF).mono ?_
      rintro e w' ⟨rfl, rfl⟩
      rw [HH.out]
    all_goals
      go_wp2_with fail
      refine (rplace_at _ A _ (by omega) (by omega) HP.out).mono ?_
      rintro e w' ⟨rfl, rfl⟩
      go_wp2_with fail
      refine (rload_in t rb n F A 4 G _ h.alloc.alloc hF (by omega) hpl2).mono ?_
      rintro e w' ⟨rfl, rfl⟩
      go_wp2
    · exact bodyPost_ret (v := .tuple #[.agg #[.int .u32 (getV (fr G F) A 4), .int .u32 ((next + 1) % 4294967296), .int .u32 0, .bool true], .int .i64 0]) (by simp [results, Try.results33, go_sem]) rfl ⟨rfl, (by refine (?_ : Bel _ _ _).1; repeat (first | exact hbel | exact Bel.refl _ | apply Bel.later | apply Bel.alloc | apply Bel.drew | (refine Bel.laterB ?_ (by first | exact Nat.le_refl _ | omega | (simp; omega) | simp)) | (refine Bel.setCell ?_ (by first | exact Nat.le_refl _ | omega | (simp; omega) | simp))))⟩
    · exact bodyPost_ret (v := .tuple #[.agg #[.int .u32 (getV (fr G F) A 4), .int .u32 ((FR + 1) % 4294967296), .int .u32 L, .bool true], .int .i64 0]) (by simp [results, Try.results33, go_sem]) rfl ⟨rfl, (by refine (?_ : Bel _ _ _).1; repeat (first | exact hbel | exact Bel.refl _ | apply Bel.later | apply Bel.alloc | apply Bel.drew | (refine Bel.laterB ?_ (by first | exact Nat.le_refl _ | omega | (simp; omega) | simp)) | (refine Bel.setCell ?_ (by first | exact Nat.le_refl _ | omega | (simp; omega) | simp))))⟩

end Go.Proofs.Ytoigfpepdfbnkaa
