/- Rings of one way: contracts of oneway and of its reference at a frame that is there. -/
import Derived.Test.YtoigfpepdfbnkaaFrS
namespace Go.Proofs.Ytoigfpepdfbnkaa
open Go.ChangeShapes Go.WideShapes Go.ChangeAt Go.RowKit
set_option linter.unusedVariables false

/-- How many words were ever sent. -/
def hd (G : Nat → Int) (F : Nat) : Int := getV (fr G F) 0 4
theorem hd_bound {G : Nat → Int} (h : Byt G) (F : Nat) : 0 ≤ hd G F ∧ hd G F ≤ 4294967295 := by
  have := getV_bound (fr_byt h F) 0 4
  unfold hd
  omega
def plN (i : Int) : Nat := 4 + 4 * (i.toNat % 8)
theorem plN_int {i : Int} (h : 0 ≤ i) : (4 + 4 * (i % 8) : Int) = plN i := by unfold plN; omega
theorem plN_le (i : Int) : plN i + 4 ≤ 64 := by unfold plN; omega
/-- The word of a place. -/
def wdI (G : Nat → Int) (F : Nat) (i : Int) : Int := getV (fr G F) (plN i) 4
theorem wdI_bound {G : Nat → Int} (h : Byt G) (F : Nat) (i : Int) : 0 ≤ wdI G F i ∧ wdI G F i ≤ 4294967295 := by
  have := getV_bound (fr_byt h F) (plN i) 4
  unfold wdI
  omega
def gapN (h next : Int) : Int := (h - next) % 4294967296
def lostN (h next : Int) : Int := if 8 < gapN h next then gapN h next - 8 else 0
def fromN (h next : Int) : Int := (next + lostN h next) % 4294967296
def sendG (G : Nat → Int) (F : Nat) (v : Int) : Nat → Int := putF (putF G (F * 64 + plN (hd G F)) 4 v) (F * 64 + 0) 4 ((hd G F + 1) % 4294967296)
/-- What is received. -/
def gotV (G : Nat → Int) (F : Nat) (next : Int) : Value :=
  if hd G F = next then .agg #[.int .u32 0, .int .u32 next, .int .u32 0, .bool false]
  else .agg #[.int .u32 (wdI G F (fromN (hd G F) next)), .int .u32 ((fromN (hd G F) next + 1) % 4294967296), .int .u32 (lostN (hd G F) next), .bool true]

theorem place_at (i : Int) (a : Nat) (w : World) (h0 : 0 ≤ i) (h1 : i ≤ 4294967295) (h : (4 + 4 * (i % 8) : Int) = a) :
    Calls Try.prog 42 #[.int .u32 i] w fun e w' => e = .returned (.int .i64 a) ∧ w = w' := by
  have H := Lib.hid h
  clear h
  go_enter Try.func42, Try.ntmps42
  go_wp2
  go_ret
  exact ⟨ret_int H.out, rfl⟩
theorem rplace_at (i : Int) (a : Nat) (w : World) (h0 : 0 ≤ i) (h1 : i ≤ 4294967295) (h : (4 + 4 * (i % 8) : Int) = a) :
    Calls Try.prog 44 #[.int .u32 i] w fun e w' => e = .returned (.int .i64 a) ∧ w = w' := by
  have H := Lib.hid h
  clear h
  go_enter Try.func44, Try.ntmps44
  go_wp2
  go_ret
  exact ⟨ret_int H.out, rfl⟩
theorem behind_at (n : Int) (w : World) (h0 : 0 ≤ n) (h1 : n ≤ 4294967295) :
    Calls Try.prog 43 #[.int .u32 n] w fun e w' => e = .returned (.int .u32 (if 8 < n then n - 8 else 0)) ∧ w = w' := by
  by_cases h : 8 < n
  · rw [if_pos h]
    go_enter Try.func43, Try.ntmps43
    go_wp2
    go_ret
    exact ⟨rfl, rfl⟩
  · rw [if_neg h]
    go_enter Try.func43, Try.ntmps43
    go_wp2
    go_ret
    exact ⟨rfl, rfl⟩
theorem head_in (s fb n F : Nat) (G : Nat → Int) (w : World) (h : StoAt w s fb n G) (hF : F < n) :
    Calls Try.prog 31 #[.pointer (some ⟨s, 0, none⟩), .int .i64 F] w fun e w' => e = .returned (.tuple #[.int .u32 (hd G F), .int .i64 0]) ∧ Below w.heap.size w w' := by
  go_enter Try.func31, Try.ntmps31
  go_wp2_with fail
  refine (Calls.lat (load_in s fb n F 0 4 G _ h hF (by omega) (by omega))).mono ?_
  rintro e w' ⟨rfl, x, rfl⟩
  go_wp2
  go_ret2
  exact ⟨rfl, (by refine (?_ : Bel _ _ _).1; repeat (first | exact hbel | exact Bel.refl _ | apply Bel.later | apply Bel.alloc | apply Bel.drew | (refine Bel.laterB ?_ (by first | exact Nat.le_refl _ | omega | (simp; omega) | simp)) | (refine Bel.setCell ?_ (by first | exact Nat.le_refl _ | omega | (simp; omega) | simp))))⟩
theorem rhead_in (t rb n F : Nat) (G : Nat → Int) (w : World) (h : RStoAt w t rb n G) (hF : F < n) :
    Calls Try.prog 34 #[.pointer (some ⟨t, 0, none⟩), .int .i64 F] w fun e w' => e = .returned (.tuple #[.int .u32 (hd G F), .int .i64 0]) ∧ w = w' := by
  go_enter Try.func34, Try.ntmps34
  go_wp2_with fail
  refine (rload_in t rb n F 0 4 G _ h hF (by omega) (by omega)).mono ?_
  rintro e w' ⟨rfl, rfl⟩
  go_wp2
  go_ret2
  exact ⟨rfl, rfl⟩

set_option maxHeartbeats 1000000 in
theorem send_in (s fb n F : Nat) (v : Int) (G : Nat → Int) (w : World) (h : StoAt w s fb n G) (hF : F < n) (h0 : 0 ≤ v) (h1 : v ≤ 4294967295) :
    Calls Try.prog 28 #[.pointer (some ⟨s, 0, none⟩), .int .i64 F, .int .u32 v] w fun e w' => e = .returned (.int .i64 0) ∧ Upd fb w w' ∧ StoAt w' s fb n (sendG G F v) := by
  have hb := hd_bound h.2.2.2 F
  obtain ⟨hb0, hb1⟩ := hb
  have hpl := plN_int hb0
  have hpl2 := plN_le (hd G F)
  have hS : ∀ X : Nat → Int, putF (putF G (F * 64 + plN (hd G F)) 4 v) (F * 64 + 0) 4 ((hd G F + 1) % 4294967296) = X → sendG G F v = X := fun X hx => hx
  obtain ⟨H, hH⟩ : ∃ H, hd G F = H := ⟨_, rfl⟩
  obtain ⟨A, hA⟩ : ∃ A, plN (hd G F) = A := ⟨_, rfl⟩
  rw [hA] at hpl hpl2
  rw [hH] at hb0 hb1 hpl
  have HH := Lib.hid hH
  have HA := Lib.hid hA
  have HP := Lib.hid hpl
  clear hH hA hpl hS
  go_enter Try.func28, Try.ntmps28
  go_wp2_with fail
  refine (Calls.lat (head_in s fb n F G _ h hF)).mono ?_
  rintro e w' ⟨rfl, x, rfl⟩
  rw [HH.out]
  replace h := h.later (x := x)
  have hu : Upd fb w (later w x) := Upd.of_below (later_below w x)
  go_wp2_with fail
  refine (place_at H A _ hb0 hb1 HP.out).mono ?_
  rintro e w' ⟨rfl, rfl⟩
  go_wp2_with fail
  refine (save_in s fb n F A 4 v G _ h hF (by omega) hpl2 h0 h1).mono ?_
  rintro e w2 ⟨rfl, hu2, hst2⟩
  go_wp2_with fail
  refine (save_in s fb n F 0 4 ((H + 1) % 4294967296) _ _ hst2 hF (by omega) (by omega) (by omega) (by omega)).mono ?_
  rintro e w3 ⟨rfl, hu3, hst3⟩
  go_wp2_with fail
  go_ret
  refine ⟨rfl, (hu.trans hu2).trans hu3, ?_⟩
  unfold sendG
  rw [HA.out, HH.out]
  exact hst3

set_option maxHeartbeats 1000000 in
theorem rsend_in (t rb n F : Nat) (v : Int) (G : Nat → Int) (w : World) (h : RStoAt w t rb n G) (hF : F < n) (h0 : 0 ≤ v) (h1 : v ≤ 4294967295) :
    Calls Try.prog 32 #[.pointer (some ⟨t, 0, none⟩), .int .i64 F, .int .u32 v] w fun e w' => e = .returned (.int .i64 0) ∧ Upd rb w w' ∧ RStoAt w' t rb n (sendG G F v) := by
  have hb := hd_bound h.2.1 F
  obtain ⟨hb0, hb1⟩ := hb
  have hpl := plN_int hb0
  have hpl2 := plN_le (hd G F)
  obtain ⟨H, hH⟩ : ∃ H, hd G F = H := ⟨_, rfl⟩
  obtain ⟨A, hA⟩ : ∃ A, plN (hd G F) = A := ⟨_, rfl⟩
  rw [hA] at hpl hpl2
  rw [hH] at hb0 hb1 hpl
  have HH := Lib.hid hH
  have HA := Lib.hid hA
  have HP := Lib.hid hpl
  clear hH hA hpl
  go_enter Try.func32, Try.ntmps32
  go_wp2_with fail
  refine (rhead_in t rb n F G _ h hF).mono ?_
  rintro e w' ⟨rfl, rfl⟩
  rw [HH.out]
  go_wp2_with fail
  refine (rplace_at H A _ hb0 hb1 HP.out).mono ?_
  rintro e w' ⟨rfl, rfl⟩
  go_wp2_with fail
  refine (rsave_in t rb n F A 4 v G _ h hF (by omega) hpl2 h0 h1).mono ?_
  rintro e w2 ⟨rfl, hu2, hst2⟩
  go_wp2_with fail
  refine (rsave_in t rb n F 0 4 ((H + 1) % 4294967296) _ _ hst2 hF (by omega) (by omega) (by omega) (by omega)).mono ?_
  rintro e w3 ⟨rfl, hu3, hst3⟩
  go_wp2_with fail
  go_ret
  refine ⟨rfl, hu2.trans hu3, ?_⟩
  unfold sendG
  rw [HA.out, HH.out]
  exact hst3

end Go.Proofs.Ytoigfpepdfbnkaa
