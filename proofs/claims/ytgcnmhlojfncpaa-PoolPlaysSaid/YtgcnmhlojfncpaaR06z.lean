/- The reference's store of frames: Bytes, Clean. The law package's awake, all. -/
import Derived.Test.YtgcnmhlojfncpaaR06y
namespace Go.Proofs.Ytgcnmhlojfncpaa
open Go.ChangeShapes Go.WideShapes Go.ChangeAt Go.RowKit
set_option linter.unusedVariables false

set_option maxHeartbeats 1000000 in
theorem rclean_in (t rb n f : Nat) (G : Nat → Int) (w : World) (h : RStoAt w t rb n G) (hf : f < n) :
    Calls Try.prog 26 #[.pointer (some ⟨t, 0, none⟩), .int .i64 f] w fun e w' => e = .returned (.bool (cleanB (fr G f))) ∧ w = w' := by
  obtain ⟨c, g, c', h0, hnc, hcm, hrb, h1, h2, h64, hcm', hr⟩ := h.row hf
  have hn1 : (0 : Int) ≤ f := by omega
  have hn2 : (f : Int) < n := by omega
  have hby := fr_byt h.2.1 f
  obtain ⟨F, hF⟩ : ∃ F, fr G f = F := ⟨_, rfl⟩
  rw [hF] at hr hby ⊢
  go_enter Try.func26, Try.ntmps26
  go_wp2_with fail
  refine (is_yes _ _ _ _ _ _ h hf).mono ?_
  rintro e w' ⟨rfl, rfl⟩
  clear h hF
  go_wp2_with fail
  go_loop [5] (fun i => ∃ k : Nat, k ≤ 64 ∧ i = .int .i64 k ∧ ∀ j, j < k → F j = 0) (fun i => 64 - (intOf i).toNat)
  case atStart => exact ⟨0, Nat.zero_le _, rfl, fun j hj => absurd hj (by omega)⟩
  case round =>
    obtain ⟨k, hk, rfl, hz⟩ := hrel
    have Hz := Lib.hid hz
    clear hz
    by_cases hlt : k < 64
    · have cx := hr.cell hlt
      have bx := hby k
      by_cases hx : F k = 0
      · rw [hx] at cx
        have Hx := Lib.hid hx
        clear hx bx hby hr
        go_wp2
        go_round
        case rel => exact ⟨k + 1, by omega, by go_num, fun j hj => by
          by_cases e : j < k
          · exact Hz.out j e
          · obtain rfl : j = k := by omega
            exact Hx.out⟩
        case measure => simp [intOf]; omega
      · have hne : (F k == 0) = false := by simpa using hx
        have hfin := Lib.hid (cleanB_false hlt hx)
        clear hby hr
        go_wp2
        go_ret
        exact ⟨ret_bool hfin.out.symm, rfl⟩
    · obtain rfl : k = 64 := by omega
      clear hr hby
      go_wp2
      go_ret
      exact ⟨ret_bool (cleanB_true.2 Hz.out).symm, rfl⟩
theorem rclean_no (t rb n : Nat) (f : Int) (G : Nat → Int) (w : World) (h : RStoAt w t rb n G) (hw : (Lit.int .i64 f).wf = true) (hf : f < 0 ∨ (n : Int) ≤ f) :
    Calls Try.prog 26 #[.pointer (some ⟨t, 0, none⟩), .int .i64 f] w fun e w' => e = .returned (.bool false) ∧ w = w' := by
  go_enter Try.func26, Try.ntmps26
  go_wp2_with fail
  refine (is_no _ _ _ _ _ _ h hw hf).mono ?_
  rintro e w' ⟨rfl, rfl⟩
  go_wp2_with fail
  go_ret
  exact ⟨rfl, rfl⟩

/-! ### Out of bounds, the store of frames -/
theorem clear_bad (p : Option Addr) (f E : Int) (w : World) (h : Bad w p f E) : Calls Try.prog 41 #[.pointer p, .int .i64 f] w fun e w' => e = .returned (.int .i64 E) ∧ Below w.heap.size w w' := by
  obtain ⟨hE, hc⟩ := h
  rcases hE with rfl | rfl
  all_goals
    go_enter Try.func41, Try.ntmps41
    go_wp2_with fail
    refine (Calls.lat (hc _ (Below.refl _ _))).mono ?_
    rintro e w' ⟨rfl, x, rfl⟩
    go_wp2
    go_ret
    exact ⟨rfl, (by refine (?_ : Bel _ _ _).1; repeat (first | exact hbel | exact Bel.refl _ | apply Bel.later | apply Bel.alloc | apply Bel.drew | (refine Bel.laterB ?_ (by first | exact Nat.le_refl _ | omega | (simp; omega) | simp)) | (refine Bel.setCell ?_ (by first | exact Nat.le_refl _ | omega | (simp; omega) | simp))))⟩
theorem clean_bad (p : Option Addr) (f E : Int) (w : World) (h : Bad w p f E) : Calls Try.prog 25 #[.pointer p, .int .i64 f] w fun e w' => e = .returned (.bool false) ∧ Below w.heap.size w w' := by
  obtain ⟨hE, hc⟩ := h
  rcases hE with rfl | rfl
  all_goals
    go_enter Try.func25, Try.ntmps25
    go_wp2_with fail
    refine (Calls.lat (hc _ (Below.refl _ _))).mono ?_
    rintro e w' ⟨rfl, x, rfl⟩
    go_wp2
    go_ret
    exact ⟨rfl, (by refine (?_ : Bel _ _ _).1; repeat (first | exact hbel | exact Bel.refl _ | apply Bel.later | apply Bel.alloc | apply Bel.drew | (refine Bel.laterB ?_ (by first | exact Nat.le_refl _ | omega | (simp; omega) | simp)) | (refine Bel.setCell ?_ (by first | exact Nat.le_refl _ | omega | (simp; omega) | simp))))⟩
theorem StoAt.bad {w : World} {s fb n : Nat} {G : Nat → Int} (h : StoAt w s fb n G) {f : Int} (hf : f < 0 ∨ (n : Int) ≤ f) : Bad w (some ⟨s, 0, none⟩) f 1 := bad_out h.made hf

theorem clean_zero : cleanB (fr (fun _ => 0) 0) = true := cleanB_true.2 fun _ _ => rfl
theorem clean_one : cleanB (fr (putF (fun _ => 0) (0 * 64 + 60) 4 1) 0) = false := cleanB_false (i := 60) (by omega) (by simp [fr, putF])

end Go.Proofs.Ytgcnmhlojfncpaa
