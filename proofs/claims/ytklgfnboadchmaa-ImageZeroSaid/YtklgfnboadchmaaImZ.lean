/- image: where something is missing. -/
import Derived.Test.YtklgfnboadchmaaMrgE
namespace Go.Proofs.Ytklgfnboadchmaa
open Go.ChangeShapes Go.WideShapes Go.ChangeAt Go.RowKit
set_option linter.unusedVariables false
set_option maxRecDepth 20000

theorem pnone_nil (w : World) : Calls Try.prog 40 #[.pointer none] w fun e w' => e = .returned (.bool true) ∧ w = w' := by
  go_enter Try.func40, Try.ntmps40
  go_wp2
  go_ret
  exact ⟨rfl, rfl⟩
theorem own_nil (f g : Int) (w : World) : Calls Try.prog 30 #[.pointer none, .int .i64 f, .int .i64 g] w fun e w' => e = .returned (.int .i64 7) ∧ w = w' := by
  go_enter Try.func30, Try.ntmps30
  go_wp2_with fail
  refine (pnone_nil _).mono ?_
  rintro e w' ⟨rfl, rfl⟩
  go_wp2
  go_ret
  exact ⟨rfl, rfl⟩
theorem made_p (s m : Option Addr) (w : World) : Calls Try.prog 61 #[.pointer none, .pointer s, .pointer m] w fun e w' => e = .returned (.bool false) ∧ Below w.heap.size w w' := by
  go_enter Try.func61, Try.ntmps61
  go_wp2_with fail
  refine (own_nil _ _ _).mono ?_
  rintro e w1 ⟨rfl, rfl⟩
  go_wp2
  go_ret
  exact ⟨rfl, Below.refl _ _⟩
section
variable {A : Nat → Prop} {b s fb mb n : Nat} {G : Nat → Int} {S : List stIt} {M : Nat → Int × Int}
theorem made_s (m : Option Addr) (w : World) (h : Img A w b s fb mb n G S M) (hl : ∀ w : World, Calls Try.prog 13 #[.pointer none] w fun e w' => e = .returned (.int .i64 0) ∧ Below w.heap.size w w') : Calls Try.prog 61 #[.pointer (some ⟨b, 0, none⟩), .pointer none, .pointer m] w fun e w' => e = .returned (.bool false) ∧ Below w.heap.size w w' := by
  go_enter Try.func61, Try.ntmps61
  go_wp2_with fail
  refine (iOwnNo _ h).mono ?_
  rintro e w1 ⟨rfl, rfl⟩
  go_wp2_with fail
  refine (hl _).mono ?_
  rintro e w1 ⟨rfl, b1⟩
  go_wp2
  go_ret
  exact ⟨rfl, b1⟩
theorem made_m (m : Option Addr) (w : World) (h : Img A w b s fb mb n G S M) (hz : ∀ w', Below w.heap.size w w' → ZeroGmap w' m) : Calls Try.prog 61 #[.pointer (some ⟨b, 0, none⟩), .pointer (some ⟨s, 0, none⟩), .pointer m] w fun e w' => e = .returned (.bool false) ∧ Below w.heap.size w w' := by
  have hn0 : (0 : Int) < n := by have := h.hn; omega
  go_enter Try.func61, Try.ntmps61
  go_wp2_with fail
  refine (iOwnNo _ h).mono ?_
  rintro e w1 ⟨rfl, rfl⟩
  go_wp2_with fail
  refine (len_of s fb n G _ h.sto).mono ?_
  rintro e w1 ⟨rfl, b1⟩
  go_wp2_with fail
  refine (gdrop_zero m (-1) _ (hz _ b1)).mono ?_
  rintro e w2 ⟨rfl, rfl⟩
  go_wp2
  go_ret
  exact ⟨rfl, b1⟩
end
theorem layNo (P Q R : Option Addr) (who pages : Int) (v : Value) (w : World) (hm : ∀ w', Below w.heap.size w w' → Calls Try.prog 61 #[.pointer P, .pointer Q, .pointer R] w' fun e w'' => e = .returned (.bool false) ∧ Below w'.heap.size w' w'') :
    Calls Try.prog 9 #[.pointer P, .pointer Q, .pointer R, .int .i64 who, .int .i64 pages, v] w fun e w' => e = .returned (.int .i64 7) ∧ Below w.heap.size w w' := by
  have hmay : ∀ w', Below w.heap.size w w' → Calls Try.prog 32 #[.pointer P, .pointer Q, .pointer R, .int .i64 who, .int .i64 pages] w' fun e w'' => e = .returned (.int .i64 7) ∧ Below w'.heap.size w' w'' := fun w' hb => by
    go_enter Try.func32, Try.ntmps32
    go_wp2_with fail
    refine (hm _ hb).mono ?_
    rintro e w2 ⟨rfl, b2⟩
    go_wp2
    go_ret
    exact ⟨rfl, b2⟩
  go_enter Try.func9, Try.ntmps9
  go_wp2_with fail
  refine (hmay _ (((((Bel.refl w).alloc).alloc).alloc).alloc).1).mono ?_
  rintro e w2 ⟨rfl, b2⟩
  go_wp2
  go_ret
  exact ⟨rfl, ((((((Bel.refl w).alloc).alloc).alloc).alloc).of b2).1⟩
theorem stripNo (P R : Option Addr) (w : World) (hg : ∀ w' (i : Nat), i < 8 → Below w.heap.size w w' → Calls Try.prog 16 #[.pointer R, .int .i64 i] w' fun e w'' => e = .returned (.tuple #[.agg #[.int .i64 0, .int .i64 0], .bool false]) ∧ Below w'.heap.size w' w'') :
    Calls Try.prog 10 #[.pointer P, .pointer R] w fun e w' => e = .returned (.int .i64 0) ∧ Below w.heap.size w w' := by
  go_enter Try.func10, Try.ntmps10
  go_wp2_with fail
  go_loopw [5, 9] (fun cv iv wr => ∃ i : Nat, i ≤ 8 ∧ cv = .int .i64 0 ∧ iv = .int .i64 i ∧ Bel w.heap.size w wr) (fun _ iv _ => 8 - (intOf iv).toNat)
  case atStart => exact ⟨0, by omega, rfl, rfl, Bel.refl w⟩
  case round =>
    obtain ⟨i, hi, rfl, rfl, hb⟩ := hrel
    by_cases hi8 : i < 8
    · go_wp2_with fail
      refine (hg _ i hi8 hb.1).mono ?_
      rintro e w2 ⟨rfl, b2⟩
      go_wp2
      go_roundw
      case rel => exact ⟨i + 1, by omega, rfl, by go_num, (hb.of b2).alloc⟩
      case measure => simp [intOf]; omega
    · obtain rfl : i = 8 := by omega
      go_wp2
      go_ret
      exact ⟨rfl, hb.1⟩
theorem get_zeroMap (mb : Nat) (i : Nat) (w : World) (h : MapAt w mb zeroMap) : Calls Try.prog 16 #[.pointer (some ⟨mb, 0, none⟩), .int .i64 i] w fun e w' => e = .returned (.tuple #[.agg #[.int .i64 0, .int .i64 0], .bool false]) ∧ Below w.heap.size w w' := by
  have := get_any mb zeroMap i w h
  have e1 : getF zeroMap i = 0 := by unfold getF zeroMap; split <;> rfl
  have e2 : getR zeroMap i = 0 := by unfold getR zeroMap; split <;> rfl
  have e3 : getT zeroMap i = false := by simp [getT, isThere, zeroMap]
  rw [e1, e2, e3] at this
  exact this
end Go.Proofs.Ytklgfnboadchmaa
