/- Contracts of the reference of desc that read. -/
import Derived.Test.YtclpbphofifojaaD21
namespace Go.Proofs.Ytclpbphofifojaa
open Go.ChangeShapes Go.WideShapes Go.ChangeAt Go.RowKit
set_option linter.unusedVariables false

theorem rsized_any (n : Int) (w : World) : Calls Try.prog 36 #[.int .i64 n] w fun e w' => e = .returned (.bool (sizedB n)) ∧ w = w' := by
  go_enter Try.func36, Try.ntmps36
  go_wp2
  all_goals go_ret
  all_goals exact ⟨ret_bool (by simp [sizedB, *]), rfl⟩

theorem rsize_any (p n : Int) (w : World) : Calls Try.prog 37 #[.int .i64 p, .int .i64 n] w fun e w' => e = .returned (.int .i64 (sizeI p n)) ∧ w = w' := by
  by_cases hs : sizedB n = true
  · have hn : 2 ≤ n ∧ n ≤ 8 := by simp [sizedB] at hs; omega
    obtain ⟨hn1, hn2⟩ := hn
    by_cases h0 : p = 0
    · subst h0
      go_enter Try.func37, Try.ntmps37
      go_wp2_with (go_at_call 36; refine (rsized_any _ _).mono ?_; rintro e w' ⟨rfl, rfl⟩)
      go_ret
      exact ⟨by simp [sizeI, hs], rfl⟩
    by_cases h1 : p = 1
    · subst h1
      go_enter Try.func37, Try.ntmps37
      go_wp2_with (go_at_call 36; refine (rsized_any _ _).mono ?_; rintro e w' ⟨rfl, rfl⟩)
      go_ret
      exact ⟨by simp [sizeI, hs], rfl⟩
    by_cases h2 : p = 2
    · subst h2
      go_enter Try.func37, Try.ntmps37
      go_wp2_with (go_at_call 36; refine (rsized_any _ _).mono ?_; rintro e w' ⟨rfl, rfl⟩)
      go_ret
      exact ⟨by simp [sizeI, hs], rfl⟩
    have g0 : (p == 0) = false := by simp [h0]
    have g1 : (p == 1) = false := by simp [h1]
    have g2 : (p == 2) = false := by simp [h2]
    go_enter Try.func37, Try.ntmps37
    go_wp2_with (go_at_call 36; refine (rsized_any _ _).mono ?_; rintro e w' ⟨rfl, rfl⟩)
    go_ret
    exact ⟨by simp [sizeI, h0, h1, h2], rfl⟩
  · have hs' : sizedB n = false := by simpa using hs
    clear hs
    go_enter Try.func37, Try.ntmps37
    go_wp2_with (go_at_call 36; refine (rsized_any _ _).mono ?_; rintro e w' ⟨rfl, rfl⟩)
    go_ret
    exact ⟨by simp [sizeI, hs'], rfl⟩

theorem rright_any (a b c n : Int) (ha : 0 ≤ a) (hb : 0 ≤ b) (hc : 0 ≤ c) (w : World) : Calls Try.prog 38 #[.agg #[.int .u32 a, .int .u32 b, .int .u32 c, .int .i64 n]] w fun e w' => e = .returned (.bool (rightB a b c n)) ∧ Below w.heap.size w w' := by
  cases hs : sizedB n
  case' true =>
    cases h0 : (a % 4 == 0)
    case' true =>
      cases h1 : (b % 4 == 0)
      case' true => cases h2 : (c % 4 == 0)
  all_goals
    go_enter Try.func38, Try.ntmps38
    go_wp2_with (go_at_call 36; refine (rsized_any _ _).mono ?_; rintro e w' ⟨rfl, rfl⟩)
    go_ret
    exact ⟨ret_bool (by simp [rightB, *]), (by refine (?_ : Bel _ _ _).1; repeat (first | exact hbel | exact Bel.refl _ | apply Bel.later | apply Bel.alloc | apply Bel.drew | (refine Bel.laterB ?_ (by first | exact Nat.le_refl _ | omega | (simp; omega) | simp)) | (refine Bel.setCell ?_ (by first | exact Nat.le_refl _ | omega | (simp; omega) | simp))))⟩

theorem rcheck_any (ad ln fl nx n : Int) (h0 : 0 ≤ fl) (h1 : fl ≤ 4294967295) (h2 : 0 ≤ nx) (h3 : nx ≤ 4294967295) (w : World) :
    Calls Try.prog 35 #[.agg #[.int .u32 ad, .int .u32 ln, .int .u32 fl, .int .u32 nx], .int .i64 n] w fun e w' => e = .returned (.int .i64 (checkI fl ln nx n)) ∧ Below w.heap.size w w' := by
  go_enter Try.func35, Try.ntmps35
  go_wp2
  all_goals go_ret
  all_goals refine ⟨ret_int ?_, (by refine (?_ : Bel _ _ _).1; repeat (first | exact hbel | exact Bel.refl _ | apply Bel.later | apply Bel.alloc | apply Bel.drew | (refine Bel.laterB ?_ (by first | exact Nat.le_refl _ | omega | (simp; omega) | simp)) | (refine Bel.setCell ?_ (by first | exact Nat.le_refl _ | omega | (simp; omega) | simp))))⟩
  all_goals
    unfold checkI
    try simp only [bne_iff_ne, ne_eq, bne_eq_false_iff_eq, beq_iff_eq, beq_eq_false_iff_ne] at *
    repeat' split
    all_goals omega

end Go.Proofs.Ytclpbphofifojaa
