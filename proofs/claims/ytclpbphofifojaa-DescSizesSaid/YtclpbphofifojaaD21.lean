/- Contracts of the package desc: Sized, Size; the law package's awake. -/
import Derived.Test.YtclpbphofifojaaRows
import Derived.Test.YtclpbphofifojaaKit
import Derived.Outline
import Derived.Lib.Hide
namespace Go.Proofs.Ytclpbphofifojaa
open Go.ChangeShapes Go.WideShapes Go.ChangeAt Go.RowKit
set_option linter.unusedVariables false

def sizedB (n : Int) : Bool := n == 2 || n == 4 || n == 8

theorem sized_any (n : Int) (w : World) : Calls Try.prog 12 #[.int .i64 n] w fun e w' => e = .returned (.bool (sizedB n)) ∧ w = w' := by
  go_enter Try.func12, Try.ntmps12
  go_wp2
  all_goals go_ret
  all_goals exact ⟨by simp [sizedB, *], rfl⟩

theorem awake21 (w : World) : Calls Try.prog 13 #[] w fun e w' => e = .returned (.bool true) ∧ Below w.heap.size w w' := by
  go_enter Try.func13, Try.ntmps13
  go_wp2
  go_ret
  exact ⟨rfl, (Below.refl _ _).alloc (Nat.le_refl _) _⟩

def sizeI (part n : Int) : Int := if sizedB n then (if part = 0 then 16 * n else if part = 1 then 4 + 4 * n else if part = 2 then 4 + 8 * n else 0) else 0

theorem size_any (p n : Int) (w : World) : Calls Try.prog 11 #[.int .i64 p, .int .i64 n] w fun e w' => e = .returned (.int .i64 (sizeI p n)) ∧ w = w' := by
  by_cases hs : sizedB n = true
  · have hn : 2 ≤ n ∧ n ≤ 8 := by simp [sizedB] at hs; omega
    obtain ⟨hn1, hn2⟩ := hn
    by_cases h0 : p = 0
    · subst h0
      go_enter Try.func11, Try.ntmps11
      go_wp2_with (go_at_call 12; refine (sized_any _ _).mono ?_; rintro e w' ⟨rfl, rfl⟩)
      go_ret
      exact ⟨by simp [sizeI, hs], rfl⟩
    by_cases h1 : p = 1
    · subst h1
      go_enter Try.func11, Try.ntmps11
      go_wp2_with (go_at_call 12; refine (sized_any _ _).mono ?_; rintro e w' ⟨rfl, rfl⟩)
      go_ret
      exact ⟨by simp [sizeI, hs], rfl⟩
    by_cases h2 : p = 2
    · subst h2
      go_enter Try.func11, Try.ntmps11
      go_wp2_with (go_at_call 12; refine (sized_any _ _).mono ?_; rintro e w' ⟨rfl, rfl⟩)
      go_ret
      exact ⟨by simp [sizeI, hs], rfl⟩
    have g0 : (p == 0) = false := by simp [h0]
    have g1 : (p == 1) = false := by simp [h1]
    have g2 : (p == 2) = false := by simp [h2]
    go_enter Try.func11, Try.ntmps11
    go_wp2_with (go_at_call 12; refine (sized_any _ _).mono ?_; rintro e w' ⟨rfl, rfl⟩)
    go_ret
    exact ⟨by simp [sizeI, h0, h1, h2], rfl⟩
  · have hs' : sizedB n = false := by simpa using hs
    clear hs
    go_enter Try.func11, Try.ntmps11
    go_wp2_with (go_at_call 12; refine (sized_any _ _).mono ?_; rintro e w' ⟨rfl, rfl⟩)
    go_ret
    exact ⟨by simp [sizeI, hs'], rfl⟩

end Go.Proofs.Ytclpbphofifojaa
