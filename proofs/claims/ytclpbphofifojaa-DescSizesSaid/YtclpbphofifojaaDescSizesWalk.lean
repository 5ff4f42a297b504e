/- The walk of hermitagelaw21.DescSizes: it answers true at every pair of numbers. -/
import Derived.Test.YtclpbphofifojaaD21
namespace Go.Proofs.Ytclpbphofifojaa
open Go.ChangeShapes Go.WideShapes Go.ChangeAt Go.RowKit
set_option linter.unusedVariables false

set_option maxHeartbeats 2000000 in
theorem descSizes_walk (p : Int) (n : Int) (w : World) (w0 : (Lit.int .i64 p).wf = true) (w1 : (Lit.int .i64 n).wf = true) :
    Calls Try.prog 3 #[.int .i64 p, .int .i64 n] w fun e w' => e = .returned (.bool true) ∧ Below w.heap.size w w' := by
  have hn1 := bounds_i64 w1
  obtain ⟨hn0, hn1⟩ := hn1
  by_cases hs : sizedB n = true
  · have hn : n = 2 ∨ n = 4 ∨ n = 8 := by simp [sizedB] at hs; omega
    by_cases hp : p = 0 ∨ p = 1 ∨ p = 2
    · clear hs hn0 hn1 w0 w1
      rcases hn with rfl | rfl | rfl <;> rcases hp with rfl | rfl | rfl
      all_goals
        go_enter Try.func3, Try.ntmps3
        go_wp2
        go_ret
        exact ⟨rfl, (Below.refl _ _).alloc (Nat.le_refl _) _⟩
    · have hp' : p < 0 ∨ 2 < p := by omega
      rcases hp' with hp' | hp'
      all_goals
        have hz : sizeI p n = 0 := by unfold sizeI; rw [if_pos hs, if_neg (by omega), if_neg (by omega), if_neg (by omega)]
        clear w0 w1
        go_enter Try.func3, Try.ntmps3
        go_wp2_with (first | (go_at_call 11; refine (size_any _ _ _).mono ?_; rintro e w' ⟨rfl, rfl⟩) | (go_at_call 13; refine (awake21 _).mono ?_; rintro e w' ⟨rfl, hb⟩) | (go_at_call 12; refine (sized_any _ _).mono ?_; rintro e w' ⟨rfl, rfl⟩))
        go_ret
        exact ⟨rfl, hb⟩
  · have hs' : sizedB n = false := by simpa using hs
    have hz : sizeI p n = 0 := by simp [sizeI, hs']
    clear hs w0 w1
    have hp : p < 0 ∨ 2 < p ∨ (0 ≤ p ∧ p ≤ 2) := by omega
    rcases hp with hp | hp | ⟨hp, hp2⟩
    all_goals
      go_enter Try.func3, Try.ntmps3
      go_wp2_with (first | (go_at_call 11; refine (size_any _ _ _).mono ?_; rintro e w' ⟨rfl, rfl⟩) | (go_at_call 13; refine (awake21 _).mono ?_; rintro e w' ⟨rfl, hb⟩) | (go_at_call 12; refine (sized_any _ _).mono ?_; rintro e w' ⟨rfl, rfl⟩))
      go_ret
      exact ⟨rfl, hb⟩

end Go.Proofs.Ytclpbphofifojaa
