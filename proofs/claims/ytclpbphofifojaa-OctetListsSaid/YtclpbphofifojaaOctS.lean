/- Sign, of octet and of its reference. -/
import Derived.Test.YtclpbphofifojaaOctB
namespace Go.Proofs.Ytclpbphofifojaa
open Go.ChangeShapes Go.WideShapes Go.ChangeAt Go.RowKit
set_option linter.unusedVariables false

theorem sign_any (v wd : Int) (w : World) (h0 : 0 ≤ v) (h1 : v ≤ 4294967295) :
    Calls Try.prog 20 #[.int .u32 v, .int .i64 wd] w fun e w' => e = .returned (.int .u32 (signV v wd)) ∧ w = w' := by
  by_cases e1 : wd = 1
  · subst e1
    go_enter Try.func20, Try.ntmps20
    go_wp2
    go_ret
    exact ⟨ret_int (by simp [signV, wrap32, IntKind.wrap, IntKind.bits, IntKind.signed]; (repeat' split) <;> omega), rfl⟩
  · by_cases e2 : wd = 2
    · subst e2
      go_enter Try.func20, Try.ntmps20
      go_wp2
      go_ret
      exact ⟨ret_int (by simp [signV, wrap32, IntKind.wrap, IntKind.bits, IntKind.signed]; (repeat' split) <;> omega), rfl⟩
    · have e1' : (wd == 1) = false := by simpa using e1
      have e2' : (wd == 2) = false := by simpa using e2
      go_enter Try.func20, Try.ntmps20
      go_wp2
      go_ret
      exact ⟨ret_int (by simp [signV, e1, e2]), rfl⟩

theorem rsign_any (v wd : Int) (w : World) (h0 : 0 ≤ v) (h1 : v ≤ 4294967295) :
    Calls Try.prog 21 #[.int .u32 v, .int .i64 wd] w fun e w' => e = .returned (.int .u32 (signV v wd)) ∧ w = w' := by
  by_cases e1 : wd = 1
  · subst e1
    by_cases hh : 128 ≤ v % 256
    all_goals
      go_enter Try.func21, Try.ntmps21
      go_wp2
      go_ret
      exact ⟨ret_int (by unfold signV; (repeat' split) <;> omega), rfl⟩
  · by_cases e2 : wd = 2
    · subst e2
      by_cases hh : 32768 ≤ v % 65536
      all_goals
        go_enter Try.func21, Try.ntmps21
        go_wp2
        go_ret
        exact ⟨ret_int (by unfold signV; (repeat' split) <;> omega), rfl⟩
    · have e1' : (wd == 1) = false := by simpa using e1
      have e2' : (wd == 2) = false := by simpa using e2
      go_enter Try.func21, Try.ntmps21
      go_wp2
      go_ret
      exact ⟨ret_int (by simp [signV, e1, e2]), rfl⟩

end Go.Proofs.Ytclpbphofifojaa
