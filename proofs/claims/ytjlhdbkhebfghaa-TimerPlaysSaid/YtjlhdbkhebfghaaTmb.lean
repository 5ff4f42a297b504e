/- Timers: Arm where nothing is armed. -/
import Derived.Test.YtjlhdbkhebfghaaTma
namespace Go.Proofs.Ytjlhdbkhebfghaa
open Go.ChangeShapes Go.WideShapes Go.ChangeAt Go.RowKit
set_option linter.unusedVariables false

theorem tmArmNeg (t now : Nat) (u : Nat → Bool) (v : Value) (l : List trIt) (due : Int) (w : World) (h : TmAt w t u now v l) (hd : due < 0) :
    Calls Try.prog 12 #[.pointer (some ⟨t, 0, none⟩), .int .i64 due] w fun e w' => e = .returned (.tuple #[.int .i64 0, .int .i64 1]) ∧ w = w' := by
  go_enter Try.func12, Try.ntmps12
  go_wp2_with fail
  refine (tmNone t now u v l _ h).mono ?_
  rintro e w' ⟨rfl, rfl⟩
  go_wp2
  go_ret2
  exact ⟨rfl, rfl⟩
theorem tmArmFull (t now : Nat) (u : Nat → Bool) (v : Value) (l : List trIt) (due : Int) (w : World) (h : TmAt w t u now v l) (hd : 0 ≤ due) (hf : freeU u = 4) :
    Calls Try.prog 12 #[.pointer (some ⟨t, 0, none⟩), .int .i64 due] w fun e w' => e = .returned (.tuple #[.int .i64 0, .int .i64 2]) ∧ w = w' := by
  go_enter Try.func12, Try.ntmps12
  go_wp2_with fail
  refine (tmNone t now u v l _ h).mono ?_
  rintro e w' ⟨rfl, rfl⟩
  go_wp2_with fail
  refine (tmFree t now u v l _ h).mono ?_
  rintro e w' ⟨rfl, rfl⟩
  rw [if_pos hf]
  go_wp2
  go_ret2
  exact ⟨rfl, rfl⟩
end Go.Proofs.Ytjlhdbkhebfghaa
