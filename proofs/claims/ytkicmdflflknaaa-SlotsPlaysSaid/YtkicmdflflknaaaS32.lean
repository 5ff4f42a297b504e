/- Contracts of the package slots at a table that nobody made. -/
import Derived.Test.YtkicmdflflknaaaRows
import Derived.Test.YtkicmdflflknaaaKit
namespace Go.Proofs.Ytkicmdflflknaaa
open Go.ChangeShapes Go.WideShapes Go.ChangeAt Go.RowKit
set_option linter.unusedVariables false

@[go_sem] theorem turn_held : Try.prog.stoodInHeld 28 = false := by kernel_rfl
@[go_sem] theorem turn_guard : Try.prog.eqGuardType Try.prog.depth 28 = false := by kernel_rfl
@[go_sem high] theorem eql_turn (a b c n a' b' c' n' : Int) (w : World) : (binOp .eql 28 (.agg #[.int .i64 a, .int .i64 b, .int .i64 c, .int .i64 n]) (.agg #[.int .i64 a', .int .i64 b', .int .i64 c', .int .i64 n'])).run Try.prog w = .ok (.bool (a == a' && (b == b' && (c == c' && n == n')))) w := by
  simp [go_sem]
  repeat' split
  all_goals simp_all
@[go_sem high] theorem neq_turn (a b c n a' b' c' n' : Int) (w : World) : (binOp .neq 28 (.agg #[.int .i64 a, .int .i64 b, .int .i64 c, .int .i64 n]) (.agg #[.int .i64 a', .int .i64 b', .int .i64 c', .int .i64 n'])).run Try.prog w = .ok (.bool (!(a == a' && (b == b' && (c == c' && n == n'))))) w := by
  simp [go_sem]
  repeat' split
  all_goals simp_all

/-- A table that nobody made: nil, or of zero values. -/
def ZeroTab (w : World) (p : Option Addr) : Prop := p = none ∨ ∃ b, p = some ⟨b, 0, none⟩ ∧ w.cell? ⟨b, 0, none⟩ = some (.slice none 0 0)

theorem ZeroTab.nil (w : World) : ZeroTab w none := .inl rfl

theorem none_zero (p : Option Addr) (w : World) (h : ZeroTab w p) : Calls Try.prog 34 #[.pointer p] w fun e w' => e = .returned (.bool true) ∧ w = w' := by
  rcases h with rfl | ⟨b, rfl, hc⟩
  all_goals
    go_enter Try.func34, Try.ntmps34
    go_wp2
    go_ret
    exact ⟨rfl, rfl⟩

theorem period_zero (p : Option Addr) (w : World) (h : ZeroTab w p) : Calls Try.prog 13 #[.pointer p] w fun e w' => e = .returned (.int .i64 0) ∧ w = w' := by
  go_enter Try.func13, Try.ntmps13
  go_wp2_with (go_at_call 34; refine (none_zero _ _ h).mono ?_; rintro e w' ⟨rfl, rfl⟩)
  go_ret
  exact ⟨rfl, rfl⟩

theorem share_zero (p : Option Addr) (n : Int) (w : World) (h : ZeroTab w p) : Calls Try.prog 14 #[.pointer p, .int .i64 n] w fun e w' => e = .returned (.int .i64 0) ∧ w = w' := by
  go_enter Try.func14, Try.ntmps14
  go_wp2_with (go_at_call 34; refine (none_zero _ _ h).mono ?_; rintro e w' ⟨rfl, rfl⟩)
  go_ret
  exact ⟨rfl, rfl⟩

theorem at_zero (p : Option Addr) (n : Int) (w : World) (h : ZeroTab w p) : Calls Try.prog 11 #[.pointer p, .int .i64 n] w fun e w' => e = .returned (.tuple #[.agg #[.int .i64 0, .int .i64 0, .int .i64 0, .int .i64 0], .int .i64 7]) ∧ Below w.heap.size w w' := by
  have h' : ∀ o, ZeroTab (w.alloc o) p := fun o => by
    rcases h with rfl | ⟨b, rfl, hc⟩
    · exact .inl rfl
    · exact .inr ⟨b, rfl, by rw [alloc_old_cell _ _ _ (block_lt_of_cell hc)]; exact hc⟩
  clear h
  go_enter Try.func11, Try.ntmps11
  go_wp2_with (go_at_call 34; refine (none_zero _ _ (h' _)).mono ?_; rintro e w' ⟨rfl, rfl⟩)
  exact bodyPost_ret (v := .tuple #[.agg #[.int .i64 0, .int .i64 0, .int .i64 0, .int .i64 0], .int .i64 7]) (by simp [results, Try.results11, go_sem]) rfl ⟨rfl, (Below.refl _ _).alloc (Nat.le_refl _) _⟩

theorem starts_zero (p : Option Addr) (n : Int) (w : World) (h : ZeroTab w p) : Calls Try.prog 12 #[.pointer p, .int .i64 n] w fun e w' => e = .returned (.bool false) ∧ Below w.heap.size w w' := by
  go_enter Try.func12, Try.ntmps12
  go_wp2_with (go_at_call 11; refine (Calls.lat (at_zero _ _ _ h)).mono ?_; rintro e w' ⟨rfl, x, rfl⟩)
  go_ret
  exact ⟨rfl, by refine (?_ : Bel _ _ _).1; repeat (first | exact Bel.refl _ | apply Bel.later | apply Bel.alloc)⟩

end Go.Proofs.Ytkicmdflflknaaa
