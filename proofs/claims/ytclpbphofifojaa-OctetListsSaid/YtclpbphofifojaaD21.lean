/- Contracts of the package desc: Sized, Size; the law package's awake. -/
import Derived.Test.YtclpbphofifojaaRows
import Derived.Test.YtclpbphofifojaaKit
import Derived.Test.YtclpbphofifojaaNums
import Derived.Outline
import Derived.Lib.Hide
namespace Go.Proofs.Ytclpbphofifojaa
open Go.ChangeShapes Go.WideShapes Go.ChangeAt Go.RowKit
set_option linter.unusedVariables false

def sizedB (n : Int) : Bool := n == 2 || n == 4 || n == 8

theorem sized_any (n : Int) (w : World) : Calls Try.prog 12 #[.int .i64 n] w fun e w' => e = .returned (.bool (sizedB n)) ∧ w = w' := by
  go_enter Try.func12, Try.ntmps12
  go_wp2
  all_goals go_ret
  all_goals exact ⟨by simp [sizedB, *], rfl⟩

theorem awake21 (w : World) : Calls Try.prog 13 #[] w fun e w' => e = .returned (.bool true) ∧ Below w.heap.size w w' := by
  go_enter Try.func13, Try.ntmps13
  go_wp2
  go_ret
  exact ⟨rfl, (Below.refl _ _).alloc (Nat.le_refl _) _⟩

def sizeI (part n : Int) : Int := if sizedB n then (if part = 0 then 16 * n else if part = 1 then 4 + 4 * n else if part = 2 then 4 + 8 * n else 0) else 0

theorem size_any (p n : Int) (w : World) : Calls Try.prog 11 #[.int .i64 p, .int .i64 n] w fun e w' => e = .returned (.int .i64 (sizeI p n)) ∧ w = w' := by
  by_cases hs : sizedB n = true
  · have hn : 2 ≤ n ∧ n ≤ 8 := by simp [sizedB] at hs; omega
    obtain ⟨hn1, hn2⟩ := hn
    by_cases h0 : p = 0
    · subst h0
      go_enter Try.func11, Try.ntmps11
      go_wp2_with (go_at_call 12; refine (sized_any _ _).mono ?_; rintro e w' ⟨rfl, rfl⟩)
      go_ret
      exact ⟨by simp [sizeI, hs], rfl⟩
    by_cases h1 : p = 1
    · subst h1
      go_enter Try.func11, Try.ntmps11
      go_wp2_with (go_at_call 12; refine (sized_any _ _).mono ?_; rintro e w' ⟨rfl, rfl⟩)
      go_ret
      exact ⟨by simp [sizeI, hs], rfl⟩
    by_cases h2 : p = 2
    · subst h2
      go_enter Try.func11, Try.ntmps11
      go_wp2_with (go_at_call 12; refine (sized_any _ _).mono ?_; rintro e w' ⟨rfl, rfl⟩)
      go_ret
      exact ⟨by simp [sizeI, hs], rfl⟩
    have g0 : (p == 0) = false := by simp [h0]
    have g1 : (p == 1) = false := by simp [h1]
    have g2 : (p == 2) = false := by simp [h2]
    go_enter Try.func11, Try.ntmps11
    go_wp2_with (go_at_call 12; refine (sized_any _ _).mono ?_; rintro e w' ⟨rfl, rfl⟩)
    go_ret
    exact ⟨by simp [sizeI, h0, h1, h2], rfl⟩
  · have hs' : sizedB n = false := by simpa using hs
    clear hs
    go_enter Try.func11, Try.ntmps11
    go_wp2_with (go_at_call 12; refine (sized_any _ _).mono ?_; rintro e w' ⟨rfl, rfl⟩)
    go_ret
    exact ⟨by simp [sizeI, hs'], rfl⟩

@[go_sem] theorem ring_held : Try.prog.stoodInHeld 28 = false := by kernel_rfl
@[go_sem] theorem ring_guard : Try.prog.eqGuardType Try.prog.depth 28 = false := by kernel_rfl
@[go_sem] theorem desc_held : Try.prog.stoodInHeld 30 = false := by kernel_rfl
@[go_sem] theorem desc_guard : Try.prog.eqGuardType Try.prog.depth 30 = false := by kernel_rfl

@[go_sem high] theorem eql_ring (a b c n a' b' c' n' : Int) (w : World) : (binOp .eql 28 (.agg #[.int .u32 a, .int .u32 b, .int .u32 c, .int .i64 n]) (.agg #[.int .u32 a', .int .u32 b', .int .u32 c', .int .i64 n'])).run Try.prog w = .ok (.bool (a == a' && (b == b' && (c == c' && n == n')))) w := by
  simp [go_sem]
  repeat' split
  all_goals simp_all
@[go_sem high] theorem eql_desc (a b c n a' b' c' n' : Int) (w : World) : (binOp .eql 30 (.agg #[.int .u32 a, .int .u32 b, .int .u32 c, .int .u32 n]) (.agg #[.int .u32 a', .int .u32 b', .int .u32 c', .int .u32 n'])).run Try.prog w = .ok (.bool (a == a' && (b == b' && (c == c' && n == n')))) w := by
  simp [go_sem]
  repeat' split
  all_goals simp_all
@[go_sem high] theorem neq_desc (a b c n a' b' c' n' : Int) (w : World) : (binOp .neq 30 (.agg #[.int .u32 a, .int .u32 b, .int .u32 c, .int .u32 n]) (.agg #[.int .u32 a', .int .u32 b', .int .u32 c', .int .u32 n'])).run Try.prog w = .ok (.bool (!(a == a' && (b == b' && (c == c' && n == n'))))) w := by
  simp [go_sem]
  repeat' split
  all_goals simp_all

def rightB (a b c n : Int) : Bool := a % 4 == 0 && b % 4 == 0 && c % 4 == 0 && sizedB n

theorem right_any (a b c n : Int) (ha : 0 ≤ a) (hb : 0 ≤ b) (hc : 0 ≤ c) (w : World) : Calls Try.prog 14 #[.agg #[.int .u32 a, .int .u32 b, .int .u32 c, .int .i64 n]] w fun e w' => e = .returned (.bool (rightB a b c n)) ∧ Below w.heap.size w w' := by
  have i0 : ∀ w : World, (Instr.index 62 (.agg #[.int .u32 a, .int .u32 b, .int .u32 c]) (.int .i64 0)).run Try.prog w = .ok (.int .u32 a) w := fun _ => by kernel_rfl
  have i1 : ∀ w : World, (Instr.index 62 (.agg #[.int .u32 a, .int .u32 b, .int .u32 c]) (.int .i64 1)).run Try.prog w = .ok (.int .u32 b) w := fun _ => by kernel_rfl
  have i2 : ∀ w : World, (Instr.index 62 (.agg #[.int .u32 a, .int .u32 b, .int .u32 c]) (.int .i64 2)).run Try.prog w = .ok (.int .u32 c) w := fun _ => by kernel_rfl
  go_enter Try.func14, Try.ntmps14
  go_wp2
  refine wp_loop_rounds 4 ?_
  go_wp2_with (first | rw [rounds_succ] | (go_at_call 12; refine (sized_any _ _).mono ?_; rintro e w' ⟨rfl, rfl⟩))
  all_goals go_ret
  all_goals refine ⟨?_, (Below.refl _ _).alloc (Nat.le_refl _) _⟩
  all_goals simp_all [rightB]

def checkI (fl ln nx n : Int) : Int := if 4 ≤ fl then 3 else if 64 < ln then 4 else if fl % 2 = 1 ∧ n ≤ nx then 1 else 0

theorem check_any (ad ln fl nx n : Int) (h0 : 0 ≤ fl) (h1 : fl ≤ 4294967295) (h2 : 0 ≤ nx) (h3 : nx ≤ 4294967295) (w : World) :
    Calls Try.prog 15 #[.agg #[.int .u32 ad, .int .u32 ln, .int .u32 fl, .int .u32 nx], .int .i64 n] w fun e w' => e = .returned (.int .i64 (checkI fl ln nx n)) ∧ Below w.heap.size w w' := by
  have b1 := u32_andNot3 fl h0 h1
  have b2 := u32_and1 fl h0 h1
  go_enter Try.func15, Try.ntmps15
  go_wp2
  all_goals go_ret
  all_goals refine ⟨ret_int ?_, (Below.refl _ _).alloc (Nat.le_refl _) _⟩
  all_goals
    clear b1 b2
    unfold checkI
    simp only [bne_iff_ne, ne_eq, bne_eq_false_iff_eq] at *
    repeat' split
    all_goals omega

end Go.Proofs.Ytclpbphofifojaa
