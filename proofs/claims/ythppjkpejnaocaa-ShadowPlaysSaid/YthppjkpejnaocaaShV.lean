/- shadow: two translations compared. -/
import Derived.Test.YthppjkpejnaocaaShW
namespace Go.Proofs.Ythppjkpejnaocaa
open Go.ChangeShapes Go.WideShapes Go.ChangeAt Go.RowKit
set_option linter.unusedVariables false

@[go_sem] theorem kpt_held : Try.prog.stoodInHeld 39 = false := by kernel_rfl
@[go_sem] theorem kpt_guard : Try.prog.eqGuardType Try.prog.depth 39 = false := by kernel_rfl
def kp10 (a b c d e a' b' c' d' e' : Int) : Bool := a == a' && (b == b' && (c == c' && (d == d' && e == e')))
@[go_sem high] theorem eql_kept (a b c d e a' b' c' d' e' : Int) (w : World) : (binOp .eql 39 (.agg #[.int .i64 a, .int .i64 b, .int .i64 c, .int .i64 d, .int .i64 e]) (.agg #[.int .i64 a', .int .i64 b', .int .i64 c', .int .i64 d', .int .i64 e'])).run Try.prog w = .ok (.bool (kp10 a b c d e a' b' c' d' e')) w := by
  simp [go_sem, kp10]
  repeat' split
  all_goals simp_all
def kpB (x y : ln) : Bool := kp10 x.kr x.kp x.ep x.ef x.er y.kr y.kp y.ep y.ef y.er
theorem kpB_refl (x : ln) : kpB x x = true := by simp [kpB, kp10]
theorem kpB_iff (x y : ln) : kpB x y = true ↔ kpEnc x = kpEnc y := by
  simp [kpB, kp10, kpEnc]
/-- Behind a write of a page it is no table. -/
theorem table_wrote (l : List ln) (p : Int) : tableB (l.filter fun x => !thrB p x) p = false := by
  rw [tableB, List.any_eq_false]
  intro x hx
  have := (List.mem_filter.1 hx).2
  simpa using this
theorem table_gone (l : List ln) (p : Int) : tableB (l.filter fun x => !goneB p x) p = false := by
  rw [tableB, List.any_eq_false]
  intro x hx
  have := (List.mem_filter.1 hx).2
  simp [goneB] at this
  simp [this.1]
theorem none_wrote (l : List ln) (p : Int) : (l.filter fun x => !thrB p x).filter (thrB p) = [] := by
  rw [List.filter_eq_nil_iff]
  intro x hx
  have := (List.mem_filter.1 hx).2
  simpa using this
theorem some_wrote (l : List ln) (p : Int) : (l.filter fun x => !thrB p x).filter (fun x => !thrB p x) = l.filter fun x => !thrB p x := by
  rw [List.filter_filter]
  simp
theorem ep_gone {l : List ln} {p : Int} {x : ln} (hx : x ∈ l.filter fun x => !goneB p x) : (x.ep == p) = false := by
  have := (List.mem_filter.1 hx).2
  simp [goneB] at this
  simpa using this.2
end Go.Proofs.Ythppjkpejnaocaa
