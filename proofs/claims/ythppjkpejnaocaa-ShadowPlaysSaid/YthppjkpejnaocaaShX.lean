/- law 19: two lists that are the same, compared. -/
import Derived.Test.YthppjkpejnaocaaShU
import Derived.Test.YthppjkpejnaocaaShV
import Derived.Test.YthppjkpejnaocaaInts
namespace Go.Proofs.Ythppjkpejnaocaa
open Go.ChangeShapes Go.WideShapes Go.ChangeAt Go.RowKit
set_option linter.unusedVariables false

@[go_sem] theorem ent_held : Try.prog.stoodInHeld 32 = false := by kernel_rfl
@[go_sem] theorem ent_guard : Try.prog.eqGuardType Try.prog.depth 32 = false := by kernel_rfl
theorem neq_keyS (a b : Int) (w : World) : (binOp .neq 30 (.agg #[.int .i64 a, .int .i64 b]) (.agg #[.int .i64 a, .int .i64 b])).run Try.prog w = .ok (.bool false) w := by
  simp [go_sem]
theorem neq_kptS (a b c d e : Int) (w : World) : (binOp .neq 39 (.agg #[.int .i64 a, .int .i64 b, .int .i64 c, .int .i64 d, .int .i64 e]) (.agg #[.int .i64 a, .int .i64 b, .int .i64 c, .int .i64 d, .int .i64 e])).run Try.prog w = .ok (.bool false) w := by
  simp [go_sem]
theorem neq_entS (a b c : Int) (w : World) : (binOp .neq 32 (.agg #[.int .i64 a, .int .i64 b, .int .i64 c]) (.agg #[.int .i64 a, .int .i64 b, .int .i64 c])).run Try.prog w = .ok (.bool false) w := by
  simp [go_sem]
theorem neq_boolS (x : Bool) (w : World) : (binOp .neq 4 (.bool x) (.bool x)).run Try.prog w = .ok (.bool false) w := by
  simp [go_sem]
set_option maxHeartbeats 400000 in
theorem keys_eq (a b : Option Addr) (n c d : Nat) (l : List ln) (w : World) (h : ItemsAt 2 kyEnc w a n l) (h' : ItemsAt 2 kyEnc w b n l) (hn : n ≤ 9223372036854775807) :
    Calls Try.prog 19 #[.slice a n c, .slice b n d] w fun e w' => e = .returned (.bool true) ∧ Below w.heap.size w w' := by
  go_enter Try.func19, Try.ntmps19
  go_wp2_with fail
  go_loopw [5] (fun i wr => ∃ k : Nat, k ≤ n ∧ i = .int .i64 k ∧ ∃ q, wr = w.drewN q) (fun i _ => n - (intOf i).toNat)
  case atStart => exact ⟨0, Nat.zero_le _, rfl, 0, rfl⟩
  case round =>
    obtain ⟨k, hk, rfl, q, rfl⟩ := hrel
    by_cases hlt : k < n
    · obtain ⟨g, o, rfl, hg, hc⟩ := h.2 (by omega)
      obtain ⟨g', o', rfl, hg', hc'⟩ := h'.2 (by omega)
      have d0 := hc k hlt 0 (by omega)
      have d1 := hc k hlt 1 (by omega)
      have d0' := hc' k hlt 0 (by omega)
      have d1' := hc' k hlt 1 (by omega)
      simp only [kyEnc, List.getElem?_cons_succ, List.getElem?_cons_zero, Nat.add_zero] at d0 d1 d0' d1'
      clear hc hc' h h'
      have hS := neq_keyS (atL l k).kr (atL l k).kp
      go_wp2_with fail
      go_quiet (fail)
      go_wp2
      go_roundw
      case rel => exact ⟨k + 1, by omega, by go_num, _, rfl⟩
      case measure => simp [intOf]; omega
    · obtain rfl : k = n := by omega
      go_wp2
      go_ret
      exact ⟨rfl, ⟨rfl, rfl, rfl, Nat.le_refl _, fun _ _ => rfl⟩⟩
set_option maxHeartbeats 400000 in
theorem same_eq (a b : Option Addr) (n c d : Nat) (l : List ln) (w : World) (h : ItemsAt 5 kpEnc w a n l) (h' : ItemsAt 5 kpEnc w b n l) (hn : n ≤ 9223372036854775807) :
    Calls Try.prog 24 #[.slice a n c, .slice b n d] w fun e w' => e = .returned (.bool true) ∧ Below w.heap.size w w' := by
  go_enter Try.func24, Try.ntmps24
  go_wp2_with fail
  go_loopw [5] (fun i wr => ∃ k : Nat, k ≤ n ∧ i = .int .i64 k ∧ ∃ q, wr = w.drewN q) (fun i _ => n - (intOf i).toNat)
  case atStart => exact ⟨0, Nat.zero_le _, rfl, 0, rfl⟩
  case round =>
    obtain ⟨k, hk, rfl, q, rfl⟩ := hrel
    by_cases hlt : k < n
    · obtain ⟨g, o, rfl, hg, hc⟩ := h.2 (by omega)
      obtain ⟨g', o', rfl, hg', hc'⟩ := h'.2 (by omega)
      have d0 := hc k hlt 0 (by omega)
      have d1 := hc k hlt 1 (by omega)
      have d2 := hc k hlt 2 (by omega)
      have d3 := hc k hlt 3 (by omega)
      have d4 := hc k hlt 4 (by omega)
      have d0' := hc' k hlt 0 (by omega)
      have d1' := hc' k hlt 1 (by omega)
      have d2' := hc' k hlt 2 (by omega)
      have d3' := hc' k hlt 3 (by omega)
      have d4' := hc' k hlt 4 (by omega)
      simp only [kpEnc, List.getElem?_cons_succ, List.getElem?_cons_zero, Nat.add_zero] at d0 d1 d2 d3 d4 d0' d1' d2' d3' d4'
      clear hc hc' h h'
      have hS := neq_kptS (atL l k).kr (atL l k).kp (atL l k).ep (atL l k).ef (atL l k).er
      go_wp2_with fail
      go_quiet (fail)
      go_wp2
      go_roundw
      case rel => exact ⟨k + 1, by omega, by go_num, _, rfl⟩
      case measure => simp [intOf]; omega
    · obtain rfl : k = n := by omega
      go_wp2
      go_ret
      exact ⟨rfl, ⟨rfl, rfl, rfl, Nat.le_refl _, fun _ _ => rfl⟩⟩
end Go.Proofs.Ythppjkpejnaocaa
