/- The walk of hermitagelaw21.DescRight: it answers true at every input. -/
import Derived.Test.YtclpbphofifojaaD21
namespace Go.Proofs.Ytclpbphofifojaa
open Go.ChangeShapes Go.WideShapes Go.ChangeAt Go.RowKit
set_option linter.unusedVariables false

theorem right_aligned (a b c n : Int) : (rightB (a / 4 * 4) (b / 4 * 4) (c / 4 * 4) n == sizedB n) = true := by
  simp [rightB, Int.mul_emod_left]

theorem right_same (a b c n : Int) (h : (a / 4 * 4 == a && (b / 4 * 4 == b && c / 4 * 4 == c)) = true) : (rightB a b c n == sizedB n) = true := by
  simp only [Bool.and_eq_true, beq_iff_eq] at h
  have e1 : a % 4 = 0 := by omega
  have e2 : b % 4 = 0 := by omega
  have e3 : c % 4 = 0 := by omega
  simp [rightB, e1, e2, e3]

theorem right_other (a b c n : Int) (h : (a / 4 * 4 == a && (b / 4 * 4 == b && c / 4 * 4 == c)) = false) : rightB a b c n = false := by
  have : ¬ (a % 4 = 0 ∧ b % 4 = 0 ∧ c % 4 = 0) := by
    rintro ⟨h1, h2, h3⟩
    have : (a / 4 * 4 == a && (b / 4 * 4 == b && c / 4 * 4 == c)) = true := by simp; omega
    rw [h] at this
    cases this
  unfold rightB
  rw [Bool.and_eq_false_iff]
  left
  simp only [Bool.and_eq_false_iff, beq_eq_false_iff_ne]
  omega

theorem check_more (fl ln nx m n : Int) (h : checkI fl ln nx m = 0) (hmn : m ≤ n) : checkI fl ln nx n = 0 := by
  unfold checkI at *
  repeat' split
  all_goals (repeat' split at h)
  all_goals omega

set_option maxHeartbeats 1000000 in
theorem descRight_core (a b c n : Int) (ad ln fl nx : Int) (m : Int) (w : World) (ha : 0 ≤ a) (hb : 0 ≤ b) (hc : 0 ≤ c) (ha1 : a ≤ 4294967295) (hb1 : b ≤ 4294967295) (hc1 : c ≤ 4294967295)
    (hfl : 0 ≤ fl) (hfl1 : fl ≤ 4294967295) (hnx : 0 ≤ nx) (hnx1 : nx ≤ 4294967295) (hm1 : -9223372036854775808 ≤ m) (hm2 : m ≤ 9223372036854775807) :
    Calls Try.prog 4 #[.agg #[.int .u32 a, .int .u32 b, .int .u32 c, .int .i64 n], .agg #[.int .u32 ad, .int .u32 ln, .int .u32 fl, .int .u32 nx], .int .i64 m] w fun e w' => e = .returned (.bool true) ∧ Below w.heap.size w w' := by
  have b1 := u32_andNot3 a ha ha1
  have b2 := u32_andNot3 b hb hb1
  have b3 := u32_andNot3 c hc hc1
  have d1 := right_aligned a b c n
  cases hs : (a / 4 * 4 == a && (b / 4 * 4 == b && c / 4 * 4 == c))
  case' true => have d2 := right_same a b c n hs
  case' false => have d2 := right_other a b c n hs
  all_goals
    go_enter Try.func4, Try.ntmps4
    go_wp2_with fail
    refine wp_region_later (by kernel_rfl) (by kernel_rfl) ?_
    repeat (first | go_big_quiet_step (first | (go_at_call 14; exact Calls.later_of (right_any _ _ _ _ (by omega) (by omega) (by omega) _)) | (go_at_call 12; exact Calls.later_same (sized_any _ _))))
    refine wpQuiet_nil ?_
    intro _ hw'
    obtain ⟨x1, hw''⟩ := hw'
    subst hw''
    go_wp2_with fail
    clear d1 d2 b1 b2 b3 hs
    refine (Calls.lat (check_any ad ln fl nx _ hfl hfl1 hnx hnx1 _)).mono ?_
    rintro e w' ⟨rfl, x2, rfl⟩
    by_cases hq : checkI fl ln nx (m.tdiv 2) = 0
    · by_cases hlt : m < m.tdiv 2
      · go_wp2_with (go_at_call 13; refine (Calls.lat (awake21 _)).mono ?_; rintro e w' ⟨rfl, x3, rfl⟩)
        go_ret
        exact ⟨rfl, by refine (?_ : Bel _ _ _).1; repeat (first | exact Bel.refl _ | apply Bel.later | apply Bel.alloc)⟩
      · have hk := check_more fl ln nx (m.tdiv 2) m hq (by omega)
        go_wp2_with (first | (go_at_call 13; refine (Calls.lat (awake21 _)).mono ?_; rintro e w' ⟨rfl, x4, rfl⟩) | (go_at_call 15; refine (Calls.lat (check_any ad ln fl nx m hfl hfl1 hnx hnx1 _)).mono ?_; rintro e w' ⟨rfl, x3, rfl⟩))
        go_ret
        exact ⟨rfl, by refine (?_ : Bel _ _ _).1; repeat (first | exact Bel.refl _ | apply Bel.later | apply Bel.alloc)⟩
    · have hq2 : (checkI fl ln nx (m.tdiv 2) != 0) = true := by simp [hq]
      clear hq
      go_wp2_with (go_at_call 13; refine (Calls.lat (awake21 _)).mono ?_; rintro e w' ⟨rfl, x3, rfl⟩)
      go_ret
      exact ⟨rfl, by refine (?_ : Bel _ _ _).1; repeat (first | exact Bel.refl _ | apply Bel.later | apply Bel.alloc)⟩

theorem descRight_walk (l0 : List Value) (l1 : List Value) (m : Int) (w : World) (w0 : rowOk [some .u32, some .u32, some .u32, some .i64] l0) (w1 : rowOk [some .u32, some .u32, some .u32, some .u32] l1) (w2 : (Lit.int .i64 m).wf = true) :
    Calls Try.prog 4 #[.agg l0.toArray, .agg l1.toArray, .int .i64 m] w fun e w' => e = .returned (.bool true) ∧ Below w.heap.size w w' := by
  obtain ⟨a, r, rfl, wa, w0⟩ := rowOk_int w0
  obtain ⟨b, r, rfl, wb, w0⟩ := rowOk_int w0
  obtain ⟨c, r, rfl, wc, w0⟩ := rowOk_int w0
  obtain ⟨n, r, rfl, wn, w0⟩ := rowOk_int w0
  obtain rfl := rowOk_nil w0
  obtain ⟨ad, r, rfl, wad, w1⟩ := rowOk_int w1
  obtain ⟨ln, r, rfl, wln, w1⟩ := rowOk_int w1
  obtain ⟨fl, r, rfl, wfl, w1⟩ := rowOk_int w1
  obtain ⟨nx, r, rfl, wnx, w1⟩ := rowOk_int w1
  obtain rfl := rowOk_nil w1
  have ba := bounds_u32 wa
  have bb := bounds_u32 wb
  have bc := bounds_u32 wc
  have bfl := bounds_u32 wfl
  have bnx := bounds_u32 wnx
  have bm := bounds_i64 w2
  exact descRight_core a b c n ad ln fl nx m w ba.1 bb.1 bc.1 ba.2 bb.2 bc.2 bfl.1 bfl.2 bnx.1 bnx.2 bm.1 bm.2

end Go.Proofs.Ytclpbphofifojaa
