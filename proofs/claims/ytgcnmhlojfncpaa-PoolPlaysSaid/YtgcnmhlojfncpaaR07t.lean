/- The reference's pool: Take, Left. -/
import Derived.Test.YtgcnmhlojfncpaaR07m
namespace Go.Proofs.Ytgcnmhlojfncpaa
open Go.ChangeShapes Go.WideShapes Go.ChangeAt Go.RowKit
set_option linter.unusedVariables false

section
variable {q t rb n : Nat} {G : Nat → Int} {uv tv : Value} {S : List stIt}
set_option maxHeartbeats 1000000 in
theorem rpTakeFull (g : Nat) (w : World) (h : RPlAt w q t rb n G uv tv S) (hg : g < 16) (hno : ∀ k, k < n → ¬ ((atL S k).who = g ∧ (atL S k).tk = false)) :
    Calls Try.prog 19 #[.pointer (some ⟨q, 0, none⟩), .int .i64 g] w fun e w' => e = .returned (.tuple #[.int .i64 0, .int .i64 2]) ∧ w = w' := by
  have h1 := h.cell1
  have h2 := h.cell2
  have hn32 := h.sto.1
  obtain ⟨ua, uc, hu⟩ := ownsRow_shape h.whos
  obtain ⟨ta, tc, ht⟩ := ownsRow_shape h.tks
  rw [h.len] at hu ht
  subst hu
  subst ht
  have hng : ¬ (g : Int) < 0 := by omega
  go_enter Try.func19, Try.ntmps19
  go_wp2_with fail
  go_loopw [6] (fun iv wr => ∃ k : Nat, k ≤ n ∧ iv = .int .i64 k ∧ wr = w ∧ ∀ j, j < k → ¬ ((atL S j).who = g ∧ (atL S j).tk = false)) (fun iv _ => n - (intOf iv).toNat)
  case atStart => exact ⟨0, Nat.zero_le _, rfl, rfl, fun j hj => by omega⟩
  case round =>
    obtain ⟨k, hk, rfl, rfl, hpre⟩ := hrel
    by_cases hkn : k < n
    · obtain ⟨gw, cap, hv, hc1, hc2, hgl, hc, hfz⟩ := h.itemW hkn
      obtain ⟨gt, capt, hvt, hd1, hd2, hgtl, hd, hfzt⟩ := h.itemT hkn
      cases hv
      cases hvt
      have hcf := hc k hkn
      have hdf := hd k hkn
      clear hc hd
      by_cases hx : (atL S k).who = g
      · cases hy : (atL S k).tk
        · exact absurd ⟨hx, hy⟩ (hno k hkn)
        · rw [hx] at hcf
          rw [hy] at hdf
          go_wp2
          go_roundw
          case rel =>
            refine ⟨k + 1, by omega, by go_num, by trivial, fun j hj hc => ?_⟩
            by_cases e : j = k
            · subst e
              first
              | exact hx hc.1
              | (rw [hc.2] at hy; cases hy)
            · exact hpre j (by omega) hc
          case measure => simp [intOf]; omega
      · obtain ⟨x, hxe⟩ : ∃ x, (atL S k).who = x := ⟨_, rfl⟩
        have hy : True := trivial
        rw [hxe] at hcf
        have hxg : ((x == (g : Int)) = false) := by rw [beq_eq_false_iff_ne, ← hxe]; exact hx
        clear hxe
        go_wp2
        go_roundw
        case rel =>
          refine ⟨k + 1, by omega, by go_num, by trivial, fun j hj hc => ?_⟩
          by_cases e : j = k
          · subst e
            first
            | exact hx hc.1
            | (rw [hc.2] at hy; cases hy)
          · exact hpre j (by omega) hc
        case measure => simp [intOf]; omega
    · go_wp2
      go_ret2
      exact ⟨rfl, rfl⟩
set_option maxHeartbeats 1000000 in
theorem rpTake (g f : Nat) (w : World) (h : RPlAt w q t rb n G uv tv S) (hg : g < 16) (hlow : Low S g f) :
    Calls Try.prog 19 #[.pointer (some ⟨q, 0, none⟩), .int .i64 g] w fun e w' => e = .returned (.tuple #[.int .i64 f, .int .i64 0]) ∧ RPlAt w' q t rb n G uv tv (S.set f ⟨g, true⟩) ∧ Frs (tchR rb uv tv) w w' := by
  have h1 := h.cell1
  have h2 := h.cell2
  have hn32 := h.sto.1
  have hfn : f < n := by rw [← h.len]; exact hlow.lt
  obtain ⟨ua, uc, hu⟩ := ownsRow_shape h.whos
  obtain ⟨ta, tc, ht⟩ := ownsRow_shape h.tks
  rw [h.len] at hu ht
  subst hu
  subst ht
  have hng : ¬ (g : Int) < 0 := by omega
  go_enter Try.func19, Try.ntmps19
  go_wp2_with fail
  go_loopw [6] (fun iv wr => ∃ k : Nat, k ≤ n ∧ iv = .int .i64 k ∧ wr = w ∧ ∀ j, j < k → ¬ ((atL S j).who = g ∧ (atL S j).tk = false)) (fun iv _ => n - (intOf iv).toNat)
  case atStart => exact ⟨0, Nat.zero_le _, rfl, rfl, fun j hj => by omega⟩
  case round =>
    obtain ⟨k, hk, rfl, rfl, hpre⟩ := hrel
    by_cases hkn : k < n
    · obtain ⟨gw, cap, hv, hc1, hc2, hgl, hc, hfz⟩ := h.itemW hkn
      obtain ⟨gt, capt, hvt, hd1, hd2, hgtl, hd, hfzt⟩ := h.itemT hkn
      have hS := fun hx : (atL S k).who = g => h.setTk (x := ⟨(g : Nat), true⟩) hkn hvt hx.symm ⟨g, hg, rfl⟩
      cases hv
      cases hvt
      have hcf := hc k hkn
      have hdf := hd k hkn
      have hzt := hfzt k
      clear hc hd
      by_cases hx : (atL S k).who = g
      · cases hy : (atL S k).tk
        · have hkf : k = f := by
            rcases Nat.lt_trichotomy k f with hh | hh | hh
            · exact absurd ⟨hx, hy⟩ (hlow.low k hh)
            · exact hh
            · exact absurd ⟨hlow.who, hlow.tk⟩ (hpre f hh)
          subst hkf
          have hS2 := Lib.hid (hS hx)
          rw [hx] at hcf
          rw [hy] at hdf
          clear hS hfz hfzt
          go_wp2
          go_ret2
          exact ⟨rfl, hS2.out, Frs.of_upd ((Upd.refl gt wr).setCell) (.inr (.inr rfl))⟩
        · rw [hx] at hcf
          rw [hy] at hdf
          clear hS
          go_wp2
          go_roundw
          case rel =>
            refine ⟨k + 1, by omega, by go_num, by trivial, fun j hj hc => ?_⟩
            by_cases e : j = k
            · subst e
              first
              | exact hx hc.1
              | (rw [hc.2] at hy; cases hy)
            · exact hpre j (by omega) hc
          case measure => simp [intOf]; omega
      · obtain ⟨x, hxe⟩ : ∃ x, (atL S k).who = x := ⟨_, rfl⟩
        have hy : True := trivial
        rw [hxe] at hcf
        have hxg : ((x == (g : Int)) = false) := by rw [beq_eq_false_iff_ne, ← hxe]; exact hx
        clear hxe hS
        go_wp2
        go_roundw
        case rel =>
          refine ⟨k + 1, by omega, by go_num, by trivial, fun j hj hc => ?_⟩
          by_cases e : j = k
          · subst e
            first
            | exact hx hc.1
            | (rw [hc.2] at hy; cases hy)
          · exact hpre j (by omega) hc
        case measure => simp [intOf]; omega
    · exact absurd ⟨hlow.who, hlow.tk⟩ (hpre f (by omega))
/-- How many of the first k are left. -/
def cntL (S : List stIt) (g k : Nat) : Nat := ((List.range k).filterMap (lfOf S g)).length
theorem cntL_succ (S : List stIt) (g k : Nat) : cntL S g (k + 1) = cntL S g k + if (atL S k).who = (g : Int) ∧ (atL S k).tk = false then 1 else 0 := by
  unfold cntL
  rw [List.range_succ, List.filterMap_append, List.length_append]
  congr 1
  unfold lfOf
  by_cases h : (atL S k).who = (g : Int) ∧ (atL S k).tk = false
  · simp [h]
  · simp [h]
theorem cntL_le (S : List stIt) (g k : Nat) : cntL S g k ≤ k := by
  have := List.length_filterMap_le (lfOf S g) (List.range k)
  simpa [cntL] using this
set_option maxHeartbeats 1000000 in
theorem rpLeft (g : Nat) (w : World) (h : RPlAt w q t rb n G uv tv S) :
    Calls Try.prog 24 #[.pointer (some ⟨q, 0, none⟩), .int .i64 g] w fun e w' => e = .returned (.int .i64 (leftL S g).length) ∧ w = w' := by
  have h1 := h.cell1
  have h2 := h.cell2
  have hn32 := h.sto.1
  obtain ⟨ua, uc, hu⟩ := ownsRow_shape h.whos
  obtain ⟨ta, tc, ht⟩ := ownsRow_shape h.tks
  rw [h.len] at hu ht
  subst hu
  subst ht
  have hng : (g : Int) ≥ 0 := by omega
  go_enter Try.func24, Try.ntmps24
  go_wp2_with fail
  go_loopw [5, 6] (fun nv iv wr => ∃ k : Nat, k ≤ n ∧ iv = .int .i64 k ∧ wr = w ∧ nv = .int .i64 (cntL S g k)) (fun _ iv _ => n - (intOf iv).toNat)
  case atStart => exact ⟨0, Nat.zero_le _, rfl, rfl, rfl⟩
  case round =>
    obtain ⟨k, hk, rfl, rfl, rfl⟩ := hrel
    have hcs := cntL_succ S g k
    have hcl := cntL_le S g k
    by_cases hkn : k < n
    · obtain ⟨gw, cap, hv, hc1, hc2, hgl, hc, hfz⟩ := h.itemW hkn
      obtain ⟨gt, capt, hvt, hd1, hd2, hgtl, hd, hfzt⟩ := h.itemT hkn
      cases hv
      cases hvt
      have hcf := hc k hkn
      have hdf := hd k hkn
      clear hc hd
      by_cases hx : (atL S k).who = g
      · cases hy : (atL S k).tk
        · rw [if_pos ⟨hx, hy⟩] at hcs
          rw [hx] at hcf
          rw [hy] at hdf
          have HCS := Lib.hid hcs
          clear hcs
          go_wp2
          go_roundw
          case rel => exact ⟨k + 1, by omega, by go_num, by trivial, by rw [HCS.out]; go_num⟩
          case measure => simp [intOf]; omega
        · rw [if_neg (by rw [hy]; simp)] at hcs
          rw [hx] at hcf
          rw [hy] at hdf
          have HCS := Lib.hid hcs
          clear hcs
          go_wp2
          go_roundw
          case rel => exact ⟨k + 1, by omega, by go_num, by trivial, by rw [HCS.out]; go_num⟩
          case measure => simp [intOf]; omega
      · rw [if_neg (fun hh => hx hh.1)] at hcs
        obtain ⟨x, hxe⟩ : ∃ x, (atL S k).who = x := ⟨_, rfl⟩
        rw [hxe] at hcf
        have hxg : ((x == (g : Int)) = false) := by rw [beq_eq_false_iff_ne, ← hxe]; exact hx
        have HCS := Lib.hid hcs
        clear hxe hcs
        go_wp2
        go_roundw
        case rel => exact ⟨k + 1, by omega, by go_num, by trivial, by rw [HCS.out]; go_num⟩
        case measure => simp [intOf]; omega
    · have e : n = k := by omega
      subst e
      have hl : (leftL S g).length = cntL S g n := by
        unfold leftL cntL
        rw [h.len]
      have HL := Lib.hid hl
      clear hl hcs
      go_wp2
      go_ret
      refine ⟨?_, rfl⟩
      rw [HL.out]
      rfl
theorem rpLeftNeg (g : Int) (w : World) (h : RPlAt w q t rb n G uv tv S) (hg : g < 0) :
    Calls Try.prog 24 #[.pointer (some ⟨q, 0, none⟩), .int .i64 g] w fun e w' => e = .returned (.int .i64 0) ∧ w = w' := by
  have h1 := h.cell1
  have h2 := h.cell2
  have hn32 := h.sto.1
  obtain ⟨ua, uc, hu⟩ := ownsRow_shape h.whos
  obtain ⟨ta, tc, ht⟩ := ownsRow_shape h.tks
  rw [h.len] at hu ht
  subst hu
  subst ht
  have hng : ¬ g ≥ 0 := by omega
  go_enter Try.func24, Try.ntmps24
  go_wp2_with fail
  go_loopw [5, 6] (fun nv iv wr => ∃ k : Nat, k ≤ n ∧ iv = .int .i64 k ∧ wr = w ∧ nv = .int .i64 0) (fun _ iv _ => n - (intOf iv).toNat)
  case atStart => exact ⟨0, Nat.zero_le _, rfl, rfl, rfl⟩
  case round =>
    obtain ⟨k, hk, rfl, rfl, rfl⟩ := hrel
    by_cases hkn : k < n
    · obtain ⟨gw, cap, hv, hc1, hc2, hgl, hc, hfz⟩ := h.itemW hkn
      cases hv
      have hcf := hc k hkn
      clear hc
      obtain ⟨x, hxe⟩ : ∃ x, (atL S k).who = x := ⟨_, rfl⟩
      rw [hxe] at hcf
      clear hxe
      go_wp2
      all_goals
        go_roundw
        case rel => exact ⟨k + 1, by omega, by go_num, by trivial, by trivial⟩
        case measure => simp [intOf]; omega
    · go_wp2
      go_ret
      exact ⟨rfl, rfl⟩
end
end Go.Proofs.Ytgcnmhlojfncpaa
