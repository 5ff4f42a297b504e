/- law 28: VicMask. -/
import Derived.Test.YtddngfhiaolkeaaVl
namespace Go.Proofs.Ytddngfhiaolkeaa
open Go.ChangeShapes Go.WideShapes Go.ChangeAt Go.RowKit
set_option linter.unusedVariables false

set_option maxRecDepth 20000 in
set_option maxHeartbeats 2000000 in
theorem vicMask_walk (a0 : Int) (a1 : Int) (w : World) (w0 : (Lit.int .u8 a0).wf = true) (w1 : (Lit.int .u8 a1).wf = true) :
    Calls Try.prog 4 #[.int .u8 a0, .int .u8 a1] w fun e w' => e = .returned (.bool true) ∧ Below w.heap.size w w' := by
  obtain ⟨ha0, ha1⟩ := bounds_u8 w0
  obtain ⟨hb0, hb1⟩ := bounds_u8 w1
  obtain ⟨x, hx⟩ : ∃ x : Nat, a0 % 8 = x := ⟨(a0 % 8).toNat, by omega⟩
  obtain ⟨y, hy⟩ : ∃ y : Nat, a1 % 8 = y := ⟨(a1 % 8).toNat, by omega⟩
  have hx8 : x < 8 := by omega
  have hy8 : y < 8 := by omega
  clear w0 w1
  go_enter Try.func4, Try.ntmps4
  go_wp2_with fail
  refine (vcNew _).mono ?_
  rintro e w1 ⟨rfl, b1, h1⟩
  have hb1 : Bel w.heap.size w w1 := ⟨b1, b1.size⟩
  by_cases hxy : x = y
  · subst hxy
    go_wp2_with fail
    refine (awake28 _).mono ?_
    rintro e w2 ⟨rfl, b2⟩
    go_wp2
    go_ret
    exact ⟨rfl, (hb1.of b2).1⟩
  · have hyx : y ≠ x := fun e => hxy e.symm
    go_wp2_with fail
    refine (vcMask w.heap.size 0 _ _ _ x true _ h1 hx8).mono ?_
    rintro e w2 ⟨rfl, v2, l2, h2, f2⟩
    have hb2 := h1.grow hb1 (Nat.le_refl _) f2
    obtain ⟨s2, hs2⟩ : ∃ s, putF vc0 x { vc0 x with ms := true } = s := ⟨_, rfl⟩
    rw [hs2] at h2
    have s2x : s2 x = ⟨false, true, 0, 0⟩ := by rw [← hs2, putF_at]; rfl
    have s2k : ∀ k, k ≠ x → s2 k = ⟨false, false, 0, 0⟩ := fun k hk => by rw [← hs2, putF_ne _ _ hk]; rfl
    have n2 : nW s2 = 0 := by rw [← hs2, nW_same (s := vc0) (x := { vc0 x with ms := true }) hx8 rfl, nW0]
    clear hs2
    have S2 := Lib.hid s2k
    clear s2k
    go_wp2_with fail
    refine (vcRaise w.heap.size 0 _ _ _ x _ h2 hx8 (by rw [s2x]) (by omega)).mono ?_
    rintro e w3 ⟨rfl, v3, l3, h3, f3⟩
    have hb3 := h2.grow hb2 (Nat.le_refl _) f3
    rw [s2x] at h3
    obtain ⟨s3, hs3⟩ : ∃ s, putF s2 x ⟨true, true, 0, (0 + 1 : Nat)⟩ = s := ⟨_, rfl⟩
    simp only at h3
    rw [hs3] at h3
    have s3x : s3 x = ⟨true, true, 0, 1⟩ := by rw [← hs3, putF_at]; rfl
    have s3k : ∀ k, k ≠ x → s3 k = ⟨false, false, 0, 0⟩ := fun k hk => by rw [← hs3, putF_ne _ _ hk]; exact S2.out k hk
    have n3 : nW s3 = 1 := by rw [← hs3, nW_up hx8 (by rw [s2x]) rfl, n2]
    clear hs3 s2x n2
    have S3 := Lib.hid s3k
    have s3y := s3k y hyx
    clear s3k
    go_wp2_with fail
    refine (vcRaise w.heap.size 1 _ _ _ y _ h3 hy8 (by rw [s3y]) (by omega)).mono ?_
    rintro e w4 ⟨rfl, v4, l4, h4, f4⟩
    have hb4 := h3.grow hb3 (Nat.le_refl _) f4
    rw [s3y] at h4
    obtain ⟨s4, hs4⟩ : ∃ s, putF s3 y ⟨true, false, 0, (1 + 1 : Nat)⟩ = s := ⟨_, rfl⟩
    simp only at h4
    rw [hs4] at h4
    have s4x : s4 x = ⟨true, true, 0, 1⟩ := by rw [← hs4, putF_ne _ _ hxy]; exact s3x
    have s4y : s4 y = ⟨true, false, 0, 2⟩ := by rw [← hs4, putF_at]; rfl
    have s4k : ∀ k, k ≠ x → k ≠ y → s4 k = ⟨false, false, 0, 0⟩ := fun k hk hk2 => by rw [← hs4, putF_ne _ _ hk2]; exact S3.out k hk
    have n4 : nW s4 = 2 := by rw [← hs4, nW_up hy8 (by rw [s3y]) rfl, n3]
    clear hs4 s3x s3y n3
    have t4 : Top s4 y := ⟨hy8, by rw [s4y]; rfl, fun k hk ha hky => by
      by_cases e : k = x
      · subst e; rw [s4x] at ha; cases ha
      · rw [s4k k e hky] at ha; cases ha⟩
    have S4 := Lib.hid s4k
    clear s4k
    go_wp2_with fail
    refine (vcNextIs _ h4 t4).mono ?_
    rintro e w' ⟨rfl, rfl⟩
    clear t4
    go_wp2_with fail
    refine (vcWaitsN h4).mono ?_
    rintro e w5 ⟨a5, c5, rfl, o5, b5⟩
    rw [n4]
    have h5 := h4.below b5
    have hb5 := hb4.of b5
    clear o5
    go_wp2_with fail
    refine (vcMask w.heap.size _ _ _ _ x false _ h5 hx8).mono ?_
    rintro e w6 ⟨rfl, v6, l6, h6, f6⟩
    have hb6 := h5.grow hb5 (Nat.le_refl _) f6
    rw [s4x] at h6
    obtain ⟨s6, hs6⟩ : ∃ s, putF s4 x ⟨true, false, 0, 1⟩ = s := ⟨_, rfl⟩
    simp only at h6
    rw [hs6] at h6
    have s6x : s6 x = ⟨true, false, 0, 1⟩ := by rw [← hs6, putF_at]
    have s6y : s6 y = ⟨true, false, 0, 2⟩ := by rw [← hs6, putF_ne _ _ hyx]; exact s4y
    have s6k : ∀ k, k ≠ x → k ≠ y → s6 k = ⟨false, false, 0, 0⟩ := fun k hk hk2 => by rw [← hs6, putF_ne _ _ hk]; exact S4.out k hk hk2
    clear hs6 s4x s4y n4
    have t6 : Top s6 x := ⟨hx8, by rw [s6x]; rfl, fun k hk ha hkx => by
      by_cases e : k = y
      · subst e; rw [s6x, s6y]; simp
      · rw [s6k k hkx e] at ha; cases ha⟩
    have S6 := Lib.hid s6k
    clear s6k
    go_wp2_with fail
    refine (vcTakeIs _ h6 t6).mono ?_
    rintro e w7 ⟨rfl, v7, l7, h7, f7⟩
    have hb7 := h6.grow hb6 (Nat.le_refl _) f7
    rw [s6x] at h7
    clear t6
    have t7 : Top (putF s6 x ⟨false, false, 0, 1⟩) y := by
      have e2 : putF s6 x ⟨false, false, 0, 1⟩ y = s6 y := putF_ne _ _ hyx
      refine ⟨hy8, by rw [e2, s6y]; rfl, fun k hk ha hky => ?_⟩
      by_cases e : k = x
      · subst e; rw [putF_at] at ha; cases ha
      · rw [putF_ne _ _ e, S6.out k e hky] at ha; cases ha
    go_wp2_with fail
    refine (vcTakeIs _ h7 t7).mono ?_
    rintro e w8 ⟨rfl, v8, l8, h8, f8⟩
    have hb8 := h7.grow hb7 (Nat.le_refl _) f8
    clear t7
    go_wp2_with fail
    refine (awake28 _).mono ?_
    rintro e w9 ⟨rfl, b9⟩
    go_wp2
    go_ret
    exact ⟨rfl, (hb8.of b9).1⟩
end Go.Proofs.Ytddngfhiaolkeaa
