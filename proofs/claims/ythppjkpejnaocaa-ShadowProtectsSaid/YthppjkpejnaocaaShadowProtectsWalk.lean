/- law 19: ShadowProtects. -/
import Derived.Test.YthppjkpejnaocaaShW
namespace Go.Proofs.Ythppjkpejnaocaa
open Go.ChangeShapes Go.WideShapes Go.ChangeAt Go.RowKit
set_option linter.unusedVariables false

set_option maxRecDepth 100000 in
set_option maxHeartbeats 4000000 in
theorem shadowProtects_walk (p0 : Option Addr) (n0 c0 : Nat) (f0 : Nat → List Value) (w : World) (w0 : SliceOk [some .i64, some .i64, some .i64, some .i64, some .i64, some .i64, some .i64, some .i64] w p0 n0 c0 f0) (hR0 : c0 * 64 ≤ 140737488351232) :
    Calls Try.prog 3 #[.slice p0 n0 c0] w fun e w' => e = .returned (.bool true) ∧ Below w.heap.size w w' := by
  clear hR0
  have hm0 : n0 ≤ 9223372036854775807 := Nat.le_trans w0.1 w0.2.1
  go_enter Try.func3, Try.ntmps3
  go_wp2_with fail
  refine (sh_new _).mono ?_
  rintro e w1 ⟨rfl, h1, b1, _⟩
  have hB1 : Bel w.heap.size w w1 := Bel.of (Bel.refl w) b1
  obtain ⟨b, hb⟩ : ∃ b, w.heap.size = b := ⟨_, rfl⟩
  rw [hb] at h1
  go_wp2_with fail
  go_loopw [4] (fun iv wr => ∃ (i : Nat) (v : Value) (l : List ln), i ≤ 100 ∧ iv = .int .i64 i ∧ ShIn wr b v l ∧ PInv l ∧ Bel w.heap.size w wr) (fun iv _ => 100 - (intOf iv).toNat)
  case atStart => exact ⟨0, _, [], Nat.zero_le _, rfl, h1, PInv.nil, hB1⟩
  case round =>
    clear h1 hB1 b1
    obtain ⟨i, v, l, hi, rfl, hr, hP, hB⟩ := hrel
    by_cases hall : i < n0 ∧ i < 100
    · obtain ⟨i0, i100⟩ := hall
      obtain ⟨b1, o1, a, rfl, hA⟩ := acts_at w0 i0
      have hA2 := hA.below hB.1 (Nat.le_refl _)
      clear w0 hA
      have r0 := hA2.c0
      have r1 := hA2.c1
      have r2 := hA2.c2
      have r3 := hA2.c3
      have r4 := hA2.c4
      have r5 := hA2.c5
      have r6 := hA2.c6
      have r7 := hA2.c7
      have hd := sh_does a wr hr hP.1
      unfold actV at hd
      have hP2 := hP.act a
      obtain ⟨kd, ⟨k0, k1, e0, e1, e2, rt, lf⟩⟩ := a
      clear hA2
      go_wp2_with fail
      refine hd.mono ?_
      rintro e w2 ⟨u1, u2, v2, rfl, _, h2, f2⟩
      have hB2 := hB.frm f2 (Nat.le_of_eq hb) (fun g hg => by have := (hr.own g hg).1; omega)
      generalize doL l ⟨kd, ⟨k0, k1, e0, e1, e2, rt, lf⟩⟩ = l2 at *
      clear hd r0 r1 r2 r3 r4 r5 r6 r7 hr hP f2 hB
      have hl2 := hP2.1
      go_wp2_with fail
      refine (sh_list _ h2 (by omega)).mono ?_
      rintro e w3 ⟨u, rfl, hown, b3⟩
      obtain ⟨ua, uc, rfl, huc1, huc2, hit, _⟩ := items_of_owned kpEnc_length hown
      have h3 := h2.below b3
      have hB3 := hB2.of b3
      clear hown b3 h2 hB2
      go_wp2_with fail
      go_loopw [6] (fun jv wr => ∃ j : Nat, j ≤ l2.length ∧ jv = .int .i64 j ∧ wr = w3) (fun jv _ => l2.length - (intOf jv).toNat)
      case atStart => exact ⟨0, Nat.zero_le _, rfl, rfl⟩
      case round =>
        obtain ⟨j, hj, rfl, rfl⟩ := hrel
        by_cases hjl : j < l2.length
        · obtain ⟨g, o, rfl, hg, hc⟩ := hit.2 (by omega)
          have d2 := hc j hjl 2 (by omega)
          have d4 := hc j hjl 4 (by omega)
          simp only [kpEnc, List.getElem?_cons_succ, List.getElem?_cons_zero] at d2 d4
          have hT := sh_table (atL l2 j).ep wr h3 (by omega)
          have hpp := hP2.2 _ (mem_atL hjl)
          clear hc hit
          cases hX : tableB l2 (atL l2 j).ep
          · rw [hX] at hT
            clear hX hpp
            go_wp2_with fail
            refine hT.mono ?_
            rintro e w4 ⟨rfl, rfl⟩
            go_wp2
            go_roundw
            case rel => exact ⟨j + 1, by omega, by go_num, by trivial⟩
            case measure => simp [intOf]; omega
          · have hz := hpp hX
            rw [hX] at hT
            clear hX hpp
            go_wp2_with fail
            refine hT.mono ?_
            rintro e w4 ⟨rfl, rfl⟩
            go_wp2
            go_roundw
            case rel => exact ⟨j + 1, by omega, by go_num, by trivial⟩
            case measure => simp [intOf]; omega
        · obtain rfl : j = l2.length := by omega
          clear hit
          go_wp2
          go_roundw
          case rel => exact ⟨i + 1, v2, l2, by omega, by go_num, h3, hP2, hB3⟩
          case measure => simp [intOf]; omega
    · have hcase : ¬ i < n0 ∨ (i < n0 ∧ ¬ i < 100) := by omega
      clear hall w0 hr hP
      rcases hcase with hc | ⟨hc1, hc⟩
      all_goals
        go_wp2_with fail
        refine (awake19 _).mono ?_
        rintro e w4 ⟨rfl, b4⟩
        have hBb := hB.of b4
        go_wp2
        go_ret
        exact ⟨rfl, hBb.1⟩
end Go.Proofs.Ythppjkpejnaocaa
