/- law 35: ImageGone. -/
import Derived.Test.YtklgfnboadchmaaMrgE
namespace Go.Proofs.Ytklgfnboadchmaa
open Go.ChangeShapes Go.WideShapes Go.ChangeAt Go.RowKit
set_option linter.unusedVariables false
set_option maxRecDepth 20000

def gM : Nat → Int × Int := upd zeroMap 9 (2, 1)
theorem gM_set : setRes zeroMap 9 2 1 = 0 := by decide
theorem gM_new : setNew zeroMap 9 2 1 = gM := by
  rw [setNew, if_pos (by decide)]
  rfl
theorem gM_low {j : Nat} (h : j < 8) : gM j = (0, 0) := by rw [gM, upd_ne _ _ (by omega)]; rfl
theorem gM_free (k : Nat) (h : k ≤ 8) : freeB gM k = true := by
  simp [freeB]
  intro j hj
  rw [isThere, gM_low (by omega)]
  simp
theorem left32 : (leftL (hostL 32) 1).length = 22 := by decide
def g0 : Im3 := ⟨hostL 32, fun _ => 0, gM⟩
theorem layEg (k : Nat) (h : k < 9) (h1 : 1 ≤ k) : layE (hostL 32) gM 1 k = 0 := by
  have hc : leftC (hostL 32) 1 = 22 := by rw [leftC, if_pos (by omega), show (1 : Int).toNat = 1 from rfl, left32]; rfl
  rw [layE, if_neg (by omega), Int.toNat_natCast, gM_free k (by omega), if_neg (by simp), hc, if_neg (by omega)]
theorem layEu {S : List stIt} {M : Nat → Int × Int} {k : Nat} (h : k < 9) (h1 : 1 ≤ k) (hf : isThere M 0 = true) : layE S M 1 k = 5 := by
  rw [layE, if_neg (by omega), Int.toNat_natCast, if_pos (freeB_no (by omega : 0 < k) hf)]
theorem layTo_M {n g N : Nat} {W : Nat → Int} {x : Im3} {j : Nat} : ∀ {i : Nat}, i ≤ j → (layTo n g W N x i).M j = x.M j
  | 0, _ => rfl
  | i + 1, h => by
    have e := layTo_M (n := n) (g := g) (N := N) (W := W) (x := x) (j := j) (i := i) (by omega)
    rw [← e, layTo, lay1]
    exact setNew_other (show j ≠ i by omega)
theorem leftC_one (S : List stIt) : leftC S 1 = (leftL S 1).length := by rw [leftC, if_pos (by omega)]; rfl
theorem svG_60 {n f : Nat} {G : Nat → Int} {v : Int} (hf : f < n) : svG n G f 60 4 v = putF G (f * 64 + 60) 4 v := svG_in (o := 60) hf (by omega)
/-- Bytes of what is taken. -/
theorem Ok.sv {x : Im3} {G' : Nat → Int} (h : Ok x) (hG : ∀ f, f < 32 → (atL x.S f).tk = false → ∀ i, i < 64 → fr G' f i = fr x.G f i) : Ok ⟨x.S, G', x.M⟩ :=
  ⟨h.len, h.who, fun f hf ht => clean_congr (hG f hf ht) (h.clean f hf ht), h.page, h.take, h.one⟩
theorem cntT_eq {M : Nat → Int × Int} {k : Nat} : ∀ {m : Nat}, (∀ j, j < m → isThere M j = decide (j < k)) → cntT M m = min m k
  | 0, _ => by simp [cntT]
  | m + 1, h => by
    rw [cntT, cntT_eq (k := k) (fun j hj => h j (by omega)), h m (by omega)]
    by_cases e : m < k
    · rw [if_pos (by simpa using e)]; omega
    · rw [if_neg (by simpa using e)]; omega
theorem cntT_none {M : Nat → Int × Int} {m : Nat} (h : ∀ j, j < m → isThere M j = false) : cntT M m = 0 := by
  have := cntT_eq (M := M) (k := 0) (m := m) (fun j hj => by rw [h j hj]; simp)
  omega
theorem strTo_none {x : Im3} : ∀ {m : Nat}, (∀ j, j < m → isThere x.M j = false) → strTo x m = x
  | 0, _ => rfl
  | m + 1, h => by
    have e := strTo_none (x := x) (m := m) (fun j hj => h j (by omega))
    rw [strTo, e, if_neg (by rw [h m (by omega)]; simp)]
theorem pagesTo_nine {M : Nat → Int × Int} (h : ∀ j, j < 8 → isThere M j = false) (h2 : ∀ j, 8 ≤ j → M j = gM j) : pagesTo M 12 = [9] := by
  have e : ∀ j, j < 12 → isThere M j = decide (j = 9) := fun j hj => by
    by_cases e8 : j < 8
    · rw [h j e8]; simp; omega
    · have : j = 8 ∨ j = 9 ∨ j = 10 ∨ j = 11 := by omega
      rw [isThere, h2 j (by omega)]
      rcases this with rfl | rfl | rfl | rfl <;> decide
  have hf : (List.range 12).filter (isThere M) = (List.range 12).filter (fun j => decide (j = 9)) := List.filter_congr fun j hj => e j (List.mem_range.1 hj)
  rw [pagesTo, hf]
  decide
set_option maxRecDepth 100000 in
set_option maxHeartbeats 4000000 in
theorem imageGone_walk (a0 : Int) (p1 : Option Addr) (n1 c1 : Nat) (f1 : Nat → List Value) (a2 : Int) (w : World) (w0 : (Lit.int .u8 a0).wf = true) (w1 : SliceOk [some .u32] w p1 n1 c1 f1) (hR1 : c1 * 4 ≤ 140737488351232) (w2 : (Lit.int .u32 a2).wf = true) :
    Calls Try.prog 6 #[.int .u8 a0, .slice p1 n1 c1, .int .u32 a2] w fun e w' => e = .returned (.bool true) ∧ Below w.heap.size w w' := by
  have b0 := bounds_u8 w0
  obtain ⟨b00, b01⟩ := b0
  have b2 := bounds_u32 w2
  obtain ⟨k, hk, hk1, hk8⟩ : ∃ k : Nat, (1 + a0 % 8 : Int) = k ∧ 1 ≤ k ∧ k ≤ 8 := ⟨(1 + a0 % 8).toNat, by omega, by omega, by omega⟩
  have HK := Lib.hid hk
  have hn1 : n1 ≤ 140737488355328 := by have := w1.1; omega
  obtain ⟨W, hU⟩ := usrc_of_ok w1
  clear hk w0 hR1 w1 w2
  go_enter Try.func6, Try.ntmps6
  go_wp2_with fail
  refine (host_any 31 32 (by decide) (by decide) (by decide) _).mono ?_
  rintro e wa ⟨b, s, fb, q, t, rb, V, L, st, uv, tv, rfl, hP⟩
  have hB := hP.bel
  go_wp2_with fail
  refine (new_map2 _).mono ?_
  rintro e w3 ⟨mb, rfl, hmb, hm, b3⟩
  obtain ⟨A, h2, hA⟩ := (hP.below b3).img hm (Nat.le_trans hB.2 hmb)
  have hB2 := hB.of b3
  clear hP hB hmb hm b3
  go_wp2_with fail
  refine (iSet 9 2 1 _ h2).mono ?_
  rintro e w4 ⟨rfl, h4, m4⟩
  rw [gM_set]
  rw [gM_new] at h4
  have hB4 := m4.bel hB2 hA
  clear h2 m4 hB2
  go_wp2_with fail
  refine (iLeft 1 _ h4).mono ?_
  rintro e w5 ⟨rfl, rfl⟩
  rw [show leftC (hostL 32) 1 = 22 from by rw [leftC, if_pos (by omega), show (1 : Int).toNat = 1 from rfl, left32]; rfl]
  have hLay := iLay (x := g0) 1 k p1 n1 c1 W hn1 _ h4 (hU.below hB4.1) (hU.out hA)
  have hE : layE g0.S g0.M 1 k = 0 := layEg k (by omega) hk1
  rw [hE] at hLay
  have hX : layX 32 g0 1 k W (cutN n1 k) = layTo 32 1 W (cutN n1 k) g0 k := by
    rw [layX, if_pos hE]
    rfl
  rw [hX] at hLay
  have hOk := (Ok.host (M := gM) (fun j hj => gM_low hj)).layTo (g := 1) (N := cutN n1 k) hU.2.1 hk8 (gM_free k hk8) (by show k ≤ (leftL (hostL 32) 1).length; rw [left32]; omega)
  change Ok (layTo 32 1 W (cutN n1 k) g0 k) ∧ ∀ j, j < k → HasW (layTo 32 1 W (cutN n1 k) g0 k) W (cutN n1 k) j at hOk
  have hth : ∀ j, j < 8 → isThere (layTo 32 1 W (cutN n1 k) g0 k).M j = decide (j < k) := fun j hj => by
    by_cases e : j < k
    · obtain ⟨f, _, hm, _⟩ := hOk.2 j e
      rw [there3 hm]
      simpa using e
    · rw [layTo_there (by omega)]
      rw [isThere, show g0.M j = (0, 0) from gM_low hj]
      simp
      omega
  have hleft : (leftL (layTo 32 1 W (cutN n1 k) g0 k).S 1).length + k = 22 := by
    have := layTo_left (n := 32) (g := 1) (N := cutN n1 k) (W := W) (x := g0) (i := k) (by show k ≤ (leftL (hostL 32) 1).length; rw [left32]; omega)
    rw [this]
    exact left32
  have hM8 : ∀ j, 8 ≤ j → (layTo 32 1 W (cutN n1 k) g0 k).M j = gM j := fun j hj => layTo_M (by omega)
  clear hX hE
  generalize layTo 32 1 W (cutN n1 k) g0 k = y at *
  go_wp2_with fail
  rw [HK.out]
  refine hLay.mono ?_
  rintro e w6 ⟨rfl, A6, h6, m6⟩
  have hB6 := m6.bel hB4 hA
  have hA6 := m6.low hA hB4.2
  clear hLay m6 hB4 h4
  have hl6 : leftC y.S 1 = 22 - (k : Int) := by rw [leftC_one]; omega
  have hE5 : layE y.S y.M 1 k = 5 := layEu (by omega) hk1 (by rw [hth 0 (by omega)]; simp; omega)
  have hLay2 := fun w h1 h2 h3 => iLay (A := A6) (b := b) (s := s) (fb := fb) (mb := mb) (n := 32) (x := y) 1 k p1 n1 c1 W hn1 w h1 h2 h3
  rw [layX, if_neg (by omega), hE5] at hLay2
  have HL6 := Lib.hid hl6
  clear hl6 hleft hE5
  go_wp2_with fail
  refine (iLeft 1 _ h6).mono ?_
  rintro e w6' ⟨rfl, rfl⟩
  rw [HL6.out]
  go_wp2_with fail
  refine (hLay2 _ h6 (hU.below hB6.1) (hU.out hA6)).mono ?_
  rintro e w7 ⟨rfl, A7, h7, m7⟩
  have hB7 := m7.bel hB6 hA6
  have hA7 := m7.low hA6 hB6.2
  clear m7 hLay2 hB6 h6 HL6 hA6 hA hU
  go_wp2_with fail
  go_loopw [14] (fun iv wr => ∃ (i : Nat) (G' : Nat → Int), i ≤ k ∧ iv = .int .i64 i ∧ Img A7 wr b s fb mb 32 G' y.S y.M ∧ Bel w.heap.size w wr ∧ ∀ f, f < 32 → (atL y.S f).tk = false → ∀ c, c < 64 → fr G' f c = fr y.G f c) (fun iv _ => k - (intOf iv).toNat)
  case atStart => exact ⟨0, _, Nat.zero_le _, rfl, h7, hB7, fun _ _ _ _ _ => rfl⟩
  case round =>
    clear h7 hB7
    obtain ⟨i, G', hi, rfl, h8, hB8, hG8⟩ := hrel
    by_cases hik : i < k
    · obtain ⟨f, hf32, hm, htk, _⟩ := hOk.2 i hik
      have hpg : pageB (i : Int) = true := pageB_nat (by omega)
      have hF : getF y.M (i : Int) = f := by rw [getF, if_pos hpg, Int.toNat_natCast, hm]
      have HF := Lib.hid hF
      clear hF hpg hm
      go_wp2_with fail
      refine (iGet i _ h8).mono ?_
      rintro e w9 ⟨rfl, b9⟩
      rw [HF.out]
      have h9 := h8.below b9
      have hB9 := hB8.of b9
      go_wp2_with fail
      refine (iSave f 60 4 a2 (by decide) b2.1 b2.2 _ h9.alloc).mono ?_
      rintro e wx ⟨rfl, hx, mx⟩
      rw [svG_60 hf32] at hx
      have hBx := mx.bel hB9.alloc hA7
      clear mx h9 hB9 h8 hB8 b9
      go_wp2
      go_roundw
      case rel =>
        refine ⟨i + 1, _, by omega, by go_num, hx, hBx, fun f' hf' ht' c hc => ?_⟩
        rw [fr_put_ne (by omega) (fun e => by subst e; rw [htk] at ht'; cases ht') c hc]
        exact hG8 f' hf' ht' c hc
      case measure => simp [intOf]; omega
    · obtain rfl : i = k := by omega
      have hOk2 := hOk.1.sv hG8
      obtain ⟨z0, hz0⟩ : ∃ z0 : Im3, z0 = ⟨y.S, G', y.M⟩ := ⟨_, rfl⟩
      rw [← hz0] at hOk2
      have h8' : Img A7 wr b s fb mb 32 z0.G z0.S z0.M := by rw [hz0]; exact h8
      have hcnt : cntT z0.M 8 = i := by rw [hz0, cntT_eq hth]; omega
      have hz8 : ∀ j, 8 ≤ j → z0.M j = gM j := by rw [hz0]; exact hM8
      obtain ⟨hOk3, hno⟩ := hOk2.strTo (i := 8) (Nat.le_refl _)
      obtain ⟨hS, hcl⟩ := hOk3.done hno
      have hzM : ∀ j, 8 ≤ j → (strTo z0 8).M j = gM j := fun j hj => (strTo_M hj).trans (hz8 j hj)
      have hpg9 := pagesTo_nine hno hzM
      have hc0 := cntT_none hno
      have hst0 := strTo_none hno
      have HC := Lib.hid hcnt
      clear hz0 hOk hth hM8 hG8 h8 hOk2 hz8 hcnt hi hik
      go_wp2_with fail
      refine (iStrip (x := z0) _ h8').mono ?_
      rintro e w9 ⟨rfl, A9, h9, m9⟩
      rw [HC.out]
      have hB9 := m9.bel hB8 hA7
      have hA9 := m9.low hA7 hB8.2
      generalize strTo z0 8 = z at *
      clear m9 h8' hB8 hA7
      go_wp2_with fail
      refine (iLeft 1 _ h9).mono ?_
      rintro e w9' ⟨rfl, rfl⟩
      rw [show leftC z.S 1 = 22 from by rw [hS, leftC_one, left32]; rfl]
      go_wp2_with fail
      refine (iStrip (x := z) _ h9).mono ?_
      rintro e wx ⟨rfl, Ax, hx, mx⟩
      rw [hc0]
      rw [hst0] at hx
      have hBx := mx.bel hB9 hA9
      clear mx h9 hB9 hst0 hc0 hA9
      go_wp2_with fail
      go_loopw [17] (fun iv wr => ∃ (f : Nat), f ≤ 32 ∧ iv = .int .i64 f ∧ Below wx.heap.size wx wr) (fun iv _ => 32 - (intOf iv).toNat)
      case atStart => exact ⟨0, Nat.zero_le _, rfl, Below.refl _ _⟩
      case round =>
        obtain ⟨f, hf, rfl, hbf⟩ := hrel
        have hy := hx.below hbf
        have hBy := hBx.of hbf
        by_cases hf32 : f < 32
        · have hin : fin 32 (f : Int) := ⟨by omega, by omega⟩
          have hC : clB 32 z.G f = true := by rw [clB, if_pos hin, Int.toNat_natCast]; exact hcl f hf32
          have hT : takenB z.S f = false := by rw [takenB, hS, show (hostL 32).length = 32 from by decide, if_pos hin, Int.toNat_natCast, hostL_at hf32]
          have HC2 := Lib.hid hC
          have HT2 := Lib.hid hT
          clear hC hT hin
          go_wp2_with fail
          refine (fclean_any s fb 32 f z.G _ hy.sto).mono ?_
          rintro e wz ⟨rfl, bz⟩
          rw [HC2.out]
          go_wp2_with fail
          refine (iTaken f _ (hy.below bz)).mono ?_
          rintro e wz' ⟨rfl, rfl⟩
          rw [HT2.out]
          go_wp2
          go_roundw
          case rel => exact ⟨f + 1, by omega, by go_num, hbf.trans (bz.mono hbf.size)⟩
          case measure => simp [intOf]; omega
        · have hge : ¬ (f : Int) < 32 := by omega
          clear hx hBx
          go_wp2_with fail
          refine (pages_any mb z.M _ hy.m).mono ?_
          rintro e wz ⟨v, rfl, hown, bz⟩
          have hBz := hBy.of bz
          rw [hpg9] at hown
          obtain ⟨va, vc, rfl, hac, hcm, hl, _⟩ := ints_of_owned hown
          obtain ⟨g, o, rfl, hg, hcell⟩ := hl.2 (by simp)
          have hc0 := hcell 0 (by simp)
          simp at hc0
          clear hown hl hcell hy hBy bz
          go_wp2_with fail
          refine (awake35 _).mono ?_
          rintro e wq ⟨rfl, bq⟩
          go_wp2
          go_ret
          exact ⟨rfl, (hBz.of bq).1⟩
end Go.Proofs.Ytklgfnboadchmaa
