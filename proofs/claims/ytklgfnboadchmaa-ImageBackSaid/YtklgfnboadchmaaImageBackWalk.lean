/- law 35: ImageBack. -/
import Derived.Test.YtklgfnboadchmaaMrgE
namespace Go.Proofs.Ytklgfnboadchmaa
open Go.ChangeShapes Go.WideShapes Go.ChangeAt Go.RowKit
set_option linter.unusedVariables false
set_option maxRecDepth 20000

theorem pagesTo_len {M : Nat → Int × Int} {k : Nat} : ∀ {m : Nat}, (∀ j, j < m → isThere M j = decide (j < k)) → (pagesTo M m).length = min m k
  | 0, _ => by simp [pagesTo]
  | m + 1, h => by
    have h1 := pagesTo_len (M := M) (k := k) (m := m) (fun j hj => h j (by omega))
    rw [pagesTo_succ]
    have h2 := h m (by omega)
    by_cases e : m < k
    · rw [if_pos (by rw [h2]; simpa using e), List.length_append, h1]
      simp
      omega
    · rw [if_neg (by rw [h2]; simpa using e), h1]
      omega
theorem layE32 : ∀ k : Nat, k < 9 → 1 ≤ k → layE (hostL 32) zeroMap 1 k = 0 := by decide
def h0 : Im3 := ⟨hostL 32, fun _ => 0, zeroMap⟩
theorem left32 : (leftL (hostL 32) 1).length = 22 := by decide
theorem free0 (k : Nat) : freeB zeroMap k = true := by simp [freeB, isThere, zeroMap]
set_option maxRecDepth 100000 in
set_option maxHeartbeats 4000000 in
theorem imageBack_walk (a0 : Int) (p1 : Option Addr) (n1 c1 : Nat) (f1 : Nat → List Value) (w : World) (w0 : (Lit.int .u8 a0).wf = true) (w1 : SliceOk [some .u32] w p1 n1 c1 f1) (hR1 : c1 * 4 ≤ 140737488351232) :
    Calls Try.prog 5 #[.int .u8 a0, .slice p1 n1 c1] w fun e w' => e = .returned (.bool true) ∧ Below w.heap.size w w' := by
  have b0 := bounds_u8 w0
  obtain ⟨b00, b01⟩ := b0
  obtain ⟨k, hk, hk1, hk8⟩ : ∃ k : Nat, (1 + a0 % 8 : Int) = k ∧ 1 ≤ k ∧ k ≤ 8 := ⟨(1 + a0 % 8).toNat, by omega, by omega, by omega⟩
  have HK := Lib.hid hk
  have hn1 : n1 ≤ 140737488355328 := by have := w1.1; omega
  obtain ⟨W, hU⟩ := usrc_of_ok w1
  have hlen1 : n1 ≤ c1 := w1.1
  clear hk w0 hR1 w1
  go_enter Try.func5, Try.ntmps5
  go_wp2_with fail
  refine (host_any 31 32 (by decide) (by decide) (by decide) _).mono ?_
  rintro e wa ⟨b, s, fb, q, t, rb, V, L, st, uv, tv, rfl, hP⟩
  have hB := hP.bel
  go_wp2_with fail
  refine (new_map2 _).mono ?_
  rintro e w3 ⟨mb, rfl, hmb, hm, b3⟩
  obtain ⟨A, h2, hA⟩ := (hP.below b3).img hm (Nat.le_trans hB.2 hmb)
  have hB2 := hB.of b3
  clear hP hB hmb hm b3
  go_wp2_with fail
  have hLay := iLay (x := h0) 1 k p1 n1 c1 W hn1 _ h2 (hU.below hB2.1) (hU.out hA)
  rw [show layE h0.S h0.M 1 k = 0 from layE32 k (by omega) hk1] at hLay
  have hX : layX 32 h0 1 k W (cutN n1 k) = layTo 32 1 W (cutN n1 k) h0 k := by
    rw [layX, if_pos (show layE h0.S h0.M 1 k = 0 from layE32 k (by omega) hk1)]
    rfl
  rw [hX] at hLay
  have hOk := (Ok.host (M := zeroMap) (fun j _ => rfl)).layTo (g := 1) (N := cutN n1 k) hU.2.1 hk8 (free0 k) (by show k ≤ (leftL (hostL 32) 1).length; rw [left32]; omega)
  change Ok (layTo 32 1 W (cutN n1 k) h0 k) ∧ ∀ j, j < k → HasW (layTo 32 1 W (cutN n1 k) h0 k) W (cutN n1 k) j at hOk
  have hth : ∀ j, j < 12 → isThere (layTo 32 1 W (cutN n1 k) h0 k).M j = decide (j < k) := fun j hj => by
    by_cases e : j < k
    · obtain ⟨f, _, hm, _⟩ := hOk.2 j e
      rw [there3 hm]
      simpa using e
    · rw [layTo_there (by omega)]
      simp [isThere, zeroMap, h0]
      omega
  have hpl := pagesTo_len hth
  rw [Nat.min_eq_right (by omega)] at hpl
  have hN : cutN n1 k = min n1 (16 * k) := by unfold cutN; omega
  have hcut := fun w h => cut_any p1 n1 c1 W k w h hn1
  obtain ⟨N, hNe⟩ : ∃ N, cutN n1 k = N := ⟨_, rfl⟩
  rw [hNe] at hLay hOk hpl hN hcut
  clear hth hX hNe
  generalize layTo 32 1 W N h0 k = y at *
  rw [HK.out]
  refine hLay.mono ?_
  rintro e w4 ⟨rfl, A4, h4, m4⟩
  have hB4 := m4.bel hB2 hA
  clear hLay m4 hB2 h2
  go_wp2_with fail
  refine (pages_any mb y.M _ h4.m).mono ?_
  rintro e w5 ⟨v, rfl, hown, b5⟩
  have hB5 := hB4.of b5
  have h5 := h4.below b5
  obtain ⟨va, vc, hv⟩ := ownsRow_shape hown
  rw [hpl] at hv
  subst hv
  clear hown b5 hB4 h4 hpl
  go_wp2_with fail
  refine (hcut _ (hU.below hB5.1)).mono ?_
  rintro e w6 ⟨gw, rfl, hgw, hrow, b6⟩
  have hB6 := hB5.of b6
  have h6 := h5.below b6
  clear hcut h5 hB5 b6 hgw
  clear HK
  by_cases hle : (n1 : Int) ≤ 16 * (k : Int)
  all_goals
    have hNl : N ≤ 16 * k ∧ N ≤ n1 ∧ (∀ i, i < 16 * k → (i < N ↔ i < n1)) := ⟨by omega, by omega, fun i hi => by omega⟩
    have hNk : (N : Int) ≤ 16 * (k : Int) := by omega
    have hNk2 : ¬ (N : Int) < (min (n1 : Int) (16 * (k : Int))) := by omega
    have hNe : ¬ N < n1 ∨ ¬ (N : Int) < 16 * (k : Int) := by omega
    go_wp2_with fail
    go_loopw [12] (fun iv wr => ∃ i : Nat, i ≤ 16 * k ∧ iv = .int .i64 i ∧ Below w6.heap.size w6 wr) (fun iv _ => 16 * k - (intOf iv).toNat)
    case atStart => exact ⟨0, Nat.zero_le _, rfl, Below.refl _ _⟩
    case round =>
      obtain ⟨i, hi, rfl, hb⟩ := hrel
      clear hNk hNk2 hNe hN
      by_cases hik : i < 16 * k
      · obtain ⟨f, hf32, hm, htk, hwd⟩ := hOk.2 (i / 16) (by omega)
        replace hwd := hwd (i % 16) (by omega)
        rw [show i / 16 * 16 + i % 16 = i by omega] at hwd
        have hpg : pageB ((i : Int) / 16) = true := by have := pageB_nat (show i / 16 < 12 by omega); rwa [Int.natCast_ediv] at this
        have htn : ((i : Int) / 16).toNat = i / 16 := by omega
        have hG : getT y.M ((i : Int) / 16) = true := by rw [getT, hpg, htn, there3 hm]; rfl
        have hF : getF y.M ((i : Int) / 16) = f := by rw [getF, if_pos hpg, htn, hm]
        have hR : getR y.M ((i : Int) / 16) = 3 := by rw [getR, if_pos hpg, htn, hm]
        have hin : fin 32 (f : Int) ∧ inP 64 (4 * ((i : Int) % 16)) 4 := ⟨⟨by omega, by omega⟩, .inr (.inr rfl), by omega, by omega, by omega⟩
        have hE : svE 32 f (4 * ((i : Int) % 16)) 4 = 0 := by rw [svE, if_pos hin]
        have hL : ldV 32 y.G f (4 * ((i : Int) % 16)) 4 = if i < N then W i else 0 := by
          rw [ldV, if_pos hin, ← hwd, wdF, Int.toNat_natCast, show (4 * ((i : Int) % 16)).toNat = 4 * (i % 16) by omega]
          rfl
        have hT : takenB y.S f = true := by rw [takenB, hOk.1.len, if_pos hin.1, Int.toNat_natCast, htk]
        have h7 := h6.below hb
        have HG := Lib.hid hG
        have HF := Lib.hid hF
        have HR := Lib.hid hR
        have HE := Lib.hid hE
        have HT := Lib.hid hT
        have hiff := hNl.2.2 i hik
        clear hG hF hR hE hT hin htn hpg hm htk hwd hOk hNl
        go_wp2_with fail
        refine (iGet _ _ h7).mono ?_
        rintro e w8 ⟨rfl, b8⟩
        rw [HG.out, HF.out, HR.out]
        have h8 := h7.below b8
        go_wp2_with fail
        refine (fload_any s fb 32 f _ 4 y.G _ h8.alloc.sto (by decide)).mono ?_
        rintro e w9 ⟨rfl, b9⟩
        rw [HE.out]
        have h9 := h8.alloc.below b9
        have q0 := (b9.cell (p := ⟨w8.heap.size, 0, none⟩) (by show _ < _; simp)).trans (show (w8.alloc (.cells #[.int .i64 f, .int .i64 3] 32)).cell? ⟨w8.heap.size, 0, none⟩ = some (.int .i64 f) by simp [go_sem])
        have q1 := (b9.cell (p := ⟨w8.heap.size, 1, none⟩) (by show _ < _; simp)).trans (show (w8.alloc (.cells #[.int .i64 f, .int .i64 3] 32)).cell? ⟨w8.heap.size, 1, none⟩ = some (.int .i64 3) by simp [go_sem])
        have hb9 : Below w6.heap.size w6 w9 := (((Bel.of ⟨hb, hb.size⟩ b8).alloc).of b9).1
        generalize w8.heap.size = xb at *
        clear h7 h8 hb b8 b9
        by_cases hiN : i < N
        · have hin1 := hiff.1 hiN
          rw [if_pos hiN] at hL
          obtain ⟨b1, o1, rfl, hbl, hcs⟩ := (hU.below hB6.1).2.2 (by omega)
          have q2 := (hb9.cell (p := ⟨b1, o1 + i, none⟩) hbl).trans (hcs i hin1)
          have q3 := (hb9.cell (p := ⟨gw, i, none⟩) hrow.lt).trans (hrow.cell hiN)
          rw [hL]
          clear hL hcs
          go_wp2_with fail
          refine (iTaken _ _ h9).mono ?_
          rintro e wt ⟨rfl, rfl⟩
          rw [HT.out]
          go_wp2
          go_roundw
          case rel => exact ⟨i + 1, by omega, by go_num, hb9⟩
          case measure => simp [intOf]; omega
        · have hin1 : ¬ i < n1 := fun h => hiN (hiff.2 h)
          try (exfalso; omega)
          all_goals
            rw [if_neg hiN] at hL
            rw [hL]
            clear hL
            go_wp2_with fail
            refine (iTaken _ _ h9).mono ?_
            rintro e wt ⟨rfl, rfl⟩
            rw [HT.out]
            go_wp2
            go_roundw
            case rel => exact ⟨i + 1, by omega, by go_num, hb9⟩
            case measure => simp [intOf]; omega
      · have hge : ¬ (i : Int) < 16 * (k : Int) := by omega
        have hB7 := hB6.1.trans (hb.mono hB6.2)
        have hs7 := hb.size
        clear hrow hU
        go_wp2_with fail
        refine (awake35 _).mono ?_
        rintro e w8 ⟨rfl, b8⟩
        go_wp2
        go_ret
        exact ⟨rfl, hB7.trans (b8.mono (Nat.le_trans hB6.2 hs7))⟩
end Go.Proofs.Ytklgfnboadchmaa
