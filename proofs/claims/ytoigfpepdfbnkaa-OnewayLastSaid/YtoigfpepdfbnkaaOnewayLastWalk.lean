/- The walk of hermitagelaw30.OnewayLast: true at every input. -/
import Derived.Test.YtoigfpepdfbnkaaOwyA
namespace Go.Proofs.Ytoigfpepdfbnkaa
open Go.ChangeShapes Go.WideShapes Go.ChangeAt Go.RowKit
set_option linter.unusedVariables false

/-- i words were sent behind a0; the last eight are there. -/
def Ring (a0 : Int) (L : Nat → Int) (G : Nat → Int) (i : Nat) : Prop :=
  hd G 0 = (a0 + i) % 4294967296 ∧ ∀ j, j < i → i ≤ j + 8 → wdI G 0 ((a0 + j) % 4294967296) = L j
theorem Ring.send {a0 : Int} {L G : Nat → Int} {i : Nat} (h : Ring a0 L G i) (hG : Byt G) (hi : i ≤ 80) (h0 : 0 ≤ L i) (h1 : L i ≤ 4294967295) : Ring a0 L (sendG G 0 (L i)) (i + 1) := by
  obtain ⟨hh, hw⟩ := h
  refine ⟨by rw [hd_send hG, hh]; omega, fun j hj hj8 => ?_⟩
  rw [wd_send 0 (L i) _ h0 h1, hh]
  by_cases e : j = i
  · subst e
    rw [if_pos rfl]
  · rw [if_neg, hw j (by omega) (by omega)]
    unfold plN
    omega
theorem Ring.got {a0 : Int} {L G : Nat → Int} {c r : Nat} (h : Ring a0 L G c) (hr : r < c) (hc : c ≤ 80) :
    gotV G 0 ((a0 + r) % 4294967296) = .agg #[.int .u32 (L (r + (c - r - 8))), .int .u32 ((a0 + ((r + (c - r - 8) + 1 : Nat) : Int)) % 4294967296), .int .u32 ((c - r - 8 : Nat) : Int), .bool true] := by
  obtain ⟨hh, hw⟩ := h
  unfold gotV
  rw [hh, if_neg (by omega)]
  have hg : gapN ((a0 + c) % 4294967296) ((a0 + r) % 4294967296) = ((c - r : Nat) : Int) := by unfold gapN; omega
  have hl : lostN ((a0 + c) % 4294967296) ((a0 + r) % 4294967296) = ((c - r - 8 : Nat) : Int) := by
    unfold lostN
    rw [hg]
    split <;> omega
  have hf : fromN ((a0 + c) % 4294967296) ((a0 + r) % 4294967296) = (a0 + ((r + (c - r - 8) : Nat) : Int)) % 4294967296 := by
    unfold fromN
    rw [hl]
    omega
  have hwd := hw (r + (c - r - 8)) (by omega) (by omega)
  have hn : ((a0 + ((r + (c - r - 8) : Nat) : Int)) % 4294967296 + 1) % 4294967296 = (a0 + ((r + (c - r - 8) + 1 : Nat) : Int)) % 4294967296 := by omega
  rw [hf, hl, hn, hwd]
theorem Ring.none {a0 : Int} {L G : Nat → Int} {c : Nat} (h : Ring a0 L G c) : gotV G 0 ((a0 + c) % 4294967296) = .agg #[.int .u32 0, .int .u32 ((a0 + c) % 4294967296), .int .u32 0, .bool false] := by
  unfold gotV
  rw [h.1, if_pos rfl]

set_option maxRecDepth 100000 in
set_option maxHeartbeats 4000000 in
theorem onewayLast_walk (a0 : Int) (p1 : Option Addr) (n1 c1 : Nat) (f1 : Nat → List Value) (a2 : Int) (w : World) (w0 : (Lit.int .u32 a0).wf = true) (w1 : SliceOk [some .u32] w p1 n1 c1 f1) (hR1 : c1 * 4 ≤ 140737488351232) (w2 : (Lit.int .u8 a2).wf = true) :
    Calls Try.prog 7 #[.int .u32 a0, .slice p1 n1 c1, .int .u8 a2] w fun e w' => e = .returned (.bool true) ∧ Below w.heap.size w w' := by
  obtain ⟨L, hL⟩ := USrc.of_ok w1
  have b0 := bounds_u32 w0
  obtain ⟨b00, b01⟩ := b0
  have b2 := bounds_u8 w2
  obtain ⟨b20, b21⟩ := b2
  obtain ⟨K, hK, hK1⟩ : ∃ K : Nat, (1 + a2 % 12 : Int) = K ∧ 1 ≤ K := ⟨(1 + a2 % 12).toNat, by omega, by omega⟩
  have HK := Lib.hid hK
  have hcap := w1.1
  clear w0 w1 w2 hK
  have hsrc : USrc (w.alloc (.cells #[.int .u32 a0] 23)) (some ⟨w.heap.size, 0, none⟩) 1 (fun _ => a0) := by
    refine ⟨fun i hi => ⟨b00, b01⟩, fun _ => ⟨w.heap.size, 0, rfl, by simp, fun i hi => ?_⟩⟩
    obtain rfl : i = 0 := by omega
    simp [go_sem]
  go_enter Try.func7, Try.ntmps7
  go_wp2_with fail
  refine (made_any _ 1 _ _ _ hsrc).mono ?_
  rintro e wa ⟨s, fb, t, rb, rfl, hs, hfb, _, _, _, _, hst, _, hba⟩
  have hbela : Bel w.heap.size w wa := Bel.of (Bel.refl w).alloc hba
  have hfb2 : w.heap.size ≤ fb := by
    have : (w.alloc (.cells #[.int .u32 a0] 23)).heap.size = w.heap.size + 1 := by simp
    omega
  have hring : Ring a0 L (mkG (fun _ => a0) (min 1 16)) 0 := by
    refine ⟨?_, fun j hj => absurd hj (by omega)⟩
    show hd (mkG (fun _ => a0) (0 + 1)) 0 = _
    rw [mkG_hd b00 b01 0]
    omega
  generalize mkG (fun _ => a0) (min 1 16) = G0 at *
  clear hba hsrc hs hfb
  have hN0 : (a0 + ((0 + 0 : Nat) : Int)) % 4294967296 = a0 := by omega
  have HN0 := Lib.hid hN0
  clear hN0
  go_wp2_with fail
  rw [HK.out]
  go_loopw [9, 10, 11, 12, 14] (fun nx sv gv lv iv wr => ∃ (i r1 r2 : Nat) (G : Nat → Int) (N : Int), i ≤ 80 ∧ i ≤ n1 ∧ iv = .int .i64 i ∧ sv = .int .i64 i ∧ gv = .int .i64 r1 ∧ lv = .int .i64 r2 ∧ nx = .int .u32 N ∧ N = (a0 + ((r1 + r2 : Nat) : Int)) % 4294967296 ∧ r1 + r2 ≤ i ∧ StoAt wr s fb 2 G ∧ Ring a0 L G i ∧ Bel w.heap.size w wr) (fun _ _ _ _ iv _ => 80 - (intOf iv).toNat)
  case atStart => exact ⟨0, 0, 0, G0, a0, by omega, by omega, rfl, rfl, rfl, rfl, rfl, HN0.out.symm, by omega, hst, hring, hbela⟩
  case round =>
    clear hst hring hbela
    obtain ⟨i, r1, r2, G, N, hi, hin, rfl, rfl, rfl, rfl, rfl, hN, hri, hst, hring, hbel⟩ := hrel
    have HN := Lib.hid hN
    have hNb : 0 ≤ N ∧ N ≤ 4294967295 := by omega
    obtain ⟨hNb0, hNb1⟩ := hNb
    clear hN
    by_cases hall : i < n1 ∧ i < 80
    · obtain ⟨i1, i80⟩ := hall
      have hLb := hL.1 i i1
      obtain ⟨hL0, hL1⟩ := hLb
      have hrg := hring.send hst.2.2.2 hi hL0 hL1
      obtain ⟨b, o, rfl, hb, hc⟩ := hL.2 (by omega)
      have q := (hbel.1.cell (p := ⟨b, o + i, none⟩) hb).trans (hc i i1)
      obtain ⟨x, hx⟩ : ∃ x, L i = x := ⟨_, rfl⟩
      rw [hx] at hL0 hL1 hrg q
      have hbw := Nat.lt_of_lt_of_le hb hbel.2
      clear hL hring hx hi hin
      have Hc := Lib.hid hc
      clear hc
      cases hm : ((i : Int) % K != 0)
      case' true =>
        go_wp2_with fail
        refine (send_in s fb 2 0 x G _ hst (by omega) hL0 hL1).mono ?_
        rintro e w2 ⟨rfl, hu, hst2⟩
        have hbel2 := hbel.upd hu hfb2
        go_wp2
        go_roundw
        case rel => exact ⟨i + 1, r1, r2, _, N, by omega, by omega, by go_num, by go_num, rfl, rfl, rfl, HN.out, by omega, hst2, hrg, hbel2⟩
        case measure => simp [intOf]; omega
      case' false =>
        go_wp2_with fail
        refine (send_in s fb 2 0 x G _ hst (by omega) hL0 hL1).mono ?_
        rintro e w2 ⟨rfl, hu, hst2⟩
        have hbel2 := hbel.upd hu hfb2
        have hgot := hrg.got (r := r1 + r2) (by omega) (by omega)
        rw [← HN.out] at hgot
        obtain ⟨LS, hLS⟩ : ∃ LS : Nat, i + 1 - (r1 + r2) - 8 = LS := ⟨_, rfl⟩
        rw [hLS] at hgot
        have hLs : L (r1 + r2 + LS) = L (r1 + r2 + LS) := rfl
        obtain ⟨W, hW⟩ : ∃ W, L (r1 + r2 + LS) = W := ⟨_, rfl⟩
        obtain ⟨N', hN'⟩ : ∃ N', (a0 + ((r1 + r2 + LS + 1 : Nat) : Int)) % 4294967296 = N' := ⟨_, rfl⟩
        rw [hW, hN'] at hgot
        have HG := Lib.hid hgot
        have HLS := Lib.hid hLS
        have HN' := Lib.hid hN'
        have hls1 : r1 + r2 + LS < i + 1 := by omega
        have hq := (hbel2.1.cell (p := ⟨b, o + (r1 + r2 + LS), none⟩) hb).trans (Hc.out (r1 + r2 + LS) (by omega))
        rw [hW] at hq
        have hNb' : 0 ≤ N' ∧ N' ≤ 4294967295 := by omega
        obtain ⟨hNb0', hNb1'⟩ := hNb'
        clear hst hbel hu hgot hLs hLS hN' hW hL0 hL1
        go_wp2_with fail
        refine (Calls.lat (recv_in s fb 2 0 N _ _ hst2 (by omega) hNb0 hNb1)).mono ?_
        rintro e w' ⟨rfl, y, rfl⟩
        rw [HG.out]
        have hbl := hbel2.later (x := y)
        have hsz := hbl.2
        have hq2 : (later w2 y).cell? ⟨b, o + (r1 + r2 + LS), none⟩ = some (.int .u32 W) := by rw [later_cell w2 y _ (Nat.lt_of_lt_of_le hb hbel2.2)]; exact hq
        have hbl2 : b < w2.heap.size := Nat.lt_of_lt_of_le hb hbel2.2
        have hls2 := HLS.out
        have hstl := hst2.later (x := y)
        rw [Nat.add_assoc r1 r2 LS] at hq2
        clear hst2 hq q hbw hbel2
        have h8 : (8 < (i : Int) + 1 - r1 - r2 ∧ ((LS : Int) != (i : Int) + 1 - r1 - r2 - 8) = false) ∨ (¬ 8 < (i : Int) + 1 - r1 - r2 ∧ ((LS : Int) != 0) = false) := by
          by_cases h8 : 8 < (i : Int) + 1 - r1 - r2
          · exact .inl ⟨h8, by simp; omega⟩
          · exact .inr ⟨h8, by simp; omega⟩
        clear hls2
        rcases h8 with ⟨h8, he⟩ | ⟨h8, he⟩
        all_goals
          go_wp2_with fail
          refine wp_region_later (by kernel_rfl) (by kernel_rfl) ?_
          repeat (first | go_big_quiet_step (fail))
          refine wpQuiet_nil ?_
          intro _ hw'
          obtain ⟨x9, hw''⟩ := hw'
          subst hw''
          go_wp2
          go_roundw
          case rel =>
            refine ⟨i + 1, r1 + 1, r2 + LS, _, N', by omega, by omega, by go_num, by go_num, by go_num, by go_num, rfl, ?_, by omega, ?_, hrg, hbl.alloc.later⟩
            · rw [← HN'.out]
              omega
            · exact hstl.alloc.later
          case measure => simp [intOf]; omega
    · have hcase : ¬ i < n1 ∨ (i < n1 ∧ ¬ i < 80) := by omega
      clear hall
      obtain ⟨wo, rfl⟩ : ∃ wo : World, wo = wr := ⟨_, rfl⟩
      rcases hcase with hx | ⟨hx, hx'⟩
      all_goals
        go_wp2_with fail
        go_loopw [9, 11, 12] (fun nx gv lv wl => ∃ (q1 q2 : Nat) (N : Int), gv = .int .i64 q1 ∧ lv = .int .i64 q2 ∧ nx = .int .u32 N ∧ N = (a0 + ((q1 + q2 : Nat) : Int)) % 4294967296 ∧ q1 + q2 ≤ i ∧ Bel wo.heap.size wo wl) (fun _ gv lv _ => i - ((intOf gv).toNat + (intOf lv).toNat))
        case atStart => exact ⟨r1, r2, N, rfl, rfl, rfl, HN.out, hri, Bel.refl _⟩
        case round =>
          clear HN hNb0 hNb1 hri
          obtain ⟨q1, q2, N, rfl, rfl, rfl, hN, hri, hbel2⟩ := hrel
          have hst2 := hst.below hbel2.1
          have hNb : 0 ≤ N ∧ N ≤ 4294967295 := by omega
          obtain ⟨hNb0, hNb1⟩ := hNb
          have HN := Lib.hid hN
          clear hN
          by_cases hlt : q1 + q2 < i
          · have hgot := hring.got (r := q1 + q2) hlt hi
            rw [← HN.out] at hgot
            obtain ⟨LS, hLS⟩ : ∃ LS : Nat, i - (q1 + q2) - 8 = LS := ⟨_, rfl⟩
            rw [hLS] at hgot
            obtain ⟨W, hW⟩ : ∃ W, L (q1 + q2 + LS) = W := ⟨_, rfl⟩
            obtain ⟨N', hN'⟩ : ∃ N', (a0 + ((q1 + q2 + LS + 1 : Nat) : Int)) % 4294967296 = N' := ⟨_, rfl⟩
            rw [hW, hN'] at hgot
            have HG := Lib.hid hgot
            have HN' := Lib.hid hN'
            have hls1 : q1 + q2 + LS < i := by omega
            obtain ⟨b, o, rfl, hb, hc⟩ := hL.2 (by omega)
            have hbw := Nat.lt_of_lt_of_le hb hbel.2
            have hbr := Nat.lt_of_lt_of_le hbw hbel2.2
            have hq := (hbel2.1.cell (p := ⟨b, o + (q1 + q2 + LS), none⟩) hbw).trans ((hbel.1.cell (p := ⟨b, o + (q1 + q2 + LS), none⟩) hb).trans (hc (q1 + q2 + LS) (by omega)))
            rw [hW] at hq
            have hNb' : 0 ≤ N' ∧ N' ≤ 4294967295 := by omega
            obtain ⟨hNb0', hNb1'⟩ := hNb'
            have hlti : (q1 : Int) + q2 < i := by omega
            have hlen : ((q1 : Int) + q2 + LS) < n1 := by omega
            have hlen' : ((q1 : Int) + (q2 + LS)) < n1 := by omega
            have hd1 : decide ((n1 : Int) ≤ (q1 : Int) + q2 + LS) = false := by simp; omega
            have hd2 : decide ((n1 : Int) ≤ (q1 : Int) + (q2 + LS)) = false := by simp; omega
            clear hst hgot hLS hN' hW hc hL hring hlt
            go_wp2_with fail
            refine (Calls.lat (recv_in s fb 2 0 N _ _ hst2 (by omega) hNb0 hNb1)).mono ?_
            rintro e w' ⟨rfl, y, rfl⟩
            rw [HG.out]
            have hbl := hbel2.later (x := y)
            have hq2 : (later wr y).cell? ⟨b, o + (q1 + q2 + LS), none⟩ = some (.int .u32 W) := (later_cell wr y ⟨b, o + (q1 + q2 + LS), none⟩ hbr).trans hq
            have hq3 : (later wr y).cell? ⟨b, o + (q1 + (q2 + LS)), none⟩ = some (.int .u32 W) := by rw [show q1 + (q2 + LS) = q1 + q2 + LS by omega]; exact hq2
            clear hst2 hq hbel2
            go_wp2_with fail
            refine wp_region_later (by kernel_rfl) (by kernel_rfl) ?_
            repeat (first | go_big_quiet_step (fail))
            refine wpQuiet_nil ?_
            intro _ hw'
            obtain ⟨x9, hw''⟩ := hw'
            subst hw''
            go_wp2
            go_roundw
            case rel =>
              refine ⟨q1 + 1, q2 + LS, N', by go_num, by go_num, rfl, ?_, by omega, hbl.alloc.later⟩
              rw [← HN'.out]
              omega
            case measure => simp [intOf]; omega
          · have hqi : q1 + q2 = i := by omega
            have hgot := hring.none
            have hNN : N = (a0 + i) % 4294967296 := by rw [← hqi]; exact HN.out
            have HNN := Lib.hid hNN
            rw [← hNN] at hgot
            have HG := Lib.hid hgot
            have hge : ¬ (q1 : Int) + q2 < i := by omega
            clear hst hgot hNN hqi hL hring
            go_wp2_with fail
            refine (Calls.lat (recv_in s fb 2 0 N _ _ hst2 (by omega) hNb0 hNb1)).mono ?_
            rintro e w' ⟨rfl, y, rfl⟩
            rw [HG.out]
            have hbl := (hbel.trans hbel2 hbel.2).later (x := y)
            have hnn := HNN.out
            clear HNN HN HG hst2 hbel2
            subst hnn
            go_wp2_with fail
            refine (Calls.lat (awake30 _)).mono ?_
            rintro e w' ⟨rfl, y2, rfl⟩
            go_wp2_with fail
            go_ret
            exact ⟨rfl, hbl.alloc.later.1⟩

end Go.Proofs.Ytoigfpepdfbnkaa
