/- law 07: PoolApart. -/
import Derived.Test.YtgcnmhlojfncpaaPt
namespace Go.Proofs.Ytgcnmhlojfncpaa
open Go.ChangeShapes Go.WideShapes Go.ChangeAt Go.RowKit
set_option linter.unusedVariables false

section
variable {b s fb n : Nat} {G : Nat → Int} {V : Nat → Value} {L : Nat → List plIt} {st : Value} {S : List stIt}
theorem plOwnI (f : Nat) (y : Int) (g : Nat) (hy : y = g) (w : World) (h : PlAt w b s fb n G V L st S) (hf : f < n) (hg : g < 16) (hw : (atL S f).who = -1) :
    Calls Try.prog 9 #[.pointer (some ⟨b, 0, none⟩), .int .i64 f, .int .i64 y] w fun e w' => e = .returned (.int .i64 0) ∧ ∃ v' l', PlAt w' b s fb n (putF G (f * 64) 64 0) (setV V g v') (setV L g l') st (S.set f ⟨g, false⟩) ∧ Frs (tch b fb (V g) st) w w' ∧ (v'.ownBlock = (V g).ownBlock ∨ ∀ a, v'.ownBlock = some a → w.heap.size ≤ a) := by
  subst hy
  exact plOwn f g w h hf hg hw
end
section
variable {b s fb n : Nat} {G : Nat → Int} {V : Nat → Value} {L : Nat → List plIt} {st : Value} {S : List stIt}
/-- Take, whatever is left. -/
theorem plTakeAny (g : Nat) (w : World) (h : PlAt w b s fb n G V L st S) (hg : g < 16) :
    ((L g).length = 0 ∧ Calls Try.prog 10 #[.pointer (some ⟨b, 0, none⟩), .int .i64 g] w fun e w' => e = .returned (.tuple #[.int .i64 0, .int .i64 2]) ∧ w = w') ∨
    ∃ f, f < n ∧ Low S g f ∧ Calls Try.prog 10 #[.pointer (some ⟨b, 0, none⟩), .int .i64 g] w fun e w' => e = .returned (.tuple #[.int .i64 f, .int .i64 0]) ∧ ∃ v' l', PlAt w' b s fb n G (setV V g v') (setV L g l') st (S.set f ⟨g, true⟩) ∧ Frs (tch b fb (V g) st) w w' ∧ (v'.ownBlock = (V g).ownBlock ∨ ∀ a, v'.ownBlock = some a → w.heap.size ≤ a) := by
  by_cases h0 : (L g).length = 0
  · exact .inl ⟨h0, plTakeFull g w h.toPlIn h.pos hg h0⟩
  · obtain ⟨f, hlow, ht⟩ := h.top hg (by omega)
    exact .inr ⟨f, by rw [← h.len]; exact hlow.lt, hlow, plTake g f w h hg (by omega) hlow ht⟩
end
set_option maxRecDepth 100000 in
set_option maxHeartbeats 4000000 in
theorem poolApart_walk (a0 : Int) (p1 : Option Addr) (n1 c1 : Nat) (f1 : Nat → List Value) (a2 : Int) (w : World) (w0 : (Lit.int .u8 a0).wf = true) (w1 : SliceOk [some .u8] w p1 n1 c1 f1) (hR1 : c1 * 1 ≤ 140737488351232) (w2 : (Lit.int .u8 a2).wf = true) :
    Calls Try.prog 3 #[.int .u8 a0, .slice p1 n1 c1, .int .u8 a2] w fun e w' => e = .returned (.bool true) ∧ Below w.heap.size w w' := by
  have b0 := bounds_u8 w0
  obtain ⟨b00, b01⟩ := b0
  have b2 := bounds_u8 w2
  obtain ⟨b20, b21⟩ := b2
  obtain ⟨n, hN, hN1, hN2⟩ : ∃ N : Nat, (1 + a0 % 32 : Int) = N ∧ 1 ≤ N ∧ N ≤ 32 := ⟨(1 + a0 % 32).toNat, by omega, by omega, by omega⟩
  obtain ⟨t, hT, hT2⟩ : ∃ t : Nat, (a2 % 40 : Int) = t ∧ t < 40 := ⟨(a2 % 40).toNat, by omega, by omega⟩
  have HN := Lib.hid hN
  have HT := Lib.hid hT
  clear hN hT w0 w2 hR1
  go_enter Try.func3, Try.ntmps3
  go_wp2_with fail
  rw [HN.out]
  refine (fnew_full n _ hN2).mono ?_
  rintro e wa ⟨s, fb, rfl, hs, hfb, hst, hba⟩
  have hbela : Bel w.heap.size w wa := Bel.of (Bel.refl w) hba
  go_wp2_with fail
  refine (fnew_full n _ hN2).mono ?_
  rintro e wb ⟨s', fb', rfl, hs', hfb', hst', hbb⟩
  have hst2 := hst.below hbb
  have hbelb := hbela.of hbb
  have hls := lt_heap hst.2.1
  obtain ⟨curf, s3, _⟩ := hst.2.2.1
  have hlf := lt_heap s3
  clear s3
  go_wp2_with fail
  refine (plNew s fb n _ _ hst2 (by omega)).mono ?_
  rintro e wc ⟨b, st, rfl, hb, hp, hbc, hstc⟩
  have hst3 := hst'.below hbc
  have hbelc := hbelb.of hbc
  have hls' := lt_heap hst'.2.1
  obtain ⟨curf', s3', _⟩ := hst'.2.2.1
  have hlf' := lt_heap s3'
  clear s3'
  go_wp2_with fail
  refine (plNew s' fb' n _ _ hst3 (by omega)).mono ?_
  rintro e wd ⟨b', st', rfl, hb', hq, hbd, hstd⟩
  have hTwo : TwoP w wd n b s fb (fun _ => 0) nilV (fun _ => []) st (List.replicate n ⟨-1, false⟩) b' s' fb' (fun _ => 0) nilV (fun _ => []) st' (List.replicate n ⟨-1, false⟩) := by
    have hs1 := hbela.2
    have hs2 := hbelb.2
    have hs3 := hbelc.2
    have hs4 := hbb.size
    have hs5 := hbc.size
    refine ⟨hp.below hbd, hq, ⟨by omega, by omega, by omega, fun g hg a ha => (by cases ha), fun a ha => by have := hstc a ha; omega⟩, ⟨by omega, by omega, by omega, fun g hg a ha => (by cases ha), fun a ha => by have := hstd a ha; omega⟩, ?_, hbelc.of hbd⟩
    have hsd : s ≠ s' ∧ s ≠ fb' ∧ fb ≠ s' ∧ fb ≠ fb' := by refine ⟨?_, ?_, ?_, ?_⟩ <;> omega
    have hlb := hp.lt
    have hlst : ∀ i, some i = st.ownBlock → wb.heap.size ≤ i ∧ i < wc.heap.size := fun i hi => ⟨hstc i hi.symm, (hp.seats.lt i hi.symm).2⟩
    rintro i (rfl | rfl | rfl | ⟨g, hg, e⟩ | e) h2
    · rcases h2 with e2 | e2 | e2 | ⟨g, hg, e2⟩ | e2
      · omega
      · omega
      · omega
      · cases e2
      · have := hstd _ e2.symm; omega
    · rcases h2 with e2 | e2 | e2 | ⟨g, hg, e2⟩ | e2
      · omega
      · omega
      · omega
      · cases e2
      · have := hstd _ e2.symm; omega
    · rcases h2 with e2 | e2 | e2 | ⟨g, hg, e2⟩ | e2
      · omega
      · omega
      · omega
      · cases e2
      · have := hstd _ e2.symm; omega
    · cases e
    · have h3 := hlst i e
      rcases h2 with e2 | e2 | e2 | ⟨g, hg, e2⟩ | e2
      · omega
      · omega
      · omega
      · cases e2
      · have := hstd _ e2.symm; omega
  clear hst hst2 hst3 hst' hp hq hstc hstd hba hbb hbc hbd hbela hbelb hbelc hls hlf hls' hlf' hs hfb hs' hfb' hb hb' HN
  go_wp2_with fail
  go_loopw [16] (fun iv wr => ∃ (i : Nat) (G : Nat → Int) (V : Nat → Value) (L : Nat → List plIt) (S : List stIt) (G' : Nat → Int) (V' : Nat → Value) (L' : Nat → List plIt) (S' : List stIt), i ≤ n ∧ iv = .int .i64 i ∧ TwoP w wr n b s fb G V L st S b' s' fb' G' V' L' st' S' ∧ S = S' ∧ (∀ k, i ≤ k → k < n → (atL S k).who = -1) ∧ ∀ k, k < n → (atL S k).tk = false) (fun iv _ => n - (intOf iv).toNat)
  case atStart => exact ⟨0, _, _, _, _, _, _, _, _, Nat.zero_le _, rfl, hTwo, rfl, fun k _ hk => by rw [atL_replicate hk], fun k hk => by rw [atL_replicate hk]⟩
  case round =>
    clear hTwo
    obtain ⟨i, G, V, L, S, G', V', L', S', hin, rfl, hT, hSS, hfree, htk⟩ := hrel
    by_cases hi : i < n
    · by_cases hw : i < n1
      · obtain ⟨b1, o1, y, rfl, l1, _, wy, q1⟩ := w1.int1 hw
        have r1 := (hT.bel.1.cell (p := ⟨b1, o1 + i, none⟩) l1).trans q1
        have by1 := bounds_u8 wy
        obtain ⟨by0, by1⟩ := by1
        obtain ⟨x, hx, hx2⟩ : ∃ x : Nat, (y % 2 : Int) = x ∧ x < 2 := ⟨(y % 2).toNat, by omega, by omega⟩
        have HX := Lib.hid hx
        clear w1 wy hx
        go_wp2_with fail
        clear r1
        refine (plOwnI i _ x HX.out _ hT.p hi (by omega) (hfree i (Nat.le_refl _) hi)).mono ?_
        rintro e w2 ⟨rfl, v2, l2, h2, f2, o2⟩
        have hT2 := hT.step (by omega) h2 f2 o2
        clear hT h2 f2 o2
        go_wp2_with fail
        refine (plOwnI i _ x HX.out _ hT2.q hi (by omega) (by rw [← hSS]; exact hfree i (Nat.le_refl _) hi)).mono ?_
        rintro e w3 ⟨rfl, v3, l3, h3, f3, o3⟩
        have hT3 := (hT2.swap.step (by omega) h3 f3 o3).swap
        clear hT2 h3 f3 o3
        have hlS := hT3.p.len
        rw [List.length_set] at hlS
        go_wp2
        go_roundw
        case rel =>
          refine ⟨i + 1, _, _, _, _, _, _, _, _, by omega, by go_num, hT3, by rw [hSS], fun k h1 h2 => ?_, fun k hk => ?_⟩
          · rw [atL_setS (by omega), if_neg (by omega)]
            exact hfree k (by omega) h2
          · rw [atL_setS (by omega)]
            by_cases e : k = i
            · rw [if_pos e]
            · rw [if_neg e]; exact htk k hk
        case measure => simp [intOf]; omega
      · obtain ⟨x, hx0⟩ : ∃ x : Nat, x = 0 := ⟨0, rfl⟩
        have hx2 : x < 2 := by omega
        have hx : (0 : Int) = (x : Nat) := by omega
        have HX := Lib.hid hx
        clear w1 hx hx0
        go_wp2_with fail
        refine (plOwnI i _ x HX.out _ hT.p hi (by omega) (hfree i (Nat.le_refl _) hi)).mono ?_
        rintro e w2 ⟨rfl, v2, l2, h2, f2, o2⟩
        have hT2 := hT.step (by omega) h2 f2 o2
        clear hT h2 f2 o2
        go_wp2_with fail
        refine (plOwnI i _ x HX.out _ hT2.q hi (by omega) (by rw [← hSS]; exact hfree i (Nat.le_refl _) hi)).mono ?_
        rintro e w3 ⟨rfl, v3, l3, h3, f3, o3⟩
        have hT3 := (hT2.swap.step (by omega) h3 f3 o3).swap
        clear hT2 h3 f3 o3
        have hlS := hT3.p.len
        rw [List.length_set] at hlS
        go_wp2
        go_roundw
        case rel =>
          refine ⟨i + 1, _, _, _, _, _, _, _, _, by omega, by go_num, hT3, by rw [hSS], fun k h1 h2 => ?_, fun k hk => ?_⟩
          · rw [atL_setS (by omega), if_neg (by omega)]
            exact hfree k (by omega) h2
          · rw [atL_setS (by omega)]
            by_cases e : k = i
            · rw [if_pos e]
            · rw [if_neg e]; exact htk k hk
        case measure => simp [intOf]; omega
    · clear w1
      have hlen := hT.p.len
      have hR := Rel1.of_eq hlen hSS
      clear hSS hfree htk hlen
      obtain ⟨wx, rfl⟩ : ∃ wx : World, wx = wr := ⟨_, rfl⟩
      go_wp2_with fail
      go_loopw [18] (fun iv wr => ∃ (i : Nat) (G : Nat → Int) (V : Nat → Value) (L : Nat → List plIt) (S : List stIt), i ≤ 40 ∧ iv = .int .i64 i ∧ TwoP w wr n b s fb G V L st S b' s' fb' G' V' L' st' S' ∧ Rel1 n S S') (fun iv _ => 40 - (intOf iv).toNat)
      case atStart => exact ⟨0, _, _, _, _, by omega, rfl, hT, hR⟩
      case round =>
        clear hT hR hin hi G V L S
        obtain ⟨i, G, V, L, S, hin, rfl, hT, hR⟩ := hrel
        by_cases hi : i < t
        · have hlt : (i : Int) < a2 % 40 := by rw [HT.out]; omega
          clear HT
          go_wp2_with fail
          rcases plTakeAny 0 _ hT.p (by omega) with ⟨h0, hc⟩ | ⟨f, hf, hlow, hc⟩
          · refine hc.mono ?_
            rintro e w2 ⟨rfl, rfl⟩
            go_wp2
            go_roundw
            case rel => exact ⟨i + 1, _, _, _, _, by omega, by go_num, hT, hR⟩
            case measure => simp [intOf]; omega
          · refine hc.mono ?_
            rintro e w2 ⟨rfl, v2, l2, h2, f2, o2⟩
            have hT2 := hT.step (by omega) h2 f2 o2
            have hR2 := hR.other hf hlow.who (x := ⟨(0 : Nat), true⟩) rfl
            have hlS := hR.1
            clear hT h2 f2 o2
            by_cases h3 : (i : Int) % 3 = 2
            · have hat : atL (S.set f ⟨(0 : Nat), true⟩) f = ⟨(0 : Nat), true⟩ := by rw [atL_setS (by omega), if_pos rfl]
              go_wp2_with fail
              refine (plBack f _ hT2.p hf (by rw [hat])).mono ?_
              rintro e w3 ⟨rfl, g, v3, l3, hg, hwg, h3, f3, o3⟩
              have hT3 := hT2.step hg h3 f3 o3
              rw [hat] at hwg
              have hg0 : g = 0 := by simp only at hwg; omega
              subst hg0
              have hR3 := hR2.other (x := ⟨(0 : Nat), false⟩) hf (by rw [hat]) rfl
              clear hT2 h3 f3 o3 hR2 hR
              go_wp2
              go_roundw
              case rel => exact ⟨i + 1, _, _, _, _, by omega, by go_num, hT3, hR3⟩
              case measure => simp [intOf]; omega
            · go_wp2
              go_roundw
              case rel => exact ⟨i + 1, _, _, _, _, by omega, by go_num, hT2, hR2⟩
              case measure => simp [intOf]; omega
        · have hge : ¬ (i : Int) < a2 % 40 := by rw [HT.out]; omega
          obtain ⟨wx, rfl⟩ : ∃ wx : World, wx = wr := ⟨_, rfl⟩
          go_wp2_with fail
          clear HT hge hi
          go_loopw [21] (fun iv wr => ∃ (i : Nat) (G : Nat → Int) (V : Nat → Value) (L : Nat → List plIt) (S : List stIt) (G' : Nat → Int) (V' : Nat → Value) (L' : Nat → List plIt) (S' : List stIt), i ≤ n + 1 ∧ iv = .int .i64 i ∧ TwoP w wr n b s fb G V L st S b' s' fb' G' V' L' st' S' ∧ Rel1 n S S') (fun iv _ => n + 1 - (intOf iv).toNat)
          case atStart => exact ⟨0, _, _, _, _, _, _, _, _, by omega, rfl, hT, hR⟩
          case round =>
            clear hT hR hin
            obtain ⟨i, G, V, L, S, G', V', L', S', hin, rfl, hT, hR⟩ := hrel
            by_cases hi : i ≤ n
            · have hl1 := (hT.p.perm 1 (by omega)).length_eq
              have hl2 := (hT.q.perm 1 (by omega)).length_eq
              rw [hR.left, ← hl2] at hl1
              clear hl2
              go_wp2_with fail
              rcases plTakeAny 1 _ hT.p (by omega) with ⟨h0, hc⟩ | ⟨f, hf, hlow, hc⟩
              · have h0' : (L' 1).length = 0 := by omega
                refine hc.mono ?_
                rintro e w2 ⟨rfl, rfl⟩
                go_wp2_with fail
                refine (plTakeFull 1 _ hT.q.toPlIn hT.q.pos (by omega) h0').mono ?_
                rintro e w2 ⟨rfl, rfl⟩
                go_wp2_with fail
                refine (plLeft 1 _ hT.p.toPlIn hT.p.pos (by omega)).mono ?_
                rintro e w2 ⟨rfl, rfl⟩
                go_wp2_with fail
                refine (plLeft 1 _ hT.q.toPlIn hT.q.pos (by omega)).mono ?_
                rintro e w2 ⟨rfl, rfl⟩
                go_wp2
                go_roundw
                case rel => exact ⟨i + 1, _, _, _, _, _, _, _, _, by omega, by go_num, hT, hR⟩
                case measure => simp [intOf]; omega
              · refine hc.mono ?_
                rintro e w2 ⟨rfl, v2, l2, h2, f2, o2⟩
                have hT2 := hT.step (by omega) h2 f2 o2
                clear hc h2 f2 o2 hT
                go_wp2_with fail
                rcases plTakeAny 1 _ hT2.q (by omega) with ⟨h0, hc⟩ | ⟨f', hf', hlow', hc⟩
                · exact absurd ((hT2.q.none_left (by omega) h0) f hf) (fun hh => hh ⟨(hR.low hlow).who, (hR.low hlow).tk⟩)
                · obtain rfl := low_one (hR.low hlow) hlow'
                  refine hc.mono ?_
                  rintro e w3 ⟨rfl, v3, l3, h3, f3, o3⟩
                  have hT3 := (hT2.swap.step (by omega) h3 f3 o3).swap
                  have hR3 := hR.set (f := f) (x := ⟨(1 : Nat), true⟩) hf
                  have hl4 := (hT3.p.perm 1 (by omega)).length_eq
                  have hl5 := (hT3.q.perm 1 (by omega)).length_eq
                  rw [hR3.left, ← hl5] at hl4
                  clear hl5 hl1 hT2 hR hc h3 f3 o3
                  have HL := Lib.hid hl4
                  clear hl4
                  go_wp2_with fail
                  refine (plLeft 1 _ hT3.p.toPlIn hT3.p.pos (by omega)).mono ?_
                  rintro e w4 ⟨rfl, rfl⟩
                  go_wp2_with fail
                  refine (plLeft 1 _ hT3.q.toPlIn hT3.q.pos (by omega)).mono ?_
                  rintro e w4 ⟨rfl, rfl⟩
                  rw [HL.out]
                  clear HL
                  go_wp2
                  go_roundw
                  case rel => exact ⟨i + 1, _, _, _, _, _, _, _, _, by omega, by go_num, hT3, hR3⟩
                  case measure => simp [intOf]; omega
            · have hbel := hT.bel
              clear hT hR
              go_wp2_with fail
              refine (awake07 _).mono ?_
              rintro e w4 ⟨rfl, b4⟩
              have hb := hbel.of b4
              go_wp2
              go_ret
              exact ⟨rfl, hb.1⟩
end Go.Proofs.Ytgcnmhlojfncpaa
