/- law 19: ShadowOne. -/
import Derived.Test.YthppjkpejnaocaaShV
namespace Go.Proofs.Ythppjkpejnaocaa
open Go.ChangeShapes Go.WideShapes Go.ChangeAt Go.RowKit
set_option linter.unusedVariables false

theorem er_case {l : List ln} {k0 k1 e0 e1 e2 rt lf : Int} (hn : l.length ≤ 32) (hw : (Lit.int .i64 e2).wf = true) :
    bits .andNot .i64 (lastX l ⟨k0, k1, e0, e1, e2, rt, lf⟩).er 2 = bits .andNot .i64 e2 2 ∧
    ((bits .and .i64 e2 2 = 0 ∧ (lastX l ⟨k0, k1, e0, e1, e2, rt, lf⟩).er = e2) ∨
     (bits .and .i64 e2 2 ≠ 0 ∧ tableB (fillL l ⟨k0, k1, e0, e1, e2, rt, lf⟩) e0 = true ∧ ((lastX l ⟨k0, k1, e0, e1, e2, rt, lf⟩).er == e2) = false) ∨
     (bits .and .i64 e2 2 ≠ 0 ∧ tableB (fillL l ⟨k0, k1, e0, e1, e2, rt, lf⟩) e0 = false ∧ (lastX l ⟨k0, k1, e0, e1, e2, rt, lf⟩).er = e2)) := by
  have h := er_lastX l ⟨k0, k1, e0, e1, e2, rt, lf⟩
  have ht := table_fillL (x := ⟨k0, k1, e0, e1, e2, rt, lf⟩) hn e0
  simp only at h ht
  rw [← ht] at h
  rw [h]
  cases tableB (fillL l ⟨k0, k1, e0, e1, e2, rt, lf⟩) e0
  · refine ⟨rfl, ?_⟩
    by_cases hz : bits .and .i64 e2 2 = 0
    · exact .inl ⟨hz, rfl⟩
    · exact .inr (.inr ⟨hz, rfl, rfl⟩)
  · refine ⟨nrw_nrw e2, ?_⟩
    by_cases hz : bits .and .i64 e2 2 = 0
    · exact .inl ⟨hz, nrw_same hw hz⟩
    · refine .inr (.inl ⟨hz, rfl, ?_⟩)
      rw [if_pos rfl, nrw_iff hw]
      simpa using hz
theorem get_fill {l : List ln} {k0 k1 e0 e1 e2 rt lf : Int} (hn : l.length ≤ 32) : getX (fillL l ⟨k0, k1, e0, e1, e2, rt, lf⟩) k0 k1 = lastX l ⟨k0, k1, e0, e1, e2, rt, lf⟩ ∧ getB (fillL l ⟨k0, k1, e0, e1, e2, rt, lf⟩) k0 k1 = true := by
  have h := fill_get hn ⟨k0, k1, e0, e1, e2, rt, lf⟩
  simp only at h
  exact ⟨by rw [getX, h]; rfl, by rw [getB, h]; rfl⟩

set_option maxRecDepth 100000 in
set_option maxHeartbeats 8000000 in
theorem shadowOne_walk (p0 : Option Addr) (n0 c0 : Nat) (f0 : Nat → List Value) (l1 l2 : List Value) (a3 a4 : Int) (w : World) (w0 : SliceOk [some .i64, some .i64, some .i64, some .i64, some .i64, some .i64, some .i64, some .i64] w p0 n0 c0 f0) (hR0 : c0 * 64 ≤ 140737488351232) (w1 : rowOk [some .i64, some .i64] l1) (w2 : rowOk [some .i64, some .i64, some .i64] l2) (w3 : (Lit.int .u8 a3).wf = true) (w4 : (Lit.int .u8 a4).wf = true) :
    Calls Try.prog 7 #[.slice p0 n0 c0, .agg l1.toArray, .agg l2.toArray, .int .u8 a3, .int .u8 a4] w fun e w' => e = .returned (.bool true) ∧ Below w.heap.size w w' := by
  clear hR0
  have hm0 : n0 ≤ 9223372036854775807 := Nat.le_trans w0.1 w0.2.1
  obtain ⟨k0, r, rfl, _, w1⟩ := rowOk_int w1
  obtain ⟨k1, r, rfl, _, w1⟩ := rowOk_int w1
  obtain rfl := rowOk_nil w1
  obtain ⟨e0, r, rfl, _, w2⟩ := rowOk_int w2
  obtain ⟨e1, r, rfl, _, w2⟩ := rowOk_int w2
  obtain ⟨e2, r, rfl, hwe, w2⟩ := rowOk_int w2
  obtain rfl := rowOk_nil w2
  obtain ⟨hq0, hq1⟩ := bounds_u8 w3
  obtain ⟨hs0, hs1⟩ := bounds_u8 w4
  clear w1 w2 w3 w4
  obtain ⟨P, hP8⟩ : ∃ P : Int, a3 % 8 = P := ⟨_, rfl⟩
  obtain ⟨R, hR8⟩ : ∃ R : Int, a4 % 8 = R := ⟨_, rfl⟩
  have hPa : 0 ≤ P ∧ P < 8 := by omega
  have hRa : 0 ≤ R ∧ R < 8 := by omega
  have eK : ((w.alloc (.cells #[.int .i64 k0, .int .i64 k1] 30)).alloc (.cells #[.int .i64 e0, .int .i64 e1, .int .i64 e2] 32)).heap[w.heap.size]? = some (.cells #[.int .i64 k0, .int .i64 k1] 30 (0, 0)) := heap_alloc (Go.heap_alloc_new w _)
  have eR : ((w.alloc (.cells #[.int .i64 k0, .int .i64 k1] 30)).alloc (.cells #[.int .i64 e0, .int .i64 e1, .int .i64 e2] 32)).heap[w.heap.size + 1]? = some (.cells #[.int .i64 e0, .int .i64 e1, .int .i64 e2] 32 (0, 0)) := by
    have := Go.heap_alloc_new (w.alloc (.cells #[.int .i64 k0, .int .i64 k1] 30)) (.cells #[.int .i64 e0, .int .i64 e1, .int .i64 e2] 32)
    simpa using this
  have hB := (Bel.refl w).alloc (o := .cells #[.int .i64 k0, .int .i64 k1] 30) |>.alloc (o := .cells #[.int .i64 e0, .int .i64 e1, .int .i64 e2] 32)
  have hs : ((w.alloc (.cells #[.int .i64 k0, .int .i64 k1] 30)).alloc (.cells #[.int .i64 e0, .int .i64 e1, .int .i64 e2] 32)).heap.size = w.heap.size + 2 := by simp
  obtain ⟨W, hW⟩ : ∃ W, ((w.alloc (.cells #[.int .i64 k0, .int .i64 k1] 30)).alloc (.cells #[.int .i64 e0, .int .i64 e1, .int .i64 e2] 32)) = W := ⟨_, rfl⟩
  go_enter Try.func7, Try.ntmps7
  go_wp2_with fail
  rw [hW] at eK eR hB hs
  clear hW
  refine (sh_new _).mono ?_
  rintro e w1 ⟨rfl, h1, b1, _⟩
  have hB1 := hB.of b1
  have eK1 := (b1.block _ (lt_heap eK)).trans eK
  have eR1 := (b1.block _ (lt_heap eR)).trans eR
  obtain ⟨K, hK⟩ : ∃ K, w.heap.size = K := ⟨_, rfl⟩
  rw [hK] at eK1 eR1 hs
  rw [hs] at h1
  clear hB eK eR b1
  go_wp2_with fail
  go_loopw [12] (fun iv wr => ∃ (i : Nat) (v : Value) (l : List ln), i ≤ 60 ∧ iv = .int .i64 i ∧ ShIn wr (K + 2) v l ∧ UInv l ∧ Bel w.heap.size w wr ∧ wr.heap[K]? = some (.cells #[.int .i64 k0, .int .i64 k1] 30 (0, 0)) ∧ wr.heap[K + 1]? = some (.cells #[.int .i64 e0, .int .i64 e1, .int .i64 e2] 32 (0, 0))) (fun iv _ => 60 - (intOf iv).toNat)
  case atStart => exact ⟨0, _, [], Nat.zero_le _, rfl, h1, UInv.nil, hB1, eK1, eR1⟩
  case round =>
    clear h1 hB1 eK1 eR1
    obtain ⟨i, v, l, hi, rfl, hr, hP, hB, eK, eR⟩ := hrel
    by_cases hall : i < n0 ∧ i < 60
    · obtain ⟨i0, i100⟩ := hall
      obtain ⟨b1, o1, a, rfl, hA⟩ := acts_at w0 i0
      have hA2 := hA.below hB.1 (Nat.le_refl _)
      clear w0 hA
      have r0 := hA2.c0
      have r1 := hA2.c1
      have r2 := hA2.c2
      have r3 := hA2.c3
      have r4 := hA2.c4
      have r5 := hA2.c5
      have r6 := hA2.c6
      have r7 := hA2.c7
      have hd := sh_does a wr hr hP.1
      unfold actV at hd
      have hP2 := hP.act a
      obtain ⟨kd, ⟨k0, k1, e0, e1, e2, rt, lf⟩⟩ := a
      clear hA2
      go_wp2_with fail
      refine hd.mono ?_
      rintro e w2 ⟨u1, u2, v2, rfl, _, h2, f2⟩
      have hB2 := hB.frm f2 (by omega) (fun g hg => by have := (hr.own g hg).1; omega)
      have eK2 := f2.other hr eK (by decide) (by decide)
      have eR2 := f2.other hr eR (by decide) (by decide)
      generalize doL l ⟨kd, ⟨k0, k1, e0, e1, e2, rt, lf⟩⟩ = l2 at *
      clear hd r0 r1 r2 r3 r4 r5 r6 r7 hr hP f2 hB eK eR
      go_wp2
      go_roundw
      case rel => exact ⟨i + 1, v2, l2, by omega, by go_num, h2, hP2, hB2, eK2, eR2⟩
      case measure => simp [intOf]; omega
    · have hcase : ¬ i < n0 ∨ (i < n0 ∧ ¬ i < 60) := by omega
      have hl := hP.1
      have hfl := fill_len hP ⟨k0, k1, e0, e1, e2, P, R⟩
      have hfm := fill_many hl ⟨k0, k1, e0, e1, e2, P, R⟩
      have hgf := get_fill (k0 := k0) (k1 := k1) (e0 := e0) (e1 := e1) (e2 := e2) (rt := P) (lf := R) hl
      have hlx := ep_lastX l ⟨k0, k1, e0, e1, e2, P, R⟩
      have her := er_case (k0 := k0) (k1 := k1) (e0 := e0) (e1 := e1) (rt := P) (lf := R) hl hwe
      have hF32 := (hP.fill ⟨k0, k1, e0, e1, e2, P, R⟩).1
      simp only at hfl hfm hlx
      clear hall w0 hP
      have c0 := (cell_of_row _ _ 0 _ _ _ eK).trans rfl
      have c1 := (cell_of_row _ _ 1 _ _ _ eK).trans rfl
      have y0 := (cell_of_row _ _ 0 _ _ _ eR).trans rfl
      have y1 := (cell_of_row _ _ 1 _ _ _ eR).trans rfl
      have y2 := (cell_of_row _ _ 2 _ _ _ eR).trans rfl
      have lK := lt_heap eK
      have lR := lt_heap eR
      rcases hcase with hc | ⟨hc1, hc⟩
      all_goals
        go_wp2_with fail
        refine (sh_len _ hr).mono ?_
        rintro e w2 ⟨rfl, rfl⟩
        go_wp2_with fail
        refine (sh_get k0 k1 _ hr (by omega)).mono ?_
        rintro e w2 ⟨rfl, b2⟩
        have hr2 := hr.below b2
        have hB2 := hB.of b2
        have eK2 := (b2.block _ lK).trans eK
        have eR2 := (b2.block _ lR).trans eR
        clear b2 hr hB eK eR c0 c1 y0 y1 y2 lK lR
        have c0 := (cell_of_row _ _ 0 _ _ _ eK2).trans rfl
        have c1 := (cell_of_row _ _ 1 _ _ _ eK2).trans rfl
        have y0 := (cell_of_row _ _ 0 _ _ _ eR2).trans rfl
        have y1 := (cell_of_row _ _ 1 _ _ _ eR2).trans rfl
        have y2 := (cell_of_row _ _ 2 _ _ _ eR2).trans rfl
        have lK := lt_heap eK2
        have lR := lt_heap eR2
        generalize (getX l k0 k1).ep = g0
        generalize (getX l k0 k1).ef = g1
        generalize (getX l k0 k1).er = g2
        have hrA := hr2.alloc (ob := .cells #[.int .i64 g0, .int .i64 g1, .int .i64 g2] 32)
        have hBA := hB2.alloc (o := .cells #[.int .i64 g0, .int .i64 g1, .int .i64 g2] 32)
        have eKA := heap_alloc (o' := .cells #[.int .i64 g0, .int .i64 g1, .int .i64 g2] 32) eK2
        have eRA := heap_alloc (o' := .cells #[.int .i64 g0, .int .i64 g1, .int .i64 g2] 32) eR2
        clear hr2 hB2 eK2 eR2
        have hcs : (getB l k0 k1 = true ∧ (((fillL l ⟨k0, k1, e0, e1, e2, P, R⟩).length : Nat) : Int) = (l.length : Int)) ∨ (getB l k0 k1 = false ∧ (((fillL l ⟨k0, k1, e0, e1, e2, P, R⟩).length : Nat) : Int) = (l.length : Int) + 1 ∧ ¬ (32 : Int) < (l.length : Int) + 1) ∨ (getB l k0 k1 = false ∧ (((fillL l ⟨k0, k1, e0, e1, e2, P, R⟩).length : Nat) : Int) = 32 ∧ (32 : Int) < (l.length : Int) + 1) := by
          cases hgb : getB l k0 k1
          · rw [hgb, if_neg (by simp)] at hfl
            by_cases h31 : l.length ≤ 31
            · exact .inr (.inl ⟨rfl, by omega, by omega⟩)
            · exact .inr (.inr ⟨rfl, by omega, by omega⟩)
          · rw [hgb, if_pos rfl] at hfl
            exact .inl ⟨rfl, by omega⟩
        clear hfl
        generalize getB l k0 k1 = had at *
        rcases hcs with ⟨rfl, hfl⟩ | ⟨rfl, hfl, hmn⟩ | ⟨rfl, hfl, hmn⟩
        all_goals
          go_wp2_with fail
          refine (sh_fill k0 k1 e0 e1 e2 P R _ hrA hl hPa hRa).mono ?_
          rintro e w3 ⟨g, k, v3, rfl, _, _, hr3, f3⟩
          have hB3 := hBA.frm f3 (by omega) (fun g hg => by have := (hrA.own g hg).1; omega)
          have eK3 := f3.other hrA eKA (by decide) (by decide)
          have eR3 := f3.other hrA eRA (by decide) (by decide)
          have hG := sh_get k0 k1 w3 hr3 (by omega)
          rw [hgf.1, hgf.2, hlx.1, hlx.2.1] at hG
          obtain ⟨fer, hfer⟩ : ∃ fer, (lastX l ⟨k0, k1, e0, e1, e2, P, R⟩).er = fer := ⟨_, rfl⟩
          obtain ⟨F, hF⟩ : ∃ F, fillL l ⟨k0, k1, e0, e1, e2, P, R⟩ = F := ⟨_, rfl⟩
          rw [hfer] at hG her
          rw [hF] at hr3 hfm hfl hF32 her
          obtain ⟨hnn, her⟩ := her
          have HER := Lib.hid her
          have HFM := Lib.hid hfm
          clear hrA hBA eKA eRA f3 hgf hlx hfer hF her hfm c0 c1 y0 y1 y2 lK lR
          have c0 := (cell_of_row _ _ 0 _ _ _ eK3).trans rfl
          have c1 := (cell_of_row _ _ 1 _ _ _ eK3).trans rfl
          have lK := lt_heap eK3
          go_wp2_with fail
          refine hG.mono ?_
          rintro e w4 ⟨rfl, b4⟩
          have hr4 := hr3.below b4
          have hB4 := hB3.of b4
          have eK4 := (b4.block _ (lt_heap eK3)).trans eK3
          have eR4 := (b4.block _ (lt_heap eR3)).trans eR3
          clear hG b4 hr3 hB3 eK3 eR3 c0 c1 lK
          have eF5 := Go.heap_alloc_new w4 (.cells #[.int .i64 e0, .int .i64 e1, .int .i64 fer] 32)
          have hr5 := hr4.alloc (ob := .cells #[.int .i64 e0, .int .i64 e1, .int .i64 fer] 32)
          have hB5 := hB4.alloc (o := .cells #[.int .i64 e0, .int .i64 e1, .int .i64 fer] 32)
          have eK5 := heap_alloc (o' := .cells #[.int .i64 e0, .int .i64 e1, .int .i64 fer] 32) eK4
          have eR5 := heap_alloc (o' := .cells #[.int .i64 e0, .int .i64 e1, .int .i64 fer] 32) eR4
          obtain ⟨G, hG⟩ : ∃ G, w4.heap.size = G := ⟨_, rfl⟩
          rw [hG] at eF5
          obtain ⟨w5, hw5⟩ : ∃ w5, w4.alloc (.cells #[.int .i64 e0, .int .i64 e1, .int .i64 fer] 32) = w5 := ⟨_, rfl⟩
          rw [hw5] at eF5 hr5 hB5 eK5 eR5
          clear hr4 hB4 eK4 eR4
          have y0 := (cell_of_row _ _ 0 _ _ _ eR5).trans rfl
          have y1 := (cell_of_row _ _ 1 _ _ _ eR5).trans rfl
          have y2 := (cell_of_row _ _ 2 _ _ _ eR5).trans rfl
          have x0 := (cell_of_row _ _ 0 _ _ _ eF5).trans rfl
          have x1 := (cell_of_row _ _ 1 _ _ _ eF5).trans rfl
          have x2 := (cell_of_row _ _ 2 _ _ _ eF5).trans rfl
          have lR := lt_heap eR5
          have lF := lt_heap eF5
          go_wp2_with fail
          clear hw5
          refine (sh_len _ hr5).mono ?_
          rintro e w6 ⟨rfl, rfl⟩
          clear x0 x1 x2 y0 y1 y2 lR lF hl
          have c0 := (cell_of_row _ _ 0 _ _ _ eK5).trans rfl
          have c1 := (cell_of_row _ _ 1 _ _ _ eK5).trans rfl
          have lK := lt_heap eK5
          go_wp2_with fail
          refine (sh_list _ hr5 (by omega)).mono ?_
          rintro e w6 ⟨u, rfl, hown, b6⟩
          obtain ⟨ua, uc, rfl, _, _, hit, _⟩ := items_of_owned kpEnc_length hown
          have hr6 := hr5.below b6
          have hB6 := hB5.of b6
          have eK6 := (b6.block _ (lt_heap eK5)).trans eK5
          have eR6 := (b6.block _ (lt_heap eR5)).trans eR5
          have eF6 := (b6.block _ (lt_heap eF5)).trans eF5
          clear hown b6 hr5 hB5 eK5 eR5 eF5 c0 c1 lK hfl
          go_wp2_with fail
          go_loopw [21, 23] (fun mv iv wr => ∃ i m : Nat, i ≤ F.length ∧ iv = .int .i64 i ∧ mv = .int .i64 m ∧ Hid (m = ((F.take i).filter (keyB k0 k1)).length) ∧ m ≤ i ∧ Below w6.heap.size w6 wr) (fun _ iv _ => F.length - (intOf iv).toNat)
          case atStart => exact ⟨0, 0, Nat.zero_le _, rfl, rfl, Lib.hid rfl, Nat.le_refl _, Below.refl _ _⟩
          case round =>
            obtain ⟨i2, m, hi2, rfl, rfl, HM, hmi, hb2⟩ := hrel
            have eK7 := (hb2.block _ (lt_heap eK6)).trans eK6
            by_cases hil : i2 < F.length
            · have hit3 := hit.below hb2
              obtain ⟨g', o, rfl, hg, hc1⟩ := hit3.2 (by omega)
              have d0 := hc1 i2 hil 0 (by omega)
              have d1 := hc1 i2 hil 1 (by omega)
              simp only [kpEnc, List.getElem?_cons_succ, List.getElem?_cons_zero, Nat.add_zero] at d0 d1
              have c0 := (cell_of_row _ _ 0 _ _ _ eK7).trans rfl
              have c1 := (cell_of_row _ _ 1 _ _ _ eK7).trans rfl
              have lK := lt_heap eK7
              have hsu := filter_take_succ (f := keyB k0 k1) hil
              have hkb : ((atL F i2).kr == k0 && (atL F i2).kp == k1) = keyB k0 k1 (atL F i2) := rfl
              clear hc1 hit hit3 eK6 eK7 eR6 eF6 hr6 hB6
              generalize keyB k0 k1 (atL F i2) = X at *
              go_wp2_with fail
              refine wp_region_later (by kernel_rfl) (by kernel_rfl) ?_
              repeat (first | go_big_quiet_step (first | fail))
              refine wpQuiet_nil ?_
              intro w9 hw'
              have hb9 : Below wr.heap.size wr w9 := by
                obtain ⟨x9, hw''⟩ := hw'
                subst hw''
                exact later_below wr x9
              clear hw'
              have hb10 := hb2.trans (hb9.mono hb2.size)
              have HMM := HM.out
              clear HM hb9 hb2
              cases X
              · have HSU := Lib.hid hsu
                have HM2 := Lib.hid HMM
                clear hsu HMM
                go_wp2_with fail
                go_roundw
                case rel => exact ⟨i2 + 1, m, by omega, by go_num, rfl, Lib.hid (by rw [HSU.out, if_neg (by simp)]; exact HM2.out), by omega, hb10⟩
                case measure => simp [intOf]; omega
              · have HSU := Lib.hid hsu
                have HM2 := Lib.hid HMM
                clear hsu HMM
                go_wp2_with fail
                go_roundw
                case rel => exact ⟨i2 + 1, m + 1, by omega, by go_num, by go_num, Lib.hid (by rw [HSU.out, if_pos rfl, List.length_append, ← HM2.out]; rfl), by omega, hb10⟩
                case measure => simp [intOf]; omega
            · obtain rfl : i2 = F.length := by omega
              have hm1 : (m : Int) = 1 := by
                have : m = 1 := by rw [HM.out, List.take_length]; exact HFM.out
                omega
              have hr7 := hr6.below hb2
              have hB7 := hB6.of hb2
              have eR7 := (hb2.block _ (lt_heap eR6)).trans eR6
              have eF7 := (hb2.block _ (lt_heap eF6)).trans eF6
              have y0 := (cell_of_row _ _ 0 _ _ _ eR7).trans rfl
              have y1 := (cell_of_row _ _ 1 _ _ _ eR7).trans rfl
              have y2 := (cell_of_row _ _ 2 _ _ _ eR7).trans rfl
              have x2 := (cell_of_row _ _ 2 _ _ _ eF7).trans rfl
              have lR := lt_heap eR7
              have lF := lt_heap eF7
              obtain ⟨T, hTT⟩ : ∃ T, tableB F e0 = T := ⟨_, rfl⟩
              have hT : ∀ w, ShIn w (K + 2) v3 F → Calls Try.prog 11 #[.pointer (some ⟨K + 2, 0, none⟩), .int .i64 e0] w fun e w' => e = .returned (.bool T) ∧ w = w' := by
                rw [← hTT]
                exact fun w h => sh_table e0 w h (by omega)
              clear HM hit eK6 eK7 eR6 eF6 hr6 hB6 eR7 eF7 hnn
              have HE := HER.out
              rw [hTT] at HE
              clear hTT HER
              rcases HE with ⟨hz, rfl⟩ | ⟨hz, rfl, hne⟩ | ⟨hz, rfl, rfl⟩
              all_goals
                first
                  | (have hz1 : (bits .and .i64 _ 2 == 0) = true := beq_iff_eq.2 hz
                     have hz2 : decide (bits .and .i64 _ 2 = 0) = true := decide_eq_true hz)
                  | (have hz1 : (bits .and .i64 _ 2 == 0) = false := beq_eq_false_iff_ne.2 hz
                     have hz2 : decide (bits .and .i64 _ 2 = 0) = false := decide_eq_false hz)
                go_wp2_with fail
                refine wp_region_later (by kernel_rfl) (by kernel_rfl) ?_
                repeat (first | go_big_quiet_step (first
                  | (go_at_call 11; exact Calls.later_same (hT _ (hr7.below (later_below _ _))))
                  | (go_at_call 12; exact Calls.later_of (awake19 _))))
                refine wpQuiet_nil ?_
                intro w9 hw'
                have hb9 : Below wr.heap.size wr w9 := by
                  obtain ⟨x9, hw''⟩ := hw'
                  subst hw''
                  exact later_below wr x9
                clear hw'
                have hBb := hB7.of hb9
                go_wp2_with fail
                go_ret
                exact ⟨by first | rfl | simp_all, hBb.1⟩
end Go.Proofs.Ythppjkpejnaocaa
