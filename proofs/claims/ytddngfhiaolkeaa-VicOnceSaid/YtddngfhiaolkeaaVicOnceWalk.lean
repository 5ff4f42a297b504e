/- law 28: VicOnce. -/
import Derived.Test.YtddngfhiaolkeaaVl
namespace Go.Proofs.Ytddngfhiaolkeaa
open Go.ChangeShapes Go.WideShapes Go.ChangeAt Go.RowKit
set_option linter.unusedVariables false

theorem SliceOk.int3 {k k' k'' : IntKind} {w : World} {a : Option Addr} {len cap : Nat} {f : Nat → List Value} (h : SliceOk [some k, some k', some k''] w a len cap f) {i : Nat} (hi : i < len) :
    ∃ b off n n' n'', a = some ⟨b, off, none⟩ ∧ b < w.heap.size ∧ w.cell? ⟨b, off + i * 3, none⟩ = some (.int k n) ∧ w.cell? ⟨b, off + i * 3 + 1, none⟩ = some (.int k' n') ∧ w.cell? ⟨b, off + i * 3 + 2, none⟩ = some (.int k'' n'') := by
  obtain ⟨b, off, ha, hb, hr, hc⟩ := h.at hi
  obtain ⟨n, r, hf, hw, hr⟩ := rowOk_int hr
  obtain ⟨n', r, rfl, hw', hr⟩ := rowOk_int hr
  obtain ⟨n'', r, rfl, hw'', hr⟩ := rowOk_int hr
  have h0 := hc 0 (by simp)
  have h1 := hc 1 (by simp)
  have h2 := hc 2 (by simp)
  rw [hf] at h0 h1 h2
  exact ⟨b, off, n, n', n'', ha, hb, by simpa using h0, by simpa [Nat.add_assoc] using h1, by simpa [Nat.add_assoc] using h2⟩
/-- Take, whatever is ahead. -/
theorem vcTakeAny {b now : Nat} {s : Nat → vcLn} {v : Value} {l : List vcIt} (w : World) (h : VcAt w b s now v l) :
    (∀ k, k < 8 → isAct (s k) = false) ∨ ∃ n : Nat, n < 8 ∧ isAct (s n) = true ∧
      Calls Try.prog 12 #[.pointer (some ⟨b, 0, none⟩)] w fun e w' => e = .returned (.tuple #[.int .i64 n, .bool true]) ∧ ∃ v' l', VcAt w' b (putF s n { s n with wt := false }) now v' l' ∧ Frm b v v' w w' := by
  rcases Nat.eq_zero_or_pos l.length with h0 | h0
  · refine .inl fun k hk => ?_
    cases ha : isAct (s k)
    · rfl
    · have := (mem_of_perm h.perm).2 ⟨k, hk, ha, rfl⟩
      rw [List.length_eq_zero_iff.1 h0] at this
      cases this
  · obtain ⟨k, hk, hka, he⟩ := (mem_of_perm h.perm).1 (mem_atL h0)
    exact .inr ⟨k, hk, hka, vcTake b now s v l k w h h0 hk (by rw [he]; rfl)⟩
theorem isAct_wt {x : vcLn} (h : isAct x = true) : x.wt = true := by
  unfold isAct at h
  simp at h
  exact h.1
theorem nW_zero {s : Nat → vcLn} (h : nW s = 0) : ∀ k, k < 8 → (s k).wt = false := by
  intro k hk
  cases hw : (s k).wt
  · rfl
  · have := nW_split s hk
    rw [if_pos hw] at this
    omega
theorem nW_pos {s : Nat → vcLn} (h : 0 < nW s) : ∃ k, k < 8 ∧ (s k).wt = true := by
  unfold nW waitL at h
  obtain ⟨k, hk⟩ := List.exists_mem_of_length_pos h
  rw [List.mem_filter] at hk
  exact ⟨k, List.mem_range.1 hk.1, hk.2⟩

set_option maxRecDepth 100000 in
set_option maxHeartbeats 4000000 in
theorem vicOnce_walk (p0 : Option Addr) (n0 c0 : Nat) (f0 : Nat → List Value) (w : World) (w0 : SliceOk [some .i64, some .i64, some .i64] w p0 n0 c0 f0) (hR0 : c0 * 24 ≤ 140737488351232) :
    Calls Try.prog 5 #[.slice p0 n0 c0] w fun e w' => e = .returned (.bool true) ∧ Below w.heap.size w w' := by
  have hlen : n0 ≤ 140737488351232 := by
    have := w0.1
    omega
  go_enter Try.func5, Try.ntmps5
  go_wp2_with fail
  refine (vcNew _).mono ?_
  rintro e w1 ⟨rfl, b1, h1⟩
  have hb1 : Bel w.heap.size w w1 := ⟨b1, b1.size⟩
  go_wp2_with fail
  go_loopw [4, 5, 6] (fun rv gv iv wr => ∃ (i g r : Nat) (s : Nat → vcLn) (now : Nat) (v : Value) (l : List vcIt), i ≤ 100 ∧ iv = .int .i64 i ∧ gv = .int .i64 g ∧ rv = .int .i64 r ∧ now ≤ i ∧ g ≤ i ∧ r = g + nW s ∧ VcAt wr w.heap.size s now v l ∧ Bel w.heap.size w wr) (fun _ _ iv _ => 100 - (intOf iv).toNat)
  case atStart => exact ⟨0, 0, 0, vc0, 0, _, _, Nat.zero_le _, rfl, rfl, rfl, Nat.le_refl _, Nat.le_refl _, rfl, h1, hb1⟩
  case round =>
    obtain ⟨i, gq, rq, s, now, v, l, hi, rfl, rfl, rfl, hnow, hgi, hrq, hV, hb⟩ := hrel
    obtain ⟨wo, rfl⟩ : ∃ wo : World, wo = wr := ⟨_, rfl⟩
    clear h1 hb1 b1
    have hq8 := nW_le s
    by_cases hall : i < n0 ∧ i < 100
    · obtain ⟨i0, i100⟩ := hall
      obtain ⟨b0, o0, kd, ln, pp, rfl, l0, q0, q1, q2⟩ := SliceOk.int3 w0 i0
      have r0 : wo.cell? ⟨b0, o0 + i * 3, none⟩ = some (.int .i64 kd) := (hb.1.cell (p := ⟨b0, o0 + i * 3, none⟩) l0).trans q0
      have r1 : wo.cell? ⟨b0, o0 + i * 3 + 1, none⟩ = some (.int .i64 ln) := (hb.1.cell (p := ⟨b0, o0 + i * 3 + 1, none⟩) l0).trans q1
      have r2 : wo.cell? ⟨b0, o0 + i * 3 + 2, none⟩ = some (.int .i64 pp) := (hb.1.cell (p := ⟨b0, o0 + i * 3 + 2, none⟩) l0).trans q2
      clear q0 q1 q2 w0
      have hA : (wo.alloc (.cells #[.int .i64 kd, .int .i64 ln, .int .i64 pp] 39)).heap[wo.heap.size]? = some (.cells #[.int .i64 kd, .int .i64 ln, .int .i64 pp] 39 (0, 0)) := Go.heap_alloc_new wo _
      have hVa : VcAt (wo.alloc (.cells #[.int .i64 kd, .int .i64 ln, .int .i64 pp] 39)) w.heap.size s now v l := hV.below (Bel.refl wo).alloc.1
      have hba : Bel w.heap.size w (wo.alloc (.cells #[.int .i64 kd, .int .i64 ln, .int .i64 pp] 39)) := hb.alloc
      obtain ⟨qq, hqq⟩ : ∃ q, nW s = q := ⟨_, rfl⟩
      have hqq8 : qq ≤ 8 := by omega
      have hrq1 : rq ≤ 108 := by omega
      have HQQ := Lib.hid hqq
      have HRQ := Lib.hid hrq
      clear hqq hrq
      go_wp2_with fail
      refine (vcWaitsN hVa).mono ?_
      rintro e wb ⟨ab, cb, rfl, ob, bb⟩
      rw [HQQ.out]
      have hV1 := hVa.below bb
      have hb1 := hba.of bb
      have hB : wb.heap[wo.heap.size]? = some (.cells #[.int .i64 kd, .int .i64 ln, .int .i64 pp] 39 (0, 0)) := (bb.block _ (lt_heap hA)).trans hA
      have k0 : wb.cell? ⟨wo.heap.size, 0, none⟩ = some (.int .i64 kd) := cell_of_row _ _ _ _ _ _ hB
      have k1 : wb.cell? ⟨wo.heap.size, 1, none⟩ = some (.int .i64 ln) := cell_of_row _ _ _ _ _ _ hB
      have k2 : wb.cell? ⟨wo.heap.size, 2, none⟩ = some (.int .i64 pp) := cell_of_row _ _ _ _ _ _ hB
      clear ob hA hB hVa hba hV hb r0 r1 r2 bb
      rcases (by omega : kd = 0 ∨ kd = 1 ∨ kd = 2 ∨ kd = 3 ∨ (kd ≠ 0 ∧ kd ≠ 1 ∧ kd ≠ 2 ∧ kd ≠ 3)) with rfl | rfl | rfl | rfl | ⟨kd0, kd1, kd2, kd3⟩
      · by_cases hno : ln < 0 ∨ 8 ≤ ln
        · go_wp2_with fail
          refine (vcRaiseNo w.heap.size now s v l ln _ hV1 hno).mono ?_
          rintro e w' ⟨rfl, rfl⟩
          obtain ⟨wc, rfl⟩ : ∃ wc : World, wc = wb := ⟨_, rfl⟩
          obtain ⟨s2, now2, v2, l2, hn2, hle, hVc⟩ : ∃ s2 now2 v2 l2, now2 ≤ i + 1 ∧ qq ≤ nW s2 ∧ VcAt wc w.heap.size s2 now2 v2 l2 := ⟨s, now, v, l, by omega, by have := HQQ.out; omega, hV1⟩
          have hbc := hb1
          clear hV1 hb1
          obtain ⟨q3, hq3⟩ : ∃ q, nW s2 = q := ⟨_, rfl⟩
          have hq38 : q3 ≤ 8 := by have := nW_le s2; omega
          obtain ⟨m1, e1⟩ : ∃ m1 : Nat, (rq : Int) + q3 = m1 := ⟨rq + q3, by omega⟩
          obtain ⟨r2, e2⟩ : ∃ r2 : Nat, (m1 : Int) - qq = r2 := ⟨rq + q3 - qq, by omega⟩
          have hr2 : r2 = gq + nW s2 := by have := HQQ.out; have := HRQ.out; omega
          have hm1 : m1 ≤ 200 := by omega
          have HQ3 := Lib.hid hq3
          have HR2b := Lib.hid hr2
          have HLE := Lib.hid hle
          clear hq3 hr2 hle
          go_wp2_with fail
          refine (vcWaitsN hVc).mono ?_
          rintro e wz ⟨a8, c8, rfl, o8, b8⟩
          rw [HQ3.out]
          have hV2 := hVc.below b8
          have hb2 := hbc.of b8
          have hr2 := HR2b.out
          have hr200 : r2 ≤ 200 := by have := HR2b.out; have := HQ3.out; omega
          obtain ⟨g2, hg2⟩ : ∃ g, g = gq := ⟨_, rfl⟩
          subst hg2
          have hgi2 : g2 ≤ i + 1 := by omega
          clear o8 hVc hbc k0 k1 k2
          have hq8 := nW_le s2
          obtain ⟨q2, hq2⟩ : ∃ q, nW s2 = q := ⟨_, rfl⟩
          have e3 : (r2 : Int) - g2 = (q2 : Nat) := by omega
          have HQ2 := Lib.hid hq2
          have HR2 := Lib.hid hr2
          clear hq2 hr2
          go_wp2_with fail
          refine (vcWaitsN hV2).mono ?_
          rintro e w9 ⟨a9, c9, rfl, o9, b9⟩
          rw [HQ2.out]
          have hV9 := hV2.below b9
          have hb9 := hb2.of b9
          clear o9 hV2 hb2
          go_wp2
          go_roundw
          case rel => exact ⟨i + 1, g2, r2, s2, now2, _, _, by omega, by go_num, rfl, rfl, by omega, by omega, HR2.out, hV9, hb9⟩
          case measure => simp [intOf]; omega
        · obtain ⟨k, rfl⟩ : ∃ k : Nat, ln = k := ⟨ln.toNat, by omega⟩
          have hk : k < 8 := by omega
          clear hno
          cases hw : (s k).wt
          · go_wp2_with fail
            refine (vcRaise w.heap.size now s v l k _ hV1 hk hw (by omega)).mono ?_
            rintro e wc ⟨rfl, v2, l2, hVc, fc⟩
            have hbc := hV1.grow hb1 (Nat.le_refl _) fc
            have hup := nW_up (x := ⟨true, (s k).ms, (s k).pr, (now + 1 : Nat)⟩) hk hw rfl
            obtain ⟨s2, now2, v2, l2, hn2, hle, hVc⟩ : ∃ s2 now2 v2 l2, now2 ≤ i + 1 ∧ qq ≤ nW s2 ∧ VcAt wc w.heap.size s2 now2 v2 l2 := ⟨_, _, v2, l2, by omega, by have := HQQ.out; omega, hVc⟩
            clear hV1 hb1 fc hup hw
            obtain ⟨q3, hq3⟩ : ∃ q, nW s2 = q := ⟨_, rfl⟩
            have hq38 : q3 ≤ 8 := by have := nW_le s2; omega
            obtain ⟨m1, e1⟩ : ∃ m1 : Nat, (rq : Int) + q3 = m1 := ⟨rq + q3, by omega⟩
            obtain ⟨r2, e2⟩ : ∃ r2 : Nat, (m1 : Int) - qq = r2 := ⟨rq + q3 - qq, by omega⟩
            have hr2 : r2 = gq + nW s2 := by have := HQQ.out; have := HRQ.out; omega
            have hm1 : m1 ≤ 200 := by omega
            have HQ3 := Lib.hid hq3
            have HR2b := Lib.hid hr2
            have HLE := Lib.hid hle
            clear hq3 hr2 hle
            go_wp2_with fail
            refine (vcWaitsN hVc).mono ?_
            rintro e wz ⟨a8, c8, rfl, o8, b8⟩
            rw [HQ3.out]
            have hV2 := hVc.below b8
            have hb2 := hbc.of b8
            have hr2 := HR2b.out
            have hr200 : r2 ≤ 200 := by have := HR2b.out; have := HQ3.out; omega
            obtain ⟨g2, hg2⟩ : ∃ g, g = gq := ⟨_, rfl⟩
            subst hg2
            have hgi2 : g2 ≤ i + 1 := by omega
            clear o8 hVc hbc k0 k1 k2
            have hq8 := nW_le s2
            obtain ⟨q2, hq2⟩ : ∃ q, nW s2 = q := ⟨_, rfl⟩
            have e3 : (r2 : Int) - g2 = (q2 : Nat) := by omega
            have HQ2 := Lib.hid hq2
            have HR2 := Lib.hid hr2
            clear hq2 hr2
            go_wp2_with fail
            refine (vcWaitsN hV2).mono ?_
            rintro e w9 ⟨a9, c9, rfl, o9, b9⟩
            rw [HQ2.out]
            have hV9 := hV2.below b9
            have hb9 := hb2.of b9
            clear o9 hV2 hb2
            go_wp2
            go_roundw
            case rel => exact ⟨i + 1, g2, r2, s2, now2, _, _, by omega, by go_num, rfl, rfl, by omega, by omega, HR2.out, hV9, hb9⟩
            case measure => simp [intOf]; omega
          · go_wp2_with fail
            refine (vcRaiseOld w.heap.size now s v l k _ hV1 hk hw).mono ?_
            rintro e w' ⟨rfl, rfl⟩
            obtain ⟨wc, rfl⟩ : ∃ wc : World, wc = wb := ⟨_, rfl⟩
            obtain ⟨s2, now2, v2, l2, hn2, hle, hVc⟩ : ∃ s2 now2 v2 l2, now2 ≤ i + 1 ∧ qq ≤ nW s2 ∧ VcAt wc w.heap.size s2 now2 v2 l2 := ⟨s, now, v, l, by omega, by have := HQQ.out; omega, hV1⟩
            have hbc := hb1
            clear hV1 hb1 hw
            obtain ⟨q3, hq3⟩ : ∃ q, nW s2 = q := ⟨_, rfl⟩
            have hq38 : q3 ≤ 8 := by have := nW_le s2; omega
            obtain ⟨m1, e1⟩ : ∃ m1 : Nat, (rq : Int) + q3 = m1 := ⟨rq + q3, by omega⟩
            obtain ⟨r2, e2⟩ : ∃ r2 : Nat, (m1 : Int) - qq = r2 := ⟨rq + q3 - qq, by omega⟩
            have hr2 : r2 = gq + nW s2 := by have := HQQ.out; have := HRQ.out; omega
            have hm1 : m1 ≤ 200 := by omega
            have HQ3 := Lib.hid hq3
            have HR2b := Lib.hid hr2
            have HLE := Lib.hid hle
            clear hq3 hr2 hle
            go_wp2_with fail
            refine (vcWaitsN hVc).mono ?_
            rintro e wz ⟨a8, c8, rfl, o8, b8⟩
            rw [HQ3.out]
            have hV2 := hVc.below b8
            have hb2 := hbc.of b8
            have hr2 := HR2b.out
            have hr200 : r2 ≤ 200 := by have := HR2b.out; have := HQ3.out; omega
            obtain ⟨g2, hg2⟩ : ∃ g, g = gq := ⟨_, rfl⟩
            subst hg2
            have hgi2 : g2 ≤ i + 1 := by omega
            clear o8 hVc hbc k0 k1 k2
            have hq8 := nW_le s2
            obtain ⟨q2, hq2⟩ : ∃ q, nW s2 = q := ⟨_, rfl⟩
            have e3 : (r2 : Int) - g2 = (q2 : Nat) := by omega
            have HQ2 := Lib.hid hq2
            have HR2 := Lib.hid hr2
            clear hq2 hr2
            go_wp2_with fail
            refine (vcWaitsN hV2).mono ?_
            rintro e w9 ⟨a9, c9, rfl, o9, b9⟩
            rw [HQ2.out]
            have hV9 := hV2.below b9
            have hb9 := hb2.of b9
            clear o9 hV2 hb2
            go_wp2
            go_roundw
            case rel => exact ⟨i + 1, g2, r2, s2, now2, _, _, by omega, by go_num, rfl, rfl, by omega, by omega, HR2.out, hV9, hb9⟩
            case measure => simp [intOf]; omega
      · by_cases hno : ln < 0 ∨ 8 ≤ ln ∨ ∃ k : Nat, k < 8 ∧ ln = k ∧ (s k).wt = false
        · go_wp2_with fail
          refine (vcClearNo w.heap.size now s v l ln _ hV1 hno).mono ?_
          rintro e w' ⟨rfl, rfl⟩
          clear hno
          obtain ⟨wz, rfl⟩ : ∃ wz : World, wz = wb := ⟨_, rfl⟩
          obtain ⟨g2, rfl⟩ : ∃ g, g = gq := ⟨_, rfl⟩
          obtain ⟨r2, rfl⟩ : ∃ r, r = rq := ⟨_, rfl⟩
          have hb2 := hb1
          obtain ⟨s2, now2, v2, l2, hn2, hr2, hV2⟩ : ∃ s2 now2 v2 l2, now2 ≤ i + 1 ∧ r2 = g2 + nW s2 ∧ VcAt wz w.heap.size s2 now2 v2 l2 := ⟨s, now, v, l, by omega, HRQ.out, hV1⟩
          have hgi2 : g2 ≤ i + 1 := by omega
          clear hV1 hb1 k0 k1 k2
          have hq8 := nW_le s2
          obtain ⟨q2, hq2⟩ : ∃ q, nW s2 = q := ⟨_, rfl⟩
          have e3 : (r2 : Int) - g2 = (q2 : Nat) := by omega
          have HQ2 := Lib.hid hq2
          have HR2 := Lib.hid hr2
          clear hq2 hr2
          go_wp2_with fail
          refine (vcWaitsN hV2).mono ?_
          rintro e w9 ⟨a9, c9, rfl, o9, b9⟩
          rw [HQ2.out]
          have hV9 := hV2.below b9
          have hb9 := hb2.of b9
          clear o9 hV2 hb2
          go_wp2
          go_roundw
          case rel => exact ⟨i + 1, g2, r2, s2, now2, _, _, by omega, by go_num, rfl, rfl, by omega, by omega, HR2.out, hV9, hb9⟩
          case measure => simp [intOf]; omega
        · obtain ⟨k, rfl⟩ : ∃ k : Nat, ln = k := ⟨ln.toNat, by omega⟩
          have hk : k < 8 := by omega
          have hw : (s k).wt = true := by
            cases h : (s k).wt
            · exact absurd (.inr (.inr ⟨k, hk, rfl, h⟩)) hno
            · rfl
          have hdown : nW (putF s k ⟨false, (s k).ms, (s k).pr, (s k).sn⟩) + 1 = nW s := nW_down hk hw rfl
          clear hno
          go_wp2_with fail
          refine (vcClear w.heap.size now s v l k _ hV1 hk hw).mono ?_
          rintro e wz ⟨rfl, v2, l2, hV2, f2⟩
          have hb2 := hV1.grow hb1 (Nat.le_refl _) f2
          clear hw
          obtain ⟨r2, rfl⟩ : ∃ r, r = rq := ⟨_, rfl⟩
          obtain ⟨g2, e4⟩ : ∃ g2 : Nat, (gq : Int) + 1 = g2 := ⟨gq + 1, by omega⟩
          obtain ⟨s2, now2, v2, l2, hn2, hr2, hV2⟩ : ∃ s2 now2 v2 l2, now2 ≤ i + 1 ∧ r2 = g2 + nW s2 ∧ VcAt wz w.heap.size s2 now2 v2 l2 := ⟨putF s k ⟨false, (s k).ms, (s k).pr, (s k).sn⟩, now, v2, l2, by omega, by have := HRQ.out; have := hdown; omega, hV2⟩
          have hgi2 : g2 ≤ i + 1 := by omega
          clear hV1 hb1 k0 k1 k2 hdown f2
          have hq8 := nW_le s2
          obtain ⟨q2, hq2⟩ : ∃ q, nW s2 = q := ⟨_, rfl⟩
          have e3 : (r2 : Int) - g2 = (q2 : Nat) := by omega
          have HQ2 := Lib.hid hq2
          have HR2 := Lib.hid hr2
          clear hq2 hr2
          go_wp2_with fail
          refine (vcWaitsN hV2).mono ?_
          rintro e w9 ⟨a9, c9, rfl, o9, b9⟩
          rw [HQ2.out]
          have hV9 := hV2.below b9
          have hb9 := hb2.of b9
          clear o9 hV2 hb2
          go_wp2
          go_roundw
          case rel => exact ⟨i + 1, g2, r2, s2, now2, _, _, by omega, by go_num, rfl, rfl, by omega, by omega, HR2.out, hV9, hb9⟩
          case measure => simp [intOf]; omega
      · by_cases hno : ln < 0 ∨ 8 ≤ ln
        · go_wp2_with fail
          refine (vcMaskNo w.heap.size now s v l ln _ _ hV1 hno).mono ?_
          rintro e w' ⟨rfl, rfl⟩
          clear hno
          obtain ⟨wz, rfl⟩ : ∃ wz : World, wz = wb := ⟨_, rfl⟩
          obtain ⟨g2, rfl⟩ : ∃ g, g = gq := ⟨_, rfl⟩
          obtain ⟨r2, rfl⟩ : ∃ r, r = rq := ⟨_, rfl⟩
          have hb2 := hb1
          obtain ⟨s2, now2, v2, l2, hn2, hr2, hV2⟩ : ∃ s2 now2 v2 l2, now2 ≤ i + 1 ∧ r2 = g2 + nW s2 ∧ VcAt wz w.heap.size s2 now2 v2 l2 := ⟨s, now, v, l, by omega, HRQ.out, hV1⟩
          have hgi2 : g2 ≤ i + 1 := by omega
          clear hV1 hb1 k0 k1 k2
          have hq8 := nW_le s2
          obtain ⟨q2, hq2⟩ : ∃ q, nW s2 = q := ⟨_, rfl⟩
          have e3 : (r2 : Int) - g2 = (q2 : Nat) := by omega
          have HQ2 := Lib.hid hq2
          have HR2 := Lib.hid hr2
          clear hq2 hr2
          go_wp2_with fail
          refine (vcWaitsN hV2).mono ?_
          rintro e w9 ⟨a9, c9, rfl, o9, b9⟩
          rw [HQ2.out]
          have hV9 := hV2.below b9
          have hb9 := hb2.of b9
          clear o9 hV2 hb2
          go_wp2
          go_roundw
          case rel => exact ⟨i + 1, g2, r2, s2, now2, _, _, by omega, by go_num, rfl, rfl, by omega, by omega, HR2.out, hV9, hb9⟩
          case measure => simp [intOf]; omega
        · obtain ⟨k, rfl⟩ : ∃ k : Nat, ln = k := ⟨ln.toNat, by omega⟩
          have hk : k < 8 := by omega
          clear hno
          go_wp2_with fail
          refine (vcMask w.heap.size now s v l k _ _ hV1 hk).mono ?_
          rintro e wz ⟨rfl, v2, l2, hV2, f2⟩
          have hb2 := hV1.grow hb1 (Nat.le_refl _) f2
          have hsame : ∀ c, nW (putF s k { s k with ms := c }) = nW s := fun c => nW_same (x := { s k with ms := c }) hk rfl
          obtain ⟨g2, rfl⟩ : ∃ g, g = gq := ⟨_, rfl⟩
          obtain ⟨r2, rfl⟩ : ∃ r, r = rq := ⟨_, rfl⟩
          obtain ⟨s2, now2, v2, l2, hn2, hr2, hV2⟩ : ∃ s2 now2 v2 l2, now2 ≤ i + 1 ∧ r2 = g2 + nW s2 ∧ VcAt wz w.heap.size s2 now2 v2 l2 := ⟨_, now, v2, l2, by omega, by rw [hsame]; exact HRQ.out, hV2⟩
          have hgi2 : g2 ≤ i + 1 := by omega
          clear hV1 hb1 k0 k1 k2 hsame f2
          have hq8 := nW_le s2
          obtain ⟨q2, hq2⟩ : ∃ q, nW s2 = q := ⟨_, rfl⟩
          have e3 : (r2 : Int) - g2 = (q2 : Nat) := by omega
          have HQ2 := Lib.hid hq2
          have HR2 := Lib.hid hr2
          clear hq2 hr2
          go_wp2_with fail
          refine (vcWaitsN hV2).mono ?_
          rintro e w9 ⟨a9, c9, rfl, o9, b9⟩
          rw [HQ2.out]
          have hV9 := hV2.below b9
          have hb9 := hb2.of b9
          clear o9 hV2 hb2
          go_wp2
          go_roundw
          case rel => exact ⟨i + 1, g2, r2, s2, now2, _, _, by omega, by go_num, rfl, rfl, by omega, by omega, HR2.out, hV9, hb9⟩
          case measure => simp [intOf]; omega
      · by_cases hno : ln < 0 ∨ 8 ≤ ln ∨ pp < 0 ∨ 3 < pp
        · go_wp2_with fail
          refine (vcPrioNo w.heap.size now s v l ln pp _ hV1 hno).mono ?_
          rintro e w' ⟨rfl, rfl⟩
          clear hno
          obtain ⟨wz, rfl⟩ : ∃ wz : World, wz = wb := ⟨_, rfl⟩
          obtain ⟨g2, rfl⟩ : ∃ g, g = gq := ⟨_, rfl⟩
          obtain ⟨r2, rfl⟩ : ∃ r, r = rq := ⟨_, rfl⟩
          have hb2 := hb1
          obtain ⟨s2, now2, v2, l2, hn2, hr2, hV2⟩ : ∃ s2 now2 v2 l2, now2 ≤ i + 1 ∧ r2 = g2 + nW s2 ∧ VcAt wz w.heap.size s2 now2 v2 l2 := ⟨s, now, v, l, by omega, HRQ.out, hV1⟩
          have hgi2 : g2 ≤ i + 1 := by omega
          clear hV1 hb1 k0 k1 k2
          have hq8 := nW_le s2
          obtain ⟨q2, hq2⟩ : ∃ q, nW s2 = q := ⟨_, rfl⟩
          have e3 : (r2 : Int) - g2 = (q2 : Nat) := by omega
          have HQ2 := Lib.hid hq2
          have HR2 := Lib.hid hr2
          clear hq2 hr2
          go_wp2_with fail
          refine (vcWaitsN hV2).mono ?_
          rintro e w9 ⟨a9, c9, rfl, o9, b9⟩
          rw [HQ2.out]
          have hV9 := hV2.below b9
          have hb9 := hb2.of b9
          clear o9 hV2 hb2
          go_wp2
          go_roundw
          case rel => exact ⟨i + 1, g2, r2, s2, now2, _, _, by omega, by go_num, rfl, rfl, by omega, by omega, HR2.out, hV9, hb9⟩
          case measure => simp [intOf]; omega
        · obtain ⟨k, rfl⟩ : ∃ k : Nat, ln = k := ⟨ln.toNat, by omega⟩
          have hk : k < 8 := by omega
          have hp0 : 0 ≤ pp := by omega
          have hp3 : pp ≤ 3 := by omega
          clear hno
          go_wp2_with fail
          refine (vcPrio w.heap.size now s v l k pp _ hV1 hk hp0 hp3).mono ?_
          rintro e wz ⟨rfl, v2, l2, hV2, f2⟩
          have hb2 := hV1.grow hb1 (Nat.le_refl _) f2
          have hsame : nW (putF s k { s k with pr := pp }) = nW s := nW_same (x := { s k with pr := pp }) hk rfl
          obtain ⟨g2, rfl⟩ : ∃ g, g = gq := ⟨_, rfl⟩
          obtain ⟨r2, rfl⟩ : ∃ r, r = rq := ⟨_, rfl⟩
          obtain ⟨s2, now2, v2, l2, hn2, hr2, hV2⟩ : ∃ s2 now2 v2 l2, now2 ≤ i + 1 ∧ r2 = g2 + nW s2 ∧ VcAt wz w.heap.size s2 now2 v2 l2 := ⟨_, now, v2, l2, by omega, by rw [hsame]; exact HRQ.out, hV2⟩
          have hgi2 : g2 ≤ i + 1 := by omega
          clear hV1 hb1 k0 k1 k2 hsame f2
          have hq8 := nW_le s2
          obtain ⟨q2, hq2⟩ : ∃ q, nW s2 = q := ⟨_, rfl⟩
          have e3 : (r2 : Int) - g2 = (q2 : Nat) := by omega
          have HQ2 := Lib.hid hq2
          have HR2 := Lib.hid hr2
          clear hq2 hr2
          go_wp2_with fail
          refine (vcWaitsN hV2).mono ?_
          rintro e w9 ⟨a9, c9, rfl, o9, b9⟩
          rw [HQ2.out]
          have hV9 := hV2.below b9
          have hb9 := hb2.of b9
          clear o9 hV2 hb2
          go_wp2
          go_roundw
          case rel => exact ⟨i + 1, g2, r2, s2, now2, _, _, by omega, by go_num, rfl, rfl, by omega, by omega, HR2.out, hV9, hb9⟩
          case measure => simp [intOf]; omega
      · rcases vcTakeAny _ hV1 with hno | ⟨k, hk, hka, ht⟩
        · have HNO := Lib.hid hno
          clear hno
          go_wp2_with fail
          refine (vcTakeNone _ hV1 HNO.out).mono ?_
          rintro e w' ⟨rfl, rfl⟩
          clear HNO
          obtain ⟨wz, rfl⟩ : ∃ wz : World, wz = wb := ⟨_, rfl⟩
          obtain ⟨g2, rfl⟩ : ∃ g, g = gq := ⟨_, rfl⟩
          obtain ⟨r2, rfl⟩ : ∃ r, r = rq := ⟨_, rfl⟩
          have hb2 := hb1
          obtain ⟨s2, now2, v2, l2, hn2, hr2, hV2⟩ : ∃ s2 now2 v2 l2, now2 ≤ i + 1 ∧ r2 = g2 + nW s2 ∧ VcAt wz w.heap.size s2 now2 v2 l2 := ⟨s, now, v, l, by omega, HRQ.out, hV1⟩
          have hgi2 : g2 ≤ i + 1 := by omega
          clear hV1 hb1 k0 k1 k2
          have hq8 := nW_le s2
          obtain ⟨q2, hq2⟩ : ∃ q, nW s2 = q := ⟨_, rfl⟩
          have e3 : (r2 : Int) - g2 = (q2 : Nat) := by omega
          have HQ2 := Lib.hid hq2
          have HR2 := Lib.hid hr2
          clear hq2 hr2
          go_wp2_with fail
          refine (vcWaitsN hV2).mono ?_
          rintro e w9 ⟨a9, c9, rfl, o9, b9⟩
          rw [HQ2.out]
          have hV9 := hV2.below b9
          have hb9 := hb2.of b9
          clear o9 hV2 hb2
          go_wp2
          go_roundw
          case rel => exact ⟨i + 1, g2, r2, s2, now2, _, _, by omega, by go_num, rfl, rfl, by omega, by omega, HR2.out, hV9, hb9⟩
          case measure => simp [intOf]; omega
        · have hdown : nW (putF s k ⟨false, (s k).ms, (s k).pr, (s k).sn⟩) + 1 = nW s := nW_down hk (isAct_wt hka) rfl
          have HT := Lib.hid ht
          clear ht hka
          go_wp2_with fail
          refine HT.out.mono ?_
          rintro e wz ⟨rfl, v2, l2, hV2, f2⟩
          have hb2 := hV1.grow hb1 (Nat.le_refl _) f2
          clear HT
          obtain ⟨r2, rfl⟩ : ∃ r, r = rq := ⟨_, rfl⟩
          obtain ⟨g2, e4⟩ : ∃ g2 : Nat, (gq : Int) + 1 = g2 := ⟨gq + 1, by omega⟩
          obtain ⟨s2, now2, v2, l2, hn2, hr2, hV2⟩ : ∃ s2 now2 v2 l2, now2 ≤ i + 1 ∧ r2 = g2 + nW s2 ∧ VcAt wz w.heap.size s2 now2 v2 l2 := ⟨putF s k ⟨false, (s k).ms, (s k).pr, (s k).sn⟩, now, v2, l2, by omega, by have := HRQ.out; have := hdown; omega, hV2⟩
          have hgi2 : g2 ≤ i + 1 := by omega
          clear hV1 hb1 k0 k1 k2 hdown f2
          have hq8 := nW_le s2
          obtain ⟨q2, hq2⟩ : ∃ q, nW s2 = q := ⟨_, rfl⟩
          have e3 : (r2 : Int) - g2 = (q2 : Nat) := by omega
          have HQ2 := Lib.hid hq2
          have HR2 := Lib.hid hr2
          clear hq2 hr2
          go_wp2_with fail
          refine (vcWaitsN hV2).mono ?_
          rintro e w9 ⟨a9, c9, rfl, o9, b9⟩
          rw [HQ2.out]
          have hV9 := hV2.below b9
          have hb9 := hb2.of b9
          clear o9 hV2 hb2
          go_wp2
          go_roundw
          case rel => exact ⟨i + 1, g2, r2, s2, now2, _, _, by omega, by go_num, rfl, rfl, by omega, by omega, HR2.out, hV9, hb9⟩
          case measure => simp [intOf]; omega
    · have HRQ := Lib.hid hrq
      have hrq1 : rq ≤ 108 := by omega
      have hgW : gq + nW s ≤ 108 := by omega
      obtain ⟨tot, htot⟩ : ∃ t, t = nW s := ⟨_, rfl⟩
      have HTOT := Lib.hid htot
      have htot8 : tot ≤ 8 := by omega
      clear hrq htot hgW
      go_wp2_with fail
      all_goals
        go_loopw [11] (fun kv wr => ∃ (k : Nat) (s : Nat → vcLn) (v : Value) (l : List vcIt), k ≤ 8 ∧ kv = .int .i64 k ∧ Hid (nW s = tot) ∧ Hid (∀ j, j < k → (s j).ms = false) ∧ VcAt wr w.heap.size s now v l ∧ Bel w.heap.size w wr) (fun kv _ => 8 - (intOf kv).toNat)
        case atStart => exact ⟨0, s, v, l, Nat.zero_le _, rfl, Lib.hid HTOT.out.symm, Lib.hid fun j hj => by omega, hV, hb⟩
        case round =>
          obtain ⟨k, s3, v3, l3, hk8, rfl, HN3, HM3, hV3, hb3⟩ := hrel
          by_cases hk : k < 8
          · go_wp2_with fail
            refine (vcMask w.heap.size now s3 v3 l3 k false _ hV3 hk).mono ?_
            rintro e wz ⟨rfl, v4, l4, hV4, f4⟩
            have hb4 := hV3.grow hb3 (Nat.le_refl _) f4
            go_wp2
            go_roundw
            case rel => exact ⟨k + 1, _, v4, l4, by omega, by go_num, Lib.hid (by rw [nW_same (x := { s3 k with ms := false }) hk rfl]; exact HN3.out), Lib.hid fun j hj => by
              by_cases e : j = k
              · subst e; rw [putF_at]
              · rw [putF_ne _ _ e]; exact HM3.out j (by omega), hV4, hb4⟩
            case measure => simp [intOf]; omega
          · have hge : 8 ≤ k := by omega
            go_wp2_with fail
            go_loopw [5, 12] (fun gv jv wr => ∃ (j g : Nat) (s : Nat → vcLn) (v : Value) (l : List vcIt), j ≤ 20 ∧ jv = .int .i64 j ∧ gv = .int .i64 g ∧ g ≤ 200 + j ∧ Hid (g + nW s = gq + tot ∧ (nW s = 0 ∨ nW s + j ≤ 8)) ∧ Hid (∀ i, i < 8 → (s i).ms = false) ∧ VcAt wr w.heap.size s now v l ∧ Bel w.heap.size w wr) (fun _ jv _ => 20 - (intOf jv).toNat)
            case atStart => exact ⟨0, gq, s3, v3, l3, Nat.zero_le _, rfl, rfl, by omega, Lib.hid ⟨by rw [HN3.out], .inr (by rw [HN3.out]; omega)⟩, Lib.hid fun i hi => HM3.out i (by omega), hV3, hb3⟩
            case round =>
              obtain ⟨j, g4, s4, v4, l4, hj20, rfl, rfl, hg4, HN4, HM4, hV4, hb4⟩ := hrel
              by_cases hj : j < 20
              · rcases vcTakeAny _ hV4 with hno | ⟨k, hk, hka, ht⟩
                · have hz : nW s4 = 0 := by
                    rcases Nat.eq_zero_or_pos (nW s4) with h0 | h0
                    · exact h0
                    · obtain ⟨k, hk, hw⟩ := nW_pos h0
                      have h1 := hno k hk
                      have h2 := HM4.out k hk
                      simp [isAct, hw, h2] at h1
                  have HNO := Lib.hid hno
                  have HZ := Lib.hid hz
                  clear hno hz
                  go_wp2_with fail
                  refine (vcTakeNone _ hV4 HNO.out).mono ?_
                  rintro e w' ⟨rfl, rfl⟩
                  go_wp2
                  go_roundw
                  case rel => exact ⟨j + 1, g4, s4, v4, l4, by omega, by go_num, rfl, by omega, Lib.hid ⟨HN4.out.1, .inl HZ.out⟩, HM4, hV4, hb4⟩
                  case measure => simp [intOf]; omega
                · have hdown : nW (putF s4 k ⟨false, (s4 k).ms, (s4 k).pr, (s4 k).sn⟩) + 1 = nW s4 := nW_down hk (isAct_wt hka) rfl
                  have HD := Lib.hid hdown
                  have HT := Lib.hid ht
                  clear ht hka hdown
                  obtain ⟨g5, e5⟩ : ∃ g5 : Nat, (g4 : Int) + 1 = g5 := ⟨g4 + 1, by omega⟩
                  go_wp2_with fail
                  refine HT.out.mono ?_
                  rintro e wz ⟨rfl, v5, l5, hV5, f5⟩
                  have hb5 := hV4.grow hb4 (Nat.le_refl _) f5
                  go_wp2
                  go_roundw
                  case rel =>
                    refine ⟨j + 1, g5, putF s4 k ⟨false, (s4 k).ms, (s4 k).pr, (s4 k).sn⟩, v5, l5, by omega, by go_num, rfl, by omega, Lib.hid ?_, Lib.hid fun i hi => ?_, hV5, hb5⟩
                    · have := HD.out
                      have := HN4.out
                      omega
                    · by_cases e : i = k
                      · subst e; rw [putF_at]; exact HM4.out i hi
                      · rw [putF_ne _ _ e]; exact HM4.out i hi
                  case measure => simp [intOf]; omega
              · obtain rfl : j = 20 := by omega
                have hz : nW s4 = 0 := by have := HN4.out; omega
                have hgr : g4 = rq := by have := HN4.out; have := HRQ.out; have := HTOT.out; omega
                subst hgr
                have HZ := Lib.hid hz
                clear hz
                go_wp2_with fail
                refine (vcWaitsN hV4).mono ?_
                rintro e w9 ⟨a9, c9, rfl, o9, b9⟩
                rw [HZ.out]
                have hb9 := hb4.of b9
                clear o9
                go_wp2_with fail
                refine (awake28 _).mono ?_
                rintro e w7 ⟨rfl, b7⟩
                go_wp2
                go_ret
                exact ⟨rfl, (hb9.of b7).1⟩
end Go.Proofs.Ytddngfhiaolkeaa
