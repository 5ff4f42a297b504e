/- law 33: InputsOnce. -/
import Derived.Test.YtjlhdbkhebfghaaInX
namespace Go.Proofs.Ytjlhdbkhebfghaa
open Go.ChangeShapes Go.WideShapes Go.ChangeAt Go.RowKit
set_option linter.unusedVariables false

/-- What the law knows of its inputs: those left in row 0, and how many came. -/
structure Came (w0 w : World) (b : Nat) (A : List inIt) (many got : Nat) (V : Nat → Value) (L : Nat → List inIt) : Prop where
  at_ : InAt w b 1 V L
  bel : Bel w0.heap.size w0 w
  base : w0.heap.size ≤ b
  sum : (L 0).length + got = many
  mem : ∀ x ∈ L 0, x ∈ A ∧ counts 0 x = true
theorem Came.next {w0 w w' : World} {b many got : Nat} {A : List inIt} {V : Nat → Value} {L : Nat → List inIt} (h : Came w0 w b A many got V L) {ok : inIt → Bool} {xs l' : List inIt} {v' : Value} (hT : Took inLt ok (L 0) xs l') (hI : InAt w' b 1 (putF V 0 v') (putF L 0 l')) (f : Frm b (V 0) v' w w') :
    Came w0 w' b A many (got + xs.length) (putF V 0 v') (putF L 0 l') := by
  refine ⟨hI, h.bel.frm f h.base (fun g hg => ?_), h.base, ?_, fun x hx => ?_⟩
  · have := ((h.at_.rows 0 (by omega)).lt g hg).1
    have := h.base
    omega
  · have h1 := hT.length
    have h2 := h.sum
    rw [putF_at]
    omega
  · rw [putF_at] at hx
    exact h.mem x (hT.mem.2 x hx)

set_option maxRecDepth 100000 in
set_option maxHeartbeats 4000000 in
theorem inputsOnce_walk (p0 : Option Addr) (n0 c0 : Nat) (f0 : Nat → List Value) (p1 : Option Addr) (n1 c1 : Nat) (f1 : Nat → List Value) (w : World) (w0 : SliceOkS [.int .i64, .int .i64, .int .i64, .int .i64, .str] w p0 n0 c0 f0) (hR0 : c0 * 48 ≤ 140737488351232) (w1 : SliceOk [some .u8] w p1 n1 c1 f1) (hR1 : c1 * 1 ≤ 140737488351232) :
    Calls Try.prog 6 #[.slice p0 n0 c0, .slice p1 n1 c1] w fun e w' => e = .returned (.bool true) ∧ Below w.heap.size w w' := by
  obtain ⟨A, hA, hpl⟩ := items_of_arg w0
  have hAl := hA.1
  have hn1 : n1 ≤ 140737488351232 := by have := w1.1; omega
  have hn0 : n0 ≤ 140737488351232 := by have := w0.1; omega
  clear w0 hR0 hR1
  by_cases hlong : 256 < n0
  · go_enter Try.func6, Try.ntmps6
    go_wp2_with fail
    refine (inNewLong 1 p0 n0 c0 _ (by omega) (by omega) hlong).mono ?_
    rintro e w' ⟨rfl, rfl⟩
    go_wp2_with fail
    refine (awake33 _).mono ?_
    rintro e w7 ⟨rfl, b7⟩
    go_wp2
    go_ret
    exact ⟨rfl, b7⟩
  · go_enter Try.func6, Try.ntmps6
    go_wp2_with fail
    refine (inNew 1 p0 n0 c0 A _ (by omega) (by omega) (by omega) hA hpl).mono ?_
    rintro e wa ⟨V0, L0, rfl, hI0, hp0, hba⟩
    have hp00 := hp0 0 (by omega)
    have hC0 : Came w wa w.heap.size A (manyK A n0) 0 V0 L0 := by
      refine ⟨hI0, ⟨hba, hba.size⟩, Nat.le_refl _, ?_, fun x hx => ?_⟩
      · rw [hp00.length_eq]
        simp [cntL, manyK]
      · have := hp00.subset hx
        simp only [cntL, if_pos (show (0 : Nat) < 1 by omega)] at this
        obtain ⟨h1, h2⟩ := List.mem_filter.1 this
        exact ⟨List.mem_of_mem_take h1, h2⟩
    clear hp0 hp00 hI0
    go_wp2_with fail
    go_loopw [7, 8] (fun mv kv wr => ∃ k : Nat, k ≤ n0 ∧ kv = .int .i64 k ∧ mv = .int .i64 (manyK A k) ∧ wr = wa) (fun _ kv _ => n0 - (intOf kv).toNat)
    case atStart => exact ⟨0, Nat.zero_le _, rfl, rfl, rfl⟩
    case round =>
      obtain ⟨k, hk, rfl, rfl, hwr⟩ := hrel
      obtain rfl := hwr.symm
      by_cases hk0 : k < n0
      · obtain ⟨g, o, rfl, hg, d0, d1, d2, d3, d4⟩ := (hA.below hba).five hk0
        have hs := manyK_succ A (k := k) (by omega)
        have hml := manyK_le A k
        have hcv : counts 0 (atL A k) = (decide ((atL A k).gst = 0) && isKind (atL A k).knd) := rfl
        rw [hcv] at hs
        generalize (atL A k).gst = gs at *
        generalize (atL A k).knd = kd at *
        clear hcv d0 d3 d4
        by_cases hgs : gs = 0
        · subst hgs
          by_cases hk1 : 0 ≤ kd
          · by_cases hk2 : kd ≤ 2
            · have hs2 : manyK A (k + 1) = manyK A k + 1 := by rw [hs]; simp [isKind, hk1, hk2]
              have HS := Lib.hid hs2
              clear hs hs2
              go_wp2
              go_roundw
              case rel => exact ⟨k + 1, by omega, by go_num, by first | (rw [HS.out]; go_num) | rw [HS.out], trivial⟩
              case measure => simp [intOf]; omega
            · have hs2 : manyK A (k + 1) = manyK A k := by rw [hs]; simp [isKind, hk1, hk2]
              have HS := Lib.hid hs2
              clear hs hs2
              go_wp2
              go_roundw
              case rel => exact ⟨k + 1, by omega, by go_num, by first | (rw [HS.out]; go_num) | rw [HS.out], trivial⟩
              case measure => simp [intOf]; omega
          · have hs2 : manyK A (k + 1) = manyK A k := by rw [hs]; simp [isKind, hk1]
            have HS := Lib.hid hs2
            clear hs hs2
            go_wp2
            go_roundw
            case rel => exact ⟨k + 1, by omega, by go_num, by first | (rw [HS.out]; go_num) | rw [HS.out], trivial⟩
            case measure => simp [intOf]; omega
        · have hs2 : manyK A (k + 1) = manyK A k := by rw [hs]; simp [hgs]
          have HS := Lib.hid hs2
          clear hs hs2
          go_wp2
          go_roundw
          case rel => exact ⟨k + 1, by omega, by go_num, by first | (rw [HS.out]; go_num) | rw [HS.out], trivial⟩
          case measure => simp [intOf]; omega
      · obtain rfl : n0 = k := by omega
        obtain ⟨many, hmany⟩ : ∃ many, manyK A n0 = many := ⟨_, rfl⟩
        have hml := manyK_le A n0
        rw [hmany] at hC0 hml ⊢
        clear hmany
        go_wp2_with fail
        go_loopw [9, 10] (fun gv iv wr => ∃ (i got : Nat) (V : Nat → Value) (L : Nat → List inIt), i ≤ 30 ∧ iv = .int .i64 i ∧ gv = .int .i64 got ∧ Came w wr w.heap.size A many got V L) (fun _ iv _ => 30 - (intOf iv).toNat)
        case atStart => exact ⟨0, 0, _, _, by omega, rfl, rfl, hC0⟩
        case round =>
          obtain ⟨i, got, V, L, hi, rfl, rfl, hC⟩ := hrel
          obtain ⟨wo, rfl⟩ : ∃ wo : World, wo = wr := ⟨_, rfl⟩
          have hsum := hC.sum
          by_cases hall : i < n1 ∧ i < 30
          · obtain ⟨i1, i30⟩ := hall
            obtain ⟨b1, o1, q, rfl, l1, _, hq, q1⟩ := w1.int1 i1
            obtain ⟨hq0, hq1⟩ := bounds_u8 hq
            have r1 : wo.cell? ⟨b1, o1 + i, none⟩ = some (.int .u8 q) := (hC.bel.1.cell (p := ⟨b1, o1 + i, none⟩) l1).trans q1
            go_wp2_with fail
            refine (inDue w.heap.size 1 V L 0 q _ hC.at_ (by omega) (by omega) (by omega)).mono ?_
            rintro e w2 ⟨out, xs, l2, v2, rfl, hT, hx4, hrest, hI2, o2, f2⟩
            have hC2 := hC.next hT hI2 f2
            obtain ⟨ao, co, rfl, hoc, hom, hit, _⟩ := items_of_owned inArg_length o2
            have r2 : w2.cell? ⟨b1, o1 + i, none⟩ = some (.int .u8 q) := (hC2.bel.1.cell (p := ⟨b1, o1 + i, none⟩) l1).trans q1
            have hl2 : b1 < w2.heap.size := Nat.lt_of_lt_of_le l1 hC2.bel.1.size
            have hmem : ∀ x ∈ xs, x.gst = 0 ∧ x.tat ≤ q := fun x hx => by
              have h1 := (hC.mem x (hT.mem.1 x hx)).2
              have h2 := hT.due x hx
              simp only [counts, Bool.and_eq_true, decide_eq_true_eq] at h1
              exact ⟨h1.1, by simpa [dueBy] using h2⟩
            have hsort : ∀ j, 0 < j → j < xs.length → (atL xs (j - 1)).tat ≤ (atL xs j).tat := fun j h0 hj => by
              have := List.pairwise_iff_getElem.1 hT.sorted (j - 1) j (by omega) hj (by omega)
              have e1 := atL_eq (l := xs) (i := j - 1) (by omega)
              rw [← e1, ← atL_eq hj, inLt_false] at this
              omega
            have HM := Lib.hid hmem
            have HSO := Lib.hid hsort
            have hsum2 := hC2.sum
            rw [putF_at] at hsum2
            clear hT hrest o2 f2 hmem hsort hI2
            go_wp2_with fail
            go_loopw [12] (fun kv wz => ∃ k : Nat, k ≤ xs.length ∧ kv = .int .i64 k ∧ Bel w2.heap.size w2 wz) (fun kv _ => xs.length - (intOf kv).toNat)
            case atStart => exact ⟨0, Nat.zero_le _, rfl, Bel.refl _⟩
            case round =>
              obtain ⟨k, hk, rfl, hbz⟩ := hrel
              have r3 := (hbz.1.cell (p := ⟨b1, o1 + i, none⟩) hl2).trans r2
              have hl3 : b1 < wr.heap.size := Nat.lt_of_lt_of_le hl2 hbz.2
              by_cases hkx : k < xs.length
              · obtain ⟨g, o, rfl, hg, d0, d1, d2, d3, d4⟩ := (hit.below hbz.1).five hkx
                obtain ⟨hm1, hm2⟩ := HM.out _ (mem_atL hkx)
                rw [hm1] at d1
                clear d2 d3 d4 hm1
                have dq : decide (q < (atL xs k).tat) = false := decide_eq_false (by omega)
                rcases Nat.eq_zero_or_pos k with rfl | hk0
                · simp only [Nat.zero_mul, Nat.add_zero] at d0 d1
                  generalize (atL xs 0).tat = t at *
                  go_wp2_with fail
                  refine wp_region_later (by kernel_rfl) (by kernel_rfl) ?_
                  (repeat (go_big_quiet_step (fail)))
                  refine wpQuiet_nil ?_
                  intro _ hw'
                  obtain ⟨x8, hw''⟩ := hw'
                  subst hw''
                  go_wp2
                  go_roundw
                  case rel => first | exact ⟨k + 2, by omega, by go_num, hbz.later⟩ | exact ⟨k + 1, by omega, by go_num, hbz.later⟩ | exact ⟨1, by omega, by go_num, hbz.later⟩
                  case measure => simp [intOf]; omega
                · obtain ⟨k, rfl⟩ : ∃ k', k = k' + 1 := ⟨k - 1, by omega⟩
                  obtain ⟨g', o', hp', _, e0, _, _, _, _⟩ := (hit.below hbz.1).five (k := k) (by omega)
                  cases hp'
                  have hso : (atL xs k).tat ≤ (atL xs (k + 1)).tat := HSO.out (k + 1) (by omega) hkx
                  have e1 : ((k + 1 : Nat) : Int) - 1 = k := by omega
                  generalize (atL xs (k + 1)).tat = t at *
                  generalize (atL xs k).tat = t' at *
                  have dt : decide (t < t') = false := decide_eq_false (by omega)
                  have dk : decide (0 < (k : Int) + 1) = true := decide_eq_true (by omega)
                  have dk2 : decide (0 < k + 1) = true := decide_eq_true (by omega)
                  clear hso
                  go_wp2_with fail
                  refine wp_region_later (by kernel_rfl) (by kernel_rfl) ?_
                  (repeat (go_big_quiet_step (fail)))
                  refine wpQuiet_nil ?_
                  intro _ hw'
                  obtain ⟨x8, hw''⟩ := hw'
                  subst hw''
                  go_wp2
                  go_roundw
                  case rel => first | exact ⟨k + 2, by omega, by go_num, hbz.later⟩ | exact ⟨k + 1, by omega, by go_num, hbz.later⟩ | exact ⟨1, by omega, by go_num, hbz.later⟩
                  case measure => simp [intOf]; omega
              · obtain rfl : k = xs.length := by omega
                have hC3 : Came w wr w.heap.size A many (got + xs.length) (putF V 0 v2) (putF L 0 l2) := ⟨hC2.at_.below hbz.1, hC2.bel.of hbz.1, hC2.base, hC2.sum, hC2.mem⟩
                have hg256 : got ≤ 256 := by omega
                have hm256 : many ≤ 256 := by omega
                have hres : (many : Int) - ((got : Int) + (xs.length : Int)) = (l2.length : Int) := by omega
                go_wp2_with fail
                refine (inLeft w.heap.size 1 _ _ 0 _ hC3.at_ (by omega) (by omega)).mono ?_
                rintro e w' ⟨rfl, rfl⟩
                rw [putF_at]
                go_wp2
                exact ⟨⟨i + 1, got + xs.length, _, _, by omega, by go_num, by go_num, hC3⟩, by simp [intOf]; omega⟩
          · have hC5 := hC
            have hgl : got ≤ 256 ∧ (L 0).length ≤ 256 := by omega
            clear w1 hC0 hba
            go_wp2_with fail
            all_goals
              go_loopw [13, 14] (fun lv kv wz => ∃ (k : Nat) (lt : Int), k ≤ n0 ∧ kv = .int .i64 k ∧ lv = .int .i64 lt ∧ (∀ i, i < k → (atL A i).tat ≤ lt) ∧ wz = wo) (fun _ kv _ => n0 - (intOf kv).toNat)
              case atStart => exact ⟨0, 0, Nat.zero_le _, rfl, rfl, fun i hi => by omega, rfl⟩
              case round =>
                obtain ⟨k, lt, hk, rfl, rfl, hall2, hwz⟩ := hrel
                obtain rfl := hwz.symm
                have HA2 := Lib.hid hall2
                clear hall2
                by_cases hkn : k < n0
                · obtain ⟨g, o, rfl, hg, d0, d1, d2, d3, d4⟩ := (hA.below hC.bel.1).five hkn
                  clear d1 d2 d3 d4
                  obtain ⟨t, ht⟩ : ∃ t, (atL A k).tat = t := ⟨_, rfl⟩
                  rw [ht] at d0
                  have HT := Lib.hid ht
                  clear ht
                  obtain ⟨mx, hmx⟩ : ∃ mx, max lt t = mx := ⟨_, rfl⟩
                  have hmx1 : lt ≤ mx ∧ t ≤ mx := by omega
                  have hmaxv : ∀ w' : World, (Builtin.max_ #[3, 3] 3 #[.int .i64 lt, .int .i64 t]).run Try.prog w' = .ok (.int .i64 mx) w' := fun w' => by
                    simp [Builtin.max_, Builtin.max2, Sem.run_pure]
                    rw [← hmx]
                    split <;> omega
                  have HMX := Lib.hid hmx
                  clear hmx
                  go_wp2
                  refine ⟨⟨k + 1, mx, by omega, by go_num, rfl, fun j hj => ?_, trivial⟩, by simp [intOf]; omega⟩
                  rcases Nat.lt_succ_iff_lt_or_eq.1 hj with h1 | rfl
                  · have := HA2.out j h1; omega
                  · rw [HT.out]; exact hmx1.2
                · obtain rfl : n0 = k := by omega
                  have hlate : ∀ x ∈ A, x.tat ≤ lt := fun x hx => by
                    obtain ⟨j, hj, rfl⟩ := mem_is_atL hx
                    exact HA2.out j (by omega)
                  have HLT := Lib.hid hlate
                  clear hlate HA2
                  go_wp2_with fail
                  go_loopw [9, 15] (fun gv kv wz => ∃ (k g2 : Nat) (V2 : Nat → Value) (L2 : Nat → List inIt), k ≤ 70 ∧ kv = .int .i64 k ∧ gv = .int .i64 g2 ∧ Came w wz w.heap.size A many g2 V2 L2 ∧ (L2 0).length ≤ 280 - 4 * k) (fun _ kv _ => 70 - (intOf kv).toNat)
                  case atStart => exact ⟨0, got, V, L, by omega, rfl, rfl, hC, by omega⟩
                  case round =>
                    obtain ⟨k, g2, V2, L2, hk7, rfl, rfl, hC2, hle⟩ := hrel
                    have hsum2 := hC2.sum
                    have hg2 : g2 ≤ 256 := by omega
                    by_cases hk70 : k < 70
                    · go_wp2_with fail
                      refine (inDue w.heap.size 1 V2 L2 0 lt _ hC2.at_ (by omega) (by omega) (by omega)).mono ?_
                      rintro e w2 ⟨out, xs, l2, v2, rfl, hT, hx4, hrest, hI2, o2, f2⟩
                      have hC3 := hC2.next hT hI2 f2
                      have hle3 : (putF L2 0 l2 0).length ≤ 280 - 4 * (k + 1) := by
                        rw [putF_at]
                        have hln := hT.length
                        rcases hrest with h4 | h4
                        · omega
                        · have : l2 = [] := by
                            cases l2 with
                            | nil => rfl
                            | cons y ys =>
                              have h1 := h4 y (List.mem_cons_self ..)
                              have h2 := HLT.out y (hC2.mem y (hT.mem.2 y (List.mem_cons_self ..))).1
                              omega
                          rw [this]
                          simp
                      obtain ⟨ao, co, rfl⟩ := ownsRow_shape o2
                      clear hT hrest o2 f2 hI2 hsum2
                      go_wp2
                      refine ⟨⟨k + 1, g2 + xs.length, _, _, by omega, by go_num, by go_num, hC3, hle3⟩, by simp [intOf]; omega⟩
                    · obtain rfl : k = 70 := by omega
                      have hl0 : (L2 0).length = 0 := by omega
                      have hgm : g2 = many := by omega
                      have hl0i : ((L2 0).length : Int) = 0 := by omega
                      subst hgm
                      clear hl0 hsum2 hle
                      go_wp2_with fail
                      refine (inLeft w.heap.size 1 _ _ 0 _ hC2.at_ (by omega) (by omega)).mono ?_
                      rintro e w' ⟨rfl, rfl⟩
                      rw [hl0i]
                      go_wp2_with fail
                      refine (awake33 _).mono ?_
                      rintro e w7 ⟨rfl, b7⟩
                      go_wp2
                      go_ret
                      exact ⟨rfl, (hC2.bel.of b7).1⟩
end Go.Proofs.Ytjlhdbkhebfghaa
