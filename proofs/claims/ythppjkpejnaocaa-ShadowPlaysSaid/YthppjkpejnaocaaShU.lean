/- The reference of law 19: Fill. -/
import Derived.Test.YthppjkpejnaocaaShT
namespace Go.Proofs.Ythppjkpejnaocaa
open Go.ChangeShapes Go.WideShapes Go.ChangeAt Go.RowKit
set_option linter.unusedVariables false

theorem Try.intInfo : (Try.prog.info? 3).map (fun i => (i.zero, i.size, i.bytes)) = some (some (.int .i64 0), 1, 8) := by kernel_rfl
theorem ItemsAt.put {α : Type} [Inhabited α] {sz : Nat} {enc : α → List Value} {w : World} {a : Option Addr} {n b : Nat} {L : List α} {u : Value} (h : ItemsAt sz enc w a n L) (hne : ∀ g o, a = some ⟨g, o, none⟩ → g ≠ b) : ItemsAt sz enc (w.setCell ⟨b, 0, none⟩ u) a n L :=
  ⟨h.1, fun hn => let ⟨g, o, e, hg, hc⟩ := h.2 hn; ⟨g, o, e, by simpa [World.setCell] using hg, fun i hi j hj => by
    have hgb : g ≠ b := hne g o e
    rw [World.cell?_setCell_other _ _ _ _ (fun e => by simp only [Addr.mk.injEq] at e; omega)]
    exact hc i hi j hj⟩⟩
theorem put5 {w w4 : World} {b c B m : Nat} {v u : Value} {l L : List ln} {a : Option Addr} {xs : List Value} (hbW : Bel w.heap.size w w4) (hlt : b < w.heap.size) (hr4 : RfIn w4 b v l) (hit : ItemsAt 7 lnEnc w4 a L.length L) (hge : ∀ g, (Value.slice a L.length c).ownBlock = some g → w.heap.size ≤ g) (hT : w4.ownsRow B 3 1 u m xs) (hB : w.heap.size ≤ B) :
    (w4.setCell ⟨b, 0, none⟩ (.slice a L.length c)).heap[b]? = some (.cells (rfBlk (.slice a L.length c)) 57 (0, 0)) ∧ ItemsAt 7 lnEnc (w4.setCell ⟨b, 0, none⟩ (.slice a L.length c)) a L.length L ∧ Frm b v (.slice a L.length c) w (w4.setCell ⟨b, 0, none⟩ (.slice a L.length c)) ∧ (w4.setCell ⟨b, 0, none⟩ (.slice a L.length c)).ownsRow B 3 1 u m xs := by
  refine ⟨?_, hit.put (fun g o hg => ?_), frm_put hbW hge, ownsRow_upd hT ((Upd.refl b w4).setCell) (fun e => ?_)⟩
  · have := heap_setCell_at (o := 0) (u := .slice a L.length c) hr4.1
    rw [rfBlk_ok.2] at this
    exact this
  · have := hge g (by rw [hg]; rfl)
    omega
  · have := (hT.lt b e).1
    omega
section
variable {b : Nat} {v : Value} {l : List ln}
set_option maxRecDepth 100000 in
set_option maxHeartbeats 8000000 in
theorem rf_fill (k0 k1 e0 e1 e2 rt lf : Int) (w : World) (h : RfIn w b v l) (hn : l.length ≤ 32) (ho1 : 0 ≤ rt ∧ rt < 8) (ho2 : 0 ≤ lf ∧ lf < 8) :
    Calls Try.prog 21 #[.pointer (some ⟨b, 0, none⟩), .agg #[.int .i64 k0, .int .i64 k1], .agg #[.int .i64 e0, .int .i64 e1, .int .i64 e2], .int .i64 rt, .int .i64 lf] w fun e w' => ∃ ta tc v', e = .returned (.tuple #[.slice ta (freshL l rt lf).length tc, .int .i64 0]) ∧ IntsAt .i64 w' ta (freshL l rt lf).length (freshL l rt lf) ∧ RfIn w' b v' (fillL l ⟨k0, k1, e0, e1, e2, rt, lf⟩) ∧ Frm b v v' w w' := by
  obtain ⟨i0, hi0, hz0, hz1, hz2⟩ := info_parts Try.intInfo
  obtain ⟨j0, hj0, hy0, hy1, hy2⟩ := info_parts Try.rlineInfo
  have hO1 := rf_own rt
  have hO2 := rf_own lf
  rw [show (decide (0 ≤ rt) && decide (rt < 8)) = true by simp; omega] at hO1
  rw [show (decide (0 ≤ lf) && decide (lf < 8)) = true by simp; omega] at hO2
  have hfr := toldTo_all l ho1 ho2
  have hfo := fill_out (x := ⟨k0, k1, e0, e1, e2, rt, lf⟩) hn
  simp only at hfo
  have HFR := Lib.hid hfr
  have HFO := Lib.hid hfo
  have eK : ((w.alloc (.cells #[.int .i64 k0, .int .i64 k1] 30)).alloc (.cells #[.int .i64 e0, .int .i64 e1, .int .i64 e2] 32)).heap[w.heap.size]? = some (.cells #[.int .i64 k0, .int .i64 k1] 30 (0, 0)) := heap_alloc (Go.heap_alloc_new w _)
  have eR : ((w.alloc (.cells #[.int .i64 k0, .int .i64 k1] 30)).alloc (.cells #[.int .i64 e0, .int .i64 e1, .int .i64 e2] 32)).heap[w.heap.size + 1]? = some (.cells #[.int .i64 e0, .int .i64 e1, .int .i64 e2] 32 (0, 0)) := by
    have := Go.heap_alloc_new (w.alloc (.cells #[.int .i64 k0, .int .i64 k1] 30)) (.cells #[.int .i64 e0, .int .i64 e1, .int .i64 e2] 32)
    simpa using this
  have h2 := h.alloc (ob := .cells #[.int .i64 k0, .int .i64 k1] 30) |>.alloc (ob := .cells #[.int .i64 e0, .int .i64 e1, .int .i64 e2] 32)
  have hB := (Bel.refl w).alloc (o := .cells #[.int .i64 k0, .int .i64 k1] 30) |>.alloc (o := .cells #[.int .i64 e0, .int .i64 e1, .int .i64 e2] 32)
  obtain ⟨W, hW⟩ : ∃ W, ((w.alloc (.cells #[.int .i64 k0, .int .i64 k1] 30)).alloc (.cells #[.int .i64 e0, .int .i64 e1, .int .i64 e2] 32)) = W := ⟨_, rfl⟩
  have hlt := h.lt
  clear ho1 ho2 hfr hfo
  go_enter Try.func21, Try.ntmps21
  go_wp2_with fail
  rw [hW] at eK eR h2 hB
  clear hW
  refine (hO1 _).mono ?_
  rintro e w1 ⟨rfl, rfl⟩
  go_wp2_with fail
  refine (hO2 _).mono ?_
  rintro e w1 ⟨rfl, rfl⟩
  clear hO1 hO2
  go_wp2_with fail
  go_loopw [12, 13] (fun u kv wr => ∃ k : Nat, k ≤ 8 ∧ kv = .int .i64 k ∧ wr.ownsRow W.heap.size 3 1 u (toldTo l rt lf k).length ((toldTo l rt lf k).flatMap iEnc) ∧ Bel W.heap.size W wr) (fun _ kv _ => 8 - (intOf kv).toNat)
  case atStart => exact ⟨0, Nat.zero_le _, rfl, World.ownsRow_nil _ _ _ _, Bel.refl W⟩
  case round =>
    obtain ⟨k, hk, rfl, hown, hb⟩ := hrel
    by_cases hk8 : k < 8
    · have hr := h2.below hb.1
      have hlt2 := hr.lt
      have hkd : decide ((k : Int) < 8) = true := decide_eq_true (by omega)
      have htl := toldTo_len l rt lf k
      have htc : toldC l rt lf k = (((k : Int) == rt || (k : Int) == lf) && !tableB l k) := rfl
      obtain ⟨ua, uc, rfl⟩ := ownsRow_shape hown
      cases h1 : ((k : Int) == rt)
      · cases h2' : ((k : Int) == lf)
        · rw [h1, h2'] at htc
          have hsu := toldTo_succ l rt lf k
          rw [if_neg (by rw [htc]; simp)] at hsu
          have HS := Lib.hid hsu
          clear hsu htc
          go_wp2
          go_roundw
          case rel => exact ⟨k + 1, by omega, by go_num, by rw [HS.out]; exact hown, hb⟩
          case measure => simp [intOf]; omega
        · have hq : ((k : Int) == rt || (k : Int) == lf) = true := by rw [h1, h2']; rfl
          go_wp2_with fail
          refine (rf_table k wr hr (by omega)).mono ?_
          rintro e wz ⟨rfl, rfl⟩
          rw [hq] at htc
          cases hX : tableB l k
          · rw [hX] at htc
            clear hX hq
            have hsu := toldTo_succ l rt lf k
            rw [if_pos (by rw [htc]; rfl)] at hsu
            have HS := Lib.hid hsu
            clear hsu htc
            go_wp2_with (at_builtin; refine wpList_append_own _ rfl _ _ 25 rfl W.heap.size 3 i0 _ 1 8 Try.underlying25 hi0 hz0 hz1 hz2 rfl (by decide) _ _ _ rfl (World.ownsRow.alloc hown _) ⟨wr.heap.size, 0, none⟩ 1 1 [.int .i64 k] rfl rfl ?c1 ?c2 ?c3 ?c4 ?c5 ?_)
            case c1 =>
              intro j u hj
              match j, hj with
              | 0, hj => simp at hj; subst hj; simp [Addr.add]
            case c2 => intro u hu; simp at hu; subst hu; rfl
            case c3 => unfold maxLen; omega
            case c4 => omega
            case c5 => have := hb.2; simp; omega
            intro v4 w4 hown4 hgrow _
            have hb4 := hb.append hown hgrow
            clear hown hb hgrow hr
            go_wp2
            go_roundw
            case rel => exact ⟨k + 1, by omega, by go_num, by rw [HS.out, List.length_append, List.flatMap_append]; simpa [iEnc] using hown4, hb4⟩
            case measure => simp [intOf]; omega
          · rw [hX] at htc
            have hsu := toldTo_succ l rt lf k
            rw [if_neg (by rw [htc]; simp)] at hsu
            have HS := Lib.hid hsu
            clear hsu htc hX hq
            go_wp2
            go_roundw
            case rel => exact ⟨k + 1, by omega, by go_num, by rw [HS.out]; exact hown, hb⟩
            case measure => simp [intOf]; omega
      · have hq : ((k : Int) == rt || (k : Int) == lf) = true := by rw [h1]; rfl
        go_wp2_with fail
        refine (rf_table k wr hr (by omega)).mono ?_
        rintro e wz ⟨rfl, rfl⟩
        rw [hq] at htc
        cases hX : tableB l k
        · rw [hX] at htc
          clear hX hq
          have hsu := toldTo_succ l rt lf k
          rw [if_pos (by rw [htc]; rfl)] at hsu
          have HS := Lib.hid hsu
          clear hsu htc
          go_wp2_with (at_builtin; refine wpList_append_own _ rfl _ _ 25 rfl W.heap.size 3 i0 _ 1 8 Try.underlying25 hi0 hz0 hz1 hz2 rfl (by decide) _ _ _ rfl (World.ownsRow.alloc hown _) ⟨wr.heap.size, 0, none⟩ 1 1 [.int .i64 k] rfl rfl ?c1 ?c2 ?c3 ?c4 ?c5 ?_)
          case c1 =>
            intro j u hj
            match j, hj with
            | 0, hj => simp at hj; subst hj; simp [Addr.add]
          case c2 => intro u hu; simp at hu; subst hu; rfl
          case c3 => unfold maxLen; omega
          case c4 => omega
          case c5 => have := hb.2; simp; omega
          intro v4 w4 hown4 hgrow _
          have hb4 := hb.append hown hgrow
          clear hown hb hgrow hr
          go_wp2
          go_roundw
          case rel => exact ⟨k + 1, by omega, by go_num, by rw [HS.out, List.length_append, List.flatMap_append]; simpa [iEnc] using hown4, hb4⟩
          case measure => simp [intOf]; omega
        · rw [hX] at htc
          have hsu := toldTo_succ l rt lf k
          rw [if_neg (by rw [htc]; simp)] at hsu
          have HS := Lib.hid hsu
          clear hsu htc hX hq
          go_wp2
          go_roundw
          case rel => exact ⟨k + 1, by omega, by go_num, by rw [HS.out]; exact hown, hb⟩
          case measure => simp [intOf]; omega
    · have hk8' : k = 8 := by omega
      have hT := hown
      rw [hk8', HFR.out] at hT
      clear hown hk8'
      obtain ⟨T, hTf⟩ : ∃ T, freshL l rt lf = T := ⟨_, rfl⟩
      rw [hTf] at hT
      have HTF := Lib.hid hTf
      clear hTf
      obtain ⟨ta, tc, rfl⟩ := ownsRow_shape hT
      obtain ⟨f, hf⟩ : ∃ f : ln → Bool, (fun y => !keyB k0 k1 y) = f := ⟨_, rfl⟩
      have hfv : ∀ y : ln, f y = (!(y.kr == k0 && y.kp == k1)) := fun y => by rw [← hf]; rfl
      have hA : fillA l ⟨k0, k1, e0, e1, e2, rt, lf⟩ = l.filter f ++ [⟨k0, k1, e0, e1, e2, rt, lf⟩] := by rw [← hf]; rfl
      rw [hA] at HFO
      have HFV := Lib.hid hfv
      clear hA hf hfv
      obtain ⟨va, vc, hv⟩ := ownsRow_shape h2.2
      go_wp2_with fail
      go_loopw [14, 15] (fun s iv wr => ∃ i : Nat, i ≤ l.length ∧ iv = .int .i64 i ∧ wr.ownsRow W.heap.size 74 7 s ((l.take i).filter f).length (((l.take i).filter f).flatMap lnEnc) ∧ wr.ownsRow W.heap.size 3 1 (.slice ta T.length tc) T.length (T.flatMap iEnc) ∧ Bel W.heap.size W wr) (fun _ iv _ => l.length - (intOf iv).toNat)
      case atStart => exact ⟨0, Nat.zero_le _, rfl, World.ownsRow_nil _ _ _ _, hT, hb⟩
      case round =>
        clear hT hb
        obtain ⟨i, hi, rfl, hown, hT, hb⟩ := hrel
        have hr := h2.below hb.1
        have hltr := hr.lt
        have c0 := rfField _ hr
        rw [hv] at c0
        have eKr := (hb.1.block _ (lt_heap eK)).trans eK
        have y0 := (cell_of_row _ _ 0 _ _ _ eKr).trans rfl
        have y1 := (cell_of_row _ _ 1 _ _ _ eKr).trans rfl
        have lK := lt_heap eKr
        by_cases hil : i < l.length
        · obtain ⟨ua, uc, rfl⟩ := ownsRow_shape hown
          obtain ⟨g, cap, hv2, h1, h2', h3, h4, hc, hz⟩ := hr.item lnEnc_length hil
          rw [hv] at hv2
          simp only [Value.slice.injEq] at hv2
          obtain ⟨rfl, _, rfl⟩ := hv2
          have d0 := hc i hil 0 (by omega)
          have d1 := hc i hil 1 (by omega)
          have d2 := hc i hil 2 (by omega)
          have d3 := hc i hil 3 (by omega)
          have d4 := hc i hil 4 (by omega)
          have d5 := hc i hil 5 (by omega)
          have d6 := hc i hil 6 (by omega)
          simp only [lnEnc, List.getElem?_cons_succ, List.getElem?_cons_zero, Nat.add_zero] at d0 d1 d2 d3 d4 d5 d6
          have hf1 : ((l.take i).filter f).length ≤ i := Nat.le_trans (List.length_filter_le _ _) (by rw [List.length_take]; omega)
          have hs1 := filter_take_succ (f := f) hil
          have hfx := HFV.out (atL l i)
          obtain ⟨X, hX⟩ : ∃ X, ((atL l i).kr == k0 && (atL l i).kp == k1) = X := ⟨_, rfl⟩
          rw [hX] at hfx
          clear hc hz
          go_wp2_with fail
          refine wp_region_later (by kernel_rfl) (by kernel_rfl) ?_
          repeat (first | go_big_quiet_step (first | fail))
          refine wpQuiet_nil ?_
          intro w9 hw'
          have hb9 : Below wr.heap.size wr w9 := by
            obtain ⟨x9, hw''⟩ := hw'
            subst hw''
            exact later_below wr x9
          clear hw'
          have hown9 := ownsRow_below hown hb9
          have hT9 := ownsRow_below hT hb9
          have hB9 := hb.of hb9
          have hr9 := hr.below hb9
          have p0 := rfField _ hr9
          rw [hv] at p0
          have hlt9 := hr9.lt
          have q0 := (hb9.cell (p := ⟨g, i * 7, none⟩) h4).trans d0
          have q1 := (hb9.cell (p := ⟨g, i * 7 + 1, none⟩) h4).trans d1
          have q2 := (hb9.cell (p := ⟨g, i * 7 + 2, none⟩) h4).trans d2
          have q3 := (hb9.cell (p := ⟨g, i * 7 + 3, none⟩) h4).trans d3
          have q4 := (hb9.cell (p := ⟨g, i * 7 + 4, none⟩) h4).trans d4
          have q5 := (hb9.cell (p := ⟨g, i * 7 + 5, none⟩) h4).trans d5
          have q6 := (hb9.cell (p := ⟨g, i * 7 + 6, none⟩) h4).trans d6
          have lg9 : g < w9.heap.size := Nat.lt_of_lt_of_le h4 hb9.size
          clear d0 d1 d2 d3 d4 d5 d6 hr c0 eKr y0 y1 lK hown hT hb hb9 hX
          cases X
          · rw [hfx, if_pos (by rfl : (!false) = true)] at hs1
            have HS1 := Lib.hid hs1
            clear hs1 hfx
            go_wp2_with (at_builtin; refine wpList_append_own _ rfl _ _ 55 rfl W.heap.size 74 j0 _ 7 56 Try.underlying55 hj0 hy0 hy1 hy2 rfl (by decide) _ _ _ rfl (World.ownsRow.alloc hown9 _) ⟨w9.heap.size, 0, none⟩ 1 1 (lnEnc (atL l i)) rfl rfl ?c1 ?c2 ?c3 ?c4 ?c5 ?_)
            case c1 =>
              intro j u hj
              match j, hj with
              | 0, hj => simp [lnEnc] at hj; subst hj; simp [Addr.add]
              | 1, hj => simp [lnEnc] at hj; subst hj; simp [Addr.add]
              | 2, hj => simp [lnEnc] at hj; subst hj; simp [Addr.add]
              | 3, hj => simp [lnEnc] at hj; subst hj; simp [Addr.add]
              | 4, hj => simp [lnEnc] at hj; subst hj; simp [Addr.add]
              | 5, hj => simp [lnEnc] at hj; subst hj; simp [Addr.add]
              | 6, hj => simp [lnEnc] at hj; subst hj; simp [Addr.add]
            case c2 => intro u hu; simp [lnEnc] at hu; rcases hu with rfl | rfl | rfl | rfl | rfl | rfl | rfl <;> rfl
            case c3 => unfold maxLen; omega
            case c4 => omega
            case c5 => have := hB9.2; simp; omega
            intro v4 w4 hown4 hgrow _
            have hb4 := hB9.append hown9 hgrow
            have hT4 := ownsRow_grew hT9 hgrow (fun a ha => fun e => own_apart hT9 hown9 (by decide) a ha e)
            clear hown9 hT9 hgrow hB9 q0 q1 q2 q3 q4 q5 q6 hr9 p0
            go_wp2
            go_roundw
            case rel => exact ⟨i + 1, by omega, by go_num, by rw [HS1.out, List.length_append, List.flatMap_append]; simpa using hown4, hT4, hb4⟩
            case measure => simp [intOf]; omega
          · rw [hfx, if_neg (by simp)] at hs1
            have HS1 := Lib.hid hs1
            clear hs1 hfx q0 q1 q2 q3 q4 q5 q6 hr9 p0
            go_wp2
            go_roundw
            case rel => exact ⟨i + 1, by omega, by go_num, by rw [HS1.out]; exact hown9, hT9, hB9⟩
            case measure => simp [intOf]; omega
        · obtain rfl : i = l.length := by omega
          rw [List.take_length] at hown
          obtain ⟨ua, uc, rfl⟩ := ownsRow_shape hown
          have eRr := (hb.1.block _ (lt_heap eR)).trans eR
          have x0 := (cell_of_row _ _ 0 _ _ _ eRr).trans rfl
          have x1 := (cell_of_row _ _ 1 _ _ _ eRr).trans rfl
          have x2 := (cell_of_row _ _ 2 _ _ _ eRr).trans rfl
          have lR := lt_heap eRr
          have hfl : (l.filter f).length ≤ 32 := Nat.le_trans (List.length_filter_le _ _) hn
          generalize l.filter f = l3 at *
          go_wp2_with (at_builtin; refine wpList_append_own _ rfl _ _ 55 rfl W.heap.size 74 j0 _ 7 56 Try.underlying55 hj0 hy0 hy1 hy2 rfl (by decide) _ _ _ rfl (World.ownsRow.alloc hown _) ⟨wr.heap.size, 0, none⟩ 1 1 (lnEnc ⟨k0, k1, e0, e1, e2, rt, lf⟩) rfl rfl ?c1 ?c2 ?c3 ?c4 ?c5 ?_)
          case c1 =>
            intro j u hj
            match j, hj with
            | 0, hj => simp [lnEnc] at hj; subst hj; simp [Addr.add]
            | 1, hj => simp [lnEnc] at hj; subst hj; simp [Addr.add]
            | 2, hj => simp [lnEnc] at hj; subst hj; simp [Addr.add]
            | 3, hj => simp [lnEnc] at hj; subst hj; simp [Addr.add]
            | 4, hj => simp [lnEnc] at hj; subst hj; simp [Addr.add]
            | 5, hj => simp [lnEnc] at hj; subst hj; simp [Addr.add]
            | 6, hj => simp [lnEnc] at hj; subst hj; simp [Addr.add]
          case c2 => intro u hu; simp [lnEnc] at hu; rcases hu with rfl | rfl | rfl | rfl | rfl | rfl | rfl <;> rfl
          case c3 => unfold maxLen; omega
          case c4 => omega
          case c5 => have := hb.2; simp; omega
          intro v4 w4 hown4 hgrow _
          have hb4 := hb.append hown hgrow
          have hT4 := ownsRow_grew hT hgrow (fun a ha => fun e => own_apart hT hown (by decide) a ha e)
          have hLA : (l3 ++ [(⟨k0, k1, e0, e1, e2, rt, lf⟩ : ln)]).length = l3.length + 1 := by simp
          have hown5 : w4.ownsRow W.heap.size 74 7 v4 (l3 ++ [(⟨k0, k1, e0, e1, e2, rt, lf⟩ : ln)]).length ((l3 ++ [(⟨k0, k1, e0, e1, e2, rt, lf⟩ : ln)]).flatMap lnEnc) := by
            rw [List.length_append, List.flatMap_append]
            simpa using hown4
          clear hown hT hb hgrow hown4 hr hltr c0 eKr y0 y1 lK eRr x0 x1 x2 lR
          obtain ⟨LA, hLA'⟩ : ∃ LA, l3 ++ [(⟨k0, k1, e0, e1, e2, rt, lf⟩ : ln)] = LA := ⟨_, rfl⟩
          rw [hLA'] at hLA hown5 HFO
          clear hLA'
          have hbW := hB.of hb4.1
          have hr4 := h2.below hb4.1
          have hz4 := hr4.free 0
          have hlt4 := hr4.lt
          have p4 := rfField _ hr4
          rw [hv] at p4
          have hWs := hB.2
          have hLA33 : LA.length ≤ 33 := by omega
          have HLA := Lib.hid hLA
          clear hLA
          by_cases h33 : LA.length ≤ 32
          · obtain ⟨a5, c5, rfl, _, _, hit, hge⟩ := items_of_owned lnEnc_length hown5
            have hle : ¬ (32 : Int) < (LA.length : Int) := by omega
            have hfc : fillC LA = LA := by rw [fillC, if_neg (by omega)]
            rw [hfc] at HFO
            obtain ⟨hcb, hit5, f5, hT5⟩ := put5 (c := c5) hbW hlt hr4 hit (fun g hg => Nat.le_trans hWs (hge g hg)) hT4 hWs
            clear hfc hit hge hT4 hbW
            go_wp2_with fail
            generalize w4.setCell ⟨b, 0, none⟩ (.slice a5 LA.length c5) = w5 at *
            clear hown5 hr4 hz4 hb4 hle p4
            obtain ⟨L5, rfl⟩ : ∃ L5, L5 = LA := ⟨_, rfl⟩
            go_loopw [16, 17] (fun s iv wr => ∃ i : Nat, i ≤ L5.length ∧ iv = .int .i64 i ∧ wr.ownsRow w5.heap.size 74 7 s i ((outTo L5 rt lf i).flatMap lnEnc) ∧ Bel w5.heap.size w5 wr) (fun _ iv _ => L5.length - (intOf iv).toNat)
            case atStart => exact ⟨0, Nat.zero_le _, rfl, World.ownsRow_nil _ _ _ _, Bel.refl w5⟩
            case round =>
              obtain ⟨i, hi, rfl, hown, hb⟩ := hrel
              have hcr := (hb.1.block _ (lt_heap hcb)).trans hcb
              have hitr := hit5.below hb.1
              have hltr := lt_heap hcr
              obtain ⟨ua, uc, rfl⟩ := ownsRow_shape hown
              by_cases hil : i < L5.length
              · obtain ⟨g, o, hgo, hg, hc⟩ := hitr.2 (by omega)
                have d0 := hc i hil 0 (by omega)
                have d1 := hc i hil 1 (by omega)
                have d2 := hc i hil 2 (by omega)
                have d3 := hc i hil 3 (by omega)
                have d4 := hc i hil 4 (by omega)
                have d5 := hc i hil 5 (by omega)
                have d6 := hc i hil 6 (by omega)
                simp only [lnEnc, List.getElem?_cons_succ, List.getElem?_cons_zero, Nat.add_zero] at d0 d1 d2 d3 d4 d5 d6
                have hlv : lzB L5 rt lf i = (((atL L5 i).ep == rt || (atL L5 i).ep == lf) || (decide (i + 1 = L5.length) && tableB L5 (atL L5 i).ep)) := rfl
                have hTg := rf_tableG (atL L5 i).ep _ _ (wr.alloc (.cells #[.int .i64 (atL L5 i).kr, .int .i64 (atL L5 i).kp, .int .i64 (atL L5 i).ep, .int .i64 (atL L5 i).ef, .int .i64 (atL L5 i).er, .int .i64 (atL L5 i).rt, .int .i64 (atL L5 i).lf] 74)) (heap_alloc hcr) (hitr.below (Bel.refl wr).alloc.1) (by omega)
                clear hc
                cases hgo
                cases h1 : ((atL L5 i).ep == rt)
                · cases h2' : ((atL L5 i).ep == lf)
                  · by_cases hi5 : i + 1 = L5.length
                    · have hi6 : ((i : Int) == (L5.length : Int) - 1) = true := by simp; omega
                      have hdd : decide (i + 1 = L5.length) = true := decide_eq_true hi5
                      rw [h1, h2', hdd] at hlv
                      clear hdd hi5
                      cases hX : tableB L5 (atL L5 i).ep
                      · rw [hX] at hlv hTg
                        have hlz : lzB L5 rt lf i = false := by rw [hlv]; rfl
                        clear hlv hX
                        go_wp2_with fail
                        refine hTg.mono ?_
                        rintro e w6 ⟨rfl, rfl⟩
                        clear hTg
                        have hsu := outTo_succ L5 rt lf i
                        have hlx : lzX L5 rt lf i = atL L5 i := by rw [lzX, if_neg (by rw [hlz]; simp)]
                        rw [hlx] at hsu
                        have HS := Lib.hid hsu
                        clear hsu hlx hlz
                        go_wp2_with (at_builtin; refine wpList_append_own _ rfl _ _ 55 rfl w5.heap.size 74 j0 _ 7 56 Try.underlying55 hj0 hy0 hy1 hy2 rfl (by decide) _ _ _ rfl (World.ownsRow.alloc (World.ownsRow.alloc hown _) _) ⟨wr.heap.size + 1, 0, none⟩ 1 1 (lnEnc (atL L5 i)) rfl rfl ?c1 ?c2 ?c3 ?c4 ?c5 ?_)
                        case c1 =>
                          intro j u hj
                          match j, hj with
                          | 0, hj => simp [lnEnc] at hj; subst hj; simp [Addr.add]
                          | 1, hj => simp [lnEnc] at hj; subst hj; simp [Addr.add]
                          | 2, hj => simp [lnEnc] at hj; subst hj; simp [Addr.add]
                          | 3, hj => simp [lnEnc] at hj; subst hj; simp [Addr.add]
                          | 4, hj => simp [lnEnc] at hj; subst hj; simp [Addr.add]
                          | 5, hj => simp [lnEnc] at hj; subst hj; simp [Addr.add]
                          | 6, hj => simp [lnEnc] at hj; subst hj; simp [Addr.add]
                        case c2 => intro u hu; simp [lnEnc] at hu; rcases hu with rfl | rfl | rfl | rfl | rfl | rfl | rfl <;> rfl
                        case c3 => unfold maxLen; omega
                        case c4 => omega
                        case c5 => have := hb.2; simp; omega
                        intro v8 w8 hown8 hgrow _
                        have hb8 := hb.alloc.append (World.ownsRow.alloc hown _) hgrow
                        clear hown hb hgrow hcr hitr
                        go_wp2
                        go_roundw
                        case rel => exact ⟨i + 1, by omega, by go_num, by rw [HS.out, List.flatMap_append]; simpa using hown8, hb8⟩
                        case measure => simp [intOf]; omega
                      · rw [hX] at hlv hTg
                        have hlz : lzB L5 rt lf i = true := by rw [hlv]; rfl
                        clear hlv hX
                        go_wp2_with fail
                        refine hTg.mono ?_
                        rintro e w6 ⟨rfl, rfl⟩
                        clear hTg
                        have hsu := outTo_succ L5 rt lf i
                        have hlx : lzX L5 rt lf i = nrw (atL L5 i) := by rw [lzX, if_pos hlz]
                        rw [hlx] at hsu
                        have HS := Lib.hid hsu
                        clear hsu hlx hlz
                        go_wp2_with (at_builtin; refine wpList_append_own _ rfl _ _ 55 rfl w5.heap.size 74 j0 _ 7 56 Try.underlying55 hj0 hy0 hy1 hy2 rfl (by decide) _ _ _ rfl (World.ownsRow.alloc (World.ownsRow.alloc hown _) _) ⟨wr.heap.size + 1, 0, none⟩ 1 1 (lnEnc (nrw (atL L5 i))) rfl rfl ?c1 ?c2 ?c3 ?c4 ?c5 ?_)
                        case c1 =>
                          intro j u hj
                          match j, hj with
                          | 0, hj => simp [lnEnc, nrw] at hj; subst hj; simp [Addr.add]
                          | 1, hj => simp [lnEnc, nrw] at hj; subst hj; simp [Addr.add]
                          | 2, hj => simp [lnEnc, nrw] at hj; subst hj; simp [Addr.add]
                          | 3, hj => simp [lnEnc, nrw] at hj; subst hj; simp [Addr.add]
                          | 4, hj => simp [lnEnc, nrw] at hj; subst hj; simp [Addr.add]
                          | 5, hj => simp [lnEnc, nrw] at hj; subst hj; simp [Addr.add]
                          | 6, hj => simp [lnEnc, nrw] at hj; subst hj; simp [Addr.add]
                        case c2 => intro u hu; simp [lnEnc, nrw] at hu; rcases hu with rfl | rfl | rfl | rfl | rfl | rfl | rfl <;> rfl
                        case c3 => unfold maxLen; omega
                        case c4 => omega
                        case c5 => have := hb.2; simp; omega
                        intro v8 w8 hown8 hgrow _
                        have hb8 := hb.alloc.append (World.ownsRow.alloc hown _) hgrow
                        clear hown hb hgrow hcr hitr
                        go_wp2
                        go_roundw
                        case rel => exact ⟨i + 1, by omega, by go_num, by rw [HS.out, List.flatMap_append]; simpa using hown8, hb8⟩
                        case measure => simp [intOf]; omega
                    · have hi6 : ((i : Int) == (L5.length : Int) - 1) = false := by simp; omega
                      have hlz : lzB L5 rt lf i = false := by rw [hlv, h1, h2', decide_eq_false hi5]; rfl
                      clear hlv hTg
                      have hsu := outTo_succ L5 rt lf i
                      have hlx : lzX L5 rt lf i = atL L5 i := by rw [lzX, if_neg (by rw [hlz]; simp)]
                      rw [hlx] at hsu
                      have HS := Lib.hid hsu
                      clear hsu hlx hlz
                      go_wp2_with (at_builtin; refine wpList_append_own _ rfl _ _ 55 rfl w5.heap.size 74 j0 _ 7 56 Try.underlying55 hj0 hy0 hy1 hy2 rfl (by decide) _ _ _ rfl (World.ownsRow.alloc (World.ownsRow.alloc hown _) _) ⟨wr.heap.size + 1, 0, none⟩ 1 1 (lnEnc (atL L5 i)) rfl rfl ?c1 ?c2 ?c3 ?c4 ?c5 ?_)
                      case c1 =>
                        intro j u hj
                        match j, hj with
                        | 0, hj => simp [lnEnc] at hj; subst hj; simp [Addr.add]
                        | 1, hj => simp [lnEnc] at hj; subst hj; simp [Addr.add]
                        | 2, hj => simp [lnEnc] at hj; subst hj; simp [Addr.add]
                        | 3, hj => simp [lnEnc] at hj; subst hj; simp [Addr.add]
                        | 4, hj => simp [lnEnc] at hj; subst hj; simp [Addr.add]
                        | 5, hj => simp [lnEnc] at hj; subst hj; simp [Addr.add]
                        | 6, hj => simp [lnEnc] at hj; subst hj; simp [Addr.add]
                      case c2 => intro u hu; simp [lnEnc] at hu; rcases hu with rfl | rfl | rfl | rfl | rfl | rfl | rfl <;> rfl
                      case c3 => unfold maxLen; omega
                      case c4 => omega
                      case c5 => have := hb.2; simp; omega
                      intro v8 w8 hown8 hgrow _
                      have hb8 := hb.alloc.append (World.ownsRow.alloc hown _) hgrow
                      clear hown hb hgrow hcr hitr
                      go_wp2
                      go_roundw
                      case rel => exact ⟨i + 1, by omega, by go_num, by rw [HS.out, List.flatMap_append]; simpa using hown8, hb8⟩
                      case measure => simp [intOf]; omega
                  · have hlz : lzB L5 rt lf i = true := by rw [hlv, h1, h2']; rfl
                    clear hlv hTg
                    have hsu := outTo_succ L5 rt lf i
                    have hlx : lzX L5 rt lf i = nrw (atL L5 i) := by rw [lzX, if_pos hlz]
                    rw [hlx] at hsu
                    have HS := Lib.hid hsu
                    clear hsu hlx hlz
                    go_wp2_with (at_builtin; refine wpList_append_own _ rfl _ _ 55 rfl w5.heap.size 74 j0 _ 7 56 Try.underlying55 hj0 hy0 hy1 hy2 rfl (by decide) _ _ _ rfl (World.ownsRow.alloc (World.ownsRow.alloc hown _) _) ⟨wr.heap.size + 1, 0, none⟩ 1 1 (lnEnc (nrw (atL L5 i))) rfl rfl ?c1 ?c2 ?c3 ?c4 ?c5 ?_)
                    case c1 =>
                      intro j u hj
                      match j, hj with
                      | 0, hj => simp [lnEnc, nrw] at hj; subst hj; simp [Addr.add]
                      | 1, hj => simp [lnEnc, nrw] at hj; subst hj; simp [Addr.add]
                      | 2, hj => simp [lnEnc, nrw] at hj; subst hj; simp [Addr.add]
                      | 3, hj => simp [lnEnc, nrw] at hj; subst hj; simp [Addr.add]
                      | 4, hj => simp [lnEnc, nrw] at hj; subst hj; simp [Addr.add]
                      | 5, hj => simp [lnEnc, nrw] at hj; subst hj; simp [Addr.add]
                      | 6, hj => simp [lnEnc, nrw] at hj; subst hj; simp [Addr.add]
                    case c2 => intro u hu; simp [lnEnc, nrw] at hu; rcases hu with rfl | rfl | rfl | rfl | rfl | rfl | rfl <;> rfl
                    case c3 => unfold maxLen; omega
                    case c4 => omega
                    case c5 => have := hb.2; simp; omega
                    intro v8 w8 hown8 hgrow _
                    have hb8 := hb.alloc.append (World.ownsRow.alloc hown _) hgrow
                    clear hown hb hgrow hcr hitr
                    go_wp2
                    go_roundw
                    case rel => exact ⟨i + 1, by omega, by go_num, by rw [HS.out, List.flatMap_append]; simpa using hown8, hb8⟩
                    case measure => simp [intOf]; omega
                · have hlz : lzB L5 rt lf i = true := by rw [hlv, h1]; rfl
                  clear hlv hTg
                  have hsu := outTo_succ L5 rt lf i
                  have hlx : lzX L5 rt lf i = nrw (atL L5 i) := by rw [lzX, if_pos hlz]
                  rw [hlx] at hsu
                  have HS := Lib.hid hsu
                  clear hsu hlx hlz
                  go_wp2_with (at_builtin; refine wpList_append_own _ rfl _ _ 55 rfl w5.heap.size 74 j0 _ 7 56 Try.underlying55 hj0 hy0 hy1 hy2 rfl (by decide) _ _ _ rfl (World.ownsRow.alloc (World.ownsRow.alloc hown _) _) ⟨wr.heap.size + 1, 0, none⟩ 1 1 (lnEnc (nrw (atL L5 i))) rfl rfl ?c1 ?c2 ?c3 ?c4 ?c5 ?_)
                  case c1 =>
                    intro j u hj
                    match j, hj with
                    | 0, hj => simp [lnEnc, nrw] at hj; subst hj; simp [Addr.add]
                    | 1, hj => simp [lnEnc, nrw] at hj; subst hj; simp [Addr.add]
                    | 2, hj => simp [lnEnc, nrw] at hj; subst hj; simp [Addr.add]
                    | 3, hj => simp [lnEnc, nrw] at hj; subst hj; simp [Addr.add]
                    | 4, hj => simp [lnEnc, nrw] at hj; subst hj; simp [Addr.add]
                    | 5, hj => simp [lnEnc, nrw] at hj; subst hj; simp [Addr.add]
                    | 6, hj => simp [lnEnc, nrw] at hj; subst hj; simp [Addr.add]
                  case c2 => intro u hu; simp [lnEnc, nrw] at hu; rcases hu with rfl | rfl | rfl | rfl | rfl | rfl | rfl <;> rfl
                  case c3 => unfold maxLen; omega
                  case c4 => omega
                  case c5 => have := hb.2; simp; omega
                  intro v8 w8 hown8 hgrow _
                  have hb8 := hb.alloc.append (World.ownsRow.alloc hown _) hgrow
                  clear hown hb hgrow hcr hitr
                  go_wp2
                  go_roundw
                  case rel => exact ⟨i + 1, by omega, by go_num, by rw [HS.out, List.flatMap_append]; simpa using hown8, hb8⟩
                  case measure => simp [intOf]; omega
              · obtain rfl : i = L5.length := by omega
                have hp5 : wr.cell? ⟨b, 0, none⟩ = some _ := (cell_of_row _ _ 0 _ _ _ hcr).trans rfl
                have hz5 : wr.frozen? ⟨b, 0, none⟩ = false := by simp [World.frozen?, hcr]
                have hb5 := lt_heap hcb
                have hT8 := ownsRow_upd (c := b) (ownsRow_below hT5 hb.1) ((Upd.refl b wr).setCell (o := 0) (s := none) (u := .slice ua L5.length uc)) (fun e => by have := (hT5.lt b e).1; omega)
                obtain ⟨_, _, eT, _, _, hitT, _⟩ := items_of_owned iEnc_length hT8
                simp only [Value.slice.injEq, true_and] at eT
                obtain ⟨rfl, rfl⟩ := eT
                have hI := ints_of_items hitT
                have hown7 : wr.ownsRow (b + 1) 74 7 (.slice ua L5.length uc) (outTo L5 rt lf L5.length).length ((outTo L5 rt lf L5.length).flatMap lnEnc) := by
                  rw [outTo_len]
                  exact ownsRow_base hown (by omega)
                have h8 : RfIn (wr.setCell ⟨b, 0, none⟩ (.slice ua L5.length uc)) b (.slice ua L5.length uc) (outTo L5 rt lf L5.length) := RowIn.stored (o := 0) rfBlk_ok hcr hown7
                rw [← HFO.out] at h8
                have f8 := f5.trans (frm_put (b := b) (u := .slice ua L5.length uc) hb (fun g hg => (hown.lt g hg).1))
                clear hown hown7 hT8 hitT hb hitr hit5 hT5 f5 hcb
                go_wp2
                go_ret2
                have hTF := HTF.out
                subst hTF
                exact ⟨_, _, _, rfl, hI, h8, f8⟩
          · obtain ⟨m, hm⟩ : ∃ m, LA.length = m + 1 := ⟨LA.length - 1, by omega⟩
            have hLm : (LA.drop 1).length = m := by rw [List.length_drop]; omega
            have hfc : fillC LA = LA.drop 1 := by rw [fillC, if_pos (by omega)]
            rw [hfc] at HFO
            obtain ⟨g4, cap4, hv4, hle, hmx, hge, hlg, hc⟩ : ∃ g4 cap4, v4 = .slice (some ⟨g4, 0, none⟩) LA.length cap4 ∧ LA.length ≤ cap4 ∧ cap4 ≤ maxLen ∧ W.heap.size ≤ g4 ∧ g4 < w4.heap.size ∧ ∀ k, k < LA.length → ∀ j, j < 7 → w4.cell? ⟨g4, k * 7 + j, none⟩ = (lnEnc (atL LA k))[j]? := by
              obtain ⟨a5, c5, e5, hle, hmx, hit, hge⟩ := items_of_owned lnEnc_length hown5
              rcases hown5.2 with ⟨_, hz⟩ | ⟨g4, cap4, cur, hv4, _⟩
              · omega
              · rw [hv4] at e5
                simp only [Value.slice.injEq, true_and] at e5
                obtain ⟨rfl, rfl⟩ := e5
                obtain ⟨g, o, e, hg, hc⟩ := hit.2 (by omega)
                simp only [Option.some.injEq, Addr.mk.injEq, and_true] at e
                obtain ⟨rfl, rfl⟩ := e
                exact ⟨g4, cap4, hv4, hle, hmx, hge _ (by rw [hv4]; rfl), hg, by simpa using hc⟩
            subst hv4
            have hitD : ItemsAt 7 lnEnc w4 (some ⟨g4, 7, none⟩) (LA.drop 1).length (LA.drop 1) := ⟨rfl, fun _ => ⟨g4, 7, rfl, hlg, fun k hk j hj => by
              rw [show atL (LA.drop 1) k = atL LA (k + 1) by simp [atL, List.getD], ← hc (k + 1) (by omega) j hj, show 7 + k * 7 + j = (k + 1) * 7 + j by omega]⟩⟩
            obtain ⟨hcb, hit5, f5, hT5⟩ := put5 (c := cap4 - 1) hbW hlt hr4 hitD (fun g hg => by
              simp only [Value.ownBlock, Option.some.injEq] at hg
              omega) hT4 hWs
            have hm32 : (32 : Int) < (m : Int) + 1 := by omega
            have hm33 : m ≤ 32 := by omega
            have hmc : m + 1 ≤ cap4 := by omega
            have hcm : cap4 ≤ 9223372036854775807 := by unfold maxLen at hmx; omega
            rw [hLm] at hcb f5 hT5
            rw [hm]
            clear hfc hT4 hbW hc hitD hown5 hm hle hmx
            go_wp2_with fail
            rw [hLm] at hit5
            generalize w4.setCell ⟨b, 0, none⟩ (.slice (some ⟨g4, 7, none⟩) m (cap4 - 1)) = w5 at *
            clear hr4 hz4 hb4 p4
            subst hLm
            generalize LA.drop 1 = L5 at *
            go_loopw [16, 17] (fun s iv wr => ∃ i : Nat, i ≤ L5.length ∧ iv = .int .i64 i ∧ wr.ownsRow w5.heap.size 74 7 s i ((outTo L5 rt lf i).flatMap lnEnc) ∧ Bel w5.heap.size w5 wr) (fun _ iv _ => L5.length - (intOf iv).toNat)
            case atStart => exact ⟨0, Nat.zero_le _, rfl, World.ownsRow_nil _ _ _ _, Bel.refl w5⟩
            case round =>
              obtain ⟨i, hi, rfl, hown, hb⟩ := hrel
              have hcr := (hb.1.block _ (lt_heap hcb)).trans hcb
              have hitr := hit5.below hb.1
              have hltr := lt_heap hcr
              obtain ⟨ua, uc, rfl⟩ := ownsRow_shape hown
              by_cases hil : i < L5.length
              · obtain ⟨g, o, hgo, hg, hc⟩ := hitr.2 (by omega)
                have d0 := hc i hil 0 (by omega)
                have d1 := hc i hil 1 (by omega)
                have d2 := hc i hil 2 (by omega)
                have d3 := hc i hil 3 (by omega)
                have d4 := hc i hil 4 (by omega)
                have d5 := hc i hil 5 (by omega)
                have d6 := hc i hil 6 (by omega)
                simp only [lnEnc, List.getElem?_cons_succ, List.getElem?_cons_zero, Nat.add_zero] at d0 d1 d2 d3 d4 d5 d6
                have hlv : lzB L5 rt lf i = (((atL L5 i).ep == rt || (atL L5 i).ep == lf) || (decide (i + 1 = L5.length) && tableB L5 (atL L5 i).ep)) := rfl
                have hTg := rf_tableG (atL L5 i).ep _ _ (wr.alloc (.cells #[.int .i64 (atL L5 i).kr, .int .i64 (atL L5 i).kp, .int .i64 (atL L5 i).ep, .int .i64 (atL L5 i).ef, .int .i64 (atL L5 i).er, .int .i64 (atL L5 i).rt, .int .i64 (atL L5 i).lf] 74)) (heap_alloc hcr) (hitr.below (Bel.refl wr).alloc.1) (by omega)
                clear hc
                cases hgo
                cases h1 : ((atL L5 i).ep == rt)
                · cases h2' : ((atL L5 i).ep == lf)
                  · by_cases hi5 : i + 1 = L5.length
                    · have hi6 : ((i : Int) == (L5.length : Int) - 1) = true := by simp; omega
                      have hdd : decide (i + 1 = L5.length) = true := decide_eq_true hi5
                      rw [h1, h2', hdd] at hlv
                      clear hdd hi5
                      cases hX : tableB L5 (atL L5 i).ep
                      · rw [hX] at hlv hTg
                        have hlz : lzB L5 rt lf i = false := by rw [hlv]; rfl
                        clear hlv hX
                        go_wp2_with fail
                        refine hTg.mono ?_
                        rintro e w6 ⟨rfl, rfl⟩
                        clear hTg
                        have hsu := outTo_succ L5 rt lf i
                        have hlx : lzX L5 rt lf i = atL L5 i := by rw [lzX, if_neg (by rw [hlz]; simp)]
                        rw [hlx] at hsu
                        have HS := Lib.hid hsu
                        clear hsu hlx hlz
                        go_wp2_with (at_builtin; refine wpList_append_own _ rfl _ _ 55 rfl w5.heap.size 74 j0 _ 7 56 Try.underlying55 hj0 hy0 hy1 hy2 rfl (by decide) _ _ _ rfl (World.ownsRow.alloc (World.ownsRow.alloc hown _) _) ⟨wr.heap.size + 1, 0, none⟩ 1 1 (lnEnc (atL L5 i)) rfl rfl ?c1 ?c2 ?c3 ?c4 ?c5 ?_)
                        case c1 =>
                          intro j u hj
                          match j, hj with
                          | 0, hj => simp [lnEnc] at hj; subst hj; simp [Addr.add]
                          | 1, hj => simp [lnEnc] at hj; subst hj; simp [Addr.add]
                          | 2, hj => simp [lnEnc] at hj; subst hj; simp [Addr.add]
                          | 3, hj => simp [lnEnc] at hj; subst hj; simp [Addr.add]
                          | 4, hj => simp [lnEnc] at hj; subst hj; simp [Addr.add]
                          | 5, hj => simp [lnEnc] at hj; subst hj; simp [Addr.add]
                          | 6, hj => simp [lnEnc] at hj; subst hj; simp [Addr.add]
                        case c2 => intro u hu; simp [lnEnc] at hu; rcases hu with rfl | rfl | rfl | rfl | rfl | rfl | rfl <;> rfl
                        case c3 => unfold maxLen; omega
                        case c4 => omega
                        case c5 => have := hb.2; simp; omega
                        intro v8 w8 hown8 hgrow _
                        have hb8 := hb.alloc.append (World.ownsRow.alloc hown _) hgrow
                        clear hown hb hgrow hcr hitr
                        go_wp2
                        go_roundw
                        case rel => exact ⟨i + 1, by omega, by go_num, by rw [HS.out, List.flatMap_append]; simpa using hown8, hb8⟩
                        case measure => simp [intOf]; omega
                      · rw [hX] at hlv hTg
                        have hlz : lzB L5 rt lf i = true := by rw [hlv]; rfl
                        clear hlv hX
                        go_wp2_with fail
                        refine hTg.mono ?_
                        rintro e w6 ⟨rfl, rfl⟩
                        clear hTg
                        have hsu := outTo_succ L5 rt lf i
                        have hlx : lzX L5 rt lf i = nrw (atL L5 i) := by rw [lzX, if_pos hlz]
                        rw [hlx] at hsu
                        have HS := Lib.hid hsu
                        clear hsu hlx hlz
                        go_wp2_with (at_builtin; refine wpList_append_own _ rfl _ _ 55 rfl w5.heap.size 74 j0 _ 7 56 Try.underlying55 hj0 hy0 hy1 hy2 rfl (by decide) _ _ _ rfl (World.ownsRow.alloc (World.ownsRow.alloc hown _) _) ⟨wr.heap.size + 1, 0, none⟩ 1 1 (lnEnc (nrw (atL L5 i))) rfl rfl ?c1 ?c2 ?c3 ?c4 ?c5 ?_)
                        case c1 =>
                          intro j u hj
                          match j, hj with
                          | 0, hj => simp [lnEnc, nrw] at hj; subst hj; simp [Addr.add]
                          | 1, hj => simp [lnEnc, nrw] at hj; subst hj; simp [Addr.add]
                          | 2, hj => simp [lnEnc, nrw] at hj; subst hj; simp [Addr.add]
                          | 3, hj => simp [lnEnc, nrw] at hj; subst hj; simp [Addr.add]
                          | 4, hj => simp [lnEnc, nrw] at hj; subst hj; simp [Addr.add]
                          | 5, hj => simp [lnEnc, nrw] at hj; subst hj; simp [Addr.add]
                          | 6, hj => simp [lnEnc, nrw] at hj; subst hj; simp [Addr.add]
                        case c2 => intro u hu; simp [lnEnc, nrw] at hu; rcases hu with rfl | rfl | rfl | rfl | rfl | rfl | rfl <;> rfl
                        case c3 => unfold maxLen; omega
                        case c4 => omega
                        case c5 => have := hb.2; simp; omega
                        intro v8 w8 hown8 hgrow _
                        have hb8 := hb.alloc.append (World.ownsRow.alloc hown _) hgrow
                        clear hown hb hgrow hcr hitr
                        go_wp2
                        go_roundw
                        case rel => exact ⟨i + 1, by omega, by go_num, by rw [HS.out, List.flatMap_append]; simpa using hown8, hb8⟩
                        case measure => simp [intOf]; omega
                    · have hi6 : ((i : Int) == (L5.length : Int) - 1) = false := by simp; omega
                      have hlz : lzB L5 rt lf i = false := by rw [hlv, h1, h2', decide_eq_false hi5]; rfl
                      clear hlv hTg
                      have hsu := outTo_succ L5 rt lf i
                      have hlx : lzX L5 rt lf i = atL L5 i := by rw [lzX, if_neg (by rw [hlz]; simp)]
                      rw [hlx] at hsu
                      have HS := Lib.hid hsu
                      clear hsu hlx hlz
                      go_wp2_with (at_builtin; refine wpList_append_own _ rfl _ _ 55 rfl w5.heap.size 74 j0 _ 7 56 Try.underlying55 hj0 hy0 hy1 hy2 rfl (by decide) _ _ _ rfl (World.ownsRow.alloc (World.ownsRow.alloc hown _) _) ⟨wr.heap.size + 1, 0, none⟩ 1 1 (lnEnc (atL L5 i)) rfl rfl ?c1 ?c2 ?c3 ?c4 ?c5 ?_)
                      case c1 =>
                        intro j u hj
                        match j, hj with
                        | 0, hj => simp [lnEnc] at hj; subst hj; simp [Addr.add]
                        | 1, hj => simp [lnEnc] at hj; subst hj; simp [Addr.add]
                        | 2, hj => simp [lnEnc] at hj; subst hj; simp [Addr.add]
                        | 3, hj => simp [lnEnc] at hj; subst hj; simp [Addr.add]
                        | 4, hj => simp [lnEnc] at hj; subst hj; simp [Addr.add]
                        | 5, hj => simp [lnEnc] at hj; subst hj; simp [Addr.add]
                        | 6, hj => simp [lnEnc] at hj; subst hj; simp [Addr.add]
                      case c2 => intro u hu; simp [lnEnc] at hu; rcases hu with rfl | rfl | rfl | rfl | rfl | rfl | rfl <;> rfl
                      case c3 => unfold maxLen; omega
                      case c4 => omega
                      case c5 => have := hb.2; simp; omega
                      intro v8 w8 hown8 hgrow _
                      have hb8 := hb.alloc.append (World.ownsRow.alloc hown _) hgrow
                      clear hown hb hgrow hcr hitr
                      go_wp2
                      go_roundw
                      case rel => exact ⟨i + 1, by omega, by go_num, by rw [HS.out, List.flatMap_append]; simpa using hown8, hb8⟩
                      case measure => simp [intOf]; omega
                  · have hlz : lzB L5 rt lf i = true := by rw [hlv, h1, h2']; rfl
                    clear hlv hTg
                    have hsu := outTo_succ L5 rt lf i
                    have hlx : lzX L5 rt lf i = nrw (atL L5 i) := by rw [lzX, if_pos hlz]
                    rw [hlx] at hsu
                    have HS := Lib.hid hsu
                    clear hsu hlx hlz
                    go_wp2_with (at_builtin; refine wpList_append_own _ rfl _ _ 55 rfl w5.heap.size 74 j0 _ 7 56 Try.underlying55 hj0 hy0 hy1 hy2 rfl (by decide) _ _ _ rfl (World.ownsRow.alloc (World.ownsRow.alloc hown _) _) ⟨wr.heap.size + 1, 0, none⟩ 1 1 (lnEnc (nrw (atL L5 i))) rfl rfl ?c1 ?c2 ?c3 ?c4 ?c5 ?_)
                    case c1 =>
                      intro j u hj
                      match j, hj with
                      | 0, hj => simp [lnEnc, nrw] at hj; subst hj; simp [Addr.add]
                      | 1, hj => simp [lnEnc, nrw] at hj; subst hj; simp [Addr.add]
                      | 2, hj => simp [lnEnc, nrw] at hj; subst hj; simp [Addr.add]
                      | 3, hj => simp [lnEnc, nrw] at hj; subst hj; simp [Addr.add]
                      | 4, hj => simp [lnEnc, nrw] at hj; subst hj; simp [Addr.add]
                      | 5, hj => simp [lnEnc, nrw] at hj; subst hj; simp [Addr.add]
                      | 6, hj => simp [lnEnc, nrw] at hj; subst hj; simp [Addr.add]
                    case c2 => intro u hu; simp [lnEnc, nrw] at hu; rcases hu with rfl | rfl | rfl | rfl | rfl | rfl | rfl <;> rfl
                    case c3 => unfold maxLen; omega
                    case c4 => omega
                    case c5 => have := hb.2; simp; omega
                    intro v8 w8 hown8 hgrow _
                    have hb8 := hb.alloc.append (World.ownsRow.alloc hown _) hgrow
                    clear hown hb hgrow hcr hitr
                    go_wp2
                    go_roundw
                    case rel => exact ⟨i + 1, by omega, by go_num, by rw [HS.out, List.flatMap_append]; simpa using hown8, hb8⟩
                    case measure => simp [intOf]; omega
                · have hlz : lzB L5 rt lf i = true := by rw [hlv, h1]; rfl
                  clear hlv hTg
                  have hsu := outTo_succ L5 rt lf i
                  have hlx : lzX L5 rt lf i = nrw (atL L5 i) := by rw [lzX, if_pos hlz]
                  rw [hlx] at hsu
                  have HS := Lib.hid hsu
                  clear hsu hlx hlz
                  go_wp2_with (at_builtin; refine wpList_append_own _ rfl _ _ 55 rfl w5.heap.size 74 j0 _ 7 56 Try.underlying55 hj0 hy0 hy1 hy2 rfl (by decide) _ _ _ rfl (World.ownsRow.alloc (World.ownsRow.alloc hown _) _) ⟨wr.heap.size + 1, 0, none⟩ 1 1 (lnEnc (nrw (atL L5 i))) rfl rfl ?c1 ?c2 ?c3 ?c4 ?c5 ?_)
                  case c1 =>
                    intro j u hj
                    match j, hj with
                    | 0, hj => simp [lnEnc, nrw] at hj; subst hj; simp [Addr.add]
                    | 1, hj => simp [lnEnc, nrw] at hj; subst hj; simp [Addr.add]
                    | 2, hj => simp [lnEnc, nrw] at hj; subst hj; simp [Addr.add]
                    | 3, hj => simp [lnEnc, nrw] at hj; subst hj; simp [Addr.add]
                    | 4, hj => simp [lnEnc, nrw] at hj; subst hj; simp [Addr.add]
                    | 5, hj => simp [lnEnc, nrw] at hj; subst hj; simp [Addr.add]
                    | 6, hj => simp [lnEnc, nrw] at hj; subst hj; simp [Addr.add]
                  case c2 => intro u hu; simp [lnEnc, nrw] at hu; rcases hu with rfl | rfl | rfl | rfl | rfl | rfl | rfl <;> rfl
                  case c3 => unfold maxLen; omega
                  case c4 => omega
                  case c5 => have := hb.2; simp; omega
                  intro v8 w8 hown8 hgrow _
                  have hb8 := hb.alloc.append (World.ownsRow.alloc hown _) hgrow
                  clear hown hb hgrow hcr hitr
                  go_wp2
                  go_roundw
                  case rel => exact ⟨i + 1, by omega, by go_num, by rw [HS.out, List.flatMap_append]; simpa using hown8, hb8⟩
                  case measure => simp [intOf]; omega
              · obtain rfl : i = L5.length := by omega
                have hp5 : wr.cell? ⟨b, 0, none⟩ = some _ := (cell_of_row _ _ 0 _ _ _ hcr).trans rfl
                have hz5 : wr.frozen? ⟨b, 0, none⟩ = false := by simp [World.frozen?, hcr]
                have hb5 := lt_heap hcb
                have hT8 := ownsRow_upd (c := b) (ownsRow_below hT5 hb.1) ((Upd.refl b wr).setCell (o := 0) (s := none) (u := .slice ua L5.length uc)) (fun e => by have := (hT5.lt b e).1; omega)
                obtain ⟨_, _, eT, _, _, hitT, _⟩ := items_of_owned iEnc_length hT8
                simp only [Value.slice.injEq, true_and] at eT
                obtain ⟨rfl, rfl⟩ := eT
                have hI := ints_of_items hitT
                have hown7 : wr.ownsRow (b + 1) 74 7 (.slice ua L5.length uc) (outTo L5 rt lf L5.length).length ((outTo L5 rt lf L5.length).flatMap lnEnc) := by
                  rw [outTo_len]
                  exact ownsRow_base hown (by omega)
                have h8 : RfIn (wr.setCell ⟨b, 0, none⟩ (.slice ua L5.length uc)) b (.slice ua L5.length uc) (outTo L5 rt lf L5.length) := RowIn.stored (o := 0) rfBlk_ok hcr hown7
                rw [← HFO.out] at h8
                have f8 := f5.trans (frm_put (b := b) (u := .slice ua L5.length uc) hb (fun g hg => (hown.lt g hg).1))
                clear hown hown7 hT8 hitT hb hitr hit5 hT5 f5 hcb
                go_wp2
                go_ret2
                have hTF := HTF.out
                subst hTF
                exact ⟨_, _, _, rfl, hI, h8, f8⟩
end
end Go.Proofs.Ythppjkpejnaocaa
