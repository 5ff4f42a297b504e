/- The walk of hermitagelaw15.GmapPlays: true at every input. -/
import Derived.Test.YtkicmdflflknaaaR15
import Derived.Test.YtkicmdflflknaaaInts
import Derived.StillTailTactics
import Derived.Deep.RegionHeld3
namespace Go.Proofs.Ytkicmdflflknaaa
open Go.ChangeShapes Go.WideShapes Go.ChangeAt Go.RowKit
set_option linter.unusedVariables false

theorem MapAt.below {w w' : World} {b : Nat} {M : Nat → Int × Int} (h : MapAt w b M) (hb : Below w.heap.size w w') : MapAt w' b M := (hb.block b h.lt).trans h
theorem RMapAt.below {w w' : World} {b : Nat} {M : Nat → Int × Int} (h : RMapAt w b M) (hb : Below w.heap.size w w') : RMapAt w' b M := (hb.block b h.lt).trans h

set_option maxRecDepth 100000 in
set_option maxHeartbeats 4000000 in
theorem gmapPlays_walk (p0 : Option Addr) (n0 c0 : Nat) (f0 : Nat → List Value) (p1 : Option Addr) (n1 c1 : Nat) (f1 : Nat → List Value) (p2 : Option Addr) (n2 c2 : Nat) (f2 : Nat → List Value) (w : World) (w0 : SliceOk [some .u8] w p0 n0 c0 f0) (hR0 : c0 * 1 ≤ 140737488351232) (w1 : SliceOk [some .i64] w p1 n1 c1 f1) (hR1 : c1 * 8 ≤ 140737488351232) (w2 : SliceOk [some .i64, some .i64] w p2 n2 c2 f2) (hR2 : c2 * 16 ≤ 140737488351232) :
    Calls Try.prog 8 #[.slice p0 n0 c0, .slice p1 n1 c1, .slice p2 n2 c2] w fun e w' => e = .returned (.bool true) ∧ Below w.heap.size w w' := by
  clear hR0 hR1 hR2
  go_enter Try.func8, Try.ntmps8
  go_wp2_with fail
  refine (new_map _).mono ?_
  rintro e w' ⟨rfl, rfl⟩
  go_wp2_with fail
  go_loopw [9] (fun iv wr => ∃ (i : Nat) (M : Nat → Int × Int), i ≤ 100 ∧ iv = .int .i64 i ∧ Bel w.heap.size w wr ∧ MapAt wr w.heap.size M ∧ RMapAt wr (w.heap.size + 1) M ∧ ValidMap M) (fun iv _ => 100 - (intOf iv).toNat)
  case atStart =>
    refine ⟨0, zeroMap, Nat.zero_le _, rfl, (by repeat (first | exact hbel | exact Bel.refl _ | apply Bel.later | apply Bel.alloc | apply Bel.drew | (refine Bel.laterB ?_ (by first | omega | (simp; omega) | simp)))), ?_, ?_, ValidMap.zero⟩
    · exact heap_alloc (Go.heap_alloc_new w _)
    · have := Go.heap_alloc_new (w.alloc (.cells (mapCells fun _ => (0, 0)).toArray 59)) (.cells (rmapCells zeroMap).toArray 64)
      rw [show (w.alloc (.cells (mapCells fun _ => (0, 0)).toArray 59)).heap.size = w.heap.size + 1 from by simp] at this
      exact this
  case round =>
    obtain ⟨i, M, hi, rfl, hbel, hmap, hrmap, hval⟩ := hrel
    obtain ⟨wo, rfl⟩ : ∃ wo : World, wo = wr := ⟨_, rfl⟩
    by_cases hall : i < n0 ∧ i < n1 ∧ i < n2 ∧ i < 100
    · obtain ⟨i0, i1, i2, i100⟩ := hall
      obtain ⟨b0, o0, kd, rfl, l0, _, wkd, q0⟩ := w0.int1 i0
      obtain ⟨b1, o1, pg, rfl, l1, _, _, q1⟩ := w1.int1 i1
      obtain ⟨b2, o2, pf, pr, rfl, l2, _, _, _, q2, q3⟩ := w2.int2 i2
      have r0 : wo.cell? ⟨b0, o0 + i, none⟩ = some (.int .u8 kd) := (hbel.1.cell (p := ⟨b0, o0 + i, none⟩) l0).trans q0
      have r1 : wo.cell? ⟨b1, o1 + i, none⟩ = some (.int .i64 pg) := (hbel.1.cell (p := ⟨b1, o1 + i, none⟩) l1).trans q1
      have r2 : wo.cell? ⟨b2, o2 + i * 2, none⟩ = some (.int .i64 pf) := (hbel.1.cell (p := ⟨b2, o2 + i * 2, none⟩) l2).trans q2
      have r3 : wo.cell? ⟨b2, o2 + i * 2 + 1, none⟩ = some (.int .i64 pr) := (hbel.1.cell (p := ⟨b2, o2 + i * 2 + 1, none⟩) l2).trans q3
      have bkd := bounds_u8 wkd
      obtain ⟨bk0, bk1⟩ := bkd
      clear wkd q0 w0 w1 w2
      cases he : (kd % 3 == 2)
      case' true =>
        have hval' := hval.drop pg
        go_wp2_with fail
        go_region_held3 (fun w' : World => w'.cell? ⟨b1, o1 + i, none⟩ = some (.int .i64 pg)) (first | exact r1 | assumption) (first
          | (go_at_call 20; refine (drop_any _ _ pg _ (show MapAt wo.drew _ _ from hmap)).mono ?_; rintro e wa ⟨rfl, hua, hma⟩; have s1 : wa.cell? ⟨b1, o1 + i, none⟩ = some (.int .i64 pg) := hua.cell (show wo.drew.cell? ⟨b1, o1 + i, none⟩ = _ from r1) (by simp; omega))
          | (go_at_call 24; refine (rdrop_any _ _ pg _ (heap_upd (show RMapAt wo.drew _ _ from hrmap) hua (by omega))).mono ?_; rintro e wb ⟨rfl, hub, hrb⟩; have s2 : wb.cell? ⟨b1, o1 + i, none⟩ = some (.int .i64 pg) := hub.cell s1 (by simp; omega)))
        generalize dropNew M pg = M' at *
      case' false =>
        have hval' := hval.set pg pf pr
        go_wp2_with fail
        go_region_held3 (fun w' : World => w'.cell? ⟨b1, o1 + i, none⟩ = some (.int .i64 pg) ∧ w'.cell? ⟨b2, o2 + i * 2, none⟩ = some (.int .i64 pf) ∧ w'.cell? ⟨b2, o2 + i * 2 + 1, none⟩ = some (.int .i64 pr)) (first | exact ⟨r1, r2, r3⟩ | exact ⟨s1, s3, s4⟩ | assumption) (first
          | (go_at_call 16; refine (set_any _ _ pg pf pr _ (show MapAt wo.drew _ _ from hmap)).mono ?_; rintro e wa ⟨rfl, hua, hma⟩; have s1 : wa.cell? ⟨b1, o1 + i, none⟩ = some (.int .i64 pg) := hua.cell (show wo.drew.cell? ⟨b1, o1 + i, none⟩ = _ from r1) (by simp; omega); have s3 : wa.cell? ⟨b2, o2 + i * 2, none⟩ = some (.int .i64 pf) := hua.cell (show wo.drew.cell? ⟨b2, o2 + i * 2, none⟩ = _ from r2) (by simp; omega); have s4 : wa.cell? ⟨b2, o2 + i * 2 + 1, none⟩ = some (.int .i64 pr) := hua.cell (show wo.drew.cell? ⟨b2, o2 + i * 2 + 1, none⟩ = _ from r3) (by simp; omega))
          | (go_at_call 25; refine (rset_any _ _ pg pf pr _ (heap_upd (show RMapAt wo.drew _ _ from hrmap) hua (by omega))).mono ?_; rintro e wb ⟨rfl, hub, hrb⟩; have s2 : wb.cell? ⟨b1, o1 + i, none⟩ = some (.int .i64 pg) ∧ wb.cell? ⟨b2, o2 + i * 2, none⟩ = some (.int .i64 pf) ∧ wb.cell? ⟨b2, o2 + i * 2 + 1, none⟩ = some (.int .i64 pr) := ⟨hub.cell s1 (by simp; omega), hub.cell s3 (by simp; omega), hub.cell s4 (by simp; omega)⟩))
        replace s2 := s2.1
        generalize setNew M pg pf pr = M' at *
      all_goals
        have hmb : MapAt wb w.heap.size M' := heap_upd hma hub (by omega)
        replace hbel : Bel w.heap.size w wb := (hbel.drew.upd hua (Nat.le_refl _)).upd hub (by omega)
        have lb := lt_heap hmb
        have lbb : b1 < wb.heap.size := by omega
        have hpl := pagesTo_le M' 12
        clear hma hua hub hmap hrmap r0 r1 r2 r3 s1
        go_wp2_with fail
        refine (Calls.lat (get_any _ _ pg _ hmb)).mono ?_
        rintro e w' ⟨rfl, x1, rfl⟩
        go_wp2_with fail
        refine (Calls.lat (rget_any _ _ pg _ hrb.later.alloc)).mono ?_
        rintro e w' ⟨rfl, x2, rfl⟩
        go_wp2_with fail
        refine (pages_any _ _ _ hmb.later.alloc.later.alloc).mono ?_
        rintro e w5 ⟨v5, rfl, hown5, hb5⟩
        have hbel5 : Bel w.heap.size w w5 := Bel.of (by repeat (first | exact hbel | exact Bel.refl _ | apply Bel.later | apply Bel.alloc | apply Bel.drew | (refine Bel.laterB ?_ (by first | omega | (simp; omega) | simp)))) hb5
        have hm5 := hmb.later.alloc.later.alloc.below hb5
        have hr5 := hrb.later.alloc.later.alloc.below hb5
        have s5 : w5.cell? ⟨b1, o1 + i, none⟩ = some (.int .i64 pg) := (hb5.cell (p := ⟨b1, o1 + i, none⟩) (by have := (Bel.refl wb).later (x := x1); have h1 := (this.alloc (o := .cells #[.int .i64 (getF M' pg), .int .i64 (getR M' pg)] 36)).later (x := x2); have := h1.2; simp; omega)).trans (by simp [go_sem, lbb, s2])
        obtain ⟨a5, c5, rfl, hc5, hcm5, hi5, _⟩ := ints_of_owned hown5
        clear hown5 hb5 hmb hrb s2 lbb lb hbel
        go_wp2_with fail
        refine (rpages_any _ _ _ hr5).mono ?_
        rintro e w6 ⟨v6, rfl, hown6, hb6⟩
        have hbel : Bel w.heap.size w w6 := Bel.of hbel5 hb6
        have hm6 := hm5.below hb6
        have hr6 := hr5.below hb6
        have lb1 : b1 < w6.heap.size := by have := hbel.2; omega
        have s6 : w6.cell? ⟨b1, o1 + i, none⟩ = some (.int .i64 pg) := (hb6.cell (p := ⟨b1, o1 + i, none⟩) (by have := hbel5.2; show b1 < _; omega)).trans s5
        obtain ⟨a6, c6, rfl, hc6, hcm6, hi6, _⟩ := ints_of_owned hown6
        replace hi5 := hi5.bel (Bel.of (Bel.refl _) hb6)
        clear hown6 hb6 hr5 hm5 hbel5 s5
        go_wp2_with fail
        refine (Calls.lat (ints_any _ _ _ _ _ _ _ _ _ hi5 hi6 (by omega) (by omega))).mono ?_
        rintro e w' ⟨rfl, x7, rfl⟩
        clear hi5 hi6
        go_wp2_with fail
        have hbel7 : Bel w.heap.size w (later w6 x7) := (by repeat (first | exact hbel | exact Bel.refl _ | apply Bel.later | apply Bel.alloc | apply Bel.drew | (refine Bel.laterB ?_ (by first | omega | (simp; omega) | simp))))
        have hm7 := hm6.later (x := x7)
        have hr7 := hr6.later (x := x7)
        have s7 : (later w6 x7).cell? ⟨b1, o1 + i, none⟩ = some (.int .i64 pg) := by simp [go_sem, lb1, s6]
        clear hm6 hr6 s6 lb1 hbel
        go_loopw [14] (fun jv wi => ∃ j : Int, -1 ≤ j ∧ j ≤ 4 ∧ jv = .int .i64 j ∧ Bel w.heap.size w wi ∧ MapAt wi w.heap.size M' ∧ RMapAt wi (w.heap.size + 1) M' ∧ wi.cell? ⟨b1, o1 + i, none⟩ = some (.int .i64 pg)) (fun jv _ => (4 - intOf jv).toNat)
        case atStart => exact ⟨-1, by omega, by omega, rfl, hbel7, hm7, hr7, s7⟩
        case round =>
          obtain ⟨j, hj0, hj1, rfl, hbel, hm8, hr8, s8⟩ := hrel
          clear hbel7 hm7 hr7 s7
          have lb1 : b1 < wr.heap.size := by have := hbel.2; omega
          by_cases hlt : j ≤ 3
          · go_wp2_with fail
            refine wp_region_later (by kernel_rfl) (by kernel_rfl) ?_
            repeat (first | go_big_quiet_step (first | (go_at_call 18; exact Calls.later_of (allows_any _ _ _ _ _ hm8.later)) | (go_at_call 29; exact Calls.later_of (rallows_any _ _ _ _ _ hr8.later hval'))))
            refine wpQuiet_nil ?_
            intro _ hw'
            obtain ⟨x9, hw''⟩ := hw'
            subst hw''
            go_wp2_with fail
            go_roundw
            case rel => exact ⟨j + 1, by omega, by omega, rfl, (by repeat (first | exact hbel | exact Bel.refl _ | apply Bel.later | apply Bel.alloc | apply Bel.drew | (refine Bel.laterB ?_ (by first | omega | (simp; omega) | simp)))), hm8.later, hr8.later, by simp [go_sem, lb1, s8]⟩
            case measure => simp [intOf]; omega
          · go_wp2_with fail
            go_roundw
            case rel => exact ⟨i + 1, M', by omega, by go_num, hbel, hm8, hr8, hval'⟩
            case measure => simp [intOf]; omega
    · clear w0 w1 w2
      have hcase : ¬ i < n0 ∨ (i < n0 ∧ ¬ i < n1) ∨ (i < n0 ∧ i < n1 ∧ ¬ i < n2) ∨ (i < n0 ∧ i < n1 ∧ i < n2 ∧ ¬ i < 100) := by omega
      clear hall
      rcases hcase with h | ⟨h, h'⟩ | ⟨h, h', h''⟩ | ⟨h, h', h'', h'''⟩
      all_goals
        go_wp2_with fail
        refine (Calls.lat (awake15 _)).mono ?_
        rintro e w' ⟨rfl, y4, rfl⟩
        go_wp2_with fail
        go_ret
        exact ⟨rfl, (by refine (?_ : Bel _ _ _).1; repeat (first | exact hbel | exact Bel.refl _ | apply Bel.later | apply Bel.alloc | apply Bel.drew | (refine Bel.laterB ?_ (by first | omega | (simp; omega) | simp))))⟩

end Go.Proofs.Ytkicmdflflknaaa
