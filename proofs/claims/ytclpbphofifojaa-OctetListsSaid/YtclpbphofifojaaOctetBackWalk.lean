/- The walk of hermitagelaw02.OctetBack: true at every input. -/
import Derived.Test.YtclpbphofifojaaOctR
import Derived.BigQuiet
namespace Go.Proofs.Ytclpbphofifojaa
open Go.ChangeShapes Go.WideShapes Go.ChangeAt Go.RowKit
set_option linter.unusedVariables false

theorem conv_src {w : World} {p : Option Addr} {n : Nat} {f : Nat → Int} (h : SrcAt w p n f) (c : Nat) : (convert 34 9 (.slice p n c)).run Try.prog w = .ok (.string (strF f n)) w := by
  by_cases hn : 1 ≤ n
  · obtain ⟨b, o, rfl, hb⟩ := h.2.2 hn
    exact conv_bytes hb c
  · obtain rfl : n = 0 := by omega
    rw [run_convert_bytes_string w 34 9 5 _ 0 c Try.underlying34 Try.underlying5 Try.underlying9]
    cases p <;> simp [Conv.bytesToString, loadCells]
    all_goals rfl

set_option maxRecDepth 100000 in
set_option maxHeartbeats 4000000 in
theorem octetBack_walk (p0 : Option Addr) (n0 c0 : Nat) (f0 : Nat → List Value) (a1 : Int) (a2 : Bool) (a3 : Int) (w : World) (w0 : SliceOk [some .u8] w p0 n0 c0 f0) (hR0 : c0 * 1 ≤ 140737488351232) (w1 : (Lit.int .i64 a1).wf = true) (w3 : (Lit.int .u32 a3).wf = true) :
    Calls Try.prog 6 #[.slice p0 n0 c0, .int .i64 a1, .bool a2, .int .u32 a3] w fun e w' => e = .returned (.bool true) ∧ Below w.heap.size w w' := by
  have hnc := w0.1
  obtain ⟨f, hs⟩ := src_of_ok w0
  have b3 := bounds_u32 w3
  obtain ⟨b30, b31⟩ := b3
  have b1 := bounds_i64 w1
  obtain ⟨b10, b11⟩ := b1
  have k0 := conv_src hs c0
  clear w0 w1 w3
  cases a2
  all_goals
    obtain ⟨wd, hwd⟩ : ∃ wd : Nat, (wd = 2 ∨ wd = 4) := ⟨2, .inl rfl⟩
    clear wd hwd
  case' true => obtain ⟨m, hm, hml⟩ : ∃ m : Nat, m = 2 ∧ (m = 1 ∨ m = 2 ∨ m = 4) := ⟨2, rfl, by omega⟩
  case' false => obtain ⟨m, hm, hml⟩ : ∃ m : Nat, m = 4 ∧ (m = 1 ∨ m = 2 ∨ m = 4) := ⟨4, rfl, by omega⟩
  all_goals
    by_cases hin : inP n0 a1 m
    · obtain ⟨a, m', rfl, hm', _, ham⟩ := hin.nat
      obtain rfl : m' = m := by omega
      obtain ⟨b, o, rfl, hb⟩ := hs.2.2 (by omega)
      have hgp1 : m' = 2 → getV (putF f a m' a3) a m' = a3 % 65536 := fun e => by rw [e]; exact get_put2 f a a3
      have hgp2 : m' = 4 → getV (putF f a m' a3) a m' = a3 := fun e => by rw [e]; exact get_put4 f a a3 (by omega) (by omega)
      obtain ⟨G, hG⟩ : ∃ G, getV (putF f a m' a3) a m' = G := ⟨_, rfl⟩
      rw [hG] at hgp1 hgp2
      obtain ⟨M, hM⟩ : ∃ M : Nat, M = m' := ⟨_, rfl⟩
      subst hm
      simp at hgp1 hgp2
      clear hin hm'
      have HG := Lib.hid hG
      clear hG
      go_enter Try.func6, Try.ntmps6
      go_wp2_with fail
      refine (put_in b o n0 c0 a _ a3 f _ hb (by omega) ham (by omega) b30 b31).mono ?_
      rintro e w1 ⟨g1, cap1, rfl, hle1, hcm1, hgb1, hr1, hb1⟩
      have k1 := conv_src (hs.below hb1) c0
      have hb' := hb.below hb1
      have hbel1 : Bel w.heap.size w w1 := Bel.of (Bel.refl w) hb1
      go_wp2_with fail
      refine (get_in g1 0 n0 cap1 a _ _ _ hr1.bat (by omega) ham hle1 (by omega)).mono ?_
      rintro e w' ⟨rfl, rfl⟩
      rw [HG.out]
      go_wp2_with fail
      clear hgp1 hgp2
      go_loopw [17] (fun i wr => ∃ k : Nat, k ≤ n0 ∧ i = .int .i64 k ∧ Bel w1.heap.size w1 wr) (fun i _ => n0 - (intOf i).toNat)
      case atStart => exact ⟨0, Nat.zero_le _, rfl, Bel.refl _⟩
      case round =>
        obtain ⟨k, hk, rfl, hbel⟩ := hrel
        by_cases hlt : k < n0
        · have cx := (hr1.below hbel.1).cell hlt
          have lg : g1 < wr.heap.size := (hr1.below hbel.1).lt
          have lb : b < wr.heap.size := (hb'.below hbel.1).1
          have cy := (hb'.below hbel.1).2.1 k hlt
          have he : ∀ m, (k < a ∨ a + m ≤ k) → putF f a m a3 k = f k := fun m h => if_neg (by omega)
          by_cases hka : k < a
          · rw [he _ (by omega)] at cx
            have hd1 : decide ((k : Int) < a) = true := by simp; omega
            clear hs hb hb' hr1 hb1 k0 k1 hbel1
            go_wp2_with fail
            refine wp_region_later (by kernel_rfl) (by kernel_rfl) ?_
            repeat (first | go_big_quiet_step (fail))
            refine wpQuiet_nil ?_
            intro _ hw'
            obtain ⟨x9, hw''⟩ := hw'
            subst hw''
            go_wp2_with fail
            go_roundw
            case rel => exact ⟨k + 1, by omega, by go_num, (by repeat (first | exact hbel | exact Bel.refl _ | apply Bel.later | apply Bel.alloc | apply Bel.drew | (refine Bel.laterB ?_ (by first | exact Nat.le_refl _ | omega | (simp; omega) | simp)) | (refine Bel.setCell ?_ (by first | exact Nat.le_refl _ | omega | (simp; omega) | simp))))⟩
            case measure => simp [intOf]; omega
          · by_cases hkm : k < a + M
            · have hd2 : M = 2 → decide ((2 : Int) ≤ (k : Int) - a) = false := fun e => by simp; omega
              have hd4 : M = 4 → decide ((4 : Int) ≤ (k : Int) - a) = false := fun e => by simp; omega
              have hd1 : decide ((k : Int) < a) = false := by simp; omega
              first | have hd := hd2 hM | have hd := hd4 hM
              clear hd2 hd4
              clear hs hb hb' hr1 hb1 k0 k1 hbel1
              go_wp2_with fail
              refine wp_region_later (by kernel_rfl) (by kernel_rfl) ?_
              repeat (first | go_big_quiet_step (fail))
              refine wpQuiet_nil ?_
              intro _ hw'
              obtain ⟨x9, hw''⟩ := hw'
              subst hw''
              go_wp2_with fail
              go_roundw
              case rel => exact ⟨k + 1, by omega, by go_num, (by repeat (first | exact hbel | exact Bel.refl _ | apply Bel.later | apply Bel.alloc | apply Bel.drew | (refine Bel.laterB ?_ (by first | exact Nat.le_refl _ | omega | (simp; omega) | simp)) | (refine Bel.setCell ?_ (by first | exact Nat.le_refl _ | omega | (simp; omega) | simp))))⟩
              case measure => simp [intOf]; omega
            · rw [he _ (by omega)] at cx
              have hd2 : M = 2 → decide ((2 : Int) ≤ (k : Int) - a) = true := fun e => by simp; omega
              have hd4 : M = 4 → decide ((4 : Int) ≤ (k : Int) - a) = true := fun e => by simp; omega
              have hd1 : decide ((k : Int) < a) = false := by simp; omega
              first | have hd := hd2 hM | have hd := hd4 hM
              clear hd2 hd4
              clear hs hb hb' hr1 hb1 k0 k1 hbel1
              go_wp2_with fail
              refine wp_region_later (by kernel_rfl) (by kernel_rfl) ?_
              repeat (first | go_big_quiet_step (fail))
              refine wpQuiet_nil ?_
              intro _ hw'
              obtain ⟨x9, hw''⟩ := hw'
              subst hw''
              go_wp2_with fail
              go_roundw
              case rel => exact ⟨k + 1, by omega, by go_num, (by repeat (first | exact hbel | exact Bel.refl _ | apply Bel.later | apply Bel.alloc | apply Bel.drew | (refine Bel.laterB ?_ (by first | exact Nat.le_refl _ | omega | (simp; omega) | simp)) | (refine Bel.setCell ?_ (by first | exact Nat.le_refl _ | omega | (simp; omega) | simp))))⟩
              case measure => simp [intOf]; omega
        · obtain rfl : k = n0 := by omega
          go_wp2_with fail
          refine (Calls.lat (awake02 _)).mono ?_
          rintro e w' ⟨rfl, x1, rfl⟩
          go_wp2_with fail
          go_ret
          exact ⟨rfl, (hbel1.trans hbel hbel1.2).later.1⟩
    · subst hm
      go_enter Try.func6, Try.ntmps6
      go_wp2_with fail
      refine (Calls.lat (put_out _ _ _ _ _ _ f _ hs hin (by omega) (by decide))).mono ?_
      rintro e w' ⟨rfl, x1, rfl⟩
      have k1 := conv_src (hs.below (later_below w x1)) c0
      go_wp2_with fail
      refine (get_out _ _ _ _ _ _ hin (by omega) (by decide)).mono ?_
      rintro e w' ⟨rfl, rfl⟩
      go_wp2_with fail
      refine (Calls.lat (awake02 _)).mono ?_
      rintro e w' ⟨rfl, x2, rfl⟩
      go_wp2_with fail
      go_ret
      exact ⟨rfl, (by refine (?_ : Bel _ _ _).1; repeat (first | exact hbel | exact Bel.refl _ | apply Bel.later | apply Bel.alloc | apply Bel.drew | (refine Bel.laterB ?_ (by first | exact Nat.le_refl _ | omega | (simp; omega) | simp)) | (refine Bel.setCell ?_ (by first | exact Nat.le_refl _ | omega | (simp; omega) | simp))))⟩

end Go.Proofs.Ytclpbphofifojaa
