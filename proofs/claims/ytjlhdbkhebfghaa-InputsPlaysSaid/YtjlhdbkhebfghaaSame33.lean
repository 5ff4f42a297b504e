/- law 33: same, of the same inputs. -/
import Derived.Test.YtjlhdbkhebfghaaInN
namespace Go.Proofs.Ytjlhdbkhebfghaa
open Go.ChangeShapes Go.WideShapes Go.ChangeAt Go.RowKit
set_option linter.unusedVariables false

theorem bne_refl' (x : Int) : (x != x) = false := by simp
set_option maxRecDepth 20000 in
set_option maxHeartbeats 1000000 in
theorem sameSame (a b : Option Addr) (n c d : Nat) (l : List inIt) (w : World) (ha : ItemsAt 5 inArg w a n l) (hb : ItemsAt 5 inArg w b n l) (hn : n ≤ 1000000) :
    Calls Try.prog 21 #[.slice a n c, .slice b n d] w fun e w' => e = .returned (.bool true) ∧ Below w.heap.size w w' := by
  go_enter Try.func21, Try.ntmps21
  go_wp2_with fail
  go_loopw [5] (fun kv wr => ∃ k : Nat, k ≤ n ∧ kv = .int .i64 k ∧ Bel w.heap.size w wr) (fun kv _ => n - (intOf kv).toNat)
  case atStart => exact ⟨0, Nat.zero_le _, rfl, Bel.refl _⟩
  case round =>
    obtain ⟨k, hk, rfl, hbel⟩ := hrel
    by_cases hkn : k < n
    · have ha2 := ha.below hbel.1
      have hb2 := hb.below hbel.1
      obtain ⟨g1, o1, rfl, l1, hc1⟩ := ha2.2 (by omega)
      obtain ⟨g2, o2, rfl, l2, hc2⟩ := hb2.2 (by omega)
      have c0 := hc1 k hkn 0 (by omega)
      have c1 := hc1 k hkn 1 (by omega)
      have c2 := hc1 k hkn 2 (by omega)
      have c3 := hc1 k hkn 3 (by omega)
      have c4 := hc1 k hkn 4 (by omega)
      have d0 := hc2 k hkn 0 (by omega)
      have d1 := hc2 k hkn 1 (by omega)
      have d2 := hc2 k hkn 2 (by omega)
      have d3 := hc2 k hkn 3 (by omega)
      have d4 := hc2 k hkn 4 (by omega)
      simp only [inArg, List.getElem?_cons_zero, List.getElem?_cons_succ, Nat.add_zero] at c0 c1 c2 c3 c4 d0 d1 d2 d3 d4
      generalize (atL l k).tat = t at *
      generalize (atL l k).gst = gs at *
      generalize (atL l k).knd = kd at *
      generalize (atL l k).cod = cd at *
      generalize (atL l k).dat = dt at *
      clear hc1 hc2 ha2 hb2 ha hb
      go_wp2_with fail
      refine wp_region_later (by kernel_rfl) (by kernel_rfl) ?_
      (repeat (go_big_quiet_step (fail)))
      refine wpQuiet_nil ?_
      intro _ hw'
      obtain ⟨x8, hw''⟩ := hw'
      subst hw''
      go_wp2
      go_roundw
      case rel => exact ⟨k + 1, by omega, by go_num, hbel.later⟩
      case measure => simp [intOf]; omega
    · obtain rfl : k = n := by omega
      go_wp2
      go_ret
      exact ⟨rfl, hbel.1⟩
end Go.Proofs.Ytjlhdbkhebfghaa
