/- The law package's awake (hermitagelaw30). -/
import Derived.Test.YtoigfpepdfbnkaaOwyP
namespace Go.Proofs.Ytoigfpepdfbnkaa
open Go.ChangeShapes Go.WideShapes Go.ChangeAt Go.RowKit
set_option linter.unusedVariables false

theorem USrc.nil (w : World) : USrc w none 0 (fun _ => 0) := ⟨fun i hi => absurd hi (by omega), fun h => absurd h (by omega)⟩
theorem got_awake : gotV (sendG (sendG (mkG (fun _ => 0) 0) 0 5) 0 6) 0 1 = .agg #[.int .u32 6, .int .u32 2, .int .u32 0, .bool true] := by
  have h0 : hd (mkG (fun _ => 0) 0) 0 = 0 := rfl
  have b0 := mkG_byt (fun _ => 0) 0
  have h1 : hd (sendG (mkG (fun _ => 0) 0) 0 5) 0 = 1 := by rw [hd_send b0, h0]; rfl
  have h2 : hd (sendG (sendG (mkG (fun _ => 0) 0) 0 5) 0 6) 0 = 2 := by rw [hd_send (byt_sendG b0 0 5), h1]; rfl
  unfold gotV
  rw [h2, if_neg (by omega)]
  have hl : lostN 2 1 = 0 := by decide
  have hf : fromN 2 1 = 1 := by decide
  rw [hf, hl, wd_send 0 6 1 (by omega) (by omega), h1, if_pos rfl]
  rfl

theorem awake30 (w : World) : Calls Try.prog 30 #[] w fun e w' => e = .returned (.bool true) ∧ Below w.heap.size w w' := by
  go_enter Try.func30, Try.ntmps30
  go_wp2_with fail
  refine (made_any none 0 0 _ _ (USrc.nil _)).mono ?_
  rintro e w1 ⟨s, fb, t, rb, rfl, hs, hfb, ht, hrb, hn1, hn2, hst, hrst, hb1⟩
  have hbel1 : Bel w.heap.size w w1 := Bel.of (Bel.refl w) hb1
  go_wp2_with fail
  refine (send_in s fb 2 0 5 _ _ hst (by omega) (by omega) (by omega)).mono ?_
  rintro e w2 ⟨rfl, hu2, hst2⟩
  have hbel2 := hbel1.upd hu2 hfb
  go_wp2_with fail
  refine (send_in s fb 2 0 6 _ _ hst2 (by omega) (by omega) (by omega)).mono ?_
  rintro e w3 ⟨rfl, hu3, hst3⟩
  have hbel3 := hbel2.upd hu3 hfb
  go_wp2_with fail
  refine (Calls.lat (recv_in s fb 2 0 1 _ _ hst3 (by omega) (by omega) (by omega))).mono ?_
  rintro e w' ⟨rfl, x, rfl⟩
  have hg := got_awake
  simp only [Nat.zero_min] 
  rw [hg]
  go_wp2_with fail
  go_ret
  have hbel4 := hbel3.later (x := x)
  have hsz := hbel4.2
  exact ⟨rfl, (hbel4.alloc).1⟩

end Go.Proofs.Ytoigfpepdfbnkaa
