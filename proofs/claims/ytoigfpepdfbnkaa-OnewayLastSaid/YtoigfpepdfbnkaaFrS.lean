/- All frames' bytes as one string (hermitagelaw06.all). -/
import Derived.Test.YtoigfpepdfbnkaaFrA
namespace Go.Proofs.Ytoigfpepdfbnkaa
open Go.ChangeShapes Go.WideShapes Go.ChangeAt Go.RowKit
set_option linter.unusedVariables false

theorem strF_size (f : Nat → Int) (n : Nat) : (strF f n).size = n := by unfold strF; rw [strOfNums_size]; simp
theorem strF_data (f : Nat → Int) (n : Nat) : (strF f n).data.toList = (List.range n).map fun i => UInt8.ofNat (f i).toNat := by
  unfold strF
  rw [strOfNums_data, List.map_map]
  rfl
theorem strF_append (f : Nat → Int) (m n : Nat) : strF f m ++ strF (fun i => f (m + i)) n = strF f (m + n) := by
  apply ByteArray.ext
  rw [ByteArray.data_append]
  apply Array.toList_inj.1
  rw [Array.toList_append, strF_data, strF_data, strF_data, List.range_add, List.map_append, List.map_map]
  rfl
theorem strF_empty (f : Nat → Int) : strF f 0 = ⟨#[]⟩ := rfl
theorem strF_extract (f : Nat → Int) (n a b : Nat) (h : b ≤ n) : (strF f n).extract a b = strF (fun i => f (a + i)) (b - a) := by
  apply ByteArray.ext
  rw [ByteArray.data_extract]
  apply Array.toList_inj.1
  rw [Array.toList_extract, strF_data, strF_data]
  refine List.ext_getElem? fun i => ?_
  by_cases hi : i < b - a
  · simp [List.getElem?_drop, hi, show a + i < n by omega]
  · rw [List.getElem?_eq_none (by simp; omega), List.getElem?_eq_none (by simp; omega)]

set_option maxHeartbeats 400000 in
theorem all_of (s fb n : Nat) (G : Nat → Int) (w : World) (h : StoAt w s fb n G) : Calls Try.prog 14 #[.pointer (some ⟨s, 0, none⟩)] w fun e w' => e = .returned (.string (strF G (n * 64))) ∧ Below w.heap.size w w' := by
  have hn := h.1
  go_enter Try.func14, Try.ntmps14
  go_wp2_with fail
  go_loopw [3, 4] (fun ov iv wr => ∃ k : Nat, k ≤ n ∧ iv = .int .i64 k ∧ ov = .string (strF G (k * 64)) ∧ Bel w.heap.size w wr) (fun _ iv _ => n - (intOf iv).toNat)
  case atStart => exact ⟨0, Nat.zero_le _, rfl, by simp [strF_empty], Bel.refl _⟩
  case round =>
    obtain ⟨k, hk, rfl, rfl, hbel⟩ := hrel
    have hst := h.below hbel.1
    clear h
    by_cases hlt : k < n
    · go_wp2_with fail
      refine (Calls.lat (len_of _ _ _ _ _ hst)).mono ?_
      rintro e w' ⟨rfl, x, rfl⟩
      go_wp2_with fail
      refine (fbytes_in s fb n k G _ hst.later hlt).mono ?_
      rintro e w2 ⟨g, rfl, hg, hr, hb⟩
      have hbel2 : Bel w.heap.size w w2 := (hbel.later (x := x)).of hb
      have hcv := conv_bytes hr.bat 64
      have happ : strF G (k * 64) ++ strF (fr G k) 64 = strF G ((k + 1) * 64) := by
        rw [show (k + 1) * 64 = k * 64 + 64 by omega]
        exact strF_append G (k * 64) 64
      have hsz : ¬ (strF G (k * 64)).size + (strF (fr G k) 64).size > 9223372036854775807 := by rw [strF_size, strF_size]; omega
      have Happ := Lib.hid happ
      clear hst hr happ
      generalize strF G (k * 64) = A at *
      generalize strF (fr G k) 64 = D at *
      go_wp2
      go_roundw
      case rel => exact ⟨k + 1, by omega, by go_num, by rw [Happ.out], hbel2⟩
      case measure => simp [intOf]; omega
    · obtain rfl : k = n := by omega
      go_wp2_with fail
      refine (Calls.lat (len_of _ _ _ _ _ hst)).mono ?_
      rintro e w' ⟨rfl, x, rfl⟩
      go_wp2_with fail
      go_ret
      exact ⟨rfl, hbel.later.1⟩

end Go.Proofs.Ytoigfpepdfbnkaa
