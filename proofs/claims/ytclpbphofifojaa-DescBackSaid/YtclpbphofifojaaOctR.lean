/- The reference's Put; the law package's awake; strings of bytes. -/
import Derived.Test.YtclpbphofifojaaOctW
namespace Go.Proofs.Ytclpbphofifojaa
open Go.ChangeShapes Go.WideShapes Go.ChangeAt Go.RowKit
set_option linter.unusedVariables false

set_option maxHeartbeats 1000000 in
theorem rput_in (b o n c a m : Nat) (v : Int) (f : Nat → Int) (w : World) (h : BAt w b o n f) (hm : m = 1 ∨ m = 2 ∨ m = 4) (ha : a + m ≤ n) (hn : n ≤ 140737488355328) (h0 : 0 ≤ v) (h1 : v ≤ 4294967295) :
    Calls Try.prog 19 #[.slice (some ⟨b, o, none⟩) n c, .int .i64 a, .int .i64 m, .int .u32 v] w fun e w' => ∃ g cap, e = .returned (.tuple #[.slice (some ⟨g, 0, none⟩) n cap, .int .i64 0]) ∧ n ≤ cap ∧ cap ≤ maxLen ∧ w.heap.size ≤ g ∧ RowAt w' g n (putF f a m v) ∧ Below w.heap.size w w' := by
  obtain ⟨i0, hi, hz0, hz1, hz2⟩ := info_parts Try.infoByte
  have hnews : ∀ j u, (bytesL f n)[j]? = some u → w.cell? ((⟨b, o, none⟩ : Addr).add j) = some u := by
    intro j u hj
    have hjl : j < n := by have := (List.getElem?_eq_some_iff.1 hj).1; rwa [bytesL_length, Nat.mul_one] at this
    rw [bytesL_at f n j hjl] at hj
    cases hj
    rw [add_plain]
    exact h.2.1 j hjl
  go_enter Try.func19, Try.ntmps19
  go_wp2_with (first
    | (go_at_call 41; refine (rin_in _ n c a m _ hm ha hn).mono ?_; rintro e w' ⟨rfl, rfl⟩)
    | (at_builtin; refine wpList_append_own _ rfl (.tmp 17) (.tmp 18) 34 rfl w.heap.size 5 i0 (.int .u8 0) 1 1 Try.underlying34 hi hz0 hz1 hz2 rfl (by decide) _ 0 [] rfl (World.ownsRow_made w #[] 0 (Nat.le_refl _) (Nat.zero_le _) rfl) ⟨b, o, none⟩ n c (bytesL f n) rfl (bytesL_length f n) ?c1 (bytesL_one f n) ?c3 ?c4 (by simp) ?_))
  case c1 => first | exact hnews | (intro j u hj; have := hnews j u hj; simpa using this) | (intro j u hj; rw [alloc_old_cell _ _ _ (by rw [add_plain]; exact h.1)]; exact hnews j u hj)
  case c3 => unfold maxLen; omega
  case c4 => omega
  intro v' w1 hown hgrow _
  have ho := row_of_owned (n := n) (f := f) (by simpa using hown) h.2.2
  have hb1 : Below w.heap.size w w1 := (Bel.upd (Bel.refl w).alloc (show Upd w.heap.size _ _ from hgrow) (Nat.le_refl _)).1
  obtain ⟨g, cap, rfl, hle, hcm, hgb, hrow⟩ := ho.2 (by omega)
  clear hown hgrow ho hnews
  have hf := h.2.2
  clear h
  go_wp2
  go_loopw [11] (fun i wr => ∃ k : Nat, k ≤ m ∧ i = .int .i64 k ∧ Upd g w1 wr ∧ RowAt wr g n (putF f a k v)) (fun i _ => m - (intOf i).toNat)
  case atStart => exact ⟨0, Nat.zero_le _, rfl, Upd.refl _ _, by rw [putF_zero]; exact hrow⟩
  case round =>
    obtain ⟨k, hk, rfl, hu, hr⟩ := hrel
    by_cases hlt : k < m
    · have cx := hr.cell (i := a + k) (by omega)
      have cf := hr.frozen (a + k)
      have hset := hr.set (k := a + k) (by omega) (v / (256 : Int) ^ k % 256) (by omega) (by omega)
      rw [← putF_succ] at hset
      have H := Lib.hid hset
      have hk4 : k = 0 ∨ k = 1 ∨ k = 2 ∨ k = 3 := by omega
      clear hset hr hrow hm
      rcases hk4 with rfl | rfl | rfl | rfl
      · simp only [Nat.add_zero] at cx cf
        go_wp2
        go_roundw
        case rel => exact ⟨1, by omega, rfl, Upd.setCell hu, by simpa using H.out⟩
        case measure => simp [intOf]; omega
      · go_wp2
        go_roundw
        case rel => exact ⟨2, by omega, rfl, Upd.setCell hu, by simpa using H.out⟩
        case measure => simp [intOf]; omega
      · go_wp2
        go_roundw
        case rel => exact ⟨3, by omega, rfl, Upd.setCell hu, by simpa using H.out⟩
        case measure => simp [intOf]; omega
      · go_wp2
        go_roundw
        case rel =>
          have e : v / 16777216 % 256 = v / 16777216 := by omega
          have h := H.out
          simp [e] at h
          exact ⟨4, by omega, rfl, Upd.setCell hu, by simpa using h⟩
        case measure => simp [intOf]; omega
    · obtain rfl : k = m := by omega
      clear hm
      go_wp2
      go_ret2
      exact ⟨g, cap, rfl, hle, hcm, hgb, hr, (Bel.upd (Bel.of (Bel.refl w) hb1) hu hgb).1⟩

theorem rput_out (p : Option Addr) (n c : Nat) (a m v : Int) (w : World) (h : ¬ inP n a m) (hn : n ≤ 140737488355328) (hm : (Lit.int .i64 m).wf = true) :
    Calls Try.prog 19 #[.slice p n c, .int .i64 a, .int .i64 m, .int .u32 v] w fun e w' => e = .returned (.tuple #[.slice none 0 0, .int .i64 1]) ∧ w = w' := by
  go_enter Try.func19, Try.ntmps19
  go_wp2_with (go_at_call 41; refine (rin_out _ _ _ _ _ _ h hn hm).mono ?_; rintro e w' ⟨rfl, rfl⟩)
  go_ret2
  exact ⟨rfl, rfl⟩

set_option maxHeartbeats 400000 in
theorem awake02 (w : World) : Calls Try.prog 22 #[] w fun e w' => e = .returned (.bool true) ∧ Below w.heap.size w w' := by
  have hs : BAt (w.alloc (.cells #[.int .u8 0, .int .u8 0] 5)) w.heap.size 0 2 (fun _ => 0) := ⟨by show _ < _; simp, fun i hi => by
    have : i = 0 ∨ i = 1 := by omega
    rcases this with rfl | rfl <;> simp [go_sem], fun _ => by simp⟩
  go_enter Try.func22, Try.ntmps22
  go_wp2_with fail
  refine (put_in _ 0 2 _ 0 2 258 _ _ hs (by simp) (by omega) (by omega) (by omega) (by omega)).mono ?_
  rintro e w1 ⟨g, cap, rfl, hle, hcm, hgb, hr, hb⟩
  have c0 := hr.cell (i := 0) (by omega)
  have c1 := hr.cell (i := 1) (by omega)
  simp [putF] at c0 c1
  have hbel : Bel w.heap.size w w1 := Bel.of (Bel.refl w).alloc hb
  have hsig : signV 128 1 = 4294967168 := by decide
  have hc2 : (2 : Int) ≤ cap := by omega
  go_wp2_with fail
  refine (sign_any 128 1 _ (by omega) (by omega)).mono ?_
  rintro e w' ⟨rfl, rfl⟩
  go_wp2_with fail
  go_ret
  exact ⟨rfl, (by refine (?_ : Bel _ _ _).1; repeat (first | exact hbel | exact Bel.refl _ | apply Bel.later | apply Bel.alloc | apply Bel.drew | (refine Bel.laterB ?_ (by first | exact Nat.le_refl _ | omega | (simp; omega) | simp)) | (refine Bel.setCell ?_ (by first | exact Nat.le_refl _ | omega | (simp; omega) | simp))))⟩

/-- A string of these bytes. -/
def strF (f : Nat → Int) (n : Nat) : ByteArray := strOfNums ((List.range n).map f)
theorem conv_bytes {w : World} {b o n : Nat} {f : Nat → Int} (h : BAt w b o n f) (c : Nat) : (convert 34 9 (.slice (some ⟨b, o, none⟩) n c)).run Try.prog w = .ok (.string (strF f n)) w :=
  run_convert_bytes_arg (P := Try.prog) w 34 5 Try.underlying34 Try.underlying5 b o n c ((List.range n).map f) (by simp) (fun i hi => by rw [h.2.1 i hi]; simp [List.getD, hi]) 9 Try.underlying9
theorem conv_nil (w : World) : (convert 34 9 (.slice none 0 0)).run Try.prog w = .ok (.string ByteArray.empty) w :=
  run_convert_bytes_nil (P := Try.prog) w 34 5 Try.underlying34 Try.underlying5 0 0 9 Try.underlying9

theorem src_of_ok {w : World} {p : Option Addr} {n c : Nat} {f0 : Nat → List Value} (h : SliceOk [some .u8] w p n c f0) : ∃ f, SrcAt w p n f := by
  have hp : p = none → n = 0 := fun e => by have h1 := h.1; have h2 := h.2.2.1 e; omega
  by_cases hn : 1 ≤ n
  · obtain ⟨b, o, _, rfl, hb, _⟩ := h.int1 (i := 0) (by omega)
    obtain ⟨f, hf⟩ := Deep.choose_lt (α := Int) (n := n) (p := fun i x => (0 ≤ x ∧ x ≤ 255) ∧ w.cell? ⟨b, o + i, none⟩ = some (.int .u8 x)) (fun i hi => by
      obtain ⟨b', o', x, ha, _, _, hw, hc⟩ := h.int1 hi
      simp only [Option.some.injEq, Addr.mk.injEq, and_true] at ha
      obtain ⟨rfl, rfl⟩ := ha
      exact ⟨x, bounds_u8 hw, hc⟩)
    refine ⟨fun i => if i < n then f i else 0, hp, fun i => ?_, fun _ => ⟨b, o, rfl, hb, fun i hi => ?_, fun i => ?_⟩⟩
    · dsimp only
      split
      · rename_i hi; exact (hf i hi).1
      · simp
    · simp only [if_pos hi]; exact (hf i hi).2
    · dsimp only
      split
      · rename_i hi; exact (hf i hi).1
      · simp
  · exact ⟨fun _ => 0, hp, fun _ => by simp, fun h => absurd h hn⟩

end Go.Proofs.Ytclpbphofifojaa
