/- The reference's Put. -/
import Derived.Test.YtgcnmhlojfncpaaOctW
namespace Go.Proofs.Ytgcnmhlojfncpaa
open Go.ChangeShapes Go.WideShapes Go.ChangeAt Go.RowKit
set_option linter.unusedVariables false

set_option maxHeartbeats 1000000 in
theorem rput_in (b o n c a m : Nat) (v : Int) (f : Nat → Int) (w : World) (h : BAt w b o n f) (hm : m = 1 ∨ m = 2 ∨ m = 4) (ha : a + m ≤ n) (hn : n ≤ 140737488355328) (h0 : 0 ≤ v) (h1 : v ≤ 4294967295) :
    Calls Try.prog 38 #[.slice (some ⟨b, o, none⟩) n c, .int .i64 a, .int .i64 m, .int .u32 v] w fun e w' => ∃ g cap, e = .returned (.tuple #[.slice (some ⟨g, 0, none⟩) n cap, .int .i64 0]) ∧ n ≤ cap ∧ cap ≤ maxLen ∧ w.heap.size ≤ g ∧ RowAt w' g n (putF f a m v) ∧ Below w.heap.size w w' := by
  obtain ⟨i0, hi, hz0, hz1, hz2⟩ := info_parts Try.infoByte
  have hnews : ∀ j u, (bytesL f n)[j]? = some u → w.cell? ((⟨b, o, none⟩ : Addr).add j) = some u := by
    intro j u hj
    have hjl : j < n := by have := (List.getElem?_eq_some_iff.1 hj).1; rwa [bytesL_length, Nat.mul_one] at this
    rw [bytesL_at f n j hjl] at hj
    cases hj
    rw [add_plain]
    exact h.2.1 j hjl
  go_enter Try.func38, Try.ntmps38
  go_wp2_with (first
    | (go_at_call 46; refine (rin_in _ n c a m _ hm ha hn).mono ?_; rintro e w' ⟨rfl, rfl⟩)
    | (at_builtin; refine wpList_append_own _ rfl (.tmp 17) (.tmp 18) 22 rfl w.heap.size 5 i0 (.int .u8 0) 1 1 Try.underlying22 hi hz0 hz1 hz2 rfl (by decide) _ 0 [] rfl (World.ownsRow_made w #[] 0 (Nat.le_refl _) (Nat.zero_le _) rfl) ⟨b, o, none⟩ n c (bytesL f n) rfl (bytesL_length f n) ?c1 (bytesL_one f n) ?c3 ?c4 (by simp) ?_))
  case c1 => first | exact hnews | (intro j u hj; have := hnews j u hj; simpa using this) | (intro j u hj; rw [alloc_old_cell _ _ _ (by rw [add_plain]; exact h.1)]; exact hnews j u hj)
  case c3 => unfold maxLen; omega
  case c4 => omega
  intro v' w1 hown hgrow _
  have ho := row_of_owned (n := n) (f := f) (by simpa using hown) h.2.2
  have hb1 : Below w.heap.size w w1 := (Bel.upd (Bel.refl w).alloc (show Upd w.heap.size _ _ from hgrow) (Nat.le_refl _)).1
  obtain ⟨g, cap, rfl, hle, hcm, hgb, hrow⟩ := ho.2 (by omega)
  clear hown hgrow ho hnews
  have hf := h.2.2
  clear h
  go_wp2
  go_loopw [11] (fun i wr => ∃ k : Nat, k ≤ m ∧ i = .int .i64 k ∧ Upd g w1 wr ∧ RowAt wr g n (putF f a k v)) (fun i _ => m - (intOf i).toNat)
  case atStart => exact ⟨0, Nat.zero_le _, rfl, Upd.refl _ _, by rw [putF_zero]; exact hrow⟩
  case round =>
    obtain ⟨k, hk, rfl, hu, hr⟩ := hrel
    by_cases hlt : k < m
    · have cx := hr.cell (i := a + k) (by omega)
      have cf := hr.frozen (a + k)
      have hset := hr.set (k := a + k) (by omega) (v / (256 : Int) ^ k % 256) (by omega) (by omega)
      rw [← putF_succ] at hset
      have H := Lib.hid hset
      have hk4 : k = 0 ∨ k = 1 ∨ k = 2 ∨ k = 3 := by omega
      clear hset hr hrow hm
      rcases hk4 with rfl | rfl | rfl | rfl
      · simp only [Nat.add_zero] at cx cf
        go_wp2
        go_roundw
        case rel => exact ⟨1, by omega, rfl, Upd.setCell hu, by simpa using H.out⟩
        case measure => simp [intOf]; omega
      · go_wp2
        go_roundw
        case rel => exact ⟨2, by omega, rfl, Upd.setCell hu, by simpa using H.out⟩
        case measure => simp [intOf]; omega
      · go_wp2
        go_roundw
        case rel => exact ⟨3, by omega, rfl, Upd.setCell hu, by simpa using H.out⟩
        case measure => simp [intOf]; omega
      · go_wp2
        go_roundw
        case rel =>
          have e : v / 16777216 % 256 = v / 16777216 := by omega
          have h := H.out
          simp [e] at h
          exact ⟨4, by omega, rfl, Upd.setCell hu, by simpa using h⟩
        case measure => simp [intOf]; omega
    · obtain rfl : k = m := by omega
      clear hm
      go_wp2
      go_ret2
      exact ⟨g, cap, rfl, hle, hcm, hgb, hr, (Bel.upd (Bel.of (Bel.refl w) hb1) hu hgb).1⟩

theorem rput_out (p : Option Addr) (n c : Nat) (a m v : Int) (w : World) (h : ¬ inP n a m) (hn : n ≤ 140737488355328) (hm : (Lit.int .i64 m).wf = true) :
    Calls Try.prog 38 #[.slice p n c, .int .i64 a, .int .i64 m, .int .u32 v] w fun e w' => e = .returned (.tuple #[.slice none 0 0, .int .i64 1]) ∧ w = w' := by
  go_enter Try.func38, Try.ntmps38
  go_wp2_with (go_at_call 46; refine (rin_out _ _ _ _ _ _ h hn hm).mono ?_; rintro e w' ⟨rfl, rfl⟩)
  go_ret2
  exact ⟨rfl, rfl⟩

end Go.Proofs.Ytgcnmhlojfncpaa
