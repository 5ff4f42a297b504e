/- Contracts of octet and of its reference that only read. -/
import Derived.Test.YtclpbphofifojaaOctA
import Derived.Test.YtclpbphofifojaaKit
import Derived.Test.YtclpbphofifojaaRows
namespace Go.Proofs.Ytclpbphofifojaa
open Go.ChangeShapes Go.WideShapes Go.ChangeAt Go.RowKit
set_option linter.unusedVariables false

/-- n bytes lie in block b, from o on. -/
def BAt (w : World) (b o n : Nat) (f : Nat → Int) : Prop := HasYet w b ∧ (∀ i, i < n → w.cell? ⟨b, o + i, none⟩ = some (.int .u8 (f i))) ∧ Byt f
theorem BAt.below {w w' : World} {b o n : Nat} {f : Nat → Int} (h : BAt w b o n f) (hb : Below w.heap.size w w') : BAt w' b o n f :=
  ⟨Nat.lt_of_lt_of_le h.1 hb.size, fun i hi => (hb.cell (p := ⟨b, o + i, none⟩) h.1).trans (h.2.1 i hi), h.2.2⟩
theorem BAt.later {w : World} {b o n : Nat} {f : Nat → Int} {x : Lat w} (h : BAt w b o n f) : BAt (Proofs.Ytclpbphofifojaa.later w x) b o n f := h.below (later_below w x)
theorem BAt.alloc {w : World} {b o n : Nat} {f : Nat → Int} {ob : Obj} (h : BAt w b o n f) : BAt (w.alloc ob) b o n f := h.below (Bel.refl w).alloc.1

theorem window_in (b o n c a m : Nat) (w : World) (hm : m = 1 ∨ m = 2 ∨ m = 4) (h : a + m ≤ n) (hc : n ≤ c) (hn : n ≤ 140737488355328) :
    Calls Try.prog 39 #[.slice (some ⟨b, o, none⟩) n c, .int .i64 a, .int .i64 m] w fun e w' => e = .returned (.tuple #[.slice (some ⟨b, o + a, none⟩) m m, .bool true]) ∧ w = w' := by
  have h1 : ¬ (a : Int) < 0 := by omega
  rcases hm with rfl | rfl | rfl
  all_goals
    go_enter Try.func39, Try.ntmps39
    go_wp2
    go_ret2
    exact ⟨rfl, rfl⟩

theorem window_out (p : Option Addr) (n c : Nat) (a m : Int) (w : World) (h : ¬ inP n a m) (hn : n ≤ 140737488355328) (hm : (Lit.int .i64 m).wf = true) :
    Calls Try.prog 39 #[.slice p n c, .int .i64 a, .int .i64 m] w fun e w' => e = .returned (.tuple #[.slice none 0 0, .bool false]) ∧ w = w' := by
  have bm := bounds_i64 hm
  obtain ⟨bm1, bm2⟩ := bm
  by_cases hw : m = 1 ∨ m = 2 ∨ m = 4
  · have hr : a < 0 ∨ (0 ≤ a ∧ (n : Int) < a) ∨ (0 ≤ a ∧ a ≤ n ∧ (n : Int) - a < m) := by
      unfold inP at h
      by_cases g1 : 0 ≤ a
      · by_cases g2 : a ≤ n
        · by_cases g3 : m ≤ (n : Int) - a
          · exact absurd ⟨hw, g1, g2, g3⟩ h
          · omega
        · omega
      · omega
    clear h hm
    rcases hw with rfl | rfl | rfl
    all_goals
      rcases hr with h1 | ⟨h1, h2⟩ | ⟨h1, h2, h3⟩
      all_goals
        go_enter Try.func39, Try.ntmps39
        go_wp2
        go_ret2
        exact ⟨rfl, rfl⟩
  · have e1 : (m != 1) = true := by simp; omega
    have e2 : (m != 2) = true := by simp; omega
    have e4 : (m != 4) = true := by simp; omega
    clear hw h hm
    go_enter Try.func39, Try.ntmps39
    go_wp2
    go_ret2
    exact ⟨rfl, rfl⟩

set_option maxHeartbeats 1000000 in
theorem gather_any (b o n a m : Nat) (f : Nat → Int) (w : World) (h : BAt w b o n f) (hm : m ≤ 4) (ha : a + m ≤ n) :
    Calls Try.prog 40 #[.slice (some ⟨b, o + a, none⟩) m m] w fun e w' => e = .returned (.int .u32 (getV f a m)) ∧ w = w' := by
  obtain ⟨hb, hc, hf⟩ := h
  go_enter Try.func40, Try.ntmps40
  go_wp2
  go_loop [3, 7] (fun v i => ∃ k : Nat, k ≤ m ∧ i = .int .i64 k ∧ v = .int .u32 (getV f a k)) (fun _ i => m - (intOf i).toNat)
  case atStart => exact ⟨0, Nat.zero_le _, rfl, rfl⟩
  case round =>
    obtain ⟨k, hk, rfl, rfl⟩ := hrel
    have bv := getV_bound hf a k
    by_cases hlt : k < m
    · have cx := hc (a + k) (by omega)
      rw [← Nat.add_assoc] at cx
      have bx := hf (a + k)
      have hs := getV_succ f a k
      obtain ⟨V, hV⟩ : ∃ V, getV f a k = V := ⟨_, rfl⟩
      obtain ⟨x, hx⟩ : ∃ x, f (a + k) = x := ⟨_, rfl⟩
      rw [hV] at bv hs ⊢
      rw [hx] at bx hs cx
      obtain ⟨bv0, bv1⟩ := bv
      obtain ⟨bx0, bx1⟩ := bx
      have H := Lib.hid hs
      clear hs hV hx hc hf
      have hk4 : k = 0 ∨ k = 1 ∨ k = 2 ∨ k = 3 := by omega
      rcases hk4 with rfl | rfl | rfl | rfl
      · obtain rfl : V = 0 := by simp at bv1; omega
        simp only [Nat.add_zero] at cx
        have ho := or0 x bx0 bx1
        go_wp2
        go_round
        case rel => exact ⟨1, by omega, rfl, by rw [H.out]; simp⟩
        case measure => simp [intOf]; omega
      · have bv2 : V < 256 := by simpa using bv1
        have ho := or8 V x bv0 bv2 bx0 bx1
        go_wp2
        go_round
        case rel => exact ⟨2, by omega, rfl, by rw [H.out]; simp⟩
        case measure => simp [intOf]; omega
      · have bv2 : V < 65536 := by simpa using bv1
        have ho := or16 V x bv0 bv2 bx0 bx1
        go_wp2
        go_round
        case rel => exact ⟨3, by omega, rfl, by rw [H.out]; simp⟩
        case measure => simp [intOf]; omega
      · have bv2 : V < 16777216 := by simpa using bv1
        have ho := or24 V x bv0 bv2 bx0 bx1
        go_wp2
        go_round
        case rel => exact ⟨4, by omega, rfl, by rw [H.out]; simp⟩
        case measure => simp [intOf]; omega
    · obtain rfl : k = m := by omega
      go_wp2
      go_ret
      exact ⟨rfl, rfl⟩

theorem get_in (b o n c a m : Nat) (f : Nat → Int) (w : World) (h : BAt w b o n f) (hm : m = 1 ∨ m = 2 ∨ m = 4) (ha : a + m ≤ n) (hc : n ≤ c) (hn : n ≤ 140737488355328) :
    Calls Try.prog 16 #[.slice (some ⟨b, o, none⟩) n c, .int .i64 a, .int .i64 m] w fun e w' => e = .returned (.tuple #[.int .u32 (getV f a m), .int .i64 0]) ∧ w = w' := by
  go_enter Try.func16, Try.ntmps16
  go_wp2_with (first
    | (go_at_call 39; refine (window_in b o n c a m _ hm ha hc hn).mono ?_; rintro e w' ⟨rfl, rfl⟩)
    | (go_at_call 40; refine (gather_any b o n a m f _ h (by omega) ha).mono ?_; rintro e w' ⟨rfl, rfl⟩))
  go_ret2
  exact ⟨rfl, rfl⟩
theorem get_out (p : Option Addr) (n c : Nat) (a m : Int) (w : World) (h : ¬ inP n a m) (hn : n ≤ 140737488355328) (hm : (Lit.int .i64 m).wf = true) :
    Calls Try.prog 16 #[.slice p n c, .int .i64 a, .int .i64 m] w fun e w' => e = .returned (.tuple #[.int .u32 0, .int .i64 1]) ∧ w = w' := by
  go_enter Try.func16, Try.ntmps16
  go_wp2_with (go_at_call 39; refine (window_out _ _ _ _ _ _ h hn hm).mono ?_; rintro e w' ⟨rfl, rfl⟩)
  go_ret2
  exact ⟨rfl, rfl⟩

theorem rin_in (p : Option Addr) (n c a m : Nat) (w : World) (hm : m = 1 ∨ m = 2 ∨ m = 4) (h : a + m ≤ n) (hn : n ≤ 140737488355328) :
    Calls Try.prog 41 #[.slice p n c, .int .i64 a, .int .i64 m] w fun e w' => e = .returned (.bool true) ∧ w = w' := by
  have h1 : (0 : Int) ≤ a := by omega
  have h2 : (a : Int) ≤ n := by omega
  rcases hm with rfl | rfl | rfl
  all_goals
    go_enter Try.func41, Try.ntmps41
    go_wp2
    go_ret
    exact ⟨ret_bool (by first | rfl | (simp; done) | (simp; omega)), rfl⟩
theorem rin_out (p : Option Addr) (n c : Nat) (a m : Int) (w : World) (h : ¬ inP n a m) (hn : n ≤ 140737488355328) (hm : (Lit.int .i64 m).wf = true) :
    Calls Try.prog 41 #[.slice p n c, .int .i64 a, .int .i64 m] w fun e w' => e = .returned (.bool false) ∧ w = w' := by
  have bm := bounds_i64 hm
  obtain ⟨bm1, bm2⟩ := bm
  by_cases hw : m = 1 ∨ m = 2 ∨ m = 4
  · have hr : a < 0 ∨ (0 ≤ a ∧ (n : Int) < a) ∨ (0 ≤ a ∧ a ≤ n ∧ (n : Int) - a < m) := by
      unfold inP at h
      by_cases g1 : 0 ≤ a
      · by_cases g2 : a ≤ n
        · by_cases g3 : m ≤ (n : Int) - a
          · exact absurd ⟨hw, g1, g2, g3⟩ h
          · omega
        · omega
      · omega
    clear h hm
    rcases hw with rfl | rfl | rfl
    all_goals
      rcases hr with h1 | ⟨h1, h2⟩ | ⟨h1, h2, h3⟩
      all_goals
        go_enter Try.func41, Try.ntmps41
        go_wp2
        go_ret
        exact ⟨ret_bool (by first | rfl | (simp; done) | (simp; omega)), rfl⟩
  · have e1 : (m != 1) = true := by simp; omega
    have e2 : (m != 2) = true := by simp; omega
    have e4 : (m != 4) = true := by simp; omega
    clear hw h hm
    go_enter Try.func41, Try.ntmps41
    go_wp2
    go_ret
    exact ⟨rfl, rfl⟩

set_option maxHeartbeats 1000000 in
theorem rget_in (b o n c a m : Nat) (f : Nat → Int) (w : World) (h : BAt w b o n f) (hm : m = 1 ∨ m = 2 ∨ m = 4) (ha : a + m ≤ n) (hcn : n ≤ c) (hn : n ≤ 140737488355328) :
    Calls Try.prog 17 #[.slice (some ⟨b, o, none⟩) n c, .int .i64 a, .int .i64 m] w fun e w' => e = .returned (.tuple #[.int .u32 (getV f a m), .int .i64 0]) ∧ w = w' := by
  obtain ⟨hb, hc, hf⟩ := h
  go_enter Try.func17, Try.ntmps17
  go_wp2_with (go_at_call 41; refine (rin_in _ n c a m _ hm ha hn).mono ?_; rintro e w' ⟨rfl, rfl⟩)
  go_loop [8, 9] (fun v i => ∃ k : Nat, k ≤ m ∧ i = .int .i64 k ∧ v = .int .u32 (getV f a k)) (fun _ i => m - (intOf i).toNat)
  case atStart => exact ⟨0, Nat.zero_le _, rfl, rfl⟩
  case round =>
    obtain ⟨k, hk, rfl, rfl⟩ := hrel
    have bv := getV_bound hf a k
    by_cases hlt : k < m
    · have cx := hc (a + k) (by omega)
      have bx := hf (a + k)
      have hs := getV_succ f a k
      obtain ⟨V, hV⟩ : ∃ V, getV f a k = V := ⟨_, rfl⟩
      obtain ⟨x, hx⟩ : ∃ x, f (a + k) = x := ⟨_, rfl⟩
      rw [hV] at bv hs ⊢
      rw [hx] at bx hs cx
      obtain ⟨bv0, bv1⟩ := bv
      obtain ⟨bx0, bx1⟩ := bx
      have H := Lib.hid hs
      have hm4 : m ≤ 4 := by omega
      clear hs hV hx hc hf hm
      have hk4 : k = 0 ∨ k = 1 ∨ k = 2 ∨ k = 3 := by omega
      rcases hk4 with rfl | rfl | rfl | rfl
      · obtain rfl : V = 0 := by simp at bv1; omega
        simp only [Nat.add_zero] at cx
        go_wp2
        go_round
        case rel => exact ⟨1, by omega, rfl, by rw [H.out]; simp⟩
        case measure => simp [intOf]; omega
      · have bv2 : V < 256 := by simpa using bv1
        go_wp2
        go_round
        case rel => exact ⟨2, by omega, rfl, by rw [H.out]; simp⟩
        case measure => simp [intOf]; omega
      · have bv2 : V < 65536 := by simpa using bv1
        go_wp2
        go_round
        case rel => exact ⟨3, by omega, rfl, by rw [H.out]; simp⟩
        case measure => simp [intOf]; omega
      · have bv2 : V < 16777216 := by simpa using bv1
        go_wp2
        go_round
        case rel => exact ⟨4, by omega, rfl, by rw [H.out]; simp⟩
        case measure => simp [intOf]; omega
    · obtain rfl : k = m := by omega
      clear hm
      go_wp2
      go_ret2
      exact ⟨rfl, rfl⟩
theorem rget_out (p : Option Addr) (n c : Nat) (a m : Int) (w : World) (h : ¬ inP n a m) (hn : n ≤ 140737488355328) (hm : (Lit.int .i64 m).wf = true) :
    Calls Try.prog 17 #[.slice p n c, .int .i64 a, .int .i64 m] w fun e w' => e = .returned (.tuple #[.int .u32 0, .int .i64 1]) ∧ w = w' := by
  go_enter Try.func17, Try.ntmps17
  go_wp2_with (go_at_call 41; refine (rin_out _ _ _ _ _ _ h hn hm).mono ?_; rintro e w' ⟨rfl, rfl⟩)
  go_ret2
  exact ⟨rfl, rfl⟩

end Go.Proofs.Ytclpbphofifojaa
