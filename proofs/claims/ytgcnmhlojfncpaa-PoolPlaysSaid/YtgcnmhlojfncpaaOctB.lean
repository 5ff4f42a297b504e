/- Contracts of octet and of its reference that only read. -/
import Derived.Test.YtgcnmhlojfncpaaOctA
import Derived.Test.YtgcnmhlojfncpaaKit
import Derived.Test.YtgcnmhlojfncpaaRows
namespace Go.Proofs.Ytgcnmhlojfncpaa
open Go.ChangeShapes Go.WideShapes Go.ChangeAt Go.RowKit
set_option linter.unusedVariables false

/-- n bytes lie in block b, from o on. -/
def BAt (w : World) (b o n : Nat) (f : Nat → Int) : Prop := HasYet w b ∧ (∀ i, i < n → w.cell? ⟨b, o + i, none⟩ = some (.int .u8 (f i))) ∧ Byt f
theorem BAt.below {w w' : World} {b o n : Nat} {f : Nat → Int} (h : BAt w b o n f) (hb : Below w.heap.size w w') : BAt w' b o n f :=
  ⟨Nat.lt_of_lt_of_le h.1 hb.size, fun i hi => (hb.cell (p := ⟨b, o + i, none⟩) h.1).trans (h.2.1 i hi), h.2.2⟩
theorem BAt.later {w : World} {b o n : Nat} {f : Nat → Int} {x : Lat w} (h : BAt w b o n f) : BAt (Proofs.Ytgcnmhlojfncpaa.later w x) b o n f := h.below (later_below w x)
theorem BAt.alloc {w : World} {b o n : Nat} {f : Nat → Int} {ob : Obj} (h : BAt w b o n f) : BAt (w.alloc ob) b o n f := h.below (Bel.refl w).alloc.1

theorem window_in (b o n c a m : Nat) (w : World) (hm : m = 1 ∨ m = 2 ∨ m = 4) (h : a + m ≤ n) (hc : n ≤ c) (hn : n ≤ 140737488355328) :
    Calls Try.prog 44 #[.slice (some ⟨b, o, none⟩) n c, .int .i64 a, .int .i64 m] w fun e w' => e = .returned (.tuple #[.slice (some ⟨b, o + a, none⟩) m m, .bool true]) ∧ w = w' := by
  have h1 : ¬ (a : Int) < 0 := by omega
  rcases hm with rfl | rfl | rfl
  all_goals
    go_enter Try.func44, Try.ntmps44
    go_wp2
    go_ret2
    exact ⟨rfl, rfl⟩

theorem window_out (p : Option Addr) (n c : Nat) (a m : Int) (w : World) (h : ¬ inP n a m) (hn : n ≤ 140737488355328) (hm : (Lit.int .i64 m).wf = true) :
    Calls Try.prog 44 #[.slice p n c, .int .i64 a, .int .i64 m] w fun e w' => e = .returned (.tuple #[.slice none 0 0, .bool false]) ∧ w = w' := by
  have bm := bounds_i64 hm
  obtain ⟨bm1, bm2⟩ := bm
  by_cases hw : m = 1 ∨ m = 2 ∨ m = 4
  · have hr : a < 0 ∨ (0 ≤ a ∧ (n : Int) < a) ∨ (0 ≤ a ∧ a ≤ n ∧ (n : Int) - a < m) := by
      unfold inP at h
      by_cases g1 : 0 ≤ a
      · by_cases g2 : a ≤ n
        · by_cases g3 : m ≤ (n : Int) - a
          · exact absurd ⟨hw, g1, g2, g3⟩ h
          · omega
        · omega
      · omega
    clear h hm
    rcases hw with rfl | rfl | rfl
    all_goals
      rcases hr with h1 | ⟨h1, h2⟩ | ⟨h1, h2, h3⟩
      all_goals
        go_enter Try.func44, Try.ntmps44
        go_wp2
        go_ret2
        exact ⟨rfl, rfl⟩
  · have e1 : (m != 1) = true := by simp; omega
    have e2 : (m != 2) = true := by simp; omega
    have e4 : (m != 4) = true := by simp; omega
    clear hw h hm
    go_enter Try.func44, Try.ntmps44
    go_wp2
    go_ret2
    exact ⟨rfl, rfl⟩

theorem rin_in (p : Option Addr) (n c a m : Nat) (w : World) (hm : m = 1 ∨ m = 2 ∨ m = 4) (h : a + m ≤ n) (hn : n ≤ 140737488355328) :
    Calls Try.prog 46 #[.slice p n c, .int .i64 a, .int .i64 m] w fun e w' => e = .returned (.bool true) ∧ w = w' := by
  have h1 : (0 : Int) ≤ a := by omega
  have h2 : (a : Int) ≤ n := by omega
  rcases hm with rfl | rfl | rfl
  all_goals
    go_enter Try.func46, Try.ntmps46
    go_wp2
    go_ret
    exact ⟨ret_bool (by first | rfl | (simp; done) | (simp; omega)), rfl⟩
theorem rin_out (p : Option Addr) (n c : Nat) (a m : Int) (w : World) (h : ¬ inP n a m) (hn : n ≤ 140737488355328) (hm : (Lit.int .i64 m).wf = true) :
    Calls Try.prog 46 #[.slice p n c, .int .i64 a, .int .i64 m] w fun e w' => e = .returned (.bool false) ∧ w = w' := by
  have bm := bounds_i64 hm
  obtain ⟨bm1, bm2⟩ := bm
  by_cases hw : m = 1 ∨ m = 2 ∨ m = 4
  · have hr : a < 0 ∨ (0 ≤ a ∧ (n : Int) < a) ∨ (0 ≤ a ∧ a ≤ n ∧ (n : Int) - a < m) := by
      unfold inP at h
      by_cases g1 : 0 ≤ a
      · by_cases g2 : a ≤ n
        · by_cases g3 : m ≤ (n : Int) - a
          · exact absurd ⟨hw, g1, g2, g3⟩ h
          · omega
        · omega
      · omega
    clear h hm
    rcases hw with rfl | rfl | rfl
    all_goals
      rcases hr with h1 | ⟨h1, h2⟩ | ⟨h1, h2, h3⟩
      all_goals
        go_enter Try.func46, Try.ntmps46
        go_wp2
        go_ret
        exact ⟨ret_bool (by first | rfl | (simp; done) | (simp; omega)), rfl⟩
  · have e1 : (m != 1) = true := by simp; omega
    have e2 : (m != 2) = true := by simp; omega
    have e4 : (m != 4) = true := by simp; omega
    clear hw h hm
    go_enter Try.func46, Try.ntmps46
    go_wp2
    go_ret
    exact ⟨rfl, rfl⟩

end Go.Proofs.Ytgcnmhlojfncpaa
