/- Contracts of gmap at a map that nobody made. -/
import Derived.Test.YtkicmdflflknaaaG15
namespace Go.Proofs.Ytkicmdflflknaaa
open Go.ChangeShapes Go.WideShapes Go.ChangeAt Go.RowKit
set_option linter.unusedVariables false

def ZeroGmap (w : World) (p : Option Addr) : Prop := p = none ∨ ∃ b, p = some ⟨b, 0, none⟩ ∧ w.cell? ⟨b, 24, none⟩ = some (.bool false)
theorem ZeroGmap.nil (w : World) : ZeroGmap w none := .inl rfl
theorem ZeroGmap.alloc {w : World} {p : Option Addr} {o : Obj} (h : ZeroGmap w p) : ZeroGmap (w.alloc o) p := by
  rcases h with rfl | ⟨b, rfl, hc⟩
  · exact .inl rfl
  · exact .inr ⟨b, rfl, by rw [alloc_old_cell _ _ _ (block_lt_of_cell hc)]; exact hc⟩

theorem gnone_zero (p : Option Addr) (w : World) (h : ZeroGmap w p) : Calls Try.prog 36 #[.pointer p] w fun e w' => e = .returned (.bool true) ∧ w = w' := by
  rcases h with rfl | ⟨b, rfl, hc⟩
  all_goals
    go_enter Try.func36, Try.ntmps36
    go_wp2
    go_ret
    exact ⟨rfl, rfl⟩

theorem gset_zero (p : Option Addr) (n fr ri : Int) (w : World) (h : ZeroGmap w p) : Calls Try.prog 16 #[.pointer p, .int .i64 n, .agg #[.int .i64 fr, .int .i64 ri]] w fun e w' => e = .returned (.int .i64 7) ∧ Below w.heap.size w w' := by
  go_enter Try.func16, Try.ntmps16
  go_wp2_with (go_at_call 36; refine (gnone_zero _ _ h.alloc).mono ?_; rintro e w' ⟨rfl, rfl⟩)
  go_ret
  exact ⟨rfl, (by refine (?_ : Bel _ _ _).1; repeat (first | exact Bel.refl _ | apply Bel.later | apply Bel.alloc | apply Bel.drew | (refine Bel.laterB ?_ (by first | omega | (simp; omega) | simp))))⟩

theorem gdrop_zero (p : Option Addr) (n : Int) (w : World) (h : ZeroGmap w p) : Calls Try.prog 20 #[.pointer p, .int .i64 n] w fun e w' => e = .returned (.int .i64 7) ∧ w = w' := by
  go_enter Try.func20, Try.ntmps20
  go_wp2_with (go_at_call 36; refine (gnone_zero _ _ h).mono ?_; rintro e w' ⟨rfl, rfl⟩)
  go_ret
  exact ⟨rfl, rfl⟩

theorem gget_zero (p : Option Addr) (n : Int) (w : World) (h : ZeroGmap w p) : Calls Try.prog 17 #[.pointer p, .int .i64 n] w fun e w' => e = .returned (.tuple #[.agg #[.int .i64 0, .int .i64 0], .bool false]) ∧ Below w.heap.size w w' := by
  go_enter Try.func17, Try.ntmps17
  go_wp2_with (go_at_call 36; refine (gnone_zero _ _ h.alloc).mono ?_; rintro e w' ⟨rfl, rfl⟩)
  exact bodyPost_ret (v := .tuple #[.agg #[.int .i64 0, .int .i64 0], .bool false]) (by simp [results, Try.results17, go_sem]) rfl ⟨rfl, (by refine (?_ : Bel _ _ _).1; repeat (first | exact Bel.refl _ | apply Bel.later | apply Bel.alloc | apply Bel.drew | (refine Bel.laterB ?_ (by first | omega | (simp; omega) | simp))))⟩

theorem gpages_zero (p : Option Addr) (w : World) (h : ZeroGmap w p) : Calls Try.prog 21 #[.pointer p] w fun e w' => e = .returned (.slice none 0 0) ∧ w = w' := by
  go_enter Try.func21, Try.ntmps21
  go_wp2_with (go_at_call 36; refine (gnone_zero _ _ h).mono ?_; rintro e w' ⟨rfl, rfl⟩)
  go_ret
  exact ⟨rfl, rfl⟩

theorem gallows_zero (p : Option Addr) (n k : Int) (w : World) (h : ZeroGmap w p) : Calls Try.prog 18 #[.pointer p, .int .i64 n, .int .i64 k] w fun e w' => e = .returned (.int .i64 7) ∧ Below w.heap.size w w' := by
  go_enter Try.func18, Try.ntmps18
  go_wp2_with (go_at_call 17; refine (Calls.lat (gget_zero _ _ _ h)).mono ?_; rintro e w' ⟨rfl, x, rfl⟩)
  go_ret
  exact ⟨rfl, (by refine (?_ : Bel _ _ _).1; repeat (first | exact Bel.refl _ | apply Bel.later | apply Bel.alloc | apply Bel.drew | (refine Bel.laterB ?_ (by first | omega | (simp; omega) | simp))))⟩

end Go.Proofs.Ytkicmdflflknaaa
