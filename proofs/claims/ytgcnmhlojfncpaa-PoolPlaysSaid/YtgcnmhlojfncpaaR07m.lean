/- The reference's pool: its methods. -/
import Derived.Test.YtgcnmhlojfncpaaR07n
namespace Go.Proofs.Ytgcnmhlojfncpaa
open Go.ChangeShapes Go.WideShapes Go.ChangeAt Go.RowKit
set_option linter.unusedVariables false

section
variable {q t rb n : Nat} {G : Nat → Int} {uv tv : Value} {S : List stIt}
theorem rpOwnNo (f who : Int) (w : World) (h : RPlAt w q t rb n G uv tv S) (hf : (Lit.int .i64 f).wf = true) (hno : f < 0 ∨ (n : Int) ≤ f ∨ who < 0 ∨ 16 ≤ who) :
    Calls Try.prog 18 #[.pointer (some ⟨q, 0, none⟩), .int .i64 f, .int .i64 who] w fun e w' => e = .returned (.int .i64 1) ∧ w = w' := by
  have h0 := h.cell0
  by_cases hin : f < 0 ∨ (n : Int) ≤ f
  · clear hno
    go_enter Try.func18, Try.ntmps18
    go_wp2_with fail
    refine (is_no t rb n f G _ h.sto hf hin).mono ?_
    rintro e w' ⟨rfl, rfl⟩
    go_wp2
    go_ret
    exact ⟨rfl, rfl⟩
  · obtain ⟨k, rfl⟩ : ∃ k : Nat, f = k := ⟨f.toNat, by omega⟩
    have hk : k < n := by omega
    have hw : who < 0 ∨ ¬ who < 0 ∧ 16 ≤ who := by omega
    clear hno hin
    rcases hw with hw | ⟨hw, hw2⟩
    all_goals
      go_enter Try.func18, Try.ntmps18
      go_wp2_with fail
      refine (is_yes t rb n k G _ h.sto hk).mono ?_
      rintro e w' ⟨rfl, rfl⟩
      go_wp2
      go_ret
      exact ⟨rfl, rfl⟩
theorem rpOwnUsed (f g : Nat) (w : World) (h : RPlAt w q t rb n G uv tv S) (hf : f < n) (hg : g < 16) (hw : (atL S f).who ≠ -1) :
    Calls Try.prog 18 #[.pointer (some ⟨q, 0, none⟩), .int .i64 f, .int .i64 g] w fun e w' => e = .returned (.int .i64 5) ∧ w = w' := by
  have h0 := h.cell0
  have h1 := h.cell1
  obtain ⟨gw, cap, rfl, hc1, hc2, hgl, hc, hfz⟩ := h.itemW hf
  have hcf := hc f hf
  have hge : (atL S f).who ≥ 0 := by
    rcases h.who f hf with hx | ⟨k, hk, hx⟩
    · exact absurd hx.1 hw
    · omega
  generalize (atL S f).who = x at *
  clear hc hw
  go_enter Try.func18, Try.ntmps18
  go_wp2_with fail
  refine (is_yes t rb n f G _ h.sto hf).mono ?_
  rintro e w' ⟨rfl, rfl⟩
  go_wp2
  go_ret
  exact ⟨rfl, rfl⟩
theorem rpOwn (f g : Nat) (w : World) (h : RPlAt w q t rb n G uv tv S) (hf : f < n) (hg : g < 16) (hw : (atL S f).who = -1) :
    Calls Try.prog 18 #[.pointer (some ⟨q, 0, none⟩), .int .i64 f, .int .i64 g] w fun e w' => e = .returned (.int .i64 0) ∧ RPlAt w' q t rb n (putF G (f * 64) 64 0) uv tv (S.set f ⟨g, false⟩) ∧ Frs (tchR rb uv tv) w w' := by
  have h0 := h.cell0
  have h1 := h.cell1
  have htk : (atL S f).tk = false := by
    rcases h.who f hf with hx | ⟨k, hk, hx⟩
    · exact hx.2
    · omega
  obtain ⟨gw, cap, hv, hc1, hc2, hgl, hc, hfz⟩ := h.itemW hf
  have hcf := hc f hf
  rw [hw] at hcf
  have hfzf := hfz f
  have hS := h.setWho (x := ⟨(g : Nat), false⟩) hf hv (by rw [htk]) ⟨g, hg, rfl⟩
  have hF : Frs (tchR rb uv tv) w (w.setCell ⟨gw, f, none⟩ (.int .i64 g)) := Frs.of_upd ((Upd.refl gw w).setCell) (.inr (.inl (by rw [hv]; rfl)))
  have hsto := h.sto
  have hq0 := hS.cell0
  have hHF := Lib.hid hF
  rw [hv] at h1
  clear hc hfz h hF
  have hHS := Lib.hid hS
  clear hS
  go_enter Try.func18, Try.ntmps18
  go_wp2_with fail
  refine (is_yes t rb n f G _ hsto hf).mono ?_
  rintro e w' ⟨rfl, rfl⟩
  go_wp2_with fail
  refine (rclear_in t rb n f G _ hHS.out.sto hf).mono ?_
  rintro e w' ⟨rfl, u2, s2⟩
  go_wp2
  go_ret
  exact ⟨rfl, hHS.out.stored (by omega) u2 s2, hHF.out.trans (Frs.of_upd u2 (.inl rfl))⟩
theorem rpBackNo (f : Int) (w : World) (h : RPlAt w q t rb n G uv tv S) (hf : (Lit.int .i64 f).wf = true) (hno : f < 0 ∨ (n : Int) ≤ f) :
    Calls Try.prog 20 #[.pointer (some ⟨q, 0, none⟩), .int .i64 f] w fun e w' => e = .returned (.int .i64 1) ∧ w = w' := by
  have h0 := h.cell0
  go_enter Try.func20, Try.ntmps20
  go_wp2_with fail
  refine (is_no t rb n f G _ h.sto hf hno).mono ?_
  rintro e w' ⟨rfl, rfl⟩
  go_wp2
  go_ret
  exact ⟨rfl, rfl⟩
theorem rpBackFree (f : Nat) (w : World) (h : RPlAt w q t rb n G uv tv S) (hf : f < n) (ht : (atL S f).tk = false) :
    Calls Try.prog 20 #[.pointer (some ⟨q, 0, none⟩), .int .i64 f] w fun e w' => e = .returned (.int .i64 3) ∧ w = w' := by
  have h0 := h.cell0
  have h2 := h.cell2
  obtain ⟨gw, cap, rfl, hc1, hc2, hgl, hc, hfz⟩ := h.itemT hf
  have hcf := hc f hf
  rw [ht] at hcf
  clear hc
  go_enter Try.func20, Try.ntmps20
  go_wp2_with fail
  refine (is_yes t rb n f G _ h.sto hf).mono ?_
  rintro e w' ⟨rfl, rfl⟩
  go_wp2
  go_ret
  exact ⟨rfl, rfl⟩
theorem rpBack (f g : Nat) (w : World) (h : RPlAt w q t rb n G uv tv S) (hf : f < n) (hg : g < 16) (hw : (atL S f).who = g) (ht : (atL S f).tk = true) :
    Calls Try.prog 20 #[.pointer (some ⟨q, 0, none⟩), .int .i64 f] w fun e w' => e = .returned (.int .i64 0) ∧ RPlAt w' q t rb n (putF G (f * 64) 64 0) uv tv (S.set f ⟨g, false⟩) ∧ Frs (tchR rb uv tv) w w' := by
  have h0 := h.cell0
  have h2 := h.cell2
  obtain ⟨gw, cap, hv, hc1, hc2, hgl, hc, hfz⟩ := h.itemT hf
  have hcf := hc f hf
  rw [ht] at hcf
  have hfzf := hfz f
  have hS := h.setTk (x := ⟨(g : Nat), false⟩) hf hv (by rw [hw]) ⟨g, hg, rfl⟩
  have hF : Frs (tchR rb uv tv) w (w.setCell ⟨gw, f, none⟩ (.bool false)) := Frs.of_upd ((Upd.refl gw w).setCell) (.inr (.inr (by rw [hv]; rfl)))
  have hsto := h.sto
  have hq0 := hS.cell0
  have hHF := Lib.hid hF
  rw [hv] at h2
  clear hc hfz h hF
  have hHS := Lib.hid hS
  clear hS
  go_enter Try.func20, Try.ntmps20
  go_wp2_with fail
  refine (is_yes t rb n f G _ hsto hf).mono ?_
  rintro e w' ⟨rfl, rfl⟩
  go_wp2_with fail
  refine (rclear_in t rb n f G _ hHS.out.sto hf).mono ?_
  rintro e w' ⟨rfl, u2, s2⟩
  go_wp2
  go_ret
  exact ⟨rfl, hHS.out.stored (by omega) u2 s2, hHF.out.trans (Frs.of_upd u2 (.inl rfl))⟩
theorem rpOfNo (f : Int) (w : World) (h : RPlAt w q t rb n G uv tv S) (hf : (Lit.int .i64 f).wf = true) (hno : f < 0 ∨ (n : Int) ≤ f) :
    Calls Try.prog 23 #[.pointer (some ⟨q, 0, none⟩), .int .i64 f] w fun e w' => e = .returned (.tuple #[.int .i64 0, .bool false]) ∧ w = w' := by
  have h0 := h.cell0
  go_enter Try.func23, Try.ntmps23
  go_wp2_with fail
  refine (is_no t rb n f G _ h.sto hf hno).mono ?_
  rintro e w' ⟨rfl, rfl⟩
  go_wp2
  go_ret2
  exact ⟨rfl, rfl⟩
theorem rpOfNobody (f : Nat) (w : World) (h : RPlAt w q t rb n G uv tv S) (hf : f < n) (hw : (atL S f).who = -1) :
    Calls Try.prog 23 #[.pointer (some ⟨q, 0, none⟩), .int .i64 f] w fun e w' => e = .returned (.tuple #[.int .i64 0, .bool false]) ∧ w = w' := by
  have h0 := h.cell0
  have h1 := h.cell1
  obtain ⟨gw, cap, rfl, hc1, hc2, hgl, hc, hfz⟩ := h.itemW hf
  have hcf := hc f hf
  rw [hw] at hcf
  clear hc
  go_enter Try.func23, Try.ntmps23
  go_wp2_with fail
  refine (is_yes t rb n f G _ h.sto hf).mono ?_
  rintro e w' ⟨rfl, rfl⟩
  go_wp2
  go_ret2
  exact ⟨rfl, rfl⟩
theorem rpOf (f g : Nat) (w : World) (h : RPlAt w q t rb n G uv tv S) (hf : f < n) (hw : (atL S f).who = g) :
    Calls Try.prog 23 #[.pointer (some ⟨q, 0, none⟩), .int .i64 f] w fun e w' => e = .returned (.tuple #[.int .i64 g, .bool true]) ∧ w = w' := by
  have h0 := h.cell0
  have h1 := h.cell1
  obtain ⟨gw, cap, rfl, hc1, hc2, hgl, hc, hfz⟩ := h.itemW hf
  have hcf := hc f hf
  rw [hw] at hcf
  clear hc
  have hng : ¬ (g : Int) < 0 := by omega
  go_enter Try.func23, Try.ntmps23
  go_wp2_with fail
  refine (is_yes t rb n f G _ h.sto hf).mono ?_
  rintro e w' ⟨rfl, rfl⟩
  go_wp2
  go_ret2
  exact ⟨rfl, rfl⟩
theorem rpTakeBad (g : Int) (w : World) (h : RPlAt w q t rb n G uv tv S) (hg : g < 0 ∨ 16 ≤ g) :
    Calls Try.prog 19 #[.pointer (some ⟨q, 0, none⟩), .int .i64 g] w fun e w' => e = .returned (.tuple #[.int .i64 0, .int .i64 1]) ∧ w = w' := by
  have hw : g < 0 ∨ ¬ g < 0 ∧ 16 ≤ g := by omega
  clear hg h
  rcases hw with hw | ⟨hw, hw2⟩
  all_goals
    go_enter Try.func19, Try.ntmps19
    go_wp2
    go_ret2
    exact ⟨rfl, rfl⟩
end
end Go.Proofs.Ytgcnmhlojfncpaa
