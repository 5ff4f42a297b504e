/- container/heap over a row: up. -/
import Derived.Test.YtgcnmhlojfncpaaPpop
namespace Go.Proofs.Ytgcnmhlojfncpaa
open Go.ChangeShapes Go.WideShapes Go.ChangeAt Go.RowKit
set_option linter.unusedVariables false
variable {o : Nat}

set_option maxRecDepth 20000 in
theorem plUp (b : Nat) (blk : Value → Array Value) (v : Value) (l : List plIt) (j : Nat) (w : World) (hb : BlkOk blk o) (h : plRow w b blk v l) (hj : j < l.length) (hn : l.length ≤ 1000000) :
    Calls Try.prog 47 #[.iface 72 (.pointer (some ⟨b, o, none⟩)), .int .i64 j] w fun e w' => e = .returned (.tuple #[]) ∧ plRow w' b blk v (upL plLt j l j) ∧ Frm b v v w w' := by
  go_enter Try.func47, Try.ntmps47
  go_wp2
  go_loopw [1] (fun i wr => ∃ (j' : Nat) (l' : List plIt) (f : Nat), i = .int .i64 j' ∧ j' ≤ f ∧ upL plLt f l' j' = upL plLt j l j ∧ j' < l.length ∧ l'.length = l.length ∧ plRow wr b blk v l' ∧ Frm b v v w wr) (fun i _ => (intOf i).toNat)
  case atStart => exact ⟨j, l, j, rfl, Nat.le_refl _, rfl, hj, rfl, h, Frm.refl _ _ _⟩
  case round =>
    obtain ⟨j', l', f, rfl, hf, hu, hj', hl', hr, hF⟩ := hrel
    obtain ⟨p, hp⟩ : ∃ p, par j' = p := ⟨_, rfl⟩
    have hpar : Int.tdiv ((j' : Int) - 1) 2 = (p : Nat) := by
      rw [← hp]
      unfold par
      rcases Nat.eq_zero_or_pos j' with rfl | hp
      · rfl
      · rw [Int.tdiv_eq_ediv_of_nonneg (by omega)]; omega
    have hpj : p ≤ j' ∧ (p = j' → j' = 0) := by rw [← hp]; unfold par; omega
    have hp' := Lib.hid hp
    clear hp
    have hmL : ∀ w' : World, (method 210 72 (.pointer (some ⟨b, o, none⟩)) "Less").run Try.prog w' = .ok (64, .pointer (some ⟨b, o, none⟩)) w' := fun _ => by kernel_rfl
    have hmS : ∀ w' : World, (method 210 72 (.pointer (some ⟨b, o, none⟩)) "Swap").run Try.prog w' = .ok (67, .pointer (some ⟨b, o, none⟩)) w' := fun _ => by kernel_rfl
    by_cases hz : p = j'
    · obtain rfl := hpj.2 hz
      subst hz
      go_wp2_with fail
      have hd : l' = upL plLt j l j := by
        rw [← hu]
        cases f with
        | zero => rfl
        | succ f => simp [upL, par]
      go_end0
      exact ⟨rfl, by rw [← hd]; exact hr, hF⟩
    · have hlt : p < j' := by omega
      have hz' : ¬ (p : Int) = j' := by omega
      obtain ⟨f, rfl⟩ : ∃ f', f = f' + 1 := ⟨f - 1, by omega⟩
      have hne : ¬ par j' = j' := by rw [hp'.out]; omega
      cases ht : plLt (atL l' j') (atL l' p)
      · have hd : l' = upL plLt j l j := by
          rw [← hu, upL, if_neg hne, hp'.out, if_neg (by simp [ht])]
        clear hne hu
        go_wp2_with (first
          | (go_at_call 64; refine (plLess b blk v l' j' p _ hb hr (by omega) (by omega)).mono ?_; rintro e w1 ⟨rfl, hb1⟩; rw [ht]))
        go_end0
        exact ⟨rfl, by rw [← hd]; exact hr.below hb1, hF.trans (.of_below hb1)⟩
      · have hd : upL plLt f (swapL l' p j') p = upL plLt j l j := by
          rw [← hu, upL, if_neg hne, hp'.out, if_pos (by simp [ht])]
        clear hne hu
        go_wp2_with (first
          | (go_at_call 64; refine (plLess b blk v l' j' p _ hb hr (by omega) (by omega)).mono ?_; rintro e w1 ⟨rfl, hb1⟩; rw [ht]))
        have hr1 := hr.below hb1
        refine (plSwap b blk v l' p j' _ hb hr1 (by omega) (by omega)).mono ?_
        rintro e w2 ⟨rfl, hr2, hF2⟩
        go_wp2
        go_roundw
        case rel => exact ⟨p, _, f, rfl, by omega, hd, by omega, (swapL_length _ _ _).trans hl', hr2, (hF.trans (.of_below hb1)).trans hF2⟩
        case measure => simp [intOf]; omega
end Go.Proofs.Ytgcnmhlojfncpaa
