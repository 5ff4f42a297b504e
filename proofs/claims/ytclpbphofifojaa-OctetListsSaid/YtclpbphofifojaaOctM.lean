/- octet's Words. -/
import Derived.Test.YtclpbphofifojaaOctL
import Derived.Test.YtclpbphofifojaaWcmp
namespace Go.Proofs.Ytclpbphofifojaa
open Go.ChangeShapes Go.WideShapes Go.ChangeAt Go.RowKit
set_option linter.unusedVariables false

theorem Try.infoWord : (Try.prog.info? 26).map (fun i => (i.zero, i.size, i.bytes)) = some (some (.int .u32 0), 1, 4) := by kernel_rfl
def Owned32 (w : World) (B : Nat) (v : Value) (l : List Int) : Prop := w.ownsRow B 26 1 v l.length (l.map (Value.int .u32))

set_option maxHeartbeats 1000000 in
theorem words_any (p : Option Addr) (n c : Nat) (f : Nat → Int) (w : World) (h : SrcAt w p n f) (hnc : n ≤ c) (hn : n ≤ 140737488355328) :
    Calls Try.prog 25 #[.slice p n c] w fun e w' => ∃ v, e = .returned v ∧ Owned32 w' w.heap.size v (wordsOf f (n / 4)) ∧ Below w.heap.size w w' := by
  obtain ⟨i0, hi, hz0, hz1, hz2⟩ := info_parts Try.infoWord
  go_enter Try.func25, Try.ntmps25
  go_wp2
  go_loopw [3, 8] (fun v i wr => ∃ k : Nat, k ≤ n / 4 ∧ i = .int .i64 k ∧ Owned32 wr w.heap.size v (wordsOf f k) ∧ Below w.heap.size w wr) (fun _ i _ => n / 4 - (intOf i).toNat)
  case atStart => exact ⟨0, Nat.zero_le _, rfl, (by unfold Owned32 wordsOf; exact World.ownsRow_nil _ _ _ _), Below.refl _ _⟩
  case round =>
    obtain ⟨k, hk, rfl, hown, hbel⟩ := hrel
    have hle := wordsOf_length f k
    have hsz := hbel.size
    by_cases hlt : k < n / 4
    · obtain ⟨b, o, rfl, hb⟩ := (h.below hbel).2.2 (by omega)
      have hlt' : (k : Int) < (n : Int) / 4 := by omega
      have h4 : 4 * k + 4 ≤ n := by omega
      go_wp2_with (first
        | (go_at_call 40; refine (gather_any b o n (4 * k) 4 f _ hb (by omega) h4).mono ?_; rintro e w' ⟨rfl, rfl⟩)
        | (at_builtin; refine wpList_append_own _ rfl _ _ 47 rfl w.heap.size 26 i0 (.int .u32 0) 1 4 Try.underlying47 hi hz0 hz1 hz2 rfl (by decide) _ _ _ rfl (World.ownsRow.alloc hown _) ⟨wr.heap.size, 0, none⟩ 1 1 [.int .u32 (getV f (4 * k) 4)] rfl rfl ?c1 ?c2 ?c3 ?c4 ?c5 ?_))
      case c1 =>
        intro j u hj
        match j, hj with
        | 0, hj => simp at hj; subst hj; simp [Addr.add]
      case c2 => intro u hu; simp at hu; subst hu; rfl
      case c3 => unfold maxLen; omega
      case c4 => omega
      case c5 => simp; omega
      intro v' w1 hown' hgrow _
      go_wp2
      go_roundw
      case rel =>
        refine ⟨k + 1, by omega, by go_num, ?_, ?_⟩
        · unfold Owned32
          rw [wordsOf_succ]
          simpa [wordsOf_length] using hown'
        · exact ((Bel.append ⟨hbel, hsz⟩ hown hgrow)).1
      case measure => simp [intOf]; omega
    · obtain rfl : k = n / 4 := by omega
      have hge : ¬ ((n / 4 : Nat) : Int) < (n : Int) / 4 := by omega
      go_wp2
      go_ret
      exact ⟨_, rfl, hown, hbel⟩

end Go.Proofs.Ytclpbphofifojaa
