/- The law package's ints: are two slices of integers the same? -/
import Derived.Test.YthppjkpejnaocaaRows
import Derived.Test.YthppjkpejnaocaaKit
namespace Go.Proofs.Ythppjkpejnaocaa
open Go.ChangeShapes Go.WideShapes Go.ChangeAt Go.RowKit
set_option linter.unusedVariables false

theorem getD_of {l : List Int} {i : Nat} (h : i < l.length) : l[i]?.getD 0 = l[i] := by simp [List.getElem?_eq_getElem h]

theorem eq_of_all {l m : List Int} (h : l.length = m.length) (ha : ∀ i, i < l.length → l.getD i 0 = m.getD i 0) : l = m := by
  apply List.ext_getElem h
  intro i h1 h2
  have := ha i h1
  simpa [List.getD, List.getElem?_eq_getElem h1, List.getElem?_eq_getElem h2] using this

set_option maxHeartbeats 400000 in
theorem ints_any (a b : Option Addr) (n m c d : Nat) (l l' : List Int) (w : World) (h : IntsAt .i64 w a n l) (h' : IntsAt .i64 w b m l') (hn : n ≤ 9223372036854775807) (hm : m ≤ 9223372036854775807) :
    Calls Try.prog 22 #[.slice a n c, .slice b m d] w fun e w' => e = .returned (.bool (l == l')) ∧ Below w.heap.size w w' := by
  by_cases hnm : n = m
  · subst hnm
    obtain ⟨hl, ha⟩ := h
    obtain ⟨hl', hb⟩ := h'
    rcases Nat.eq_zero_or_pos n with h0 | hpos
    · subst h0
      obtain rfl : l = [] := List.eq_nil_of_length_eq_zero hl
      obtain rfl : l' = [] := List.eq_nil_of_length_eq_zero hl'
      clear ha hb hl hl'
      go_enter Try.func22, Try.ntmps22
      go_wp2
      refine wp_loop_rounds 1 ?_
      rw [rounds_succ]
      go_wp2
      go_ret
      exact ⟨rfl, Below.refl _ _⟩
    · obtain ⟨g, o, rfl, hg, hc⟩ := ha hpos
      obtain ⟨g', o', rfl, hg', hc'⟩ := hb hpos
      clear ha hb
      have Hl := Lib.hid hl
      have Hl' := Lib.hid hl'
      clear hl hl'
      go_enter Try.func22, Try.ntmps22
      go_wp2
      go_loopw [5] (fun i wr => ∃ k : Nat, k ≤ n ∧ i = .int .i64 k ∧ (∀ j, j < k → l.getD j 0 = l'.getD j 0) ∧ ∃ q, wr = w.drewN q) (fun i _ => n - (intOf i).toNat)
      case atStart => exact ⟨0, Nat.zero_le _, rfl, fun j hj => absurd hj (Nat.not_lt_zero _), 0, rfl⟩
      case round =>
        obtain ⟨k, hk, rfl, hsame, q, rfl⟩ := hrel
        have Hs := Lib.hid hsame
        clear hsame
        by_cases hlt : k < n
        · have c1 := hc k hlt
          have c2 := hc' k hlt
          clear hc hc'
          go_wp2_with fail
          go_quiet (fail)
          go_wp2
          · go_ret
            have hd : (l[k]?.getD 0 != l'[k]?.getD 0) = true := by assumption
            refine ⟨ret_bool ?_, ⟨rfl, rfl, rfl, Nat.le_refl _, fun _ _ => rfl⟩⟩
            symm
            rw [beq_eq_false_iff_ne]
            rintro rfl
            simp at hd
          · have hd : (l[k]?.getD 0 != l'[k]?.getD 0) = false := by assumption
            go_roundw
            case rel =>
              refine ⟨k + 1, by omega, by go_num, fun j hj => ?_, _, rfl⟩
              by_cases hjk : j = k
              · subst hjk
                simpa [List.getD] using hd
              · exact Hs.out j (by omega)
            case measure => simp [intOf]; omega
        · obtain rfl : k = n := by omega
          go_wp2
          go_ret
          refine ⟨ret_bool ?_, ⟨rfl, rfl, rfl, Nat.le_refl _, fun _ _ => rfl⟩⟩
          rw [eq_of_all (l := l) (m := l') (by rw [Hl.out, Hl'.out]) (fun i hi => Hs.out i (by rw [Hl.out] at hi; exact hi))]
          simp
  · have hne : ((n : Int) != (m : Int)) = true := by simp; omega
    go_enter Try.func22, Try.ntmps22
    go_wp2
    go_ret
    refine ⟨ret_bool ?_, Below.refl _ _⟩
    symm
    rw [beq_eq_false_iff_ne]
    rintro rfl
    exact hnm (h.1.symm.trans h'.1)

end Go.Proofs.Ythppjkpejnaocaa
