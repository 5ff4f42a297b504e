/- law 29: awake. -/
import Derived.Test.YtjlhdbkhebfghaaTmc
namespace Go.Proofs.Ytjlhdbkhebfghaa
open Go.ChangeShapes Go.WideShapes Go.ChangeAt Go.RowKit
set_option linter.unusedVariables false

theorem Fired.filter {n : Int} {l xs l' : List trIt} (h : Fired n l xs l') (hr : ∀ y ∈ l', n < y.due) : xs.Perm (l.filter fun x => decide (x.due ≤ n)) := by
  have h1 := h.perm.filter (fun x => decide (x.due ≤ n))
  rw [List.filter_append, List.filter_eq_self.2 (fun x hx => by simpa using h.due x hx), List.filter_eq_nil_iff.2 (fun x hx => by have := hr x hx; simp; omega), List.append_nil] at h1
  exact h1
/-- A row of one number, in cells. -/
theorem ownsRow_first {w : World} {B n : Nat} {e : TypeId} {v x : Value} {xs : List Value} (h : w.ownsRow B e 1 v n (x :: xs)) : ∃ g cap, v = .slice (some ⟨g, 0, none⟩) n cap ∧ w.cell? ⟨g, 0, none⟩ = some x := by
  obtain ⟨hl, h2⟩ := h
  rcases h2 with ⟨_, h0⟩ | ⟨g, cap, cur, hv, hb, hg, hle, hm, hs, ht⟩
  · subst h0; simp at hl
  · refine ⟨g, cap, hv, ?_⟩
    have h0 : (cur.toList.take (n * 1))[0]? = some x := by rw [ht]; rfl
    have hn : 0 < n * 1 := by simp at hl; omega
    rw [List.getElem?_take, if_pos hn, Array.getElem?_toList] at h0
    simp [World.cell?, hg, h0]

set_option maxRecDepth 20000 in
set_option maxHeartbeats 1000000 in
theorem awake29 (w : World) : Calls Try.prog 16 #[] w fun e w' => e = .returned (.bool true) ∧ Below w.heap.size w w' := by
  go_enter Try.func16, Try.ntmps16
  go_wp2_with fail
  refine (tmNew _).mono ?_
  rintro e w1 ⟨rfl, b1, t1⟩
  go_wp2_with fail
  refine (tmArm _ 0 _ _ _ 5 0 _ t1 (by omega) rfl (by omega) (by omega) (by simp)).mono ?_
  rintro e w2 ⟨rfl, v2, l2, t2, p2, f2⟩
  have e2 : l2 = [⟨5, 1, 0⟩] := List.perm_singleton.1 p2
  subst e2
  go_wp2_with fail
  refine (tmArm _ _ _ _ _ 3 1 _ t2 (by omega) rfl (by omega) (by omega) (by simp)).mono ?_
  rintro e w3 ⟨rfl, v3, l3, t3, p3, f3⟩
  have hmem : ∀ x ∈ l3, ∃ k : Nat, k < 4 ∧ x.id = k := fun x hx => by
    have := p3.subset hx
    simp only [List.cons_append, List.nil_append, List.mem_cons, List.not_mem_nil, or_false] at this
    rcases this with rfl | rfl
    · exact ⟨0, by omega, rfl⟩
    · exact ⟨1, by omega, rfl⟩
  have hl3 := p3.length_eq
  go_wp2_with fail
  refine (tmFire _ _ _ _ _ 4 _ t3 hmem (by rw [hl3]; simp)).mono ?_
  rintro e w4 ⟨out, xs, l4, v4, rfl, hF, hr, t4, o4, f4⟩
  have hx := (hF.filter hr).trans (p3.filter _)
  have ex : xs = [⟨3, 2, 1⟩] := List.perm_singleton.1 hx
  subst ex
  obtain ⟨g, cap, rfl, c4⟩ := ownsRow_first o4
  clear hx hF hr p3 hl3 hmem
  go_wp2
  go_ret
  have fr := (f2.trans f3).trans f4
  refine ⟨rfl, b1.trans ⟨fr.os, fr.tape, fr.output, fr.size, fun i hi => fr.block i (Nat.lt_of_lt_of_le hi b1.size) (by omega) (by simp [Value.ownBlock])⟩⟩
end Go.Proofs.Ytjlhdbkhebfghaa
