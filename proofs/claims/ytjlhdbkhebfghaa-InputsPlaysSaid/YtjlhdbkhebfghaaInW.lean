/- law 33: awake. -/
import Derived.Test.YtjlhdbkhebfghaaInN
namespace Go.Proofs.Ytjlhdbkhebfghaa
open Go.ChangeShapes Go.WideShapes Go.ChangeAt Go.RowKit
set_option linter.unusedVariables false

theorem Took.filter {α : Type} {lt : α → α → Bool} {ok : α → Bool} {l xs l' : List α} (h : Took lt ok l xs l') (hr : ∀ y ∈ l', ok y = false) : xs.Perm (l.filter ok) := by
  have h1 := h.perm.filter ok
  rw [List.filter_append, List.filter_eq_self.2 h.due, List.filter_eq_nil_iff.2 (fun x hx => by rw [hr x hx]; simp), List.append_nil] at h1
  exact h1
def awA : List inIt := [⟨5, 0, 0, 0, ⟨#[]⟩, 0⟩, ⟨3, 0, 1, 0, ⟨#[]⟩, 1⟩]

set_option maxRecDepth 20000 in
set_option maxHeartbeats 1000000 in
theorem awake33 (w : World) : Calls Try.prog 19 #[] w fun e w' => e = .returned (.bool true) ∧ Below w.heap.size w w' := by
  go_enter Try.func19, Try.ntmps19
  go_wp2_with fail
  have hA : ItemsAt 5 inArg (w.alloc (.cells #[.int .i64 5, .int .i64 0, .int .i64 0, .int .i64 0, .string ⟨#[]⟩, .int .i64 3, .int .i64 0, .int .i64 1, .int .i64 0, .string ⟨#[]⟩] 55)) (some ⟨w.heap.size, 0, none⟩) 2 awA := by
    refine ⟨rfl, fun _ => ⟨w.heap.size, 0, rfl, by simp, fun i hi j hj => ?_⟩⟩
    rw [cell_of_row _ _ _ _ _ _ (Go.heap_alloc_new w _)]
    match i, hi with
    | 0, _ => match j, hj with
      | 0, _ => rfl
      | 1, _ => rfl
      | 2, _ => rfl
      | 3, _ => rfl
      | 4, _ => rfl
    | 1, _ => match j, hj with
      | 0, _ => rfl
      | 1, _ => rfl
      | 2, _ => rfl
      | 3, _ => rfl
      | 4, _ => rfl
  refine (inNew 1 _ 2 2 awA _ (by omega) (by omega) (by omega) hA (fun i hi => by
    match i, hi with
    | 0, _ => rfl
    | 1, _ => rfl)).mono ?_
  rintro e w1 ⟨V, L, rfl, hI, hp, hb1⟩
  have hp0 := hp 0 (by omega)
  have hcl : cntL awA 1 0 2 = awA := by simp [cntL, awA, counts, isKind]
  rw [hcl] at hp0
  have hl0 : (L 0).length = 2 := hp0.length_eq
  rw [show (w.alloc (.cells #[.int .i64 5, .int .i64 0, .int .i64 0, .int .i64 0, .string ⟨#[]⟩, .int .i64 3, .int .i64 0, .int .i64 1, .int .i64 0, .string ⟨#[]⟩] 55)).heap.size = w.heap.size + 1 by simp] at hI hb1
  have hb0 : Below w.heap.size w w1 := ((Bel.refl w).alloc (o := .cells #[.int .i64 5, .int .i64 0, .int .i64 0, .int .i64 0, .string ⟨#[]⟩, .int .i64 3, .int .i64 0, .int .i64 1, .int .i64 0, .string ⟨#[]⟩] 55)).1.trans (hb1.mono (by omega))
  clear hp hA hcl
  go_wp2_with fail
  refine (inDue (w.heap.size + 1) 1 V L 0 4 _ hI (by omega) (by omega) (by omega)).mono ?_
  rintro e w2 ⟨out, xs, l2, v2, rfl, hT, hx4, hr, hI2, o2, f2⟩
  have hxl := hT.length
  have hr2 : ∀ y ∈ l2, dueBy 4 y = false := fun y hy => by
    rcases hr with h | h
    · omega
    · have := h y hy
      simp only [dueBy, decide_eq_false_iff_not]
      omega
  have hx := (hT.filter hr2).trans (hp0.filter _)
  have ex : xs = [⟨3, 0, 1, 0, ⟨#[]⟩, 1⟩] := by
    refine List.perm_singleton.1 (hx.trans ?_)
    rw [show awA.filter (dueBy 4) = [⟨3, 0, 1, 0, ⟨#[]⟩, 1⟩] by simp [awA, dueBy]]
  subst ex
  have hl2 : l2.length = 1 := by simp at hxl; omega
  obtain ⟨ao, co, rfl, _, _, hi2, _⟩ := items_of_owned inArg_length o2
  obtain ⟨g, o, rfl, hg, hc⟩ := hi2.2 (by simp)
  have c2 := hc 0 (by simp) 2 (by omega)
  simp [atL, inArg] at c2
  have hl2i : (l2.length : Int) = 1 := by omega
  clear hx hr hr2 hT hc hi2 o2 hp0 hl0 hxl hx4
  go_wp2_with fail
  refine (inLeft (w.heap.size + 1) 1 _ _ 0 _ hI2 (by omega) (by omega)).mono ?_
  rintro e w3 ⟨rfl, rfl⟩
  rw [putF_at, hl2i]
  go_wp2
  go_ret
  refine ⟨rfl, hb0.trans ⟨f2.os, f2.tape, f2.output, f2.size, fun i hi => f2.block i (by have := hI.lt; omega) (by omega) (fun e => ?_)⟩⟩
  have := ((hI.rows 0 (by omega)).lt i e.symm).1
  omega
end Go.Proofs.Ytjlhdbkhebfghaa
