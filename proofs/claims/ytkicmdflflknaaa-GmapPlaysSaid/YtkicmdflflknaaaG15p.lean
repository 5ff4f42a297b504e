/- gmap's Pages and the law package's awake. -/
import Derived.Test.YtkicmdflflknaaaG15
namespace Go.Proofs.Ytkicmdflflknaaa
open Go.ChangeShapes Go.WideShapes Go.ChangeAt Go.RowKit
set_option linter.unusedVariables false

/-- The pages below k that are there, rising. -/
def pagesTo (M : Nat → Int × Int) (k : Nat) : List Int := ((List.range k).filter (isThere M)).map (fun i : Nat => (i : Int))
theorem pagesTo_succ (M : Nat → Int × Int) (k : Nat) : pagesTo M (k + 1) = if isThere M k = true then pagesTo M k ++ [(k : Int)] else pagesTo M k := by
  unfold pagesTo
  rw [List.range_succ, List.filter_append]
  cases h : isThere M k <;> simp [h]
theorem pagesTo_le (M : Nat → Int × Int) (k : Nat) : (pagesTo M k).length ≤ k := by
  unfold pagesTo
  rw [List.length_map]
  have := List.length_filter_le (isThere M) (List.range k)
  simpa using this

theorem Try.infoInt : (Try.prog.info? 3).map (fun i => (i.zero, i.size, i.bytes)) = some (some (.int .i64 0), 1, 8) := by kernel_rfl

def Owned (w : World) (B : Nat) (v : Value) (l : List Int) : Prop := w.ownsRow B 3 1 v l.length (l.map (Value.int .i64))

set_option maxHeartbeats 400000 in
theorem pages_any (b : Nat) (M : Nat → Int × Int) (w : World) (h : MapAt w b M) :
    Calls Try.prog 21 #[.pointer (some ⟨b, 0, none⟩)] w fun e w' => ∃ v, e = .returned v ∧ Owned w' w.heap.size v (pagesTo M 12) ∧ Below w.heap.size w w' := by
  have hb := h.lt
  obtain ⟨i0, hi, hz0, hz1, hz2⟩ := info_parts Try.infoInt
  go_enter Try.func21, Try.ntmps21
  go_wp2_with (go_at_call 36; refine (none_map _ M _ h).mono ?_; rintro e w' ⟨rfl, rfl⟩)
  go_loopw [3, 7] (fun v i wr => ∃ k : Nat, k ≤ 12 ∧ i = .int .i64 k ∧ Owned wr w.heap.size v (pagesTo M k) ∧ Below w.heap.size w wr) (fun _ i _ => 12 - (intOf i).toNat)
  case atStart => exact ⟨0, Nat.zero_le _, rfl, (by unfold Owned pagesTo; exact World.ownsRow_nil _ _ _ _), Below.refl _ _⟩
  case round =>
    obtain ⟨k, hk, rfl, hown, hbel⟩ := hrel
    have hmap : MapAt wr b M := (hbel.block b hb).trans h
    have hle := pagesTo_le M k
    have hsz := hbel.size
    by_cases hlt : k < 12
    · cases ht : isThere M k with
      | true =>
        go_wp2_with (first
          | (go_at_call 39; refine (there_in _ M k hlt _ hmap).mono ?_; rintro e w' ⟨rfl, rfl⟩)
          | (at_builtin; refine wpList_append_own _ rfl _ _ 38 rfl w.heap.size 3 i0 (.int .i64 0) 1 8 Try.underlying38 hi hz0 hz1 hz2 rfl (by decide) _ _ _ rfl (World.ownsRow.alloc hown _) ⟨wr.heap.size, 0, none⟩ 1 1 [.int .i64 k] rfl rfl ?c1 ?c2 ?c3 ?c4 ?c5 ?_))
        case c1 =>
          intro j u hj
          match j, hj with
          | 0, hj => simp at hj; subst hj; simp [Addr.add]
        case c2 => intro u hu; simp at hu; subst hu; rfl
        case c3 => unfold maxLen; omega
        case c4 => omega
        case c5 => simp; omega
        intro v' w1 hown' hgrow _
        go_wp2
        go_roundw
        case rel =>
          refine ⟨k + 1, by omega, by go_num, ?_, ?_⟩
          · unfold Owned
            rw [pagesTo_succ, if_pos ht]
            simpa using hown'
          · exact ((Bel.append ⟨hbel, hsz⟩ hown hgrow)).1
        case measure => simp [intOf]; omega
      | false =>
        go_wp2_with (go_at_call 39; refine (there_in _ M k hlt _ hmap).mono ?_; rintro e w' ⟨rfl, rfl⟩)
        go_roundw
        case rel => exact ⟨k + 1, by omega, by go_num, by rw [pagesTo_succ, if_neg (by simp [ht])]; exact hown, hbel⟩
        case measure => simp [intOf]; omega
    · obtain rfl : k = 12 := by omega
      go_wp2
      go_ret
      exact ⟨_, rfl, hown, hbel⟩

set_option maxHeartbeats 400000 in
theorem new_map (w : World) : Calls Try.prog 15 #[] w fun e w' => e = .returned (.pointer (some ⟨w.heap.size, 0, none⟩)) ∧ w' = w.alloc (.cells (mapCells fun _ => (0, 0)).toArray 59) := by
  go_enter Try.func15, Try.ntmps15
  go_wp2
  go_ret
  exact ⟨rfl, rfl⟩

def zeroMap : Nat → Int × Int := fun _ => (0, 0)
theorem new_map' (w : World) : Calls Try.prog 15 #[] w fun e w' => e = .returned (.pointer (some ⟨w.heap.size, 0, none⟩)) ∧ ∃ x, w' = later w x ∧ MapAt (later w x) w.heap.size zeroMap :=
  (new_map w).mono fun e w' ⟨he, hw⟩ => ⟨he, ⟨w', by subst hw; exact (Bel.refl _).alloc.1⟩, rfl, by subst hw; exact Go.heap_alloc_new w _⟩

set_option maxHeartbeats 400000 in
theorem awake15 (w : World) : Calls Try.prog 19 #[] w fun e w' => e = .returned (.bool true) ∧ Below w.heap.size w w' := by
  have s1 : setRes zeroMap 8 3 1 = 0 := by decide
  have s2 : allowsI (setNew zeroMap 8 3 1) 8 1 = 0 := by decide
  have s3 : allowsI (setNew zeroMap 8 3 1) 8 0 = 6 := by decide
  go_enter Try.func19, Try.ntmps19
  go_wp2_with fail
  refine (new_map' _).mono ?_
  rintro e w' ⟨rfl, x0, rfl, hm0⟩
  go_wp2_with fail
  refine (Calls.latB (set_any _ _ 8 3 1 _ hm0)).mono ?_
  rintro e w' ⟨rfl, x1, rfl, hm1⟩
  go_wp2_with fail
  refine (Calls.lat (allows_any _ _ 8 1 _ hm1)).mono ?_
  rintro e w' ⟨rfl, x2, rfl⟩
  go_wp2_with fail
  refine (Calls.lat (allows_any _ _ 8 0 _ hm1.later)).mono ?_
  rintro e w' ⟨rfl, x3, rfl⟩
  go_wp2_with fail
  go_ret
  exact ⟨rfl, (((Bel.refl w).later.laterB (Nat.le_refl _)).later.later).1⟩

end Go.Proofs.Ytkicmdflflknaaa
