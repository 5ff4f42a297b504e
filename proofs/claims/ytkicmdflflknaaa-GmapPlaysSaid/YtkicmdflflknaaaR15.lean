/- Contracts of the reference's gmap: the same functions of a map as the program's. -/
import Derived.Test.YtkicmdflflknaaaGmapRightsWalk
namespace Go.Proofs.Ytkicmdflflknaaa
open Go.ChangeShapes Go.WideShapes Go.ChangeAt Go.RowKit
set_option linter.unusedVariables false

def rmapCells (M : Nat → Int × Int) : List Value := ((List.range 12).map fun i => .bool (isThere M i)) ++ ((List.range 12).flatMap fun i => [.int .i64 (M i).1, .int .i64 (M i).2])
def RMapAt (w : World) (b : Nat) (M : Nat → Int × Int) : Prop := w.heap[b]? = some (.cells (rmapCells M).toArray 64 (0, 0))

theorem RMapAt.cell {w : World} {b : Nat} {M : Nat → Int × Int} (h : RMapAt w b M) (o : Nat) : w.cell? ⟨b, o, none⟩ = (rmapCells M)[o]? := by
  unfold RMapAt at h
  simp [World.cell?, h]
theorem RMapAt.frozen {w : World} {b : Nat} {M : Nat → Int × Int} (h : RMapAt w b M) (o : Nat) : w.frozen? ⟨b, o, none⟩ = false := by
  unfold RMapAt at h
  simp [World.frozen?, h]
theorem RMapAt.lt {w : World} {b : Nat} {M : Nat → Int × Int} (h : RMapAt w b M) : b < w.heap.size := lt_heap h
theorem RMapAt.later {w : World} {b : Nat} {M : Nat → Int × Int} {x : Lat w} (h : RMapAt w b M) : RMapAt (Proofs.Ytkicmdflflknaaa.later w x) b M := heap_later h
theorem RMapAt.alloc {w : World} {b : Nat} {M : Nat → Int × Int} {o : Obj} (h : RMapAt w b M) : RMapAt (w.alloc o) b M := heap_alloc h
theorem rmapCells_there (M : Nat → Int × Int) (k : Nat) (h : k < 12) : (rmapCells M)[k]? = some (.bool (isThere M k)) := by
  rcases lt12 h with rfl | rfl | rfl | rfl | rfl | rfl | rfl | rfl | rfl | rfl | rfl | rfl <;> rfl
theorem rmapCells_frame (M : Nat → Int × Int) (k : Nat) (h : k < 12) : (rmapCells M)[12 + k * 2]? = some (.int .i64 (M k).1) := by
  rcases lt12 h with rfl | rfl | rfl | rfl | rfl | rfl | rfl | rfl | rfl | rfl | rfl | rfl <;> rfl
theorem rmapCells_rights (M : Nat → Int × Int) (k : Nat) (h : k < 12) : (rmapCells M)[12 + k * 2 + 1]? = some (.int .i64 (M k).2) := by
  rcases lt12 h with rfl | rfl | rfl | rfl | rfl | rfl | rfl | rfl | rfl | rfl | rfl | rfl <;> rfl
theorem rmapCells_upd (M : Nat → Int × Int) (k : Nat) (h : k < 12) (fr ri : Int) : (((rmapCells M).toArray.setIfInBounds k (.bool (!(fr == 0) || !(ri == 0)))).setIfInBounds (12 + k * 2) (.int .i64 fr)).setIfInBounds (12 + k * 2 + 1) (.int .i64 ri) = (rmapCells (upd M k (fr, ri))).toArray := by
  rcases lt12 h with rfl | rfl | rfl | rfl | rfl | rfl | rfl | rfl | rfl | rfl | rfl | rfl <;> rfl
theorem RMapAt.set {w : World} {b : Nat} {M : Nat → Int × Int} (h : RMapAt w b M) (k : Nat) (hk : k < 12) (fr ri : Int) :
    RMapAt (((w.setCell ⟨b, k, none⟩ (.bool (!(fr == 0) || !(ri == 0)))).setCell ⟨b, 12 + k * 2, none⟩ (.int .i64 fr)).setCell ⟨b, 12 + k * 2 + 1, none⟩ (.int .i64 ri)) b (upd M k (fr, ri)) := by
  have := heap_setCell_at (o := 12 + k * 2 + 1) (u := .int .i64 ri) (heap_setCell_at (o := 12 + k * 2) (u := .int .i64 fr) (heap_setCell_at (o := k) (u := .bool (!(fr == 0) || !(ri == 0))) h))
  rwa [rmapCells_upd M k hk] at this

theorem is_any (n : Int) (w : World) : Calls Try.prog 44 #[.int .i64 n] w fun e w' => e = .returned (.bool (pageB n)) ∧ w = w' := by
  by_cases h0 : 0 ≤ n
  case' neg => have h0' : decide (0 ≤ n) = false := by simp; omega
  all_goals
    go_enter Try.func44, Try.ntmps44
    go_wp2
    go_ret
    exact ⟨ret_bool (by simp [pageB, *]), rfl⟩

set_option maxHeartbeats 400000 in
theorem rget_any (b : Nat) (M : Nat → Int × Int) (n : Int) (w : World) (h : RMapAt w b M) :
    Calls Try.prog 26 #[.pointer (some ⟨b, 0, none⟩), .int .i64 n] w fun e w' => e = .returned (.tuple #[.agg #[.int .i64 (getF M n), .int .i64 (getR M n)], .bool (getT M n)]) ∧ Below w.heap.size w w' := by
  have hb := h.lt
  cases hp : pageB n with
  | false =>
    go_enter Try.func26, Try.ntmps26
    go_wp2_with (go_at_call 44; refine (is_any _ _).mono ?_; rintro e w' ⟨rfl, rfl⟩)
    exact bodyPost_ret (v := .tuple #[.agg #[.int .i64 0, .int .i64 0], .bool false]) (by simp [results, Try.results26, go_sem]) rfl ⟨by simp [getF, getR, getT, hp], (Bel.refl _).alloc.1⟩
  | true =>
    have hp' : 0 ≤ n ∧ n < 12 := by simpa [pageB] using hp
    obtain ⟨k, rfl⟩ := Int.eq_ofNat_of_zero_le hp'.1
    have hk : k < 12 := by omega
    clear hp'
    have h0 : w.cell? ⟨b, k, none⟩ = some (.bool (isThere M k)) := (h.cell _).trans (rmapCells_there M k hk)
    have h1 : w.cell? ⟨b, 12 + k * 2, none⟩ = some (.int .i64 (M k).1) := (h.cell _).trans (rmapCells_frame M k hk)
    have h2 : w.cell? ⟨b, 12 + k * 2 + 1, none⟩ = some (.int .i64 (M k).2) := (h.cell _).trans (rmapCells_rights M k hk)
    go_enter Try.func26, Try.ntmps26
    go_wp2_with (go_at_call 44; refine (is_any _ _).mono ?_; rintro e w' ⟨rfl, rfl⟩)
    go_region
    go_wp2
    exact bodyPost_ret (v := .tuple #[.agg #[.int .i64 (M k).1, .int .i64 (M k).2], .bool (isThere M k)]) (by simp [results, Try.results26, go_sem]) rfl ⟨by simp [getF, getR, getT, hp], (Bel.refl _).alloc.drew.1⟩

theorem nonzero_place {fr ri : Int} (h : placeB fr ri = true) : (!(fr == 0) || !(ri == 0)) = true := by
  have : ¬ ri = 0 := by simp [placeB] at h; omega
  simp [this]

set_option maxHeartbeats 1000000 in
theorem rset_any (b : Nat) (M : Nat → Int × Int) (n fr ri : Int) (w : World) (h : RMapAt w b M) :
    Calls Try.prog 25 #[.pointer (some ⟨b, 0, none⟩), .int .i64 n, .agg #[.int .i64 fr, .int .i64 ri]] w fun e w' => e = .returned (.int .i64 (setRes M n fr ri)) ∧ Upd b w w' ∧ RMapAt w' b (setNew M n fr ri) := by
  have hb := h.lt
  cases hp : pageB n with
  | false =>
    go_enter Try.func25, Try.ntmps25
    go_wp2_with (go_at_call 44; refine (is_any _ _).mono ?_; rintro e w' ⟨rfl, rfl⟩)
    go_ret
    exact ⟨ret_int (by simp [setRes, hp]), (Upd.refl _ _).alloc, by simp only [setNew, hp, Bool.false_eq_true, false_and, if_false]; exact h.alloc⟩
  | true =>
    have hp' : 0 ≤ n ∧ n < 12 := by simpa [pageB] using hp
    obtain ⟨k, rfl⟩ := Int.eq_ofNat_of_zero_le hp'.1
    have hk : k < 12 := by omega
    clear hp'
    cases hq : placeB fr ri with
    | false =>
      have hc : fr < 0 ∨ (0 ≤ fr ∧ 32 ≤ fr) ∨ (0 ≤ fr ∧ fr < 32 ∧ ri < 1) ∨ (0 ≤ fr ∧ fr < 32 ∧ 1 ≤ ri ∧ 3 < ri) := by
        simp [placeB] at hq
        omega
      rcases hc with hc | ⟨hc, hc'⟩ | ⟨hc, hc', hc''⟩ | ⟨hc, hc', hc'', hc'''⟩
      all_goals
        go_enter Try.func25, Try.ntmps25
        go_wp2_with (go_at_call 44; refine (is_any _ _).mono ?_; rintro e w' ⟨rfl, rfl⟩)
        go_ret
        exact ⟨ret_int (by simp [setRes, hq]), (Upd.refl _ _).alloc, by simp only [setNew, hq, Bool.false_eq_true, false_and, and_false, if_false]; exact h.alloc⟩
    | true =>
      have hc : 0 ≤ fr ∧ fr < 32 ∧ 1 ≤ ri ∧ ri ≤ 3 := by simpa [placeB] using hq
      obtain ⟨q0, q1, q2, q3⟩ := hc
      have hnz := nonzero_place hq
      have h0 : w.cell? ⟨b, k, none⟩ = some (.bool (isThere M k)) := (h.cell _).trans (rmapCells_there M k hk)
      have h1 : w.cell? ⟨b, 12 + k * 2, none⟩ = some (.int .i64 (M k).1) := (h.cell _).trans (rmapCells_frame M k hk)
      have h2 : w.cell? ⟨b, 12 + k * 2 + 1, none⟩ = some (.int .i64 (M k).2) := (h.cell _).trans (rmapCells_rights M k hk)
      have z0 : w.frozen? ⟨b, k, none⟩ = false := h.frozen _
      have z1 : w.frozen? ⟨b, 12 + k * 2, none⟩ = false := h.frozen _
      have z2 : w.frozen? ⟨b, 12 + k * 2 + 1, none⟩ = false := h.frozen _
      cases ht : isThere M k with
      | true =>
        rw [ht] at h0
        go_enter Try.func25, Try.ntmps25
        go_wp2_with (go_at_call 44; refine (is_any _ _).mono ?_; rintro e w' ⟨rfl, rfl⟩)
        go_ret
        exact ⟨ret_int (by simp [setRes, hp, hq, ht]), (Upd.refl _ _).alloc, by simp only [setNew, Int.toNat_natCast, ht, Bool.true_eq_false, and_false, if_false]; exact h.alloc⟩
      | false =>
        rw [ht] at h0
        have hnz' := Lib.hid hnz
        clear hnz
        go_enter Try.func25, Try.ntmps25
        go_wp2_with (go_at_call 44; refine (is_any _ _).mono ?_; rintro e w' ⟨rfl, rfl⟩)
        go_region
        go_wp2
        go_ret
        refine ⟨ret_int (by simp [setRes, hp, hq, ht]), ?_, ?_⟩
        · exact ((Upd.refl _ _).setCell.setCell.setCell).alloc.drew
        · simp only [setNew, Int.toNat_natCast, hp, hq, ht, and_self, if_true]
          have := h.set k hk fr ri
          rw [hnz'.out] at this
          exact this.alloc (o := .cells #[.int .i64 fr, .int .i64 ri] 36)

set_option maxHeartbeats 400000 in
theorem rdrop_any (b : Nat) (M : Nat → Int × Int) (n : Int) (w : World) (h : RMapAt w b M) :
    Calls Try.prog 24 #[.pointer (some ⟨b, 0, none⟩), .int .i64 n] w fun e w' => e = .returned (.int .i64 (dropRes M n)) ∧ Upd b w w' ∧ RMapAt w' b (dropNew M n) := by
  have hb := h.lt
  cases hp : pageB n with
  | false =>
    go_enter Try.func24, Try.ntmps24
    go_wp2_with (go_at_call 44; refine (is_any _ _).mono ?_; rintro e w' ⟨rfl, rfl⟩)
    go_ret
    exact ⟨ret_int (by simp [dropRes, hp]), Upd.refl _ _, by simp only [dropNew, hp, Bool.false_eq_true, if_false]; exact h⟩
  | true =>
    have hp' : 0 ≤ n ∧ n < 12 := by simpa [pageB] using hp
    obtain ⟨k, rfl⟩ := Int.eq_ofNat_of_zero_le hp'.1
    have hk : k < 12 := by omega
    clear hp'
    have h0 : w.cell? ⟨b, k, none⟩ = some (.bool (isThere M k)) := (h.cell _).trans (rmapCells_there M k hk)
    have h1 : w.cell? ⟨b, 12 + k * 2, none⟩ = some (.int .i64 (M k).1) := (h.cell _).trans (rmapCells_frame M k hk)
    have h2 : w.cell? ⟨b, 12 + k * 2 + 1, none⟩ = some (.int .i64 (M k).2) := (h.cell _).trans (rmapCells_rights M k hk)
    have z0 : w.frozen? ⟨b, k, none⟩ = false := h.frozen _
    have z1 : w.frozen? ⟨b, 12 + k * 2, none⟩ = false := h.frozen _
    have z2 : w.frozen? ⟨b, 12 + k * 2 + 1, none⟩ = false := h.frozen _
    cases ht : isThere M k with
    | false =>
      rw [ht] at h0
      go_enter Try.func24, Try.ntmps24
      go_wp2_with (go_at_call 44; refine (is_any _ _).mono ?_; rintro e w' ⟨rfl, rfl⟩)
      go_ret
      exact ⟨ret_int (by simp [dropRes, hp, ht]), Upd.refl _ _, by simp only [dropNew, Int.toNat_natCast, hp, if_true, upd_same M k ht]; exact h⟩
    | true =>
      rw [ht] at h0
      go_enter Try.func24, Try.ntmps24
      go_wp2_with (go_at_call 44; refine (is_any _ _).mono ?_; rintro e w' ⟨rfl, rfl⟩)
      go_ret
      exact ⟨ret_int (by simp [dropRes, hp, ht]), (Upd.refl _ _).setCell.setCell.setCell, by simp only [dropNew, Int.toNat_natCast, hp, if_true]; exact h.set k hk 0 0⟩

/-- What is there has rights that may be. -/
def ValidMap (M : Nat → Int × Int) : Prop := ∀ i, isThere M i = true → 1 ≤ (M i).2 ∧ (M i).2 ≤ 3
theorem ValidMap.zero : ValidMap zeroMap := fun i h => by simp [isThere, zeroMap] at h
theorem ValidMap.set {M : Nat → Int × Int} (h : ValidMap M) (n fr ri : Int) : ValidMap (setNew M n fr ri) := by
  unfold setNew
  split
  · rename_i hc
    obtain ⟨_, hq, _⟩ := hc
    intro i hi
    by_cases he : i = n.toNat
    · subst he
      simp [placeB] at hq
      simp [upd]
      omega
    · rw [there_upd_ne _ _ he] at hi
      simpa [upd, he] using h i hi
  · exact h
theorem ValidMap.drop {M : Nat → Int × Int} (h : ValidMap M) (n : Int) : ValidMap (dropNew M n) := by
  unfold dropNew
  split
  · intro i hi
    by_cases he : i = n.toNat
    · subst he
      simp [isThere, upd] at hi
    · rw [there_upd_ne _ _ he] at hi
      simpa [upd, he] using h i hi
  · exact h

theorem may_one {ri : Int} (h : 1 ≤ ri) (h' : ri ≤ 3) : (bits .and .i64 ri 1 != 0) = (ri % 2 == 1) ∧ (bits .and .i64 ri 2 != 0) = decide (2 ≤ ri) := by
  have : ri = 1 ∨ ri = 2 ∨ ri = 3 := by omega
  rcases this with rfl | rfl | rfl <;> decide

theorem allows_ref {M : Nat → Int × Int} (hv : ValidMap M) (n kind : Int) (h : getT M n = true) :
    allowsI M n kind = if (decide (kind = 0) && decide (n < 8) || decide (kind = 1) && (getR M n % 2 == 1) || decide (kind = 2) && decide (2 ≤ getR M n)) = true then 0 else 6 := by
  have hp : pageB n = true ∧ isThere M n.toNat = true := by simpa [getT] using h
  have hr := hv _ hp.2
  have hg : getR M n = (M n.toNat).2 := by simp [getR, hp.1]
  obtain ⟨e1, e2⟩ := may_one hr.1 hr.2
  unfold allowsI mayB
  rw [if_pos h, hg, e1, e2]
  by_cases h0 : kind = 0
  · subst h0; simp
  · by_cases h1 : kind = 1
    · subst h1; simp
    · by_cases h2 : kind = 2
      · subst h2; simp
      · simp [h0, h1, h2]

set_option maxHeartbeats 1000000 in
theorem rallows_any (b : Nat) (M : Nat → Int × Int) (n kind : Int) (w : World) (h : RMapAt w b M) (hv : ValidMap M) :
    Calls Try.prog 29 #[.pointer (some ⟨b, 0, none⟩), .int .i64 n, .int .i64 kind] w fun e w' => e = .returned (.int .i64 (allowsI M n kind)) ∧ Below w.heap.size w w' := by
  cases ht : getT M n with
  | false =>
    go_enter Try.func29, Try.ntmps29
    go_wp2_with (go_at_call 26; refine (Calls.lat (rget_any _ M _ _ h)).mono ?_; rintro e w' ⟨rfl, x, rfl⟩)
    go_ret
    exact ⟨ret_int (by simp [allowsI, ht]), (by refine (?_ : Bel _ _ _).1; repeat (first | exact hbel | exact Bel.refl _ | apply Bel.later | apply Bel.alloc | apply Bel.drew | (refine Bel.laterB ?_ (by first | omega | (simp; omega) | simp))))⟩
  | true =>
    have hr := allows_ref hv n kind ht
    have hp : pageB n = true ∧ isThere M n.toNat = true := by simpa [getT] using ht
    have hri := hv _ hp.2
    have hg : getR M n = (M n.toNat).2 := by simp [getR, hp.1]
    have hr0 : 0 ≤ getR M n := by omega
    have Hr := Lib.hid hr
    clear hr hp hri hg
    by_cases h0 : kind = 0
    · subst h0
      by_cases h8 : n < 8
      all_goals
        go_enter Try.func29, Try.ntmps29
        go_wp2_with (go_at_call 26; refine (Calls.lat (rget_any _ M _ _ h)).mono ?_; rintro e w' ⟨rfl, x, rfl⟩)
        go_ret
        exact ⟨ret_int (by rw [Hr.out]; simp [*]), (by refine (?_ : Bel _ _ _).1; repeat (first | exact hbel | exact Bel.refl _ | apply Bel.later | apply Bel.alloc | apply Bel.drew | (refine Bel.laterB ?_ (by first | omega | (simp; omega) | simp))))⟩
    · have e0 : (kind == 0) = false := by simp [h0]
      by_cases h1 : kind = 1
      · subst h1
        cases hm : (getR M n % 2 == 1)
        all_goals
          go_enter Try.func29, Try.ntmps29
          go_wp2_with (go_at_call 26; refine (Calls.lat (rget_any _ M _ _ h)).mono ?_; rintro e w' ⟨rfl, x, rfl⟩)
          go_ret
          exact ⟨ret_int (by rw [Hr.out]; simp [hm]), (by refine (?_ : Bel _ _ _).1; repeat (first | exact hbel | exact Bel.refl _ | apply Bel.later | apply Bel.alloc | apply Bel.drew | (refine Bel.laterB ?_ (by first | omega | (simp; omega) | simp))))⟩
      · have e1 : (kind == 1) = false := by simp [h1]
        by_cases h2 : kind = 2
        · subst h2
          by_cases hm : 2 ≤ getR M n
          all_goals
            go_enter Try.func29, Try.ntmps29
            go_wp2_with (go_at_call 26; refine (Calls.lat (rget_any _ M _ _ h)).mono ?_; rintro e w' ⟨rfl, x, rfl⟩)
            go_ret
            exact ⟨ret_int (by rw [Hr.out]; simp [hm]), (by refine (?_ : Bel _ _ _).1; repeat (first | exact hbel | exact Bel.refl _ | apply Bel.later | apply Bel.alloc | apply Bel.drew | (refine Bel.laterB ?_ (by first | omega | (simp; omega) | simp))))⟩
        · have e2 : (kind == 2) = false := by simp [h2]
          go_enter Try.func29, Try.ntmps29
          go_wp2_with (go_at_call 26; refine (Calls.lat (rget_any _ M _ _ h)).mono ?_; rintro e w' ⟨rfl, x, rfl⟩)
          go_ret
          exact ⟨ret_int (by rw [Hr.out]; simp [h0, h1, h2]), (by refine (?_ : Bel _ _ _).1; repeat (first | exact hbel | exact Bel.refl _ | apply Bel.later | apply Bel.alloc | apply Bel.drew | (refine Bel.laterB ?_ (by first | omega | (simp; omega) | simp))))⟩

set_option maxHeartbeats 400000 in
theorem rpages_any (b : Nat) (M : Nat → Int × Int) (w : World) (h : RMapAt w b M) :
    Calls Try.prog 28 #[.pointer (some ⟨b, 0, none⟩)] w fun e w' => ∃ v, e = .returned v ∧ Owned w' w.heap.size v (pagesTo M 12) ∧ Below w.heap.size w w' := by
  have hb := h.lt
  obtain ⟨i0, hi, hz0, hz1, hz2⟩ := info_parts Try.infoInt
  go_enter Try.func28, Try.ntmps28
  go_wp2
  go_loopw [3, 4] (fun v i wr => ∃ k : Nat, k ≤ 12 ∧ i = .int .i64 k ∧ Owned wr w.heap.size v (pagesTo M k) ∧ Below w.heap.size w wr) (fun _ i _ => 12 - (intOf i).toNat)
  case atStart => exact ⟨0, Nat.zero_le _, rfl, (by unfold Owned pagesTo; exact World.ownsRow_nil _ _ _ _), Below.refl _ _⟩
  case round =>
    obtain ⟨k, hk, rfl, hown, hbel⟩ := hrel
    have hmap : RMapAt wr b M := (hbel.block b hb).trans h
    have hle := pagesTo_le M k
    have hsz := hbel.size
    by_cases hlt : k < 12
    · have h0 : wr.cell? ⟨b, k, none⟩ = some (.bool (isThere M k)) := (hmap.cell _).trans (rmapCells_there M k hlt)
      cases ht : isThere M k with
      | true =>
        rw [ht] at h0
        go_wp2_with (at_builtin; refine wpList_append_own _ rfl _ _ 38 rfl w.heap.size 3 i0 (.int .i64 0) 1 8 Try.underlying38 hi hz0 hz1 hz2 rfl (by decide) _ _ _ rfl (World.ownsRow.alloc hown _) ⟨wr.heap.size, 0, none⟩ 1 1 [.int .i64 k] rfl rfl ?c1 ?c2 ?c3 ?c4 ?c5 ?_)
        case c1 =>
          intro j u hj
          match j, hj with
          | 0, hj => simp at hj; subst hj; simp [Addr.add]
        case c2 => intro u hu; simp at hu; subst hu; rfl
        case c3 => unfold maxLen; omega
        case c4 => omega
        case c5 => simp; omega
        intro v' w1 hown' hgrow _
        go_wp2
        go_roundw
        case rel =>
          refine ⟨k + 1, by omega, by go_num, ?_, ?_⟩
          · unfold Owned
            rw [pagesTo_succ, if_pos ht]
            simpa using hown'
          · exact ((Bel.append ⟨hbel, hsz⟩ hown hgrow)).1
        case measure => simp [intOf]; omega
      | false =>
        rw [ht] at h0
        go_wp2
        go_roundw
        case rel => exact ⟨k + 1, by omega, by go_num, by rw [pagesTo_succ, if_neg (by simp [ht])]; exact hown, hbel⟩
        case measure => simp [intOf]; omega
    · obtain rfl : k = 12 := by omega
      go_wp2
      go_ret
      exact ⟨_, rfl, hown, hbel⟩

end Go.Proofs.Ytkicmdflflknaaa
