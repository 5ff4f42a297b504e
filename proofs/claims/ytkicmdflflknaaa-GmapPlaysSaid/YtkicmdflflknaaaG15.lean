/- Contracts of the package gmap. A map in memory is a function from pages to (frame, rights). -/
import Derived.Test.YtkicmdflflknaaaRows
import Derived.Test.YtkicmdflflknaaaKit
namespace Go.Proofs.Ytkicmdflflknaaa
open Go.ChangeShapes Go.WideShapes Go.ChangeAt Go.RowKit
set_option linter.unusedVariables false

@[go_sem] theorem place_held : Try.prog.stoodInHeld 36 = false := by kernel_rfl
@[go_sem] theorem place_guard : Try.prog.eqGuardType Try.prog.depth 36 = false := by kernel_rfl
@[go_sem high] theorem eql_place (a b a' b' : Int) (w : World) : (binOp .eql 36 (.agg #[.int .i64 a, .int .i64 b]) (.agg #[.int .i64 a', .int .i64 b'])).run Try.prog w = .ok (.bool (a == a' && b == b')) w := by
  simp [go_sem]
  repeat' split
  all_goals simp_all
@[go_sem high] theorem neq_place (a b a' b' : Int) (w : World) : (binOp .neq 36 (.agg #[.int .i64 a, .int .i64 b]) (.agg #[.int .i64 a', .int .i64 b'])).run Try.prog w = .ok (.bool (!(a == a' && b == b'))) w := by
  simp [go_sem]
  repeat' split
  all_goals simp_all

def mapCells (M : Nat → Int × Int) : List Value := ((List.range 12).flatMap fun i => [.int .i64 (M i).1, .int .i64 (M i).2]) ++ [.bool true]
def MapAt (w : World) (b : Nat) (M : Nat → Int × Int) : Prop := w.heap[b]? = some (.cells (mapCells M).toArray 59 (0, 0))

theorem lt12 {k : Nat} (h : k < 12) : k = 0 ∨ k = 1 ∨ k = 2 ∨ k = 3 ∨ k = 4 ∨ k = 5 ∨ k = 6 ∨ k = 7 ∨ k = 8 ∨ k = 9 ∨ k = 10 ∨ k = 11 := by omega

theorem MapAt.cell {w : World} {b : Nat} {M : Nat → Int × Int} (h : MapAt w b M) (o : Nat) : w.cell? ⟨b, o, none⟩ = (mapCells M)[o]? := by
  unfold MapAt at h
  simp [World.cell?, h]
theorem MapAt.frozen {w : World} {b : Nat} {M : Nat → Int × Int} (h : MapAt w b M) (o : Nat) : w.frozen? ⟨b, o, none⟩ = false := by
  unfold MapAt at h
  simp [World.frozen?, h]
theorem mapCells_frame (M : Nat → Int × Int) (k : Nat) (h : k < 12) : (mapCells M)[k * 2]? = some (.int .i64 (M k).1) := by
  rcases lt12 h with rfl | rfl | rfl | rfl | rfl | rfl | rfl | rfl | rfl | rfl | rfl | rfl <;> rfl
theorem mapCells_rights (M : Nat → Int × Int) (k : Nat) (h : k < 12) : (mapCells M)[k * 2 + 1]? = some (.int .i64 (M k).2) := by
  rcases lt12 h with rfl | rfl | rfl | rfl | rfl | rfl | rfl | rfl | rfl | rfl | rfl | rfl <;> rfl
theorem mapCells_made (M : Nat → Int × Int) : (mapCells M)[24]? = some (.bool true) := rfl

def pageB (n : Int) : Bool := decide (0 ≤ n) && decide (n < 12)
def isThere (M : Nat → Int × Int) (k : Nat) : Bool := !((M k).1 == 0) || !((M k).2 == 0)

theorem none_map (b : Nat) (M : Nat → Int × Int) (w : World) (h : MapAt w b M) : Calls Try.prog 36 #[.pointer (some ⟨b, 0, none⟩)] w fun e w' => e = .returned (.bool false) ∧ w = w' := by
  have h1 : w.cell? ⟨b, 24, none⟩ = some (.bool true) := (h.cell 24).trans (mapCells_made M)
  clear h
  go_enter Try.func36, Try.ntmps36
  go_wp2
  go_ret
  exact ⟨rfl, rfl⟩

theorem MapAt.lt {w : World} {b : Nat} {M : Nat → Int × Int} (h : MapAt w b M) : b < w.heap.size := lt_heap h
theorem MapAt.later {w : World} {b : Nat} {M : Nat → Int × Int} {x : Lat w} (h : MapAt w b M) : MapAt (Proofs.Ytkicmdflflknaaa.later w x) b M := heap_later h
theorem MapAt.alloc {w : World} {b : Nat} {M : Nat → Int × Int} {o : Obj} (h : MapAt w b M) : MapAt (w.alloc o) b M := heap_alloc h

theorem page_any (n : Int) (w : World) : Calls Try.prog 37 #[.int .i64 n] w fun e w' => e = .returned (.bool (pageB n)) ∧ w = w' := by
  by_cases h0 : 0 ≤ n
  case' neg => have h0' : decide (0 ≤ n) = false := by simp; omega
  all_goals
    go_enter Try.func37, Try.ntmps37
    go_wp2
    go_ret
    exact ⟨ret_bool (by simp [pageB, *]), rfl⟩

theorem there_in (b : Nat) (M : Nat → Int × Int) (k : Nat) (hk : k < 12) (w : World) (h : MapAt w b M) :
    Calls Try.prog 39 #[.pointer (some ⟨b, 0, none⟩), .int .i64 k] w fun e w' => e = .returned (.bool (isThere M k)) ∧ w = w' := by
  have hp : pageB (k : Int) = true := by simp [pageB]; omega
  have h1 : w.cell? ⟨b, k * 2, none⟩ = some (.int .i64 (M k).1) := (h.cell _).trans (mapCells_frame M k hk)
  have h2 : w.cell? ⟨b, k * 2 + 1, none⟩ = some (.int .i64 (M k).2) := (h.cell _).trans (mapCells_rights M k hk)
  clear h
  go_enter Try.func39, Try.ntmps39
  go_wp2_with (go_at_call 37; refine (page_any _ _).mono ?_; rintro e w' ⟨rfl, rfl⟩)
  go_ret
  exact ⟨rfl, rfl⟩

theorem there_out (b : Nat) (n : Int) (hn : pageB n = false) (w : World) :
    Calls Try.prog 39 #[.pointer (some ⟨b, 0, none⟩), .int .i64 n] w fun e w' => e = .returned (.bool false) ∧ w = w' := by
  go_enter Try.func39, Try.ntmps39
  go_wp2_with (go_at_call 37; refine (page_any _ _).mono ?_; rintro e w' ⟨rfl, rfl⟩)
  go_ret
  exact ⟨rfl, rfl⟩

def placeB (fr ri : Int) : Bool := decide (0 ≤ fr) && (decide (fr < 32) && (decide (1 ≤ ri) && decide (ri ≤ 3)))

theorem place_any (fr ri : Int) (w : World) : Calls Try.prog 38 #[.agg #[.int .i64 fr, .int .i64 ri]] w fun e w' => e = .returned (.bool (placeB fr ri)) ∧ Below w.heap.size w w' := by
  by_cases h0 : 0 ≤ fr
  case' neg => have h0' : decide (0 ≤ fr) = false := by simp; omega
  case' pos =>
    by_cases h1 : fr < 32
    case' neg => have h1' : decide (fr < 32) = false := by simp; omega
    case' pos =>
      by_cases h2 : 1 ≤ ri
      case' neg => have h2' : decide (1 ≤ ri) = false := by simp; omega
  all_goals
    go_enter Try.func38, Try.ntmps38
    go_wp2
    go_ret
    exact ⟨ret_bool (by simp [placeB, *]), (Below.refl _ _).alloc (Nat.le_refl _) _⟩

def upd (M : Nat → Int × Int) (k : Nat) (p : Int × Int) : Nat → Int × Int := fun i => if i = k then p else M i

theorem mapCells_upd (M : Nat → Int × Int) (k : Nat) (h : k < 12) (fr ri : Int) : ((mapCells M).toArray.setIfInBounds (k * 2) (.int .i64 fr)).setIfInBounds (k * 2 + 1) (.int .i64 ri) = (mapCells (upd M k (fr, ri))).toArray := by
  rcases lt12 h with rfl | rfl | rfl | rfl | rfl | rfl | rfl | rfl | rfl | rfl | rfl | rfl <;> rfl

theorem MapAt.set {w : World} {b : Nat} {M : Nat → Int × Int} (h : MapAt w b M) (k : Nat) (hk : k < 12) (fr ri : Int) :
    MapAt ((w.setCell ⟨b, k * 2, none⟩ (.int .i64 fr)).setCell ⟨b, k * 2 + 1, none⟩ (.int .i64 ri)) b (upd M k (fr, ri)) := by
  have := heap_setCell_at (o := k * 2 + 1) (u := .int .i64 ri) (heap_setCell_at (o := k * 2) (u := .int .i64 fr) h)
  rwa [mapCells_upd M k hk] at this

def setRes (M : Nat → Int × Int) (n fr ri : Int) : Int := if pageB n = true ∧ placeB fr ri = true then (if isThere M n.toNat then 5 else 0) else 1
def setNew (M : Nat → Int × Int) (n fr ri : Int) : Nat → Int × Int := if pageB n = true ∧ placeB fr ri = true ∧ isThere M n.toNat = false then upd M n.toNat (fr, ri) else M

theorem set_any (b : Nat) (M : Nat → Int × Int) (n fr ri : Int) (w : World) (h : MapAt w b M) :
    Calls Try.prog 16 #[.pointer (some ⟨b, 0, none⟩), .int .i64 n, .agg #[.int .i64 fr, .int .i64 ri]] w fun e w' => e = .returned (.int .i64 (setRes M n fr ri)) ∧ Upd b w w' ∧ MapAt w' b (setNew M n fr ri) := by
  have hb := h.lt
  cases hp : pageB n with
  | false =>
    go_enter Try.func16, Try.ntmps16
    go_wp2_with (first | (go_at_call 37; refine (page_any _ _).mono ?_; rintro e w' ⟨rfl, rfl⟩) | (go_at_call 36; refine (none_map _ M _ h.alloc).mono ?_; rintro e w' ⟨rfl, rfl⟩))
    go_ret
    exact ⟨ret_int (by simp [setRes, hp]), (Upd.refl _ _).alloc, by simp only [setNew, hp, Bool.false_eq_true, false_and, if_false]; exact h.alloc⟩
  | true =>
    have hp' : 0 ≤ n ∧ n < 12 := by simpa [pageB] using hp
    obtain ⟨k, rfl⟩ := Int.eq_ofNat_of_zero_le hp'.1
    have hk : k < 12 := by omega
    clear hp'
    cases hq : placeB fr ri with
    | false =>
      go_enter Try.func16, Try.ntmps16
      go_wp2_with (first | (go_at_call 37; refine (page_any _ _).mono ?_; rintro e w' ⟨rfl, rfl⟩) | (go_at_call 38; refine (Calls.lat (place_any _ _ _)).mono ?_; rintro e w' ⟨rfl, x, rfl⟩) | (go_at_call 36; refine (none_map _ M _ h.alloc).mono ?_; rintro e w' ⟨rfl, rfl⟩))
      go_ret
      exact ⟨ret_int (by simp [setRes, hq]), (Upd.refl _ _).alloc.later, by simp only [setNew, hq, Bool.false_eq_true, false_and, and_false, if_false]; exact h.alloc.later⟩
    | true =>
      cases ht : isThere M k with
      | true =>
        go_enter Try.func16, Try.ntmps16
        go_wp2_with (first | (go_at_call 37; refine (page_any _ _).mono ?_; rintro e w' ⟨rfl, rfl⟩) | (go_at_call 38; refine (Calls.lat (place_any _ _ _)).mono ?_; rintro e w' ⟨rfl, x, rfl⟩) | (go_at_call 36; refine (none_map _ M _ h.alloc).mono ?_; rintro e w' ⟨rfl, rfl⟩) | (go_at_call 39; refine (there_in _ M k hk _ h.alloc.later).mono ?_; rintro e w' ⟨rfl, rfl⟩))
        go_ret
        exact ⟨ret_int (by simp [setRes, hp, hq, ht]), (Upd.refl _ _).alloc.later, by simp only [setNew, Int.toNat_natCast, ht, Bool.true_eq_false, and_false, if_false]; exact h.alloc.later⟩
      | false =>
        have h1 : w.cell? ⟨b, k * 2, none⟩ = some (.int .i64 (M k).1) := (h.cell _).trans (mapCells_frame M k hk)
        have h2 : w.cell? ⟨b, k * 2 + 1, none⟩ = some (.int .i64 (M k).2) := (h.cell _).trans (mapCells_rights M k hk)
        have h3 : w.frozen? ⟨b, k * 2, none⟩ = false := h.frozen _
        have h4 : w.frozen? ⟨b, k * 2 + 1, none⟩ = false := h.frozen _
        go_enter Try.func16, Try.ntmps16
        go_wp2_with (first | (go_at_call 37; refine (page_any _ _).mono ?_; rintro e w' ⟨rfl, rfl⟩) | (go_at_call 38; refine (Calls.lat (place_any _ _ _)).mono ?_; rintro e w' ⟨rfl, x, rfl⟩) | (go_at_call 36; refine (none_map _ M _ h.alloc).mono ?_; rintro e w' ⟨rfl, rfl⟩) | (go_at_call 39; refine (there_in _ M k hk _ h.alloc.later).mono ?_; rintro e w' ⟨rfl, rfl⟩))
        go_region
        go_wp2
        go_ret
        refine ⟨ret_int (by simp [setRes, hp, hq, ht]), ((Upd.refl _ _).alloc.later.setCell.setCell).drew, ?_⟩
        simp only [setNew, Int.toNat_natCast, hp, hq, ht, and_self, if_true]
        exact h.alloc.later.set k hk fr ri

def dropRes (M : Nat → Int × Int) (n : Int) : Int := if pageB n = true then (if isThere M n.toNat then 0 else 3) else 1
def dropNew (M : Nat → Int × Int) (n : Int) : Nat → Int × Int := if pageB n = true then upd M n.toNat (0, 0) else M

theorem upd_same (M : Nat → Int × Int) (k : Nat) (h : isThere M k = false) : upd M k (0, 0) = M := by
  funext i
  unfold upd
  split
  · rename_i e
    subst e
    simp [isThere] at h
    exact Prod.ext h.1.symm h.2.symm
  · rfl

theorem drop_any (b : Nat) (M : Nat → Int × Int) (n : Int) (w : World) (h : MapAt w b M) :
    Calls Try.prog 20 #[.pointer (some ⟨b, 0, none⟩), .int .i64 n] w fun e w' => e = .returned (.int .i64 (dropRes M n)) ∧ Upd b w w' ∧ MapAt w' b (dropNew M n) := by
  have hb := h.lt
  cases hp : pageB n with
  | false =>
    go_enter Try.func20, Try.ntmps20
    go_wp2_with (first | (go_at_call 37; refine (page_any _ _).mono ?_; rintro e w' ⟨rfl, rfl⟩) | (go_at_call 36; refine (none_map _ M _ h).mono ?_; rintro e w' ⟨rfl, rfl⟩))
    go_ret
    exact ⟨ret_int (by simp [dropRes, hp]), Upd.refl _ _, by simp only [dropNew, hp, Bool.false_eq_true, if_false]; exact h⟩
  | true =>
    have hp' : 0 ≤ n ∧ n < 12 := by simpa [pageB] using hp
    obtain ⟨k, rfl⟩ := Int.eq_ofNat_of_zero_le hp'.1
    have hk : k < 12 := by omega
    clear hp'
    have h1 : w.cell? ⟨b, k * 2, none⟩ = some (.int .i64 (M k).1) := (h.cell _).trans (mapCells_frame M k hk)
    have h2 : w.cell? ⟨b, k * 2 + 1, none⟩ = some (.int .i64 (M k).2) := (h.cell _).trans (mapCells_rights M k hk)
    have h3 : w.frozen? ⟨b, k * 2, none⟩ = false := h.frozen _
    have h4 : w.frozen? ⟨b, k * 2 + 1, none⟩ = false := h.frozen _
    cases ht : isThere M k with
    | false =>
      go_enter Try.func20, Try.ntmps20
      go_wp2_with (first | (go_at_call 37; refine (page_any _ _).mono ?_; rintro e w' ⟨rfl, rfl⟩) | (go_at_call 36; refine (none_map _ M _ h).mono ?_; rintro e w' ⟨rfl, rfl⟩) | (go_at_call 39; refine (there_in _ M k hk _ h).mono ?_; rintro e w' ⟨rfl, rfl⟩))
      go_ret
      exact ⟨ret_int (by simp [dropRes, hp, ht]), Upd.refl _ _, by simp only [dropNew, Int.toNat_natCast, hp, if_true, upd_same M k ht]; exact h⟩
    | true =>
      go_enter Try.func20, Try.ntmps20
      go_wp2_with (first | (go_at_call 37; refine (page_any _ _).mono ?_; rintro e w' ⟨rfl, rfl⟩) | (go_at_call 36; refine (none_map _ M _ h).mono ?_; rintro e w' ⟨rfl, rfl⟩) | (go_at_call 39; refine (there_in _ M k hk _ h).mono ?_; rintro e w' ⟨rfl, rfl⟩))
      go_ret
      exact ⟨ret_int (by simp [dropRes, hp, ht]), (Upd.refl _ _).setCell.setCell, by simp only [dropNew, Int.toNat_natCast, hp, if_true]; exact h.set k hk 0 0⟩

def getF (M : Nat → Int × Int) (n : Int) : Int := if pageB n = true then (M n.toNat).1 else 0
def getR (M : Nat → Int × Int) (n : Int) : Int := if pageB n = true then (M n.toNat).2 else 0
def getT (M : Nat → Int × Int) (n : Int) : Bool := pageB n && isThere M n.toNat

theorem get_any (b : Nat) (M : Nat → Int × Int) (n : Int) (w : World) (h : MapAt w b M) :
    Calls Try.prog 17 #[.pointer (some ⟨b, 0, none⟩), .int .i64 n] w fun e w' => e = .returned (.tuple #[.agg #[.int .i64 (getF M n), .int .i64 (getR M n)], .bool (getT M n)]) ∧ Below w.heap.size w w' := by
  have hb := h.lt
  cases hp : pageB n with
  | false =>
    go_enter Try.func17, Try.ntmps17
    go_wp2_with (first | (go_at_call 39; refine (there_out _ _ hp _).mono ?_; rintro e w' ⟨rfl, rfl⟩) | (go_at_call 36; refine (none_map _ M _ h.alloc).mono ?_; rintro e w' ⟨rfl, rfl⟩))
    exact bodyPost_ret (v := .tuple #[.agg #[.int .i64 0, .int .i64 0], .bool false]) (by simp [results, Try.results17, go_sem]) rfl ⟨by simp [getF, getR, getT, hp], (Bel.refl _).alloc.1⟩
  | true =>
    have hp' : 0 ≤ n ∧ n < 12 := by simpa [pageB] using hp
    obtain ⟨k, rfl⟩ := Int.eq_ofNat_of_zero_le hp'.1
    have hk : k < 12 := by omega
    clear hp'
    have h1 : w.cell? ⟨b, k * 2, none⟩ = some (.int .i64 (M k).1) := (h.cell _).trans (mapCells_frame M k hk)
    have h2 : w.cell? ⟨b, k * 2 + 1, none⟩ = some (.int .i64 (M k).2) := (h.cell _).trans (mapCells_rights M k hk)
    cases ht : isThere M k with
    | false =>
      have hz : (M k).1 = 0 ∧ (M k).2 = 0 := by simpa [isThere] using ht
      go_enter Try.func17, Try.ntmps17
      go_wp2_with (first | (go_at_call 39; refine (there_in _ M k hk _ h.alloc).mono ?_; rintro e w' ⟨rfl, rfl⟩) | (go_at_call 36; refine (none_map _ M _ h.alloc).mono ?_; rintro e w' ⟨rfl, rfl⟩))
      exact bodyPost_ret (v := .tuple #[.agg #[.int .i64 0, .int .i64 0], .bool false]) (by simp [results, Try.results17, go_sem]) rfl ⟨by simp [getF, getR, getT, hp, ht, hz], (Bel.refl _).alloc.1⟩
    | true =>
      go_enter Try.func17, Try.ntmps17
      go_wp2_with (first | (go_at_call 39; refine (there_in _ M k hk _ h.alloc).mono ?_; rintro e w' ⟨rfl, rfl⟩) | (go_at_call 36; refine (none_map _ M _ h.alloc).mono ?_; rintro e w' ⟨rfl, rfl⟩))
      exact bodyPost_ret (v := .tuple #[.agg #[.int .i64 (M k).1, .int .i64 (M k).2], .bool true]) (by simp [results, Try.results17, go_sem]) rfl ⟨by simp [getF, getR, getT, hp, ht], (Bel.refl _).alloc.1⟩

def mayB (n ri kind : Int) : Bool := if kind = 0 then decide (n < 8) else if kind = 1 then bits .and .i64 ri 1 != 0 else if kind = 2 then bits .and .i64 ri 2 != 0 else false

theorem may_any (n fr ri kind : Int) (w : World) : Calls Try.prog 40 #[.int .i64 n, .agg #[.int .i64 fr, .int .i64 ri], .int .i64 kind] w fun e w' => e = .returned (.bool (mayB n ri kind)) ∧ Below w.heap.size w w' := by
  go_enter Try.func40, Try.ntmps40
  go_wp2
  all_goals go_ret
  all_goals refine ⟨ret_bool ?_, (Bel.refl _).alloc.1⟩
  all_goals simp_all [mayB]

def allowsI (M : Nat → Int × Int) (n kind : Int) : Int := if getT M n then (if mayB n (getR M n) kind then 0 else 6) else 7

theorem allows_any (b : Nat) (M : Nat → Int × Int) (n kind : Int) (w : World) (h : MapAt w b M) :
    Calls Try.prog 18 #[.pointer (some ⟨b, 0, none⟩), .int .i64 n, .int .i64 kind] w fun e w' => e = .returned (.int .i64 (allowsI M n kind)) ∧ Below w.heap.size w w' := by
  go_enter Try.func18, Try.ntmps18
  go_wp2_with (first | (go_at_call 17; refine (Calls.lat (get_any _ M _ _ h)).mono ?_; rintro e w' ⟨rfl, x, rfl⟩) | (go_at_call 40; refine (Calls.lat (may_any _ _ _ _ _)).mono ?_; rintro e w' ⟨rfl, y, rfl⟩))
  all_goals go_ret
  all_goals refine ⟨ret_int ?_, by refine (?_ : Bel _ _ _).1; repeat (first | exact Bel.refl _ | apply Bel.later | apply Bel.alloc)⟩
  all_goals simp_all [allowsI]

end Go.Proofs.Ytkicmdflflknaaa
