/- Contracts of the package slots at a table that New has made. -/
import Derived.Test.YtkicmdflflknaaaS32
import Derived.Test.YtkicmdflflknaaaSlots
import Derived.Deep.RegionHeld3
namespace Go.Proofs.Ytkicmdflflknaaa
open Go.ChangeShapes Go.WideShapes Go.ChangeAt Go.RowKit
set_option linter.unusedVariables false

/-- n slots lie in block g, from its head. -/
def SlotCells (w : World) (g : Nat) (L : Nat → Int × Int) (n : Nat) : Prop := ∀ i, i < n → w.cell? ⟨g, i * 2, none⟩ = some (.int .i64 (L i).1) ∧ w.cell? ⟨g, i * 2 + 1, none⟩ = some (.int .i64 (L i).2)
def endsV (L : Nat → Int × Int) (n : Nat) : List Value := (List.range 8).map fun i => .int .i64 (if i < n then sumB L (i + 1) else 0)
def tabCells (g n cap : Nat) (L : Nat → Int × Int) (k : Nat) : List Value := .slice (some ⟨g, 0, none⟩) n cap :: endsV L k
def TabAt (w : World) (b g cap : Nat) (L : Nat → Int × Int) (n : Nat) : Prop :=
  w.heap[b]? = some (.cells (tabCells g n cap L n).toArray 26 (0, 0)) ∧ HasYet w g ∧ SlotCells w g L n

theorem lt8 {k : Nat} (h : k < 8) : k = 0 ∨ k = 1 ∨ k = 2 ∨ k = 3 ∨ k = 4 ∨ k = 5 ∨ k = 6 ∨ k = 7 := by omega
theorem tabCells_ends (g n cap : Nat) (L : Nat → Int × Int) (m k : Nat) (h : k < 8) : (tabCells g n cap L m)[1 + k]? = some (.int .i64 (if k < m then sumB L (k + 1) else 0)) := by
  rcases lt8 h with rfl | rfl | rfl | rfl | rfl | rfl | rfl | rfl <;> rfl
theorem tabCells_set (g n cap : Nat) (L : Nat → Int × Int) (k : Nat) (h : k < 8) : (tabCells g n cap L k).toArray.setIfInBounds (1 + k) (.int .i64 (sumB L (k + 1))) = (tabCells g n cap L (k + 1)).toArray := by
  rcases lt8 h with rfl | rfl | rfl | rfl | rfl | rfl | rfl | rfl <;> rfl

theorem cell_of_heap {w : World} {b : Nat} {cs : List Value} {t : TypeId} {fr : Nat × Nat} (h : w.heap[b]? = some (.cells cs.toArray t fr)) (o : Nat) : w.cell? ⟨b, o, none⟩ = cs[o]? := by
  simp [World.cell?, h]
theorem frozen_of_heap {w : World} {b : Nat} {cs : List Value} {t : TypeId} (h : w.heap[b]? = some (.cells cs.toArray t (0, 0))) (o : Nat) : w.frozen? ⟨b, o, none⟩ = false := by
  simp [World.frozen?, h]

theorem TabAt.below {w w' : World} {b g cap n : Nat} {L : Nat → Int × Int} (h : TabAt w b g cap L n) (hb : Below w.heap.size w w') : TabAt w' b g cap L n :=
  ⟨(hb.block b (lt_heap h.1)).trans h.1, Nat.lt_of_lt_of_le h.2.1 hb.size, fun i hi => ⟨(hb.cell (p := ⟨g, i * 2, none⟩) h.2.1).trans (h.2.2 i hi).1, (hb.cell (p := ⟨g, i * 2 + 1, none⟩) h.2.1).trans (h.2.2 i hi).2⟩⟩
theorem TabAt.later {w : World} {b g cap n : Nat} {L : Nat → Int × Int} {x : Lat w} (h : TabAt w b g cap L n) : TabAt (Proofs.Ytkicmdflflknaaa.later w x) b g cap L n := h.below (later_below w x)
theorem TabAt.alloc {w : World} {b g cap n : Nat} {L : Nat → Int × Int} {o : Obj} (h : TabAt w b g cap L n) : TabAt (w.alloc o) b g cap L n := h.below (Bel.refl w).alloc.1

section
variable {w : World} {b g cap n : Nat} {L : Nat → Int × Int}
theorem TabAt.list (h : TabAt w b g cap L n) : w.cell? ⟨b, 0, none⟩ = some (.slice (some ⟨g, 0, none⟩) n cap) := cell_of_heap h.1 0
theorem TabAt.ends (h : TabAt w b g cap L n) {k : Nat} (hk : k < 8) (hkn : k < n) : w.cell? ⟨b, 1 + k, none⟩ = some (.int .i64 (sumB L (k + 1))) := by
  rw [cell_of_heap h.1, tabCells_ends _ _ _ _ _ _ hk, if_pos hkn]
end

theorem tnone (b g cap n : Nat) (L : Nat → Int × Int) (w : World) (h : TabAt w b g cap L n) (hn : 1 ≤ n) : Calls Try.prog 34 #[.pointer (some ⟨b, 0, none⟩)] w fun e w' => e = .returned (.bool false) ∧ w = w' := by
  have hl := h.list
  have hz : ((n : Int) == 0) = false := by simp; omega
  go_enter Try.func34, Try.ntmps34
  go_wp2
  go_ret
  exact ⟨rfl, rfl⟩

theorem tperiod (b g cap n : Nat) (L : Nat → Int × Int) (w : World) (h : TabAt w b g cap L n) (hn : okTab L n) : Calls Try.prog 13 #[.pointer (some ⟨b, 0, none⟩)] w fun e w' => e = .returned (.int .i64 (sumB L n)) ∧ Below w.heap.size w w' := by
  obtain ⟨h1, h8, hok⟩ := hn
  have hl := h.list
  obtain ⟨m, rfl⟩ : ∃ m, n = m + 1 := ⟨n - 1, by omega⟩
  have he := h.ends (k := m) (by omega) (by omega)
  have hz : ((m : Int) + 1 - 1) = (m : Int) := by omega
  have hm0 : (0 : Int) ≤ m := by omega
  have hm8 : (m : Int) < 8 := by omega
  go_enter Try.func13, Try.ntmps13
  go_wp2_with (go_at_call 34; refine (tnone _ _ _ _ _ _ h (by omega)).mono ?_; rintro e w' ⟨rfl, rfl⟩)
  go_quiet (fail)
  go_wp2
  go_ret
  exact ⟨rfl, ⟨rfl, rfl, rfl, Nat.le_refl _, fun _ _ => rfl⟩⟩

set_option maxHeartbeats 400000 in
theorem tin (b g cap n : Nat) (L : Nat → Int × Int) (k : Int) (i : Nat) (w : World) (h : TabAt w b g cap L n) (hn : okTab L n) (hi : i < n) (h1 : sumB L i ≤ k) (h2 : k < sumB L (i + 1)) :
    Calls Try.prog 35 #[.pointer (some ⟨b, 0, none⟩), .int .i64 k] w fun e w' => e = .returned (.int .i64 i) ∧ Below w.heap.size w w' := by
  obtain ⟨hn1, hn8, hok⟩ := hn
  go_enter Try.func35, Try.ntmps35
  go_wp2
  go_loop [5] (fun v => ∃ j : Nat, j ≤ i ∧ v = .int .i64 j) (fun v => i - (intOf v).toNat)
  case atStart => exact ⟨0, Nat.zero_le _, rfl⟩
  case round =>
    obtain ⟨j, hj, rfl⟩ := hrel
    have he := h.ends (k := j) (by omega) (by omega)
    have hj8 : (j : Int) < 8 := by omega
    by_cases hji : j < i
    · have hm := sumB_mono hok (j + 1) i (by omega) (by omega)
      have hd : sumB L (j + 1) ≤ k := by omega
      clear h1 h2 hm
      go_wp2
      go_round
      case rel => exact ⟨j + 1, by omega, by go_num⟩
      case measure => simp [intOf]; omega
    · obtain rfl : j = i := by omega
      go_wp2
      go_ret
      exact ⟨rfl, Below.refl _ _⟩

set_option maxHeartbeats 1000000 in
theorem tat (b g cap m : Nat) (L : Nat → Int × Int) (n q : Int) (i : Nat) (off : Int) (w : World) (h : TabAt w b g cap L m) (hm : okTab L m) (hs : StepAt L m n q i off) (hn : n ≤ 9223372036854775807) :
    Calls Try.prog 11 #[.pointer (some ⟨b, 0, none⟩), .int .i64 n] w fun e w' => e = .returned (.tuple #[.agg #[.int .i64 (L i).1, .int .i64 i, .int .i64 off, .int .i64 q], .int .i64 0]) ∧ Below w.heap.size w w' := by
  have hb := lt_heap h.1
  have hg := h.2.1
  obtain ⟨p1, p2, p3⟩ := hs.parts hm.2.2
  have him := hs.1
  obtain ⟨c1, c2⟩ := h.2.2 i him
  have hl := h.list
  have hen := h.ends (k := i) (by have := hm.2.1; omega) him
  have b0 := sumB_bound hm.2.2 i (by omega)
  have b1 := sumB_bound hm.2.2 (i + 1) (by omega)
  have b2 := sumB_bound hm.2.2 m (Nat.le_refl _)
  have hi8 : (i : Int) < 8 := by have := hm.2.1; omega
  have hm8 := hm.2.1
  have hm1 := hm.1
  have s1 := hs.2.1
  have s2 := hs.2.2.1
  clear hs
  have hsum := sumB_succ L i
  have hmono : sumB L i + off - (sumB L (i + 1) - (L i).2) = off := by omega
  have hbud : 1 ≤ (L i).2 ∧ (L i).2 ≤ 32 := by have := hm.2.2 i him; unfold okSlot at this; omega
  obtain ⟨hbud1, hbud2⟩ := hbud
  have d0 : 0 ≤ sumB L i := by omega
  have d1 : sumB L i ≤ 256 := by omega
  have d2 : 1 ≤ sumB L (i + 1) := by omega
  have d3 : sumB L (i + 1) ≤ 256 := by omega
  have d4 : 1 ≤ sumB L m := by omega
  have d5 : sumB L m ≤ 256 := by omega
  have Hmono := Lib.hid hmono
  have Hi := Lib.hid (And.intro (show sumB L i ≤ sumB L i + off by omega) (show sumB L i + off < sumB L (i + 1) by omega))
  have hcnd : (sumB L m == 0) = false := by simp; omega
  clear hmono hsum b0 b1 b2
  go_enter Try.func11, Try.ntmps11
  go_wp2_with fail
  refine (tnone _ _ _ _ _ _ h.alloc hm1).mono ?_
  rintro e w' ⟨rfl, rfl⟩
  go_wp2_with fail
  refine (Calls.lat (tperiod _ _ _ _ _ _ h.alloc hm)).mono ?_
  rintro e w' ⟨rfl, x1, rfl⟩
  go_wp2_with fail
  refine (Calls.lat (tin _ _ _ _ _ _ i _ h.alloc.later hm him Hi.out.1 Hi.out.2)).mono ?_
  rintro e w' ⟨rfl, x2, rfl⟩
  go_wp2_with fail
  go_region
  go_wp2
  refine bodyPost_ret (v := .tuple #[.agg #[.int .i64 (L i).1, .int .i64 i, .int .i64 (sumB L i + off - (sumB L (i + 1) - (L i).2)), .int .i64 q], .int .i64 0]) (by simp [results, Try.results11, go_sem]) rfl ⟨by rw [Hmono.out], (by refine (?_ : Bel _ _ _).1; repeat (first | exact hbel | exact Bel.refl _ | apply Bel.later | apply Bel.alloc | apply Bel.drew | (refine Bel.laterB ?_ (by first | exact Nat.le_refl _ | omega | (simp; omega) | simp)) | (refine Bel.setCell ?_ (by first | exact Nat.le_refl _ | omega | (simp; omega) | simp))))⟩

theorem tat_neg (b g cap m : Nat) (L : Nat → Int × Int) (n : Int) (w : World) (h : TabAt w b g cap L m) (hm : okTab L m) (hn : n < 0) :
    Calls Try.prog 11 #[.pointer (some ⟨b, 0, none⟩), .int .i64 n] w fun e w' => e = .returned (.tuple #[.agg #[.int .i64 0, .int .i64 0, .int .i64 0, .int .i64 0], .int .i64 1]) ∧ Below w.heap.size w w' := by
  have hm1 := hm.1
  go_enter Try.func11, Try.ntmps11
  go_wp2_with fail
  refine (tnone _ _ _ _ _ _ h.alloc hm1).mono ?_
  rintro e w' ⟨rfl, rfl⟩
  go_wp2_with fail
  exact bodyPost_ret (v := .tuple #[.agg #[.int .i64 0, .int .i64 0, .int .i64 0, .int .i64 0], .int .i64 1]) (by simp [results, Try.results11, go_sem]) rfl ⟨rfl, (by refine (?_ : Bel _ _ _).1; repeat (first | exact hbel | exact Bel.refl _ | apply Bel.later | apply Bel.alloc | apply Bel.drew | (refine Bel.laterB ?_ (by first | exact Nat.le_refl _ | omega | (simp; omega) | simp)) | (refine Bel.setCell ?_ (by first | exact Nat.le_refl _ | omega | (simp; omega) | simp))))⟩

theorem tstarts (b g cap m : Nat) (L : Nat → Int × Int) (n q : Int) (i : Nat) (off : Int) (w : World) (h : TabAt w b g cap L m) (hm : okTab L m) (hs : StepAt L m n q i off) (hn : n ≤ 9223372036854775807) :
    Calls Try.prog 12 #[.pointer (some ⟨b, 0, none⟩), .int .i64 n] w fun e w' => e = .returned (.bool (off == 0)) ∧ Below w.heap.size w w' := by
  go_enter Try.func12, Try.ntmps12
  go_wp2_with fail
  refine (Calls.lat (tat _ _ _ _ _ n q i off _ h hm hs hn)).mono ?_
  rintro e w' ⟨rfl, x1, rfl⟩
  go_wp2_with fail
  go_ret
  exact ⟨rfl, (by refine (?_ : Bel _ _ _).1; repeat (first | exact hbel | exact Bel.refl _ | apply Bel.later | apply Bel.alloc | apply Bel.drew | (refine Bel.laterB ?_ (by first | exact Nat.le_refl _ | omega | (simp; omega) | simp)) | (refine Bel.setCell ?_ (by first | exact Nat.le_refl _ | omega | (simp; omega) | simp))))⟩

theorem tstarts_neg (b g cap m : Nat) (L : Nat → Int × Int) (n : Int) (w : World) (h : TabAt w b g cap L m) (hm : okTab L m) (hn : n < 0) :
    Calls Try.prog 12 #[.pointer (some ⟨b, 0, none⟩), .int .i64 n] w fun e w' => e = .returned (.bool false) ∧ Below w.heap.size w w' := by
  go_enter Try.func12, Try.ntmps12
  go_wp2_with fail
  refine (Calls.lat (tat_neg _ _ _ _ _ n _ h hm hn)).mono ?_
  rintro e w' ⟨rfl, x1, rfl⟩
  go_wp2_with fail
  go_ret
  exact ⟨rfl, (by refine (?_ : Bel _ _ _).1; repeat (first | exact hbel | exact Bel.refl _ | apply Bel.later | apply Bel.alloc | apply Bel.drew | (refine Bel.laterB ?_ (by first | exact Nat.le_refl _ | omega | (simp; omega) | simp)) | (refine Bel.setCell ?_ (by first | exact Nat.le_refl _ | omega | (simp; omega) | simp))))⟩

set_option maxHeartbeats 400000 in
theorem tshare (b g cap n : Nat) (L : Nat → Int × Int) (gu : Int) (w : World) (h : TabAt w b g cap L n) (hn : okTab L n) :
    Calls Try.prog 14 #[.pointer (some ⟨b, 0, none⟩), .int .i64 gu] w fun e w' => e = .returned (.int .i64 (shareB L gu n)) ∧ Below w.heap.size w w' := by
  obtain ⟨hn1, hn8, hok⟩ := hn
  have hl := h.list
  have hb := lt_heap h.1
  go_enter Try.func14, Try.ntmps14
  go_wp2_with fail
  refine (tnone _ _ _ _ _ _ h hn1).mono ?_
  rintro e w' ⟨rfl, rfl⟩
  go_wp2_with fail
  go_loopw [5, 15] (fun s v wr => ∃ k : Nat, k ≤ n ∧ v = .int .i64 k ∧ s = .int .i64 (shareB L gu k) ∧ Bel w.heap.size w wr) (fun _ v _ => n - (intOf v).toNat)
  case atStart => exact ⟨0, Nat.zero_le _, rfl, rfl, Bel.refl _⟩
  case round =>
    obtain ⟨k, hk, rfl, rfl, hbel⟩ := hrel
    by_cases hlt : k < n
    · have ht := h.below hbel.1
      obtain ⟨c1, c2⟩ := ht.2.2 k hlt
      have sb := shareB_bound gu hok k hk
      obtain ⟨sb0, sb1⟩ := sb
      have hks : shareB L gu k ≤ 256 := by omega
      have hbud : 1 ≤ (L k).2 ∧ (L k).2 ≤ 32 := by have := hok k hlt; unfold okSlot at this; omega
      obtain ⟨hbud1, hbud2⟩ := hbud
      have hs1 : (L k).1 = gu → shareB L gu (k + 1) = shareB L gu k + (L k).2 := fun e => by rw [shareB_succ, if_pos e]
      have hs2 : ¬ (L k).1 = gu → shareB L gu (k + 1) = shareB L gu k := fun e => by rw [shareB_succ, if_neg e]
      have Hs1 := Lib.hid hs1
      have Hs2 := Lib.hid hs2
      clear hs1 hs2 sb1
      cases he : ((L k).1 == gu) with
      | true =>
        go_wp2_with fail
        go_roundw
        case rel => exact ⟨k + 1, by omega, by go_num, by rw [Hs1.out (by simpa using he)], (by repeat (first | exact hbel | exact Bel.refl _ | apply Bel.later | apply Bel.alloc | apply Bel.drew | (refine Bel.laterB ?_ (by first | exact Nat.le_refl _ | omega | (simp; omega) | simp)) | (refine Bel.setCell ?_ (by first | exact Nat.le_refl _ | omega | (simp; omega) | simp))))⟩
        case measure => simp [intOf]; omega
      | false =>
        go_wp2_with fail
        go_roundw
        case rel => exact ⟨k + 1, by omega, by go_num, by rw [Hs2.out (by simpa using he)], (by repeat (first | exact hbel | exact Bel.refl _ | apply Bel.later | apply Bel.alloc | apply Bel.drew | (refine Bel.laterB ?_ (by first | exact Nat.le_refl _ | omega | (simp; omega) | simp)) | (refine Bel.setCell ?_ (by first | exact Nat.le_refl _ | omega | (simp; omega) | simp))))⟩
        case measure => simp [intOf]; omega
    · obtain rfl : k = n := by omega
      go_wp2
      go_ret
      exact ⟨rfl, hbel.1⟩

def slotB (gu bu : Int) : Bool := decide (0 ≤ gu) && (decide (gu < 4) && (decide (1 ≤ bu) && decide (bu ≤ 32)))
theorem slotB_iff (gu bu : Int) : slotB gu bu = true ↔ okSlot (gu, bu) := by simp [slotB, okSlot]

theorem slot_any (gu bu : Int) (w : World) : Calls Try.prog 43 #[.agg #[.int .i64 gu, .int .i64 bu]] w fun e w' => e = .returned (.bool (slotB gu bu)) ∧ Below w.heap.size w w' := by
  by_cases h0 : 0 ≤ gu
  case' neg => have h0' : decide (0 ≤ gu) = false := by simp; omega
  case' pos =>
    by_cases h1 : gu < 4
    case' neg => have h1' : decide (gu < 4) = false := by simp; omega
    case' pos =>
      by_cases h2 : 1 ≤ bu
      case' neg => have h2' : decide (1 ≤ bu) = false := by simp; omega
  all_goals
    go_enter Try.func43, Try.ntmps43
    go_wp2
    go_ret
    exact ⟨ret_bool (by simp [slotB, *]), (by refine (?_ : Bel _ _ _).1; repeat (first | exact hbel | exact Bel.refl _ | apply Bel.later | apply Bel.alloc | apply Bel.drew | (refine Bel.laterB ?_ (by first | exact Nat.le_refl _ | omega | (simp; omega) | simp)) | (refine Bel.setCell ?_ (by first | exact Nat.le_refl _ | omega | (simp; omega) | simp))))⟩

theorem adder (c : Nat) (s n : Int) (w : World) (h : w.cell? ⟨c, 0, none⟩ = some (.int .i64 s)) (hf : w.frozen? ⟨c, 0, none⟩ = false) (h0 : 0 ≤ s) (h1 : s ≤ 256) (h2 : 1 ≤ n) (h3 : n ≤ 32) :
    Calls Try.prog 42 #[.int .i64 n, .pointer (some ⟨c, 0, none⟩)] w fun e w' => e = .returned (.int .i64 (s + n)) ∧ w' = w.setCell ⟨c, 0, none⟩ (.int .i64 (s + n)) := by
  go_enter Try.func42, Try.ntmps42
  go_wp2
  go_ret
  exact ⟨rfl, rfl⟩

end Go.Proofs.Ytkicmdflflknaaa
