/- slots.New and slices.Clone at its type; the reference's New. -/
import Derived.Test.YtkicmdflflknaaaS32n
namespace Go.Proofs.Ytkicmdflflknaaa
open Go.ChangeShapes Go.WideShapes Go.ChangeAt Go.RowKit
set_option linter.unusedVariables false

def flat2 (L : Nat → Int × Int) (n : Nat) : List Value := (List.range n).flatMap fun i => [.int .i64 (L i).1, .int .i64 (L i).2]
theorem flat2_succ (L : Nat → Int × Int) (n : Nat) : flat2 L (n + 1) = flat2 L n ++ [.int .i64 (L n).1, .int .i64 (L n).2] := by
  unfold flat2
  rw [List.range_succ, List.flatMap_append]
  simp
theorem flat2_length (L : Nat → Int × Int) : ∀ n, (flat2 L n).length = n * 2
  | 0 => rfl
  | n + 1 => by rw [flat2_succ, List.length_append, flat2_length L n]; simp; omega
theorem flat2_at (L : Nat → Int × Int) : ∀ (n i : Nat), i < n → (flat2 L n)[i * 2]? = some (.int .i64 (L i).1) ∧ (flat2 L n)[i * 2 + 1]? = some (.int .i64 (L i).2)
  | 0, i, h => by omega
  | n + 1, i, h => by
    have hl := flat2_length L n
    rw [flat2_succ]
    by_cases e : i = n
    · subst e
      rw [List.getElem?_append_right (by omega), List.getElem?_append_right (by omega), hl]
      simp
    · have := flat2_at L n i (by omega)
      rw [List.getElem?_append_left (by omega), List.getElem?_append_left (by omega)]
      exact this
theorem flat2_one (L : Nat → Int × Int) (n : Nat) : ∀ u ∈ flat2 L n, u.oneCell' = true := by
  intro u hu
  simp only [flat2, List.mem_flatMap, List.mem_cons, List.not_mem_nil, or_false] at hu
  obtain ⟨i, _, rfl | rfl⟩ := hu <;> rfl
/-- The cells from ⟨b, o⟩ on are these slots. -/
def SlotsIn (w : World) (b o : Nat) (L : Nat → Int × Int) (n : Nat) : Prop := ∀ i, i < n → w.cell? ⟨b, o + i * 2, none⟩ = some (.int .i64 (L i).1) ∧ w.cell? ⟨b, o + i * 2 + 1, none⟩ = some (.int .i64 (L i).2)
theorem SlotsIn.news {w : World} {b o n : Nat} {L : Nat → Int × Int} (h : SlotsIn w b o L n) : ∀ j u, (flat2 L n)[j]? = some u → w.cell? ((⟨b, o, none⟩ : Addr).add j) = some u := by
  intro j u hj
  have hjl : j < n * 2 := by rw [← flat2_length L n]; exact (List.getElem?_eq_some_iff.1 hj).1
  rw [add_plain]
  obtain ⟨i, e⟩ : ∃ i, j = i * 2 ∨ j = i * 2 + 1 := ⟨j / 2, by omega⟩
  have hi : i < n := by omega
  obtain ⟨f1, f2⟩ := flat2_at L n i hi
  obtain ⟨c1, c2⟩ := h i hi
  rcases e with rfl | rfl
  · rw [f1] at hj
    cases hj
    exact c1
  · rw [f2] at hj
    cases hj
    exact c2
theorem SlotsIn.below {w w' : World} {b o n : Nat} {L : Nat → Int × Int} (h : SlotsIn w b o L n) (hb : Below w.heap.size w w') (hlt : b < w.heap.size) : SlotsIn w' b o L n :=
  fun i hi => ⟨(hb.cell (p := ⟨b, o + i * 2, none⟩) hlt).trans (h i hi).1, (hb.cell (p := ⟨b, o + i * 2 + 1, none⟩) hlt).trans (h i hi).2⟩
theorem slotCells_of_owned {w : World} {B n : Nat} {v : Value} {e : TypeId} {L : Nat → Int × Int} (h : w.ownsRow B e 2 v n (flat2 L n)) (hn : 1 ≤ n) : ∃ g cap, v = .slice (some ⟨g, 0, none⟩) n cap ∧ SlotCells w g L n ∧ HasYet w g ∧ B ≤ g ∧ n ≤ cap ∧ cap ≤ maxLen := by
  rcases h.2 with ⟨_, h0⟩ | ⟨g, cap, cur, rfl, hb, hg, hle, hm, hs, ht⟩
  · omega
  · refine ⟨g, cap, rfl, fun i hi => ?_, lt_heap hg, hb, hle, hm⟩
    obtain ⟨f1, f2⟩ := flat2_at L n i hi
    rw [← ht] at f1 f2
    rw [List.getElem?_take] at f1 f2
    rw [if_pos (by omega)] at f1 f2
    have hc : ∀ o, w.cell? ⟨g, o, none⟩ = cur[o]? := fun o => by simp [World.cell?, hg]
    rw [hc, hc, ← Array.getElem?_toList, ← Array.getElem?_toList]
    exact ⟨f1, f2⟩

theorem Try.infoSlot : (Try.prog.info? 55).map (fun i => (i.zero, i.size, i.bytes)) = some (some (.agg #[.int .i64 0, .int .i64 0]), 2, 16) := by kernel_rfl

set_option maxHeartbeats 400000 in
theorem clone_slots (b o n c : Nat) (L : Nat → Int × Int) (w : World) (hn : 1 ≤ n) (hn8 : n ≤ 8) (h : SlotsIn w b o L n) (hb : b < w.heap.size) :
    Calls Try.prog 41 #[.slice (some ⟨b, o, none⟩) n c] w fun e w' => ∃ g cap, e = .returned (.slice (some ⟨g, 0, none⟩) n cap) ∧ SlotCells w' g L n ∧ HasYet w' g ∧ w.heap.size ≤ g ∧ Below w.heap.size w w' := by
  obtain ⟨i0, hi, hz0, hz1, hz2⟩ := info_parts Try.infoSlot
  have hnil := fun (wx : World) => Lib.run_eql_slice_nil (P := Try.prog) wx 23
  go_enter Try.func41, Try.ntmps41
  go_wp2_with (at_builtin; refine wpList_append_own _ rfl (.tmp 5) (.tmp 6) 23 rfl w.heap.size 55 i0 (.agg #[.int .i64 0, .int .i64 0]) 2 16 Try.underlying23 hi hz0 hz1 hz2 rfl (by decide) _ 0 [] rfl (World.ownsRow_made w #[] 0 (Nat.le_refl _) (Nat.zero_le _) rfl) ⟨b, o, none⟩ n c (flat2 L n) rfl (flat2_length L n) ?c1 (flat2_one L n) ?c3 ?c4 ?c5 ?_)
  case c1 => exact (h.below (Bel.refl w).alloc.1 hb).news
  case c3 => unfold maxLen; omega
  case c4 => omega
  case c5 => simp
  intro v' w1 hown hgrow _
  obtain ⟨g, cap, rfl, hs, hy, hg, _⟩ := slotCells_of_owned (n := n) (L := L) (by simpa using hown) hn
  go_wp2
  go_ret
  exact ⟨g, cap, rfl, hs, hy, hg, (Bel.upd (Bel.refl w).alloc (show Upd w.heap.size _ _ from hgrow) (Nat.le_refl _)).1⟩

/-- The program's slots as a parameter has them. -/
theorem SlotsIn.of_ok {w : World} {a : Option Addr} {len cap : Nat} {f : Nat → List Value} (h : SliceOk [some .i64, some .i64] w a len cap f) (hl : 1 ≤ len) :
    ∃ b o L, a = some ⟨b, o, none⟩ ∧ b < w.heap.size ∧ SlotsIn w b o L len := by
  obtain ⟨b, o, ha, hb, _, _⟩ := h.at (i := 0) (by omega)
  subst ha
  obtain ⟨L, hL⟩ := Deep.choose_lt (α := Int × Int) (n := len) (p := fun i p => w.cell? ⟨b, o + i * 2, none⟩ = some (.int .i64 p.1) ∧ w.cell? ⟨b, o + i * 2 + 1, none⟩ = some (.int .i64 p.2)) (fun i hi => by
    obtain ⟨b', o', n, n', ha, _, _, _, _, c1, c2⟩ := h.int2 hi
    simp only [Option.some.injEq, Addr.mk.injEq, and_true] at ha
    obtain ⟨rfl, rfl⟩ := ha
    exact ⟨(n, n'), c1, c2⟩)
  exact ⟨b, o, L, rfl, hb, hL⟩

theorem new_long (p : Option Addr) (n c : Nat) (w : World) (hn : n < 1 ∨ 8 < n) : Calls Try.prog 22 #[.slice p n c] w fun e w' => e = .returned (.tuple #[.pointer none, .int .i64 17]) ∧ w = w' := by
  rcases hn with hn | hn
  all_goals
    go_enter Try.func22, Try.ntmps22
    go_wp2_with fail
    go_ret2
    exact ⟨rfl, rfl⟩

set_option maxRecDepth 100000 in
set_option maxHeartbeats 1000000 in
/-- What New does: a table of these slots; or none. -/
theorem new_slots (b o n c : Nat) (L : Nat → Int × Int) (w : World) (hn : 1 ≤ n) (hn8 : n ≤ 8) (h : SlotsIn w b o L n) (hb : b < w.heap.size) :
    Calls Try.prog 22 #[.slice (some ⟨b, o, none⟩) n c] w fun e w' => Below w.heap.size w w' ∧ ((okAll L n ∧ ∃ t g cap, e = .returned (.tuple #[.pointer (some ⟨t, 0, none⟩), .int .i64 0]) ∧ TabAt w' t g cap L n) ∨ (¬ okAll L n ∧ e = .returned (.tuple #[.pointer none, .int .i64 17]))) := by
  go_enter Try.func22, Try.ntmps22
  go_wp2_with fail
  refine (clone_slots b o n c L _ hn hn8 h hb).mono ?_
  rintro e w1 ⟨g, cap, rfl, hs, hy, hg, hbel1⟩
  go_wp2_with fail
  have lb1 : b < w1.heap.size := by have := hbel1.size; omega
  have hin1 := h.below hbel1 hb
  have hg1 : g < w1.heap.size := hy
  have hT0 : ((w1.alloc (.cells (tabCells g n cap L 0).toArray 26)).alloc (.cells #[.int .i64 (sumB L 0)] 3)).heap[w1.heap.size]? = some (.cells (tabCells g n cap L 0).toArray 26 (0, 0)) := heap_alloc (Go.heap_alloc_new w1 _)
  have hC0 : ((w1.alloc (.cells (tabCells g n cap L 0).toArray 26)).alloc (.cells #[.int .i64 (sumB L 0)] 3)).heap[w1.heap.size + 1]? = some (.cells #[.int .i64 (sumB L 0)] 3 (0, 0)) := by
    have := Go.heap_alloc_new (w1.alloc (.cells (tabCells g n cap L 0).toArray 26)) (.cells #[.int .i64 (sumB L 0)] 3)
    rw [show (w1.alloc (.cells (tabCells g n cap L 0).toArray 26)).heap.size = w1.heap.size + 1 from by simp] at this
    exact this
  have HT0 := Lib.hid (And.intro hT0 hC0)
  clear hT0 hC0
  go_loopw [24] (fun iv wr => ∃ k : Nat, k ≤ n ∧ iv = .int .i64 k ∧ Bel w1.heap.size w1 wr ∧ okAll L k ∧ wr.heap[w1.heap.size]? = some (.cells (tabCells g n cap L k).toArray 26 (0, 0)) ∧ wr.heap[w1.heap.size + 1]? = some (.cells #[.int .i64 (sumB L k)] 3 (0, 0))) (fun iv _ => n - (intOf iv).toNat)
  case atStart => exact ⟨0, Nat.zero_le _, rfl, (by repeat (first | exact hbel | exact Bel.refl _ | apply Bel.later | apply Bel.alloc | apply Bel.drew | (refine Bel.laterB ?_ (by first | exact Nat.le_refl _ | omega | (simp; omega) | simp)) | (refine Bel.setCell ?_ (by first | exact Nat.le_refl _ | omega | (simp; omega) | simp)))), (fun i hi => absurd hi (Nat.not_lt_zero _)), HT0.out.1, HT0.out.2⟩
  case round =>
    obtain ⟨k, hk, rfl, hbel, hok, hT, hC⟩ := hrel
    have lT := lt_heap hT
    have lC := lt_heap hC
    by_cases hlt : k < n
    · obtain ⟨c1, c2⟩ := (hin1.below hbel.1 lb1) k hlt
      have lbr : b < wr.heap.size := by omega
      have hb0 := (sumB_bound hok k (Nat.le_refl _))
      have hs0 : 0 ≤ sumB L k := by omega
      have hs1 : sumB L k ≤ 256 := by omega
      clear hb0
      have t1 : wr.cell? ⟨w1.heap.size, 1 + k, none⟩ = some (.int .i64 0) := by
        rw [cell_of_heap hT, tabCells_ends _ _ _ _ _ _ (by omega), if_neg (Nat.lt_irrefl _)]
      have t2 : wr.frozen? ⟨w1.heap.size, 1 + k, none⟩ = false := frozen_of_heap hT _
      have t3 : wr.cell? ⟨w1.heap.size + 1, 0, none⟩ = some (.int .i64 (sumB L k)) := by simp [World.cell?, hC]
      have t4 : wr.frozen? ⟨w1.heap.size + 1, 0, none⟩ = false := by simp [World.frozen?, hC]
      have HT := Lib.hid (And.intro hT hC)
      have hk8 : (k : Int) < 8 := by omega
      have hk0 : (0 : Int) ≤ k := by omega
      clear hT hC
      cases hq : slotB (L k).1 (L k).2 with
      | false =>
        go_wp2_with fail
        refine (Calls.lat (slot_any _ _ _)).mono ?_
        rintro e w' ⟨rfl, x1, rfl⟩
        go_wp2_with fail
        go_ret2
        refine ⟨hbel1.trans (((by repeat (first | exact hbel | exact Bel.refl _ | apply Bel.later | apply Bel.alloc | apply Bel.drew | (refine Bel.laterB ?_ (by first | exact Nat.le_refl _ | omega | (simp; omega) | simp)) | (refine Bel.setCell ?_ (by first | exact Nat.le_refl _ | omega | (simp; omega) | simp)))) : Bel w1.heap.size w1 _).1.mono hbel1.size), .inr ⟨fun hall => ?_, rfl⟩⟩
        have := (slotB_iff _ _).2 (hall k hlt)
        rw [hq] at this
        cases this
      | true =>
        have hks := (slotB_iff _ _).1 hq
        have hks2 : 1 ≤ (L k).2 ∧ (L k).2 ≤ 32 := by unfold okSlot at hks; omega
        obtain ⟨hk1, hk2⟩ := hks2
        go_wp2_with fail
        refine (Calls.lat (slot_any _ _ _)).mono ?_
        rintro e w' ⟨rfl, x1, rfl⟩
        go_wp2_with fail
        go_region_held3 (fun w' : World => w'.cell? ⟨wr.heap.size, 1, none⟩ = some (.int .i64 (L k).2)) (simp [go_sem]) (first | (go_at_call 42; refine (adder (w1.heap.size + 1) (sumB L k) (L k).2 _ (by simp [go_sem, lC, t3]) (by simp [go_sem, lC, t4]) hs0 hs1 hk1 hk2).mono ?_; rintro e wa ⟨rfl, rfl⟩))
        go_wp2_with fail
        go_roundw
        case rel =>
          refine ⟨k + 1, by omega, by go_num, (by repeat (first | exact hbel | exact Bel.refl _ | apply Bel.later | apply Bel.alloc | apply Bel.drew | (refine Bel.laterB ?_ (by first | exact Nat.le_refl _ | omega | (simp; omega) | simp)) | (refine Bel.setCell ?_ (by first | exact Nat.le_refl _ | omega | (simp; omega) | simp)))), ?_, ?_, ?_⟩
          · intro i hi
            by_cases e : i = k
            · subst e; exact hks
            · exact hok i (by omega)
          · have h1 := heap_setCell_at (o := 1 + k) (u := .int .i64 (sumB L (k + 1))) (heap_setCell_ne (a := ⟨w1.heap.size + 1, 0, none⟩) (u := .int .i64 (sumB L k + (L k).2)) (heap_later (x := x1) (heap_alloc (o' := .cells #[.int .i64 (L k).1, .int .i64 (L k).2] 55) HT.out.1)) (by simp))
            rw [tabCells_set _ _ _ _ _ (by omega)] at h1
            exact h1
          · exact heap_setCell_ne (a := ⟨w1.heap.size, 1 + k, none⟩) (heap_setCell_at (o := 0) (u := .int .i64 (sumB L k + (L k).2)) (heap_later (x := x1) (heap_alloc (o' := .cells #[.int .i64 (L k).1, .int .i64 (L k).2] 55) HT.out.2))) (by simp)
        case measure => simp [intOf]; omega
    · obtain rfl : k = n := by omega
      go_wp2_with fail
      go_ret2
      exact ⟨hbel1.trans (hbel.1.mono hbel1.size), .inl ⟨hok, _, g, cap, rfl, hT, Nat.lt_of_lt_of_le hg1 hbel.2, fun i hi => ⟨(hbel.1.cell (p := ⟨g, i * 2, none⟩) hg1).trans (hs i hi).1, (hbel.1.cell (p := ⟨g, i * 2 + 1, none⟩) hg1).trans (hs i hi).2⟩⟩⟩

end Go.Proofs.Ytkicmdflflknaaa
