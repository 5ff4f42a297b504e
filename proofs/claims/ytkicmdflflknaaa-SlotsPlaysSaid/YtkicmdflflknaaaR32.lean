/- Contracts of the reference's slots: the same functions of the slots as the program's. -/
import Derived.Test.YtkicmdflflknaaaS32a
namespace Go.Proofs.Ytkicmdflflknaaa
open Go.ChangeShapes Go.WideShapes Go.ChangeAt Go.RowKit
set_option linter.unusedVariables false

def RefAt (w : World) (b g cap : Nat) (L : Nat → Int × Int) (n : Nat) : Prop :=
  w.heap[b]? = some (.cells [Value.slice (some ⟨g, 0, none⟩) n cap].toArray 80 (0, 0)) ∧ HasYet w g ∧ SlotCells w g L n
theorem RefAt.below {w w' : World} {b g cap n : Nat} {L : Nat → Int × Int} (h : RefAt w b g cap L n) (hb : Below w.heap.size w w') : RefAt w' b g cap L n :=
  ⟨(hb.block b (lt_heap h.1)).trans h.1, Nat.lt_of_lt_of_le h.2.1 hb.size, fun i hi => ⟨(hb.cell (p := ⟨g, i * 2, none⟩) h.2.1).trans (h.2.2 i hi).1, (hb.cell (p := ⟨g, i * 2 + 1, none⟩) h.2.1).trans (h.2.2 i hi).2⟩⟩
theorem RefAt.later {w : World} {b g cap n : Nat} {L : Nat → Int × Int} {x : Lat w} (h : RefAt w b g cap L n) : RefAt (Proofs.Ytkicmdflflknaaa.later w x) b g cap L n := h.below (later_below w x)
theorem RefAt.alloc {w : World} {b g cap n : Nat} {L : Nat → Int × Int} {o : Obj} (h : RefAt w b g cap L n) : RefAt (w.alloc o) b g cap L n := h.below (Bel.refl w).alloc.1
theorem RefAt.list {w : World} {b g cap n : Nat} {L : Nat → Int × Int} (h : RefAt w b g cap L n) : w.cell? ⟨b, 0, none⟩ = some (.slice (some ⟨g, 0, none⟩) n cap) := cell_of_heap h.1 0

set_option maxHeartbeats 400000 in
theorem rperiod (b g cap n : Nat) (L : Nat → Int × Int) (w : World) (h : RefAt w b g cap L n) (hn : okTab L n) : Calls Try.prog 33 #[.pointer (some ⟨b, 0, none⟩)] w fun e w' => e = .returned (.int .i64 (sumB L n)) ∧ w = w' := by
  obtain ⟨hn1, hn8, hok⟩ := hn
  have hl := h.list
  go_enter Try.func33, Try.ntmps33
  go_wp2
  go_loop [3, 4] (fun s v => ∃ k : Nat, k ≤ n ∧ v = .int .i64 k ∧ s = .int .i64 (sumB L k)) (fun _ v => n - (intOf v).toNat)
  case atStart => exact ⟨0, Nat.zero_le _, rfl, rfl⟩
  case round =>
    obtain ⟨k, hk, rfl, rfl⟩ := hrel
    by_cases hlt : k < n
    · obtain ⟨c1, c2⟩ := h.2.2 k hlt
      have sb := sumB_bound hok k hk
      have s0 : 0 ≤ sumB L k := by omega
      have s1 : sumB L k ≤ 256 := by omega
      have hbud : 1 ≤ (L k).2 ∧ (L k).2 ≤ 32 := by have := hok k hlt; unfold okSlot at this; omega
      obtain ⟨hbud1, hbud2⟩ := hbud
      clear sb
      go_wp2
      go_round
      case rel => exact ⟨k + 1, by omega, by go_num, rfl⟩
      case measure => simp [intOf]; omega
    · obtain rfl : k = n := by omega
      go_wp2
      go_ret
      exact ⟨rfl, rfl⟩

set_option maxHeartbeats 400000 in
theorem rshare (b g cap n : Nat) (L : Nat → Int × Int) (gu : Int) (w : World) (h : RefAt w b g cap L n) (hn : okTab L n) : Calls Try.prog 32 #[.pointer (some ⟨b, 0, none⟩), .int .i64 gu] w fun e w' => e = .returned (.int .i64 (shareB L gu n)) ∧ w = w' := by
  obtain ⟨hn1, hn8, hok⟩ := hn
  have hl := h.list
  go_enter Try.func32, Try.ntmps32
  go_wp2
  go_loop [5, 6] (fun s v => ∃ k : Nat, k ≤ n ∧ v = .int .i64 k ∧ s = .int .i64 (shareB L gu k)) (fun _ v => n - (intOf v).toNat)
  case atStart => exact ⟨0, Nat.zero_le _, rfl, rfl⟩
  case round =>
    obtain ⟨k, hk, rfl, rfl⟩ := hrel
    by_cases hlt : k < n
    · obtain ⟨c1, c2⟩ := h.2.2 k hlt
      have sb := shareB_bound gu hok k hk
      obtain ⟨s0, sb1⟩ := sb
      have s1 : shareB L gu k ≤ 256 := by omega
      have hbud : 1 ≤ (L k).2 ∧ (L k).2 ≤ 32 := by have := hok k hlt; unfold okSlot at this; omega
      obtain ⟨hbud1, hbud2⟩ := hbud
      have hs1 : (L k).1 = gu → shareB L gu (k + 1) = shareB L gu k + (L k).2 := fun e => by rw [shareB_succ, if_pos e]
      have hs2 : ¬ (L k).1 = gu → shareB L gu (k + 1) = shareB L gu k := fun e => by rw [shareB_succ, if_neg e]
      have Hs1 := Lib.hid hs1
      have Hs2 := Lib.hid hs2
      clear hs1 hs2 sb1
      cases he : ((L k).1 == gu) with
      | true =>
        go_wp2
        go_round
        case rel => exact ⟨k + 1, by omega, by go_num, by rw [Hs1.out (by simpa using he)]⟩
        case measure => simp [intOf]; omega
      | false =>
        go_wp2
        go_round
        case rel => exact ⟨k + 1, by omega, by go_num, by rw [Hs2.out (by simpa using he)]⟩
        case measure => simp [intOf]; omega
    · obtain rfl : k = n := by omega
      go_wp2
      go_ret
      exact ⟨rfl, rfl⟩

theorem rat_neg (b g cap m : Nat) (L : Nat → Int × Int) (n : Int) (w : World) (hn : n < 0) :
    Calls Try.prog 31 #[.pointer (some ⟨b, 0, none⟩), .int .i64 n] w fun e w' => e = .returned (.tuple #[.agg #[.int .i64 0, .int .i64 0, .int .i64 0, .int .i64 0], .int .i64 1]) ∧ Below w.heap.size w w' := by
  go_enter Try.func31, Try.ntmps31
  go_wp2
  exact bodyPost_ret (v := .tuple #[.agg #[.int .i64 0, .int .i64 0, .int .i64 0, .int .i64 0], .int .i64 1]) (by simp [results, Try.results31, go_sem]) rfl ⟨rfl, (by refine (?_ : Bel _ _ _).1; repeat (first | exact hbel | exact Bel.refl _ | apply Bel.later | apply Bel.alloc | apply Bel.drew | (refine Bel.laterB ?_ (by first | exact Nat.le_refl _ | omega | (simp; omega) | simp)) | (refine Bel.setCell ?_ (by first | exact Nat.le_refl _ | omega | (simp; omega) | simp))))⟩

set_option maxHeartbeats 1000000 in
theorem rat (b g cap m : Nat) (L : Nat → Int × Int) (n q : Int) (i : Nat) (off : Int) (w : World) (h : RefAt w b g cap L m) (hm : okTab L m) (hs : StepAt L m n q i off) (hn : n ≤ 9223372036854775807) :
    Calls Try.prog 31 #[.pointer (some ⟨b, 0, none⟩), .int .i64 n] w fun e w' => e = .returned (.tuple #[.agg #[.int .i64 (L i).1, .int .i64 i, .int .i64 off, .int .i64 q], .int .i64 0]) ∧ Below w.heap.size w w' := by
  have hb := lt_heap h.1
  have hg := h.2.1
  obtain ⟨p1, p2, p3⟩ := hs.parts hm.2.2
  have him := hs.1
  have b2 := sumB_bound hm.2.2 m (Nat.le_refl _)
  have hm8 := hm.2.1
  have hm1 := hm.1
  have s1 := hs.2.1
  have s2 := hs.2.2.1
  clear hs
  have d4 : 1 ≤ sumB L m := by omega
  have d5 : sumB L m ≤ 256 := by omega
  have hcnd : (sumB L m == 0) = false := by simp; omega
  have hi8 : (i : Int) < 8 := by omega
  clear b2
  go_enter Try.func31, Try.ntmps31
  go_wp2_with (go_at_call 33; refine (rperiod _ _ _ _ L _ h.alloc hm).mono ?_; rintro e w' ⟨rfl, rfl⟩)
  go_loop [7, 8] (fun s v => ∃ j : Nat, j ≤ i ∧ v = .int .i64 j ∧ s = .int .i64 (sumB L i - sumB L j + off)) (fun _ v => i - (intOf v).toNat)
  case atStart => exact ⟨0, Nat.zero_le _, rfl, by simp [p2, sumB]⟩
  case round =>
    obtain ⟨j, hj, rfl, rfl⟩ := hrel
    obtain ⟨c1, c2⟩ := h.2.2 j (by omega)
    have hl := h.list
    have b0 := sumB_bound hm.2.2 i (by omega)
    have b1 := sumB_bound hm.2.2 j (by omega)
    have bm := sumB_mono hm.2.2 j i hj (by omega)
    have d6 : 0 ≤ sumB L i - sumB L j + off := by omega
    have hbi := hm.2.2 i him
    unfold okSlot at hbi
    have d7 : sumB L i - sumB L j + off ≤ 1000 := by omega
    have hbud : 1 ≤ (L j).2 ∧ (L j).2 ≤ 32 := by have := hm.2.2 j (by omega); unfold okSlot at this; omega
    obtain ⟨hbud1, hbud2⟩ := hbud
    by_cases hji : j < i
    · have bm2 := sumB_mono hm.2.2 (j + 1) i hji (by omega)
      rw [sumB_succ] at bm2
      obtain ⟨z, hz⟩ : ∃ z, sumB L i - sumB L j + off = z := ⟨_, rfl⟩
      rw [hz] at d6 d7 ⊢
      have hlt : ¬ (z < (L j).2) := by omega
      have hzn : sumB L i - sumB L (j + 1) + off = z - (L j).2 := by rw [sumB_succ]; omega
      have Hz := Lib.hid hzn
      clear b0 b1 bm bm2 hbi hz hzn
      go_wp2
      go_round
      case rel => exact ⟨j + 1, by omega, by go_num, by rw [Hz.out]⟩
      case measure => simp [intOf]; omega
    · obtain rfl : j = i := by omega
      have e0 : sumB L j - sumB L j + off = off := by omega
      rw [e0] at d6 d7 ⊢
      clear b0 b1 bm hbi e0
      go_wp2
      go_region
      go_wp2
      exact bodyPost_ret (v := .tuple #[.agg #[.int .i64 (L j).1, .int .i64 j, .int .i64 off, .int .i64 q], .int .i64 0]) (by simp [results, Try.results31, go_sem]) rfl ⟨rfl, (by refine (?_ : Bel _ _ _).1; repeat (first | exact hbel | exact Bel.refl _ | apply Bel.later | apply Bel.alloc | apply Bel.drew | (refine Bel.laterB ?_ (by first | exact Nat.le_refl _ | omega | (simp; omega) | simp)) | (refine Bel.setCell ?_ (by first | exact Nat.le_refl _ | omega | (simp; omega) | simp))))⟩

theorem rnew_long (p : Option Addr) (n c : Nat) (w : World) (hn : n < 1 ∨ 8 < n) : Calls Try.prog 30 #[.slice p n c] w fun e w' => e = .returned (.tuple #[.pointer none, .int .i64 17]) ∧ w = w' := by
  rcases hn with hn | hn
  all_goals
    go_enter Try.func30, Try.ntmps30
    go_wp2
    go_ret2
    exact ⟨rfl, rfl⟩

set_option maxRecDepth 100000 in
set_option maxHeartbeats 1000000 in
theorem rnew_slots (b o n c : Nat) (L : Nat → Int × Int) (w : World) (hn : 1 ≤ n) (hn8 : n ≤ 8) (h : SlotsIn w b o L n) (hb : b < w.heap.size) :
    Calls Try.prog 30 #[.slice (some ⟨b, o, none⟩) n c] w fun e w' => Below w.heap.size w w' ∧ ((okAll L n ∧ ∃ t g cap, e = .returned (.tuple #[.pointer (some ⟨t, 0, none⟩), .int .i64 0]) ∧ RefAt w' t g cap L n) ∨ (¬ okAll L n ∧ e = .returned (.tuple #[.pointer none, .int .i64 17]))) := by
  obtain ⟨i0, hi, hz0, hz1, hz2⟩ := info_parts Try.infoSlot
  go_enter Try.func30, Try.ntmps30
  go_wp2
  go_loop [4] (fun v => ∃ k : Nat, k ≤ n ∧ v = .int .i64 k ∧ okAll L k) (fun v => n - (intOf v).toNat)
  case atStart => exact ⟨0, Nat.zero_le _, rfl, fun i hi => absurd hi (Nat.not_lt_zero _)⟩
  case round =>
    obtain ⟨k, hk, rfl, hok⟩ := hrel
    by_cases hlt : k < n
    · obtain ⟨c1, c2⟩ := h k hlt
      by_cases hks : okSlot (L k)
      · have hk2 := hks
        unfold okSlot at hk2
        obtain ⟨k1, k2, k3, k4⟩ := hk2
        go_wp2
        go_round
        case rel =>
          refine ⟨k + 1, by omega, by go_num, ?_⟩
          intro i hi
          by_cases e : i = k
          · subst e; exact hks
          · exact hok i (by omega)
        case measure => simp [intOf]; omega
      · have Hno := Lib.hid (show ¬ okAll L n from fun hall => hks (hall k hlt))
        by_cases k1 : 0 ≤ (L k).1
        case' pos =>
          by_cases k2 : (L k).1 < 4
          case' pos =>
            by_cases k3 : 1 ≤ (L k).2
            case' pos =>
              have k4 : ¬ ((L k).2 ≤ 32) := fun k4 => hks ⟨k1, k2, k3, k4⟩
        all_goals
          clear hks
          go_wp2
          go_ret2
          exact ⟨Below.refl _ _, .inr ⟨Hno.out, rfl⟩⟩
    · obtain rfl : k = n := by omega
      go_wp2_with (at_builtin; refine wpList_append_own _ rfl (.tmp 49) (.tmp 50) 23 rfl w.heap.size 55 i0 (.agg #[.int .i64 0, .int .i64 0]) 2 16 Try.underlying23 hi hz0 hz1 hz2 rfl (by decide) _ 0 [] rfl (World.ownsRow_made w #[] 0 (Nat.le_refl _) (Nat.zero_le _) rfl) ⟨b, o, none⟩ k c (flat2 L k) rfl (flat2_length L k) ?c1 (flat2_one L k) ?c3 ?c4 ?c5 ?_)
      case c1 => exact fun j u hj => by have := h.news j u hj; rwa [add_plain] at this
      case c3 => unfold maxLen; omega
      case c4 => omega
      intro v' w1 hown hgrow _
      obtain ⟨g, cap, rfl, hs, hy, hg, _⟩ := slotCells_of_owned (n := k) (L := L) (by simpa using hown) hn
      have hb1 : Below w.heap.size w w1 := (Bel.upd (Bel.refl w).alloc (show Upd w.heap.size _ _ from hgrow) (Nat.le_refl _)).1
      go_wp2
      go_ret2
      have hbx := (Bel.refl w1).alloc (o := .cells [Value.slice (some ⟨g, 0, none⟩) k cap].toArray 80) |>.1
      refine ⟨hb1.trans (hbx.mono hb1.size), .inl ⟨hok, _, g, cap, rfl, Go.heap_alloc_new w1 _, Nat.lt_of_lt_of_le hy hbx.size, ?_⟩⟩
      exact fun i hi => ⟨(hbx.cell (p := ⟨g, i * 2, none⟩) hy).trans (hs i hi).1, (hbx.cell (p := ⟨g, i * 2 + 1, none⟩) hy).trans (hs i hi).2⟩

theorem rnew_any (p : Option Addr) (n c : Nat) (L : Nat → Int × Int) (w : World) (h : HasSlots w p n L) :
    Calls Try.prog 30 #[.slice p n c] w fun e w' => Below w.heap.size w w' ∧ ((okTab L n ∧ ∃ t g cap, e = .returned (.tuple #[.pointer (some ⟨t, 0, none⟩), .int .i64 0]) ∧ RefAt w' t g cap L n) ∨ (¬ okTab L n ∧ e = .returned (.tuple #[.pointer none, .int .i64 17]))) := by
  by_cases hn : 1 ≤ n ∧ n ≤ 8
  · obtain ⟨b, o, rfl, hb, hs⟩ := h hn.1
    refine (rnew_slots b o n c L w hn.1 hn.2 hs hb).mono fun e w' ⟨hb, hc⟩ => ⟨hb, ?_⟩
    rcases hc with ⟨ho, hx⟩ | ⟨ho, hx⟩
    · exact .inl ⟨⟨hn.1, hn.2, ho⟩, hx⟩
    · exact .inr ⟨fun h => ho h.2.2, hx⟩
  · refine (rnew_long p n c w (by omega)).mono fun e w' ⟨he, hw⟩ => ?_
    subst hw
    exact ⟨Below.refl _ _, .inr ⟨fun h => hn ⟨h.1, h.2.1⟩, he⟩⟩

end Go.Proofs.Ytkicmdflflknaaa
