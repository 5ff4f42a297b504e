/- The reference of law 29: has, first, Next, Arm. -/
import Derived.Test.YtjlhdbkhebfghaaTmo
import Derived.Test.YtjlhdbkhebfghaaRowP
namespace Go.Proofs.Ytjlhdbkhebfghaa
open Go.ChangeShapes Go.WideShapes Go.ChangeAt Go.RowKit
set_option linter.unusedVariables false

def rfEnc (x : trIt) : List Value := [.int .i64 x.id, .int .i64 x.due]
theorem rfEnc_length (x : trIt) : (rfEnc x).length = 2 := rfl
abbrev RfAt (w : World) (b : Nat) (v : Value) (m : List trIt) : Prop := RowIn 94 2 rfEnc w b 68 (fun v => #[v]) v m
theorem rfBlk_ok : BlkOk (fun v => #[v]) 0 := ⟨fun _ => rfl, fun _ _ => rfl⟩
def hasM (m : List trIt) (id : Int) : Bool := m.any fun x => decide (x.id = id)
theorem hasM_true {m : List trIt} {id : Int} {i : Nat} (hi : i < m.length) (h : (atL m i).id = id) : hasM m id = true := List.any_eq_true.2 ⟨atL m i, mem_atL hi, by simpa using h⟩
theorem hasM_false {m : List trIt} {id : Int} (h : ∀ i, i < m.length → (atL m i).id ≠ id) : hasM m id = false := by
  unfold hasM
  rw [List.any_eq_false]
  intro x hx
  obtain ⟨i, hi, rfl⟩ := mem_is_atL hx
  simpa using h i hi

set_option maxRecDepth 20000 in
theorem rHas (b : Nat) (v : Value) (m : List trIt) (id : Int) (w : World) (h : RfAt w b v m) (hm : m.length ≤ 1000000) :
    Calls Try.prog 41 #[.pointer (some ⟨b, 0, none⟩), .int .i64 id] w fun e w' => e = .returned (.bool (hasM m id)) ∧ w = w' := by
  have q0 := h.field rfBlk_ok
  obtain ⟨a, c, rfl⟩ := h.shape
  go_enter Try.func41, Try.ntmps41
  go_wp2_with fail
  go_loopw [5] (fun jv wr => ∃ j : Nat, j ≤ m.length ∧ jv = .int .i64 j ∧ (∀ i, i < j → (atL m i).id ≠ id) ∧ wr = w) (fun jv _ => m.length - (intOf jv).toNat)
  case atStart => exact ⟨0, Nat.zero_le _, rfl, fun i hi => by omega, rfl⟩
  case round =>
    obtain ⟨j, hj, rfl, hbef, hwr⟩ := hrel
    obtain rfl := hwr.symm
    have HB := Lib.hid hbef
    clear hbef
    by_cases hjl : j < m.length
    · obtain ⟨g, rfl, hle, hmx, hbg, hg, hc, hf⟩ := h.at rfEnc_length hjl
      have c0 := hc j hjl 0 (by omega)
      simp only [rfEnc, List.getElem?_cons_zero, Nat.add_zero] at c0
      clear hc
      obtain ⟨d, hd⟩ : ∃ d, (atL m j).id = d := ⟨_, rfl⟩
      rw [hd] at c0
      have HD := Lib.hid hd
      clear hd
      by_cases e : d = id
      · subst e
        go_wp2
        go_ret
        exact ⟨ret_bool (hasM_true hjl HD.out).symm, rfl⟩
      · go_wp2
        go_roundw
        case rel => exact ⟨j + 1, by omega, by go_num, fun i hi => by
          rcases Nat.lt_succ_iff_lt_or_eq.1 hi with h1 | rfl
          · exact HB.out i h1
          · rw [HD.out]; exact e, trivial⟩
        case measure => simp [intOf]; omega
    · obtain rfl : j = m.length := by omega
      go_wp2
      go_ret
      exact ⟨ret_bool (hasM_false HB.out).symm, rfl⟩

/-- The place of the earliest of the first j; -1: there is none. -/
def bstD (m : List trIt) : Nat → Int
  | 0 => -1
  | j + 1 => if bstD m j < 0 ∨ (atL m j).due < (atL m (bstD m j).toNat).due then (j : Int) else bstD m j
theorem bstD_spec (m : List trIt) : ∀ j, 0 < j → ∃ k : Nat, k < j ∧ bstD m j = k ∧ (∀ i, i < j → (atL m k).due ≤ (atL m i).due) ∧ ∀ i, i < k → (atL m k).due < (atL m i).due
  | 0, h => by omega
  | 1, _ => ⟨0, by omega, by simp [bstD], fun i hi => (by
      obtain rfl : i = 0 := by omega
      exact Int.le_refl _), fun i hi => (by omega)⟩
  | j + 2, _ => by
    obtain ⟨k, hk, he, h1, h2⟩ := bstD_spec m (j + 1) (by omega)
    have hn : ¬ (bstD m (j + 1) < 0) := by rw [he]; omega
    by_cases hc : (atL m (j + 1)).due < (atL m k).due
    · refine ⟨j + 1, by omega, ?_, fun i hi => ?_, fun i hi => ?_⟩
      · rw [bstD, if_pos (.inr (by rw [he]; simpa using hc))]
      · rcases Nat.lt_succ_iff_lt_or_eq.1 hi with h | rfl
        · have := h1 i h; omega
        · exact Int.le_refl _
      · have := h1 i hi; omega
    · refine ⟨k, by omega, ?_, fun i hi => ?_, h2⟩
      · rw [bstD, if_neg (by rintro (h | h); exact hn h; rw [he] at h; exact hc (by simpa using h)), he]
      · rcases Nat.lt_succ_iff_lt_or_eq.1 hi with h | rfl
        · exact h1 i h
        · omega

set_option maxRecDepth 20000 in
set_option maxHeartbeats 1000000 in
theorem rFirst (b : Nat) (v : Value) (m : List trIt) (w : World) (h : RfAt w b v m) (hm : m.length ≤ 1000000) :
    Calls Try.prog 42 #[.pointer (some ⟨b, 0, none⟩)] w fun e w' => e = .returned (.int .i64 (bstD m m.length)) ∧ Below w.heap.size w w' := by
  have q0 := h.field rfBlk_ok
  have hlt := h.lt
  obtain ⟨a, c, rfl⟩ := h.shape
  go_enter Try.func42, Try.ntmps42
  go_wp2_with fail
  go_loopw [3, 4] (fun bv jv wr => ∃ j : Nat, j ≤ m.length ∧ jv = .int .i64 j ∧ bv = .int .i64 (bstD m j) ∧ Bel w.heap.size w wr) (fun _ jv _ => m.length - (intOf jv).toNat)
  case atStart => exact ⟨0, Nat.zero_le _, rfl, rfl, Bel.refl _⟩
  case round =>
    obtain ⟨j, hj, rfl, rfl, hbel⟩ := hrel
    have p0 := (hbel.1.cell (p := ⟨b, 0, none⟩) hlt).trans q0
    have hlr : b < wr.heap.size := Nat.lt_of_lt_of_le hlt hbel.2
    by_cases hjl : j < m.length
    · obtain ⟨g, rfl, hle, hmx, hbg, hg, hc, hf⟩ := h.at rfEnc_length hjl
      have hgr : g < wr.heap.size := Nat.lt_of_lt_of_le hg hbel.2
      rcases Nat.eq_zero_or_pos j with rfl | hj0
      · have hb1 : bstD m 0 = -1 := rfl
        have hb2 : bstD m 1 = 0 := by simp [bstD]
        have HB2 := Lib.hid hb2
        rw [hb1]
        clear hc hb1 hb2
        go_wp2_with fail
        refine wp_region_later (by kernel_rfl) (by kernel_rfl) ?_
        (repeat (go_big_quiet_step (fail)))
        refine wpQuiet_nil ?_
        intro _ hw'
        obtain ⟨x8, hw''⟩ := hw'
        subst hw''
        go_wp2
        go_roundw
        case rel => exact ⟨1, by omega, by go_num, by rw [HB2.out]; rfl, hbel.later⟩
        case measure => simp [intOf]; omega
      · obtain ⟨k, hk, hbk, _, _⟩ := bstD_spec m j hj0
        have e1 := (hbel.1.cell (p := ⟨g, j * 2 + 1, none⟩) hg).trans (hc j hjl 1 (by omega))
        have e2 := (hbel.1.cell (p := ⟨g, k * 2 + 1, none⟩) hg).trans (hc k (by omega) 1 (by omega))
        simp only [rfEnc, List.getElem?_cons_zero, List.getElem?_cons_succ] at e1 e2
        have hkl : k < m.length := by omega
        have hsucc : bstD m (j + 1) = if (atL m j).due < (atL m k).due then (j : Int) else k := by
          rw [bstD, hbk]
          by_cases h : (atL m j).due < (atL m k).due
          · rw [if_pos h, if_pos (.inr (by simpa using h))]
          · rw [if_neg h, if_neg (by rintro (h1 | h1); omega; exact h (by simpa using h1))]
        rw [hbk]
        have hkn : decide ((k : Int) < 0) = false := decide_eq_false (by omega)
        generalize (atL m j).due = dj at *
        generalize (atL m k).due = dk at *
        clear hc hbk
        by_cases hd : dj < dk
        · rw [if_pos hd] at hsucc
          have HS := Lib.hid hsucc
          clear hsucc
          go_wp2_with fail
          refine wp_region_later (by kernel_rfl) (by kernel_rfl) ?_
          (repeat (go_big_quiet_step (fail)))
          refine wpQuiet_nil ?_
          intro _ hw'
          obtain ⟨x8, hw''⟩ := hw'
          subst hw''
          go_wp2
          go_roundw
          case rel => exact ⟨j + 1, by omega, by go_num, by rw [HS.out], hbel.later⟩
          case measure => simp [intOf]; omega
        · rw [if_neg hd] at hsucc
          have HS := Lib.hid hsucc
          clear hsucc
          go_wp2_with fail
          refine wp_region_later (by kernel_rfl) (by kernel_rfl) ?_
          (repeat (go_big_quiet_step (fail)))
          refine wpQuiet_nil ?_
          intro _ hw'
          obtain ⟨x8, hw''⟩ := hw'
          subst hw''
          go_wp2
          go_roundw
          case rel => exact ⟨j + 1, by omega, by go_num, by rw [HS.out], hbel.later⟩
          case measure => simp [intOf]; omega
    · obtain rfl : j = m.length := by omega
      go_wp2
      go_ret
      exact ⟨rfl, hbel.1⟩

set_option maxRecDepth 20000 in
theorem rNext (b : Nat) (v : Value) (m : List trIt) (w : World) (h : RfAt w b v m) (hm : m.length ≤ 1000000) :
    Calls Try.prog 31 #[.pointer (some ⟨b, 0, none⟩)] w fun e w' => e = .returned (if m.length = 0 then .tuple #[.int .i64 0, .bool false] else .tuple #[.int .i64 (atL m (bstD m m.length).toNat).due, .bool true]) ∧ Below w.heap.size w w' := by
  have q0 := h.field rfBlk_ok
  have hlt := h.lt
  by_cases hm0 : m.length = 0
  · rw [if_pos hm0]
    go_enter Try.func31, Try.ntmps31
    go_wp2_with fail
    refine (rFirst b v m w h hm).mono ?_
    rintro e w1 ⟨rfl, hb1⟩
    rw [hm0]
    simp only [bstD]
    go_wp2
    go_ret2
    exact ⟨rfl, hb1⟩
  · rw [if_neg hm0]
    obtain ⟨k, hk, hbk, _, _⟩ := bstD_spec m m.length (by omega)
    rw [hbk]
    obtain ⟨a, c, rfl⟩ := h.shape
    obtain ⟨g, rfl, hle, hmx, hbg, hg, hc, hf⟩ := h.at rfEnc_length hk
    have e2 := hc k hk 1 (by omega)
    simp only [rfEnc, List.getElem?_cons_zero, List.getElem?_cons_succ] at e2
    have hkn : ¬ (k : Int) < 0 := by omega
    have HB := Lib.hid hbk
    clear hc hbk
    go_enter Try.func31, Try.ntmps31
    go_wp2_with fail
    refine (rFirst b _ m w h hm).mono ?_
    rintro e w1 ⟨rfl, hb1⟩
    rw [HB.out]
    have q1 := (hb1.cell (p := ⟨b, 0, none⟩) hlt).trans q0
    have e3 := (hb1.cell (p := ⟨g, k * 2 + 1, none⟩) hg).trans e2
    go_wp2
    go_ret2
    exact ⟨rfl, hb1⟩

theorem rArmNo (b : Nat) (v : Value) (m : List trIt) (due : Int) (w : World) (h : RfAt w b v m) (hm : m.length ≤ 1000000) (hno : due < 0 ∨ 4 ≤ m.length) :
    Calls Try.prog 26 #[.pointer (some ⟨b, 0, none⟩), .int .i64 due] w fun e w' => e = .returned (.tuple #[.int .i64 0, .int .i64 (if due < 0 then 1 else 2)]) ∧ w = w' := by
  have q0 := h.field rfBlk_ok
  obtain ⟨a, c, rfl⟩ := h.shape
  by_cases hd : due < 0
  · rw [if_pos hd]
    go_enter Try.func26, Try.ntmps26
    go_wp2
    go_ret2
    exact ⟨rfl, rfl⟩
  · rw [if_neg hd]
    have h4 : 4 ≤ m.length := by omega
    go_enter Try.func26, Try.ntmps26
    go_wp2
    go_ret2
    exact ⟨rfl, rfl⟩
end Go.Proofs.Ytjlhdbkhebfghaa
