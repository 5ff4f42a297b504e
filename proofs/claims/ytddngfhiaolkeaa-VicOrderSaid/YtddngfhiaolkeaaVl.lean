/- law 28: which line is ahead; how many wait; awake. -/
import Derived.Test.YtddngfhiaolkeaaVe
namespace Go.Proofs.Ytddngfhiaolkeaa
open Go.ChangeShapes Go.WideShapes Go.ChangeAt Go.RowKit
set_option linter.unusedVariables false

/-- The line that is ahead of all others. -/
structure Top (s : Nat → vcLn) (n : Nat) : Prop where
  lt : n < 8
  act : isAct (s n) = true
  top : ∀ k, k < 8 → isAct (s k) = true → k ≠ n → (s k).pr < (s n).pr ∨ (s k).pr = (s n).pr ∧ (s n).sn < (s k).sn
theorem mem_of_perm {s : Nat → vcLn} {l : List vcIt} (h : l.Perm (itemsOf s)) {y : vcIt} : y ∈ l ↔ ∃ k, k < 8 ∧ isAct (s k) = true ∧ y = itOf s k := by
  rw [h.mem_iff, mem_items]
  exact ⟨fun ⟨i, hi, h⟩ => ⟨i, List.mem_range.1 hi, h⟩, fun ⟨i, hi, h⟩ => ⟨i, List.mem_range.2 hi, h⟩⟩
section
variable {w : World} {b now : Nat} {s : Nat → vcLn} {v : Value} {l : List vcIt} {n : Nat}
theorem VcAt.top (h : VcAt w b s now v l) (ht : Top s n) : 0 < l.length ∧ (atL l 0).ln = n := by
  have hin : itOf s n ∈ l := (mem_of_perm h.perm).2 ⟨n, ht.lt, ht.act, rfl⟩
  have hpos : 0 < l.length := List.length_pos_of_mem hin
  obtain ⟨k, hk, hka, he⟩ := (mem_of_perm h.perm).1 (mem_atL hpos)
  refine ⟨hpos, ?_⟩
  by_cases e : k = n
  · rw [he, e]; rfl
  · obtain ⟨i, hi, hie⟩ := mem_is_atL hin
    have h1 := heap_min vcLt_ordered h.heap i hi
    rw [← hie, he, vcLt_false] at h1
    have := ht.top k hk hka e
    simp only [itOf] at h1
    omega
theorem VcAt.empty (h : VcAt w b s now v l) (hno : ∀ k, k < 8 → isAct (s k) = false) : l.length = 0 := by
  rcases Nat.eq_zero_or_pos l.length with h0 | h0
  · exact h0
  · obtain ⟨k, hk, hka, _⟩ := (mem_of_perm h.perm).1 (mem_atL h0)
    rw [hno k hk] at hka
    cases hka
theorem vcNextIs (w : World) (h : VcAt w b s now v l) (ht : Top s n) :
    Calls Try.prog 15 #[.pointer (some ⟨b, 0, none⟩)] w fun e w' => e = .returned (.tuple #[.int .i64 n, .bool true]) ∧ w = w' := by
  obtain ⟨h1, h2⟩ := h.top ht
  have := vcNext b now s v l w h
  rw [if_neg (by omega), h2] at this
  exact this
theorem vcNextNo (w : World) (h : VcAt w b s now v l) (hno : ∀ k, k < 8 → isAct (s k) = false) :
    Calls Try.prog 15 #[.pointer (some ⟨b, 0, none⟩)] w fun e w' => e = .returned (.tuple #[.int .i64 0, .bool false]) ∧ w = w' := by
  have := vcNext b now s v l w h
  rw [if_pos (h.empty hno)] at this
  exact this
theorem vcTakeIs (w : World) (h : VcAt w b s now v l) (ht : Top s n) :
    Calls Try.prog 12 #[.pointer (some ⟨b, 0, none⟩)] w fun e w' => e = .returned (.tuple #[.int .i64 n, .bool true]) ∧ ∃ v' l', VcAt w' b (putF s n { s n with wt := false }) now v' l' ∧ Frm b v v' w w' :=
  vcTake b now s v l n w h (h.top ht).1 ht.lt (h.top ht).2
theorem vcTakeNone (w : World) (h : VcAt w b s now v l) (hno : ∀ k, k < 8 → isAct (s k) = false) :
    Calls Try.prog 12 #[.pointer (some ⟨b, 0, none⟩)] w fun e w' => e = .returned (.tuple #[.int .i64 0, .bool false]) ∧ w = w' :=
  vcTakeNo b now s v l w h (h.empty hno)
theorem VcAt.grow {w0 w' : World} (hb : Bel w0.heap.size w0 w) (h : VcAt w b s now v l) (hB : w0.heap.size ≤ b) {v' : Value} (f : Frm b v v' w w') : Bel w0.heap.size w0 w' :=
  hb.frm f hB (fun g hg => Nat.le_trans hB (Nat.le_of_lt (h.row.own g hg).1))
end

/-- How many wait. -/
def nW (s : Nat → vcLn) : Nat := (waitL s 8).length
def cntW (is : List Nat) (s : Nat → vcLn) : Nat := (is.filter fun i => (s i).wt).length
theorem cnt_congr {is : List Nat} {s t : Nat → vcLn} (h : ∀ i ∈ is, (s i).wt = (t i).wt) : is.filter (fun i => (s i).wt) = is.filter (fun i => (t i).wt) := List.filter_congr fun i hi => h i hi
theorem nW_split (s : Nat → vcLn) {n : Nat} (hn : n < 8) : nW s = (if (s n).wt = true then 1 else 0) + cntW ((List.range 8).erase n) s := by
  have hp := (List.perm_cons_erase (List.mem_range.2 hn)).filter fun i => (s i).wt
  have := hp.length_eq
  unfold nW waitL cntW
  rw [this, List.filter_cons]
  split
  · simp; omega
  · simp
theorem cnt_out {n : Nat} {s : Nat → vcLn} {x : vcLn} (hn : n < 8) : cntW ((List.range 8).erase n) (putF s n x) = cntW ((List.range 8).erase n) s := by
  unfold cntW
  rw [cnt_congr fun i hi => by
    have : i ≠ n := fun e => by subst e; exact (List.nodup_range.not_mem_erase) hi
    rw [putF_ne _ _ this]]
theorem nW_up {n : Nat} {s : Nat → vcLn} {x : vcLn} (hn : n < 8) (h0 : (s n).wt = false) (h1 : x.wt = true) : nW (putF s n x) = nW s + 1 := by
  rw [nW_split _ hn, nW_split s hn, cnt_out hn, putF_at, if_pos h1, if_neg (by simp [h0])]
  omega
theorem nW_down {n : Nat} {s : Nat → vcLn} {x : vcLn} (hn : n < 8) (h0 : (s n).wt = true) (h1 : x.wt = false) : nW (putF s n x) + 1 = nW s := by
  rw [nW_split _ hn, nW_split s hn, cnt_out hn, putF_at, if_pos h0, if_neg (by simp [h1])]
  omega
theorem nW_same {n : Nat} {s : Nat → vcLn} {x : vcLn} (hn : n < 8) (h : x.wt = (s n).wt) : nW (putF s n x) = nW s := by
  rw [nW_split _ hn, nW_split s hn, cnt_out hn, putF_at, h]
theorem nW0 : nW vc0 = 0 := rfl
theorem nW_le (s : Nat → vcLn) : nW s ≤ 8 := waitL_le s 8
/-- How many wait, as the law asks it. -/
theorem vcWaitsN {w : World} {b now : Nat} {s : Nat → vcLn} {v : Value} {l : List vcIt} (h : VcAt w b s now v l) :
    Calls Try.prog 13 #[.pointer (some ⟨b, 0, none⟩)] w fun e w' => ∃ a c, e = .returned (.slice a (nW s) c) ∧ w'.ownsRow w.heap.size 3 1 (.slice a (nW s) c) (waitL s 8).length ((waitL s 8).flatMap nEnc) ∧ Below w.heap.size w w' :=
  (vcWaits b now s v l w h).mono fun e w' ⟨out, he, ho, hb⟩ => by
    obtain ⟨a, c, rfl⟩ := ownsRow_shape ho
    exact ⟨a, c, he, ho, hb⟩

set_option maxRecDepth 20000 in
set_option maxHeartbeats 1000000 in
theorem awake28 (w : World) : Calls Try.prog 14 #[] w fun e w' => e = .returned (.bool true) ∧ Below w.heap.size w w' := by
  go_enter Try.func14, Try.ntmps14
  go_wp2_with fail
  refine (vcNew _).mono ?_
  rintro e w1 ⟨rfl, b1, h1⟩
  have hb1 : Bel w.heap.size w w1 := ⟨b1, b1.size⟩
  go_wp2_with fail
  refine (vcRaise w.heap.size 0 _ _ _ 3 _ h1 (by omega) rfl (by omega)).mono ?_
  rintro e w2 ⟨rfl, v2, l2, h2, f2⟩
  have hb2 := h1.grow hb1 (Nat.le_refl _) f2
  go_wp2_with fail
  refine (vcRaise w.heap.size 1 _ _ _ 1 _ h2 (by omega) rfl (by omega)).mono ?_
  rintro e w3 ⟨rfl, v3, l3, h3, f3⟩
  have hb3 := h2.grow hb2 (Nat.le_refl _) f3
  have t3 : Top (putF (putF vc0 3 ⟨true, false, 0, (0 + 1 : Nat)⟩) 1 ⟨true, false, 0, (1 + 1 : Nat)⟩) 3 := by
    refine ⟨by omega, rfl, ?_⟩
    apply eight <;> simp [putF, vc0, isAct]
  go_wp2_with fail
  refine (vcNextIs _ h3 t3).mono ?_
  rintro e w' ⟨rfl, rfl⟩
  clear t3
  go_wp2_with fail
  refine (vcPrio w.heap.size 2 _ _ _ 1 2 _ h3 (by omega) (by omega) (by omega)).mono ?_
  rintro e w4 ⟨rfl, v4, l4, h4, f4⟩
  have hb4 := h3.grow hb3 (Nat.le_refl _) f4
  have t4 : Top (putF (putF (putF vc0 3 ⟨true, false, 0, (0 + 1 : Nat)⟩) 1 ⟨true, false, 0, (1 + 1 : Nat)⟩) 1 ⟨true, false, 2, (1 + 1 : Nat)⟩) 1 := by
    refine ⟨by omega, rfl, ?_⟩
    apply eight <;> simp [putF, vc0, isAct]
  go_wp2_with fail
  refine (vcNextIs _ h4 t4).mono ?_
  rintro e w' ⟨rfl, rfl⟩
  go_wp2
  go_ret
  exact ⟨rfl, hb4.1⟩
end Go.Proofs.Ytddngfhiaolkeaa
