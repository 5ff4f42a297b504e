/- The reference of law 28: has, Is, Raise, Clear, Mask, Prio. -/
import Derived.Test.YtddngfhiaolkeaaVl
namespace Go.Proofs.Ytddngfhiaolkeaa
open Go.ChangeShapes Go.WideShapes Go.ChangeAt Go.RowKit
set_option linter.unusedVariables false

/-- The reference's block: the slice of those that wait, which are masked, priorities. -/
def rvBlk (mk : Nat → Bool) (pr : Nat → Int) (v : Value) : Array Value :=
  #[v, .bool (mk 0), .bool (mk 1), .bool (mk 2), .bool (mk 3), .bool (mk 4), .bool (mk 5), .bool (mk 6), .bool (mk 7), .int .i64 (pr 0), .int .i64 (pr 1), .int .i64 (pr 2), .int .i64 (pr 3), .int .i64 (pr 4), .int .i64 (pr 5), .int .i64 (pr 6), .int .i64 (pr 7)]
section
variable (mk : Nat → Bool) (pr : Nat → Int) (v : Value)
theorem rvBlk_ok : BlkOk (rvBlk mk pr) 0 := ⟨fun _ => rfl, fun _ _ => rfl⟩
theorem rvBlk_mk : ∀ i, i < 8 → (rvBlk mk pr v)[1 + i]? = some (.bool (mk i)) := by apply eight <;> rfl
theorem rvBlk_pr : ∀ i, i < 8 → (rvBlk mk pr v)[9 + i]? = some (.int .i64 (pr i)) := by apply eight <;> rfl
theorem rvBlk_setMk (c : Bool) : ∀ i, i < 8 → (rvBlk mk pr v).setIfInBounds (1 + i) (.bool c) = rvBlk (putF mk i c) pr v := by apply eight <;> rfl
theorem rvBlk_setPr (c : Int) : ∀ i, i < 8 → (rvBlk mk pr v).setIfInBounds (9 + i) (.int .i64 c) = rvBlk mk (putF pr i c) v := by apply eight <;> rfl
end
abbrev RvAt (w : World) (b : Nat) (mk : Nat → Bool) (pr : Nat → Int) (v : Value) (q : List Nat) : Prop := RowIn 3 1 nEnc w b 46 (rvBlk mk pr) v q
def hasQ (q : List Nat) (n : Int) : Bool := q.any fun i => decide ((i : Int) = n)
theorem hasQ_true {q : List Nat} {n : Int} {i : Nat} (hi : i < q.length) (h : ((atL q i : Nat) : Int) = n) : hasQ q n = true := List.any_eq_true.2 ⟨atL q i, mem_atL hi, by simpa using h⟩
theorem hasQ_false {q : List Nat} {n : Int} (h : ∀ i, i < q.length → ((atL q i : Nat) : Int) ≠ n) : hasQ q n = false := by
  unfold hasQ
  rw [List.any_eq_false]
  intro x hx
  obtain ⟨i, hi, rfl⟩ := mem_is_atL hx
  simpa using h i hi
theorem hasQ_mem {q : List Nat} {k : Nat} : hasQ q k = true ↔ k ∈ q := by
  unfold hasQ
  rw [List.any_eq_true]
  refine ⟨fun ⟨x, hx, h⟩ => ?_, fun h => ⟨k, h, by simp⟩⟩
  have : (x : Int) = k := by simpa using h
  have : x = k := by omega
  exact this ▸ hx
section
variable (b : Nat) (mk : Nat → Bool) (pr : Nat → Int) (v : Value) (q : List Nat)

set_option maxRecDepth 20000 in
theorem rvHas (n : Int) (w : World) (h : RvAt w b mk pr v q) (hm : q.length ≤ 1000000) :
    Calls Try.prog 32 #[.pointer (some ⟨b, 0, none⟩), .int .i64 n] w fun e w' => e = .returned (.bool (hasQ q n)) ∧ w = w' := by
  have q0 := h.field (rvBlk_ok mk pr)
  obtain ⟨a, c, rfl⟩ := h.shape
  go_enter Try.func32, Try.ntmps32
  go_wp2_with fail
  go_loopw [5] (fun jv wr => ∃ j : Nat, j ≤ q.length ∧ jv = .int .i64 j ∧ (∀ i, i < j → ((atL q i : Nat) : Int) ≠ n) ∧ wr = w) (fun jv _ => q.length - (intOf jv).toNat)
  case atStart => exact ⟨0, Nat.zero_le _, rfl, fun i hi => by omega, rfl⟩
  case round =>
    obtain ⟨j, hj, rfl, hbef, hwr⟩ := hrel
    obtain rfl := hwr.symm
    have HB := Lib.hid hbef
    clear hbef
    by_cases hjl : j < q.length
    · obtain ⟨g, rfl, hle, hmx, hbg, hg, hc, hf⟩ := h.at nEnc_length hjl
      have c0 := hc j hjl 0 (by omega)
      simp only [nEnc, List.getElem?_cons_zero, Nat.add_zero, Nat.mul_one] at c0
      clear hc
      obtain ⟨d, hd⟩ : ∃ d, ((atL q j : Nat) : Int) = d := ⟨_, rfl⟩
      rw [hd] at c0
      have HD := Lib.hid hd
      clear hd
      by_cases e : d = n
      · subst e
        go_wp2
        go_ret
        exact ⟨ret_bool (hasQ_true hjl HD.out).symm, rfl⟩
      · go_wp2
        go_roundw
        case rel => exact ⟨j + 1, by omega, by go_num, fun i hi => by
          rcases Nat.lt_succ_iff_lt_or_eq.1 hi with h1 | rfl
          · exact HB.out i h1
          · rw [HD.out]; exact e, trivial⟩
        case measure => simp [intOf]; omega
    · obtain rfl : j = q.length := by omega
      go_wp2
      go_ret
      exact ⟨ret_bool (hasQ_false HB.out).symm, rfl⟩

theorem rvIs (n : Nat) (w : World) (hn : n < 8) : Calls Try.prog 31 #[.int .i64 n] w fun e w' => e = .returned (.bool true) ∧ w = w' := by
  have h8 : (n : Int) < 8 := by omega
  go_enter Try.func31, Try.ntmps31
  go_wp2
  go_ret
  exact ⟨rfl, rfl⟩
theorem rvIsNo (n : Int) (w : World) (hn : n < 0 ∨ 8 ≤ n) : Calls Try.prog 31 #[.int .i64 n] w fun e w' => e = .returned (.bool false) ∧ w = w' := by
  by_cases h0 : n < 0
  · have h1 : ¬ 0 ≤ n := by omega
    go_enter Try.func31, Try.ntmps31
    go_wp2
    go_ret
    exact ⟨rfl, rfl⟩
  · have h1 : 0 ≤ n := by omega
    have h8 : ¬ n < 8 := by omega
    go_enter Try.func31, Try.ntmps31
    go_wp2
    go_ret
    exact ⟨rfl, rfl⟩

theorem rvRaiseNo (n : Int) (w : World) (hn : n < 0 ∨ 8 ≤ n) :
    Calls Try.prog 17 #[.pointer (some ⟨b, 0, none⟩), .int .i64 n] w fun e w' => e = .returned (.int .i64 1) ∧ w = w' := by
  go_enter Try.func17, Try.ntmps17
  go_wp2_with fail
  refine (rvIsNo n _ hn).mono ?_
  rintro e w' ⟨rfl, rfl⟩
  go_wp2
  go_ret
  exact ⟨rfl, rfl⟩
theorem rvRaiseOld (n : Nat) (w : World) (h : RvAt w b mk pr v q) (hm : q.length ≤ 1000000) (hn : n < 8) (hq : n ∈ q) :
    Calls Try.prog 17 #[.pointer (some ⟨b, 0, none⟩), .int .i64 n] w fun e w' => e = .returned (.int .i64 0) ∧ w = w' := by
  go_enter Try.func17, Try.ntmps17
  go_wp2_with fail
  refine (rvIs n _ hn).mono ?_
  rintro e w' ⟨rfl, rfl⟩
  go_wp2_with fail
  refine (rvHas b mk pr v q n _ h hm).mono ?_
  rintro e w' ⟨rfl, rfl⟩
  rw [hasQ_mem.2 hq]
  go_wp2
  go_ret
  exact ⟨rfl, rfl⟩
set_option maxRecDepth 20000 in
set_option maxHeartbeats 1000000 in
theorem rvRaise (n : Nat) (w : World) (h : RvAt w b mk pr v q) (hm : q.length ≤ 1000) (hn : n < 8) (hq : n ∉ q) :
    Calls Try.prog 17 #[.pointer (some ⟨b, 0, none⟩), .int .i64 n] w fun e w' => e = .returned (.int .i64 0) ∧ ∃ v', RvAt w' b mk pr v' (q ++ [n]) ∧ Frm b v v' w w' := by
  obtain ⟨i0, hi, hz0, hz1, hz2⟩ := info_parts Try.intRow
  have q0 := h.field (rvBlk_ok mk pr)
  have q1 := h.free 0
  have hlt := h.lt
  have hne : v.ownBlock ≠ some b := fun e => by have := (h.own _ e).1; omega
  have hhas : hasQ q n = false := by
    cases hh : hasQ q n
    · rfl
    · exact absurd (hasQ_mem.1 hh) hq
  obtain ⟨a, c, rfl⟩ := h.shape
  have HH := Lib.hid hhas
  clear hhas
  go_enter Try.func17, Try.ntmps17
  go_wp2_with fail
  refine (rvIs n _ hn).mono ?_
  rintro e w' ⟨rfl, rfl⟩
  go_wp2_with fail
  refine (rvHas b mk pr _ q n _ h (by omega)).mono ?_
  rintro e w' ⟨rfl, rfl⟩
  rw [HH.out]
  go_wp2_with (at_builtin; refine wpList_append_lies _ rfl _ _ 26 rfl (b + 1) 3 i0 (.int .i64 0) 1 8 Try.underlying26 hi hz0 hz1 hz2 rfl (by decide) _ _ _ rfl (World.ownsRow.alloc h.2 _) ⟨w.heap.size, 0, none⟩ 1 1 [.int .i64 n] rfl rfl ?c1 ?c2 (by decide) ?c3 ?c4 ?c5 (w.heap.size + 1) ?c6 ?_)
  case c1 =>
    intro x u hx
    match x, hx with
    | 0, hx => simp at hx; subst hx; simp [Addr.add]
  case c2 => intro u hu; simp at hu; subst hu; rfl
  case c3 => unfold maxLen; omega
  case c4 => omega
  case c5 => simp; omega
  case c6 => simp
  intro g4 cap4 w4 hown4 hgrow hat hlt4
  have r4 : w4.heap[b]? = some (.cells (rvBlk mk pr (.slice a q.length c)) 46 (0, 0)) := (hgrow.block b (by simp; omega) (fun e => hne e.symm)).trans (heap_alloc h.1)
  have q4 : w4.cell? ⟨b, 0, none⟩ = some (.slice a q.length c) := cell_of_row _ _ _ _ _ _ r4
  have z4 : w4.frozen? ⟨b, 0, none⟩ = false := by simp [World.frozen?, r4]
  go_wp2
  go_ret
  refine ⟨rfl, _, RowIn.stored (o := 0) (v' := .slice (some ⟨g4, 0, none⟩) (q.length + 1) cap4) (blk := rvBlk mk pr) (rvBlk_ok mk pr) r4 ?_, ?_⟩
  · simpa [nEnc] using hown4
  · have hs : (w.alloc (.cells #[.int .i64 n] 3)).heap.size = w.heap.size + 1 := by simp
    have h1 : Below w.heap.size w (w.alloc (.cells #[.int .i64 n] 3)) := (Bel.refl w).alloc.1
    refine ⟨hgrow.os.trans h1.os, hgrow.tape.trans h1.tape, hgrow.output.trans h1.output, ?_, fun i hi hb hv => ?_, ?_⟩
    · have := hgrow.size
      simp [World.setCell]
      omega
    · exact (heap_setCell_ne' hb).trans ((hgrow.block i (by omega) hv).trans (h1.block i hi))
    · rcases hat with hat | hat
      · exact .inl (by rw [hat]; rfl)
      · refine .inr fun g' hg' => ?_
        simp only [Value.ownBlock, Option.some.injEq] at hg'
        omega

def lessQ (q : List Nat) (n : Int) : List Nat := q.filter fun i => !decide ((i : Int) = n)
theorem lessQ_take (q : List Nat) (n : Int) {j : Nat} (hj : j < q.length) : lessQ (q.take (j + 1)) n = if ((atL q j : Nat) : Int) = n then lessQ (q.take j) n else lessQ (q.take j) n ++ [atL q j] := by
  rw [take_succ_atL hj]
  unfold lessQ
  rw [List.filter_append]
  by_cases h : ((atL q j : Nat) : Int) = n <;> simp [h]
theorem lessQ_le (q : List Nat) (n : Int) : (lessQ q n).length ≤ q.length := List.length_filter_le ..

set_option maxRecDepth 20000 in
set_option maxHeartbeats 1000000 in
theorem rvClear (n : Int) (w : World) (h : RvAt w b mk pr v q) (hm : q.length ≤ 1000000) :
    Calls Try.prog 18 #[.pointer (some ⟨b, 0, none⟩), .int .i64 n] w fun e w' => e = .returned (.bool (hasQ q n)) ∧ ∃ v', RvAt w' b mk pr v' (lessQ q n) ∧ Frm b v v' w w' := by
  obtain ⟨i0, hi, hz0, hz1, hz2⟩ := info_parts Try.intRow
  have q0 := h.field (rvBlk_ok mk pr)
  have hlt := h.lt
  obtain ⟨a, c, rfl⟩ := h.shape
  go_enter Try.func18, Try.ntmps18
  go_wp2_with fail
  refine (rvHas b mk pr _ q n _ h hm).mono ?_
  rintro e w' ⟨rfl, rfl⟩
  go_wp2_with fail
  go_loopw [6, 7] (fun out jv wr => ∃ j : Nat, j ≤ q.length ∧ jv = .int .i64 j ∧ wr.ownsRow w.heap.size 3 1 out (lessQ (q.take j) n).length ((lessQ (q.take j) n).flatMap nEnc) ∧ Bel w.heap.size w wr) (fun _ jv _ => q.length - (intOf jv).toNat)
  case atStart => exact ⟨0, Nat.zero_le _, rfl, World.ownsRow_nil _ _ _ _, Bel.refl _⟩
  case round =>
    obtain ⟨j, hj, rfl, hown, hbel⟩ := hrel
    have p0 := (hbel.1.cell (p := ⟨b, 0, none⟩) hlt).trans q0
    have hws : w.heap.size ≤ wr.heap.size := hbel.2
    by_cases hjl : j < q.length
    · obtain ⟨g, rfl, hle, hmx, hbg, hg, hc, hf⟩ := h.at nEnc_length hjl
      have e1 := (hbel.1.cell (p := ⟨g, j * 1, none⟩) hg).trans (hc j hjl 0 (by omega))
      simp only [nEnc, List.getElem?_cons_zero, Nat.mul_one] at e1
      have ht := lessQ_take q n hjl
      have hll := lessQ_le (q.take j) n
      rw [List.length_take] at hll
      have hll2 : (lessQ (q.take j) n).length ≤ 1000000 := by omega
      clear hc
      obtain ⟨d, hd⟩ : ∃ d, atL q j = d := ⟨_, rfl⟩
      rw [hd] at e1 ht
      clear hd
      by_cases hid : (d : Int) = n
      · rw [if_pos hid] at ht
        have HT := Lib.hid ht
        clear ht
        go_wp2
        go_roundw
        case rel => exact ⟨j + 1, by omega, by go_num, by rw [HT.out]; exact hown, hbel⟩
        case measure => simp [intOf]; omega
      · rw [if_neg hid] at ht
        have HT := Lib.hid ht
        clear ht
        go_wp2_with (at_builtin; refine wpList_append_own _ rfl _ _ 26 rfl w.heap.size 3 i0 (.int .i64 0) 1 8 Try.underlying26 hi hz0 hz1 hz2 rfl (by decide) _ _ _ rfl (World.ownsRow.alloc hown _) ⟨wr.heap.size, 0, none⟩ 1 1 [.int .i64 d] rfl rfl ?c1 ?c2 ?c3 ?c4 ?c5 ?_)
        case c1 =>
          intro x u hx
          match x, hx with
          | 0, hx => simp at hx; subst hx; simp [Addr.add]
        case c2 => intro u hu; simp at hu; subst hu; rfl
        case c3 => unfold maxLen; omega
        case c4 => omega
        case c5 => simp; omega
        intro v4 w4 hown4 hgrow _
        have hbel4 := hbel.append hown hgrow
        go_wp2
        go_roundw
        case rel => exact ⟨j + 1, by omega, by go_num, by rw [HT.out]; simpa [nEnc] using hown4, hbel4⟩
        case measure => simp [intOf]; omega
    · obtain rfl : j = q.length := by omega
      rw [List.take_length] at hown
      have r4 := (hbel.1.block b hlt).trans h.1
      have z4 : wr.frozen? ⟨b, 0, none⟩ = false := by simp [World.frozen?, r4]
      obtain ⟨a6, c6, rfl⟩ := ownsRow_shape hown
      go_wp2
      go_ret
      refine ⟨rfl, _, RowIn.stored (o := 0) (blk := rvBlk mk pr) (rvBlk_ok mk pr) r4 (ownsRow_base hown (by omega)), ?_⟩
      refine ⟨hbel.1.os, hbel.1.tape, hbel.1.output, ?_, fun i hi hb hv => ?_, .inr fun g' hg' => (hown.lt g' hg').1⟩
      · have := hbel.2
        simp [World.setCell]
        omega
      · exact (heap_setCell_ne' hb).trans (hbel.1.block i hi)

theorem rvMaskNo (n : Int) (c : Bool) (w : World) (hn : n < 0 ∨ 8 ≤ n) :
    Calls Try.prog 19 #[.pointer (some ⟨b, 0, none⟩), .int .i64 n, .bool c] w fun e w' => e = .returned (.int .i64 1) ∧ w = w' := by
  go_enter Try.func19, Try.ntmps19
  go_wp2_with fail
  refine (rvIsNo n _ hn).mono ?_
  rintro e w' ⟨rfl, rfl⟩
  go_wp2
  go_ret
  exact ⟨rfl, rfl⟩
theorem rvMask (n : Nat) (c : Bool) (w : World) (h : RvAt w b mk pr v q) (hn : n < 8) :
    Calls Try.prog 19 #[.pointer (some ⟨b, 0, none⟩), .int .i64 n, .bool c] w fun e w' => e = .returned (.int .i64 0) ∧ RvAt w' b (putF mk n c) pr v q ∧ Frm b v v w w' := by
  have q0 : w.cell? ⟨b, 1 + n, none⟩ = some (.bool (mk n)) := (cell_of_row _ _ _ _ _ _ h.1).trans (rvBlk_mk mk pr v n hn)
  have q1 := h.free (1 + n)
  go_enter Try.func19, Try.ntmps19
  go_wp2_with fail
  refine (rvIs n _ hn).mono ?_
  rintro e w' ⟨rfl, rfl⟩
  go_wp2
  go_ret
  have fu : Upd b w (w.setCell ⟨b, 1 + n, none⟩ (.bool c)) := (Upd.refl b w).setCell
  have g3 : (w.setCell ⟨b, 1 + n, none⟩ (.bool c)).heap[b]? = some (.cells (rvBlk (putF mk n c) pr v) 46 (0, 0)) := by
    have := heap_setCell_at (o := 1 + n) (u := .bool c) h.1
    rw [rvBlk_setMk _ _ _ _ _ hn] at this
    exact this
  exact ⟨rfl, h.reblk fu g3, Frm.of_own fu⟩
theorem rvPrioNo (n p : Int) (w : World) (hno : n < 0 ∨ 8 ≤ n ∨ p < 0 ∨ 3 < p) :
    Calls Try.prog 20 #[.pointer (some ⟨b, 0, none⟩), .int .i64 n, .int .i64 p] w fun e w' => e = .returned (.int .i64 1) ∧ w = w' := by
  by_cases hr : n < 0 ∨ 8 ≤ n
  · go_enter Try.func20, Try.ntmps20
    go_wp2_with fail
    refine (rvIsNo n _ hr).mono ?_
    rintro e w' ⟨rfl, rfl⟩
    go_wp2
    go_ret
    exact ⟨rfl, rfl⟩
  · obtain ⟨k, rfl⟩ : ∃ k : Nat, n = k := ⟨n.toNat, by omega⟩
    have hk : k < 8 := by omega
    by_cases hp : p < 0
    · go_enter Try.func20, Try.ntmps20
      go_wp2_with fail
      refine (rvIs k _ hk).mono ?_
      rintro e w' ⟨rfl, rfl⟩
      go_wp2
      go_ret
      exact ⟨rfl, rfl⟩
    · have hp3 : 3 < p := by omega
      go_enter Try.func20, Try.ntmps20
      go_wp2_with fail
      refine (rvIs k _ hk).mono ?_
      rintro e w' ⟨rfl, rfl⟩
      go_wp2
      go_ret
      exact ⟨rfl, rfl⟩
theorem rvPrio (n : Nat) (p : Int) (w : World) (h : RvAt w b mk pr v q) (hn : n < 8) (hp0 : 0 ≤ p) (hp3 : p ≤ 3) :
    Calls Try.prog 20 #[.pointer (some ⟨b, 0, none⟩), .int .i64 n, .int .i64 p] w fun e w' => e = .returned (.int .i64 0) ∧ RvAt w' b mk (putF pr n p) v q ∧ Frm b v v w w' := by
  have q0 : w.cell? ⟨b, 9 + n, none⟩ = some (.int .i64 (pr n)) := (cell_of_row _ _ _ _ _ _ h.1).trans (rvBlk_pr mk pr v n hn)
  have q1 := h.free (9 + n)
  have hq0 : ¬ p < 0 := by omega
  have hq3 : ¬ 3 < p := by omega
  go_enter Try.func20, Try.ntmps20
  go_wp2_with fail
  refine (rvIs n _ hn).mono ?_
  rintro e w' ⟨rfl, rfl⟩
  go_wp2
  go_ret
  have fu : Upd b w (w.setCell ⟨b, 9 + n, none⟩ (.int .i64 p)) := (Upd.refl b w).setCell
  have g3 : (w.setCell ⟨b, 9 + n, none⟩ (.int .i64 p)).heap[b]? = some (.cells (rvBlk mk (putF pr n p) v) 46 (0, 0)) := by
    have := heap_setCell_at (o := 9 + n) (u := .int .i64 p) h.1
    rw [rvBlk_setPr _ _ _ _ _ hn] at this
    exact this
  exact ⟨rfl, h.reblk fu g3, Frm.of_own fu⟩
end
end Go.Proofs.Ytddngfhiaolkeaa
