/- The reference of law 19: Fill, its plain laws. -/
import Derived.Test.YthppjkpejnaocaaShS
import Derived.Test.YthppjkpejnaocaaShP
namespace Go.Proofs.Ythppjkpejnaocaa
open Go.ChangeShapes Go.WideShapes Go.ChangeAt Go.RowKit
set_option linter.unusedVariables false

@[go_sem high] theorem neq_key (a b a' b' : Int) (w : World) : (binOp .neq 30 (.agg #[.int .i64 a, .int .i64 b]) (.agg #[.int .i64 a', .int .i64 b'])).run Try.prog w = .ok (.bool (!(a == a' && b == b'))) w := by
  simp [go_sem]
  repeat' split
  all_goals simp_all
def iEnc (x : Int) : List Value := [.int .i64 x]
theorem iEnc_length (x : Int) : (iEnc x).length = 1 := rfl
theorem ints_of_items {w : World} {a : Option Addr} {n : Nat} {L : List Int} (h : ItemsAt 1 iEnc w a n L) : IntsAt .i64 w a n L :=
  ⟨h.1, fun hn => let ⟨g, o, e, hg, hc⟩ := h.2 hn; ⟨g, o, e, hg, fun i hi => by
    have := hc i hi 0 (by omega)
    simpa [iEnc, atL] using this⟩⟩
def toldC (l : List ln) (rt lf p : Int) : Bool := (p == rt || p == lf) && !tableB l p
def toldTo (l : List ln) (rt lf : Int) (k : Nat) : List Int := ((List.range k).map fun n : Nat => (n : Int)).filter (toldC l rt lf)
theorem toldTo_succ (l : List ln) (rt lf : Int) (k : Nat) : toldTo l rt lf (k + 1) = if toldC l rt lf k = true then toldTo l rt lf k ++ [(k : Int)] else toldTo l rt lf k := by
  unfold toldTo
  rw [List.range_succ, List.map_append, List.filter_append]
  by_cases h : toldC l rt lf k = true
  · simp [h]
  · simp [h]
theorem toldTo_len (l : List ln) (rt lf : Int) (k : Nat) : (toldTo l rt lf k).length ≤ k := by
  refine Nat.le_trans (List.length_filter_le _ _) ?_
  simp
theorem told_base : ∀ a b : Fin 8, (((List.range 8).map fun n : Nat => (n : Int)).filter fun p => p == ((a.val : Nat) : Int) || p == ((b.val : Nat) : Int)) = if ((a.val : Nat) : Int) = ((b.val : Nat) : Int) then [((a.val : Nat) : Int)] else if ((a.val : Nat) : Int) < ((b.val : Nat) : Int) then [((a.val : Nat) : Int), ((b.val : Nat) : Int)] else [((b.val : Nat) : Int), ((a.val : Nat) : Int)] := by decide
theorem toldTo_all (l : List ln) {rt lf : Int} (h1 : 0 ≤ rt ∧ rt < 8) (h2 : 0 ≤ lf ∧ lf < 8) : toldTo l rt lf 8 = freshL l rt lf := by
  obtain ⟨a, ha⟩ : ∃ a : Fin 8, rt = ((a.val : Nat) : Int) := ⟨⟨rt.toNat, by omega⟩, by simp; omega⟩
  obtain ⟨b, hb⟩ : ∃ b : Fin 8, lf = ((b.val : Nat) : Int) := ⟨⟨lf.toNat, by omega⟩, by simp; omega⟩
  subst ha hb
  unfold freshL
  rw [← told_base a b, List.filter_filter]
  unfold toldTo
  congr 1
  funext p
  simp [toldC, Bool.and_comm]
/-- The lines that a fill of the reference leaves, one behind the other. -/
def lzB (L : List ln) (rt lf : Int) (i : Nat) : Bool := prB rt lf (atL L i) || (decide (i + 1 = L.length) && tableB L (atL L i).ep)
def lzX (L : List ln) (rt lf : Int) (i : Nat) : ln := if lzB L rt lf i = true then nrw (atL L i) else atL L i
def outTo (L : List ln) (rt lf : Int) (i : Nat) : List ln := (List.range i).map (lzX L rt lf)
theorem outTo_succ (L : List ln) (rt lf : Int) (i : Nat) : outTo L rt lf (i + 1) = outTo L rt lf i ++ [lzX L rt lf i] := by
  unfold outTo
  rw [List.range_succ, List.map_append]
  rfl
theorem outTo_len (L : List ln) (rt lf : Int) (i : Nat) : (outTo L rt lf i).length = i := by simp [outTo]
theorem nrw_twice (x : ln) : nrw (nrw x) = nrw x := by
  unfold nrw
  simp only
  rw [nrw_nrw]
theorem outTo_all (o : List ln) (x : ln) (rt lf : Int) : outTo (o ++ [x]) rt lf (o.length + 1) = protL (o ++ [x]) rt lf := by
  rw [protL_app, outTo_succ]
  congr 1
  · apply List.ext_getElem
    · simp [outTo]
    · intro i h1 h2
      have hi : i < o.length := by simpa [outTo] using h1
      have ha : atL (o ++ [x]) i = o[i] := by
        rw [atL_eq (by simp; omega), List.getElem_append_left hi]
      simp only [outTo, List.getElem_map, List.getElem_range, lzX, lzB, ha, prX]
      have : decide (i + 1 = (o ++ [x]).length) = false := by simp; omega
      rw [this]
      simp
  · have ha : atL (o ++ [x]) o.length = x := atL_last
    simp only [lzX, lzB, ha]
    have : decide (o.length + 1 = (o ++ [x]).length) = true := by simp
    rw [this, Bool.true_and]
    unfold prX
    cases prB rt lf x <;> cases tableB (o ++ [x]) x.ep <;> simp [nrw_twice]
theorem fill_out {l : List ln} {x : ln} (hn : l.length ≤ 32) : fillL l x = outTo (fillC (fillA l x)) x.rt x.lf (fillC (fillA l x)).length := by
  rw [fillL, fillCA hn]
  have := outTo_all (fillO l x) x x.rt x.lf
  rw [List.length_append, List.length_singleton, this]
/-- A field stored anew, above the world's blocks. -/
theorem frm_put {w wr : World} {b : Nat} {v u : Value} (hb : Bel w.heap.size w wr) (ho : ∀ g, u.ownBlock = some g → w.heap.size ≤ g) : Frm b v u w (wr.setCell ⟨b, 0, none⟩ u) := by
  have hU := (Upd.refl b wr).setCell (o := 0) (s := none) (u := u)
  have hFb : Frm b v v w wr := Frm.of_below hb.1
  exact ⟨hU.os.trans hFb.os, hU.tape.trans hFb.tape, hU.output.trans hFb.output, Nat.le_trans hb.2 hU.size, fun k hk hkb hkv => (hU.block k (Nat.lt_of_lt_of_le hk hb.2) (fun e => hkb (Option.some.inj e))).trans (hb.1.block k hk), .inr ho⟩
section
variable {b : Nat} {v : Value} {l : List ln}
set_option maxHeartbeats 1000000 in
/-- Table, where the slice lies anywhere. -/
theorem rf_tableG (p : Int) (a : Option Addr) (c : Nat) (w : World) (hb : w.heap[b]? = some (.cells (rfBlk (.slice a l.length c)) 57 (0, 0))) (hit : ItemsAt 7 lnEnc w a l.length l) (hn : l.length ≤ 1000) :
    Calls Try.prog 26 #[.pointer (some ⟨b, 0, none⟩), .int .i64 p] w fun e w' => e = .returned (.bool (tableB l p)) ∧ w = w' := by
  have c0 : w.cell? ⟨b, 0, none⟩ = some (.slice a l.length c) := (cell_of_row _ _ 0 _ _ _ hb).trans rfl
  have hlt := lt_heap hb
  clear hb
  go_enter Try.func26, Try.ntmps26
  go_wp2_with fail
  go_loopw [5] (fun iv wr => ∃ i : Nat, i ≤ l.length ∧ iv = .int .i64 i ∧ (l.take i).any (thrB p) = false ∧ wr = w) (fun iv _ => l.length - (intOf iv).toNat)
  case atStart => exact ⟨0, Nat.zero_le _, rfl, rfl, rfl⟩
  case round =>
    obtain ⟨i, hi, rfl, hf, rfl⟩ := hrel
    by_cases hil : i < l.length
    · obtain ⟨g, o, rfl, hg, hc⟩ := hit.2 (by omega)
      have d5 := hc i hil 5 (by omega)
      have d6 := hc i hil 6 (by omega)
      simp only [lnEnc, List.getElem?_cons_succ, List.getElem?_cons_zero] at d5 d6
      have hnx := any_take_succ hil hf
      have hall : thrB p (atL l i) = true → tableB l p = true := fun e => List.any_eq_true.2 ⟨_, mem_atL hil, e⟩
      have hth : thrB p (atL l i) = ((atL l i).rt == p || (atL l i).lf == p) := rfl
      rw [hth] at hnx hall
      clear hc hth hit
      cases e1 : ((atL l i).rt == p)
      · cases e2 : ((atL l i).lf == p)
        · rw [e1, e2] at hnx
          clear hall
          go_wp2
          go_roundw
          case rel => exact ⟨i + 1, by omega, by go_num, hnx, trivial⟩
          case measure => simp [intOf]; omega
        · have ht : tableB l p = true := hall (by rw [e1, e2]; rfl)
          clear hnx hall
          go_wp2
          go_ret
          exact ⟨by rw [ht]; rfl, rfl⟩
      · have ht : tableB l p = true := hall (by rw [e1]; rfl)
        clear hnx hall
        go_wp2
        go_ret
        exact ⟨by rw [ht]; rfl, rfl⟩
    · obtain rfl : i = l.length := by omega
      rw [List.take_length] at hf
      have ht : tableB l p = false := hf
      go_wp2
      go_ret
      exact ⟨by rw [ht]; rfl, rfl⟩
theorem rf_fillNo (k0 k1 e0 e1 e2 rt lf : Int) (w : World) (ho : ¬ ((0 ≤ rt ∧ rt < 8) ∧ (0 ≤ lf ∧ lf < 8))) :
    Calls Try.prog 21 #[.pointer (some ⟨b, 0, none⟩), .agg #[.int .i64 k0, .int .i64 k1], .agg #[.int .i64 e0, .int .i64 e1, .int .i64 e2], .int .i64 rt, .int .i64 lf] w fun e w' => e = .returned (.tuple #[.slice none 0 0, .int .i64 1]) ∧ Below w.heap.size w w' := by
  have hB := (Bel.refl w).alloc (o := .cells #[.int .i64 k0, .int .i64 k1] 30) |>.alloc (o := .cells #[.int .i64 e0, .int .i64 e1, .int .i64 e2] 32)
  have hO1 := rf_own rt
  have hO2 := rf_own lf
  by_cases h1 : 0 ≤ rt ∧ rt < 8
  · rw [show (decide (0 ≤ rt) && decide (rt < 8)) = true by simp; omega] at hO1
    rw [show (decide (0 ≤ lf) && decide (lf < 8)) = false by simp; omega] at hO2
    clear h1 ho
    go_enter Try.func21, Try.ntmps21
    go_wp2_with fail
    refine (hO1 _).mono ?_
    rintro e w1 ⟨rfl, rfl⟩
    go_wp2_with fail
    refine (hO2 _).mono ?_
    rintro e w1 ⟨rfl, rfl⟩
    go_wp2
    go_ret2
    exact ⟨rfl, hB.1⟩
  · rw [show (decide (0 ≤ rt) && decide (rt < 8)) = false by simp; omega] at hO1
    clear h1 ho
    go_enter Try.func21, Try.ntmps21
    go_wp2_with fail
    refine (hO1 _).mono ?_
    rintro e w1 ⟨rfl, rfl⟩
    go_wp2
    go_ret2
    exact ⟨rfl, hB.1⟩
end
end Go.Proofs.Ythppjkpejnaocaa
