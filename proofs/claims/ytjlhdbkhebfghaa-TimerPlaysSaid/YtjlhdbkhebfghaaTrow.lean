/- The timers' row: ahead, Len, Less. -/
import Derived.Test.YtjlhdbkhebfghaaRowM
import Derived.Test.YtjlhdbkhebfghaaReg3
import Derived.Test.YtjlhdbkhebfghaaRows
import Derived.Deep.RegionLaw
import Derived.Deep.AppendLies
import Derived.OwnWalk
import Derived.Deep.MidRow
namespace Go.Proofs.Ytjlhdbkhebfghaa
open Go.ChangeShapes Go.WideShapes Go.ChangeAt Go.RowKit
set_option linter.unusedVariables false

structure trIt where
  due : Int
  since : Int
  id : Int
deriving Inhabited
def trEnc (x : trIt) : List Value := [.int .i64 x.due, .int .i64 x.since, .int .i64 x.id]
def trLt (x y : trIt) : Bool := if x.due = y.due then decide (x.since < y.since) else decide (x.due < y.due)
/-- As an 'any'. -/
abbrev trVal (x : trIt) : Value := .iface 83 (.agg (trEnc x).toArray)
theorem trEnc_length (x : trIt) : (trEnc x).length = 3 := rfl
theorem trLt_true (x y : trIt) : trLt x y = true ↔ x.due < y.due ∨ x.due = y.due ∧ x.since < y.since := by
  simp only [trLt]
  split <;> simp only [decide_eq_true_eq] <;> omega
theorem trLt_false (x y : trIt) : trLt x y = false ↔ y.due < x.due ∨ x.due = y.due ∧ y.since ≤ x.since := by
  simp only [trLt]
  split <;> simp only [decide_eq_false_iff_not] <;> omega
theorem trLt_ordered : Ordered trLt := by
  constructor
  · intro a b h
    rw [trLt_true] at h
    rw [trLt_false]
    omega
  · intro a b c h k
    rw [trLt_false] at *
    omega

abbrev trRow (w : World) (b : Nat) (blk : Value → Array Value) (v : Value) (l : List trIt) : Prop := RowIn 83 3 trEnc w b 77 blk v l

theorem RowIn.shape {α : Type} {T : TypeId} {sz : Nat} {enc : α → List Value} {w : World} {b : Nat} {t : TypeId} {blk : Value → Array Value} {v : Value} {l : List α} (h : RowIn T sz enc w b t blk v l) : ∃ a c, v = .slice a l.length c := by
  rcases h.2.2 with ⟨h1, h2⟩ | ⟨g, cap, cur, h1, _⟩
  · exact ⟨none, 0, by rw [h1, h2]⟩
  · exact ⟨_, _, h1⟩

theorem ahead_any (a b c d : Int) (w : World) :
    Calls Try.prog 65 #[.agg #[.int .i64 a, .int .i64 b], .agg #[.int .i64 c, .int .i64 d]] w fun e w' => e = .returned (.bool (trLt ⟨a, b, 0⟩ ⟨c, d, 0⟩)) ∧ Below w.heap.size w w' := by
  by_cases h : a = c
  · have hv : trLt ⟨a, b, 0⟩ ⟨c, d, 0⟩ = decide (b < d) := by simp [trLt, h]
    rw [hv]
    go_enter Try.func65, Try.ntmps65
    go_wp2
    go_ret
    exact ⟨rfl, (by refine (?_ : Bel _ _ _).1; repeat (first | exact hbel | exact Bel.refl _ | apply Bel.later | apply Bel.alloc | apply Bel.drew | (refine Bel.laterB ?_ (by first | exact Nat.le_refl _ | omega | (simp; omega) | simp)) | (refine Bel.setCell ?_ (by first | exact Nat.le_refl _ | omega | (simp; omega) | simp))))⟩
  · have hv : trLt ⟨a, b, 0⟩ ⟨c, d, 0⟩ = decide (a < c) := by simp [trLt, h]
    rw [hv]
    go_enter Try.func65, Try.ntmps65
    go_wp2
    go_ret
    exact ⟨rfl, (by refine (?_ : Bel _ _ _).1; repeat (first | exact hbel | exact Bel.refl _ | apply Bel.later | apply Bel.alloc | apply Bel.drew | (refine Bel.laterB ?_ (by first | exact Nat.le_refl _ | omega | (simp; omega) | simp)) | (refine Bel.setCell ?_ (by first | exact Nat.le_refl _ | omega | (simp; omega) | simp))))⟩

theorem trLen (b : Nat) (blk : Value → Array Value) (v : Value) (l : List trIt) (w : World) (hb : BlkOk blk 0) (h : trRow w b blk v l) :
    Calls Try.prog 35 #[.pointer (some ⟨b, 0, none⟩)] w fun e w' => e = .returned (.int .i64 l.length) ∧ w = w' := by
  have q0 := h.field hb
  have q1 := h.free 0
  obtain ⟨a, c, rfl⟩ := h.shape
  go_enter Try.func35, Try.ntmps35
  go_wp2
  go_ret
  exact ⟨rfl, rfl⟩

theorem when_load {w : World} {g o : Nat} {a b : Value} (h0 : w.cell? ⟨g, o, none⟩ = some a) (h1 : w.cell? ⟨g, o + 1, none⟩ = some b) :
    (loadVar 81 ⟨g, o, none⟩).run Try.prog w = .ok (.agg #[a, b]) w := by
  refine run_loadVar_mid w g o _ [a, b] _ (fun j v hj => ?_) Try.underlying81 rfl (by kernel_rfl)
  match j, hj with
  | 0, hj => simpa using h0.trans hj
  | 1, hj => simpa using h1.trans hj
theorem item_load {w : World} {g o : Nat} {a b c : Value} (h0 : w.cell? ⟨g, o, none⟩ = some a) (h1 : w.cell? ⟨g, o + 1, none⟩ = some b) (h2 : w.cell? ⟨g, o + 2, none⟩ = some c) :
    (loadVar 83 ⟨g, o, none⟩).run Try.prog w = .ok (.agg #[a, b, c]) w := by
  refine run_loadVar_mid w g o _ [a, b, c] _ (fun j v hj => ?_) Try.underlying83 rfl (by kernel_rfl)
  match j, hj with
  | 0, hj => simpa using h0.trans hj
  | 1, hj => simpa using h1.trans hj
  | 2, hj => simpa using h2.trans hj

theorem trLess (b : Nat) (blk : Value → Array Value) (v : Value) (l : List trIt) (i k : Nat) (w : World) (hb : BlkOk blk 0) (h : trRow w b blk v l) (hi : i < l.length) (hk : k < l.length) :
    Calls Try.prog 61 #[.pointer (some ⟨b, 0, none⟩), .int .i64 i, .int .i64 k] w fun e w' => e = .returned (.bool (trLt (atL l i) (atL l k))) ∧ Below w.heap.size w w' := by
  have q0 := h.field hb
  have q1 := h.free 0
  have hlt := h.lt
  obtain ⟨g, cap, rfl, hle, hm, hbg, hg, hc, hf⟩ := h.item trEnc_length hi
  have c0 := hc i hi 0 (by omega)
  have c1 := hc i hi 1 (by omega)
  have d0 := hc k hk 0 (by omega)
  have d1 := hc k hk 1 (by omega)
  simp only [trEnc, List.getElem?_cons_zero, List.getElem?_cons_succ, Nat.add_zero] at c0 c1 d0 d1
  clear hc
  go_enter Try.func61, Try.ntmps61
  go_wp2
  refine wp_region_later (by kernel_rfl) (by kernel_rfl) ?_
  repeat (first | go_big_quiet_step (first
    | (go_at_call 65; exact Calls.later_of (ahead_any _ _ _ _ _))))
  refine wpQuiet_nil ?_
  intro _ hw'
  obtain ⟨x9, hw''⟩ := hw'
  subst hw''
  go_wp2_with fail
  go_ret
  exact ⟨rfl, later_below _ _⟩
end Go.Proofs.Ytjlhdbkhebfghaa
