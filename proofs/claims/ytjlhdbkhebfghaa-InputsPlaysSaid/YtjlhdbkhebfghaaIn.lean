/- Inputs: where they lie; row, kind, Left, New. -/
import Derived.Test.YtjlhdbkhebfghaaHppI
import Derived.Test.YtjlhdbkhebfghaaTook
namespace Go.Proofs.Ytjlhdbkhebfghaa
open Go.ChangeShapes Go.WideShapes Go.ChangeAt Go.RowKit
set_option linter.unusedVariables false

def inArg (x : inIt) : List Value := [.int .i64 x.tat, .int .i64 x.gst, .int .i64 x.knd, .int .i64 x.cod, .string x.dat]
theorem inArg_length (x : inIt) : (inArg x).length = 5 := rfl
def putF {β : Type} (V : Nat → β) (g : Nat) (v : β) : Nat → β := fun i => if i = g then v else V i
theorem putF_at {β : Type} (V : Nat → β) (g : Nat) (v : β) : putF V g v g = v := by simp [putF]
theorem putF_ne {β : Type} (V : Nat → β) {g h : Nat} (v : β) (hn : h ≠ g) : putF V g v h = V h := by simp [putF, hn]
theorem putF_same {β : Type} (V : Nat → β) (g : Nat) : putF V g (V g) = V := by
  funext i
  simp only [putF]
  split
  · rename_i h; rw [h]
  · rfl
theorem putF_put {β : Type} (V : Nat → β) (g : Nat) (v v' : β) : putF (putF V g v) g v' = putF V g v' := by
  funext i
  simp only [putF]
  split <;> rfl
/-- The inputs' block: four rows' slices, how many guests. -/
def inBlk (V : Nat → Value) (n : Nat) : Array Value := #[V 0, V 1, V 2, V 3, .int .i64 n]
theorem inBlk_ok (V : Nat → Value) (n : Nat) {g : Nat} (hg : g < 4) : BlkOk (fun v => inBlk (putF V g v) n) g := by
  rcases (by omega : g = 0 ∨ g = 1 ∨ g = 2 ∨ g = 3) with rfl | rfl | rfl | rfl <;> exact ⟨fun _ => by simp [inBlk, putF], fun _ _ => by simp [inBlk, putF]⟩

structure InAt (w : World) (b n : Nat) (V : Nat → Value) (L : Nat → List inIt) : Prop where
  blk : w.heap[b]? = some (.cells (inBlk V n) 63 (0, 0))
  rows : ∀ g, g < 4 → w.ownsRow (b + 1) 89 6 (V g) (L g).length ((L g).flatMap inEnc)
  heap : ∀ g, g < 4 → HeapN inLt (L g) (L g).length
  apart : ∀ g h, g < 4 → h < 4 → g ≠ h → ∀ a, (V g).ownBlock = some a → (V h).ownBlock ≠ some a

section
variable {w w' : World} {b n : Nat} {V : Nat → Value} {L : Nat → List inIt}
theorem InAt.row (h : InAt w b n V L) {g : Nat} (hg : g < 4) : inRow w b (fun v => inBlk (putF V g v) n) (V g) (L g) :=
  ⟨by show w.heap[b]? = some (.cells (inBlk (putF V g (V g)) n) _ (0, 0)); rw [putF_same]; exact h.blk, h.rows g hg⟩
theorem InAt.lt (h : InAt w b n V L) : b < w.heap.size := lt_heap h.blk
theorem InAt.below (h : InAt w b n V L) (hb : Below w.heap.size w w') : InAt w' b n V L :=
  ⟨(hb.block b h.lt).trans h.blk, fun g hg => ownsRow_below (h.rows g hg) hb, h.heap, h.apart⟩
/-- One row was worked on. -/
theorem InAt.put (h : InAt w b n V L) {g : Nat} (hg : g < 4) {v' : Value} {l' : List inIt} (r : inRow w' b (fun v => inBlk (putF V g v) n) v' l') (hh : HeapN inLt l' l'.length) (f : Frm b (V g) v' w w') : InAt w' b n (putF V g v') (putF L g l') := by
  refine ⟨r.1, fun k hk => ?_, fun k hk => ?_, fun k j hk hj hkj a ha => ?_⟩
  · by_cases e : k = g
    · subst e; rw [putF_at, putF_at]; exact r.2
    · rw [putF_ne _ _ e, putF_ne _ _ e]
      exact ownsRow_frm (h.rows k hk) f (Nat.lt_succ_self _) (fun a ha => fun e2 => h.apart g k hg hk (Ne.symm e) a e2 ha)
  · by_cases e : k = g
    · subst e; rw [putF_at]; exact hh
    · rw [putF_ne _ _ e]; exact h.heap k hk
  · have own : ∀ j, j < 4 → j ≠ g → ∀ a, (V j).ownBlock = some a → v'.ownBlock ≠ some a := fun j hj hne a ha e => by
      rcases f.own with ho | ho
      · exact h.apart j g hj hg hne a ha (ho ▸ e)
      · have h1 := ho a e
        have h2 := ((h.rows j hj).lt a ha).2
        omega
    by_cases e : k = g
    · subst e
      rw [putF_at] at ha
      rw [putF_ne _ _ (Ne.symm hkj)]
      exact fun e2 => own j hj (Ne.symm hkj) a e2 ha
    · rw [putF_ne _ _ e] at ha
      by_cases e2 : j = g
      · subst e2; rw [putF_at]; exact own k hk e a ha
      · rw [putF_ne _ _ e2]; exact h.apart k j hk hj hkj a ha
/-- Beside it a slice of the call's own grew, of another type. -/
theorem InAt.grewBy (h : InAt w b n V L) {B m size : Nat} {e : TypeId} {u : Value} {xs : List Value} {ob : Obj} (ho : w.ownsRow B e size u m xs) (hg : (w.alloc ob).grownBy w' u.ownBlock) (h1 : e ≠ 63 := by decide) (h2 : e ≠ 89 := by decide) : InAt w' b n V L :=
  ⟨by have := ((h.row (g := 0) (by omega)).grewBy ho hg h1 h2).1; rwa [show (fun v => inBlk (putF V 0 v) n) (V 0) = inBlk V n by simp [putF_same]] at this, fun k hk => ((h.row hk).grewBy ho hg h1 h2).2, h.heap, h.apart⟩
theorem InAt.cells (h : InAt w b n V L) : w.cell? ⟨b, 4, none⟩ = some (.int .i64 n) ∧ ∀ g, g < 4 → w.cell? ⟨b, g, none⟩ = some (V g) := by
  refine ⟨by simp [World.cell?, h.blk, inBlk], fun g hg => ?_⟩
  rcases (by omega : g = 0 ∨ g = 1 ∨ g = 2 ∨ g = 3) with rfl | rfl | rfl | rfl <;> simp [World.cell?, h.blk, inBlk]
end

theorem xRow (b n : Nat) (V : Nat → Value) (L : Nat → List inIt) (g : Nat) (w : World) (h : InAt w b n V L) (hn : n ≤ 4) (hg : g < n) :
    Calls Try.prog 38 #[.pointer (some ⟨b, 0, none⟩), .int .i64 g] w fun e w' => e = .returned (.pointer (some ⟨b, g, none⟩)) ∧ w = w' := by
  obtain ⟨c4, _⟩ := h.cells
  have hg0 : ¬ (g : Int) < 0 := by omega
  have hgn : ¬ n ≤ g := by omega
  have hg4 : g < 4 := by omega
  go_enter Try.func38, Try.ntmps38
  go_wp2
  go_ret
  exact ⟨rfl, rfl⟩
theorem xRowNo (b n : Nat) (V : Nat → Value) (L : Nat → List inIt) (g : Int) (w : World) (h : InAt w b n V L) (hg : g < 0 ∨ (n : Int) ≤ g) :
    Calls Try.prog 38 #[.pointer (some ⟨b, 0, none⟩), .int .i64 g] w fun e w' => e = .returned (.pointer none) ∧ w = w' := by
  obtain ⟨c4, _⟩ := h.cells
  by_cases h0 : g < 0
  · go_enter Try.func38, Try.ntmps38
    go_wp2
    go_ret
    exact ⟨rfl, rfl⟩
  · have hn : (n : Int) ≤ g := by omega
    go_enter Try.func38, Try.ntmps38
    go_wp2
    go_ret
    exact ⟨rfl, rfl⟩
theorem xRowNil (g : Int) (w : World) :
    Calls Try.prog 38 #[.pointer none, .int .i64 g] w fun e w' => e = .returned (.pointer none) ∧ w = w' := by
  go_enter Try.func38, Try.ntmps38
  go_wp2
  go_ret
  exact ⟨rfl, rfl⟩
/-- Is there such a kind? -/
def isKind (k : Int) : Bool := decide (0 ≤ k) && decide (k ≤ 2)
theorem xKind (k : Int) (w : World) : Calls Try.prog 39 #[.int .i64 k] w fun e w' => e = .returned (.bool (isKind k)) ∧ w = w' := by
  by_cases h0 : 0 ≤ k
  · have hv : isKind k = decide (k ≤ 2) := by simp [isKind, h0]
    rw [hv]
    go_enter Try.func39, Try.ntmps39
    go_wp2
    go_ret
    exact ⟨rfl, rfl⟩
  · have hv : isKind k = false := by simp [isKind, h0]
    rw [hv]
    go_enter Try.func39, Try.ntmps39
    go_wp2
    go_ret
    exact ⟨rfl, rfl⟩
theorem inLeft (b n : Nat) (V : Nat → Value) (L : Nat → List inIt) (g : Nat) (w : World) (h : InAt w b n V L) (hn : n ≤ 4) (hg : g < n) :
    Calls Try.prog 24 #[.pointer (some ⟨b, 0, none⟩), .int .i64 g] w fun e w' => e = .returned (.int .i64 (L g).length) ∧ w = w' := by
  go_enter Try.func24, Try.ntmps24
  go_wp2_with fail
  refine (xRow b n V L g _ h hn hg).mono ?_
  rintro e w' ⟨rfl, rfl⟩
  go_wp2_with fail
  refine (inLen b _ (V g) (L g) _ (inBlk_ok V n (by omega)) (h.row (by omega))).mono ?_
  rintro e w' ⟨rfl, rfl⟩
  go_wp2
  go_ret
  exact ⟨rfl, rfl⟩
theorem inLeftNo (p : Option Addr) (g : Int) (w : World) (hr : Calls Try.prog 38 #[.pointer p, .int .i64 g] w fun e w' => e = .returned (.pointer none) ∧ w = w') :
    Calls Try.prog 24 #[.pointer p, .int .i64 g] w fun e w' => e = .returned (.int .i64 0) ∧ w = w' := by
  go_enter Try.func24, Try.ntmps24
  go_wp2_with fail
  refine hr.mono ?_
  rintro e w' ⟨rfl, rfl⟩
  go_wp2
  go_ret
  exact ⟨rfl, rfl⟩
theorem inDueNo (p : Option Addr) (g m : Int) (w : World) (hr : Calls Try.prog 38 #[.pointer p, .int .i64 g] w fun e w' => e = .returned (.pointer none) ∧ w = w') :
    Calls Try.prog 22 #[.pointer p, .int .i64 g, .int .i64 m] w fun e w' => e = .returned (.slice none 0 0) ∧ w = w' := by
  go_enter Try.func22, Try.ntmps22
  go_wp2_with fail
  refine hr.mono ?_
  rintro e w' ⟨rfl, rfl⟩
  go_wp2
  go_ret
  exact ⟨rfl, rfl⟩
end Go.Proofs.Ytjlhdbkhebfghaa
