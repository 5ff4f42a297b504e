/- law 33: two objects of inputs beside each other. -/
import Derived.Test.YtjlhdbkhebfghaaTwin
import Derived.Test.YtjlhdbkhebfghaaSame33
namespace Go.Proofs.Ytjlhdbkhebfghaa
open Go.ChangeShapes Go.WideShapes Go.ChangeAt Go.RowKit
set_option linter.unusedVariables false

structure Two (w0 w : World) (bx by_ : Nat) (VX : Nat → Value) (LX : Nat → List inIt) (VY : Nat → Value) (LY : Nat → List inIt) : Prop where
  x : InAt w bx 4 VX LX
  y : InAt w by_ 4 VY LY
  bel : Bel w0.heap.size w0 w
  basex : w0.heap.size ≤ bx
  basey : w0.heap.size ≤ by_
  ne : bx ≠ by_
  apart : ∀ g h, g < 4 → h < 4 → ∀ a, (VX g).ownBlock = some a → (VY h).ownBlock ≠ some a
section
variable {w0 w w' : World} {bx by_ : Nat} {VX VY : Nat → Value} {LX LY : Nat → List inIt}
theorem InAt.other {v v' : Value} (h : InAt w bx 4 VX LX) {b : Nat} (f : Frm b v v' w w') (hne : bx ≠ b) (hv : v.ownBlock ≠ some bx) (hb : ∀ g, g < 4 → (VX g).ownBlock ≠ some b) (ha : ∀ g, g < 4 → ∀ a, (VX g).ownBlock = some a → v.ownBlock ≠ some a) : InAt w' bx 4 VX LX := by
  refine ⟨(f.block bx h.lt hne (Ne.symm hv)).trans h.blk, fun g hg => ?_, h.heap, h.apart⟩
  obtain ⟨r1, r2⟩ := h.rows g hg
  refine ⟨r1, ?_⟩
  rcases r2 with hn | ⟨a, cap, cur, hv2, hg2, hh, hr⟩
  · exact .inl hn
  · refine .inr ⟨a, cap, cur, hv2, hg2, (f.block a (lt_heap hh) ?_ (fun e => ha g hg a (by rw [hv2]; rfl) e.symm)).trans hh, hr⟩
    rintro rfl
    exact hb g hg (by rw [hv2]; rfl)
theorem InAt.own_ne (h : InAt w bx 4 VX LX) (k : InAt w by_ 4 VY LY) {g : Nat} (hg : g < 4) : (VX g).ownBlock ≠ some by_ := by
  intro e
  rcases (h.rows g hg).2 with ⟨hv, _⟩ | ⟨a, cap, cur, hv, _, hh, _⟩
  · rw [hv] at e; cases e
  · rw [hv] at e
    simp only [Value.ownBlock, Option.some.injEq] at e
    subst e
    exact typ_ne hh k.blk (by decide) rfl
theorem Two.below (h : Two w0 w bx by_ VX LX VY LY) (hb : Below w.heap.size w w') : Two w0 w' bx by_ VX LX VY LY :=
  ⟨h.x.below hb, h.y.below hb, h.bel.of hb, h.basex, h.basey, h.ne, h.apart⟩
theorem Two.stepX (h : Two w0 w bx by_ VX LX VY LY) {g : Nat} (hg : g < 4) {v' : Value} {l' : List inIt} (hI : InAt w' bx 4 (putF VX g v') (putF LX g l')) (f : Frm bx (VX g) v' w w') : Two w0 w' bx by_ (putF VX g v') (putF LX g l') VY LY := by
  refine ⟨hI, h.y.other f (Ne.symm h.ne) (h.x.own_ne h.y hg) (fun k hk => h.y.own_ne h.x hk) (fun k hk a ha e => h.apart g k hg hk a e ha), h.bel.frm f h.basex (fun a ha => ?_), h.basex, h.basey, h.ne, fun k j hk hj a ha e => ?_⟩
  · have := ((h.x.rows g hg).lt a ha).1
    have := h.basex
    omega
  · by_cases e2 : k = g
    · subst e2
      rw [putF_at] at ha
      rcases f.own with ho | ho
      · exact h.apart k j hk hj a (ho ▸ ha) e
      · have h1 := ho a ha
        have h2 := ((h.y.rows j hj).lt a e).2
        omega
    · rw [putF_ne _ _ e2] at ha
      exact h.apart k j hk hj a ha e
theorem Two.swap (h : Two w0 w bx by_ VX LX VY LY) : Two w0 w by_ bx VY LY VX LX := ⟨h.y, h.x, h.bel, h.basey, h.basex, Ne.symm h.ne, fun g k hg hk a ha e => h.apart k g hk hg a e ha⟩
theorem Two.stepY (h : Two w0 w bx by_ VX LX VY LY) {g : Nat} (hg : g < 4) {v' : Value} {l' : List inIt} (hI : InAt w' by_ 4 (putF VY g v') (putF LY g l')) (f : Frm by_ (VY g) v' w w') : Two w0 w' bx by_ VX LX (putF VY g v') (putF LY g l') := (h.swap.stepX hg hI f).swap
end
/-- Guest g's rows are alike. -/
def Alike (LX LY : List inIt) : Prop := ∃ PA PB, LX.Perm PA ∧ LY.Perm PB ∧ PA.map bare = PB.map bare ∧ Inc PA ∧ Inc PB
theorem Alike.length {LX LY : List inIt} (h : Alike LX LY) : LX.length = LY.length := by
  obtain ⟨PA, PB, p1, p2, e, _, _⟩ := h
  have : PA.length = PB.length := by simpa using congrArg List.length e
  rw [p1.length_eq, p2.length_eq, this]
theorem Alike.took {m : Int} {LX LY xs ys l' l'' : List inIt} (h : Alike LX LY) (t1 : Took inLt (dueBy m) LX xs l') (t2 : Took inLt (dueBy m) LY ys l'') (h1 : xs.length ≤ 4) (h2 : ys.length ≤ 4)
    (r1 : xs.length = 4 ∨ ∀ y ∈ l', m < y.tat) (r2 : ys.length = 4 ∨ ∀ y ∈ l'', m < y.tat) : xs.map bare = ys.map bare ∧ Alike l' l'' := by
  obtain ⟨PA, PB, p1, p2, e, i1, i2⟩ := h
  have t3 := t1.of_perm p1
  have t4 := t2.of_perm p2
  have hl : xs.length = ys.length := by rw [t3.many h1 r1, t4.many h2 r2, due_bare e]
  exact twin e i1 i2 t3 t4 hl
theorem dueW (b : Nat) (V : Nat → Value) (L : Nat → List inIt) (g : Nat) (m : Int) (w : World) (h : InAt w b 4 V L) (hg : g < 4) (hl : (L g).length ≤ 1000) :
    Calls Try.prog 22 #[.pointer (some ⟨b, 0, none⟩), .int .i64 g, .int .i64 m] w fun e w' => ∃ a c xs l' v', e = .returned (.slice a xs.length c) ∧ Took inLt (dueBy m) (L g) xs l' ∧ xs.length ≤ 4 ∧ (xs.length = 4 ∨ ∀ y ∈ l', m < y.tat) ∧ InAt w' b 4 (putF V g v') (putF L g l') ∧ w'.ownsRow w.heap.size 55 5 (.slice a xs.length c) xs.length (xs.flatMap inArg) ∧ Frm b (V g) v' w w' :=
  (inDue b 4 V L g m w h (by omega) hg hl).mono fun e w' ⟨out, xs, l', v', he, hT, h4, hr, hI, ho, f⟩ => by
    obtain ⟨a, c, rfl⟩ := ownsRow_shape ho
    exact ⟨a, c, xs, l', v', he, hT, h4, hr, hI, ho, f⟩
/-- Two slices of alike inputs. -/
theorem sameTwin (a b : Option Addr) (n m c d : Nat) (xs ys : List inIt) (w : World) (ha : ItemsAt 5 inArg w a n xs) (hb : ItemsAt 5 inArg w b m ys) (h : xs.map bare = ys.map bare) (hn : n ≤ 1000000) :
    Calls Try.prog 21 #[.slice a n c, .slice b m d] w fun e w' => e = .returned (.bool true) ∧ Below w.heap.size w w' := by
  have hl : xs.length = ys.length := by simpa using congrArg List.length h
  have hnm : m = n := by rw [← ha.1, ← hb.1, hl]
  subst hnm
  refine sameSame a b m c d xs w ha ⟨ha.1, fun hm => ?_⟩ hn
  obtain ⟨g, o, hp, hg, hc⟩ := hb.2 hm
  refine ⟨g, o, hp, hg, fun i hi j hj => ?_⟩
  rw [hc i hi j hj, inArg_bare (bare_at h (i := i) (by rw [ha.1]; exact hi)).2]
theorem items_at {w : World} {B n c : Nat} {a : Option Addr} {e : TypeId} {xs : List inIt} (h : w.ownsRow B e 5 (.slice a n c) xs.length (xs.flatMap inArg)) : ItemsAt 5 inArg w a xs.length xs := by
  obtain ⟨a', c', hv, _, _, hi, _⟩ := items_of_owned inArg_length h
  cases hv
  exact hi
end Go.Proofs.Ytjlhdbkhebfghaa
