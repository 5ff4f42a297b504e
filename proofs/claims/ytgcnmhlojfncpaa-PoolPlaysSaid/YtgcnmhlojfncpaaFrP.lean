/- Contracts of both stores of frames at any arguments. -/
import Derived.Test.YtgcnmhlojfncpaaR06z
import Derived.Test.YtgcnmhlojfncpaaStr
namespace Go.Proofs.Ytgcnmhlojfncpaa
open Go.ChangeShapes Go.WideShapes Go.ChangeAt Go.RowKit
set_option linter.unusedVariables false

/-- There is such a frame. -/
def fin (n : Nat) (f : Int) : Prop := 0 ≤ f ∧ f < n
instance (n : Nat) (f : Int) : Decidable (fin n f) := inferInstanceAs (Decidable (_ ∧ _))
def svE (n : Nat) (f o k : Int) : Int := if fin n f ∧ inP 64 o k then 0 else 1
def svG (n : Nat) (G : Nat → Int) (f o k v : Int) : Nat → Int := if fin n f ∧ inP 64 o k then putF G (f.toNat * 64 + o.toNat) k.toNat v else G
def ldV (n : Nat) (G : Nat → Int) (f o k : Int) : Int := if fin n f ∧ inP 64 o k then getV (fr G f.toNat) o.toNat k.toNat else 0
def clE (n : Nat) (f : Int) : Int := if fin n f then 0 else 1
def clG (n : Nat) (G : Nat → Int) (f : Int) : Nat → Int := if fin n f then putF G (f.toNat * 64) 64 0 else G
def byN (n : Nat) (f : Int) : Nat := if fin n f then 64 else 0
def clB (n : Nat) (G : Nat → Int) (f : Int) : Bool := if fin n f then cleanB (fr G f.toNat) else false
theorem fin.nat {n : Nat} {f : Int} (h : fin n f) : ∃ k : Nat, f = k ∧ k < n := ⟨f.toNat, by have := h.1; omega, by have := h.2; have := h.1; omega⟩
theorem fin.out {n : Nat} {f : Int} (h : ¬ fin n f) : f < 0 ∨ (n : Int) ≤ f := by unfold fin at h; omega
theorem byt_svG {G : Nat → Int} (h : Byt G) (n : Nat) (f o k v : Int) : Byt (svG n G f o k v) := by
  unfold svG
  split
  · exact putF_byt h _ _ _
  · exact h

theorem fsave_any (s fb n : Nat) (f o k v : Int) (G : Nat → Int) (w : World) (h : StoAt w s fb n G) (hk : (Lit.int .i64 k).wf = true) (h0 : 0 ≤ v) (h1 : v ≤ 4294967295) :
    Calls Try.prog 21 #[.pointer (some ⟨s, 0, none⟩), .int .i64 f, .int .i64 o, .int .i64 k, .int .u32 v] w fun e w' => e = .returned (.int .i64 (svE n f o k)) ∧ Upd fb w w' ∧ StoAt w' s fb n (svG n G f o k v) := by
  by_cases hf : fin n f
  · obtain ⟨F, rfl, hlt⟩ := hf.nat
    by_cases hp : inP 64 o k
    · obtain ⟨a, m, rfl, rfl, hm, ha⟩ := hp.nat
      refine (save_in s fb n F a m v G w h hlt hm ha h0 h1).mono ?_
      rintro e w' ⟨rfl, hu, hs⟩
      exact ⟨by rw [svE, if_pos ⟨hf, hp⟩], hu, by rw [svG, if_pos ⟨hf, hp⟩]; exact hs⟩
    · refine (save_out s fb n F o k v G w h hlt hp hk).mono ?_
      rintro e w' ⟨rfl, hb⟩
      exact ⟨by rw [svE, if_neg (fun x => hp x.2)], .of_below hb, by rw [svG, if_neg (fun x => hp x.2)]; exact h.below hb⟩
  · refine (save_bad _ f o k v 1 w (h.bad (fin.out hf))).mono ?_
    rintro e w' ⟨rfl, hb⟩
    exact ⟨by rw [svE, if_neg (fun x => hf x.1)], .of_below hb, by rw [svG, if_neg (fun x => hf x.1)]; exact h.below hb⟩
theorem rsave_any (t rb n : Nat) (f o k v : Int) (G : Nat → Int) (w : World) (h : RStoAt w t rb n G) (hw : (Lit.int .i64 f).wf = true) (hk : (Lit.int .i64 k).wf = true) (h0 : 0 ≤ v) (h1 : v ≤ 4294967295) :
    Calls Try.prog 22 #[.pointer (some ⟨t, 0, none⟩), .int .i64 f, .int .i64 o, .int .i64 k, .int .u32 v] w fun e w' => e = .returned (.int .i64 (svE n f o k)) ∧ Upd rb w w' ∧ RStoAt w' t rb n (svG n G f o k v) := by
  by_cases hf : fin n f
  · obtain ⟨F, rfl, hlt⟩ := hf.nat
    by_cases hp : inP 64 o k
    · obtain ⟨a, m, rfl, rfl, hm, ha⟩ := hp.nat
      refine (rsave_in t rb n F a m v G w h hlt hm ha h0 h1).mono ?_
      rintro e w' ⟨rfl, hu, hs⟩
      exact ⟨by rw [svE, if_pos ⟨hf, hp⟩], hu, by rw [svG, if_pos ⟨hf, hp⟩]; exact hs⟩
    · refine (rsave_out t rb n F o k v G w h hlt hp hk).mono ?_
      rintro e w' ⟨rfl, rfl⟩
      exact ⟨by rw [svE, if_neg (fun x => hp x.2)], Upd.refl _ _, by rw [svG, if_neg (fun x => hp x.2)]; exact h⟩
  · refine (rsave_no t rb n f o k v G w h hw (fin.out hf)).mono ?_
    rintro e w' ⟨rfl, rfl⟩
    exact ⟨by rw [svE, if_neg (fun x => hf x.1)], Upd.refl _ _, by rw [svG, if_neg (fun x => hf x.1)]; exact h⟩

theorem fclear_any (s fb n : Nat) (f : Int) (G : Nat → Int) (w : World) (h : StoAt w s fb n G) :
    Calls Try.prog 41 #[.pointer (some ⟨s, 0, none⟩), .int .i64 f] w fun e w' => e = .returned (.int .i64 (clE n f)) ∧ Upd fb w w' ∧ StoAt w' s fb n (clG n G f) := by
  by_cases hf : fin n f
  · obtain ⟨F, rfl, hlt⟩ := hf.nat
    refine (clear_in s fb n F G w h hlt).mono ?_
    rintro e w' ⟨rfl, hu, hs⟩
    exact ⟨by rw [clE, if_pos hf], hu, by rw [clG, if_pos hf]; exact hs⟩
  · refine (clear_bad _ f 1 w (h.bad (fin.out hf))).mono ?_
    rintro e w' ⟨rfl, hb⟩
    exact ⟨by rw [clE, if_neg hf], .of_below hb, by rw [clG, if_neg hf]; exact h.below hb⟩
theorem rclear_any (t rb n : Nat) (f : Int) (G : Nat → Int) (w : World) (h : RStoAt w t rb n G) (hw : (Lit.int .i64 f).wf = true) :
    Calls Try.prog 35 #[.pointer (some ⟨t, 0, none⟩), .int .i64 f] w fun e w' => e = .returned (.int .i64 (clE n f)) ∧ Upd rb w w' ∧ RStoAt w' t rb n (clG n G f) := by
  by_cases hf : fin n f
  · obtain ⟨F, rfl, hlt⟩ := hf.nat
    refine (rclear_in t rb n F G w h hlt).mono ?_
    rintro e w' ⟨rfl, hu, hs⟩
    exact ⟨by rw [clE, if_pos hf], hu, by rw [clG, if_pos hf]; exact hs⟩
  · refine (rclear_no t rb n f G w h hw (fin.out hf)).mono ?_
    rintro e w' ⟨rfl, rfl⟩
    exact ⟨by rw [clE, if_neg hf], Upd.refl _ _, by rw [clG, if_neg hf]; exact h⟩

theorem fclean_any (s fb n : Nat) (f : Int) (G : Nat → Int) (w : World) (h : StoAt w s fb n G) :
    Calls Try.prog 25 #[.pointer (some ⟨s, 0, none⟩), .int .i64 f] w fun e w' => e = .returned (.bool (clB n G f)) ∧ Below w.heap.size w w' := by
  by_cases hf : fin n f
  · obtain ⟨F, rfl, hlt⟩ := hf.nat
    refine (clean_in s fb n F G w h hlt).mono ?_
    rintro e w' ⟨rfl, hb⟩
    exact ⟨by rw [clB, if_pos hf]; rfl, hb⟩
  · refine (clean_bad _ f 1 w (h.bad (fin.out hf))).mono ?_
    rintro e w' ⟨rfl, hb⟩
    exact ⟨by rw [clB, if_neg hf], hb⟩
theorem rclean_any (t rb n : Nat) (f : Int) (G : Nat → Int) (w : World) (h : RStoAt w t rb n G) (hw : (Lit.int .i64 f).wf = true) :
    Calls Try.prog 26 #[.pointer (some ⟨t, 0, none⟩), .int .i64 f] w fun e w' => e = .returned (.bool (clB n G f)) ∧ w = w' := by
  by_cases hf : fin n f
  · obtain ⟨F, rfl, hlt⟩ := hf.nat
    refine (rclean_in t rb n F G w h hlt).mono ?_
    rintro e w' ⟨rfl, hb⟩
    exact ⟨by rw [clB, if_pos hf]; rfl, hb⟩
  · refine (rclean_no t rb n f G w h hw (fin.out hf)).mono ?_
    rintro e w' ⟨rfl, hb⟩
    exact ⟨by rw [clB, if_neg hf], hb⟩

end Go.Proofs.Ytgcnmhlojfncpaa
