/- slots.New at any parameter; the law package's awake. -/
import Derived.Test.YtkicmdflflknaaaS32m
namespace Go.Proofs.Ytkicmdflflknaaa
open Go.ChangeShapes Go.WideShapes Go.ChangeAt Go.RowKit
set_option linter.unusedVariables false

def HasSlots (w : World) (p : Option Addr) (n : Nat) (L : Nat → Int × Int) : Prop := 1 ≤ n → ∃ b o, p = some ⟨b, o, none⟩ ∧ b < w.heap.size ∧ SlotsIn w b o L n
theorem HasSlots.of_ok {w : World} {a : Option Addr} {len cap : Nat} {f : Nat → List Value} (h : SliceOk [some .i64, some .i64] w a len cap f) : ∃ L, HasSlots w a len L := by
  by_cases hl : 1 ≤ len
  · obtain ⟨b, o, L, h1, h2, h3⟩ := SlotsIn.of_ok h hl
    exact ⟨L, fun _ => ⟨b, o, h1, h2, h3⟩⟩
  · exact ⟨fun _ => (0, 0), fun h => absurd h hl⟩
theorem HasSlots.below {w w' : World} {p : Option Addr} {n : Nat} {L : Nat → Int × Int} (h : HasSlots w p n L) (hb : Below w.heap.size w w') : HasSlots w' p n L := fun hn =>
  let ⟨b, o, h1, h2, h3⟩ := h hn
  ⟨b, o, h1, Nat.lt_of_lt_of_le h2 hb.size, h3.below hb h2⟩

theorem new_any (p : Option Addr) (n c : Nat) (L : Nat → Int × Int) (w : World) (h : HasSlots w p n L) :
    Calls Try.prog 22 #[.slice p n c] w fun e w' => Below w.heap.size w w' ∧ ((okTab L n ∧ ∃ t g cap, e = .returned (.tuple #[.pointer (some ⟨t, 0, none⟩), .int .i64 0]) ∧ TabAt w' t g cap L n) ∨ (¬ okTab L n ∧ e = .returned (.tuple #[.pointer none, .int .i64 17]))) := by
  by_cases hn : 1 ≤ n ∧ n ≤ 8
  · obtain ⟨b, o, rfl, hb, hs⟩ := h hn.1
    refine (new_slots b o n c L w hn.1 hn.2 hs hb).mono fun e w' ⟨hb, hc⟩ => ⟨hb, ?_⟩
    rcases hc with ⟨ho, hx⟩ | ⟨ho, hx⟩
    · exact .inl ⟨⟨hn.1, hn.2, ho⟩, hx⟩
    · exact .inr ⟨fun h => ho h.2.2, hx⟩
  · refine (new_long p n c w (by omega)).mono fun e w' ⟨he, hw⟩ => ?_
    subst hw
    exact ⟨Below.refl _ _, .inr ⟨fun h => hn ⟨h.1, h.2.1⟩, he⟩⟩

def awakeL : Nat → Int × Int := fun i => if i = 0 then (3, 2) else (1, 3)
set_option maxHeartbeats 400000 in
theorem awake32 (w : World) : Calls Try.prog 23 #[] w fun e w' => e = .returned (.bool true) ∧ Below w.heap.size w w' := by
  have hok : okTab awakeL 2 := ⟨by omega, by omega, fun i hi => by
    have : i = 0 ∨ i = 1 := by omega
    rcases this with rfl | rfl <;> decide⟩
  have hst : StepAt awakeL 2 6 1 0 1 := ⟨by omega, by omega, by decide, by omega, by decide⟩
  have hin : SlotsIn (w.alloc (.cells #[.int .i64 3, .int .i64 2, .int .i64 1, .int .i64 3] 55)) w.heap.size 0 awakeL 2 := fun i hi => by
    have : i = 0 ∨ i = 1 := by omega
    rcases this with rfl | rfl <;> simp [awakeL, go_sem]
  go_enter Try.func23, Try.ntmps23
  go_wp2_with fail
  refine (new_any _ 2 2 awakeL _ (fun _ => ⟨_, _, rfl, by simp, hin⟩)).mono ?_
  rintro e w1 ⟨hb1, ⟨_, t, g, cap, rfl, ht⟩ | ⟨hn, _⟩⟩
  · go_wp2_with fail
    refine (Calls.lat (tat _ _ _ _ _ 6 1 0 1 _ ht hok hst (by omega))).mono ?_
    rintro e w' ⟨rfl, x1, rfl⟩
    have hbel : Bel w.heap.size w w1 := Bel.of (Bel.refl w).alloc hb1
    go_wp2_with fail
    go_ret
    exact ⟨rfl, (by refine (?_ : Bel _ _ _).1; repeat (first | exact hbel | exact Bel.refl _ | apply Bel.later | apply Bel.alloc | apply Bel.drew | (refine Bel.laterB ?_ (by first | exact Nat.le_refl _ | omega | (simp; omega) | simp)) | (refine Bel.setCell ?_ (by first | exact Nat.le_refl _ | omega | (simp; omega) | simp))))⟩
  · exact absurd hok hn

end Go.Proofs.Ytkicmdflflknaaa
