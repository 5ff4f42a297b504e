/- octet's Bytes and Words, and the law package's words. -/
import Derived.Test.YtclpbphofifojaaOctR
import Derived.OwnWalk
import Derived.BigQuiet
namespace Go.Proofs.Ytclpbphofifojaa
open Go.ChangeShapes Go.WideShapes Go.ChangeAt Go.RowKit
set_option linter.unusedVariables false

/-- The bytes of the first n words. -/
def wb (L : Nat → Int) (n : Nat) : Nat → Int := fun i => if i < 4 * n then L (i / 4) / (256 : Int) ^ (i % 4) % 256 else 0
theorem wb_byt (L : Nat → Int) (n : Nat) : Byt (wb L n) := fun i => by
  unfold wb
  split <;> omega
theorem wb_succ (L : Nat → Int) (k : Nat) : wb L (k + 1) = putF (wb L k) (4 * k) 4 (L k) := by
  funext i
  unfold wb putF
  dsimp only
  by_cases h : i < 4 * k
  · rw [if_pos (by omega), if_neg (by omega), if_pos h]
  · by_cases h2 : i < 4 * (k + 1)
    · rw [if_pos h2, if_pos (by omega), show i / 4 = k by omega, show i % 4 = i - 4 * k by omega]
    · rw [if_neg h2, if_neg (by omega), if_neg h]
theorem wb_get (L : Nat → Int) (n i : Nat) (hi : i < n) (h0 : 0 ≤ L i) (h1 : L i ≤ 4294967295) : getV (wb L n) (4 * i) 4 = L i := by
  have a0 : wb L n (4 * i) = L i % 256 := by
    unfold wb
    rw [if_pos (by omega), show 4 * i / 4 = i by omega, show 4 * i % 4 = 0 by omega]
    simp
  have a1 : wb L n (4 * i + 1) = L i / 256 % 256 := by
    unfold wb
    rw [if_pos (by omega), show (4 * i + 1) / 4 = i by omega, show (4 * i + 1) % 4 = 1 by omega]
    simp
  have a2 : wb L n (4 * i + 2) = L i / 65536 % 256 := by
    unfold wb
    rw [if_pos (by omega), show (4 * i + 2) / 4 = i by omega, show (4 * i + 2) % 4 = 2 by omega]
    simp
  have a3 : wb L n (4 * i + 3) = L i / 16777216 % 256 := by
    unfold wb
    rw [if_pos (by omega), show (4 * i + 3) / 4 = i by omega, show (4 * i + 3) % 4 = 3 by omega]
    simp
  simp only [getV, Nat.add_zero, a0, a1, a2, a3]
  simp
  omega

/-- The words of bytes. -/
def wordsOf (f : Nat → Int) (k : Nat) : List Int := (List.range k).map fun i => getV f (4 * i) 4
theorem wordsOf_succ (f : Nat → Int) (k : Nat) : wordsOf f (k + 1) = wordsOf f k ++ [getV f (4 * k) 4] := by simp [wordsOf, List.range_succ]
theorem wordsOf_length (f : Nat → Int) (k : Nat) : (wordsOf f k).length = k := by simp [wordsOf]

/-- Words as a parameter has them. -/
def WSrc (w : World) (p : Option Addr) (n : Nat) (L : Nat → Int) : Prop := (p = none → n = 0) ∧ (∀ i, 0 ≤ L i ∧ L i ≤ 4294967295) ∧ (1 ≤ n → ∃ b o, p = some ⟨b, o, none⟩ ∧ HasYet w b ∧ ∀ i, i < n → w.cell? ⟨b, o + i, none⟩ = some (.int .u32 (L i)))
theorem WSrc.below {w w' : World} {p : Option Addr} {n : Nat} {L : Nat → Int} (h : WSrc w p n L) (hb : Below w.heap.size w w') : WSrc w' p n L :=
  ⟨h.1, h.2.1, fun hn => let ⟨b, o, hp, hl, hx⟩ := h.2.2 hn; ⟨b, o, hp, Nat.lt_of_lt_of_le hl hb.size, fun i hi => (hb.cell (p := ⟨b, o + i, none⟩) hl).trans (hx i hi)⟩⟩
theorem WSrc.ints {w : World} {p : Option Addr} {n : Nat} {L : Nat → Int} (h : WSrc w p n L) : IntsAt .u32 w p n ((List.range n).map L) :=
  ⟨by simp, fun hn => let ⟨b, o, hp, hl, hx⟩ := h.2.2 hn; ⟨b, o, hp, hl, fun i hi => by rw [hx i hi]; simp [List.getD, hi]⟩⟩
theorem wsrc_of_ok {w : World} {p : Option Addr} {n c : Nat} {f0 : Nat → List Value} (h : SliceOk [some .u32] w p n c f0) : ∃ L, WSrc w p n L := by
  have hp : p = none → n = 0 := fun e => by have h1 := h.1; have h2 := h.2.2.1 e; omega
  by_cases hn : 1 ≤ n
  · obtain ⟨b, o, _, rfl, hb, _⟩ := h.int1 (i := 0) (by omega)
    obtain ⟨f, hf⟩ := Deep.choose_lt (α := Int) (n := n) (p := fun i x => (0 ≤ x ∧ x ≤ 4294967295) ∧ w.cell? ⟨b, o + i, none⟩ = some (.int .u32 x)) (fun i hi => by
      obtain ⟨b', o', x, ha, _, _, hw, hc⟩ := h.int1 hi
      simp only [Option.some.injEq, Addr.mk.injEq, and_true] at ha
      obtain ⟨rfl, rfl⟩ := ha
      exact ⟨x, bounds_u32 hw, hc⟩)
    refine ⟨fun i => if i < n then f i else 0, hp, fun i => ?_, fun _ => ⟨b, o, rfl, hb, fun i hi => ?_⟩⟩
    · dsimp only
      split
      · rename_i hi; exact (hf i hi).1
      · simp
    · simp only [if_pos hi]; exact (hf i hi).2
  · exact ⟨fun _ => 0, hp, fun _ => by simp, fun h => absurd h hn⟩

theorem made_byte {m i : Nat} (h : i < m) : (madeCells #[Value.int .u8 0] m).toList[i]? = some (.int .u8 0) := by
  rw [Array.getElem?_toList]
  unfold madeCells
  rw [Array.getElem?_map, Array.getElem?_range, if_pos h]
  have e : i % (#[Value.int .u8 0] : Array Value).size = 0 := Nat.mod_one i
  show some ((#[Value.int .u8 0] : Array Value)[i % (#[Value.int .u8 0] : Array Value).size]!) = _
  rw [e]
  rfl

set_option maxHeartbeats 1000000 in
theorem bytes_any (p : Option Addr) (n c : Nat) (L : Nat → Int) (w : World) (h : WSrc w p n L) (hn : 4 * n ≤ 140737488355328) :
    Calls Try.prog 23 #[.slice p n c] w fun e w' => ∃ g, e = .returned (.slice (some ⟨g, 0, none⟩) (4 * n) (4 * n)) ∧ w.heap.size ≤ g ∧ RowAt w' g (4 * n) (wb L n) ∧ Below w.heap.size w w' := by
  obtain ⟨i0, hi, hz0, hz1, hz2⟩ := info_parts Try.infoByte
  go_enter Try.func23, Try.ntmps23
  go_wp2_with (first | (at_make; refine wpList_make_full _ rfl (.tmp 8) (.tmp 8) 34 rfl w.heap.size 5 i0 (.int .u8 0) 1 Try.underlying34 hi hz0 hz1 _ _ _ _ (4 * n) rfl rfl (by omega) (by omega) (by rw [hz2]; omega) (by unfold maxLen; omega) (Nat.le_refl _) ?_) | go_in)
  intro w1 hown hgrow
  have hb1 : Below w.heap.size w w1 := ⟨hgrow.os, hgrow.tape, hgrow.output, hgrow.size, fun i hi => hgrow.block i hi (by simp)⟩
  have hrow : RowAt w1 w.heap.size (4 * n) (wb L 0) := by
    rcases hown.2 with ⟨h, _⟩ | ⟨g, cap, cur, hv, _, hg, _, _, _, ht⟩
    · cases h
    · simp only [Value.slice.injEq, Option.some.injEq, Addr.mk.injEq, and_true] at hv
      obtain ⟨rfl, _⟩ := hv
      refine ⟨cur, hg, fun i hi => ?_, wb_byt _ _⟩
      have e : (madeCells #[Value.int .u8 0] (4 * n)).toList[i]? = some (.int .u8 0) := made_byte hi
      rw [← ht, List.getElem?_take, if_pos (by omega)] at e
      rw [← Array.getElem?_toList, e]
      simp [wb]
  clear hown hgrow
  have h1 := h.below hb1
  have hbel1 : Bel w.heap.size w w1 := Bel.of (Bel.refl w) hb1
  have hb1s := hb1.size
  go_wp2
  go_loopw [12] (fun i wr => ∃ k : Nat, k ≤ n ∧ i = .int .i64 k ∧ Upd w.heap.size w1 wr ∧ RowAt wr w.heap.size (4 * n) (wb L k)) (fun i _ => n - (intOf i).toNat)
  case atStart => exact ⟨0, Nat.zero_le _, rfl, Upd.refl _ _, hrow⟩
  case round =>
    obtain ⟨k, hk, rfl, hu, hr⟩ := hrel
    obtain ⟨hp, hL, hx⟩ := h
    by_cases hlt : k < n
    · obtain ⟨b, o, rfl, hl, hc⟩ := hx (by omega)
      have hlb : b < w.heap.size := hl
      have c1 : wr.cell? ⟨b, o + k, none⟩ = some (.int .u32 (L k)) := hu.cell ((hb1.cell (p := ⟨b, o + k, none⟩) hl).trans (hc k hlt)) (by simp; omega)
      clear h1
      obtain ⟨l0, l1⟩ := hL k
      clear hx hc hp hrow
      go_wp2_with fail
      refine (spread_any w.heap.size (4 * n) (4 * k) 4 (L k) _ _ hr (by omega) (by omega) l0 l1).mono ?_
      rintro e w2 ⟨⟨x, rfl⟩, hu2, hr2⟩
      go_wp2_with fail
      go_roundw
      case rel => exact ⟨k + 1, by omega, by go_num, hu.trans hu2, by rw [wb_succ]; exact hr2⟩
      case measure => simp [intOf]; omega
    · obtain rfl : k = n := by omega
      go_wp2_with fail
      go_ret
      exact ⟨w.heap.size, rfl, Nat.le_refl _, hr, (hbel1.upd hu (Nat.le_refl _)).1⟩

end Go.Proofs.Ytclpbphofifojaa
