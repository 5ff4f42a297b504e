/- Inputs: New. -/
import Derived.Test.YtjlhdbkhebfghaaInD
namespace Go.Proofs.Ytjlhdbkhebfghaa
open Go.ChangeShapes Go.WideShapes Go.ChangeAt Go.RowKit
set_option linter.unusedVariables false

/-- Those of the first k that count for a guest. -/
def counts (g : Nat) (x : inIt) : Bool := decide (x.gst = g) && isKind x.knd
def cntL (A : List inIt) (gn g k : Nat) : List inIt := if g < gn then (A.take k).filter (counts g) else []
theorem cntL_le (A : List inIt) (gn g k : Nat) : (cntL A gn g k).length ≤ k := by
  unfold cntL
  split
  · exact Nat.le_trans (List.length_filter_le ..) (by rw [List.length_take]; omega)
  · exact Nat.zero_le _
theorem cntL_zero (A : List inIt) (gn g : Nat) : cntL A gn g 0 = [] := by
  unfold cntL
  split <;> simp
theorem cntL_succ (A : List inIt) (gn g k : Nat) (hk : k < A.length) : cntL A gn g (k + 1) = if g < gn ∧ counts g (atL A k) = true then cntL A gn g k ++ [atL A k] else cntL A gn g k := by
  unfold cntL
  by_cases hg : g < gn
  · rw [if_pos hg, if_pos hg, take_succ_atL hk, List.filter_append]
    cases hc : counts g (atL A k) <;> simp [hg, hc]
  · rw [if_neg hg, if_neg hg, if_neg (fun h => hg h.1)]

theorem input_load {w : World} {g o : Nat} {a b c d e : Value} (h0 : w.cell? ⟨g, o, none⟩ = some a) (h1 : w.cell? ⟨g, o + 1, none⟩ = some b) (h2 : w.cell? ⟨g, o + 2, none⟩ = some c) (h3 : w.cell? ⟨g, o + 3, none⟩ = some d) (h4 : w.cell? ⟨g, o + 4, none⟩ = some e) :
    (loadVar 55 ⟨g, o, none⟩).run Try.prog w = .ok (.agg #[a, b, c, d, e]) w := by
  refine run_loadVar_mid w g o _ [a, b, c, d, e] _ (fun j v hj => ?_) Try.underlying55 rfl (by kernel_rfl)
  match j, hj with
  | 0, hj => simpa using h0.trans hj
  | 1, hj => simpa using h1.trans hj
  | 2, hj => simpa using h2.trans hj
  | 3, hj => simpa using h3.trans hj
  | 4, hj => simpa using h4.trans hj

theorem inNewNo (gn : Int) (p : Option Addr) (n c : Nat) (w : World) (hno : gn < 1 ∨ 4 < gn) :
    Calls Try.prog 18 #[.int .i64 gn, .slice p n c] w fun e w' => e = .returned (.tuple #[.pointer none, .int .i64 1]) ∧ w = w' := by
  by_cases h1 : gn < 1
  · go_enter Try.func18, Try.ntmps18
    go_wp2
    go_ret2
    exact ⟨rfl, rfl⟩
  · have h2 : 4 < gn := by omega
    go_enter Try.func18, Try.ntmps18
    go_wp2
    go_ret2
    exact ⟨rfl, rfl⟩
theorem inNewLong (gn : Int) (p : Option Addr) (n c : Nat) (w : World) (h1 : 1 ≤ gn) (h4 : gn ≤ 4) (hn : 256 < n) :
    Calls Try.prog 18 #[.int .i64 gn, .slice p n c] w fun e w' => e = .returned (.tuple #[.pointer none, .int .i64 10]) ∧ w = w' := by
  go_enter Try.func18, Try.ntmps18
  go_wp2
  go_ret2
  exact ⟨rfl, rfl⟩

set_option maxRecDepth 20000 in
set_option maxHeartbeats 2000000 in
theorem inNew (gn : Nat) (p : Option Addr) (n c : Nat) (A : List inIt) (w : World) (h1 : 1 ≤ gn) (h4 : gn ≤ 4) (hn : n ≤ 256) (hA : ItemsAt 5 inArg w p n A) (hpl : ∀ i, i < n → (atL A i).pl = i) :
    Calls Try.prog 18 #[.int .i64 gn, .slice p n c] w fun e w' => ∃ V L, e = .returned (.tuple #[.pointer (some ⟨w.heap.size, 0, none⟩), .int .i64 0]) ∧ InAt w' w.heap.size gn V L ∧ (∀ g, g < 4 → (L g).Perm (cntL A gn g n)) ∧ Below w.heap.size w w' := by
  have hgn1 : ¬ (gn : Int) < 1 := by omega
  have hgn4 : ¬ 4 < gn := by omega
  have hl := hA.1
  go_enter Try.func18, Try.ntmps18
  go_wp2_with fail
  go_loopw [24] (fun kv wr => ∃ (k : Nat) (V : Nat → Value) (L : Nat → List inIt), k ≤ n ∧ kv = .int .i64 k ∧ InAt wr w.heap.size gn V L ∧ (∀ g, g < 4 → (L g).Perm (cntL A gn g k)) ∧ Bel w.heap.size w wr) (fun kv _ => n - (intOf kv).toNat)
  case atStart =>
    refine ⟨0, fun _ => .slice none 0 0, fun _ => [], Nat.zero_le _, rfl, ⟨Go.heap_alloc_new w _, fun g hg => World.ownsRow_nil _ _ _ _, fun g hg x h0 hx => by simp at hx, fun g h _ _ _ a ha => by cases ha⟩, fun g hg => by rw [cntL_zero], (Bel.refl w).alloc⟩
  case round =>
    obtain ⟨k, V, L, hk, rfl, hI, hp, hbel⟩ := hrel
    by_cases hkn : k < n
    · obtain ⟨b0, o0, rfl, l0, hc⟩ := hA.2 (by omega)
      have hck := fun j hj => (hbel.1.cell (p := ⟨b0, o0 + k * 5 + j, none⟩) l0).trans (hc k hkn j hj)
      have hpk := hpl k hkn
      have hsucc := fun g => cntL_succ A gn g k (by omega)
      have hle : ∀ g, g < 4 → (L g).length ≤ k := fun g hg => by rw [(hp g hg).length_eq]; exact cntL_le A gn g k
      obtain ⟨t, gs, kd, cd, dt, pl, hxe⟩ : ∃ t gs kd cd dt pl, atL A k = (⟨t, gs, kd, cd, dt, pl⟩ : inIt) := ⟨_, _, _, _, _, _, rfl⟩
      rw [hxe] at hck hpk hsucc
      simp only at hpk
      subst hpk
      have c0 := hck 0 (by omega)
      have c1 := hck 1 (by omega)
      have c2 := hck 2 (by omega)
      have c3 := hck 3 (by omega)
      have c4 := hck 4 (by omega)
      simp only [inArg, List.getElem?_cons_zero, List.getElem?_cons_succ, Nat.add_zero] at c0 c1 c2 c3 c4
      have HS := Lib.hid hsucc
      have HP := Lib.hid hp
      have HL := Lib.hid hle
      have HC := Lib.hid hc
      have HPL := Lib.hid hpl
      clear hc hck hpl hsucc hp hle hxe
      have hI2 := hI.below (Bel.refl wr).alloc.1 (w' := wr.alloc (.cells #[.int .i64 t, .int .i64 gs, .int .i64 kd, .int .i64 cd, .string dt] 55))
      have hbel2 : Bel w.heap.size w (wr.alloc (.cells #[.int .i64 t, .int .i64 gs, .int .i64 kd, .int .i64 cd, .string dt] 55)) := hbel.alloc
      by_cases hgs : gs < 0 ∨ (gn : Int) ≤ gs
      · have hno : ∀ g, g < 4 → ¬ (g < gn ∧ counts g ⟨t, gs, kd, cd, dt, k⟩ = true) := fun g hg hx => by
          have := hx.2
          simp [counts] at this
          omega
        go_wp2_with fail
        refine (xRowNo w.heap.size gn V L gs _ hI2 hgs).mono ?_
        rintro e w' ⟨rfl, rfl⟩
        go_wp2
        go_roundw
        case rel => exact ⟨k + 1, V, L, by omega, by go_num, hI2, fun g hg => by rw [HS.out g, if_neg (hno g hg)]; exact HP.out g hg, hbel2⟩
        case measure => simp [intOf]; omega
      · obtain ⟨q, rfl⟩ : ∃ q : Nat, gs = q := ⟨gs.toNat, by omega⟩
        have hq : q < gn := by omega
        have hq4 : q < 4 := by omega
        cases hkd : isKind kd
        · have hno : ∀ g, ¬ (g < gn ∧ counts g ⟨t, q, kd, cd, dt, k⟩ = true) := fun g hx => by
            have := hx.2
            simp [counts, hkd] at this
          have HK := Lib.hid hkd
          clear hkd
          go_wp2_with fail
          refine (xRow w.heap.size gn V L q _ hI2 h4 hq).mono ?_
          rintro e w' ⟨rfl, rfl⟩
          go_wp2_with fail
          refine (xKind kd _).mono ?_
          rintro e w' ⟨rfl, rfl⟩
          rw [HK.out]
          go_wp2
          go_roundw
          case rel => exact ⟨k + 1, V, L, by omega, by go_num, hI2, fun g hg => by rw [HS.out g, if_neg (hno g)]; exact HP.out g hg, hbel2⟩
          case measure => simp [intOf]; omega
        · have hyes : ∀ g, (g < gn ∧ counts g ⟨t, q, kd, cd, dt, k⟩ = true) ↔ g = q := fun g => by
            simp [counts, hkd]
            omega
          have HK := Lib.hid hkd
          have HY := Lib.hid hyes
          clear hkd hyes
          have hrow := hI2.row hq4
          have hhp := hI2.heap q hq4
          go_wp2_with fail
          refine (xRow w.heap.size gn V L q _ hI2 h4 hq).mono ?_
          rintro e w' ⟨rfl, rfl⟩
          go_wp2_with fail
          refine (xKind kd _).mono ?_
          rintro e w' ⟨rfl, rfl⟩
          rw [HK.out]
          go_wp2_with fail
          refine (inHPush w.heap.size _ (V q) (L q) ⟨t, q, kd, cd, dt, k⟩ _ (inBlk_ok V gn hq4) hrow hhp (by have := HL.out q hq4; omega)).mono ?_
          rintro e w3 ⟨rfl, v3, l3, h3, hh3, p3, f3⟩
          have hI3 := hI2.put hq4 h3 hh3 f3
          have hbel3 : Bel w.heap.size w w3 := hbel2.frm f3 (Nat.le_refl _) (fun a ha => by have := (hrow.own a ha).1; omega)
          go_wp2
          go_roundw
          case rel =>
            refine ⟨k + 1, _, _, by omega, by go_num, hI3, fun g hg => ?_, hbel3⟩
            rw [HS.out g]
            by_cases e : g = q
            · subst e
              rw [putF_at, if_pos ((HY.out g).2 rfl)]
              exact p3.trans ((HP.out g hg).append_right _)
            · rw [putF_ne _ _ e, if_neg (fun h => e ((HY.out g).1 h))]
              exact HP.out g hg
          case measure => simp [intOf]; omega
    · obtain rfl : k = n := by omega
      go_wp2
      go_ret2
      exact ⟨V, L, rfl, hI, hp, hbel.1⟩
end Go.Proofs.Ytjlhdbkhebfghaa
