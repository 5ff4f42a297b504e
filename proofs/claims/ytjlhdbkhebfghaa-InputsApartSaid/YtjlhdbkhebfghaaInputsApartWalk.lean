/- law 33: InputsApart. -/
import Derived.Test.YtjlhdbkhebfghaaInTwo
import Derived.Deep.RegionHeld3
namespace Go.Proofs.Ytjlhdbkhebfghaa
open Go.ChangeShapes Go.WideShapes Go.ChangeAt Go.RowKit
set_option linter.unusedVariables false

theorem ownsRow_grew {w w' : World} {B size n : Nat} {e : TypeId} {u : Value} {xs : List Value} {ob : Obj} {r : Option Nat} (h : w.ownsRow B e size u n xs) (hg : (w.alloc ob).grownBy w' r) (hne : ∀ a, u.ownBlock = some a → r ≠ some a) : w'.ownsRow B e size u n xs := by
  refine ⟨h.1, ?_⟩
  rcases h.2 with hn | ⟨g, cap, cur, hv, hg2, hh, hr⟩
  · exact .inl hn
  · exact .inr ⟨g, cap, cur, hv, hg2, (hg.block g (by have := lt_heap hh; simp; omega) (fun e => hne g (by rw [hv]; rfl) e.symm)).trans (heap_alloc hh), hr⟩

/-- What is known of the two lists that are made. -/
structure Made (w0 w : World) (g : Nat) (i : Nat) (av bv : Value) (LA LB : List inIt) : Prop where
  a : w.ownsRow w0.heap.size 55 5 av LA.length (LA.flatMap inArg)
  b : w.ownsRow w0.heap.size 55 5 bv LB.length (LB.flatMap inArg)
  la : LA.length ≤ i
  lb : LB.length ≤ 2 * i
  alike : (LB.filter (ofG g)).map bare = LA.map bare
  apart : ∀ x, av.ownBlock = some x → bv.ownBlock ≠ some x
  bel : Bel w0.heap.size w0 w
theorem Made.skip {w0 w : World} {g i : Nat} {av bv : Value} {LA LB : List inIt} (h : Made w0 w g i av bv LA LB) : Made w0 w g (i + 1) av bv LA LB :=
  ⟨h.a, h.b, by have := h.la; omega, by have := h.lb; omega, h.alike, h.apart, h.bel⟩
theorem Made.toB {w0 w w' : World} {g i : Nat} {av bv : Value} {LA LB : List inIt} {x : inIt} {ob : Obj} {g4 cap4 : Nat} (h : Made w0 w g i av bv LA LB) (hx : ofG g x = false) (hlb : LB.length + 1 ≤ 2 * i)
    (hown : w'.ownsRow w0.heap.size 55 5 (.slice (some ⟨g4, 0, none⟩) (LB.length + 1) cap4) (LB.length + 1) (LB.flatMap inArg ++ inArg x)) (hg : (w.alloc ob).grownBy w' bv.ownBlock) (hat : bv.ownBlock = some g4 ∨ g4 = w.heap.size + 1) :
    Made w0 w' g i av (.slice (some ⟨g4, 0, none⟩) (LB.length + 1) cap4) LA (LB ++ [x]) := by
  refine ⟨ownsRow_grew h.a hg (fun y hy e => h.apart y hy e), by simpa using hown, h.la, by simpa using hlb, ?_, fun y hy e => ?_, h.bel.append h.b hg⟩
  · rw [List.filter_append, show [x].filter (ofG g) = [] by simp [hx], List.append_nil]
    exact h.alike
  · simp only [Value.ownBlock, Option.some.injEq] at e
    subst e
    rcases hat with hat | hat
    · exact h.apart _ hy hat
    · have := (h.a.lt _ hy).2
      omega
theorem Made.toA {w0 w w' : World} {g i : Nat} {av bv : Value} {LA LB : List inIt} {x : inIt} {ob : Obj} {g4 cap4 : Nat} (h : Made w0 w g i av bv LA LB)
    (hown : w'.ownsRow w0.heap.size 55 5 (.slice (some ⟨g4, 0, none⟩) (LA.length + 1) cap4) (LA.length + 1) (LA.flatMap inArg ++ inArg x)) (hg : (w.alloc ob).grownBy w' av.ownBlock) (hat : av.ownBlock = some g4 ∨ g4 = w.heap.size + 1) :
    w'.ownsRow w0.heap.size 55 5 bv LB.length (LB.flatMap inArg) ∧ (∀ y, (Value.slice (some ⟨g4, 0, none⟩) (LA.length + 1) cap4).ownBlock = some y → bv.ownBlock ≠ some y) ∧ Bel w0.heap.size w0 w' := by
  refine ⟨ownsRow_grew h.b hg (fun y hy e => h.apart y e hy), fun y hy e => ?_, h.bel.append h.a hg⟩
  simp only [Value.ownBlock, Option.some.injEq] at hy
  subst hy
  rcases hat with hat | hat
  · exact h.apart _ hat e
  · have := (h.b.lt _ e).2
    omega
theorem Made.both {w0 w w2 w3 : World} {g i : Nat} {av av2 bv : Value} {LA LB : List inIt} {x : inIt} {ob : Obj} {g4 cap4 : Nat} (h : Made w0 w g i av bv LA LB) (hx : ofG g x = true)
    (ha : w2.ownsRow w0.heap.size 55 5 av2 (LA.length + 1) (LA.flatMap inArg ++ inArg x)) (hap : ∀ y, av2.ownBlock = some y → bv.ownBlock ≠ some y) (hbel : Bel w0.heap.size w0 w2) (hb : w2.ownsRow w0.heap.size 55 5 bv LB.length (LB.flatMap inArg))
    (hown : w3.ownsRow w0.heap.size 55 5 (.slice (some ⟨g4, 0, none⟩) (LB.length + 1) cap4) (LB.length + 1) (LB.flatMap inArg ++ inArg x)) (hg : (w2.alloc ob).grownBy w3 bv.ownBlock) (hat : bv.ownBlock = some g4 ∨ g4 = w2.heap.size + 1) :
    Made w0 w3 g (i + 1) av2 (.slice (some ⟨g4, 0, none⟩) (LB.length + 1) cap4) (LA ++ [x]) (LB ++ [x]) := by
  refine ⟨by have := ownsRow_grew ha hg (fun y hy e => hap y hy e); simpa using this, by simpa using hown, by have := h.la; simp; omega, by have := h.lb; simp; omega, ?_, fun y hy e => ?_, hbel.append hb hg⟩
  · rw [List.filter_append, show [x].filter (ofG g) = [x] by simp [hx], List.map_append, List.map_append, h.alike]
  · simp only [Value.ownBlock, Option.some.injEq] at e
    subst e
    rcases hat with hat | hat
    · exact hap _ hy hat
    · have := (ha.lt _ hy).2
      omega

set_option maxRecDepth 100000 in
set_option maxHeartbeats 4000000 in
theorem inputsApart_walk (p0 : Option Addr) (n0 c0 : Nat) (f0 : Nat → List Value) (p1 : Option Addr) (n1 c1 : Nat) (f1 : Nat → List Value) (a2 : Int) (p3 : Option Addr) (n3 c3 : Nat) (f3 : Nat → List Value) (w : World) (w0 : SliceOkS [.int .i64, .int .i64, .int .i64, .int .i64, .str] w p0 n0 c0 f0) (hR0 : c0 * 48 ≤ 140737488351232) (w1 : SliceOkS [.int .i64, .int .i64, .int .i64, .int .i64, .str] w p1 n1 c1 f1) (hR1 : c1 * 48 ≤ 140737488351232) (w2 : (Lit.int .u8 a2).wf = true) (w3 : SliceOk [some .i64] w p3 n3 c3 f3) (hR3 : c3 * 8 ≤ 140737488351232) :
    Calls Try.prog 7 #[.slice p0 n0 c0, .slice p1 n1 c1, .int .u8 a2, .slice p3 n3 c3] w fun e w' => e = .returned (.bool true) ∧ Below w.heap.size w w' := by
  obtain ⟨i0, hi, hz0, hz1, hz2⟩ := info_parts Try.inputRow
  obtain ⟨A, hA, _⟩ := items_of_arg w0
  obtain ⟨M, hM, _⟩ := items_of_arg w1
  obtain ⟨ha0, ha1⟩ := bounds_u8 w2
  have hn0 : n0 ≤ 140737488351232 := by have := w0.1; omega
  have hn1 : n1 ≤ 140737488351232 := by have := w1.1; omega
  have hn3 : n3 ≤ 140737488351232 := by have := w3.1; omega
  clear w0 hR0 w1 hR1 w2 hR3
  obtain ⟨gq, hgq⟩ : ∃ gq : Nat, a2 % 4 = gq := ⟨(a2 % 4).toNat, by omega⟩
  have hg4 : gq < 4 := by omega
  go_enter Try.func7, Try.ntmps7
  go_wp2_with fail
  have HGQ := Lib.hid hgq
  clear hgq
  go_loopw [10, 11, 12] (fun av bv iv wr => ∃ (i : Nat) (LA LB : List inIt), i ≤ 60 ∧ iv = .int .i64 i ∧ Made w wr gq i av bv LA LB) (fun _ _ iv _ => 60 - (intOf iv).toNat)
  case atStart => exact ⟨0, [], [], Nat.zero_le _, rfl, World.ownsRow_nil _ _ _ _, World.ownsRow_nil _ _ _ _, Nat.zero_le _, Nat.zero_le _, rfl, fun x hx => (by cases hx), Bel.refl _⟩
  case round =>
    obtain ⟨i, LA, LB, hi60, rfl, hM0⟩ := hrel
    by_cases hall : i < n0 ∧ i < 60
    · obtain ⟨hi0, hi6⟩ := hall
      have hla := hM0.la
      have hlb := hM0.lb
      have hws := hM0.bel.2
      obtain ⟨g, o, rfl, hg, d0, d1, d2, d3, d4⟩ := (hA.below hM0.bel.1).five hi0
      have harg : inArg (atL A i) = [.int .i64 (atL A i).tat, .int .i64 (atL A i).gst, .int .i64 (atL A i).knd, .int .i64 (atL A i).cod, .string (atL A i).dat] := rfl
      obtain ⟨aa, ac, rfl⟩ := ownsRow_shape hM0.a
      obtain ⟨ba, bc, rfl⟩ := ownsRow_shape hM0.b
      have hcel : ∀ j, j < 5 → w.cell? ⟨g, o + i * 5 + j, none⟩ = (inArg (atL A i))[j]? := fun j hj => by
        obtain ⟨g', o', hp, _, hc⟩ := hA.2 (by omega)
        cases hp
        exact hc i hi0 j hj
      have hgl : ∀ g' o', (some ⟨g, o, none⟩ : Option Addr) = some ⟨g', o', none⟩ → g' < w.heap.size := fun g' o' e => by
        obtain ⟨g'', o'', hp, hl, _⟩ := hA.2 (by omega)
        cases hp
        cases e
        exact hl
      have HCEL := Lib.hid hcel
      clear hcel
      by_cases hgs : (atL A i).gst = gq
      · have hof : ofG gq (atL A i) = true := by simp [ofG, hgs]
        rw [hgs] at d1 harg
        have HAR := Lib.hid harg
        clear harg hgs
        generalize (atL A i).tat = t at *
        generalize (atL A i).knd = kd at *
        generalize (atL A i).cod = cd at *
        generalize (atL A i).dat = dt at *
        go_wp2_with (at_builtin; refine wpList_append_lies _ rfl (.tmp 39) (.tmp 44) 42 rfl w.heap.size 55 i0 (.agg #[.int .i64 0, .int .i64 0, .int .i64 0, .int .i64 0, .string ByteArray.empty]) 5 48 Try.underlying42 hi hz0 hz1 hz2 rfl (by decide) _ _ _ rfl (World.ownsRow.alloc hM0.a _) ⟨wr.heap.size, 0, none⟩ 1 1 [.int .i64 t, .int .i64 gq, .int .i64 kd, .int .i64 cd, .string dt] rfl rfl ?c1 ?c2 (by decide) ?c3 ?c4 ?c5 (wr.heap.size + 1) ?c6 ?_)
        case c1 =>
          intro x u hx
          match x, hx with
          | 0, hx => simp at hx; subst hx; simp [Addr.add]
          | 1, hx => simp at hx; subst hx; simp [Addr.add]
          | 2, hx => simp at hx; subst hx; simp [Addr.add]
          | 3, hx => simp at hx; subst hx; simp [Addr.add]
          | 4, hx => simp at hx; subst hx; simp [Addr.add]
        case c2 => intro u hu; simp at hu; rcases hu with rfl | rfl | rfl | rfl | rfl <;> rfl
        case c3 => unfold maxLen; omega
        case c4 => omega
        case c5 => simp; omega
        case c6 => simp
        intro g4 cap4 w4 hown4 hgrow4 hat4 hlt4
        rw [← HAR.out] at hown4
        obtain ⟨hb4, hap4, hbel4⟩ := hM0.toA hown4 hgrow4 hat4
        have e0 := (hbel4.1.cell (p := ⟨g, o + i * 5, none⟩) (hgl _ _ rfl)).trans (HCEL.out 0 (by omega))
        have e1 := (hbel4.1.cell (p := ⟨g, o + i * 5 + 1, none⟩) (hgl _ _ rfl)).trans (HCEL.out 1 (by omega))
        have e2 := (hbel4.1.cell (p := ⟨g, o + i * 5 + 2, none⟩) (hgl _ _ rfl)).trans (HCEL.out 2 (by omega))
        have e3 := (hbel4.1.cell (p := ⟨g, o + i * 5 + 3, none⟩) (hgl _ _ rfl)).trans (HCEL.out 3 (by omega))
        have e4 := (hbel4.1.cell (p := ⟨g, o + i * 5 + 4, none⟩) (hgl _ _ rfl)).trans (HCEL.out 4 (by omega))
        rw [HAR.out] at e0 e1 e2 e3 e4
        simp only [List.getElem?_cons_zero, List.getElem?_cons_succ] at e0 e1 e2 e3 e4
        have hws4 := hbel4.2
        clear d0 d1 d2 d3 d4
        go_wp2_with (at_builtin; refine wpList_append_lies _ rfl (.tmp 46) (.tmp 51) 42 rfl w.heap.size 55 i0 (.agg #[.int .i64 0, .int .i64 0, .int .i64 0, .int .i64 0, .string ByteArray.empty]) 5 48 Try.underlying42 hi hz0 hz1 hz2 rfl (by decide) _ _ _ rfl (World.ownsRow.alloc hb4 _) ⟨w4.heap.size, 0, none⟩ 1 1 [.int .i64 t, .int .i64 gq, .int .i64 kd, .int .i64 cd, .string dt] rfl rfl ?c1 ?c2 (by decide) ?c3 ?c4 ?c5 (w4.heap.size + 1) ?c6 ?_)
        case c1 =>
          intro x u hx
          match x, hx with
          | 0, hx => simp at hx; subst hx; simp [Addr.add]
          | 1, hx => simp at hx; subst hx; simp [Addr.add]
          | 2, hx => simp at hx; subst hx; simp [Addr.add]
          | 3, hx => simp at hx; subst hx; simp [Addr.add]
          | 4, hx => simp at hx; subst hx; simp [Addr.add]
        case c2 => intro u hu; simp at hu; rcases hu with rfl | rfl | rfl | rfl | rfl <;> rfl
        case c3 => unfold maxLen; omega
        case c4 => omega
        case c5 => simp; omega
        case c6 => simp
        intro g5 cap5 w5 hown5 hgrow5 hat5 hlt5
        rw [← HAR.out] at hown5
        have hM5 := hM0.both hof hown4 hap4 hbel4 hb4 hown5 hgrow5 hat5
        clear hown4 hgrow4 hat4 hlt4 hb4 hap4 hbel4 e0 e1 e2 e3 e4 hown5 hgrow5 hat5 hlt5 hws4 hM0
        have hlb5 : (LB ++ [atL A i]).length + 1 ≤ 2 * (i + 1) := by simp; omega
        clear hof HAR HCEL hgl
        obtain ⟨LB5, hLB5⟩ : ∃ L, L = LB ++ [atL A i] := ⟨_, rfl⟩
        rw [← hLB5] at hM5 hlb5
        clear hLB5
        have hws5 := hM5.bel.2
        by_cases hmore : i < n1
        · obtain ⟨g, o, rfl, hg, d0, d1, d2, d3, d4⟩ := (hM.below hM5.bel.1).five hmore
          have harg : inArg (atL M i) = [.int .i64 (atL M i).tat, .int .i64 (atL M i).gst, .int .i64 (atL M i).knd, .int .i64 (atL M i).cod, .string (atL M i).dat] := rfl
          by_cases hgs2 : (atL M i).gst = gq
          · rw [hgs2] at d1
            clear d0 d2 d3 d4 harg hgs2
            go_wp2
            go_roundw
            case rel => exact ⟨i + 1, _, _, by omega, by go_num, hM5⟩
            case measure => simp [intOf]; omega
          · have hof2 : ofG gq (atL M i) = false := by simp [ofG, hgs2]
            have HAR2 := Lib.hid harg
            clear harg
            generalize (atL M i).tat = t at *
            generalize (atL M i).gst = gs at *
            generalize (atL M i).knd = kd at *
            generalize (atL M i).cod = cd at *
            generalize (atL M i).dat = dt at *
            go_wp2_with (at_builtin; refine wpList_append_lies _ rfl (.tmp 66) (.tmp 71) 42 rfl w.heap.size 55 i0 (.agg #[.int .i64 0, .int .i64 0, .int .i64 0, .int .i64 0, .string ByteArray.empty]) 5 48 Try.underlying42 hi hz0 hz1 hz2 rfl (by decide) _ _ _ rfl (World.ownsRow.alloc hM5.b _) ⟨w5.heap.size, 0, none⟩ 1 1 [.int .i64 t, .int .i64 gs, .int .i64 kd, .int .i64 cd, .string dt] rfl rfl ?c1 ?c2 (by decide) ?c3 ?c4 ?c5 (w5.heap.size + 1) ?c6 ?_)
            case c1 =>
              intro x u hx
              match x, hx with
              | 0, hx => simp at hx; subst hx; simp [Addr.add]
              | 1, hx => simp at hx; subst hx; simp [Addr.add]
              | 2, hx => simp at hx; subst hx; simp [Addr.add]
              | 3, hx => simp at hx; subst hx; simp [Addr.add]
              | 4, hx => simp at hx; subst hx; simp [Addr.add]
            case c2 => intro u hu; simp at hu; rcases hu with rfl | rfl | rfl | rfl | rfl <;> rfl
            case c3 => unfold maxLen; omega
            case c4 => omega
            case c5 => simp; omega
            case c6 => simp
            intro g6 cap6 w6 hown6 hgrow6 hat6 hlt6
            rw [← HAR2.out] at hown6
            have hM6 := hM5.toB hof2 hlb5 hown6 hgrow6 hat6
            clear hown6 hgrow6 hat6 hlt6 d0 d1 d2 d3 d4
            go_wp2
            go_roundw
            case rel => exact ⟨i + 1, _, _, by omega, by go_num, hM6⟩
            case measure => simp [intOf]; omega
        · go_wp2
          go_roundw
          case rel => exact ⟨i + 1, _, _, by omega, by go_num, hM5⟩
          case measure => simp [intOf]; omega
      · obtain ⟨w5, rfl⟩ : ∃ w5 : World, w5 = wr := ⟨_, rfl⟩
        have hM5 := hM0.skip
        have hlb5 : LB.length + 1 ≤ 2 * (i + 1) := by omega
        generalize (atL A i).gst = gs0 at *
        clear harg HCEL hgl hM0 d0 d2 d3 d4
        have hws5 := hM5.bel.2
        by_cases hmore : i < n1
        · obtain ⟨g, o, rfl, hg, d0, d1, d2, d3, d4⟩ := (hM.below hM5.bel.1).five hmore
          have harg : inArg (atL M i) = [.int .i64 (atL M i).tat, .int .i64 (atL M i).gst, .int .i64 (atL M i).knd, .int .i64 (atL M i).cod, .string (atL M i).dat] := rfl
          by_cases hgs2 : (atL M i).gst = gq
          · rw [hgs2] at d1
            clear d0 d2 d3 d4 harg hgs2
            go_wp2
            go_roundw
            case rel => exact ⟨i + 1, _, _, by omega, by go_num, hM5⟩
            case measure => simp [intOf]; omega
          · have hof2 : ofG gq (atL M i) = false := by simp [ofG, hgs2]
            have HAR2 := Lib.hid harg
            clear harg
            generalize (atL M i).tat = t at *
            generalize (atL M i).gst = gs at *
            generalize (atL M i).knd = kd at *
            generalize (atL M i).cod = cd at *
            generalize (atL M i).dat = dt at *
            go_wp2_with (at_builtin; refine wpList_append_lies _ rfl (.tmp 66) (.tmp 71) 42 rfl w.heap.size 55 i0 (.agg #[.int .i64 0, .int .i64 0, .int .i64 0, .int .i64 0, .string ByteArray.empty]) 5 48 Try.underlying42 hi hz0 hz1 hz2 rfl (by decide) _ _ _ rfl (World.ownsRow.alloc hM5.b _) ⟨w5.heap.size, 0, none⟩ 1 1 [.int .i64 t, .int .i64 gs, .int .i64 kd, .int .i64 cd, .string dt] rfl rfl ?c1 ?c2 (by decide) ?c3 ?c4 ?c5 (w5.heap.size + 1) ?c6 ?_)
            case c1 =>
              intro x u hx
              match x, hx with
              | 0, hx => simp at hx; subst hx; simp [Addr.add]
              | 1, hx => simp at hx; subst hx; simp [Addr.add]
              | 2, hx => simp at hx; subst hx; simp [Addr.add]
              | 3, hx => simp at hx; subst hx; simp [Addr.add]
              | 4, hx => simp at hx; subst hx; simp [Addr.add]
            case c2 => intro u hu; simp at hu; rcases hu with rfl | rfl | rfl | rfl | rfl <;> rfl
            case c3 => unfold maxLen; omega
            case c4 => omega
            case c5 => simp; omega
            case c6 => simp
            intro g6 cap6 w6 hown6 hgrow6 hat6 hlt6
            rw [← HAR2.out] at hown6
            have hM6 := hM5.toB hof2 hlb5 hown6 hgrow6 hat6
            clear hown6 hgrow6 hat6 hlt6 d0 d1 d2 d3 d4
            go_wp2
            go_roundw
            case rel => exact ⟨i + 1, _, _, by omega, by go_num, hM6⟩
            case measure => simp [intOf]; omega
        · go_wp2
          go_roundw
          case rel => exact ⟨i + 1, _, _, by omega, by go_num, hM5⟩
          case measure => simp [intOf]; omega
    · go_wp2_with fail
      all_goals
        obtain ⟨wb, rfl⟩ : ∃ wb : World, wb = wr := ⟨_, rfl⟩
        obtain ⟨aa, ac, rfl⟩ := ownsRow_shape hM0.a
        obtain ⟨ba, bc, rfl⟩ := ownsRow_shape hM0.b
        have hla := hM0.la
        have hlb := hM0.lb
        have hitA := renum_items (items_at hM0.a)
        have hitB := renum_items (items_at hM0.b)
        have hbegin := begin_alike hM0.alike
        have hbelM := hM0.bel
        clear hM0 hA hM
        refine (inNew 4 aa LA.length ac (renum LA) _ (by omega) (by omega) (by omega) hitA (fun j hj => by rw [renum_at LA hj])).mono ?_
        rintro e wx ⟨VX, LX, rfl, hIX, hpX, hbx⟩
        go_wp2_with fail
        refine (inNew 4 ba LB.length bc (renum LB) _ (by omega) (by omega) (by omega) (hitB.below hbx) (fun j hj => by rw [renum_at LB hj])).mono ?_
        rintro e wy ⟨VY, LY, rfl, hIY, hpY, hby⟩
        have hTwo : Two w wy wb.heap.size wx.heap.size VX LX VY LY := by
          have h1 := hIX.lt
          refine ⟨hIX.below hby, hIY, (hbelM.of hbx).of hby, hbelM.2, Nat.le_trans hbelM.2 hbx.size, by omega, fun g h hg hh a ha e => ?_⟩
          have h2 := ((hIX.rows g hg).lt a ha).2
          have h3 := ((hIY.rows h hh).lt a e).1
          omega
        have hAl : Alike (LX gq) (LY gq) := by
          refine ⟨_, _, hpX gq hg4, hpY gq hg4, ?_, ?_, ?_⟩
          · simp only [cntL, if_pos hg4]
            rw [List.take_of_length_le (by rw [renum_length]; exact Nat.le_refl _), List.take_of_length_le (by rw [renum_length]; exact Nat.le_refl _)]
            exact hbegin
          · simp only [cntL, if_pos hg4]
            exact ((renum_inc LA).sublist (List.take_sublist ..)).filter _
          · simp only [cntL, if_pos hg4]
            exact ((renum_inc LB).sublist (List.take_sublist ..)).filter _
        have hbX : ∀ g, g < 4 → (LX g).length ≤ 1000 := fun g hg => by rw [(hpX g hg).length_eq]; have := cntL_le (renum LA) 4 g LA.length; omega
        have hbY : ∀ g, g < 4 → (LY g).length ≤ 1000 := fun g hg => by rw [(hpY g hg).length_eq]; have := cntL_le (renum LB) 4 g LB.length; omega
        have HBX := Lib.hid hbX
        have HBY := Lib.hid hbY
        clear hIX hpX hbx hIY hpY hby hbX hbY hitA hitB hbegin
        go_wp2_with fail
        go_loopw [17] (fun jv wz => ∃ (j : Nat) (VX : Nat → Value) (LX : Nat → List inIt) (VY : Nat → Value) (LY : Nat → List inIt), j ≤ 40 ∧ jv = .int .i64 j ∧ Two w wz wb.heap.size wx.heap.size VX LX VY LY ∧ Alike (LX gq) (LY gq) ∧ Hid (∀ g, g < 4 → (LX g).length ≤ 1000) ∧ Hid (∀ g, g < 4 → (LY g).length ≤ 1000)) (fun jv _ => 40 - (intOf jv).toNat)
        case atStart => exact ⟨0, VX, LX, VY, LY, Nat.zero_le _, rfl, hTwo, hAl, HBX, HBY⟩
        case round =>
          obtain ⟨j, VX, LX, VY, LY, hj40, rfl, hT, hAl, HBX, HBY⟩ := hrel
          clear hTwo
          by_cases hall3 : j < n3 ∧ j < 40
          · obtain ⟨j3, j40⟩ := hall3
            have j40d : decide (j < 40) = true := decide_eq_true j40
            have j40i : decide ((j : Int) < 40) = true := decide_eq_true (by omega)
            obtain ⟨b3, o3, q, rfl, l3, _, hq, q3⟩ := w3.int1 j3
            go_wp2_with fail
            go_loopw [18] (fun kv wz => ∃ (k : Nat) (VY : Nat → Value) (LY : Nat → List inIt), k ≤ 4 ∧ kv = .int .i64 k ∧ Two w wz wb.heap.size wx.heap.size VX LX VY LY ∧ Alike (LX gq) (LY gq) ∧ Hid (∀ g, g < 4 → (LY g).length ≤ 1000)) (fun kv _ => 4 - (intOf kv).toNat)
            case atStart => exact ⟨0, VY, LY, Nat.zero_le _, rfl, hT, hAl, HBY⟩
            case round =>
              obtain ⟨k, VY, LY, hk4, rfl, hT, hAl, HBY⟩ := hrel
              have r3 : wr.cell? ⟨b3, o3 + j, none⟩ = some (.int .i64 q) := (hT.bel.1.cell (p := ⟨b3, o3 + j, none⟩) l3).trans q3
              by_cases hk : k < 4
              · by_cases hkg : k = gq
                · subst hkg
                  go_wp2
                  go_roundw
                  case rel => exact ⟨k + 1, VY, LY, by omega, by go_num, hT, hAl, HBY⟩
                  case measure => simp [intOf]; omega
                · have hkn : ((k : Int) != gq) = true := by simp; omega
                  go_wp2_with fail
                  refine (dueW wx.heap.size VY LY k q _ hT.y hk (HBY.out k hk)).mono ?_
                  rintro e w2 ⟨a5, c5, xs, l2, v2, rfl, hTk, hx4, hr, hI2, o2, f2⟩
                  have hT2 := hT.stepY hk hI2 f2
                  have hl2 := hTk.length
                  have HBY2 : Hid (∀ g, g < 4 → (putF LY k l2 g).length ≤ 1000) := Lib.hid fun g hg => by
                    by_cases e : g = k
                    · subst e; rw [putF_at]; have := HBY.out g hg; omega
                    · rw [putF_ne _ _ e]; exact HBY.out g hg
                  have hAl2 : Alike (LX gq) (putF LY k l2 gq) := by rw [putF_ne _ _ (Ne.symm hkg)]; exact hAl
                  clear hTk hr o2 f2 hI2
                  go_wp2
                  go_roundw
                  case rel => exact ⟨k + 1, _, _, by omega, by go_num, hT2, hAl2, HBY2⟩
                  case measure => simp [intOf]; omega
              · obtain rfl : k = 4 := by omega
                obtain ⟨wq, rfl⟩ : ∃ wq : World, wq = wr := ⟨_, rfl⟩
                have hTd := hT.below (Bel.refl wq).drew.1
                have hlx := HBX.out gq hg4
                have hly := HBY.out gq hg4
                go_wp2_with fail
                go_region_held3 (fun w' : World => w'.cell? ⟨b3, o3 + j, none⟩ = some (.int .i64 q)) (first | exact r3 | assumption) (first
                  | (go_at_call 22; ((with_reducible refine (dueW wb.heap.size VX LX gq q wq.drew hTd.x hg4 (HBX.out gq hg4)).mono ?_); rintro e wc ⟨a5, c5, xs, l5, v5, rfl, hT5, hx5, hr5, hI5, o5, f5⟩; have hTc := hTd.stepX hg4 hI5 f5; have s1 : wc.cell? ⟨b3, o3 + j, none⟩ = some (.int .i64 q) := (hTc.bel.1.cell (p := ⟨b3, o3 + j, none⟩) l3).trans q3))
                  | (go_at_call 22; ((with_reducible refine (dueW wx.heap.size VY LY gq q wc hTc.y hg4 (HBY.out gq hg4)).mono ?_); rintro e wd ⟨a6, c6, ys, l6, v6, rfl, hT6, hx6, hr6, hI6, o6, f6⟩; have hTd2 := hTc.stepY hg4 hI6 f6; have o5b := ownsRow_other f6 (hTc.y.row hg4) o5 (by decide) (by decide); have s2 : wd.cell? ⟨b3, o3 + j, none⟩ = some (.int .i64 q) := (hTd2.bel.1.cell (p := ⟨b3, o3 + j, none⟩) l3).trans q3))
                  | (go_at_call 21; refine (sameTwin a5 a6 xs.length ys.length c5 c6 xs ys wd (items_at o5b) (items_at o6) (hAl.took hT5 hT6 hx5 hx6 hr5 hr6).1 (by omega)).mono ?_; rintro e we ⟨rfl, hbe⟩; have s3 : we.cell? ⟨b3, o3 + j, none⟩ = some (.int .i64 q) := (hbe.cell (p := ⟨b3, o3 + j, none⟩) (block_lt_of_cell s2)).trans s2)
                  | (go_at_call 24; ((with_reducible refine (inLeft wb.heap.size 4 _ _ gq _ (hTd2.below hbe).x (by omega) hg4).mono ?_); rintro e wf ⟨rfl, rfl⟩))
                  | (go_at_call 24; ((with_reducible refine (inLeft wx.heap.size 4 _ _ gq _ (hTd2.below hbe).y (by omega) hg4).mono ?_); rintro e wf ⟨rfl, rfl⟩)))
                have hTe := hTd2.below hbe
                have hAle : Alike (putF LX gq l5 gq) (putF LY gq l6 gq) := by
                  rw [putF_at, putF_at]
                  exact (hAl.took hT5 hT6 hx5 hx6 hr5 hr6).2
                have hl5 := hT5.length
                have hl6 := hT6.length
                have hLR : (((putF LX gq l5 gq).length : Int) != (putF LY gq l6 gq).length) = false := by rw [hAle.length]; simp
                have HBX2 : Hid (∀ g, g < 4 → (putF LX gq l5 g).length ≤ 1000) := Lib.hid fun g hg => by
                  by_cases e : g = gq
                  · subst e; rw [putF_at]; omega
                  · rw [putF_ne _ _ e]; exact HBX.out g hg
                have HBY2 : Hid (∀ g, g < 4 → (putF LY gq l6 g).length ≤ 1000) := Lib.hid fun g hg => by
                  by_cases e : g = gq
                  · subst e; rw [putF_at]; omega
                  · rw [putF_ne _ _ e]; exact HBY.out g hg
                clear hT5 hT6 hr5 hr6 hI5 hI6 o5 o6 o5b f5 f6 hTc hTd2 hbe s1 s2 hTd hT hAl hl5 hl6
                go_wp2
                go_roundw
                case rel => exact ⟨j + 1, _, _, _, _, by omega, by go_num, hTe, hAle, HBX2, HBY2⟩
                case measure => simp [intOf]; omega
          · go_wp2_with fail
            all_goals
              refine (awake33 _).mono ?_
              rintro e w7 ⟨rfl, b7⟩
              go_wp2
              go_ret
              exact ⟨rfl, (hT.bel.of b7).1⟩
end Go.Proofs.Ytjlhdbkhebfghaa
