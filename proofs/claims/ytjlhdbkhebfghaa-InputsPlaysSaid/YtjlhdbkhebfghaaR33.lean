/- The reference of law 33: where it lies; New, Left. -/
import Derived.Test.YtjlhdbkhebfghaaInTwo
namespace Go.Proofs.Ytjlhdbkhebfghaa
open Go.ChangeShapes Go.WideShapes Go.ChangeAt Go.RowKit
set_option linter.unusedVariables false

def slEnc (v : Value) : List Value := [v]
theorem slEnc_length (v : Value) : (slEnc v).length = 1 := rfl
instance : Inhabited Value := ⟨.slice none 0 0⟩
/-- A slice of slices behind the object's one field; each of them its own row of inputs. -/
structure RiAt (w : World) (rb n : Nat) (VL : Value) (U : List Value) (R : Nat → List inIt) : Prop where
  row : RowIn 42 1 slEnc w rb 92 (fun v => #[v]) VL U
  len : U.length = n
  own : ∀ g, g < n → w.ownsRow (rb + 1) 55 5 (atL U g) (R g).length ((R g).flatMap inArg)
theorem riBlk_ok : BlkOk (fun v => #[v]) 0 := ⟨fun _ => rfl, fun _ _ => rfl⟩
section
variable {w w' : World} {rb n : Nat} {VL : Value} {U : List Value} {R : Nat → List inIt}
theorem RiAt.below (h : RiAt w rb n VL U R) (hb : Below w.heap.size w w') : RiAt w' rb n VL U R := ⟨h.row.below hb, h.len, fun g hg => ownsRow_below (h.own g hg) hb⟩
theorem RiAt.lt (h : RiAt w rb n VL U R) : rb < w.heap.size := h.row.lt
theorem RiAt.cong {R' : Nat → List inIt} (h : RiAt w rb n VL U R) (e : ∀ g, g < n → R g = R' g) : RiAt w rb n VL U R' := ⟨h.row, h.len, fun g hg => by rw [← e g hg]; exact h.own g hg⟩
/-- A guest's slice, and its inputs. -/
theorem RiAt.slice (h : RiAt w rb n VL U R) {g : Nat} (hg : g < n) : ∃ a c, atL U g = .slice a (R g).length c ∧ (R g).length ≤ c ∧ c ≤ maxLen ∧ ItemsAt 5 inArg w a (R g).length (R g) := by
  obtain ⟨a, c, hv, h1, h2, h3, _⟩ := items_of_owned inArg_length (h.own g hg)
  exact ⟨a, c, hv, h1, h2, h3⟩
end
/-- A row of another type than the one that grew. -/
theorem ownsRow_grewT {w w' : World} {B B' size size' n n' : Nat} {e e' : TypeId} {u v : Value} {xs ys : List Value} {ob : Obj} (h : w.ownsRow B e size u n xs) (ho : w.ownsRow B' e' size' v n' ys) (hg : (w.alloc ob).grownBy w' v.ownBlock) (hne : e ≠ e') : w'.ownsRow B e size u n xs := by
  refine ⟨h.1, ?_⟩
  rcases h.2 with hn | ⟨g, cap, cur, hv, hg2, hh, hr⟩
  · exact .inl hn
  · refine .inr ⟨g, cap, cur, hv, hg2, (hg.block g (by have := lt_heap hh; simp; omega) (fun e2 => ?_)).trans (heap_alloc hh), hr⟩
    rcases ho.2 with ⟨hv2, _⟩ | ⟨g2, cap2, cur2, hv2, _, hh2, _⟩
    · rw [hv2] at e2; cases e2
    · rw [hv2] at e2
      simp only [Value.ownBlock, Option.some.injEq] at e2
      subst e2
      exact typ_ne hh hh2 hne rfl
theorem ownsRow_setCell {w : World} {B b o size n : Nat} {e : TypeId} {u x : Value} {xs : List Value} {s : Option Nat} (h : w.ownsRow B e size u n xs) (hb : b < B) : (w.setCell ⟨b, o, s⟩ x).ownsRow B e size u n xs := by
  refine ⟨h.1, ?_⟩
  rcases h.2 with hn | ⟨g, cap, cur, hv, hg, hh, hr⟩
  · exact .inl hn
  · exact .inr ⟨g, cap, cur, hv, hg, heap_setCell_ne hh (by show g ≠ b; omega), hr⟩
theorem Try.slRow : (Try.prog.info? 42).map (fun i => (i.zero, i.size, i.bytes)) = some (some (.slice none 0 0), 1, 24) := by kernel_rfl

theorem riNewNo (gn : Int) (p : Option Addr) (n c : Nat) (w : World) (hno : gn < 1 ∨ 4 < gn) :
    Calls Try.prog 20 #[.int .i64 gn, .slice p n c] w fun e w' => e = .returned (.tuple #[.pointer none, .int .i64 1]) ∧ w = w' := by
  by_cases h1 : gn < 1
  · go_enter Try.func20, Try.ntmps20
    go_wp2
    go_ret2
    exact ⟨rfl, rfl⟩
  · have h2 : 4 < gn := by omega
    go_enter Try.func20, Try.ntmps20
    go_wp2
    go_ret2
    exact ⟨rfl, rfl⟩
/-- Those of the first k that count for guest g. -/
def cntR (A : List inIt) (g k : Nat) : List inIt := (A.take k).filter (counts g)
theorem cntR_le (A : List inIt) (g k : Nat) : (cntR A g k).length ≤ k := Nat.le_trans (List.length_filter_le ..) (by rw [List.length_take]; omega)
theorem cntR_succ (A : List inIt) (g k : Nat) (hk : k < A.length) : cntR A g (k + 1) = if counts g (atL A k) = true then cntR A g k ++ [atL A k] else cntR A g k := by
  unfold cntR
  rw [take_succ_atL hk, List.filter_append]
  cases hc : counts g (atL A k) <;> simp [hc]

set_option maxRecDepth 20000 in
set_option maxHeartbeats 2000000 in
theorem riNew (gn : Nat) (p : Option Addr) (n c : Nat) (A : List inIt) (w : World) (h1 : 1 ≤ gn) (h4 : gn ≤ 4) (hn : n ≤ 256) (hA : ItemsAt 5 inArg w p n A) :
    Calls Try.prog 20 #[.int .i64 gn, .slice p n c] w fun e w' => ∃ VL U, e = .returned (.tuple #[.pointer (some ⟨w.heap.size, 0, none⟩), .int .i64 0]) ∧ RiAt w' w.heap.size gn VL U (fun g => cntR A g n) ∧ Below w.heap.size w w' := by
  obtain ⟨i0, hi, hz0, hz1, hz2⟩ := info_parts Try.inputRow
  obtain ⟨j0, hj, hy0, hy1, hy2⟩ := info_parts Try.slRow
  have hgn1 : ¬ (gn : Int) < 1 := by omega
  have hgn4 : ¬ 4 < gn := by omega
  have hl := hA.1
  go_enter Try.func20, Try.ntmps20
  go_wp2_with fail
  have hS0 : RiAt (w.alloc (.cells #[.slice none 0 0] 92)) w.heap.size 0 (.slice none 0 0) [] (fun g => cntR A g n) :=
    ⟨⟨Go.heap_alloc_new w _, World.ownsRow_nil _ _ _ _⟩, rfl, fun g hg => by omega⟩
  have hb0 : Bel w.heap.size w (w.alloc (.cells #[.slice none 0 0] 92)) := (Bel.refl w).alloc
  go_loopw [7] (fun gv wr => ∃ (g : Nat) (VL : Value) (U : List Value), g ≤ gn ∧ gv = .int .i64 g ∧ RiAt wr w.heap.size g VL U (fun g => cntR A g n) ∧ Bel w.heap.size w wr) (fun gv _ => gn - (intOf gv).toNat)
  case atStart => exact ⟨0, _, _, Nat.zero_le _, rfl, hS0, hb0⟩
  case round =>
    obtain ⟨g, VL, U, hg, rfl, hR, hbel⟩ := hrel
    clear hS0 hb0
    by_cases hgl : g < gn
    · obtain ⟨w2, rfl⟩ : ∃ w2 : World, w2 = wr := ⟨_, rfl⟩
      have hlt := hR.lt
      go_wp2_with fail
      go_loopw [8, 9] (fun ov kv wz => ∃ (k : Nat), k ≤ n ∧ kv = .int .i64 k ∧ wz.ownsRow w2.heap.size 55 5 ov (cntR A g k).length ((cntR A g k).flatMap inArg) ∧ Bel w2.heap.size w2 wz) (fun _ kv _ => n - (intOf kv).toNat)
      case atStart => exact ⟨0, Nat.zero_le _, rfl, World.ownsRow_nil _ _ _ _, Bel.refl _⟩
      case round =>
        obtain ⟨k, hk, rfl, hown, hbz⟩ := hrel
        have hle := cntR_le A g k
        obtain ⟨ao, co, rfl⟩ := ownsRow_shape hown
        have hws := hbz.2
        by_cases hkn : k < n
        · have hsucc := cntR_succ A g k (by omega)
          obtain ⟨gb, o, rfl, hgb, d0, d1, d2, d3, d4⟩ := ((hA.below hbel.1).below hbz.1).five hkn
          have hcs : counts g (atL A k) = (decide ((atL A k).gst = g) && isKind (atL A k).knd) := rfl
          obtain ⟨t, gs, kd, cd, dt, pl, hxe⟩ : ∃ t gs kd cd dt pl, atL A k = (⟨t, gs, kd, cd, dt, pl⟩ : inIt) := ⟨_, _, _, _, _, _, rfl⟩
          rw [hxe] at d0 d1 d2 d3 d4 hcs hsucc
          simp only at d0 d1 d2 d3 d4 hcs
          have HX := Lib.hid hxe
          clear hxe
          by_cases hgs : gs = g
          · subst hgs
            by_cases hk0 : 0 ≤ kd
            · by_cases hk2 : kd ≤ 2
              · rw [if_pos (by rw [hcs]; simp [isKind, hk0, hk2])] at hsucc
                have hfl : (cntR A g (k + 1)).flatMap inArg = (cntR A g k).flatMap inArg ++ [.int .i64 t, .int .i64 g, .int .i64 kd, .int .i64 cd, .string dt] := by rw [hsucc]; simp [inArg]
                have hll : (cntR A g (k + 1)).length = (cntR A g k).length + 1 := by rw [hsucc]; simp
                have HF := Lib.hid hfl
                have HL := Lib.hid hll
                clear hsucc hcs hfl hll
                generalize (cntR A g k).length = m at *
                go_wp2_with (at_builtin; refine wpList_append_lies _ rfl _ _ 42 rfl w2.heap.size 55 i0 (.agg #[.int .i64 0, .int .i64 0, .int .i64 0, .int .i64 0, .string ByteArray.empty]) 5 48 Try.underlying42 hi hz0 hz1 hz2 rfl (by decide) _ _ _ rfl (World.ownsRow.alloc hown _) ⟨wr.heap.size, 0, none⟩ 1 1 [.int .i64 t, .int .i64 g, .int .i64 kd, .int .i64 cd, .string dt] rfl rfl ?c1 ?c2 (by decide) ?c3 ?c4 ?c5 (wr.heap.size + 1) ?c6 ?_)
                case c1 =>
                  intro x u hx
                  match x, hx with
                  | 0, hx => simp at hx; subst hx; simp [Addr.add]
                  | 1, hx => simp at hx; subst hx; simp [Addr.add]
                  | 2, hx => simp at hx; subst hx; simp [Addr.add]
                  | 3, hx => simp at hx; subst hx; simp [Addr.add]
                  | 4, hx => simp at hx; subst hx; simp [Addr.add]
                case c2 => intro u hu; simp at hu; rcases hu with rfl | rfl | rfl | rfl | rfl <;> rfl
                case c3 => unfold maxLen; omega
                case c4 => omega
                case c5 => simp; omega
                case c6 => simp
                intro g4 cap4 w4 hown4 hgrow hat hlt4
                have hbz4 := hbz.append hown hgrow
                go_wp2
                go_roundw
                case rel => exact ⟨k + 1, by omega, by go_num, by rw [HF.out, HL.out]; simpa using hown4, hbz4⟩
                case measure => simp [intOf]; omega
              · rw [if_neg (by rw [hcs]; simp [isKind, hk2])] at hsucc
                have HS := Lib.hid hsucc
                clear hsucc hcs
                go_wp2
                go_roundw
                case rel => exact ⟨k + 1, by omega, by go_num, by rw [HS.out]; exact hown, hbz⟩
                case measure => simp [intOf]; omega
            · rw [if_neg (by rw [hcs]; simp [isKind, hk0])] at hsucc
              have HS := Lib.hid hsucc
              clear hsucc hcs
              go_wp2
              go_roundw
              case rel => exact ⟨k + 1, by omega, by go_num, by rw [HS.out]; exact hown, hbz⟩
              case measure => simp [intOf]; omega
          · rw [if_neg (by rw [hcs]; simp [hgs])] at hsucc
            have HS := Lib.hid hsucc
            clear hsucc hcs
            go_wp2
            go_roundw
            case rel => exact ⟨k + 1, by omega, by go_num, by rw [HS.out]; exact hown, hbz⟩
            case measure => simp [intOf]; omega
        · have hkn2 : n = k := by omega
          subst hkn2
          have hR2 := hR.below hbz.1
          have hbel2 := hbel.of hbz.1
          have q0 := hR2.row.field riBlk_ok
          have q1 := hR2.row.free 0
          have hlt2 := hR2.lt
          have hne : VL.ownBlock ≠ some w.heap.size := fun e => by have := (hR2.row.own _ e).1; omega
          obtain ⟨m, hm⟩ : ∃ m, (cntR A g n).length = m := ⟨_, rfl⟩
          rw [hm] at hle hown ⊢
          have HM := Lib.hid hm
          clear hm
          obtain ⟨aV, cV, rfl⟩ := hR2.row.shape
          have hUl := hR2.len
          have HUL := Lib.hid hUl
          have hU4 : U.length ≤ 4 := by omega
          clear hUl
          go_wp2_with (at_builtin; refine wpList_append_lies _ rfl _ _ 90 rfl (w.heap.size + 1) 42 j0 (.slice none 0 0) 1 24 Try.underlying90 hj hy0 hy1 hy2 rfl (by decide) _ _ _ rfl (World.ownsRow.alloc hR2.row.2 _) ⟨wr.heap.size, 0, none⟩ 1 1 [.slice ao m co] rfl rfl ?d1 ?d2 (by decide) ?d3 ?d4 ?d5 (wr.heap.size + 1) ?d6 ?_)
          case d1 =>
            intro x u hx
            match x, hx with
            | 0, hx => simp at hx; subst hx; simp [Addr.add]
          case d2 => intro u hu; simp at hu; subst hu; rfl
          case d3 => unfold maxLen; omega
          case d4 => omega
          case d5 => simp; omega
          case d6 => simp
          intro g4 cap4 w4 hown4 hgrow hat hlt4
          have r4 : w4.heap[w.heap.size]? = some (.cells #[.slice aV U.length cV] 92 (0, 0)) := (hgrow.block w.heap.size (by simp; omega) (fun e => hne e.symm)).trans (heap_alloc hR2.row.1)
          have q4 : w4.cell? ⟨w.heap.size, 0, none⟩ = some (.slice aV U.length cV) := cell_of_row _ _ _ _ _ _ r4
          have z4 : w4.frozen? ⟨w.heap.size, 0, none⟩ = false := by simp [World.frozen?, r4]
          have hown5 : w4.ownsRow (w.heap.size + 1) 55 5 (.slice ao m co) m ((cntR A g n).flatMap inArg) := ownsRow_grewT (ownsRow_base hown (by have := hR.lt; omega)) hR2.row.2 hgrow (by decide)
          have holds : ∀ g', g' < g → w4.ownsRow (w.heap.size + 1) 55 5 (atL U g') (cntR A g' n).length ((cntR A g' n).flatMap inArg) := fun g' hg' => ownsRow_grewT (hR2.own g' hg') hR2.row.2 hgrow (by decide)
          have hbel4 : Bel w.heap.size w w4 := hbel2.append (ownsRow_base hR2.row.2 (by omega)) hgrow
          clear hown hR2 hR hbz hgrow hat
          go_wp2
          go_roundw
          case rel =>
            refine ⟨g + 1, .slice (some ⟨g4, 0, none⟩) (U.length + 1) cap4, U ++ [.slice ao m co], by omega, by go_num, ⟨RowIn.stored (o := 0) (blk := fun v => #[v]) riBlk_ok r4 ?_, by simp [HUL.out], fun g' hg' => ?_⟩, hbel4.setCell (Nat.le_refl _)⟩
            · simpa [slEnc] using hown4
            · refine ownsRow_setCell ?_ (Nat.lt_succ_self _)
              by_cases e : g' = g
              · subst e
                have : atL (U ++ [Value.slice ao m co]) g' = .slice ao m co := by
                  rw [atL_eq (by simp [HUL.out])]
                  rw [List.getElem_append_right (by have := HUL.out; omega)]
                  simp
                rw [this, HM.out]
                exact hown5
              · rw [atL_append (by have := HUL.out; omega)]
                exact holds g' (by omega)
          case measure => simp [intOf]; omega
    · obtain rfl : g = gn := by omega
      go_wp2
      go_ret2
      exact ⟨VL, U, rfl, hR, hbel.1⟩

theorem riLeft (rb n : Nat) (VL : Value) (U : List Value) (R : Nat → List inIt) (g : Nat) (w : World) (h : RiAt w rb n VL U R) (hn : n ≤ 4) (hg : g < n) :
    Calls Try.prog 25 #[.pointer (some ⟨rb, 0, none⟩), .int .i64 g] w fun e w' => e = .returned (.int .i64 (R g).length) ∧ w = w' := by
  have q0 := h.row.field riBlk_ok
  have hgU : g < U.length := by rw [h.len]; exact hg
  have hUn : U.length ≤ 4 := by rw [h.len]; exact hn
  obtain ⟨a, c, hv, _, _, _⟩ := h.slice hg
  obtain ⟨aV, cV, rfl⟩ := h.row.shape
  obtain ⟨gb, rfl, _, _, _, hgb, hc, hf⟩ := h.row.at slEnc_length hgU
  have c0 := hc g hgU 0 (by omega)
  simp only [slEnc, List.getElem?_cons_zero, Nat.add_zero, Nat.mul_one] at c0
  rw [hv] at c0
  have hg0 : ¬ (g : Int) < 0 := by omega
  clear hc hv
  go_enter Try.func25, Try.ntmps25
  go_wp2
  go_ret
  exact ⟨rfl, rfl⟩
theorem riLeftNo (rb n : Nat) (VL : Value) (U : List Value) (R : Nat → List inIt) (g : Int) (w : World) (h : RiAt w rb n VL U R) (hno : g < 0 ∨ (n : Int) ≤ g) :
    Calls Try.prog 25 #[.pointer (some ⟨rb, 0, none⟩), .int .i64 g] w fun e w' => e = .returned (.int .i64 0) ∧ w = w' := by
  have q0 := h.row.field riBlk_ok
  have hUn := h.len
  obtain ⟨aV, cV, rfl⟩ := h.row.shape
  by_cases h0 : g < 0
  · go_enter Try.func25, Try.ntmps25
    go_wp2
    go_ret
    exact ⟨rfl, rfl⟩
  · have hge : (U.length : Int) ≤ g := by omega
    go_enter Try.func25, Try.ntmps25
    go_wp2
    go_ret
    exact ⟨rfl, rfl⟩
theorem riDueNo (rb n : Nat) (VL : Value) (U : List Value) (R : Nat → List inIt) (g m : Int) (w : World) (h : RiAt w rb n VL U R) (hno : g < 0 ∨ (n : Int) ≤ g) :
    Calls Try.prog 23 #[.pointer (some ⟨rb, 0, none⟩), .int .i64 g, .int .i64 m] w fun e w' => e = .returned (.slice none 0 0) ∧ w = w' := by
  have q0 := h.row.field riBlk_ok
  have hUn := h.len
  obtain ⟨aV, cV, rfl⟩ := h.row.shape
  by_cases h0 : g < 0
  · go_enter Try.func23, Try.ntmps23
    go_wp2
    go_ret
    exact ⟨rfl, rfl⟩
  · have hge : (U.length : Int) ≤ g := by omega
    go_enter Try.func23, Try.ntmps23
    go_wp2
    go_ret
    exact ⟨rfl, rfl⟩
end Go.Proofs.Ytjlhdbkhebfghaa
