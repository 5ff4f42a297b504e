/- Inputs: Due. -/
import Derived.Test.YtjlhdbkhebfghaaIn
namespace Go.Proofs.Ytjlhdbkhebfghaa
open Go.ChangeShapes Go.WideShapes Go.ChangeAt Go.RowKit
set_option linter.unusedVariables false

def dueBy (m : Int) (x : inIt) : Bool := decide (x.tat ≤ m)
def sliceLen : Option Value → Nat
  | some (.slice _ n _) => n
  | _ => 0
theorem Try.inputRow : (Try.prog.info? 55).map (fun i => (i.zero, i.size, i.bytes)) = some (some (.agg #[.int .i64 0, .int .i64 0, .int .i64 0, .int .i64 0, .string ByteArray.empty]), 5, 48) := by kernel_rfl

set_option maxRecDepth 20000 in
set_option maxHeartbeats 2000000 in
theorem inDue (b n : Nat) (V : Nat → Value) (L : Nat → List inIt) (g : Nat) (m : Int) (w : World) (h : InAt w b n V L) (hn : n ≤ 4) (hg : g < n) (hl : (L g).length ≤ 1000) :
    Calls Try.prog 22 #[.pointer (some ⟨b, 0, none⟩), .int .i64 g, .int .i64 m] w fun e w' => ∃ out xs l' v', e = .returned out ∧ Took inLt (dueBy m) (L g) xs l' ∧ xs.length ≤ 4 ∧ (xs.length = 4 ∨ ∀ y ∈ l', m < y.tat) ∧ InAt w' b n (putF V g v') (putF L g l') ∧ w'.ownsRow w.heap.size 55 5 out xs.length (xs.flatMap inArg) ∧ Frm b (V g) v' w w' := by
  obtain ⟨i0, hi, hz0, hz1, hz2⟩ := info_parts Try.inputRow
  have hlt := h.lt
  have hg4 : g < 4 := by omega
  go_enter Try.func22, Try.ntmps22
  go_wp2_with fail
  refine (xRow b n V L g _ h hn hg).mono ?_
  rintro e w' ⟨rfl, rfl⟩
  go_wp2_with fail
  go_loopw [8] (fun out wr => ∃ (xs l' : List inIt) (v' : Value), Took inLt (dueBy m) (L g) xs l' ∧ xs.length ≤ 4 ∧ InAt wr b n (putF V g v') (putF L g l') ∧ wr.ownsRow w.heap.size 55 5 out xs.length (xs.flatMap inArg) ∧ Frm b (V g) v' w wr) (fun _ wr => sliceLen (wr.cell? ⟨b, g, none⟩))
  case atStart => exact ⟨[], L g, V g, Took.nil _, by simp, by rw [putF_same, putF_same]; exact h, World.ownsRow_nil _ _ _ _, Frm.refl _ _ _⟩
  case round =>
    obtain ⟨xs, l', v', hF, hx4, hI, hown, hfr⟩ := hrel
    have hlen := hF.length
    have hrow := hI.row hg4
    simp only [putF_at, putF_put] at hrow
    obtain ⟨c4, cg⟩ := hI.cells
    have c0 := cg g hg4
    rw [putF_at] at c0
    have hbk := inBlk_ok V n hg4
    have hhp := hI.heap g hg4
    rw [putF_at] at hhp
    obtain ⟨ao, co, rfl⟩ := ownsRow_shape hown
    clear cg c4
    by_cases h4 : xs.length = 4
    · go_wp2
      go_ret
      exact ⟨_, xs, l', v', rfl, hF, hx4, .inl h4, hI, hown, hfr⟩
    · have hx3 : xs.length < 4 := by omega
      have hx3d : decide (xs.length < 4) = true := decide_eq_true hx3
      rcases Nat.eq_zero_or_pos l'.length with h0 | h0
      · have h0' : (l'.length : Int) = 0 := by omega
        go_wp2_with fail
        refine (inLen b _ v' l' _ hbk hrow).mono ?_
        rintro e w' ⟨rfl, rfl⟩
        rw [h0']
        go_wp2
        go_ret
        exact ⟨_, xs, l', v', rfl, hF, hx4, .inr fun y hy => (by rw [List.length_eq_zero_iff.1 h0] at hy; cases hy), hI, hown, hfr⟩
      · obtain ⟨gg, cap, hv, hle, hm, hbg, hgl, hc, hf⟩ := hrow.item inEnc_length (i := 0) (by omega)
        have d0 := hc 0 (by omega) 0 (by omega)
        simp only [inEnc, List.getElem?_cons_zero, Nat.zero_mul, Nat.add_zero] at d0
        clear hc
        subst hv
        by_cases hd : (atL l' 0).tat ≤ m
        · obtain ⟨mm, hm1⟩ : ∃ mm, l'.length = mm + 1 := ⟨l'.length - 1, by omega⟩
          have hstep := fun (l2 : List inIt) p => hF.step inLt_ordered (l'' := l2) hhp p (by simpa [dueBy] using hd)
          obtain ⟨t, gs, kd, cd, dt, pl, hxe⟩ : ∃ t gs kd cd dt pl, atL l' 0 = (⟨t, gs, kd, cd, dt, pl⟩ : inIt) := ⟨_, _, _, _, _, _, rfl⟩
          rw [hxe] at d0 hd
          simp only at d0 hd
          have hta : ∀ w' : World, (Instr.typeAssert (.iface 89 (.agg #[.int .i64 t, .int .i64 gs, .int .i64 kd, .int .i64 cd, .string dt, .int .i64 pl])) 20 89 false).run Try.prog w' = .ok (.agg #[.int .i64 t, .int .i64 gs, .int .i64 kd, .int .i64 cd, .string dt, .int .i64 pl]) w' := fun _ => by kernel_rfl
          have hval : inVal (atL l' 0) = .iface 89 (.agg #[.int .i64 t, .int .i64 gs, .int .i64 kd, .int .i64 cd, .string dt, .int .i64 pl]) := by rw [hxe]; rfl
          have htk : (xs ++ [atL l' 0]).flatMap inArg = xs.flatMap inArg ++ [.int .i64 t, .int .i64 gs, .int .i64 kd, .int .i64 cd, .string dt] := by rw [hxe]; simp [inArg]
          have HT := Lib.hid htk
          have HV := Lib.hid hval
          clear hxe hval htk
          go_wp2_with fail
          refine (inLen b _ _ l' _ hbk hrow).mono ?_
          rintro e w' ⟨rfl, rfl⟩
          go_wp2_with fail
          refine (inHPop b _ _ l' mm _ hbk hrow hm1 hhp (by omega)).mono ?_
          rintro e w2 ⟨rfl, v2, l2, h2, hh2, hl2, p2, f2⟩
          rw [HV.out]
          have hI2 : InAt w2 b n (putF V g v2) (putF L g l2) := by
            have := hI.put (v' := v2) (l' := l2) hg4 (by simpa [putF_put] using h2) hh2 (by simpa [putF_at] using f2)
            simpa [putF_put] using this
          have own2 := ownsRow_other f2 hrow hown (by decide) (by decide)
          have fr2 := hfr.trans f2
          have hbase : w.heap.size ≤ w2.heap.size := fr2.size
          have hitem : (w2.alloc (.cells #[.int .i64 t, .int .i64 gs, .int .i64 kd, .int .i64 cd, .string dt, .int .i64 pl] 89)).heap.size = w2.heap.size + 1 := by simp
          clear c0 d0
          go_wp2_with (at_builtin; refine wpList_append_lies _ rfl _ _ 42 rfl w.heap.size 55 i0 (.agg #[.int .i64 0, .int .i64 0, .int .i64 0, .int .i64 0, .string ByteArray.empty]) 5 48 Try.underlying42 hi hz0 hz1 hz2 rfl (by decide) _ _ _ rfl (World.ownsRow.alloc (World.ownsRow.alloc own2 _) _) ⟨w2.heap.size + 1, 0, none⟩ 1 1 [.int .i64 t, .int .i64 gs, .int .i64 kd, .int .i64 cd, .string dt] rfl rfl ?c1 ?c2 (by decide) ?c3 ?c4 ?c5 (w2.heap.size + 2) ?c6 ?_)
          case c1 =>
            intro x u hx
            match x, hx with
            | 0, hx => simp at hx; subst hx; simp [Addr.add]
            | 1, hx => simp at hx; subst hx; simp [Addr.add]
            | 2, hx => simp at hx; subst hx; simp [Addr.add]
            | 3, hx => simp at hx; subst hx; simp [Addr.add]
            | 4, hx => simp at hx; subst hx; simp [Addr.add]
          case c2 => intro u hu; simp at hu; rcases hu with rfl | rfl | rfl | rfl | rfl <;> rfl
          case c3 => unfold maxLen; omega
          case c4 => omega
          case c5 => simp; omega
          case c6 => simp
          intro g4 cap4 w4 hown4 hgrow hat hlt4
          have b1 : Below w2.heap.size w2 (w2.alloc (.cells #[.int .i64 t, .int .i64 gs, .int .i64 kd, .int .i64 cd, .string dt, .int .i64 pl] 89)) := (Bel.refl w2).alloc.1
          have hI3 := hI2.below b1
          have own3 := ownsRow_below own2 b1
          have fr3 := fr2.trans (Frm.of_below b1)
          have fr4 := fr3.grewBy own3 hgrow
          have hI4 := hI3.grewBy own3 hgrow
          have hsl : sliceLen (w4.cell? ⟨b, g, none⟩) = mm := by
            have := hI4.cells.2 g hg4
            rw [putF_at] at this
            rw [this]
            obtain ⟨a2, c2, e2⟩ := h2.shape
            rw [e2]
            exact hl2
          go_wp2
          go_roundw
          case rel => exact ⟨xs ++ [atL l' 0], l2, v2, hstep l2 p2, by simp; omega, hI4, by rw [HT.out]; simpa using hown4, fr4⟩
          case measure =>
            rw [hsl, hrow.field hbk]
            simp only [sliceLen]
            omega
        · go_wp2_with fail
          refine (inLen b _ _ l' _ hbk hrow).mono ?_
          rintro e w' ⟨rfl, rfl⟩
          go_wp2
          go_ret
          refine ⟨_, xs, l', _, rfl, hF, hx4, .inr fun y hy => ?_, hI, hown, hfr⟩
          obtain ⟨i, hi, rfl⟩ := mem_is_atL hy
          have := heap_min inLt_ordered hhp i hi
          rw [inLt_false] at this
          omega
end Go.Proofs.Ytjlhdbkhebfghaa
