/- The reference of law 19: Wrote. -/
import Derived.Test.YthppjkpejnaocaaShR
import Derived.Test.YthppjkpejnaocaaShF
namespace Go.Proofs.Ythppjkpejnaocaa
open Go.ChangeShapes Go.WideShapes Go.ChangeAt Go.RowKit
set_option linter.unusedVariables false

theorem Try.rlineInfo : (Try.prog.info? 74).map (fun i => (i.zero, i.size, i.bytes)) = some (some (.agg #[.int .i64 0, .int .i64 0, .int .i64 0, .int .i64 0, .int .i64 0, .int .i64 0, .int .i64 0]), 7, 56) := by kernel_rfl
/-- Those that a write takes; with all of the page, too, if that is asked. -/
def tooB (too : Bool) (p : Int) (x : ln) : Bool := x.rt == p || (x.lf == p || (too && x.ep == p))
theorem tooB_false (p : Int) : tooB false p = thrB p := by funext x; simp [tooB, thrB]
theorem tooB_true (p : Int) : tooB true p = goneB p := by funext x; simp [tooB, goneB, thrB, Bool.or_assoc]
section
variable {b : Nat} {v : Value} {l : List ln}
/-- The field stored anew. -/
theorem rf_stored {w wr : World} {u : Value} {L : List ln} (h : RfIn w b v l) (hb : Bel w.heap.size w wr) (hst : wr.ownsRow w.heap.size 74 7 u L.length (L.flatMap lnEnc)) :
    RfIn (wr.setCell ⟨b, 0, none⟩ u) b u L ∧ Frm b v u w (wr.setCell ⟨b, 0, none⟩ u) := by
  have hr := h.below hb.1
  have hlt := h.lt
  have hst1 := ownsRow_base hst (by omega : b + 1 ≤ w.heap.size)
  refine ⟨RowIn.stored (o := 0) rfBlk_ok hr.1 hst1, ?_⟩
  have hU := (Upd.refl b wr).setCell (o := 0) (s := none) (u := u)
  have hFb : Frm b v v w wr := Frm.of_below hb.1
  exact ⟨hU.os.trans hFb.os, hU.tape.trans hFb.tape, hU.output.trans hFb.output, Nat.le_trans hb.2 hU.size, fun k hk hkb hkv => (hU.block k (Nat.lt_of_lt_of_le hk hb.2) (fun e => hkb (Option.some.inj e))).trans (hb.1.block k hk), .inr fun g hg => (hst.lt g hg).1⟩
set_option maxHeartbeats 4000000 in
theorem rf_wrote (p : Int) (too : Bool) (w : World) (h : RfIn w b v l) (hn : l.length ≤ 1000) :
    Calls Try.prog 20 #[.pointer (some ⟨b, 0, none⟩), .int .i64 p, .bool too] w fun e w' => ∃ u v', e = .returned u ∧ w'.ownsRow w.heap.size 30 2 u (l.filter (tooB too p)).length ((l.filter (tooB too p)).flatMap kyEnc) ∧ RfIn w' b v' (l.filter fun x => !tooB too p x) ∧ Frm b v v' w w' := by
  have hlt := h.lt
  have c0 := rfField _ h
  obtain ⟨i0, hi0, hz0, hz1, hz2⟩ := info_parts Try.keyInfo
  obtain ⟨j0, hj0, hy0, hy1, hy2⟩ := info_parts Try.rlineInfo
  obtain ⟨va, vc, hv⟩ := ownsRow_shape h.2
  rw [hv] at c0
  obtain ⟨f, hf⟩ : ∃ f, tooB too p = f := ⟨_, rfl⟩
  have HF := Lib.hid hf
  rw [show (fun x => !tooB too p x) = (fun x => !f x) by rw [hf]]
  rw [hf]
  clear hf
  go_enter Try.func20, Try.ntmps20
  go_wp2_with fail
  go_loopw [7, 8, 9] (fun u s iv wr => ∃ i : Nat, i ≤ l.length ∧ iv = .int .i64 i ∧ wr.ownsRow w.heap.size 30 2 u ((l.take i).filter f).length (((l.take i).filter f).flatMap kyEnc) ∧ wr.ownsRow w.heap.size 74 7 s ((l.take i).filter fun x => !f x).length (((l.take i).filter fun x => !f x).flatMap lnEnc) ∧ Bel w.heap.size w wr) (fun _ _ iv _ => l.length - (intOf iv).toNat)
  case atStart => exact ⟨0, Nat.zero_le _, rfl, World.ownsRow_nil _ _ _ _, World.ownsRow_nil _ _ _ _, Bel.refl w⟩
  case round =>
    obtain ⟨i, hi, rfl, hown, hst, hb⟩ := hrel
    have hr := h.below hb.1
    have hlt2 := hr.lt
    have c0' := rfField _ hr
    rw [hv] at c0'
    by_cases hil : i < l.length
    · obtain ⟨g, cap, hv2, h1, h2', h3, h4, hc, hz⟩ := hr.item lnEnc_length hil
      rw [hv] at hv2
      simp only [Value.slice.injEq] at hv2
      obtain ⟨rfl, _, rfl⟩ := hv2
      have d0 := hc i hil 0 (by omega)
      have d1 := hc i hil 1 (by omega)
      have d2 := hc i hil 2 (by omega)
      have d3 := hc i hil 3 (by omega)
      have d4 := hc i hil 4 (by omega)
      have d5 := hc i hil 5 (by omega)
      have d6 := hc i hil 6 (by omega)
      simp only [lnEnc, List.getElem?_cons_succ, List.getElem?_cons_zero, Nat.add_zero] at d0 d1 d2 d3 d4 d5 d6
      have hf1 : ((l.take i).filter f).length ≤ i := Nat.le_trans (List.length_filter_le _ _) (by rw [List.length_take]; omega)
      have hf2 : ((l.take i).filter fun x => !f x).length ≤ i := Nat.le_trans (List.length_filter_le _ _) (by rw [List.length_take]; omega)
      have hs1 := filter_take_succ (f := f) hil
      have hs2 := filter_take_succ (f := fun x => !f x) hil
      have hfv : f (atL l i) = ((atL l i).rt == p || ((atL l i).lf == p || (too && (atL l i).ep == p))) := by rw [← HF.out]; rfl
      clear hc hz hr
      cases e1 : ((atL l i).rt == p)
      · cases e2 : ((atL l i).lf == p)
        · cases too
          · have hfx : f (atL l i) = false := by rw [hfv, e1, e2]; rfl
            clear hfv
            rw [hfx, if_neg (by simp)] at hs1
            simp only [hfx, Bool.not_false, if_true] at hs2
            have HS1 := Lib.hid hs1
            have HS2 := Lib.hid hs2
            clear hs1 hs2 hfx
            go_wp2_with (at_builtin; refine wpList_append_own _ rfl _ _ 55 rfl w.heap.size 74 j0 _ 7 56 Try.underlying55 hj0 hy0 hy1 hy2 rfl (by decide) _ _ _ rfl (World.ownsRow.alloc (World.ownsRow.alloc hst _) _) ⟨wr.heap.size + 1, 0, none⟩ 1 1 (lnEnc (atL l i)) rfl rfl ?c1 ?c2 ?c3 ?c4 ?c5 ?_)
            case c1 =>
              intro j u hj
              match j, hj with
              | 0, hj => simp [lnEnc] at hj; subst hj; simp [Addr.add]
              | 1, hj => simp [lnEnc] at hj; subst hj; simp [Addr.add]
              | 2, hj => simp [lnEnc] at hj; subst hj; simp [Addr.add]
              | 3, hj => simp [lnEnc] at hj; subst hj; simp [Addr.add]
              | 4, hj => simp [lnEnc] at hj; subst hj; simp [Addr.add]
              | 5, hj => simp [lnEnc] at hj; subst hj; simp [Addr.add]
              | 6, hj => simp [lnEnc] at hj; subst hj; simp [Addr.add]
            case c2 => intro u hu; simp [lnEnc] at hu; rcases hu with rfl | rfl | rfl | rfl | rfl | rfl | rfl <;> rfl
            case c3 => unfold maxLen; omega
            case c4 => omega
            case c5 => have := hb.2; simp; omega
            intro v4 w4 hown4 hgrow _
            have hb4 := hb.alloc.append (World.ownsRow.alloc hst _) hgrow
            have hown5 := ownsRow_grew (World.ownsRow.alloc hown _) hgrow (fun a ha => fun e => own_apart hown hst (by decide) a ha e)
            clear hown hst hb hgrow
            go_wp2
            go_roundw
            case rel => exact ⟨i + 1, by omega, by go_num, by rw [HS1.out]; exact hown5, by rw [HS2.out, List.length_append, List.flatMap_append]; simpa using hown4, hb4⟩
            case measure => simp [intOf]; omega
          · cases e3 : ((atL l i).ep == p)
            · have hfx : f (atL l i) = false := by rw [hfv, e1, e2, e3]; rfl
              clear hfv
              rw [hfx, if_neg (by simp)] at hs1
              simp only [hfx, Bool.not_false, if_true] at hs2
              have HS1 := Lib.hid hs1
              have HS2 := Lib.hid hs2
              clear hs1 hs2 hfx
              go_wp2_with (at_builtin; refine wpList_append_own _ rfl _ _ 55 rfl w.heap.size 74 j0 _ 7 56 Try.underlying55 hj0 hy0 hy1 hy2 rfl (by decide) _ _ _ rfl (World.ownsRow.alloc (World.ownsRow.alloc hst _) _) ⟨wr.heap.size + 1, 0, none⟩ 1 1 (lnEnc (atL l i)) rfl rfl ?c1 ?c2 ?c3 ?c4 ?c5 ?_)
              case c1 =>
                intro j u hj
                match j, hj with
                | 0, hj => simp [lnEnc] at hj; subst hj; simp [Addr.add]
                | 1, hj => simp [lnEnc] at hj; subst hj; simp [Addr.add]
                | 2, hj => simp [lnEnc] at hj; subst hj; simp [Addr.add]
                | 3, hj => simp [lnEnc] at hj; subst hj; simp [Addr.add]
                | 4, hj => simp [lnEnc] at hj; subst hj; simp [Addr.add]
                | 5, hj => simp [lnEnc] at hj; subst hj; simp [Addr.add]
                | 6, hj => simp [lnEnc] at hj; subst hj; simp [Addr.add]
              case c2 => intro u hu; simp [lnEnc] at hu; rcases hu with rfl | rfl | rfl | rfl | rfl | rfl | rfl <;> rfl
              case c3 => unfold maxLen; omega
              case c4 => omega
              case c5 => have := hb.2; simp; omega
              intro v4 w4 hown4 hgrow _
              have hb4 := hb.alloc.append (World.ownsRow.alloc hst _) hgrow
              have hown5 := ownsRow_grew (World.ownsRow.alloc hown _) hgrow (fun a ha => fun e => own_apart hown hst (by decide) a ha e)
              clear hown hst hb hgrow
              go_wp2
              go_roundw
              case rel => exact ⟨i + 1, by omega, by go_num, by rw [HS1.out]; exact hown5, by rw [HS2.out, List.length_append, List.flatMap_append]; simpa using hown4, hb4⟩
              case measure => simp [intOf]; omega
            · have hfx : f (atL l i) = true := by rw [hfv, e1, e2, e3]; rfl
              clear hfv
              rw [hfx, if_pos rfl] at hs1
              simp only [hfx, Bool.not_true, Bool.false_eq_true, if_false] at hs2
              have HS1 := Lib.hid hs1
              have HS2 := Lib.hid hs2
              clear hs1 hs2 hfx
              go_wp2_with (at_builtin; refine wpList_append_own _ rfl _ _ 26 rfl w.heap.size 30 i0 _ 2 16 Try.underlying26 hi0 hz0 hz1 hz2 rfl (by decide) _ _ _ rfl (World.ownsRow.alloc (World.ownsRow.alloc hown _) _) ⟨wr.heap.size + 1, 0, none⟩ 1 1 (kyEnc (atL l i)) rfl rfl ?c1 ?c2 ?c3 ?c4 ?c5 ?_)
              case c1 =>
                intro j u hj
                match j, hj with
                | 0, hj => simp [kyEnc] at hj; subst hj; simp [Addr.add]
                | 1, hj => simp [kyEnc] at hj; subst hj; simp [Addr.add]
              case c2 => intro u hu; simp [kyEnc] at hu; rcases hu with rfl | rfl <;> rfl
              case c3 => unfold maxLen; omega
              case c4 => omega
              case c5 => have := hb.2; simp; omega
              intro v4 w4 hown4 hgrow _
              have hb4 := hb.alloc.append (World.ownsRow.alloc hown _) hgrow
              have hst5 := ownsRow_grew (World.ownsRow.alloc hst _) hgrow (fun a ha => fun e => own_apart hst hown (by decide) a ha e)
              clear hown hst hb hgrow
              go_wp2
              go_roundw
              case rel => exact ⟨i + 1, by omega, by go_num, by rw [HS1.out, List.length_append, List.flatMap_append]; simpa using hown4, by rw [HS2.out]; exact hst5, hb4⟩
              case measure => simp [intOf]; omega
        · have hfx : f (atL l i) = true := by rw [hfv, e1, e2]; rfl
          clear hfv
          rw [hfx, if_pos rfl] at hs1
          simp only [hfx, Bool.not_true, Bool.false_eq_true, if_false] at hs2
          have HS1 := Lib.hid hs1
          have HS2 := Lib.hid hs2
          clear hs1 hs2 hfx
          go_wp2_with (at_builtin; refine wpList_append_own _ rfl _ _ 26 rfl w.heap.size 30 i0 _ 2 16 Try.underlying26 hi0 hz0 hz1 hz2 rfl (by decide) _ _ _ rfl (World.ownsRow.alloc (World.ownsRow.alloc hown _) _) ⟨wr.heap.size + 1, 0, none⟩ 1 1 (kyEnc (atL l i)) rfl rfl ?c1 ?c2 ?c3 ?c4 ?c5 ?_)
          case c1 =>
            intro j u hj
            match j, hj with
            | 0, hj => simp [kyEnc] at hj; subst hj; simp [Addr.add]
            | 1, hj => simp [kyEnc] at hj; subst hj; simp [Addr.add]
          case c2 => intro u hu; simp [kyEnc] at hu; rcases hu with rfl | rfl <;> rfl
          case c3 => unfold maxLen; omega
          case c4 => omega
          case c5 => have := hb.2; simp; omega
          intro v4 w4 hown4 hgrow _
          have hb4 := hb.alloc.append (World.ownsRow.alloc hown _) hgrow
          have hst5 := ownsRow_grew (World.ownsRow.alloc hst _) hgrow (fun a ha => fun e => own_apart hst hown (by decide) a ha e)
          clear hown hst hb hgrow
          go_wp2
          go_roundw
          case rel => exact ⟨i + 1, by omega, by go_num, by rw [HS1.out, List.length_append, List.flatMap_append]; simpa using hown4, by rw [HS2.out]; exact hst5, hb4⟩
          case measure => simp [intOf]; omega
      · have hfx : f (atL l i) = true := by rw [hfv, e1]; rfl
        clear hfv
        rw [hfx, if_pos rfl] at hs1
        simp only [hfx, Bool.not_true, Bool.false_eq_true, if_false] at hs2
        have HS1 := Lib.hid hs1
        have HS2 := Lib.hid hs2
        clear hs1 hs2 hfx
        go_wp2_with (at_builtin; refine wpList_append_own _ rfl _ _ 26 rfl w.heap.size 30 i0 _ 2 16 Try.underlying26 hi0 hz0 hz1 hz2 rfl (by decide) _ _ _ rfl (World.ownsRow.alloc (World.ownsRow.alloc hown _) _) ⟨wr.heap.size + 1, 0, none⟩ 1 1 (kyEnc (atL l i)) rfl rfl ?c1 ?c2 ?c3 ?c4 ?c5 ?_)
        case c1 =>
          intro j u hj
          match j, hj with
          | 0, hj => simp [kyEnc] at hj; subst hj; simp [Addr.add]
          | 1, hj => simp [kyEnc] at hj; subst hj; simp [Addr.add]
        case c2 => intro u hu; simp [kyEnc] at hu; rcases hu with rfl | rfl <;> rfl
        case c3 => unfold maxLen; omega
        case c4 => omega
        case c5 => have := hb.2; simp; omega
        intro v4 w4 hown4 hgrow _
        have hb4 := hb.alloc.append (World.ownsRow.alloc hown _) hgrow
        have hst5 := ownsRow_grew (World.ownsRow.alloc hst _) hgrow (fun a ha => fun e => own_apart hst hown (by decide) a ha e)
        clear hown hst hb hgrow
        go_wp2
        go_roundw
        case rel => exact ⟨i + 1, by omega, by go_num, by rw [HS1.out, List.length_append, List.flatMap_append]; simpa using hown4, by rw [HS2.out]; exact hst5, hb4⟩
        case measure => simp [intOf]; omega
    · obtain rfl : i = l.length := by omega
      rw [List.take_length] at hown hst
      have hz := hr.free 0
      obtain ⟨sa, sc, rfl⟩ := ownsRow_shape hst
      obtain ⟨hs1, hs2⟩ := rf_stored h hb hst
      have hown2 : (wr.setCell ⟨b, 0, none⟩ (.slice sa (l.filter fun x => !f x).length sc)).ownsRow w.heap.size 30 2 _ (l.filter f).length ((l.filter f).flatMap kyEnc) := ownsRow_upd (c := b) hown ((Upd.refl b wr).setCell) (fun e => by
        have := (hown.lt b e).1
        omega)
      clear c0
      go_wp2
      go_ret
      exact ⟨_, _, rfl, hown2, hs1, hs2⟩
end
end Go.Proofs.Ythppjkpejnaocaa
