/- shadow: New, the closures, drop. -/
import Derived.Test.YthppjkpejnaocaaShA
import Derived.Laws.AppendOwn
namespace Go.Proofs.Ythppjkpejnaocaa
open Go.ChangeShapes Go.WideShapes Go.ChangeAt Go.RowKit
set_option linter.unusedVariables false

theorem sh_new (w : World) : Calls Try.prog 8 #[] w fun e w' => e = .returned (.pointer (some ⟨w.heap.size, 0, none⟩)) ∧ ShIn w' w.heap.size (.slice none 0 0) [] ∧ Below w.heap.size w w' ∧ w'.heap.size = w.heap.size + 1 := by
  have h1 := Go.heap_alloc_new w (.cells #[.slice none 0 0, .bool true] 46)
  have h2 := (Bel.refl w).alloc (o := .cells #[.slice none 0 0, .bool true] 46) |>.1
  go_enter Try.func8, Try.ntmps8
  go_wp2
  go_ret
  exact ⟨rfl, ⟨h1, World.ownsRow_nil _ _ _ _⟩, h2, by simp⟩
/-- Where a line lies. -/
def LnAt (w : World) (g o : Nat) (x : ln) : Prop := ∀ j, j < 7 → w.cell? ⟨g, o + j, none⟩ = (lnEnc x)[j]?
theorem LnAt.c0 {w : World} {g o : Nat} {x : ln} (h : LnAt w g o x) : w.cell? ⟨g, o, none⟩ = some (.int .i64 x.kr) := h 0 (by omega)
theorem LnAt.c1 {w : World} {g o : Nat} {x : ln} (h : LnAt w g o x) : w.cell? ⟨g, o + 1, none⟩ = some (.int .i64 x.kp) := h 1 (by omega)
theorem LnAt.c2 {w : World} {g o : Nat} {x : ln} (h : LnAt w g o x) : w.cell? ⟨g, o + 2, none⟩ = some (.int .i64 x.ep) := h 2 (by omega)
theorem LnAt.c3 {w : World} {g o : Nat} {x : ln} (h : LnAt w g o x) : w.cell? ⟨g, o + 3, none⟩ = some (.int .i64 x.ef) := h 3 (by omega)
theorem LnAt.c4 {w : World} {g o : Nat} {x : ln} (h : LnAt w g o x) : w.cell? ⟨g, o + 4, none⟩ = some (.int .i64 x.er) := h 4 (by omega)
theorem LnAt.c5 {w : World} {g o : Nat} {x : ln} (h : LnAt w g o x) : w.cell? ⟨g, o + 5, none⟩ = some (.int .i64 x.rt) := h 5 (by omega)
theorem LnAt.c6 {w : World} {g o : Nat} {x : ln} (h : LnAt w g o x) : w.cell? ⟨g, o + 6, none⟩ = some (.int .i64 x.lf) := h 6 (by omega)
theorem cl_wrote (g cb : Nat) (x : ln) (p : Int) (w : World) (h : LnAt w g 0 x) (hc : w.cell? ⟨cb, 0, none⟩ = some (.int .i64 p)) :
    Calls Try.prog 30 #[.pointer (some ⟨g, 0, none⟩), .pointer (some ⟨cb, 0, none⟩)] w fun e w' => e = .returned (.bool (thrB p x)) ∧ Below w.heap.size w w' := by
  have lc := block_lt_of_cell hc
  have hth := thr_any g 0 p x.rt x.lf w h.c5 h.c6
  go_enter Try.func30, Try.ntmps30
  go_wp2_with fail
  refine hth.mono ?_
  rintro e w2 ⟨rfl, rfl⟩
  go_wp2
  go_ret
  exact ⟨rfl, Below.refl _ _⟩
theorem cl_flush (g : Nat) (w : World) :
    Calls Try.prog 37 #[.pointer (some ⟨g, 0, none⟩)] w fun e w' => e = .returned (.bool true) ∧ Below w.heap.size w w' := by
  go_enter Try.func37, Try.ntmps37
  go_wp2
  go_ret
  exact ⟨rfl, Below.refl _ _⟩
def goneB (p : Int) (x : ln) : Bool := thrB p x || x.ep == p
theorem cl_gone (g cb : Nat) (x : ln) (p : Int) (w : World) (h : LnAt w g 0 x) (hc : w.cell? ⟨cb, 0, none⟩ = some (.int .i64 p)) :
    Calls Try.prog 31 #[.pointer (some ⟨g, 0, none⟩), .pointer (some ⟨cb, 0, none⟩)] w fun e w' => e = .returned (.bool (goneB p x)) ∧ Below w.heap.size w w' := by
  have lc := block_lt_of_cell hc
  have c2 := h.c2
  have lg := block_lt_of_cell c2
  have hth := fun w h5 h6 => thr_any g 0 p x.rt x.lf w h5 h6
  have c5 := h.c5
  have c6 := h.c6
  rw [show (x.rt == p || x.lf == p) = thrB p x from rfl] at hth
  cases hX : thrB p x
  all_goals
    have hg : goneB p x = (thrB p x || x.ep == p) := rfl
    rw [hX] at hth hg
    have HG := Lib.hid hg
    clear hg hX
    go_enter Try.func31, Try.ntmps31
    go_wp2_with fail
    refine wp_region_later (by kernel_rfl) (by kernel_rfl) ?_
    repeat (first | go_big_quiet_step (first
      | (go_at_call 28; exact Calls.later_same (hth _ ((later_cell w _ ⟨g, 0 + 5, none⟩ lg).trans c5) ((later_cell w _ ⟨g, 0 + 6, none⟩ lg).trans c6)))))
    refine wpQuiet_nil ?_
    intro w9 hw'
    have hb9 : Below w.heap.size w w9 := by
      obtain ⟨x9, hw''⟩ := hw'
      subst hw''
      exact later_below w x9
    clear hw'
    go_wp2_with fail
    go_ret
    exact ⟨by rw [HG.out]; rfl, hb9⟩
theorem cl_fill (g cb : Nat) (x : ln) (k0 k1 : Int) (w : World) (h : LnAt w g 0 x) (hc0 : w.cell? ⟨cb, 0, none⟩ = some (.int .i64 k0)) (hc1 : w.cell? ⟨cb, 1, none⟩ = some (.int .i64 k1)) :
    Calls Try.prog 34 #[.pointer (some ⟨g, 0, none⟩), .pointer (some ⟨cb, 0, none⟩)] w fun e w' => e = .returned (.bool (keyB k0 k1 x)) ∧ Below w.heap.size w w' := by
  have lc := block_lt_of_cell hc0
  have c0 := h.c0
  have c1 := h.c1
  have lg := block_lt_of_cell c0
  go_enter Try.func34, Try.ntmps34
  go_wp2_with fail
  refine wp_region_later (by kernel_rfl) (by kernel_rfl) ?_
  repeat (first | go_big_quiet_step (fail))
  refine wpQuiet_nil ?_
  intro w9 hw'
  have hb9 : Below w.heap.size w w9 := by
    obtain ⟨x9, hw''⟩ := hw'
    subst hw''
    exact later_below w x9
  clear hw'
  go_wp2_with fail
  go_ret
  exact ⟨rfl, hb9⟩
theorem Try.keyInfo : (Try.prog.info? 30).map (fun i => (i.zero, i.size, i.bytes)) = some (some (.agg #[.int .i64 0, .int .i64 0]), 2, 16) := by kernel_rfl
theorem Try.lineInfo : (Try.prog.info? 66).map (fun i => (i.zero, i.size, i.bytes)) = some (some (.agg #[.int .i64 0, .int .i64 0, .int .i64 0, .int .i64 0, .int .i64 0, .int .i64 0, .int .i64 0]), 7, 56) := by kernel_rfl
theorem filter_take_succ {α : Type} [Inhabited α] {f : α → Bool} {l : List α} {i : Nat} (hi : i < l.length) : (l.take (i + 1)).filter f = if f (atL l i) = true then (l.take i).filter f ++ [atL l i] else (l.take i).filter f := by
  rw [take_succ_atL hi, List.filter_append]
  by_cases h : f (atL l i) = true
  · simp [h]
  · simp [h]
theorem ownsRow_grew {w w' : World} {B size n : Nat} {e : TypeId} {u : Value} {xs : List Value} {ob : Obj} {r : Option Nat} (h : w.ownsRow B e size u n xs) (hg : (w.alloc ob).grownBy w' r) (hne : ∀ a, u.ownBlock = some a → r ≠ some a) : w'.ownsRow B e size u n xs := by
  refine ⟨h.1, ?_⟩
  rcases h.2 with hn | ⟨g, cap, cur, hv, hg2, hh, hr⟩
  · exact .inl hn
  · exact .inr ⟨g, cap, cur, hv, hg2, (hg.block g (by have := lt_heap hh; simp; omega) (fun e => hne g (by rw [hv]; rfl) e.symm)).trans (heap_alloc hh), hr⟩
theorem own_typR {w : World} {B size m : Nat} {e : TypeId} {u : Value} {xs : List Value} (h : w.ownsRow B e size u m xs) {a : Nat} (ha : u.ownBlock = some a) : ∃ cur, w.heap[a]? = some (.cells cur e (0, 0)) := by
  rcases h.2 with ⟨hv, _⟩ | ⟨g, cap, cur, hv, _, hh, _⟩
  · rw [hv] at ha; cases ha
  · rw [hv] at ha
    simp only [Value.ownBlock, Option.some.injEq] at ha
    subst ha
    exact ⟨cur, hh⟩
theorem typ_same {w : World} {i : Nat} {c1 c2 : Array Value} {t1 t2 : TypeId} {f1 f2 : Nat × Nat} (h1 : w.heap[i]? = some (.cells c1 t1 f1)) (h2 : w.heap[i]? = some (.cells c2 t2 f2)) : t1 = t2 := by
  rw [h1] at h2
  cases h2
  rfl
theorem own_apart {w : World} {B B2 size size2 m m2 : Nat} {e e2 : TypeId} {u u2 : Value} {xs xs2 : List Value} (h : w.ownsRow B e size u m xs) (h2 : w.ownsRow B2 e2 size2 u2 m2 xs2) (hne : e ≠ e2) : ∀ a, u.ownBlock = some a → u2.ownBlock ≠ some a := fun a ha ha2 => by
  obtain ⟨c1, hc1⟩ := own_typR h ha
  obtain ⟨c2, hc2⟩ := own_typR h2 ha2
  exact hne (typ_same hc1 hc2)
/-- What drop does. -/
def Dropped (w w' : World) (b : Nat) (v : Value) (l : List ln) (f : ln → Bool) (e : Ending) : Prop :=
  ∃ u v', e = .returned u ∧ w'.ownsRow w.heap.size 30 2 u (l.filter f).length ((l.filter f).flatMap kyEnc) ∧ ShIn w' b v' (l.filter fun x => !f x) ∧ Frm b v v' w w'
section
variable {b : Nat} {v : Value} {l : List ln}
set_option maxHeartbeats 2000000 in
theorem drop_flush (w : World) (h : ShIn w b v l) (hn : l.length ≤ 1000) :
    Calls Try.prog 29 #[.pointer (some ⟨b, 0, none⟩), .func (.func 37) #[] #[]] w fun e w' => Dropped w w' b v l (fun _ => true) e := by
  obtain ⟨f, hf⟩ : ∃ f : ln → Bool, f = fun _ => true := ⟨_, rfl⟩
  rw [← hf]
  have hcl : ∀ (wx : World) (g : Nat) (x : ln), Below w.heap.size w wx → LnAt wx g 0 x → Calls Try.prog 37 #[.pointer (some ⟨g, 0, none⟩)] wx fun e w' => e = .returned (.bool (f x)) ∧ Below wx.heap.size wx w' := fun wx g x _ _ => by
    rw [hf]
    exact cl_flush g wx
  clear hf
  have hlt := h.lt
  have c0 := shField _ h
  obtain ⟨i0, hi0, hz0, hz1, hz2⟩ := info_parts Try.keyInfo
  obtain ⟨j0, hj0, hy0, hy1, hy2⟩ := info_parts Try.lineInfo
  obtain ⟨va, vc, hv⟩ := ownsRow_shape h.2
  rw [hv] at c0
  go_enter Try.func29, Try.ntmps29
  go_wp2_with fail
  go_loopw [5, 6, 14] (fun u s iv wr => ∃ i : Nat, i ≤ l.length ∧ iv = .int .i64 i ∧ wr.ownsRow w.heap.size 30 2 u ((l.take i).filter f).length (((l.take i).filter f).flatMap kyEnc) ∧ wr.ownsRow w.heap.size 66 7 s ((l.take i).filter fun x => !f x).length (((l.take i).filter fun x => !f x).flatMap lnEnc) ∧ Bel w.heap.size w wr) (fun _ _ iv _ => l.length - (intOf iv).toNat)
  case atStart => exact ⟨0, Nat.zero_le _, rfl, World.ownsRow_nil _ _ _ _, World.ownsRow_nil _ _ _ _, Bel.refl w⟩
  case round =>
    obtain ⟨i, hi, rfl, hown, hst, hb⟩ := hrel
    have hr := h.below hb.1
    have hlt2 := hr.lt
    have c0' := shField _ hr
    rw [hv] at c0'
    by_cases hil : i < l.length
    · obtain ⟨g, cap, hv2, h1, h2', h3, h4, hc, hz⟩ := hr.item lnEnc_length hil
      rw [hv] at hv2
      simp only [Value.slice.injEq] at hv2
      obtain ⟨rfl, _, rfl⟩ := hv2
      have d0 := hc i hil 0 (by omega)
      have d1 := hc i hil 1 (by omega)
      have d2 := hc i hil 2 (by omega)
      have d3 := hc i hil 3 (by omega)
      have d4 := hc i hil 4 (by omega)
      have d5 := hc i hil 5 (by omega)
      have d6 := hc i hil 6 (by omega)
      simp only [lnEnc, List.getElem?_cons_succ, List.getElem?_cons_zero, Nat.add_zero] at d0 d1 d2 d3 d4 d5 d6
      have hf1 : ((l.take i).filter f).length ≤ i := Nat.le_trans (List.length_filter_le _ _) (by rw [List.length_take]; omega)
      have hf2 : ((l.take i).filter fun x => !f x).length ≤ i := Nat.le_trans (List.length_filter_le _ _) (by rw [List.length_take]; omega)
      have hs1 := filter_take_succ (f := f) hil
      have hs2 := filter_take_succ (f := fun x => !f x) hil
      have hA : Below wr.heap.size wr (wr.alloc (.cells #[.int .i64 (atL l i).kr, .int .i64 (atL l i).kp, .int .i64 (atL l i).ep, .int .i64 (atL l i).ef, .int .i64 (atL l i).er, .int .i64 (atL l i).rt, .int .i64 (atL l i).lf] 66)) := (Bel.refl wr).alloc.1
      have hnew := Go.heap_alloc_new wr (.cells #[.int .i64 (atL l i).kr, .int .i64 (atL l i).kp, .int .i64 (atL l i).ep, .int .i64 (atL l i).ef, .int .i64 (atL l i).er, .int .i64 (atL l i).rt, .int .i64 (atL l i).lf] 66)
      have hLn : LnAt (wr.alloc (.cells #[.int .i64 (atL l i).kr, .int .i64 (atL l i).kp, .int .i64 (atL l i).ep, .int .i64 (atL l i).ef, .int .i64 (atL l i).er, .int .i64 (atL l i).rt, .int .i64 (atL l i).lf] 66)) wr.heap.size 0 (atL l i) := fun j hj => by
        rw [Nat.zero_add, cell_of_row _ _ j _ _ _ hnew]
        match j, hj with
        | 0, _ => rfl
        | 1, _ => rfl
        | 2, _ => rfl
        | 3, _ => rfl
        | 4, _ => rfl
        | 5, _ => rfl
        | 6, _ => rfl
      clear hc hz
      have hcl' := hcl _ _ _ ((hb.alloc (o := .cells #[.int .i64 (atL l i).kr, .int .i64 (atL l i).kp, .int .i64 (atL l i).ep, .int .i64 (atL l i).ef, .int .i64 (atL l i).er, .int .i64 (atL l i).rt, .int .i64 (atL l i).lf] 66)).1) hLn
      go_wp2_with fail
      refine hcl'.mono ?_
      rintro e wC ⟨rfl, bC⟩
      clear hcl'
      have hb2 := (hb.alloc (o := .cells #[.int .i64 (atL l i).kr, .int .i64 (atL l i).kp, .int .i64 (atL l i).ep, .int .i64 (atL l i).ef, .int .i64 (atL l i).er, .int .i64 (atL l i).rt, .int .i64 (atL l i).lf] 66)).of bC
      have hown2 := ownsRow_below (ownsRow_below hown hA) bC
      have hst2 := ownsRow_below (ownsRow_below hst hA) bC
      have e0 := (bC.cell (p := ⟨wr.heap.size, 0, none⟩) (by show _ < _; simp)).trans (hLn 0 (by omega))
      have e1 := (bC.cell (p := ⟨wr.heap.size, 1, none⟩) (by show _ < _; simp)).trans (hLn 1 (by omega))
      have e2 := (bC.cell (p := ⟨wr.heap.size, 2, none⟩) (by show _ < _; simp)).trans (hLn 2 (by omega))
      have e3 := (bC.cell (p := ⟨wr.heap.size, 3, none⟩) (by show _ < _; simp)).trans (hLn 3 (by omega))
      have e4 := (bC.cell (p := ⟨wr.heap.size, 4, none⟩) (by show _ < _; simp)).trans (hLn 4 (by omega))
      have e5 := (bC.cell (p := ⟨wr.heap.size, 5, none⟩) (by show _ < _; simp)).trans (hLn 5 (by omega))
      have e6 := (bC.cell (p := ⟨wr.heap.size, 6, none⟩) (by show _ < _; simp)).trans (hLn 6 (by omega))
      simp only [lnEnc, List.getElem?_cons_succ, List.getElem?_cons_zero] at e0 e1 e2 e3 e4 e5 e6
      have hxs : wr.heap.size < wC.heap.size := by have := bC.size; simp at this; omega
      generalize wr.heap.size = xb at *
      clear hown hst hA hnew hLn bC d0 d1 d2 d3 d4 d5 d6 hr hb c0'
      cases hfx : f (atL l i)
      · rw [hfx, if_neg (by simp)] at hs1
        simp only [hfx, Bool.not_false, if_true] at hs2
        have HS1 := Lib.hid hs1
        have HS2 := Lib.hid hs2
        clear hs1 hs2
        go_wp2_with (at_builtin; refine wpList_append_own _ rfl _ _ 44 rfl w.heap.size 66 j0 _ 7 56 Try.underlying44 hj0 hy0 hy1 hy2 rfl (by decide) _ _ _ rfl (World.ownsRow.alloc hst2 _) ⟨wC.heap.size, 0, none⟩ 1 1 (lnEnc (atL l i)) rfl rfl ?c1 ?c2 ?c3 ?c4 ?c5 ?_)
        case c1 =>
          intro j u hj
          match j, hj with
          | 0, hj => simp [lnEnc] at hj; subst hj; simp [Addr.add]
          | 1, hj => simp [lnEnc] at hj; subst hj; simp [Addr.add]
          | 2, hj => simp [lnEnc] at hj; subst hj; simp [Addr.add]
          | 3, hj => simp [lnEnc] at hj; subst hj; simp [Addr.add]
          | 4, hj => simp [lnEnc] at hj; subst hj; simp [Addr.add]
          | 5, hj => simp [lnEnc] at hj; subst hj; simp [Addr.add]
          | 6, hj => simp [lnEnc] at hj; subst hj; simp [Addr.add]
        case c2 => intro u hu; simp [lnEnc] at hu; rcases hu with rfl | rfl | rfl | rfl | rfl | rfl | rfl <;> rfl
        case c3 => unfold maxLen; omega
        case c4 => omega
        case c5 => have := hb2.2; simp; omega
        intro v4 w4 hown4 hgrow _
        have hb4 := hb2.append hst2 hgrow
        have hown5 := ownsRow_grew hown2 hgrow (fun a ha => fun e => own_apart hown2 hst2 (by decide) a ha e)
        clear e0 e1 e2 e3 e4 e5 e6 hxs hb2 hown2 hst2
        go_wp2
        go_roundw
        case rel => exact ⟨i + 1, by omega, by go_num, by rw [HS1.out]; exact hown5, by rw [HS2.out, List.length_append, List.flatMap_append]; simpa using hown4, hb4⟩
        case measure => simp [intOf]; omega
      · rw [hfx, if_pos rfl] at hs1
        simp only [hfx, Bool.not_true, Bool.false_eq_true, if_false] at hs2
        have HS1 := Lib.hid hs1
        have HS2 := Lib.hid hs2
        clear hs1 hs2
        go_wp2_with (at_builtin; refine wpList_append_own _ rfl _ _ 26 rfl w.heap.size 30 i0 _ 2 16 Try.underlying26 hi0 hz0 hz1 hz2 rfl (by decide) _ _ _ rfl (World.ownsRow.alloc hown2 _) ⟨wC.heap.size, 0, none⟩ 1 1 (kyEnc (atL l i)) rfl rfl ?c1 ?c2 ?c3 ?c4 ?c5 ?_)
        case c1 =>
          intro j u hj
          match j, hj with
          | 0, hj => simp [kyEnc] at hj; subst hj; simp [Addr.add]
          | 1, hj => simp [kyEnc] at hj; subst hj; simp [Addr.add]
        case c2 => intro u hu; simp [kyEnc] at hu; rcases hu with rfl | rfl <;> rfl
        case c3 => unfold maxLen; omega
        case c4 => omega
        case c5 => have := hb2.2; simp; omega
        intro v4 w4 hown4 hgrow _
        have hb4 := hb2.append hown2 hgrow
        have hst5 := ownsRow_grew hst2 hgrow (fun a ha => fun e => own_apart hst2 hown2 (by decide) a ha e)
        clear e0 e1 e2 e3 e4 e5 e6 hxs hb2 hown2 hst2
        go_wp2
        go_roundw
        case rel => exact ⟨i + 1, by omega, by go_num, by rw [HS1.out, List.length_append, List.flatMap_append]; simpa using hown4, by rw [HS2.out]; exact hst5, hb4⟩
        case measure => simp [intOf]; omega
    · obtain rfl : i = l.length := by omega
      rw [List.take_length] at hown hst
      have hz := hr.free 0
      obtain ⟨sa, sc, rfl⟩ := ownsRow_shape hst
      clear c0 hcl
      go_wp2
      go_ret
      have hst1 := ownsRow_base hst (by omega : b + 1 ≤ w.heap.size)
      refine ⟨_, _, rfl, ?_, RowIn.stored (o := 0) shBlk_ok hr.1 hst1, ?_⟩
      · refine ownsRow_upd (c := b) hown ((Upd.refl b wr).setCell) (fun e => ?_)
        have := (hown.lt b e).1
        omega
      · have hU := (Upd.refl b wr).setCell (o := 0) (s := none) (u := .slice sa (l.filter fun x => !f x).length sc)
        have hFb : Frm b v v w wr := Frm.of_below hb.1
        refine ⟨hU.os.trans hFb.os, hU.tape.trans hFb.tape, hU.output.trans hFb.output, Nat.le_trans hb.2 hU.size, fun k hk hkb hkv => (hU.block k (Nat.lt_of_lt_of_le hk hb.2) (fun e => hkb (Option.some.inj e))).trans (hb.1.block k hk), .inr fun g hg => (hst.lt g hg).1⟩
set_option maxHeartbeats 2000000 in
theorem drop_wrote (cb : Nat) (p : Int) (w : World) (h : ShIn w b v l) (hn : l.length ≤ 1000) (hcb : w.cell? ⟨cb, 0, none⟩ = some (.int .i64 p)) :
    Calls Try.prog 29 #[.pointer (some ⟨b, 0, none⟩), .func (.func 30) #[] #[.pointer (some ⟨cb, 0, none⟩)]] w fun e w' => Dropped w w' b v l (thrB p) e := by
  obtain ⟨f, hf⟩ : ∃ f : ln → Bool, f = thrB p := ⟨_, rfl⟩
  rw [← hf]
  have hcl : ∀ (wx : World) (g : Nat) (x : ln), Below w.heap.size w wx → LnAt wx g 0 x → Calls Try.prog 30 #[.pointer (some ⟨g, 0, none⟩), .pointer (some ⟨cb, 0, none⟩)] wx fun e w' => e = .returned (.bool (f x)) ∧ Below wx.heap.size wx w' := fun wx g x hb hL => by
    rw [hf]
    exact cl_wrote g cb x p wx hL ((hb.cell (p := ⟨cb, 0, none⟩) (block_lt_of_cell hcb)).trans hcb)
  clear hf hcb
  have hlt := h.lt
  have c0 := shField _ h
  obtain ⟨i0, hi0, hz0, hz1, hz2⟩ := info_parts Try.keyInfo
  obtain ⟨j0, hj0, hy0, hy1, hy2⟩ := info_parts Try.lineInfo
  obtain ⟨va, vc, hv⟩ := ownsRow_shape h.2
  rw [hv] at c0
  go_enter Try.func29, Try.ntmps29
  go_wp2_with fail
  go_loopw [5, 6, 14] (fun u s iv wr => ∃ i : Nat, i ≤ l.length ∧ iv = .int .i64 i ∧ wr.ownsRow w.heap.size 30 2 u ((l.take i).filter f).length (((l.take i).filter f).flatMap kyEnc) ∧ wr.ownsRow w.heap.size 66 7 s ((l.take i).filter fun x => !f x).length (((l.take i).filter fun x => !f x).flatMap lnEnc) ∧ Bel w.heap.size w wr) (fun _ _ iv _ => l.length - (intOf iv).toNat)
  case atStart => exact ⟨0, Nat.zero_le _, rfl, World.ownsRow_nil _ _ _ _, World.ownsRow_nil _ _ _ _, Bel.refl w⟩
  case round =>
    obtain ⟨i, hi, rfl, hown, hst, hb⟩ := hrel
    have hr := h.below hb.1
    have hlt2 := hr.lt
    have c0' := shField _ hr
    rw [hv] at c0'
    by_cases hil : i < l.length
    · obtain ⟨g, cap, hv2, h1, h2', h3, h4, hc, hz⟩ := hr.item lnEnc_length hil
      rw [hv] at hv2
      simp only [Value.slice.injEq] at hv2
      obtain ⟨rfl, _, rfl⟩ := hv2
      have d0 := hc i hil 0 (by omega)
      have d1 := hc i hil 1 (by omega)
      have d2 := hc i hil 2 (by omega)
      have d3 := hc i hil 3 (by omega)
      have d4 := hc i hil 4 (by omega)
      have d5 := hc i hil 5 (by omega)
      have d6 := hc i hil 6 (by omega)
      simp only [lnEnc, List.getElem?_cons_succ, List.getElem?_cons_zero, Nat.add_zero] at d0 d1 d2 d3 d4 d5 d6
      have hf1 : ((l.take i).filter f).length ≤ i := Nat.le_trans (List.length_filter_le _ _) (by rw [List.length_take]; omega)
      have hf2 : ((l.take i).filter fun x => !f x).length ≤ i := Nat.le_trans (List.length_filter_le _ _) (by rw [List.length_take]; omega)
      have hs1 := filter_take_succ (f := f) hil
      have hs2 := filter_take_succ (f := fun x => !f x) hil
      have hA : Below wr.heap.size wr (wr.alloc (.cells #[.int .i64 (atL l i).kr, .int .i64 (atL l i).kp, .int .i64 (atL l i).ep, .int .i64 (atL l i).ef, .int .i64 (atL l i).er, .int .i64 (atL l i).rt, .int .i64 (atL l i).lf] 66)) := (Bel.refl wr).alloc.1
      have hnew := Go.heap_alloc_new wr (.cells #[.int .i64 (atL l i).kr, .int .i64 (atL l i).kp, .int .i64 (atL l i).ep, .int .i64 (atL l i).ef, .int .i64 (atL l i).er, .int .i64 (atL l i).rt, .int .i64 (atL l i).lf] 66)
      have hLn : LnAt (wr.alloc (.cells #[.int .i64 (atL l i).kr, .int .i64 (atL l i).kp, .int .i64 (atL l i).ep, .int .i64 (atL l i).ef, .int .i64 (atL l i).er, .int .i64 (atL l i).rt, .int .i64 (atL l i).lf] 66)) wr.heap.size 0 (atL l i) := fun j hj => by
        rw [Nat.zero_add, cell_of_row _ _ j _ _ _ hnew]
        match j, hj with
        | 0, _ => rfl
        | 1, _ => rfl
        | 2, _ => rfl
        | 3, _ => rfl
        | 4, _ => rfl
        | 5, _ => rfl
        | 6, _ => rfl
      clear hc hz
      have hcl' := hcl _ _ _ ((hb.alloc (o := .cells #[.int .i64 (atL l i).kr, .int .i64 (atL l i).kp, .int .i64 (atL l i).ep, .int .i64 (atL l i).ef, .int .i64 (atL l i).er, .int .i64 (atL l i).rt, .int .i64 (atL l i).lf] 66)).1) hLn
      go_wp2_with fail
      refine hcl'.mono ?_
      rintro e wC ⟨rfl, bC⟩
      clear hcl'
      have hb2 := (hb.alloc (o := .cells #[.int .i64 (atL l i).kr, .int .i64 (atL l i).kp, .int .i64 (atL l i).ep, .int .i64 (atL l i).ef, .int .i64 (atL l i).er, .int .i64 (atL l i).rt, .int .i64 (atL l i).lf] 66)).of bC
      have hown2 := ownsRow_below (ownsRow_below hown hA) bC
      have hst2 := ownsRow_below (ownsRow_below hst hA) bC
      have e0 := (bC.cell (p := ⟨wr.heap.size, 0, none⟩) (by show _ < _; simp)).trans (hLn 0 (by omega))
      have e1 := (bC.cell (p := ⟨wr.heap.size, 1, none⟩) (by show _ < _; simp)).trans (hLn 1 (by omega))
      have e2 := (bC.cell (p := ⟨wr.heap.size, 2, none⟩) (by show _ < _; simp)).trans (hLn 2 (by omega))
      have e3 := (bC.cell (p := ⟨wr.heap.size, 3, none⟩) (by show _ < _; simp)).trans (hLn 3 (by omega))
      have e4 := (bC.cell (p := ⟨wr.heap.size, 4, none⟩) (by show _ < _; simp)).trans (hLn 4 (by omega))
      have e5 := (bC.cell (p := ⟨wr.heap.size, 5, none⟩) (by show _ < _; simp)).trans (hLn 5 (by omega))
      have e6 := (bC.cell (p := ⟨wr.heap.size, 6, none⟩) (by show _ < _; simp)).trans (hLn 6 (by omega))
      simp only [lnEnc, List.getElem?_cons_succ, List.getElem?_cons_zero] at e0 e1 e2 e3 e4 e5 e6
      have hxs : wr.heap.size < wC.heap.size := by have := bC.size; simp at this; omega
      generalize wr.heap.size = xb at *
      clear hown hst hA hnew hLn bC d0 d1 d2 d3 d4 d5 d6 hr hb c0'
      cases hfx : f (atL l i)
      · rw [hfx, if_neg (by simp)] at hs1
        simp only [hfx, Bool.not_false, if_true] at hs2
        have HS1 := Lib.hid hs1
        have HS2 := Lib.hid hs2
        clear hs1 hs2
        go_wp2_with (at_builtin; refine wpList_append_own _ rfl _ _ 44 rfl w.heap.size 66 j0 _ 7 56 Try.underlying44 hj0 hy0 hy1 hy2 rfl (by decide) _ _ _ rfl (World.ownsRow.alloc hst2 _) ⟨wC.heap.size, 0, none⟩ 1 1 (lnEnc (atL l i)) rfl rfl ?c1 ?c2 ?c3 ?c4 ?c5 ?_)
        case c1 =>
          intro j u hj
          match j, hj with
          | 0, hj => simp [lnEnc] at hj; subst hj; simp [Addr.add]
          | 1, hj => simp [lnEnc] at hj; subst hj; simp [Addr.add]
          | 2, hj => simp [lnEnc] at hj; subst hj; simp [Addr.add]
          | 3, hj => simp [lnEnc] at hj; subst hj; simp [Addr.add]
          | 4, hj => simp [lnEnc] at hj; subst hj; simp [Addr.add]
          | 5, hj => simp [lnEnc] at hj; subst hj; simp [Addr.add]
          | 6, hj => simp [lnEnc] at hj; subst hj; simp [Addr.add]
        case c2 => intro u hu; simp [lnEnc] at hu; rcases hu with rfl | rfl | rfl | rfl | rfl | rfl | rfl <;> rfl
        case c3 => unfold maxLen; omega
        case c4 => omega
        case c5 => have := hb2.2; simp; omega
        intro v4 w4 hown4 hgrow _
        have hb4 := hb2.append hst2 hgrow
        have hown5 := ownsRow_grew hown2 hgrow (fun a ha => fun e => own_apart hown2 hst2 (by decide) a ha e)
        clear e0 e1 e2 e3 e4 e5 e6 hxs hb2 hown2 hst2
        go_wp2
        go_roundw
        case rel => exact ⟨i + 1, by omega, by go_num, by rw [HS1.out]; exact hown5, by rw [HS2.out, List.length_append, List.flatMap_append]; simpa using hown4, hb4⟩
        case measure => simp [intOf]; omega
      · rw [hfx, if_pos rfl] at hs1
        simp only [hfx, Bool.not_true, Bool.false_eq_true, if_false] at hs2
        have HS1 := Lib.hid hs1
        have HS2 := Lib.hid hs2
        clear hs1 hs2
        go_wp2_with (at_builtin; refine wpList_append_own _ rfl _ _ 26 rfl w.heap.size 30 i0 _ 2 16 Try.underlying26 hi0 hz0 hz1 hz2 rfl (by decide) _ _ _ rfl (World.ownsRow.alloc hown2 _) ⟨wC.heap.size, 0, none⟩ 1 1 (kyEnc (atL l i)) rfl rfl ?c1 ?c2 ?c3 ?c4 ?c5 ?_)
        case c1 =>
          intro j u hj
          match j, hj with
          | 0, hj => simp [kyEnc] at hj; subst hj; simp [Addr.add]
          | 1, hj => simp [kyEnc] at hj; subst hj; simp [Addr.add]
        case c2 => intro u hu; simp [kyEnc] at hu; rcases hu with rfl | rfl <;> rfl
        case c3 => unfold maxLen; omega
        case c4 => omega
        case c5 => have := hb2.2; simp; omega
        intro v4 w4 hown4 hgrow _
        have hb4 := hb2.append hown2 hgrow
        have hst5 := ownsRow_grew hst2 hgrow (fun a ha => fun e => own_apart hst2 hown2 (by decide) a ha e)
        clear e0 e1 e2 e3 e4 e5 e6 hxs hb2 hown2 hst2
        go_wp2
        go_roundw
        case rel => exact ⟨i + 1, by omega, by go_num, by rw [HS1.out, List.length_append, List.flatMap_append]; simpa using hown4, by rw [HS2.out]; exact hst5, hb4⟩
        case measure => simp [intOf]; omega
    · obtain rfl : i = l.length := by omega
      rw [List.take_length] at hown hst
      have hz := hr.free 0
      obtain ⟨sa, sc, rfl⟩ := ownsRow_shape hst
      clear c0 hcl
      go_wp2
      go_ret
      have hst1 := ownsRow_base hst (by omega : b + 1 ≤ w.heap.size)
      refine ⟨_, _, rfl, ?_, RowIn.stored (o := 0) shBlk_ok hr.1 hst1, ?_⟩
      · refine ownsRow_upd (c := b) hown ((Upd.refl b wr).setCell) (fun e => ?_)
        have := (hown.lt b e).1
        omega
      · have hU := (Upd.refl b wr).setCell (o := 0) (s := none) (u := .slice sa (l.filter fun x => !f x).length sc)
        have hFb : Frm b v v w wr := Frm.of_below hb.1
        refine ⟨hU.os.trans hFb.os, hU.tape.trans hFb.tape, hU.output.trans hFb.output, Nat.le_trans hb.2 hU.size, fun k hk hkb hkv => (hU.block k (Nat.lt_of_lt_of_le hk hb.2) (fun e => hkb (Option.some.inj e))).trans (hb.1.block k hk), .inr fun g hg => (hst.lt g hg).1⟩
set_option maxHeartbeats 2000000 in
theorem drop_gone (cb : Nat) (p : Int) (w : World) (h : ShIn w b v l) (hn : l.length ≤ 1000) (hcb : w.cell? ⟨cb, 0, none⟩ = some (.int .i64 p)) :
    Calls Try.prog 29 #[.pointer (some ⟨b, 0, none⟩), .func (.func 31) #[] #[.pointer (some ⟨cb, 0, none⟩)]] w fun e w' => Dropped w w' b v l (goneB p) e := by
  obtain ⟨f, hf⟩ : ∃ f : ln → Bool, f = goneB p := ⟨_, rfl⟩
  rw [← hf]
  have hcl : ∀ (wx : World) (g : Nat) (x : ln), Below w.heap.size w wx → LnAt wx g 0 x → Calls Try.prog 31 #[.pointer (some ⟨g, 0, none⟩), .pointer (some ⟨cb, 0, none⟩)] wx fun e w' => e = .returned (.bool (f x)) ∧ Below wx.heap.size wx w' := fun wx g x hb hL => by
    rw [hf]
    exact cl_gone g cb x p wx hL ((hb.cell (p := ⟨cb, 0, none⟩) (block_lt_of_cell hcb)).trans hcb)
  clear hf hcb
  have hlt := h.lt
  have c0 := shField _ h
  obtain ⟨i0, hi0, hz0, hz1, hz2⟩ := info_parts Try.keyInfo
  obtain ⟨j0, hj0, hy0, hy1, hy2⟩ := info_parts Try.lineInfo
  obtain ⟨va, vc, hv⟩ := ownsRow_shape h.2
  rw [hv] at c0
  go_enter Try.func29, Try.ntmps29
  go_wp2_with fail
  go_loopw [5, 6, 14] (fun u s iv wr => ∃ i : Nat, i ≤ l.length ∧ iv = .int .i64 i ∧ wr.ownsRow w.heap.size 30 2 u ((l.take i).filter f).length (((l.take i).filter f).flatMap kyEnc) ∧ wr.ownsRow w.heap.size 66 7 s ((l.take i).filter fun x => !f x).length (((l.take i).filter fun x => !f x).flatMap lnEnc) ∧ Bel w.heap.size w wr) (fun _ _ iv _ => l.length - (intOf iv).toNat)
  case atStart => exact ⟨0, Nat.zero_le _, rfl, World.ownsRow_nil _ _ _ _, World.ownsRow_nil _ _ _ _, Bel.refl w⟩
  case round =>
    obtain ⟨i, hi, rfl, hown, hst, hb⟩ := hrel
    have hr := h.below hb.1
    have hlt2 := hr.lt
    have c0' := shField _ hr
    rw [hv] at c0'
    by_cases hil : i < l.length
    · obtain ⟨g, cap, hv2, h1, h2', h3, h4, hc, hz⟩ := hr.item lnEnc_length hil
      rw [hv] at hv2
      simp only [Value.slice.injEq] at hv2
      obtain ⟨rfl, _, rfl⟩ := hv2
      have d0 := hc i hil 0 (by omega)
      have d1 := hc i hil 1 (by omega)
      have d2 := hc i hil 2 (by omega)
      have d3 := hc i hil 3 (by omega)
      have d4 := hc i hil 4 (by omega)
      have d5 := hc i hil 5 (by omega)
      have d6 := hc i hil 6 (by omega)
      simp only [lnEnc, List.getElem?_cons_succ, List.getElem?_cons_zero, Nat.add_zero] at d0 d1 d2 d3 d4 d5 d6
      have hf1 : ((l.take i).filter f).length ≤ i := Nat.le_trans (List.length_filter_le _ _) (by rw [List.length_take]; omega)
      have hf2 : ((l.take i).filter fun x => !f x).length ≤ i := Nat.le_trans (List.length_filter_le _ _) (by rw [List.length_take]; omega)
      have hs1 := filter_take_succ (f := f) hil
      have hs2 := filter_take_succ (f := fun x => !f x) hil
      have hA : Below wr.heap.size wr (wr.alloc (.cells #[.int .i64 (atL l i).kr, .int .i64 (atL l i).kp, .int .i64 (atL l i).ep, .int .i64 (atL l i).ef, .int .i64 (atL l i).er, .int .i64 (atL l i).rt, .int .i64 (atL l i).lf] 66)) := (Bel.refl wr).alloc.1
      have hnew := Go.heap_alloc_new wr (.cells #[.int .i64 (atL l i).kr, .int .i64 (atL l i).kp, .int .i64 (atL l i).ep, .int .i64 (atL l i).ef, .int .i64 (atL l i).er, .int .i64 (atL l i).rt, .int .i64 (atL l i).lf] 66)
      have hLn : LnAt (wr.alloc (.cells #[.int .i64 (atL l i).kr, .int .i64 (atL l i).kp, .int .i64 (atL l i).ep, .int .i64 (atL l i).ef, .int .i64 (atL l i).er, .int .i64 (atL l i).rt, .int .i64 (atL l i).lf] 66)) wr.heap.size 0 (atL l i) := fun j hj => by
        rw [Nat.zero_add, cell_of_row _ _ j _ _ _ hnew]
        match j, hj with
        | 0, _ => rfl
        | 1, _ => rfl
        | 2, _ => rfl
        | 3, _ => rfl
        | 4, _ => rfl
        | 5, _ => rfl
        | 6, _ => rfl
      clear hc hz
      have hcl' := hcl _ _ _ ((hb.alloc (o := .cells #[.int .i64 (atL l i).kr, .int .i64 (atL l i).kp, .int .i64 (atL l i).ep, .int .i64 (atL l i).ef, .int .i64 (atL l i).er, .int .i64 (atL l i).rt, .int .i64 (atL l i).lf] 66)).1) hLn
      go_wp2_with fail
      refine hcl'.mono ?_
      rintro e wC ⟨rfl, bC⟩
      clear hcl'
      have hb2 := (hb.alloc (o := .cells #[.int .i64 (atL l i).kr, .int .i64 (atL l i).kp, .int .i64 (atL l i).ep, .int .i64 (atL l i).ef, .int .i64 (atL l i).er, .int .i64 (atL l i).rt, .int .i64 (atL l i).lf] 66)).of bC
      have hown2 := ownsRow_below (ownsRow_below hown hA) bC
      have hst2 := ownsRow_below (ownsRow_below hst hA) bC
      have e0 := (bC.cell (p := ⟨wr.heap.size, 0, none⟩) (by show _ < _; simp)).trans (hLn 0 (by omega))
      have e1 := (bC.cell (p := ⟨wr.heap.size, 1, none⟩) (by show _ < _; simp)).trans (hLn 1 (by omega))
      have e2 := (bC.cell (p := ⟨wr.heap.size, 2, none⟩) (by show _ < _; simp)).trans (hLn 2 (by omega))
      have e3 := (bC.cell (p := ⟨wr.heap.size, 3, none⟩) (by show _ < _; simp)).trans (hLn 3 (by omega))
      have e4 := (bC.cell (p := ⟨wr.heap.size, 4, none⟩) (by show _ < _; simp)).trans (hLn 4 (by omega))
      have e5 := (bC.cell (p := ⟨wr.heap.size, 5, none⟩) (by show _ < _; simp)).trans (hLn 5 (by omega))
      have e6 := (bC.cell (p := ⟨wr.heap.size, 6, none⟩) (by show _ < _; simp)).trans (hLn 6 (by omega))
      simp only [lnEnc, List.getElem?_cons_succ, List.getElem?_cons_zero] at e0 e1 e2 e3 e4 e5 e6
      have hxs : wr.heap.size < wC.heap.size := by have := bC.size; simp at this; omega
      generalize wr.heap.size = xb at *
      clear hown hst hA hnew hLn bC d0 d1 d2 d3 d4 d5 d6 hr hb c0'
      cases hfx : f (atL l i)
      · rw [hfx, if_neg (by simp)] at hs1
        simp only [hfx, Bool.not_false, if_true] at hs2
        have HS1 := Lib.hid hs1
        have HS2 := Lib.hid hs2
        clear hs1 hs2
        go_wp2_with (at_builtin; refine wpList_append_own _ rfl _ _ 44 rfl w.heap.size 66 j0 _ 7 56 Try.underlying44 hj0 hy0 hy1 hy2 rfl (by decide) _ _ _ rfl (World.ownsRow.alloc hst2 _) ⟨wC.heap.size, 0, none⟩ 1 1 (lnEnc (atL l i)) rfl rfl ?c1 ?c2 ?c3 ?c4 ?c5 ?_)
        case c1 =>
          intro j u hj
          match j, hj with
          | 0, hj => simp [lnEnc] at hj; subst hj; simp [Addr.add]
          | 1, hj => simp [lnEnc] at hj; subst hj; simp [Addr.add]
          | 2, hj => simp [lnEnc] at hj; subst hj; simp [Addr.add]
          | 3, hj => simp [lnEnc] at hj; subst hj; simp [Addr.add]
          | 4, hj => simp [lnEnc] at hj; subst hj; simp [Addr.add]
          | 5, hj => simp [lnEnc] at hj; subst hj; simp [Addr.add]
          | 6, hj => simp [lnEnc] at hj; subst hj; simp [Addr.add]
        case c2 => intro u hu; simp [lnEnc] at hu; rcases hu with rfl | rfl | rfl | rfl | rfl | rfl | rfl <;> rfl
        case c3 => unfold maxLen; omega
        case c4 => omega
        case c5 => have := hb2.2; simp; omega
        intro v4 w4 hown4 hgrow _
        have hb4 := hb2.append hst2 hgrow
        have hown5 := ownsRow_grew hown2 hgrow (fun a ha => fun e => own_apart hown2 hst2 (by decide) a ha e)
        clear e0 e1 e2 e3 e4 e5 e6 hxs hb2 hown2 hst2
        go_wp2
        go_roundw
        case rel => exact ⟨i + 1, by omega, by go_num, by rw [HS1.out]; exact hown5, by rw [HS2.out, List.length_append, List.flatMap_append]; simpa using hown4, hb4⟩
        case measure => simp [intOf]; omega
      · rw [hfx, if_pos rfl] at hs1
        simp only [hfx, Bool.not_true, Bool.false_eq_true, if_false] at hs2
        have HS1 := Lib.hid hs1
        have HS2 := Lib.hid hs2
        clear hs1 hs2
        go_wp2_with (at_builtin; refine wpList_append_own _ rfl _ _ 26 rfl w.heap.size 30 i0 _ 2 16 Try.underlying26 hi0 hz0 hz1 hz2 rfl (by decide) _ _ _ rfl (World.ownsRow.alloc hown2 _) ⟨wC.heap.size, 0, none⟩ 1 1 (kyEnc (atL l i)) rfl rfl ?c1 ?c2 ?c3 ?c4 ?c5 ?_)
        case c1 =>
          intro j u hj
          match j, hj with
          | 0, hj => simp [kyEnc] at hj; subst hj; simp [Addr.add]
          | 1, hj => simp [kyEnc] at hj; subst hj; simp [Addr.add]
        case c2 => intro u hu; simp [kyEnc] at hu; rcases hu with rfl | rfl <;> rfl
        case c3 => unfold maxLen; omega
        case c4 => omega
        case c5 => have := hb2.2; simp; omega
        intro v4 w4 hown4 hgrow _
        have hb4 := hb2.append hown2 hgrow
        have hst5 := ownsRow_grew hst2 hgrow (fun a ha => fun e => own_apart hst2 hown2 (by decide) a ha e)
        clear e0 e1 e2 e3 e4 e5 e6 hxs hb2 hown2 hst2
        go_wp2
        go_roundw
        case rel => exact ⟨i + 1, by omega, by go_num, by rw [HS1.out, List.length_append, List.flatMap_append]; simpa using hown4, by rw [HS2.out]; exact hst5, hb4⟩
        case measure => simp [intOf]; omega
    · obtain rfl : i = l.length := by omega
      rw [List.take_length] at hown hst
      have hz := hr.free 0
      obtain ⟨sa, sc, rfl⟩ := ownsRow_shape hst
      clear c0 hcl
      go_wp2
      go_ret
      have hst1 := ownsRow_base hst (by omega : b + 1 ≤ w.heap.size)
      refine ⟨_, _, rfl, ?_, RowIn.stored (o := 0) shBlk_ok hr.1 hst1, ?_⟩
      · refine ownsRow_upd (c := b) hown ((Upd.refl b wr).setCell) (fun e => ?_)
        have := (hown.lt b e).1
        omega
      · have hU := (Upd.refl b wr).setCell (o := 0) (s := none) (u := .slice sa (l.filter fun x => !f x).length sc)
        have hFb : Frm b v v w wr := Frm.of_below hb.1
        refine ⟨hU.os.trans hFb.os, hU.tape.trans hFb.tape, hU.output.trans hFb.output, Nat.le_trans hb.2 hU.size, fun k hk hkb hkv => (hU.block k (Nat.lt_of_lt_of_le hk hb.2) (fun e => hkb (Option.some.inj e))).trans (hb.1.block k hk), .inr fun g hg => (hst.lt g hg).1⟩
set_option maxHeartbeats 2000000 in
theorem drop_fill (cb : Nat) (k0 k1 : Int) (w : World) (h : ShIn w b v l) (hn : l.length ≤ 1000) (hc0 : w.cell? ⟨cb, 0, none⟩ = some (.int .i64 k0)) (hc1 : w.cell? ⟨cb, 1, none⟩ = some (.int .i64 k1)) :
    Calls Try.prog 29 #[.pointer (some ⟨b, 0, none⟩), .func (.func 34) #[] #[.pointer (some ⟨cb, 0, none⟩)]] w fun e w' => Dropped w w' b v l (keyB k0 k1) e := by
  obtain ⟨f, hf⟩ : ∃ f : ln → Bool, f = keyB k0 k1 := ⟨_, rfl⟩
  rw [← hf]
  have hcl : ∀ (wx : World) (g : Nat) (x : ln), Below w.heap.size w wx → LnAt wx g 0 x → Calls Try.prog 34 #[.pointer (some ⟨g, 0, none⟩), .pointer (some ⟨cb, 0, none⟩)] wx fun e w' => e = .returned (.bool (f x)) ∧ Below wx.heap.size wx w' := fun wx g x hb hL => by
    rw [hf]
    exact cl_fill g cb x k0 k1 wx hL ((hb.cell (p := ⟨cb, 0, none⟩) (block_lt_of_cell hc0)).trans hc0) ((hb.cell (p := ⟨cb, 1, none⟩) (block_lt_of_cell hc1)).trans hc1)
  clear hf hc0 hc1
  have hlt := h.lt
  have c0 := shField _ h
  obtain ⟨i0, hi0, hz0, hz1, hz2⟩ := info_parts Try.keyInfo
  obtain ⟨j0, hj0, hy0, hy1, hy2⟩ := info_parts Try.lineInfo
  obtain ⟨va, vc, hv⟩ := ownsRow_shape h.2
  rw [hv] at c0
  go_enter Try.func29, Try.ntmps29
  go_wp2_with fail
  go_loopw [5, 6, 14] (fun u s iv wr => ∃ i : Nat, i ≤ l.length ∧ iv = .int .i64 i ∧ wr.ownsRow w.heap.size 30 2 u ((l.take i).filter f).length (((l.take i).filter f).flatMap kyEnc) ∧ wr.ownsRow w.heap.size 66 7 s ((l.take i).filter fun x => !f x).length (((l.take i).filter fun x => !f x).flatMap lnEnc) ∧ Bel w.heap.size w wr) (fun _ _ iv _ => l.length - (intOf iv).toNat)
  case atStart => exact ⟨0, Nat.zero_le _, rfl, World.ownsRow_nil _ _ _ _, World.ownsRow_nil _ _ _ _, Bel.refl w⟩
  case round =>
    obtain ⟨i, hi, rfl, hown, hst, hb⟩ := hrel
    have hr := h.below hb.1
    have hlt2 := hr.lt
    have c0' := shField _ hr
    rw [hv] at c0'
    by_cases hil : i < l.length
    · obtain ⟨g, cap, hv2, h1, h2', h3, h4, hc, hz⟩ := hr.item lnEnc_length hil
      rw [hv] at hv2
      simp only [Value.slice.injEq] at hv2
      obtain ⟨rfl, _, rfl⟩ := hv2
      have d0 := hc i hil 0 (by omega)
      have d1 := hc i hil 1 (by omega)
      have d2 := hc i hil 2 (by omega)
      have d3 := hc i hil 3 (by omega)
      have d4 := hc i hil 4 (by omega)
      have d5 := hc i hil 5 (by omega)
      have d6 := hc i hil 6 (by omega)
      simp only [lnEnc, List.getElem?_cons_succ, List.getElem?_cons_zero, Nat.add_zero] at d0 d1 d2 d3 d4 d5 d6
      have hf1 : ((l.take i).filter f).length ≤ i := Nat.le_trans (List.length_filter_le _ _) (by rw [List.length_take]; omega)
      have hf2 : ((l.take i).filter fun x => !f x).length ≤ i := Nat.le_trans (List.length_filter_le _ _) (by rw [List.length_take]; omega)
      have hs1 := filter_take_succ (f := f) hil
      have hs2 := filter_take_succ (f := fun x => !f x) hil
      have hA : Below wr.heap.size wr (wr.alloc (.cells #[.int .i64 (atL l i).kr, .int .i64 (atL l i).kp, .int .i64 (atL l i).ep, .int .i64 (atL l i).ef, .int .i64 (atL l i).er, .int .i64 (atL l i).rt, .int .i64 (atL l i).lf] 66)) := (Bel.refl wr).alloc.1
      have hnew := Go.heap_alloc_new wr (.cells #[.int .i64 (atL l i).kr, .int .i64 (atL l i).kp, .int .i64 (atL l i).ep, .int .i64 (atL l i).ef, .int .i64 (atL l i).er, .int .i64 (atL l i).rt, .int .i64 (atL l i).lf] 66)
      have hLn : LnAt (wr.alloc (.cells #[.int .i64 (atL l i).kr, .int .i64 (atL l i).kp, .int .i64 (atL l i).ep, .int .i64 (atL l i).ef, .int .i64 (atL l i).er, .int .i64 (atL l i).rt, .int .i64 (atL l i).lf] 66)) wr.heap.size 0 (atL l i) := fun j hj => by
        rw [Nat.zero_add, cell_of_row _ _ j _ _ _ hnew]
        match j, hj with
        | 0, _ => rfl
        | 1, _ => rfl
        | 2, _ => rfl
        | 3, _ => rfl
        | 4, _ => rfl
        | 5, _ => rfl
        | 6, _ => rfl
      clear hc hz
      have hcl' := hcl _ _ _ ((hb.alloc (o := .cells #[.int .i64 (atL l i).kr, .int .i64 (atL l i).kp, .int .i64 (atL l i).ep, .int .i64 (atL l i).ef, .int .i64 (atL l i).er, .int .i64 (atL l i).rt, .int .i64 (atL l i).lf] 66)).1) hLn
      go_wp2_with fail
      refine hcl'.mono ?_
      rintro e wC ⟨rfl, bC⟩
      clear hcl'
      have hb2 := (hb.alloc (o := .cells #[.int .i64 (atL l i).kr, .int .i64 (atL l i).kp, .int .i64 (atL l i).ep, .int .i64 (atL l i).ef, .int .i64 (atL l i).er, .int .i64 (atL l i).rt, .int .i64 (atL l i).lf] 66)).of bC
      have hown2 := ownsRow_below (ownsRow_below hown hA) bC
      have hst2 := ownsRow_below (ownsRow_below hst hA) bC
      have e0 := (bC.cell (p := ⟨wr.heap.size, 0, none⟩) (by show _ < _; simp)).trans (hLn 0 (by omega))
      have e1 := (bC.cell (p := ⟨wr.heap.size, 1, none⟩) (by show _ < _; simp)).trans (hLn 1 (by omega))
      have e2 := (bC.cell (p := ⟨wr.heap.size, 2, none⟩) (by show _ < _; simp)).trans (hLn 2 (by omega))
      have e3 := (bC.cell (p := ⟨wr.heap.size, 3, none⟩) (by show _ < _; simp)).trans (hLn 3 (by omega))
      have e4 := (bC.cell (p := ⟨wr.heap.size, 4, none⟩) (by show _ < _; simp)).trans (hLn 4 (by omega))
      have e5 := (bC.cell (p := ⟨wr.heap.size, 5, none⟩) (by show _ < _; simp)).trans (hLn 5 (by omega))
      have e6 := (bC.cell (p := ⟨wr.heap.size, 6, none⟩) (by show _ < _; simp)).trans (hLn 6 (by omega))
      simp only [lnEnc, List.getElem?_cons_succ, List.getElem?_cons_zero] at e0 e1 e2 e3 e4 e5 e6
      have hxs : wr.heap.size < wC.heap.size := by have := bC.size; simp at this; omega
      generalize wr.heap.size = xb at *
      clear hown hst hA hnew hLn bC d0 d1 d2 d3 d4 d5 d6 hr hb c0'
      cases hfx : f (atL l i)
      · rw [hfx, if_neg (by simp)] at hs1
        simp only [hfx, Bool.not_false, if_true] at hs2
        have HS1 := Lib.hid hs1
        have HS2 := Lib.hid hs2
        clear hs1 hs2
        go_wp2_with (at_builtin; refine wpList_append_own _ rfl _ _ 44 rfl w.heap.size 66 j0 _ 7 56 Try.underlying44 hj0 hy0 hy1 hy2 rfl (by decide) _ _ _ rfl (World.ownsRow.alloc hst2 _) ⟨wC.heap.size, 0, none⟩ 1 1 (lnEnc (atL l i)) rfl rfl ?c1 ?c2 ?c3 ?c4 ?c5 ?_)
        case c1 =>
          intro j u hj
          match j, hj with
          | 0, hj => simp [lnEnc] at hj; subst hj; simp [Addr.add]
          | 1, hj => simp [lnEnc] at hj; subst hj; simp [Addr.add]
          | 2, hj => simp [lnEnc] at hj; subst hj; simp [Addr.add]
          | 3, hj => simp [lnEnc] at hj; subst hj; simp [Addr.add]
          | 4, hj => simp [lnEnc] at hj; subst hj; simp [Addr.add]
          | 5, hj => simp [lnEnc] at hj; subst hj; simp [Addr.add]
          | 6, hj => simp [lnEnc] at hj; subst hj; simp [Addr.add]
        case c2 => intro u hu; simp [lnEnc] at hu; rcases hu with rfl | rfl | rfl | rfl | rfl | rfl | rfl <;> rfl
        case c3 => unfold maxLen; omega
        case c4 => omega
        case c5 => have := hb2.2; simp; omega
        intro v4 w4 hown4 hgrow _
        have hb4 := hb2.append hst2 hgrow
        have hown5 := ownsRow_grew hown2 hgrow (fun a ha => fun e => own_apart hown2 hst2 (by decide) a ha e)
        clear e0 e1 e2 e3 e4 e5 e6 hxs hb2 hown2 hst2
        go_wp2
        go_roundw
        case rel => exact ⟨i + 1, by omega, by go_num, by rw [HS1.out]; exact hown5, by rw [HS2.out, List.length_append, List.flatMap_append]; simpa using hown4, hb4⟩
        case measure => simp [intOf]; omega
      · rw [hfx, if_pos rfl] at hs1
        simp only [hfx, Bool.not_true, Bool.false_eq_true, if_false] at hs2
        have HS1 := Lib.hid hs1
        have HS2 := Lib.hid hs2
        clear hs1 hs2
        go_wp2_with (at_builtin; refine wpList_append_own _ rfl _ _ 26 rfl w.heap.size 30 i0 _ 2 16 Try.underlying26 hi0 hz0 hz1 hz2 rfl (by decide) _ _ _ rfl (World.ownsRow.alloc hown2 _) ⟨wC.heap.size, 0, none⟩ 1 1 (kyEnc (atL l i)) rfl rfl ?c1 ?c2 ?c3 ?c4 ?c5 ?_)
        case c1 =>
          intro j u hj
          match j, hj with
          | 0, hj => simp [kyEnc] at hj; subst hj; simp [Addr.add]
          | 1, hj => simp [kyEnc] at hj; subst hj; simp [Addr.add]
        case c2 => intro u hu; simp [kyEnc] at hu; rcases hu with rfl | rfl <;> rfl
        case c3 => unfold maxLen; omega
        case c4 => omega
        case c5 => have := hb2.2; simp; omega
        intro v4 w4 hown4 hgrow _
        have hb4 := hb2.append hown2 hgrow
        have hst5 := ownsRow_grew hst2 hgrow (fun a ha => fun e => own_apart hst2 hown2 (by decide) a ha e)
        clear e0 e1 e2 e3 e4 e5 e6 hxs hb2 hown2 hst2
        go_wp2
        go_roundw
        case rel => exact ⟨i + 1, by omega, by go_num, by rw [HS1.out, List.length_append, List.flatMap_append]; simpa using hown4, by rw [HS2.out]; exact hst5, hb4⟩
        case measure => simp [intOf]; omega
    · obtain rfl : i = l.length := by omega
      rw [List.take_length] at hown hst
      have hz := hr.free 0
      obtain ⟨sa, sc, rfl⟩ := ownsRow_shape hst
      clear c0 hcl
      go_wp2
      go_ret
      have hst1 := ownsRow_base hst (by omega : b + 1 ≤ w.heap.size)
      refine ⟨_, _, rfl, ?_, RowIn.stored (o := 0) shBlk_ok hr.1 hst1, ?_⟩
      · refine ownsRow_upd (c := b) hown ((Upd.refl b wr).setCell) (fun e => ?_)
        have := (hown.lt b e).1
        omega
      · have hU := (Upd.refl b wr).setCell (o := 0) (s := none) (u := .slice sa (l.filter fun x => !f x).length sc)
        have hFb : Frm b v v w wr := Frm.of_below hb.1
        refine ⟨hU.os.trans hFb.os, hU.tape.trans hFb.tape, hU.output.trans hFb.output, Nat.le_trans hb.2 hU.size, fun k hk hkb hkv => (hU.block k (Nat.lt_of_lt_of_le hk hb.2) (fun e => hkb (Option.some.inj e))).trans (hb.1.block k hk), .inr fun g hg => (hst.lt g hg).1⟩
end
end Go.Proofs.Ythppjkpejnaocaa
