/- Timers: Fire. -/
import Derived.Test.YtjlhdbkhebfghaaTmb
namespace Go.Proofs.Ytjlhdbkhebfghaa
open Go.ChangeShapes Go.WideShapes Go.ChangeAt Go.RowKit
set_option linter.unusedVariables false

theorem ownsRow_frm {w w' : World} {B b size n : Nat} {e : TypeId} {v v' u : Value} {xs : List Value} (h : w.ownsRow B e size u n xs) (hF : Frm b v v' w w') (hb : b < B) (hne : ∀ g, u.ownBlock = some g → v.ownBlock ≠ some g) : w'.ownsRow B e size u n xs := by
  refine ⟨h.1, ?_⟩
  rcases h.2 with hn | ⟨g, cap, cur, hv, hg, hh, hr⟩
  · exact .inl hn
  · refine .inr ⟨g, cap, cur, hv, hg, (hF.block g (lt_heap hh) (by omega) (fun e => hne g (by rw [hv]; rfl) e.symm)).trans hh, hr⟩

theorem RowIn.grown {α : Type} {T : TypeId} {sz : Nat} {enc : α → List Value} {w w' : World} {b : Nat} {t : TypeId} {blk : Value → Array Value} {v : Value} {l : List α} {r : Option Nat} (h : RowIn T sz enc w b t blk v l) (hg : w.grownBy w' r) (hb : r ≠ some b) (hv : ∀ g, v.ownBlock = some g → r ≠ some g) : RowIn T sz enc w' b t blk v l := by
  refine ⟨(hg.block b h.lt (fun e => hb e.symm)).trans h.1, h.2.1, ?_⟩
  rcases h.2.2 with h2 | ⟨g, cap, cur, hv2, hg2, hh, hr⟩
  · exact .inl h2
  · exact .inr ⟨g, cap, cur, hv2, hg2, (hg.block g (lt_heap hh) (fun e => hv g (by rw [hv2]; rfl) e.symm)).trans hh, hr⟩

/-- Which of them fired: xs; l' stay. -/
structure Fired (n : Int) (l xs l' : List trIt) : Prop where
  perm : (xs ++ l').Perm l
  due : ∀ x ∈ xs, x.due ≤ n
  sorted : xs.Pairwise fun a b => trLt b a = false
  behind : ∀ x ∈ xs, ∀ y ∈ l', trLt y x = false
def offU (u : Nat → Bool) (xs : List trIt) : Nat → Bool := fun k => u k && !(xs.any fun x => decide (x.id = (k : Int)))
theorem offU_nil (u : Nat → Bool) : offU u [] = u := by funext k; simp [offU]
theorem offU_snoc (u : Nat → Bool) (xs : List trIt) (x : trIt) (k : Nat) (hx : x.id = k) : putU (offU u xs) k false = offU u (xs ++ [x]) := by
  funext i
  simp only [putU, offU, List.any_append, List.any_cons, List.any_nil, Bool.or_false]
  by_cases h : i = k
  · subst h; simp [hx]
  · have : ¬ (x.id = (i : Int)) := by rw [hx]; omega
    simp [h, this]
theorem mem_atL {l : List trIt} {i : Nat} (h : i < l.length) : atL l i ∈ l := by rw [atL_eq h]; exact List.getElem_mem h
theorem mem_is_atL {l : List trIt} {y : trIt} (h : y ∈ l) : ∃ i, i < l.length ∧ y = atL l i := by
  obtain ⟨i, hi, rfl⟩ := List.getElem_of_mem h
  exact ⟨i, hi, (atL_eq hi).symm⟩
/-- One more: the root. -/
theorem Fired.step {n : Int} {l xs l' l'' : List trIt} (h : Fired n l xs l') (hh : HeapN trLt l' l'.length) (hp : (atL l' 0 :: l'').Perm l') (hd : (atL l' 0).due ≤ n) : Fired n l (xs ++ [atL l' 0]) l'' := by
  have hmin : ∀ y ∈ l', trLt y (atL l' 0) = false := fun y hy => by
    obtain ⟨i, hi, rfl⟩ := mem_is_atL hy
    exact heap_min trLt_ordered hh i hi
  have hin : atL l' 0 ∈ l' := hp.subset (List.mem_cons_self ..)
  refine ⟨?_, ?_, ?_, ?_⟩
  · rw [List.append_assoc]
    exact (List.Perm.append_left xs hp).trans h.perm
  · intro x hx
    rcases List.mem_append.1 hx with hx | hx
    · exact h.due x hx
    · rw [List.mem_singleton.1 hx]; exact hd
  · refine List.pairwise_append.2 ⟨h.sorted, List.pairwise_singleton _ _, fun a ha b hb => ?_⟩
    rw [List.mem_singleton.1 hb]
    exact h.behind a ha _ hin
  · intro x hx y hy
    have hy' : y ∈ l' := hp.subset (List.mem_cons_of_mem _ hy)
    rcases List.mem_append.1 hx with hx | hx
    · exact h.behind x hx y hy'
    · rw [List.mem_singleton.1 hx]; exact hmin y hy'
theorem Fired.rest {n : Int} {l' : List trIt} (hh : HeapN trLt l' l'.length) (hd : ¬ (atL l' 0).due ≤ n) : ∀ y ∈ l', n < y.due := fun y hy => by
  obtain ⟨i, hi, rfl⟩ := mem_is_atL hy
  have := heap_min trLt_ordered hh i hi
  rw [trLt_false] at this
  omega
def sliceLen : Option Value → Nat
  | some (.slice _ n _) => n
  | _ => 0

theorem Try.intRowT : (Try.prog.info? 3).map (fun i => (i.zero, i.size, i.bytes)) = some (some (.int .i64 0), 1, 8) := by kernel_rfl

set_option maxRecDepth 20000 in
set_option maxHeartbeats 2000000 in
theorem tmFire (t now : Nat) (u : Nat → Bool) (v : Value) (l : List trIt) (n : Int) (w : World) (h : TmAt w t u now v l) (hid : ∀ x ∈ l, ∃ k : Nat, k < 4 ∧ x.id = k) (hl : l.length ≤ 1000) :
    Calls Try.prog 14 #[.pointer (some ⟨t, 0, none⟩), .int .i64 n] w fun e w' => ∃ out xs l' v', e = .returned out ∧ Fired n l xs l' ∧ (∀ y ∈ l', n < y.due) ∧ TmAt w' t (offU u xs) now v' l' ∧ w'.ownsRow w.heap.size 3 1 out xs.length (xs.map fun x => .int .i64 x.id) ∧ Frm t v v' w w' := by
  obtain ⟨i0, hi, hz0, hz1, hz2⟩ := info_parts Try.intRowT
  have hlt := h.lt
  go_enter Try.func14, Try.ntmps14
  go_wp2_with fail
  refine (tmNone t now u v l _ h).mono ?_
  rintro e w' ⟨rfl, rfl⟩
  go_wp2_with fail
  go_loopw [5] (fun out wr => ∃ (xs l' : List trIt) (v' : Value), Fired n l xs l' ∧ TmAt wr t (offU u xs) now v' l' ∧ wr.ownsRow w.heap.size 3 1 out xs.length (xs.map fun x => .int .i64 x.id) ∧ Frm t v v' w wr ∧ ∀ g, out.ownBlock = some g → v'.ownBlock ≠ some g) (fun _ wr => sliceLen (wr.cell? ⟨t, 0, none⟩))
  case atStart => exact ⟨[], l, v, ⟨List.Perm.refl _, by simp, List.Pairwise.nil, by simp⟩, by rw [offU_nil]; exact h, World.ownsRow_nil _ _ _ _, Frm.refl _ _ _, fun g hg => by cases hg⟩
  case round =>
    obtain ⟨xs, l', v', hF, hT, hown, hfr, hne⟩ := hrel
    have hperm := hF.perm.length_eq
    rw [List.length_append] at hperm
    rcases Nat.eq_zero_or_pos l'.length with h0 | h0
    · have h0' : (l'.length : Int) = 0 := by omega
      go_wp2_with fail
      refine (trLen t (tmBlk (offU u xs) now) v' l' _ (tmBlk_ok _ _) hT.row).mono ?_
      rintro e w' ⟨rfl, rfl⟩
      rw [h0']
      go_wp2
      go_ret
      exact ⟨_, xs, l', v', rfl, hF, fun y hy => (by rw [List.length_eq_zero_iff.1 h0] at hy; cases hy), hT, hown, hfr⟩
    · obtain ⟨g, cap, hv, hle, hm, hbg, hg, hc, hf⟩ := hT.row.item trEnc_length (i := 0) (by omega)
      have d0 := hc 0 (by omega) 0 (by omega)
      simp only [trEnc, List.getElem?_cons_zero, Nat.zero_mul, Nat.add_zero] at d0
      clear hc
      subst hv
      obtain ⟨c0, _, _, _⟩ := hT.cells
      by_cases hd : (atL l' 0).due ≤ n
      · have hxin : atL l' 0 ∈ l := hF.perm.subset (List.mem_append_right _ (mem_atL h0))
        obtain ⟨k, hk, hkid⟩ := hid _ hxin
        obtain ⟨m, hm1⟩ : ∃ m, l'.length = m + 1 := ⟨l'.length - 1, by omega⟩
        have hstep := fun (l2 : List trIt) p => hF.step (l'' := l2) hT.heap p hd
        obtain ⟨d, s, i, hxe⟩ : ∃ d s i, atL l' 0 = (⟨d, s, i⟩ : trIt) := ⟨_, _, _, rfl⟩
        rw [hxe] at d0 hd hkid
        simp only at d0 hd hkid
        subst hkid
        have hta : ∀ w' : World, (Instr.typeAssert (.iface 83 (.agg #[.int .i64 d, .int .i64 s, .int .i64 k])) 20 83 false).run Try.prog w' = .ok (.agg #[.int .i64 d, .int .i64 s, .int .i64 k]) w' := fun _ => by kernel_rfl
        have hval : trVal (atL l' 0) = .iface 83 (.agg #[.int .i64 d, .int .i64 s, .int .i64 k]) := by rw [hxe]; rfl
        have HX := Lib.hid hxe
        have HV := Lib.hid hval
        clear hxe hval
        go_wp2_with fail
        refine (trLen t (tmBlk (offU u xs) now) _ l' _ (tmBlk_ok _ _) hT.row).mono ?_
        rintro e w' ⟨rfl, rfl⟩
        go_wp2_with fail
        refine (trHPop t (tmBlk (offU u xs) now) _ l' m _ (tmBlk_ok _ _) hT.row hm1 hT.heap (by omega)).mono ?_
        rintro e w2 ⟨rfl, v2, l2, h2, hh2, hl2, p2, f2⟩
        rw [HV.out]
        have ht2 := h2.lt
        have hT2 : TmAt w2 t (offU u xs) now v2 l2 := ⟨h2, hh2⟩
        have ck := hT2.cells.2.1 k hk
        have zk : w2.frozen? ⟨t, 1 + k, none⟩ = false := h2.free (1 + k)
        have hne2 : ¬ t = w2.heap.size := by omega
        go_wp2_with fail
        go_region
        have g3 : ((w2.setCell ⟨t, 1 + k, none⟩ (.bool false)).alloc (.cells #[.int .i64 d, .int .i64 s, .int .i64 k] 83)).drew.heap[t]? = some (.cells (tmBlk (putU (offU u xs) k false) now v2) 77 (0, 0)) := by
          have := heap_setCell_at (o := 1 + k) (u := .bool false) h2.1
          rw [tmBlk_set _ _ _ _ _ hk] at this
          exact heap_alloc this
        have fu : Upd t w2 ((w2.setCell ⟨t, 1 + k, none⟩ (.bool false)).alloc (.cells #[.int .i64 d, .int .i64 s, .int .i64 k] 83)).drew := (Upd.refl t w2).setCell.alloc.drew
        have q2 : ((w2.setCell ⟨t, 1 + k, none⟩ (.bool false)).alloc (.cells #[.int .i64 d, .int .i64 s, .int .i64 k] 83)).drew.cell? ⟨w2.heap.size, 2, none⟩ = some (.int .i64 k) := by
          have hs : (w2.setCell ⟨t, 1 + k, none⟩ (.bool false)).heap.size = w2.heap.size := by simp [World.setCell]
          have := Go.heap_alloc_new (w2.setCell ⟨t, 1 + k, none⟩ (.bool false)) (.cells #[.int .i64 d, .int .i64 s, .int .i64 k] 83)
          rw [hs] at this
          exact cell_of_row _ w2.heap.size 2 _ _ _ this
        generalize ((w2.setCell ⟨t, 1 + k, none⟩ (.bool false)).alloc (.cells #[.int .i64 d, .int .i64 s, .int .i64 k] 83)).drew = w3 at g3 fu q2 ⊢
        have hr3 : trRow w3 t (tmBlk (putU (offU u xs) k false) now) v2 l2 := h2.reblk fu g3
        have hne' : ∀ g, u5.ownBlock = some g → v2.ownBlock ≠ some g := fun g hg e => by
          rcases f2.own with ho | ho
          · exact hne g hg (ho ▸ e)
          · have h1 := ho g e
            have h2 := (hown.lt g hg).2
            omega
        have own2 := ownsRow_frm hown f2 hlt hne
        have own3 := ownsRow_frm own2 (Frm.of_own (v := v2) fu) hlt hne'
        have hbase : w.heap.size ≤ w3.heap.size := Nat.le_trans hfr.size (Nat.le_trans f2.size fu.size)
        have fr3 := (hfr.trans f2).trans (Frm.of_own (v := v2) fu)
        clear c0 d0 ck zk g3 hne2
        have hgl : w2.heap.size < w3.heap.size := block_lt_of_cell q2
        go_wp2_with (at_builtin; refine wpList_append_lies _ rfl _ _ 25 rfl w.heap.size 3 i0 (.int .i64 0) 1 8 Try.underlying25 hi hz0 hz1 hz2 rfl (by decide) _ _ _ rfl (World.ownsRow.alloc own3 _) ⟨w3.heap.size, 0, none⟩ 1 1 [.int .i64 k] rfl rfl ?c1 ?c2 (by decide) ?c3 ?c4 ?c5 (w3.heap.size + 1) ?c6 ?_)
        case c1 =>
          intro j u hj
          match j, hj with
          | 0, hj => simp at hj; subst hj; simp [Addr.add]
        case c2 => intro u hu; simp at hu; subst hu; rfl
        case c3 => unfold maxLen; omega
        case c4 => omega
        case c5 => simp; omega
        case c6 => simp
        intro g4 cap4 w4 hown4 hgrow hat hlt4
        have hr4 := (RowIn.alloc (ob := .cells #[.int .i64 k] 3) hr3).grown hgrow (fun e => by have := (hown.lt _ e).1; omega) (fun g hg e => hne' g e hg)
        have hown5 := hown.lt
        go_wp2
        go_roundw
        case rel =>
          refine ⟨xs ++ [atL l' 0], l2, v2, hstep l2 p2, ⟨?_, hh2⟩, ?_, ?_, ?_⟩
          · rw [← offU_snoc u xs (atL l' 0) k (by rw [HX.out])]
            exact hr4
          · simpa [HX.out] using hown4
          · refine ⟨hgrow.os.trans fr3.os, hgrow.tape.trans fr3.tape, hgrow.output.trans fr3.output, ?_, fun i hi hb hv => ?_, fr3.own⟩
            · have := hgrow.size
              simp at this
              omega
            · refine (hgrow.block i (by simp; omega) (fun e => by have := (hown5 i e.symm).1; omega)).trans ?_
              rw [← fr3.block i hi hb hv]
              exact (Bel.refl w3).alloc.1.block i (by omega)
          · intro g hg e
            simp only [Value.ownBlock, Option.some.injEq] at hg
            subst hg
            rcases hat with hat | hat
            · exact hne' _ hat e
            · have := (h2.own _ e).2
              omega
        case measure =>
          obtain ⟨a2, c2, hv2⟩ := h2.shape
          have f1 := hr4.field (tmBlk_ok _ _)
          have f0 := hT.row.field (tmBlk_ok _ _)
          rw [f1, f0, hv2]
          simp only [sliceLen]
          omega
      · go_wp2_with fail
        refine (trLen t (tmBlk (offU u xs) now) _ l' _ (tmBlk_ok _ _) hT.row).mono ?_
        rintro e w' ⟨rfl, rfl⟩
        go_wp2
        go_ret
        exact ⟨_, xs, l', _, rfl, hF, Fired.rest hT.heap (by omega), hT, hown, hfr⟩
end Go.Proofs.Ytjlhdbkhebfghaa
