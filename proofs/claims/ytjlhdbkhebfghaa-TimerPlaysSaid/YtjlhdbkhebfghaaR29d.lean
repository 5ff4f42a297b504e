/- The reference of law 29: Fire. -/
import Derived.Test.YtjlhdbkhebfghaaR29c
namespace Go.Proofs.Ytjlhdbkhebfghaa
open Go.ChangeShapes Go.WideShapes Go.ChangeAt Go.RowKit
set_option linter.unusedVariables false

/-- All but those. -/
def offL (m ys : List trIt) : List trIt := m.filter fun y => !(ys.any fun x => decide (x.id = y.id))
theorem offL_nil (m : List trIt) : offL m [] = m := by simp [offL]
theorem offL_snoc (m ys : List trIt) (x : trIt) : lessM (offL m ys) x.id = offL m (ys ++ [x]) := by
  unfold lessM offL
  rw [List.filter_filter]
  refine List.filter_congr fun y _ => ?_
  rw [List.any_append]
  simp only [List.any_cons, List.any_nil, Bool.or_false, Bool.not_or]
  rw [Bool.and_comm]
  congr 2
  exact decide_eq_decide.2 eq_comm
theorem mem_offL {m ys : List trIt} {y : trIt} : y ∈ offL m ys ↔ y ∈ m ∧ ∀ x ∈ ys, x.id ≠ y.id := by
  simp [offL]
/-- What the reference needs to know of its row. -/
structure Armed (m : List trIt) : Prop where
  since : m.Pairwise fun a b => a.since < b.since
  nodup : (m.map trIt.id).Nodup
theorem Armed.off {m ys : List trIt} (h : Armed m) : Armed (offL m ys) := ⟨h.since.filter _, (List.filter_sublist.map _).nodup h.nodup⟩
/-- The least of all is the first. -/
theorem Armed.best {m : List trIt} (h : Armed m) {x : trIt} (hx : x ∈ m) (hmin : ∀ y ∈ m, trLt y x = false) : ∃ k : Nat, k < m.length ∧ bstD m m.length = k ∧ atL m k = x := by
  obtain ⟨i, hi, rfl⟩ := mem_is_atL hx
  obtain ⟨k, hk, he, h1, h2⟩ := bstD_spec m m.length (by omega)
  have hkm := hmin _ (mem_atL hk)
  have hd := h1 i hi
  rw [trLt_false] at hkm
  have hik : k ≤ i := by
    rcases Nat.lt_or_ge i k with h3 | h3
    · have := h2 i h3; omega
    · exact h3
  refine ⟨k, hk, he, ?_⟩
  rcases Nat.lt_or_ge k i with h3 | h3
  · have := List.pairwise_iff_getElem.1 h.since k i hk hi h3
    rw [← atL_eq hk, ← atL_eq hi] at this
    omega
  · obtain rfl : i = k := by omega
    rfl
section
variable {n : Int} {m xs rest : List trIt}
theorem fire_next (hF : Fired n m xs rest) (hn : (m.map trIt.id).Nodup) {j : Nat} (hj : j < xs.length) : atL xs j ∈ offL m (xs.take j) ∧ ∀ y ∈ offL m (xs.take j), trLt y (atL xs j) = false := by
  have hnd : ((xs ++ rest).map trIt.id).Nodup := (hF.perm.map _).nodup_iff.2 hn
  rw [List.map_append, List.nodup_append] at hnd
  have hpx := List.pairwise_iff_getElem.1 hnd.1
  refine ⟨mem_offL.2 ⟨hF.perm.subset (List.mem_append_left _ (mem_atL hj)), fun x hx e => ?_⟩, fun y hy => ?_⟩
  · obtain ⟨i, hi, rfl⟩ := mem_is_atL hx
    rw [List.length_take] at hi
    rw [atL_take (by omega)] at e
    have := hpx i j (by simp; omega) (by simpa using hj) (by omega)
    rw [List.getElem_map, List.getElem_map, ← atL_eq (by omega), ← atL_eq hj] at this
    exact this e
  · obtain ⟨hym, hyn⟩ := mem_offL.1 hy
    rcases List.mem_append.1 (hF.perm.symm.subset hym) with h1 | h1
    · obtain ⟨i, hi, rfl⟩ := mem_is_atL h1
      rcases Nat.lt_trichotomy i j with h2 | h2 | h2
      · refine absurd rfl (hyn (atL xs i) ?_)
        rw [← atL_take (n := j) h2]
        exact mem_atL (by rw [List.length_take]; omega)
      · subst h2
        exact trLt_ordered.irrefl _
      · have := List.pairwise_iff_getElem.1 hF.sorted j i hj hi h2
        rw [← atL_eq hj, ← atL_eq hi] at this
        exact this
    · exact hF.behind _ (mem_atL hj) _ h1
theorem fire_end (hF : Fired n m xs rest) (hr : ∀ y ∈ rest, n < y.due) : ∀ y ∈ offL m xs, n < y.due := by
  intro y hy
  obtain ⟨hym, hyn⟩ := mem_offL.1 hy
  rcases List.mem_append.1 (hF.perm.symm.subset hym) with h1 | h1
  · exact absurd rfl (hyn y h1)
  · exact hr y h1
theorem fire_perm (hF : Fired n m xs rest) (hn : (m.map trIt.id).Nodup) : rest.Perm (offL m xs) := by
  have hnd : ((xs ++ rest).map trIt.id).Nodup := (hF.perm.map _).nodup_iff.2 hn
  rw [List.map_append, List.nodup_append] at hnd
  have h1 := hF.perm.filter (fun y => !(xs.any fun x => decide (x.id = y.id)))
  rw [List.filter_append, List.filter_eq_nil_iff.2 (fun x hx => ?_), List.filter_eq_self.2 (fun y hy => ?_), List.nil_append] at h1
  · exact h1
  · simp only [Bool.not_eq_true', List.any_eq_false, decide_eq_true_eq]
    exact fun x hx => hnd.2.2 _ (List.mem_map_of_mem hx) _ (List.mem_map_of_mem hy)
  · simp only [Bool.not_eq_true', Bool.not_eq_false, List.any_eq_true, decide_eq_true_eq]
    exact ⟨x, hx, rfl⟩
end
theorem offL_le (m ys : List trIt) : (offL m ys).length ≤ m.length := List.length_filter_le ..

set_option maxRecDepth 20000 in
set_option maxHeartbeats 2000000 in
theorem rFire (b : Nat) (v : Value) (m xs rest : List trIt) (n : Int) (w : World) (h : RfAt w b v m) (hm : m.length ≤ 4) (hA : Armed m) (hF : Fired n m xs rest) (hr : ∀ y ∈ rest, n < y.due) :
    Calls Try.prog 30 #[.pointer (some ⟨b, 0, none⟩), .int .i64 n] w fun e w' => ∃ out v', e = .returned out ∧ RfAt w' b v' (offL m xs) ∧ w'.ownsRow w.heap.size 3 1 out xs.length (xs.map fun x => .int .i64 x.id) ∧ Frm b v v' w w' := by
  obtain ⟨i0, hi, hz0, hz1, hz2⟩ := info_parts Try.intRowT
  have hlt := h.lt
  have hx4 : xs.length ≤ 4 := by have := hF.perm.length_eq; rw [List.length_append] at this; omega
  go_enter Try.func30, Try.ntmps30
  go_wp2_with fail
  go_loopw [5, 6] (fun out kv wr => ∃ (k j : Nat) (v' : Value), k ≤ 4 ∧ kv = .int .i64 k ∧ (j = k ∨ j = xs.length) ∧ j ≤ xs.length ∧ j ≤ k ∧ RfAt wr b v' (offL m (xs.take j)) ∧ wr.ownsRow w.heap.size 3 1 out j ((xs.take j).map fun x => .int .i64 x.id) ∧ Frm b v v' w wr) (fun _ kv _ => 4 - (intOf kv).toNat)
  case atStart => exact ⟨0, 0, v, by omega, rfl, .inl rfl, by omega, by omega, by rw [List.take_zero, offL_nil]; exact h, World.ownsRow_nil _ _ _ _, Frm.refl _ _ _⟩
  case round =>
    obtain ⟨k, j, v', hk, rfl, hjk, hjx, hjk2, hR, hown, hfr⟩ := hrel
    have hol := offL_le m (xs.take j)
    have hltr := hR.lt
    by_cases hk4 : k < 4
    · by_cases hjl : j < xs.length
      · obtain rfl : k = j := by omega
        obtain ⟨hn1, hn2⟩ := fire_next hF hA.nodup hjl
        obtain ⟨i, hil, hbi, hati⟩ := hA.off.best hn1 hn2
        have hsn := offL_snoc m (xs.take k) (atL xs k)
        rw [← take_succ_atL hjl] at hsn
        have hdue := hF.due _ (mem_atL hjl)
        have htk : ((xs.take (k + 1)).map fun x => Value.int .i64 x.id) = ((xs.take k).map fun x => Value.int .i64 x.id) ++ [.int .i64 (atL xs k).id] := by rw [take_succ_atL hjl, List.map_append]; rfl
        obtain ⟨a, c, rfl⟩ := hR.shape
        obtain ⟨g, rfl, hle, hmx, hbg, hg, hc, hf⟩ := hR.at rfEnc_length hil
        have e1 := hc i hil 0 (by omega)
        have e2 := hc i hil 1 (by omega)
        rw [hati] at e1 e2
        simp only [rfEnc, List.getElem?_cons_zero, List.getElem?_cons_succ, Nat.add_zero] at e1 e2
        have q0 := hR.field rfBlk_ok
        obtain ⟨d, s, id, hxe⟩ : ∃ d s id, atL xs k = (⟨d, s, id⟩ : trIt) := ⟨_, _, _, rfl⟩
        rw [hxe] at e1 e2 hsn htk hdue
        simp only at e1 e2 hsn htk hdue
        have hin : ¬ (i : Int) < 0 := by omega
        have HS := Lib.hid hsn
        have HT := Lib.hid htk
        have HBI := Lib.hid hbi
        clear hc hsn htk hbi hati hn1 hn2 hxe hF
        go_wp2_with fail
        refine (rFirst b _ _ _ hR (by omega)).mono ?_
        rintro e w1 ⟨rfl, hb1⟩
        rw [HBI.out]
        have p0 := (hb1.cell (p := ⟨b, 0, none⟩) hltr).trans q0
        have p1 := (hb1.cell (p := ⟨g, i * 2, none⟩) hg).trans e1
        have p2 := (hb1.cell (p := ⟨g, i * 2 + 1, none⟩) hg).trans e2
        have hR1 := hR.below hb1
        have hown1 : w1.ownsRow w.heap.size 3 1 u5 k ((xs.take k).map fun x => .int .i64 x.id) := ownsRow_frm hown (Frm.of_below (b := b) (v := .slice none 0 0) hb1) hlt (fun g _ e => by cases e)
        have hbase : w.heap.size ≤ w1.heap.size := Nat.le_trans hfr.size hb1.size
        have fr1 := hfr.trans (Frm.of_below hb1)
        clear e1 e2 q0 hown hR hfr hb1
        go_wp2_with (at_builtin; refine wpList_append_lies _ rfl _ _ 25 rfl w.heap.size 3 i0 (.int .i64 0) 1 8 Try.underlying25 hi hz0 hz1 hz2 rfl (by decide) _ _ _ rfl (World.ownsRow.alloc hown1 _) ⟨w1.heap.size, 0, none⟩ 1 1 [.int .i64 id] rfl rfl ?c1 ?c2 (by decide) ?c3 ?c4 ?c5 (w1.heap.size + 1) ?c6 ?_)
        case c1 =>
          intro x u hx
          match x, hx with
          | 0, hx => simp at hx; subst hx; simp [Addr.add]
        case c2 => intro u hu; simp at hu; subst hu; rfl
        case c3 => unfold maxLen; omega
        case c4 => omega
        case c5 => simp; omega
        case c6 => simp
        intro g4 cap4 w4 hown4 hgrow hat hlt4
        have hR4 := hR1.grewBy hown1 hgrow (by decide) (by decide)
        have fr4 := fr1.grewBy hown1 hgrow
        clear p0 p1 p2
        go_wp2_with fail
        refine (rCancel b _ _ id _ hR4 (by omega)).mono ?_
        rintro e w5 ⟨rfl, v5, hR5, f5⟩
        rw [HS.out] at hR5
        have hown5 := ownsRow_other f5 hR4 hown4 (by decide) (by decide)
        go_wp2
        go_roundw
        case rel => exact ⟨k + 1, k + 1, v5, by omega, by go_num, .inl rfl, by omega, by omega, hR5, by rw [HT.out]; simpa using hown5, fr4.trans f5⟩
        case measure => simp [intOf]; omega
      · obtain rfl : j = xs.length := by omega
        rw [List.take_length] at hR hown hol
        have hend := fire_end hF hr
        have hrel2 : ∀ (k2 : Nat), k2 = xs.length → xs.take k2 = xs := fun k2 e => by rw [e, List.take_length]
        by_cases h0 : (offL m xs).length = 0
        · go_wp2_with fail
          refine (rFirst b _ _ _ hR (by omega)).mono ?_
          rintro e w1 ⟨rfl, hb1⟩
          rw [h0]
          simp only [bstD]
          have hR1 := hR.below hb1
          have hown1 : w1.ownsRow w.heap.size 3 1 u5 xs.length (xs.map fun x => .int .i64 x.id) := ownsRow_frm hown (Frm.of_below (b := b) (v := .slice none 0 0) hb1) hlt (fun g _ e => by cases e)
          have fr1 := hfr.trans (Frm.of_below hb1)
          have htl : xs.take xs.length = xs := List.take_length
          have HTL := Lib.hid htl
          clear htl hrel2 h0
          go_wp2
          go_roundw
          case rel => exact ⟨k + 1, xs.length, v', by omega, by go_num, .inr rfl, by omega, by omega, by rw [HTL.out]; exact hR1, by rw [HTL.out]; exact hown1, fr1⟩
          case measure => simp [intOf]; omega
        · obtain ⟨i, hil, hbi, _, _⟩ := bstD_spec (offL m xs) _ (Nat.pos_of_ne_zero h0)
          have hdue := hend _ (mem_atL hil)
          obtain ⟨a, c, rfl⟩ := hR.shape
          obtain ⟨g, rfl, hle, hmx, hbg, hg, hc, hf⟩ := hR.at rfEnc_length hil
          have e2 := hc i hil 1 (by omega)
          simp only [rfEnc, List.getElem?_cons_zero, List.getElem?_cons_succ] at e2
          have q0 := hR.field rfBlk_ok
          obtain ⟨d, hd⟩ : ∃ d, (atL (offL m xs) i).due = d := ⟨_, rfl⟩
          rw [hd] at e2 hdue
          have hin : ¬ (i : Int) < 0 := by omega
          have HBI := Lib.hid hbi
          have htl : xs.take xs.length = xs := List.take_length
          have HTL := Lib.hid htl
          clear hc hbi htl hrel2 h0 hd hend
          go_wp2_with fail
          refine (rFirst b _ _ _ hR (by omega)).mono ?_
          rintro e w1 ⟨rfl, hb1⟩
          rw [HBI.out]
          have p0 := (hb1.cell (p := ⟨b, 0, none⟩) hltr).trans q0
          have p2 := (hb1.cell (p := ⟨g, i * 2 + 1, none⟩) hg).trans e2
          have hR1 := hR.below hb1
          have hown1 : w1.ownsRow w.heap.size 3 1 u5 xs.length (xs.map fun x => .int .i64 x.id) := ownsRow_frm hown (Frm.of_below (b := b) (v := .slice none 0 0) hb1) hlt (fun g _ e => by cases e)
          have fr1 := hfr.trans (Frm.of_below hb1)
          clear e2 q0
          go_wp2
          go_roundw
          case rel => exact ⟨k + 1, xs.length, _, by omega, by go_num, .inr rfl, by omega, by omega, by rw [HTL.out]; exact hR1, by rw [HTL.out]; exact hown1, fr1⟩
          case measure => simp [intOf]; omega
    · obtain rfl : k = 4 := by omega
      obtain rfl : j = xs.length := by omega
      rw [List.take_length] at hR hown
      go_wp2
      go_ret
      exact ⟨_, rfl, v', hR, hown, hfr⟩
end Go.Proofs.Ytjlhdbkhebfghaa
