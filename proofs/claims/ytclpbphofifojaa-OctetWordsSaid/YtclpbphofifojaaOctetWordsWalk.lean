/- The walk of hermitagelaw02.OctetWords: true at every input. -/
import Derived.Test.YtclpbphofifojaaOctM
import Derived.Laws.AppendOwnNone
namespace Go.Proofs.Ytclpbphofifojaa
open Go.ChangeShapes Go.WideShapes Go.ChangeAt Go.RowKit
set_option linter.unusedVariables false

theorem wordsOf_eq (L : Nat → Int) (n m : Nat) (f : Nat → Int) (hm : m / 4 = n) (hL : ∀ i, 0 ≤ L i ∧ L i ≤ 4294967295) (hf : ∀ i, i < 4 * n → f i = wb L n i) : wordsOf f (m / 4) = (List.range n).map L := by
  rw [hm]
  unfold wordsOf
  apply List.map_congr_left
  intro i hi
  have hin : i < n := List.mem_range.1 hi
  rw [← wb_get L n i hin (hL i).1 (hL i).2]
  simp only [getV, Nat.add_zero]
  rw [hf _ (by omega), hf _ (by omega), hf _ (by omega), hf _ (by omega)]

def joinF (f g : Nat → Int) (n : Nat) : Nat → Int := fun i => if i < n then f i else g (i - n)
theorem joinF_byt {f g : Nat → Int} (hf : Byt f) (hg : Byt g) (n : Nat) : Byt (joinF f g n) := fun i => by
  unfold joinF
  split
  · exact hf i
  · exact hg _
theorem bytesL_join (f g : Nat → Int) (n : Nat) : ∀ m, bytesL f n ++ bytesL g m = bytesL (joinF f g n) (n + m)
  | 0 => by
    simp only [bytesL, Nat.add_zero, List.range_zero, List.map_nil, List.append_nil]
    apply List.map_congr_left
    intro i hi
    have : i < n := List.mem_range.1 hi
    simp [joinF, this]
  | m + 1 => by
    have ih := bytesL_join f g n m
    have e1 : bytesL g (m + 1) = bytesL g m ++ [.int .u8 (g m)] := by simp [bytesL, List.range_succ]
    have e2 : bytesL (joinF f g n) (n + (m + 1)) = bytesL (joinF f g n) (n + m) ++ [.int .u8 (g m)] := by
      rw [← Nat.add_assoc]
      simp [bytesL, List.range_succ, joinF]
      intro h
      omega
    rw [e1, e2, ← ih, List.append_assoc]

theorem src_of_owned {w : World} {B n : Nat} {v : Value} {f : Nat → Int} (h : w.ownsRow B 5 1 v n (bytesL f n)) (hf : Byt f) : ∃ q c, v = .slice q n c ∧ n ≤ c ∧ SrcAt w q n f := by
  have hr := row_of_owned h hf
  rcases h.2 with ⟨rfl, rfl⟩ | ⟨g, cap, cur, rfl, hb, hg, hle, hm, hs, ht⟩
  · exact ⟨none, 0, rfl, Nat.le_refl _, fun _ => rfl, hf, fun h => absurd h (by omega)⟩
  · refine ⟨_, cap, rfl, hle, (fun h => by cases h), hf, fun hn => ?_⟩
    obtain ⟨g', cap', he, _, _, _, hrow⟩ := hr.2 hn
    cases he
    exact ⟨g, 0, rfl, hrow.bat⟩
theorem Bel.append0 {B : Nat} {a w w' : World} {e : TypeId} {size n : Nat} {v : Value} {xs : List Value} (h : Bel B a w) (hown : w.ownsRow B e size v n xs) (hg : w.grownBy w' v.ownBlock) : Bel B a w' := by
  rcases hown.2 with ⟨rfl, _⟩ | ⟨g, cap, cur, rfl, hb, _⟩
  · exact h.of ⟨hg.os, hg.tape, hg.output, hg.size, fun i hi => hg.block i hi (by simp [Value.ownBlock])⟩
  · exact h.upd (show Upd g w w' from hg) hb

set_option maxRecDepth 100000 in
set_option maxHeartbeats 4000000 in
theorem octetWords_walk (p0 : Option Addr) (n0 c0 : Nat) (f0 : Nat → List Value) (p1 : Option Addr) (n1 c1 : Nat) (f1 : Nat → List Value) (w : World) (w0 : SliceOk [some .u32] w p0 n0 c0 f0) (hR0 : c0 * 4 ≤ 140737488351232) (w1 : SliceOk [some .u8] w p1 n1 c1 f1) (hR1 : c1 * 1 ≤ 140737488351232) :
    Calls Try.prog 7 #[.slice p0 n0 c0, .slice p1 n1 c1] w fun e w' => e = .returned (.bool true) ∧ Below w.heap.size w w' := by
  obtain ⟨L, hL⟩ := wsrc_of_ok w0
  obtain ⟨fm, hm⟩ := src_of_ok w1
  have hnc0 := w0.1
  have hnc1 := w1.1
  have hz1 := w1.2.2.1
  clear w0 w1
  have hLb := hL.2.1
  obtain ⟨i0, hi, hz0, hzz, hz2⟩ := info_parts Try.infoByte
  go_enter Try.func7, Try.ntmps7
  go_wp2_with fail
  refine (bytes_any p0 n0 c0 L _ hL (by omega)).mono ?_
  rintro e w2 ⟨g, rfl, hgb, hr, hb2⟩
  go_wp2_with fail
  refine (words_any (some ⟨g, 0, none⟩) (4 * n0) (4 * n0) (wb L n0) _ hr.bat.src (Nat.le_refl _) (by omega)).mono ?_
  rintro e w3 ⟨v3, rfl, hown3, hb3⟩
  rw [wordsOf_eq L n0 (4 * n0) (wb L n0) (by omega) hLb (fun _ _ => rfl)] at hown3
  obtain ⟨a3, cc3, rfl, hle3, hm3, hi3, _⟩ := ints_of_owned hown3
  rw [show ((List.range n0).map L).length = n0 by simp] at *
  have hL3 := (hL.below hb2).below hb3
  have hr3 := hr.below hb3
  have hbel3 : Bel w.heap.size w w3 := Bel.of (Bel.of (Bel.refl w) hb2) hb3
  have hm3' := (hm.below hb2).below hb3
  clear hown3 hb2 hb3 hL hr hm
  go_wp2_with fail
  refine (Calls.lat (wcmp_any a3 p0 n0 n0 cc3 c0 _ _ _ hi3 hL3.ints (by omega) (by omega))).mono ?_
  rintro e w' ⟨rfl, x4, rfl⟩
  rw [beq_self_eq_true]
  have hb4 : Below w3.heap.size w3 (later w3 x4) := later_below w3 x4
  generalize later w3 x4 = w4 at hb4 ⊢
  have hL4 := hL3.below hb4
  have hr4 := hr3.below hb4
  have hm4 := hm3'.below hb4
  have hbel4 : Bel w.heap.size w w4 := hbel3.of hb4
  clear hL3 hr3 hm3' hi3 hbel3 hb4
  have hnews : ∀ j u, (bytesL (wb L n0) (4 * n0))[j]? = some u → w4.cell? ((⟨g, 0, none⟩ : Addr).add j) = some u := by
    intro j u hj
    have hjl : j < 4 * n0 := by have := (List.getElem?_eq_some_iff.1 hj).1; rwa [bytesL_length, Nat.mul_one] at this
    rw [bytesL_at _ _ j hjl] at hj
    cases hj
    rw [add_plain]
    exact hr4.bat.2.1 j hjl
  have hp1 := hm4.1
  have hfm := hm4.2.1
  have HM := Lib.hid hm4
  clear hm4
  have hgl : HasYet w4 g := hr4.lt
  have hcase : (p1 = none ∧ n1 = 0 ∧ c1 = 0) ∨ (∃ ad, p1 = some ad ∧ n1 ≤ 3) ∨ (∃ ad, p1 = some ad ∧ ¬ n1 ≤ 3) := by
    cases p1 with
    | none => exact .inl ⟨rfl, hp1 rfl, hz1 rfl⟩
    | some ad =>
      by_cases h3 : n1 ≤ 3
      · exact .inr (.inl ⟨ad, rfl, h3⟩)
      · exact .inr (.inr ⟨ad, rfl, h3⟩)
  clear hp1
  rcases hcase with ⟨rfl, rfl, rfl⟩ | ⟨ad, rfl, h3⟩ | ⟨ad, rfl, h3⟩
  · go_wp2_with (at_builtin; refine wpList_append_own _ rfl (.tmp 28) (.tmp 29) 34 rfl w4.heap.size 5 i0 (.int .u8 0) 1 1 Try.underlying34 hi hz0 hzz hz2 rfl (by decide) _ 0 [] rfl (World.ownsRow_made w4 #[] 0 (Nat.le_refl _) (Nat.zero_le _) rfl) ⟨g, 0, none⟩ (4 * n0) (4 * n0) (bytesL (wb L n0) (4 * n0)) rfl (bytesL_length _ _) ?c1 (bytesL_one _ _) ?c3 ?c4 (by simp) ?_)
    case c1 => first | exact hnews | (intro j u hj; have := hnews j u hj; simpa using this) | (intro j u hj; rw [alloc_old_cell _ _ _ (by rw [add_plain]; exact hr4.lt)]; exact hnews j u hj)
    case c3 => unfold maxLen; omega
    case c4 => omega
    intro v5 w5 hown5 hgrow5 _
    have hb5 : Below w4.heap.size w4 w5 := (Bel.upd (Bel.refl w4).alloc (show Upd w4.heap.size _ _ from hgrow5) (Nat.le_refl _)).1
    have hb5s := hb5.size
    have hm5 := HM.out.below hb5
    have hL5 := hL4.below hb5
    have hbel5 : Bel w4.heap.size w4 w5 := ⟨hb5, hb5s⟩
    obtain ⟨q, cq, rfl, hqc, hsrc⟩ := src_of_owned hown5 (wb_byt _ _)
    go_wp2_with (at_builtin; refine wpList_append_own_none rfl (.tmp 30) (.tmp 31) 34 rfl w4.heap.size 5 i0 1 Try.underlying34 hi _ (4 * n0) (bytesL (wb L n0) (4 * n0)) rfl hown5 rfl ?_)
    have hbel6 := hbel5
    have hL6 := hL5
    have hwords := wordsOf_eq L n0 (4 * n0) (wb L n0) (by omega) hLb (fun _ _ => rfl)
    clear hown5 hgrow5 hm5 hL5 hbel5 hb5
    go_wp2_with fail
    refine (words_any _ _ _ _ _ hsrc hqc (by omega)).mono ?_
    rintro e w7 ⟨v7, rfl, hown7, hb7⟩
    rw [hwords] at hown7
    obtain ⟨a7, cc7, rfl, hle7, hm7, hi7, _⟩ := ints_of_owned hown7
    rw [show ((List.range n0).map L).length = n0 by simp] at *
    go_wp2_with fail
    refine (Calls.lat (wcmp_any a7 p0 n0 n0 cc7 c0 _ _ _ hi7 (hL6.below hb7).ints (by omega) (by omega))).mono ?_
    rintro e w' ⟨rfl, x8, rfl⟩
    rw [beq_self_eq_true]
    have hbel := (hbel4.trans hbel6 hbel4.2).of hb7
    go_wp2_with fail
    refine (Calls.lat (awake02 _)).mono ?_
    rintro e w' ⟨rfl, x9, rfl⟩
    go_wp2_with fail
    go_ret
    exact ⟨rfl, (by refine (?_ : Bel _ _ _).1; repeat (first | exact hbel | exact Bel.refl _ | apply Bel.later | apply Bel.alloc | apply Bel.drew | (refine Bel.laterB ?_ (by first | exact Nat.le_refl _ | omega | (simp; omega) | simp)) | (refine Bel.setCell ?_ (by first | exact Nat.le_refl _ | omega | (simp; omega) | simp))))⟩
  · go_wp2_with (at_builtin; refine wpList_append_own _ rfl (.tmp 28) (.tmp 29) 34 rfl w4.heap.size 5 i0 (.int .u8 0) 1 1 Try.underlying34 hi hz0 hzz hz2 rfl (by decide) _ 0 [] rfl (World.ownsRow_made w4 #[] 0 (Nat.le_refl _) (Nat.zero_le _) rfl) ⟨g, 0, none⟩ (4 * n0) (4 * n0) (bytesL (wb L n0) (4 * n0)) rfl (bytesL_length _ _) ?c1 (bytesL_one _ _) ?c3 ?c4 (by simp) ?_)
    case c1 => first | exact hnews | (intro j u hj; have := hnews j u hj; simpa using this) | (intro j u hj; rw [alloc_old_cell _ _ _ (by rw [add_plain]; exact hr4.lt)]; exact hnews j u hj)
    case c3 => unfold maxLen; omega
    case c4 => omega
    intro v5 w5 hown5 hgrow5 _
    have hb5 : Below w4.heap.size w4 w5 := (Bel.upd (Bel.refl w4).alloc (show Upd w4.heap.size _ _ from hgrow5) (Nat.le_refl _)).1
    have hb5s := hb5.size
    have hm5 := HM.out.below hb5
    have hL5 := hL4.below hb5
    have hbel5 : Bel w4.heap.size w4 w5 := ⟨hb5, hb5s⟩
    go_wp2_with (at_builtin; refine wpList_append_own _ rfl (.tmp 30) (.tmp 31) 34 rfl w4.heap.size 5 i0 (.int .u8 0) 1 1 Try.underlying34 hi hz0 hzz hz2 rfl (by decide) _ (4 * n0) (bytesL (wb L n0) (4 * n0)) rfl hown5 ad n1 c1 (bytesL fm n1) rfl (bytesL_length _ _) ?c1 (bytesL_one _ _) ?c3 ?c4 hb5s ?_)
    case c1 =>
      intro j u hj
      have hjl : j < n1 := by have := (List.getElem?_eq_some_iff.1 hj).1; rwa [bytesL_length, Nat.mul_one] at this
      obtain ⟨b, o, he, hb⟩ := hm5.2.2 (by omega)
      cases he
      rw [bytesL_at _ _ j hjl] at hj
      cases hj
      rw [add_plain]
      exact hb.2.1 j hjl
    case c3 => unfold maxLen; omega
    case c4 => omega
    intro v6 w6 hown6 hgrow6 _
    rw [bytesL_join] at hown6
    have hbel6 := hbel5.append0 hown5 hgrow6
    obtain ⟨q, cq, rfl, hqc, hsrc⟩ := src_of_owned hown6 (joinF_byt (wb_byt _ _) hfm _)
    have hL6 := hL4.below hbel6.1
    have hwords := wordsOf_eq L n0 (4 * n0 + n1) (joinF (wb L n0) fm (4 * n0)) (by omega) hLb (fun i hi => by simp [joinF, hi])
    clear hown5 hgrow5 hm5 hL5 hbel5 hb5
    go_wp2_with fail
    refine (words_any _ _ _ _ _ hsrc hqc (by omega)).mono ?_
    rintro e w7 ⟨v7, rfl, hown7, hb7⟩
    rw [hwords] at hown7
    obtain ⟨a7, cc7, rfl, hle7, hm7, hi7, _⟩ := ints_of_owned hown7
    rw [show ((List.range n0).map L).length = n0 by simp] at *
    go_wp2_with fail
    refine (Calls.lat (wcmp_any a7 p0 n0 n0 cc7 c0 _ _ _ hi7 (hL6.below hb7).ints (by omega) (by omega))).mono ?_
    rintro e w' ⟨rfl, x8, rfl⟩
    rw [beq_self_eq_true]
    have hbel := (hbel4.trans hbel6 hbel4.2).of hb7
    go_wp2_with fail
    refine (Calls.lat (awake02 _)).mono ?_
    rintro e w' ⟨rfl, x9, rfl⟩
    go_wp2_with fail
    go_ret
    exact ⟨rfl, (by refine (?_ : Bel _ _ _).1; repeat (first | exact hbel | exact Bel.refl _ | apply Bel.later | apply Bel.alloc | apply Bel.drew | (refine Bel.laterB ?_ (by first | exact Nat.le_refl _ | omega | (simp; omega) | simp)) | (refine Bel.setCell ?_ (by first | exact Nat.le_refl _ | omega | (simp; omega) | simp))))⟩
  · go_wp2_with (at_builtin; refine wpList_append_own _ rfl (.tmp 28) (.tmp 29) 34 rfl w4.heap.size 5 i0 (.int .u8 0) 1 1 Try.underlying34 hi hz0 hzz hz2 rfl (by decide) _ 0 [] rfl (World.ownsRow_made w4 #[] 0 (Nat.le_refl _) (Nat.zero_le _) rfl) ⟨g, 0, none⟩ (4 * n0) (4 * n0) (bytesL (wb L n0) (4 * n0)) rfl (bytesL_length _ _) ?c1 (bytesL_one _ _) ?c3 ?c4 (by simp) ?_)
    case c1 => first | exact hnews | (intro j u hj; have := hnews j u hj; simpa using this) | (intro j u hj; rw [alloc_old_cell _ _ _ (by rw [add_plain]; exact hr4.lt)]; exact hnews j u hj)
    case c3 => unfold maxLen; omega
    case c4 => omega
    intro v5 w5 hown5 hgrow5 _
    have hb5 : Below w4.heap.size w4 w5 := (Bel.upd (Bel.refl w4).alloc (show Upd w4.heap.size _ _ from hgrow5) (Nat.le_refl _)).1
    have hb5s := hb5.size
    have hm5 := HM.out.below hb5
    have hL5 := hL4.below hb5
    have hbel5 : Bel w4.heap.size w4 w5 := ⟨hb5, hb5s⟩
    go_wp2_with (at_builtin; refine wpList_append_own _ rfl (.tmp 30) (.tmp 31) 34 rfl w4.heap.size 5 i0 (.int .u8 0) 1 1 Try.underlying34 hi hz0 hzz hz2 rfl (by decide) _ (4 * n0) (bytesL (wb L n0) (4 * n0)) rfl hown5 ad 3 c1 (bytesL fm 3) rfl (bytesL_length _ _) ?c1 (bytesL_one _ _) ?c3 ?c4 hb5s ?_)
    case c1 =>
      intro j u hj
      have hjl : j < 3 := by have := (List.getElem?_eq_some_iff.1 hj).1; rwa [bytesL_length, Nat.mul_one] at this
      obtain ⟨b, o, he, hb⟩ := hm5.2.2 (by omega)
      cases he
      rw [bytesL_at _ _ j hjl] at hj
      cases hj
      rw [add_plain]
      exact hb.2.1 j (by omega)
    case c3 => unfold maxLen; omega
    case c4 => omega
    intro v6 w6 hown6 hgrow6 _
    rw [bytesL_join] at hown6
    have hbel6 := hbel5.append0 hown5 hgrow6
    obtain ⟨q, cq, rfl, hqc, hsrc⟩ := src_of_owned hown6 (joinF_byt (wb_byt _ _) hfm _)
    have hL6 := hL4.below hbel6.1
    have hwords := wordsOf_eq L n0 (4 * n0 + 3) (joinF (wb L n0) fm (4 * n0)) (by omega) hLb (fun i hi => by simp [joinF, hi])
    clear hown5 hgrow5 hm5 hL5 hbel5 hb5
    go_wp2_with fail
    refine (words_any _ _ _ _ _ hsrc hqc (by omega)).mono ?_
    rintro e w7 ⟨v7, rfl, hown7, hb7⟩
    rw [hwords] at hown7
    obtain ⟨a7, cc7, rfl, hle7, hm7, hi7, _⟩ := ints_of_owned hown7
    rw [show ((List.range n0).map L).length = n0 by simp] at *
    go_wp2_with fail
    refine (Calls.lat (wcmp_any a7 p0 n0 n0 cc7 c0 _ _ _ hi7 (hL6.below hb7).ints (by omega) (by omega))).mono ?_
    rintro e w' ⟨rfl, x8, rfl⟩
    rw [beq_self_eq_true]
    have hbel := (hbel4.trans hbel6 hbel4.2).of hb7
    go_wp2_with fail
    refine (Calls.lat (awake02 _)).mono ?_
    rintro e w' ⟨rfl, x9, rfl⟩
    go_wp2_with fail
    go_ret
    exact ⟨rfl, (by refine (?_ : Bel _ _ _).1; repeat (first | exact hbel | exact Bel.refl _ | apply Bel.later | apply Bel.alloc | apply Bel.drew | (refine Bel.laterB ?_ (by first | exact Nat.le_refl _ | omega | (simp; omega) | simp)) | (refine Bel.setCell ?_ (by first | exact Nat.le_refl _ | omega | (simp; omega) | simp))))⟩

end Go.Proofs.Ytclpbphofifojaa
