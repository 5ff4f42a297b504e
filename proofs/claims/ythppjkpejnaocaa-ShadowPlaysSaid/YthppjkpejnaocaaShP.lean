/- shadow: the plain laws. -/
import Derived.Test.YthppjkpejnaocaaShF
import Derived.Test.YthppjkpejnaocaaShN
namespace Go.Proofs.Ythppjkpejnaocaa
open Go.ChangeShapes Go.WideShapes Go.ChangeAt Go.RowKit
set_option linter.unusedVariables false

/-- Those that a fill leaves. -/
def fillO (l : List ln) (x : ln) : List ln := if 32 ≤ (l.filter fun y => !keyB x.kr x.kp y).length then (l.filter fun y => !keyB x.kr x.kp y).drop 1 else l.filter fun y => !keyB x.kr x.kp y
def lastX (l : List ln) (x : ln) : ln := if tableB (fillO l x ++ [x]) x.ep = true then nrw (prX x.rt x.lf x) else prX x.rt x.lf x
theorem fillO_mem {l : List ln} {x y : ln} (h : y ∈ fillO l x) : y ∈ l ∧ keyB x.kr x.kp y = false := by
  have : y ∈ l.filter fun y => !keyB x.kr x.kp y := by
    unfold fillO at h
    split at h
    · exact List.mem_of_mem_drop h
    · exact h
  simpa using this
theorem fillO_length {l : List ln} {x : ln} (hn : l.length ≤ 32) : (fillO l x).length ≤ 31 := by
  have := List.length_filter_le (fun y => !keyB x.kr x.kp y) l
  unfold fillO
  split
  · rw [List.length_drop]; omega
  · omega
theorem fillCA {l : List ln} {x : ln} (hn : l.length ≤ 32) : fillC (fillA l x) = fillO l x ++ [x] := by
  have := List.length_filter_le (fun y => !keyB x.kr x.kp y) l
  unfold fillC fillA fillO
  simp only [List.length_append, List.length_cons, List.length_nil]
  by_cases h : 32 ≤ (l.filter fun y => !keyB x.kr x.kp y).length
  · rw [if_pos (by omega), if_pos h, List.drop_append_of_le_length (by omega)]
  · rw [if_neg (by omega), if_neg h]
theorem atL_last {l : List ln} {x : ln} : atL (l ++ [x]) l.length = x := by
  rw [atL_eq (by simp)]
  simp
theorem thr_prX (rt lf p : Int) (x : ln) : thrB p (prX rt lf x) = thrB p x := by
  unfold prX
  split <;> rfl
theorem table_map (rt lf p : Int) (l : List ln) : tableB (l.map (prX rt lf)) p = tableB l p := by
  unfold tableB
  rw [List.any_map]
  congr 1
  funext x
  exact thr_prX rt lf p x
theorem ep_prX (rt lf : Int) (x : ln) : (prX rt lf x).ep = x.ep := by
  unfold prX
  split <;> rfl
theorem table_snoc (l : List ln) (x : ln) (p : Int) : tableB (l ++ [x]) p = (tableB l p || thrB p x) := by simp [tableB, List.any_append]
theorem protL_app (o : List ln) (x : ln) (rt lf : Int) : protL (o ++ [x]) rt lf = o.map (prX rt lf) ++ [if tableB (o ++ [x]) x.ep = true then nrw (prX rt lf x) else prX rt lf x] := by
  have hm : (o ++ [x]).map (prX rt lf) = o.map (prX rt lf) ++ [prX rt lf x] := by simp
  have hl : (o ++ [x]).length - 1 = (o.map (prX rt lf)).length := by simp
  unfold protL
  rw [hl, hm, atL_last, ep_prX, ← hm, table_map]
  by_cases h : tableB (o ++ [x]) x.ep = true
  · rw [if_pos h, if_pos h, hm, List.set_append_right _ _ (Nat.le_refl _), Nat.sub_self]
    rfl
  · rw [if_neg h, if_neg h, hm]
theorem fillL_eq {l : List ln} {x : ln} (hn : l.length ≤ 32) : fillL l x = (fillO l x).map (prX x.rt x.lf) ++ [lastX l x] := by
  rw [fillL, fillCA hn, protL_app]
  rfl
theorem fillL_length {l : List ln} {x : ln} (hn : l.length ≤ 32) : (fillL l x).length = (fillO l x).length + 1 := by rw [fillL_eq hn]; simp
theorem thr_lastX (l : List ln) (x : ln) (p : Int) : thrB p (lastX l x) = thrB p x := by
  unfold lastX
  split
  · exact thr_prX x.rt x.lf p x
  · exact thr_prX x.rt x.lf p x
theorem table_fillL {l : List ln} {x : ln} (hn : l.length ≤ 32) (p : Int) : tableB (fillL l x) p = tableB (fillO l x ++ [x]) p := by
  rw [fillL_eq hn, table_snoc, table_map, thr_lastX, table_snoc]
theorem table_mono {l l' : List ln} (h : ∀ y ∈ l', y ∈ l) {p : Int} (ht : tableB l' p = true) : tableB l p = true := by
  obtain ⟨y, hy, hp⟩ := List.any_eq_true.1 ht
  exact List.any_eq_true.2 ⟨y, h y hy, hp⟩
/-- The entry's rights of the last one. -/
theorem er_lastX (l : List ln) (x : ln) : (lastX l x).er = if tableB (fillO l x ++ [x]) x.ep = true then bits .andNot .i64 x.er 2 else x.er := by
  unfold lastX
  by_cases h : tableB (fillO l x ++ [x]) x.ep = true
  · rw [if_pos h, if_pos h]
    unfold prX
    split
    · exact nrw_nrw x.er
    · rfl
  · rw [if_neg h, if_neg h, prX, if_neg]
    intro hp
    apply h
    rw [table_snoc]
    have : thrB x.ep x = true := by
      unfold prB at hp
      unfold thrB
      simp only [Bool.or_eq_true, beq_iff_eq] at hp ⊢
      rcases hp with e | e
      · exact .inl e.symm
      · exact .inr e.symm
    rw [this, Bool.or_true]
theorem ep_lastX (l : List ln) (x : ln) : (lastX l x).ep = x.ep ∧ (lastX l x).ef = x.ef ∧ (lastX l x).kr = x.kr ∧ (lastX l x).kp = x.kp := by
  unfold lastX prX
  split <;> split <;> exact ⟨rfl, rfl, rfl, rfl⟩
/-- No table is written by. -/
def PInv (l : List ln) : Prop := l.length ≤ 32 ∧ ∀ x ∈ l, tableB l x.ep = true → bits .and .i64 x.er 2 = 0
theorem PInv.nil : PInv [] := ⟨by simp, fun x hx => by cases hx⟩
theorem PInv.filter {l : List ln} (h : PInv l) (f : ln → Bool) : PInv (l.filter f) :=
  ⟨Nat.le_trans (List.length_filter_le _ _) h.1, fun x hx ht => h.2 x ((List.mem_filter.1 hx).1) (table_mono (fun y hy => (List.mem_filter.1 hy).1) ht)⟩
theorem PInv.fill {l : List ln} (h : PInv l) (x : ln) : PInv (fillL l x) := by
  refine ⟨by rw [fillL_length h.1]; have := fillO_length (x := x) h.1; omega, fun y hy ht => ?_⟩
  rw [table_fillL h.1] at ht
  rw [fillL_eq h.1] at hy
  rcases List.mem_append.1 hy with hy | hy
  · obtain ⟨z, hz, rfl⟩ := List.mem_map.1 hy
    unfold prX at ht ⊢
    by_cases hp : prB x.rt x.lf z = true
    · rw [if_pos hp]
      exact and_nrw z.er
    · rw [if_neg hp] at ht ⊢
      refine h.2 z (fillO_mem hz).1 ?_
      rw [table_snoc] at ht
      have hx : thrB z.ep x = false := by
        rw [Bool.not_eq_true] at hp
        unfold prB at hp
        unfold thrB
        simp only [Bool.or_eq_false_iff, beq_eq_false_iff_ne] at hp ⊢
        exact ⟨fun e => hp.1 e.symm, fun e => hp.2 e.symm⟩
      rw [hx, Bool.or_false] at ht
      exact table_mono (fun y hy => (fillO_mem hy).1) ht
  · rw [List.mem_singleton.1 hy] at ht ⊢
    rw [(ep_lastX l x).1] at ht
    rw [er_lastX, if_pos ht]
    exact and_nrw x.er
theorem PInv.act {l : List ln} (h : PInv l) (a : act) : PInv (doL l a) := by
  unfold doL
  split
  · exact h.filter _
  · split
    · exact h.filter _
    · split
      · exact PInv.nil
      · split
        · exact h.fill _
        · exact h
/-- One each. -/
def UInv (l : List ln) : Prop := l.length ≤ 32 ∧ ∀ k0 k1, (l.filter (keyB k0 k1)).length ≤ 1
theorem UInv.nil : UInv [] := ⟨by simp, fun _ _ => by simp⟩
theorem key_prX (rt lf k0 k1 : Int) (x : ln) : keyB k0 k1 (prX rt lf x) = keyB k0 k1 x := by
  unfold prX
  split <;> rfl
theorem UInv.filter {l : List ln} (h : UInv l) (f : ln → Bool) : UInv (l.filter f) :=
  ⟨Nat.le_trans (List.length_filter_le _ _) h.1, fun k0 k1 => by
    have h1 := ((List.filter_sublist (p := f) (l := l)).filter (keyB k0 k1)).length_le
    exact Nat.le_trans h1 (h.2 k0 k1)⟩
theorem fillO_sub {l : List ln} {x : ln} : (fillO l x).Sublist l := by
  unfold fillO
  split
  · exact (List.drop_sublist _ _).trans List.filter_sublist
  · exact List.filter_sublist
theorem count_fillL {l : List ln} {x : ln} (hn : l.length ≤ 32) (k0 k1 : Int) : ((fillL l x).filter (keyB k0 k1)).length = ((fillO l x).filter (keyB k0 k1)).length + if keyB k0 k1 x = true then 1 else 0 := by
  rw [fillL_eq hn, List.filter_append, List.length_append, List.filter_map, List.length_map]
  have e1 : (keyB k0 k1) ∘ (prX x.rt x.lf) = keyB k0 k1 := funext fun y => key_prX _ _ _ _ y
  have e2 : keyB k0 k1 (lastX l x) = keyB k0 k1 x := by
    unfold keyB
    rw [(ep_lastX l x).2.2.1, (ep_lastX l x).2.2.2]
  rw [e1, List.filter_cons, e2]
  split <;> simp
theorem key_none {l : List ln} {x : ln} {k0 k1 : Int} (hk : keyB k0 k1 x = true) : ((fillO l x).filter (keyB k0 k1)).length = 0 := by
  rw [List.length_eq_zero_iff, List.filter_eq_nil_iff]
  intro y hy
  have h := (fillO_mem hy).2
  simp only [keyB, Bool.and_eq_true, beq_iff_eq] at hk
  rw [← hk.1, ← hk.2, h]
  simp
theorem UInv.fill {l : List ln} (h : UInv l) (x : ln) : UInv (fillL l x) := by
  refine ⟨by rw [fillL_length h.1]; have := fillO_length (x := x) h.1; omega, fun k0 k1 => ?_⟩
  rw [count_fillL h.1]
  by_cases hk : keyB k0 k1 x = true
  · rw [if_pos hk, key_none hk]
    exact Nat.le_refl _
  · rw [if_neg hk, Nat.add_zero]
    exact Nat.le_trans (fillO_sub.filter _).length_le (h.2 k0 k1)
theorem UInv.act {l : List ln} (h : UInv l) (a : act) : UInv (doL l a) := by
  unfold doL
  split
  · exact h.filter _
  · split
    · exact h.filter _
    · split
      · exact UInv.nil
      · split
        · exact h.fill _
        · exact h
theorem len_split (f : ln → Bool) (l : List ln) : (l.filter f).length + (l.filter fun y => !f y).length = l.length := by
  induction l with
  | nil => rfl
  | cons y l ih =>
    simp only [List.filter_cons]
    cases f y <;> simp <;> omega
theorem getB_iff (l : List ln) (k0 k1 : Int) : getB l k0 k1 = true ↔ (l.filter (keyB k0 k1)).length ≠ 0 := by
  unfold getB getL
  rw [List.find?_isSome, ne_eq, List.length_eq_zero_iff, List.filter_eq_nil_iff]
  constructor
  · rintro ⟨y, hy, hk⟩ h
    exact h y hy hk
  · intro h
    by_cases hx : ∃ x ∈ l, keyB k0 k1 x = true
    · obtain ⟨x, hx, hk⟩ := hx; exact ⟨x, hx, hk⟩
    · exact absurd (fun a ha hk => hx ⟨a, ha, hk⟩) h
/-- How many there are behind a fill. -/
theorem fill_len {l : List ln} (h : UInv l) (x : ln) : (fillL l x).length = if getB l x.kr x.kp = true then l.length else min (l.length + 1) 32 := by
  rw [fillL_length h.1]
  have hs := len_split (keyB x.kr x.kp) l
  have hu := h.2 x.kr x.kp
  have hn := h.1
  by_cases hg : getB l x.kr x.kp = true
  · rw [if_pos hg]
    rw [getB_iff] at hg
    unfold fillO
    rw [if_neg (by omega)]
    omega
  · rw [if_neg hg]
    rw [getB_iff] at hg
    have hz : (l.filter (keyB x.kr x.kp)).length = 0 := by omega
    unfold fillO
    split
    · rw [List.length_drop]; omega
    · omega
theorem fill_get {l : List ln} (hn : l.length ≤ 32) (x : ln) : getL (fillL l x) x.kr x.kp = some (lastX l x) := by
  unfold getL
  rw [fillL_eq hn, List.find?_append]
  have h1 : ((fillO l x).map (prX x.rt x.lf)).find? (keyB x.kr x.kp) = none := by
    rw [List.find?_eq_none]
    intro y hy
    obtain ⟨z, hz, rfl⟩ := List.mem_map.1 hy
    rw [key_prX, (fillO_mem hz).2]
    simp
  rw [h1]
  simp only [Option.none_or, List.find?_cons]
  have e2 : keyB x.kr x.kp (lastX l x) = true := by
    unfold keyB
    rw [(ep_lastX l x).2.2.1, (ep_lastX l x).2.2.2]
    simp
  rw [e2]
theorem fill_many {l : List ln} (hn : l.length ≤ 32) (x : ln) : ((fillL l x).filter (keyB x.kr x.kp)).length = 1 := by
  have hk : keyB x.kr x.kp x = true := by simp [keyB]
  rw [count_fillL hn, if_pos hk, key_none hk]
end Go.Proofs.Ythppjkpejnaocaa
