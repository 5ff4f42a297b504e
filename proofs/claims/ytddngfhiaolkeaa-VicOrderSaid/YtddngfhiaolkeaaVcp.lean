/- Plain, law 28: the lines; which of them are in the row. -/
import Derived.Test.YtddngfhiaolkeaaHeap2
import Derived.Test.YtddngfhiaolkeaaVrowA
namespace Go.Proofs.Ytddngfhiaolkeaa
set_option linter.unusedVariables false

structure vcLn where
  wt : Bool
  ms : Bool
  pr : Int
  sn : Int
deriving Inhabited
def lnC (x : vcLn) : List Value := [.bool x.wt, .bool x.ms, .int .i64 x.pr, .int .i64 x.sn]
theorem lnC_length (x : vcLn) : (lnC x).length = 4 := rfl
def putF {β : Type} (V : Nat → β) (g : Nat) (v : β) : Nat → β := fun i => if i = g then v else V i
theorem putF_at {β : Type} (V : Nat → β) (g : Nat) (v : β) : putF V g v g = v := by simp [putF]
theorem putF_ne {β : Type} (V : Nat → β) {g h : Nat} (v : β) (hn : h ≠ g) : putF V g v h = V h := by simp [putF, hn]
theorem putF_put {β : Type} (V : Nat → β) (g : Nat) (v v' : β) : putF (putF V g v) g v' = putF V g v' := by
  funext i
  simp only [putF]
  split <;> rfl
theorem putF_same {β : Type} (V : Nat → β) (g : Nat) : putF V g (V g) = V := by
  funext i
  simp only [putF]
  split
  · rename_i h; rw [h]
  · rfl
/-- The lines' block: eight lines, the row's slice, the last 'since', whether it was made. -/
def vcBlk (s : Nat → vcLn) (now : Nat) (v : Value) : Array Value :=
  (lnC (s 0) ++ (lnC (s 1) ++ (lnC (s 2) ++ (lnC (s 3) ++ (lnC (s 4) ++ (lnC (s 5) ++ (lnC (s 6) ++ (lnC (s 7) ++ (v :: .int .i64 now :: .bool true :: []))))))))).toArray
theorem eight {p : Nat → Prop} (h0 : p 0) (h1 : p 1) (h2 : p 2) (h3 : p 3) (h4 : p 4) (h5 : p 5) (h6 : p 6) (h7 : p 7) : ∀ i, i < 8 → p i := by
  intro i hi
  rcases (by omega : i = 0 ∨ i = 1 ∨ i = 2 ∨ i = 3 ∨ i = 4 ∨ i = 5 ∨ i = 6 ∨ i = 7) with rfl | rfl | rfl | rfl | rfl | rfl | rfl | rfl <;> assumption
section
variable (s : Nat → vcLn) (now : Nat) (v : Value)
theorem vcBlk_wt : ∀ i, i < 8 → (vcBlk s now v)[i * 4]? = some (.bool (s i).wt) := by apply eight <;> rfl
theorem vcBlk_mk : ∀ i, i < 8 → (vcBlk s now v)[i * 4 + 1]? = some (.bool (s i).ms) := by apply eight <;> rfl
theorem vcBlk_pr : ∀ i, i < 8 → (vcBlk s now v)[i * 4 + 2]? = some (.int .i64 (s i).pr) := by apply eight <;> rfl
theorem vcBlk_sn : ∀ i, i < 8 → (vcBlk s now v)[i * 4 + 3]? = some (.int .i64 (s i).sn) := by apply eight <;> rfl
theorem vcBlk_now : (vcBlk s now v)[33]? = some (.int .i64 now) := rfl
theorem vcBlk_made : (vcBlk s now v)[34]? = some (.bool true) := rfl
theorem vcBlk_ok : BlkOk (vcBlk s now) 32 := ⟨fun _ => rfl, fun _ _ => rfl⟩
theorem vcBlk_setWt (c : Bool) : ∀ i, i < 8 → (vcBlk s now v).setIfInBounds (i * 4) (.bool c) = vcBlk (putF s i { s i with wt := c }) now v := by apply eight <;> rfl
theorem vcBlk_setMk (c : Bool) : ∀ i, i < 8 → (vcBlk s now v).setIfInBounds (i * 4 + 1) (.bool c) = vcBlk (putF s i { s i with ms := c }) now v := by apply eight <;> rfl
theorem vcBlk_setPr (c : Int) : ∀ i, i < 8 → (vcBlk s now v).setIfInBounds (i * 4 + 2) (.int .i64 c) = vcBlk (putF s i { s i with pr := c }) now v := by apply eight <;> rfl
theorem vcBlk_setSn (c : Int) : ∀ i, i < 8 → (vcBlk s now v).setIfInBounds (i * 4 + 3) (.int .i64 c) = vcBlk (putF s i { s i with sn := c }) now v := by apply eight <;> rfl
theorem vcBlk_setNow (m : Nat) : (vcBlk s now v).setIfInBounds 33 (.int .i64 m) = vcBlk s m v := rfl
end

/-- A line as it stands in the row; none: it is not there. -/
def isAct (x : vcLn) : Bool := x.wt && !x.ms
def itOf (s : Nat → vcLn) (i : Nat) : vcIt := ⟨i, (s i).pr, (s i).sn⟩
def actOf (s : Nat → vcLn) (i : Nat) : Option vcIt := if isAct (s i) = true then some (itOf s i) else none
def itemsIn (is : List Nat) (s : Nat → vcLn) : List vcIt := is.filterMap (actOf s)
abbrev itemsOf (s : Nat → vcLn) : List vcIt := itemsIn (List.range 8) s
def notLn (n : Nat) (y : vcIt) : Bool := !decide (y.ln = (n : Int))
theorem notLn_true {n : Nat} {y : vcIt} (h : y.ln ≠ (n : Int)) : notLn n y = true := by simp [notLn, h]
theorem itOf_ne {s : Nat → vcLn} {i n : Nat} (h : i ≠ n) : notLn n (itOf s i) = true := notLn_true (by show (i : Int) ≠ n; omega)
section
variable {s : Nat → vcLn} {is : List Nat} {n : Nat} {x : vcLn}
theorem mem_items {y : vcIt} : y ∈ itemsIn is s ↔ ∃ i ∈ is, isAct (s i) = true ∧ y = itOf s i := by
  unfold itemsIn
  rw [List.mem_filterMap]
  refine ⟨fun ⟨i, hi, h⟩ => ⟨i, hi, ?_⟩, fun ⟨i, hi, h, e⟩ => ⟨i, hi, by rw [actOf, if_pos h, e]⟩⟩
  unfold actOf at h
  split at h
  · rename_i ha
    cases h
    exact ⟨ha, rfl⟩
  · cases h
theorem items_congr {is : List Nat} {s s' : Nat → vcLn} (h : ∀ i ∈ is, s i = s' i) : itemsIn is s = itemsIn is s' := by
  induction is with
  | nil => rfl
  | cons i is ih =>
    have h1 : actOf s i = actOf s' i := by simp [actOf, itOf, h i (List.mem_cons_self ..)]
    have h2 := ih fun k hk => h k (List.mem_cons_of_mem _ hk)
    unfold itemsIn at *
    rw [List.filterMap_cons, List.filterMap_cons, h1, h2]
theorem items_out {is : List Nat} {s : Nat → vcLn} (h : n ∉ is) : (itemsIn is s).filter (notLn n) = itemsIn is s := by
  rw [List.filter_eq_self]
  intro y hy
  obtain ⟨i, hi, _, rfl⟩ := mem_items.1 hy
  exact itOf_ne fun e => h (e ▸ hi)
theorem items_put {s : Nat → vcLn} : ∀ {is : List Nat}, n ∈ is → is.Nodup → (itemsIn is (putF s n x)).Perm ((actOf (putF s n x) n).toList ++ (itemsIn is s).filter (notLn n))
  | [], h, _ => by cases h
  | i :: is, h, hn => by
    have hn2 := List.nodup_cons.1 hn
    by_cases e : i = n
    · subst e
      have h1 : itemsIn is (putF s i x) = itemsIn is s := items_congr fun k hk => putF_ne _ _ (fun e => hn2.1 (e ▸ hk))
      have h2 : (itemsIn (i :: is) s).filter (notLn i) = itemsIn is s := by
        have := items_out (s := s) hn2.1
        unfold itemsIn at *
        rw [List.filterMap_cons]
        cases ha : actOf s i with
        | none => exact this
        | some y =>
          have hy : notLn i y = false := by
            unfold actOf at ha
            split at ha
            · cases ha
              simp [notLn, itOf]
            · cases ha
          simp only [List.filter_cons, hy]
          exact this
      rw [h2]
      unfold itemsIn at *
      rw [List.filterMap_cons]
      cases ha : actOf (putF s i x) i with
      | none => simp only [Option.toList_none, List.nil_append]; rw [h1]
      | some y => simp only [Option.toList_some, List.singleton_append]; rw [h1]
    · have hm : n ∈ is := by
        rcases List.mem_cons.1 h with h | h
        · exact absurd h.symm e
        · exact h
      have ih := items_put (s := s) hm hn2.2
      have ha : actOf (putF s n x) i = actOf s i := by simp [actOf, itOf, putF_ne _ _ e]
      unfold itemsIn at *
      rw [List.filterMap_cons, List.filterMap_cons, ha]
      cases hs : actOf s i with
      | none => exact ih
      | some y =>
        have hy : notLn n y = true := by
          unfold actOf at hs
          split at hs
          · cases hs
            exact itOf_ne e
          · cases hs
        simp only [List.filter_cons, hy, if_true]
        exact (List.Perm.cons y ih).trans List.perm_middle.symm
theorem items_nodup (hn : is.Nodup) : ((itemsIn is s).map vcIt.ln).Nodup := by
  induction is with
  | nil => exact List.nodup_nil
  | cons i is ih =>
    have hn2 := List.nodup_cons.1 hn
    have h1 := ih hn2.2
    unfold itemsIn at *
    rw [List.filterMap_cons]
    cases ha : actOf s i with
    | none => exact h1
    | some y =>
      have hy : y = itOf s i := by
        unfold actOf at ha
        split at ha
        · cases ha; rfl
        · cases ha
      subst hy
      rw [List.map_cons, List.nodup_cons]
      refine ⟨fun hm => ?_, h1⟩
      obtain ⟨z, hz, e⟩ := List.mem_map.1 hm
      obtain ⟨k, hk, _, rfl⟩ := mem_items.1 (show z ∈ itemsIn is s from hz)
      simp only [itOf] at e
      have : k = i := by omega
      exact hn2.1 (this ▸ hk)
theorem items_length : (itemsIn is s).length ≤ is.length := List.length_filterMap_le ..
end
theorem perm_ln {l l' : List vcIt} (h : l.Perm l') (hn : (l'.map vcIt.ln).Nodup) : (l.map vcIt.ln).Nodup := (h.map _).nodup_iff.2 hn
/-- What is left when the one of line n goes. -/
theorem perm_gone {l l' : List vcIt} {y : vcIt} {n : Nat} (hp : (y :: l').Perm l) (hy : y.ln = (n : Int)) (hn : (l.map vcIt.ln).Nodup) : l'.Perm (l.filter (notLn n)) := by
  have h1 := (perm_ln hp hn)
  rw [List.map_cons, List.nodup_cons] at h1
  have h2 := hp.filter (notLn n)
  rw [List.filter_cons, if_neg (by simp [notLn, hy]), List.filter_eq_self.2 (fun z hz => ?_)] at h2
  · exact h2
  · refine notLn_true fun e => ?_
    exact h1.1 (List.mem_map.2 ⟨z, hz, by rw [e, hy]⟩)
end Go.Proofs.Ytddngfhiaolkeaa
