/- Texts of this proof in one: Str, FrP, Pl, Pm, Reg8, Pn, Pq, Pt, R07, R07n, R07m, R07t. -/
import Derived.Test.YtklgfnboadchmaaMrgB

section
/- Strings of bytes. -/
namespace Go.Proofs.Ytklgfnboadchmaa
open Go.ChangeShapes Go.WideShapes Go.ChangeAt Go.RowKit
set_option linter.unusedVariables false
set_option maxRecDepth 20000

/-- A string of these bytes. -/
def strF (f : Nat → Int) (n : Nat) : ByteArray := strOfNums ((List.range n).map f)
theorem strF_congr {f g : Nat → Int} {n : Nat} (h : ∀ i, i < n → f i = g i) : strF f n = strF g n := by
  unfold strF
  rw [List.map_congr_left (fun i hi => h i (by simpa using hi))]
theorem conv_bytes {w : World} {b o n : Nat} {f : Nat → Int} (h : BAt w b o n f) (c : Nat) : (convert 45 9 (.slice (some ⟨b, o, none⟩) n c)).run Try.prog w = .ok (.string (strF f n)) w :=
  run_convert_bytes_arg (P := Try.prog) w 45 5 Try.underlying45 Try.underlying5 b o n c ((List.range n).map f) (by simp) (fun i hi => by rw [h.2.1 i hi]; simp [List.getD, hi]) 9 Try.underlying9
theorem conv_nil (w : World) : (convert 45 9 (.slice none 0 0)).run Try.prog w = .ok (.string ByteArray.empty) w :=
  run_convert_bytes_nil (P := Try.prog) w 45 5 Try.underlying45 Try.underlying5 0 0 9 Try.underlying9
theorem conv_src {w : World} {p : Option Addr} {n : Nat} {f : Nat → Int} (h : SrcAt w p n f) (c : Nat) : (convert 45 9 (.slice p n c)).run Try.prog w = .ok (.string (strF f n)) w := by
  by_cases hn : 1 ≤ n
  · obtain ⟨b, o, rfl, hb⟩ := h.2.2 hn
    exact conv_bytes hb c
  · obtain rfl : n = 0 := by omega
    rw [run_convert_bytes_string w 45 9 5 _ 0 c Try.underlying45 Try.underlying5 Try.underlying9]
    cases p <;> simp [Conv.bytesToString, loadCells]
    all_goals rfl

theorem src_of_ok {w : World} {p : Option Addr} {n c : Nat} {f0 : Nat → List Value} (h : SliceOk [some .u8] w p n c f0) : ∃ f, SrcAt w p n f := by
  have hp : p = none → n = 0 := fun e => by have h1 := h.1; have h2 := h.2.2.1 e; omega
  by_cases hn : 1 ≤ n
  · obtain ⟨b, o, _, rfl, hb, _⟩ := h.int1 (i := 0) (by omega)
    obtain ⟨f, hf⟩ := Deep.choose_lt (α := Int) (n := n) (p := fun i x => (0 ≤ x ∧ x ≤ 255) ∧ w.cell? ⟨b, o + i, none⟩ = some (.int .u8 x)) (fun i hi => by
      obtain ⟨b', o', x, ha, _, _, hw, hc⟩ := h.int1 hi
      simp only [Option.some.injEq, Addr.mk.injEq, and_true] at ha
      obtain ⟨rfl, rfl⟩ := ha
      exact ⟨x, bounds_u8 hw, hc⟩)
    refine ⟨fun i => if i < n then f i else 0, hp, fun i => ?_, fun _ => ⟨b, o, rfl, hb, fun i hi => ?_, fun i => ?_⟩⟩
    · dsimp only
      split
      · rename_i hi; exact (hf i hi).1
      · simp
    · simp only [if_pos hi]; exact (hf i hi).2
    · dsimp only
      split
      · rename_i hi; exact (hf i hi).1
      · simp
  · exact ⟨fun _ => 0, hp, fun _ => by simp, fun h => absurd h hn⟩
end Go.Proofs.Ytklgfnboadchmaa
end

section
/- Contracts of both stores of frames at any arguments. -/
namespace Go.Proofs.Ytklgfnboadchmaa
open Go.ChangeShapes Go.WideShapes Go.ChangeAt Go.RowKit
set_option linter.unusedVariables false
set_option maxRecDepth 20000

/-- There is such a frame. -/
def fin (n : Nat) (f : Int) : Prop := 0 ≤ f ∧ f < n
instance (n : Nat) (f : Int) : Decidable (fin n f) := inferInstanceAs (Decidable (_ ∧ _))
def svE (n : Nat) (f o k : Int) : Int := if fin n f ∧ inP 64 o k then 0 else 1
def svG (n : Nat) (G : Nat → Int) (f o k v : Int) : Nat → Int := if fin n f ∧ inP 64 o k then putF G (f.toNat * 64 + o.toNat) k.toNat v else G
def ldV (n : Nat) (G : Nat → Int) (f o k : Int) : Int := if fin n f ∧ inP 64 o k then getV (fr G f.toNat) o.toNat k.toNat else 0
def clE (n : Nat) (f : Int) : Int := if fin n f then 0 else 1
def clG (n : Nat) (G : Nat → Int) (f : Int) : Nat → Int := if fin n f then putF G (f.toNat * 64) 64 0 else G
def byN (n : Nat) (f : Int) : Nat := if fin n f then 64 else 0
def clB (n : Nat) (G : Nat → Int) (f : Int) : Bool := if fin n f then cleanB (fr G f.toNat) else false
theorem fin.nat {n : Nat} {f : Int} (h : fin n f) : ∃ k : Nat, f = k ∧ k < n := ⟨f.toNat, by have := h.1; omega, by have := h.2; have := h.1; omega⟩
theorem fin.out {n : Nat} {f : Int} (h : ¬ fin n f) : f < 0 ∨ (n : Int) ≤ f := by unfold fin at h; omega
theorem byt_svG {G : Nat → Int} (h : Byt G) (n : Nat) (f o k v : Int) : Byt (svG n G f o k v) := by
  unfold svG
  split
  · exact putF_byt h _ _ _
  · exact h

theorem fsave_any (s fb n : Nat) (f o k v : Int) (G : Nat → Int) (w : World) (h : StoAt w s fb n G) (hk : (Lit.int .i64 k).wf = true) (h0 : 0 ≤ v) (h1 : v ≤ 4294967295) :
    Calls Try.prog 24 #[.pointer (some ⟨s, 0, none⟩), .int .i64 f, .int .i64 o, .int .i64 k, .int .u32 v] w fun e w' => e = .returned (.int .i64 (svE n f o k)) ∧ Upd fb w w' ∧ StoAt w' s fb n (svG n G f o k v) := by
  by_cases hf : fin n f
  · obtain ⟨F, rfl, hlt⟩ := hf.nat
    by_cases hp : inP 64 o k
    · obtain ⟨a, m, rfl, rfl, hm, ha⟩ := hp.nat
      refine (save_in s fb n F a m v G w h hlt hm ha h0 h1).mono ?_
      rintro e w' ⟨rfl, hu, hs⟩
      exact ⟨by rw [svE, if_pos ⟨hf, hp⟩], hu, by rw [svG, if_pos ⟨hf, hp⟩]; exact hs⟩
    · refine (save_out s fb n F o k v G w h hlt hp hk).mono ?_
      rintro e w' ⟨rfl, hb⟩
      exact ⟨by rw [svE, if_neg (fun x => hp x.2)], .of_below hb, by rw [svG, if_neg (fun x => hp x.2)]; exact h.below hb⟩
  · refine (save_bad _ f o k v 1 w (h.bad (fin.out hf))).mono ?_
    rintro e w' ⟨rfl, hb⟩
    exact ⟨by rw [svE, if_neg (fun x => hf x.1)], .of_below hb, by rw [svG, if_neg (fun x => hf x.1)]; exact h.below hb⟩
theorem rsave_any (t rb n : Nat) (f o k v : Int) (G : Nat → Int) (w : World) (h : RStoAt w t rb n G) (hw : (Lit.int .i64 f).wf = true) (hk : (Lit.int .i64 k).wf = true) (h0 : 0 ≤ v) (h1 : v ≤ 4294967295) :
    Calls Try.prog 50 #[.pointer (some ⟨t, 0, none⟩), .int .i64 f, .int .i64 o, .int .i64 k, .int .u32 v] w fun e w' => e = .returned (.int .i64 (svE n f o k)) ∧ Upd rb w w' ∧ RStoAt w' t rb n (svG n G f o k v) := by
  by_cases hf : fin n f
  · obtain ⟨F, rfl, hlt⟩ := hf.nat
    by_cases hp : inP 64 o k
    · obtain ⟨a, m, rfl, rfl, hm, ha⟩ := hp.nat
      refine (rsave_in t rb n F a m v G w h hlt hm ha h0 h1).mono ?_
      rintro e w' ⟨rfl, hu, hs⟩
      exact ⟨by rw [svE, if_pos ⟨hf, hp⟩], hu, by rw [svG, if_pos ⟨hf, hp⟩]; exact hs⟩
    · refine (rsave_out t rb n F o k v G w h hlt hp hk).mono ?_
      rintro e w' ⟨rfl, rfl⟩
      exact ⟨by rw [svE, if_neg (fun x => hp x.2)], Upd.refl _ _, by rw [svG, if_neg (fun x => hp x.2)]; exact h⟩
  · refine (rsave_no t rb n f o k v G w h hw (fin.out hf)).mono ?_
    rintro e w' ⟨rfl, rfl⟩
    exact ⟨by rw [svE, if_neg (fun x => hf x.1)], Upd.refl _ _, by rw [svG, if_neg (fun x => hf x.1)]; exact h⟩

theorem fload_any (s fb n : Nat) (f o k : Int) (G : Nat → Int) (w : World) (h : StoAt w s fb n G) (hk : (Lit.int .i64 k).wf = true) :
    Calls Try.prog 22 #[.pointer (some ⟨s, 0, none⟩), .int .i64 f, .int .i64 o, .int .i64 k] w fun e w' => e = .returned (.tuple #[.int .u32 (ldV n G f o k), .int .i64 (svE n f o k)]) ∧ Below w.heap.size w w' := by
  by_cases hf : fin n f
  · obtain ⟨F, rfl, hlt⟩ := hf.nat
    by_cases hp : inP 64 o k
    · obtain ⟨a, m, rfl, rfl, hm, ha⟩ := hp.nat
      refine (load_in s fb n F a m G w h hlt hm ha).mono ?_
      rintro e w' ⟨rfl, hb⟩
      exact ⟨by rw [svE, ldV, if_pos ⟨hf, hp⟩, if_pos ⟨hf, hp⟩]; rfl, hb⟩
    · refine (load_out s fb n F o k G w h hlt hp hk).mono ?_
      rintro e w' ⟨rfl, hb⟩
      exact ⟨by rw [svE, ldV, if_neg (fun x => hp x.2), if_neg (fun x => hp x.2)], hb⟩
  · refine (load_bad _ f o k 1 w (h.bad (fin.out hf))).mono ?_
    rintro e w' ⟨rfl, hb⟩
    exact ⟨by rw [svE, ldV, if_neg (fun x => hf x.1), if_neg (fun x => hf x.1)], hb⟩
theorem fclear_any (s fb n : Nat) (f : Int) (G : Nat → Int) (w : World) (h : StoAt w s fb n G) :
    Calls Try.prog 70 #[.pointer (some ⟨s, 0, none⟩), .int .i64 f] w fun e w' => e = .returned (.int .i64 (clE n f)) ∧ Upd fb w w' ∧ StoAt w' s fb n (clG n G f) := by
  by_cases hf : fin n f
  · obtain ⟨F, rfl, hlt⟩ := hf.nat
    refine (clear_in s fb n F G w h hlt).mono ?_
    rintro e w' ⟨rfl, hu, hs⟩
    exact ⟨by rw [clE, if_pos hf], hu, by rw [clG, if_pos hf]; exact hs⟩
  · refine (clear_bad _ f 1 w (h.bad (fin.out hf))).mono ?_
    rintro e w' ⟨rfl, hb⟩
    exact ⟨by rw [clE, if_neg hf], .of_below hb, by rw [clG, if_neg hf]; exact h.below hb⟩
theorem rclear_any (t rb n : Nat) (f : Int) (G : Nat → Int) (w : World) (h : RStoAt w t rb n G) (hw : (Lit.int .i64 f).wf = true) :
    Calls Try.prog 60 #[.pointer (some ⟨t, 0, none⟩), .int .i64 f] w fun e w' => e = .returned (.int .i64 (clE n f)) ∧ Upd rb w w' ∧ RStoAt w' t rb n (clG n G f) := by
  by_cases hf : fin n f
  · obtain ⟨F, rfl, hlt⟩ := hf.nat
    refine (rclear_in t rb n F G w h hlt).mono ?_
    rintro e w' ⟨rfl, hu, hs⟩
    exact ⟨by rw [clE, if_pos hf], hu, by rw [clG, if_pos hf]; exact hs⟩
  · refine (rclear_no t rb n f G w h hw (fin.out hf)).mono ?_
    rintro e w' ⟨rfl, rfl⟩
    exact ⟨by rw [clE, if_neg hf], Upd.refl _ _, by rw [clG, if_neg hf]; exact h⟩

theorem fbytes_any (s fb n : Nat) (f : Int) (G : Nat → Int) (w : World) (h : StoAt w s fb n G) :
    Calls Try.prog 18 #[.pointer (some ⟨s, 0, none⟩), .int .i64 f] w fun e w' => ∃ p c, e = .returned (.tuple #[.slice p (byN n f) c, .int .i64 (clE n f)]) ∧ SrcAt w' p (byN n f) (fr G f.toNat) ∧ Below w.heap.size w w' := by
  have hG := h.2.2.2
  by_cases hf : fin n f
  · obtain ⟨F, rfl, hlt⟩ := hf.nat
    refine (fbytes_in s fb n F G w h hlt).mono ?_
    rintro e w' ⟨g, rfl, _, hr, hb⟩
    exact ⟨_, _, by rw [byN, clE, if_pos hf, if_pos hf], by rw [byN, if_pos hf]; exact hr.bat.src, hb⟩
  · refine (bytes_bad _ f 1 w (h.bad (fin.out hf))).mono ?_
    rintro e w' ⟨rfl, hb⟩
    exact ⟨none, 0, by rw [byN, clE, if_neg hf, if_neg hf], by rw [byN, if_neg hf]; exact ⟨fun _ => rfl, fr_byt hG _, fun h => absurd h (by omega)⟩, hb⟩
theorem fclean_any (s fb n : Nat) (f : Int) (G : Nat → Int) (w : World) (h : StoAt w s fb n G) :
    Calls Try.prog 25 #[.pointer (some ⟨s, 0, none⟩), .int .i64 f] w fun e w' => e = .returned (.bool (clB n G f)) ∧ Below w.heap.size w w' := by
  by_cases hf : fin n f
  · obtain ⟨F, rfl, hlt⟩ := hf.nat
    refine (clean_in s fb n F G w h hlt).mono ?_
    rintro e w' ⟨rfl, hb⟩
    exact ⟨by rw [clB, if_pos hf]; rfl, hb⟩
  · refine (clean_bad _ f 1 w (h.bad (fin.out hf))).mono ?_
    rintro e w' ⟨rfl, hb⟩
    exact ⟨by rw [clB, if_neg hf], hb⟩
end Go.Proofs.Ytklgfnboadchmaa
end

section
/- The pool: where it lies; the plain laws of what is left. -/
namespace Go.Proofs.Ytklgfnboadchmaa
open Go.ChangeShapes Go.WideShapes Go.ChangeAt Go.RowKit
set_option linter.unusedVariables false
set_option maxRecDepth 20000

/-- A frame's state. -/
structure stIt where
  who : Int
  tk : Bool
deriving Inhabited
def stEnc (x : stIt) : List Value := [.int .i64 x.who, .bool x.tk]
theorem stEnc_length (x : stIt) : (stEnc x).length = 2 := rfl
def setV {β : Type} (V : Nat → β) (g : Nat) (v : β) : Nat → β := fun i => if i = g then v else V i
theorem setV_at {β : Type} (V : Nat → β) (g : Nat) (v : β) : setV V g v g = v := by simp [setV]
theorem setV_ne {β : Type} (V : Nat → β) {g h : Nat} (v : β) (hn : h ≠ g) : setV V g v h = V h := by simp [setV, hn]
theorem setV_same {β : Type} (V : Nat → β) (g : Nat) : setV V g (V g) = V := by
  funext i
  simp only [setV]
  split
  · rename_i h; rw [h]
  · rfl
theorem setV_put {β : Type} (V : Nat → β) (g : Nat) (v v' : β) : setV (setV V g v) g v' = setV V g v' := by
  funext i
  simp only [setV]
  split <;> rfl
/-- The pool's block: the store, the frames' states, sixteen rows' slices. -/
def plBlk (sp st : Value) (V : Nat → Value) : Array Value := #[sp, st, V 0, V 1, V 2, V 3, V 4, V 5, V 6, V 7, V 8, V 9, V 10, V 11, V 12, V 13, V 14, V 15]
theorem plBlk_ok (sp st : Value) (V : Nat → Value) {g : Nat} (hg : g < 16) : BlkOk (fun v => plBlk sp st (setV V g v)) (2 + g) := by
  rcases (by omega : g = 0 ∨ g = 1 ∨ g = 2 ∨ g = 3 ∨ g = 4 ∨ g = 5 ∨ g = 6 ∨ g = 7 ∨ g = 8 ∨ g = 9 ∨ g = 10 ∨ g = 11 ∨ g = 12 ∨ g = 13 ∨ g = 14 ∨ g = 15) with rfl | rfl | rfl | rfl | rfl | rfl | rfl | rfl | rfl | rfl | rfl | rfl | rfl | rfl | rfl | rfl <;> exact ⟨fun _ => by simp [plBlk, setV], fun _ _ => by simp [plBlk, setV]⟩
theorem plBlk_st (sp : Value) (V : Nat → Value) : BlkOk (fun v => plBlk sp v V) 1 := ⟨fun _ => rfl, fun _ _ => rfl⟩
theorem plBlk_at (sp st : Value) (V : Nat → Value) {g : Nat} (hg : g < 16) : (plBlk sp st V)[2 + g]? = some (V g) := by
  rcases (by omega : g = 0 ∨ g = 1 ∨ g = 2 ∨ g = 3 ∨ g = 4 ∨ g = 5 ∨ g = 6 ∨ g = 7 ∨ g = 8 ∨ g = 9 ∨ g = 10 ∨ g = 11 ∨ g = 12 ∨ g = 13 ∨ g = 14 ∨ g = 15) with rfl | rfl | rfl | rfl | rfl | rfl | rfl | rfl | rfl | rfl | rfl | rfl | rfl | rfl | rfl | rfl <;> rfl

theorem fm_congr {α β : Type} {f g : α → Option β} : ∀ {l : List α}, (∀ x ∈ l, f x = g x) → l.filterMap f = l.filterMap g
  | [], _ => rfl
  | x :: l, h => by
    rw [List.filterMap_cons, List.filterMap_cons, h x (List.mem_cons_self ..), fm_congr fun y hy => h y (List.mem_cons_of_mem _ hy)]
/-- What is left to a partition. -/
def lfOf (S : List stIt) (q : Nat) (k : Nat) : Option plIt := if (atL S k).who = (q : Int) ∧ (atL S k).tk = false then some ⟨k⟩ else none
def leftL (S : List stIt) (q : Nat) : List plIt := (List.range S.length).filterMap (lfOf S q)
section
variable {S : List stIt} {q f : Nat} {x : stIt}
theorem atL_setS {α : Type} [Inhabited α] {l : List α} {g q : Nat} {v : α} (hg : g < l.length) : atL (l.set g v) q = if q = g then v else atL l q := by
  unfold atL List.getD
  by_cases e : q = g
  · subst e; rw [List.getElem?_set_self hg, if_pos rfl]; rfl
  · rw [List.getElem?_set_ne (Ne.symm e), if_neg e]
theorem mem_leftL {y : plIt} : y ∈ leftL S q ↔ ∃ k, k < S.length ∧ (atL S k).who = (q : Int) ∧ (atL S k).tk = false ∧ y = ⟨k⟩ := by
  unfold leftL
  rw [List.mem_filterMap]
  constructor
  · rintro ⟨k, hk, h⟩
    unfold lfOf at h
    split at h
    · rename_i hc
      cases h
      exact ⟨k, List.mem_range.1 hk, hc.1, hc.2, rfl⟩
    · cases h
  · rintro ⟨k, hk, h1, h2, rfl⟩
    exact ⟨k, List.mem_range.2 hk, by unfold lfOf; rw [if_pos ⟨h1, h2⟩]⟩
theorem left_split (hf : f < S.length) : (leftL S q).Perm ((lfOf S q f).toList ++ ((List.range S.length).erase f).filterMap (lfOf S q)) := by
  have hp := (List.perm_cons_erase (List.mem_range.2 hf)).filterMap (lfOf S q)
  refine hp.trans ?_
  rw [List.filterMap_cons]
  cases lfOf S q f with
  | none => exact List.Perm.refl _
  | some y => exact List.Perm.refl _
theorem rest_set (hf : f < S.length) : ((List.range (S.set f x).length).erase f).filterMap (lfOf (S.set f x) q) = ((List.range S.length).erase f).filterMap (lfOf S q) := by
  rw [List.length_set]
  refine fm_congr fun k hk => ?_
  have hne : k ≠ f := fun e => by subst e; exact (List.nodup_range.not_mem_erase) hk
  unfold lfOf
  rw [atL_setS hf, if_neg hne]
theorem left_set (hf : f < S.length) : (leftL (S.set f x) q).Perm ((if x.who = (q : Int) ∧ x.tk = false then [(⟨f⟩ : plIt)] else []) ++ ((List.range S.length).erase f).filterMap (lfOf S q)) := by
  have := left_split (S := S.set f x) (q := q) (f := f) (by rw [List.length_set]; exact hf)
  rw [rest_set hf] at this
  unfold lfOf at this
  rw [atL_setS hf, if_pos rfl] at this
  refine this.trans (List.Perm.append_right _ ?_)
  split <;> exact List.Perm.refl _
/-- Where neither counts, nothing changes. -/
theorem left_same {y : stIt} (hf : f < S.length) (h : (x.who = (q : Int) ∧ x.tk = false) ↔ (y.who = (q : Int) ∧ y.tk = false)) : (leftL (S.set f x) q).Perm (leftL (S.set f y) q) := by
  refine (left_set hf).trans (List.Perm.trans ?_ (left_set hf).symm)
  by_cases hx : x.who = (q : Int) ∧ x.tk = false
  · rw [if_pos hx, if_pos (h.1 hx)]
  · rw [if_neg hx, if_neg (fun hy => hx (h.2 hy))]
theorem set_self (hf : f < S.length) : S.set f (atL S f) = S := by
  rw [atL_eq hf]
  exact List.set_getElem_self hf
theorem left_le : (leftL S q).length ≤ S.length := by
  have := List.length_filterMap_le (lfOf S q) (List.range S.length)
  simpa [leftL] using this
end
end Go.Proofs.Ytklgfnboadchmaa
end

section
/- The pool: what stays where one of its parts is worked on. -/
namespace Go.Proofs.Ytklgfnboadchmaa
open Go.ChangeShapes Go.WideShapes Go.ChangeAt Go.RowKit
set_option linter.unusedVariables false
set_option maxRecDepth 20000

/-- The pool in block b, over the store s. -/
structure PlIn (w : World) (b s fb n : Nat) (G : Nat → Int) (V : Nat → Value) (L : Nat → List plIt) (st : Value) (S : List stIt) : Prop where
  blk : w.heap[b]? = some (.cells (plBlk (.pointer (some ⟨s, 0, none⟩)) st V) 92 (0, 0))
  rows : ∀ g, g < 16 → w.ownsRow (b + 1) 3 1 (V g) (L g).length ((L g).flatMap plEnc)
  heap : ∀ g, g < 16 → HeapN plLt (L g) (L g).length
  apart : ∀ g h, g < 16 → h < 16 → g ≠ h → ∀ a, (V g).ownBlock = some a → (V h).ownBlock ≠ some a
  seats : w.ownsRow (b + 1) 103 2 st S.length (S.flatMap stEnc)
  len : S.length = n
  sto : StoAt w s fb n G
  who : ∀ f, f < n → (atL S f).who = -1 ∧ (atL S f).tk = false ∨ ∃ g : Nat, g < 16 ∧ (atL S f).who = g
structure PlAt (w : World) (b s fb n : Nat) (G : Nat → Int) (V : Nat → Value) (L : Nat → List plIt) (st : Value) (S : List stIt) : Prop extends PlIn w b s fb n G V L st S where
  perm : ∀ g, g < 16 → (L g).Perm (leftL S g)
  pos : 0 < n

/-- The blocks that a call on the pool may touch. -/
def tch (b fb : Nat) (v st : Value) (i : Nat) : Prop := i = b ∨ i = fb ∨ some i = v.ownBlock ∨ some i = st.ownBlock
structure Frs (p : Nat → Prop) (w w' : World) : Prop where
  os : w'.os = w.os
  tape : w'.tape = w.tape
  output : w'.output = w.output
  size : w.heap.size ≤ w'.heap.size
  block : ∀ i, i < w.heap.size → ¬ p i → w'.heap[i]? = w.heap[i]?
theorem Frs.of_below {p : Nat → Prop} {w w' : World} (h : Below w.heap.size w w') : Frs p w w' := ⟨h.os, h.tape, h.output, h.size, fun i hi _ => h.block i hi⟩
theorem Frs.refl (p : Nat → Prop) (w : World) : Frs p w w := ⟨rfl, rfl, rfl, Nat.le_refl _, fun _ _ _ => rfl⟩
theorem Frs.trans {p : Nat → Prop} {a c d : World} (h : Frs p a c) (k : Frs p c d) : Frs p a d := ⟨k.os.trans h.os, k.tape.trans h.tape, k.output.trans h.output, Nat.le_trans h.size k.size, fun i hi hp => (k.block i (Nat.lt_of_lt_of_le hi h.size) hp).trans (h.block i hi hp)⟩
theorem Frs.of_upd {p : Nat → Prop} {c : Nat} {w w' : World} (h : Upd c w w') (hc : p c) : Frs p w w' := ⟨h.os, h.tape, h.output, h.size, fun i hi hp => h.block i hi (by rintro ⟨⟩; exact hp hc)⟩
theorem Frs.of_frm {p : Nat → Prop} {b : Nat} {v v' : Value} {w w' : World} (h : Frm b v v' w w') (hb : p b) (hv : ∀ i, some i = v.ownBlock → p i) : Frs p w w' :=
  ⟨h.os, h.tape, h.output, h.size, fun i hi hp => h.block i hi (fun e => hp (e ▸ hb)) (fun e => hp (hv i e))⟩
theorem Frs.bel {p : Nat → Prop} {B : Nat} {a w w' : World} (f : Frs p w w') (h : Bel B a w) (hp : ∀ i, p i → B ≤ i) : Bel B a w' :=
  ⟨h.1.trans ⟨f.os, f.tape, f.output, f.size, fun k hk => f.block k (Nat.lt_of_lt_of_le hk h.2) (fun e => by have := hp k e; omega)⟩, Nat.le_trans h.2 f.size⟩
section
variable {w w' : World} {b s fb n : Nat} {G : Nat → Int} {V : Nat → Value} {L : Nat → List plIt} {st : Value} {S : List stIt}
theorem PlIn.lt (h : PlIn w b s fb n G V L st S) : b < w.heap.size := lt_heap h.blk
theorem PlIn.row (h : PlIn w b s fb n G V L st S) {g : Nat} (hg : g < 16) : plRow w b (fun v => plBlk (.pointer (some ⟨s, 0, none⟩)) st (setV V g v)) (V g) (L g) :=
  ⟨by show w.heap[b]? = some (.cells (plBlk _ st (setV V g (V g))) _ (0, 0)); rw [setV_same]; exact h.blk, h.rows g hg⟩
theorem PlIn.seatRow (h : PlIn w b s fb n G V L st S) : RowIn 103 2 stEnc w b 92 (fun v => plBlk (.pointer (some ⟨s, 0, none⟩)) v V) st S := ⟨h.blk, h.seats⟩
theorem PlIn.below (h : PlIn w b s fb n G V L st S) (hb : Below w.heap.size w w') : PlIn w' b s fb n G V L st S :=
  ⟨(hb.block b h.lt).trans h.blk, fun g hg => ownsRow_below (h.rows g hg) hb, h.heap, h.apart, ownsRow_below h.seats hb, h.len, h.sto.below hb, h.who⟩
theorem PlAt.below (h : PlAt w b s fb n G V L st S) (hb : Below w.heap.size w w') : PlAt w' b s fb n G V L st S := ⟨h.toPlIn.below hb, h.perm, h.pos⟩
theorem PlIn.cellS (h : PlIn w b s fb n G V L st S) : w.cell? ⟨b, 0, none⟩ = some (.pointer (some ⟨s, 0, none⟩)) := (cell_of_row _ _ _ _ _ _ h.blk).trans rfl
theorem PlIn.cellT (h : PlIn w b s fb n G V L st S) : w.cell? ⟨b, 1, none⟩ = some st := (cell_of_row _ _ _ _ _ _ h.blk).trans rfl
theorem PlIn.cellV (h : PlIn w b s fb n G V L st S) {g : Nat} (hg : g < 16) : w.cell? ⟨b, 2 + g, none⟩ = some (V g) := (cell_of_row _ _ _ _ _ _ h.blk).trans (plBlk_at _ _ _ hg)
/-- A frame's state, where it lies. -/
theorem PlIn.seat (h : PlIn w b s fb n G V L st S) {f : Nat} (hf : f < n) : ∃ g cap, st = .slice (some ⟨g, 0, none⟩) n cap ∧ n ≤ cap ∧ cap ≤ maxLen ∧ b < g ∧ g < w.heap.size ∧ w.cell? ⟨g, f * 2, none⟩ = some (.int .i64 (atL S f).who) ∧ w.cell? ⟨g, f * 2 + 1, none⟩ = some (.bool (atL S f).tk) ∧ ∀ x, w.frozen? ⟨g, x, none⟩ = false := by
  obtain ⟨g, cap, hv, h1, h2, h3, h4, hc, hf2⟩ := h.seatRow.item stEnc_length (i := f) (by rw [h.len]; exact hf)
  rw [h.len] at hv h1
  have c0 := hc f (by rw [h.len]; exact hf) 0 (by omega)
  have c1 := hc f (by rw [h.len]; exact hf) 1 (by omega)
  simp only [stEnc, List.getElem?_cons_zero, List.getElem?_cons_succ, Nat.add_zero] at c0 c1
  exact ⟨g, cap, hv, h1, h2, h3, h4, c0, c1, hf2⟩
theorem StoAt.frm {v v' : Value} {l : List plIt} {blk : Value → Array Value} (h : StoAt w s fb n G) (hr : plRow w b blk v l) (f : Frm b v v' w w') : StoAt w' s fb n G := by
  obtain ⟨h1, h2, ⟨cur, h3, h4⟩, h5⟩ := h
  exact ⟨h1, f.other hr h2 (by decide) (by decide), ⟨cur, f.other hr h3 (by decide) (by decide), h4⟩, h5⟩
/-- One partition's row was worked on. -/
theorem PlIn.put (h : PlIn w b s fb n G V L st S) {g : Nat} (hg : g < 16) {v' : Value} {l' : List plIt} (r : plRow w' b (fun v => plBlk (.pointer (some ⟨s, 0, none⟩)) st (setV V g v)) v' l') (hh : HeapN plLt l' l'.length) (f : Frm b (V g) v' w w') : PlIn w' b s fb n G (setV V g v') (setV L g l') st S := by
  refine ⟨r.1, fun k hk => ?_, fun k hk => ?_, fun k j hk hj hkj a ha => ?_, ownsRow_other f (h.row hg) h.seats (by decide) (by decide), h.len, h.sto.frm (h.row hg) f, h.who⟩
  · by_cases e : k = g
    · subst e; rw [setV_at, setV_at]; exact r.2
    · rw [setV_ne _ _ e, setV_ne _ _ e]
      exact ownsRow_frm (h.rows k hk) f (Nat.lt_succ_self _) (fun a ha => fun e2 => h.apart g k hg hk (Ne.symm e) a e2 ha)
  · by_cases e : k = g
    · subst e; rw [setV_at]; exact hh
    · rw [setV_ne _ _ e]; exact h.heap k hk
  · have own : ∀ j, j < 16 → j ≠ g → ∀ a, (V j).ownBlock = some a → v'.ownBlock ≠ some a := fun j hj hne a ha e => by
      rcases f.own with ho | ho
      · exact h.apart j g hj hg hne a ha (ho ▸ e)
      · have h1 := ho a e
        have h2 := ((h.rows j hj).lt a ha).2
        omega
    by_cases e : k = g
    · subst e
      rw [setV_at] at ha
      rw [setV_ne _ _ (Ne.symm hkj)]
      exact fun e2 => own j hj (Ne.symm hkj) a e2 ha
    · rw [setV_ne _ _ e] at ha
      by_cases e2 : j = g
      · subst e2; rw [setV_at]; exact own k hk e a ha
      · rw [setV_ne _ _ e2]; exact h.apart k j hk hj hkj a ha
/-- A frame's state was written. -/
theorem PlIn.seatSet (h : PlIn w b s fb n G V L st S) {f g cap j : Nat} (hf : f < n) (hv : st = .slice (some ⟨g, 0, none⟩) n cap) {x : stIt} {u : Value} (hj : j < 2) (hx : stEnc x = (stEnc (atL S f)).set j u)
    (hw : x.who = -1 ∧ x.tk = false ∨ ∃ g : Nat, g < 16 ∧ x.who = g) : PlIn (w.setCell ⟨g, f * 2 + j, none⟩ u) b s fb n G V L st (S.set f x) := by
  have hfS : f < S.length := by rw [h.len]; exact hf
  have hU : Upd g w (w.setCell ⟨g, f * 2 + j, none⟩ u) := (Upd.refl g w).setCell
  have hrow := h.seatRow
  obtain ⟨cur, hcur, hcells⟩ : ∃ cur : Array Value, w.heap[g]? = some (.cells cur 103 (0, 0)) ∧ ∀ k, k < S.length → ∀ j, j < 2 → cur[k * 2 + j]? = (stEnc (atL S k))[j]? := by
    rcases hrow.2.2 with ⟨h2, _⟩ | ⟨g', cap', cur, hv2, _, hh, _⟩
    · rw [hv] at h2; cases h2
    · rw [hv] at hv2
      simp only [Value.slice.injEq, Option.some.injEq, Addr.mk.injEq, and_true] at hv2
      obtain ⟨rfl, _, _⟩ := hv2
      refine ⟨cur, hh, fun k hk j hj => ?_⟩
      obtain ⟨gx, cx, hvx, _, _, _, _, hc, _⟩ := hrow.item stEnc_length hk
      rw [hv] at hvx
      simp only [Value.slice.injEq, Option.some.injEq, Addr.mk.injEq, and_true] at hvx
      obtain ⟨rfl, _, _⟩ := hvx
      rw [← cell_of_row _ _ _ _ _ _ hh]
      exact hc k hk j hj
  have hne : ∀ {i : Nat} {c : Array Value} {ty : TypeId} {fr : Nat × Nat}, w.heap[i]? = some (.cells c ty fr) → ty ≠ 103 → i ≠ g := fun hi ht => typ_ne hi hcur ht
  have hown : ∀ k, k < 16 → (V k).ownBlock ≠ some g := fun k hk e => by
    rcases (h.rows k hk).2 with ⟨hv2, _⟩ | ⟨gx, capx, curx, hv2, _, hh, _⟩
    · rw [hv2] at e; cases e
    · rw [hv2] at e
      simp only [Value.ownBlock, Option.some.injEq] at e
      exact hne hh (by decide) e
  have hw2 := hrow.wrote stEnc_length (g := g) (cap := cap) (by rw [h.len]; exact hv) hU (show (S.set f x).length = S.length from List.length_set ..) ⟨cur, _, hcur, heap_setCell_at hcur, by simp, fun k hk j' hj' => by
    have hsz : f * 2 + j < cur.size := by
      have := hcells f hfS j hj
      rw [List.getElem?_eq_getElem (by rw [stEnc_length]; exact hj)] at this
      exact (Array.getElem?_eq_some_iff.1 this).1
    rw [atL_setS hfS, Array.getElem?_setIfInBounds]
    by_cases e : f * 2 + j = k * 2 + j'
    · obtain ⟨rfl, rfl⟩ : f = k ∧ j = j' := by omega
      rw [if_pos rfl, if_pos hsz, if_pos rfl, hx, List.getElem?_set_self (by rw [stEnc_length]; exact hj)]
    · rw [if_neg e]
      by_cases e2 : k = f
      · subst e2
        rw [if_pos rfl, hx, List.getElem?_set_ne (by omega), hcells k hk j' hj']
      · rw [if_neg e2, hcells k hk j' hj']⟩
  obtain ⟨s1, s2, ⟨curf, s3, s4⟩, s5⟩ := h.sto
  refine ⟨hw2.1, fun k hk => ownsRow_upd (h.rows k hk) hU (hown k hk), h.heap, h.apart, hw2.2, by rw [List.length_set]; exact h.len, ⟨s1, heap_upd s2 hU (hne s2 (by decide)), ⟨curf, heap_upd s3 hU (hne s3 (by decide)), s4⟩, s5⟩, fun k hk => ?_⟩
  rw [atL_setS hfS]
  by_cases e : k = f
  · rw [if_pos e]; exact hw
  · rw [if_neg e]; exact h.who k hk
/-- A frame's bytes were written. -/
theorem PlIn.stored (h : PlIn w b s fb n G V L st S) {G' : Nat → Int} (hU : Upd fb w w') (hs : StoAt w' s fb n G') : PlIn w' b s fb n G' V L st S := by
  obtain ⟨s1, s2, ⟨curf, s3, s4⟩, s5⟩ := h.sto
  have hne : ∀ {i : Nat} {c : Array Value} {ty : TypeId} {fr : Nat × Nat}, w.heap[i]? = some (.cells c ty fr) → ty ≠ 101 → i ≠ fb := fun hi ht => typ_ne hi s3 ht
  have hown : ∀ {B size m : Nat} {e : TypeId} {u : Value} {xs : List Value}, w.ownsRow B e size u m xs → e ≠ 101 → u.ownBlock ≠ some fb := fun {B size m e u xs} ho he e2 => by
    rcases ho.2 with ⟨hv2, _⟩ | ⟨gx, capx, curx, hv2, _, hh, _⟩
    · rw [hv2] at e2; cases e2
    · rw [hv2] at e2
      simp only [Value.ownBlock, Option.some.injEq] at e2
      exact hne hh he e2
  exact ⟨heap_upd h.blk hU (hne h.blk (by decide)), fun k hk => ownsRow_upd (h.rows k hk) hU (hown (h.rows k hk) (by decide)), h.heap, h.apart, ownsRow_upd h.seats hU (hown h.seats (by decide)), h.len, hs, h.who⟩
end
end Go.Proofs.Ytklgfnboadchmaa
end

section
/- Own: the class of worlds in which two cells are as in W. -/
namespace Go.Proofs.Ytklgfnboadchmaa
set_option linter.unusedVariables false

def LatD (W : World) (a b : Addr) : Type := { w : World // w.cell? a = W.cell? a ∧ w.cell? b = W.cell? b }
instance (W : World) (a b : Addr) : Nonempty (LatD W a b) := ⟨⟨W, rfl, rfl⟩⟩
def laterD (W : World) (a b : Addr) (x : LatD W a b) : World := x.1
@[go_sem] theorem laterD_cell (W : World) (a b : Addr) (x : LatD W a b) : (laterD W a b x).cell? a = W.cell? a := x.2.1
@[go_sem] theorem laterD_cell2 (W : World) (a b : Addr) (x : LatD W a b) : (laterD W a b x).cell? b = W.cell? b := x.2.2
theorem laterD_of {W : World} {a b : Addr} {w : World} (h : w.cell? a = W.cell? a) (h2 : w.cell? b = W.cell? b) : ∃ x : LatD W a b, w = laterD W a b x := ⟨⟨w, h, h2⟩, rfl⟩

end Go.Proofs.Ytklgfnboadchmaa
end

section
/- The pool: its methods. -/
namespace Go.Proofs.Ytklgfnboadchmaa
open Go.ChangeShapes Go.WideShapes Go.ChangeAt Go.RowKit
set_option linter.unusedVariables false
set_option maxRecDepth 20000

section
variable {b s fb n : Nat} {G : Nat → Int} {V : Nat → Value} {L : Nat → List plIt} {st : Value} {S : List stIt}
theorem PlIn.stShape {w : World} (h : PlIn w b s fb n G V L st S) : ∃ a c, st = .slice a n c := by
  obtain ⟨a, c, hv⟩ := ownsRow_shape h.seats
  rw [h.len] at hv
  exact ⟨a, c, hv⟩
theorem plNone (w : World) (h : PlIn w b s fb n G V L st S) (hn : 0 < n) :
    Calls Try.prog 40 #[.pointer (some ⟨b, 0, none⟩)] w fun e w' => e = .returned (.bool false) ∧ w = w' := by
  have c1 := h.cellT
  obtain ⟨a, c, rfl⟩ := h.stShape
  have hn0 : ((n : Int) == 0) = false := by rw [beq_eq_false_iff_ne]; omega
  go_enter Try.func40, Try.ntmps40
  go_wp2
  go_ret
  exact ⟨rfl, rfl⟩
theorem plIs (f : Nat) (w : World) (h : PlIn w b s fb n G V L st S) (hf : f < n) :
    Calls Try.prog 53 #[.pointer (some ⟨b, 0, none⟩), .int .i64 f] w fun e w' => e = .returned (.bool true) ∧ w = w' := by
  have c1 := h.cellT
  obtain ⟨a, c, rfl⟩ := h.stShape
  go_enter Try.func53, Try.ntmps53
  go_wp2
  go_ret
  exact ⟨rfl, rfl⟩
theorem plIsNo (f : Int) (w : World) (h : PlIn w b s fb n G V L st S) (hf : f < 0 ∨ (n : Int) ≤ f) :
    Calls Try.prog 53 #[.pointer (some ⟨b, 0, none⟩), .int .i64 f] w fun e w' => e = .returned (.bool false) ∧ w = w' := by
  have c1 := h.cellT
  obtain ⟨a, c, rfl⟩ := h.stShape
  by_cases h0 : f < 0
  · have h1 : ¬ 0 ≤ f := by omega
    go_enter Try.func53, Try.ntmps53
    go_wp2
    go_ret
    exact ⟨rfl, rfl⟩
  · have h1 : 0 ≤ f := by omega
    have h2 : ¬ f < n := by omega
    go_enter Try.func53, Try.ntmps53
    go_wp2
    go_ret
    exact ⟨rfl, rfl⟩
theorem plPart (g : Nat) (w : World) (hg : g < 16) : Calls Try.prog 41 #[.int .i64 g] w fun e w' => e = .returned (.bool true) ∧ w = w' := by
  have h1 : (g : Int) < 16 := by omega
  go_enter Try.func41, Try.ntmps41
  go_wp2
  go_ret
  exact ⟨rfl, rfl⟩
theorem plPartNo (g : Int) (w : World) (hg : g < 0 ∨ 16 ≤ g) : Calls Try.prog 41 #[.int .i64 g] w fun e w' => e = .returned (.bool false) ∧ w = w' := by
  by_cases h0 : g < 0
  · have h1 : ¬ 0 ≤ g := by omega
    go_enter Try.func41, Try.ntmps41
    go_wp2
    go_ret
    exact ⟨rfl, rfl⟩
  · have h1 : 0 ≤ g := by omega
    have h2 : ¬ g < 16 := by omega
    go_enter Try.func41, Try.ntmps41
    go_wp2
    go_ret
    exact ⟨rfl, rfl⟩

theorem own_st {w : World} (h : PlIn w b s fb n G V L st S) {g cap : Nat} (hv : st = .slice (some ⟨g, 0, none⟩) n cap) : some g = st.ownBlock := by rw [hv]; rfl

set_option maxRecDepth 20000 in
set_option maxHeartbeats 1000000 in
/-- A frame is put among those that are left. -/
theorem plPut (f g : Nat) (w : World) (h : PlIn w b s fb n G V L st S) (hf : f < n) (hg : g < 16) (hw : (atL S f).who = g) (hp : ∀ q, q < 16 → (L q).Perm (leftL (S.set f ⟨g, true⟩) q)) :
    Calls Try.prog 58 #[.pointer (some ⟨b, 0, none⟩), .int .i64 f] w fun e w' => e = .returned (.int .i64 0) ∧ ∃ v' l', PlAt w' b s fb n (putF G (f * 64) 64 0) (setV V g v') (setV L g l') st (S.set f ⟨g, false⟩) ∧ Frs (tch b fb (V g) st) w w' ∧ (v'.ownBlock = (V g).ownBlock ∨ ∀ a, v'.ownBlock = some a → w.heap.size ≤ a) := by
  have hfS : f < S.length := by rw [h.len]; exact hf
  have hn32 := h.sto.1
  have hlL : (L g).length ≤ 32 := by
    have h1 := (hp g hg).length_eq
    have h2 := left_le (S := S.set f ⟨g, true⟩) (q := g)
    rw [List.length_set, h.len] at h2
    omega
  obtain ⟨sb, cap, hv, hnc, hcm, hbs, hsb, d0, d1, hz⟩ := h.seat hf
  rw [hw] at d0
  have hzz := hz (f * 2 + 1)
  have c1 := h.cellT
  have hst := own_st h hv
  have hlt := h.lt
  have HP := Lib.hid hp
  have HV := Lib.hid hv
  have HZ := Lib.hid hz
  clear hp hz
  rw [hv] at c1
  go_enter Try.func58, Try.ntmps58
  go_wp2_with fail
  have h1 : PlIn (w.setCell ⟨sb, f * 2 + 1, none⟩ (.bool false)) b s fb n G V L st (S.set f ⟨g, false⟩) := h.seatSet (x := ⟨g, false⟩) hf HV.out (j := 1) (by omega) (by rw [stEnc, stEnc, hw]; rfl) (.inr ⟨g, hg, rfl⟩)
  have f1 : Frs (tch b fb (V g) st) w (w.setCell ⟨sb, f * 2 + 1, none⟩ (.bool false)) := Frs.of_upd (Upd.refl sb w).setCell (.inr (.inr (.inr hst)))
  have z1 : (w.setCell ⟨sb, f * 2 + 1, none⟩ (.bool false)).heap.size = w.heap.size := by simp [World.setCell]
  generalize (w.setCell ⟨sb, f * 2 + 1, none⟩ (.bool false)) = w1 at h1 f1 z1 ⊢
  have k1 := h1.cellT
  rw [HV.out] at k1
  obtain ⟨sb', cap', hv', _, _, _, _, k0, _, _⟩ := h1.seat hf
  rw [HV.out] at hv'
  obtain ⟨rfl, rfl⟩ : sb = sb' ∧ cap = cap' := by cases hv'; exact ⟨rfl, rfl⟩
  rw [atL_setS hfS, if_pos rfl] at k0
  simp only at k0
  clear hv' c1 d0 d1 hzz
  go_wp2_with fail
  (refine wp_region_line 16 (fun x => ∃ y : LatD w1 ⟨b, 1, none⟩ ⟨sb, f * 2, none⟩, x = laterD w1 ⟨b, 1, none⟩ ⟨sb, f * 2, none⟩ y) (by kernel_rfl) rfl ?_)
  (refine wpSeg (0 :: 1 :: 2 :: 3 :: 4 :: 5 :: 6 :: 7 :: 8 :: 9 :: 10 :: 11 :: 12 :: 13 :: 14 :: []) 1 (l := _) rfl (by simp only [List.filterMap_cons, List.filterMap_nil, List.getElem?_toArray, List.getElem?_cons_succ, List.getElem?_cons_zero]; rfl) (by kernel_rfl) (fun _ _ _ _ _ h => h) (laterD_of (w := w1.drew) rfl rfl) ?_; show wpQuiet _ _ _ _ (_ :: _ :: _ :: _ :: _ :: _ :: _ :: _ :: _ :: _ :: _ :: _ :: _ :: _ :: _ :: []) _; (repeat (go_big_quiet_step (fail))); refine wpQuiet_nil ?_; show wpAnyH _ _ _ _ _ _ _ _ _)
  (refine wpOne 15 0 rfl rfl (by kernel_rfl) ?_; intro K hK; go_simp)
  refine (plHPush b _ (V g) (L g) ⟨f⟩ _ (plBlk_ok _ _ V hg) (h1.row hg).drew (h1.heap g hg) (by omega)).mono ?_
  rintro e w3 ⟨rfl, v3, l3, r3, hh3, p3, f3⟩
  have f3' : Frm b (V g) v3 w1 w3 := ⟨f3.os, f3.tape, f3.output, f3.size, f3.block, f3.own⟩
  have h3 := h1.put hg r3 hh3 f3'
  have k1' := h3.cellT
  rw [HV.out] at k1'
  obtain ⟨sb', cap', hv', _, _, _, _, k0', _, _⟩ := h3.seat hf
  rw [HV.out] at hv'
  obtain ⟨rfl, rfl⟩ : sb = sb' ∧ cap = cap' := by cases hv'; exact ⟨rfl, rfl⟩
  rw [atL_setS hfS, if_pos rfl] at k0'
  simp only at k0'
  (refine hK.out _ _ _ (fun _ h => h) (laterD_of (k1'.trans k1.symm) (k0'.trans k0.symm)) ?_; clear hK K)
  refine wpAnyH_done (by kernel_rfl) ?_ _
  have f13 := f1.trans (Frs.of_frm f3' (.inl rfl) (fun i hi => .inr (.inr (.inl hi))))
  have kS := h3.cellS
  clear k1 k0 k1' k0' hv' f3 r3
  go_wp2_with fail
  refine (clear_in s fb n f G _ h3.sto hf).mono ?_
  rintro e w4 ⟨rfl, u4, s4⟩
  have h4 := h3.stored u4 s4
  go_wp2
  go_ret
  refine ⟨rfl, v3, l3, ⟨h4, fun q hq => ?_, by omega⟩, f13.trans (Frs.of_upd u4 (.inr (.inl rfl))), ?_⟩
  · by_cases e : q = g
    · subst e
      rw [setV_at]
      refine p3.trans (List.Perm.trans ?_ (left_set hfS).symm)
      rw [if_pos ⟨rfl, rfl⟩]
      refine (List.perm_append_comm).trans (List.Perm.append_left _ ((HP.out q hq).trans ((left_set hfS).trans ?_)))
      rw [if_neg (by simp)]
      exact List.Perm.refl _
    · rw [setV_ne _ _ e]
      exact (HP.out q hq).trans (left_same hfS (by simp; omega))
  · rcases f3'.own with ho | ho
    · exact .inl ho
    · exact .inr fun a ha => by have := ho a ha; omega

theorem plOwnNo (f who : Int) (w : World) (h : PlIn w b s fb n G V L st S) (hn : 0 < n) (hno : f < 0 ∨ (n : Int) ≤ f ∨ who < 0 ∨ 16 ≤ who) :
    Calls Try.prog 30 #[.pointer (some ⟨b, 0, none⟩), .int .i64 f, .int .i64 who] w fun e w' => e = .returned (.int .i64 1) ∧ w = w' := by
  by_cases hf : f < 0 ∨ (n : Int) ≤ f
  · go_enter Try.func30, Try.ntmps30
    go_wp2_with fail
    refine (plNone _ h hn).mono ?_
    rintro e w' ⟨rfl, rfl⟩
    go_wp2_with fail
    refine (plIsNo f _ h hf).mono ?_
    rintro e w' ⟨rfl, rfl⟩
    go_wp2
    go_ret
    exact ⟨rfl, rfl⟩
  · obtain ⟨k, rfl⟩ : ∃ k : Nat, f = k := ⟨f.toNat, by omega⟩
    have hk : k < n := by omega
    have hwho : who < 0 ∨ 16 ≤ who := by omega
    go_enter Try.func30, Try.ntmps30
    go_wp2_with fail
    refine (plNone _ h hn).mono ?_
    rintro e w' ⟨rfl, rfl⟩
    go_wp2_with fail
    refine (plIs k _ h hk).mono ?_
    rintro e w' ⟨rfl, rfl⟩
    go_wp2_with fail
    refine (plPartNo who _ hwho).mono ?_
    rintro e w' ⟨rfl, rfl⟩
    go_wp2
    go_ret
    exact ⟨rfl, rfl⟩
theorem plOwnUsed (f g : Nat) (w : World) (h : PlIn w b s fb n G V L st S) (hf : f < n) (hg : g < 16) (hw : (atL S f).who ≠ -1) :
    Calls Try.prog 30 #[.pointer (some ⟨b, 0, none⟩), .int .i64 f, .int .i64 g] w fun e w' => e = .returned (.int .i64 5) ∧ w = w' := by
  obtain ⟨sb, cap, hv, hnc, hcm, hbs, hsb, d0, d1, hz⟩ := h.seat hf
  have c1 := h.cellT
  rw [hv] at c1
  obtain ⟨x, hx⟩ : ∃ x, (atL S f).who = x := ⟨_, rfl⟩
  rw [hx] at d0 hw
  clear hz d1 hx
  go_enter Try.func30, Try.ntmps30
  go_wp2_with fail
  refine (plNone _ h (by omega)).mono ?_
  rintro e w' ⟨rfl, rfl⟩
  go_wp2_with fail
  refine (plIs f _ h hf).mono ?_
  rintro e w' ⟨rfl, rfl⟩
  go_wp2_with fail
  refine (plPart g _ hg).mono ?_
  rintro e w' ⟨rfl, rfl⟩
  go_wp2
  go_ret
  exact ⟨rfl, rfl⟩
set_option maxRecDepth 20000 in
set_option maxHeartbeats 1000000 in
theorem plOwn (f g : Nat) (w : World) (h : PlAt w b s fb n G V L st S) (hf : f < n) (hg : g < 16) (hw : (atL S f).who = -1) :
    Calls Try.prog 30 #[.pointer (some ⟨b, 0, none⟩), .int .i64 f, .int .i64 g] w fun e w' => e = .returned (.int .i64 0) ∧ ∃ v' l', PlAt w' b s fb n (putF G (f * 64) 64 0) (setV V g v') (setV L g l') st (S.set f ⟨g, false⟩) ∧ Frs (tch b fb (V g) st) w w' ∧ (v'.ownBlock = (V g).ownBlock ∨ ∀ a, v'.ownBlock = some a → w.heap.size ≤ a) := by
  have hfS : f < S.length := by rw [h.len]; exact hf
  have htk : (atL S f).tk = false := by
    rcases h.who f hf with h1 | ⟨q, _, h1⟩
    · exact h1.2
    · rw [hw] at h1; omega
  obtain ⟨sb, cap, hv, hnc, hcm, hbs, hsb, d0, d1, hz⟩ := h.seat hf
  rw [hw] at d0
  have c1 := h.cellT
  have hst := own_st h.toPlIn hv
  have HV := Lib.hid hv
  rw [hv] at c1
  have hzz := hz (f * 2)
  clear hz d1
  go_enter Try.func30, Try.ntmps30
  go_wp2_with fail
  refine (plNone _ h.toPlIn (by omega)).mono ?_
  rintro e w' ⟨rfl, rfl⟩
  go_wp2_with fail
  refine (plIs f _ h.toPlIn hf).mono ?_
  rintro e w' ⟨rfl, rfl⟩
  go_wp2_with fail
  refine (plPart g _ hg).mono ?_
  rintro e w' ⟨rfl, rfl⟩
  go_wp2_with fail
  have h1 : PlIn (w.setCell ⟨sb, f * 2, none⟩ (.int .i64 g)) b s fb n G V L st (S.set f ⟨g, false⟩) := h.toPlIn.seatSet (x := ⟨g, false⟩) hf HV.out (j := 0) (by omega) (by rw [stEnc, stEnc, htk]; rfl) (.inr ⟨g, hg, rfl⟩)
  have f1 : Frs (tch b fb (V g) st) w (w.setCell ⟨sb, f * 2, none⟩ (.int .i64 g)) := Frs.of_upd (Upd.refl sb w).setCell (.inr (.inr (.inr hst)))
  have z1 : (w.setCell ⟨sb, f * 2, none⟩ (.int .i64 g)).heap.size = w.heap.size := by simp [World.setCell]
  generalize (w.setCell ⟨sb, f * 2, none⟩ (.int .i64 g)) = w1 at h1 f1 z1 ⊢
  refine (plPut f g _ h1 hf hg (by rw [atL_setS hfS, if_pos rfl]) (fun q hq => ?_)).mono ?_
  · rw [List.set_set]
    refine (h.perm q hq).trans ?_
    have := left_same (S := S) (q := q) (x := atL S f) (y := ⟨g, true⟩) hfS (by rw [hw]; simp <;> omega)
    rwa [set_self hfS] at this
  rintro e w2 ⟨rfl, v2, l2, h2, f2, o2⟩
  rw [List.set_set] at h2
  go_wp2
  go_ret
  exact ⟨rfl, v2, l2, h2, f1.trans f2, by rw [← z1]; exact o2⟩

theorem plTakeBad (g : Int) (w : World) (h : PlIn w b s fb n G V L st S) (hn : 0 < n) (hg : g < 0 ∨ 16 ≤ g) :
    Calls Try.prog 34 #[.pointer (some ⟨b, 0, none⟩), .int .i64 g] w fun e w' => e = .returned (.tuple #[.int .i64 0, .int .i64 1]) ∧ w = w' := by
  go_enter Try.func34, Try.ntmps34
  go_wp2_with fail
  refine (plNone _ h hn).mono ?_
  rintro e w' ⟨rfl, rfl⟩
  go_wp2_with fail
  refine (plPartNo g _ hg).mono ?_
  rintro e w' ⟨rfl, rfl⟩
  go_wp2
  go_ret2
  exact ⟨rfl, rfl⟩
theorem plTakeFull (g : Nat) (w : World) (h : PlIn w b s fb n G V L st S) (hn : 0 < n) (hg : g < 16) (hl : (L g).length = 0) :
    Calls Try.prog 34 #[.pointer (some ⟨b, 0, none⟩), .int .i64 g] w fun e w' => e = .returned (.tuple #[.int .i64 0, .int .i64 2]) ∧ w = w' := by
  have hl' : ((L g).length : Int) = 0 := by omega
  go_enter Try.func34, Try.ntmps34
  go_wp2_with fail
  refine (plNone _ h hn).mono ?_
  rintro e w' ⟨rfl, rfl⟩
  go_wp2_with fail
  refine (plPart g _ hg).mono ?_
  rintro e w' ⟨rfl, rfl⟩
  go_wp2_with fail
  refine (plLen b _ (V g) (L g) _ (plBlk_ok _ _ V hg) (h.row hg)).mono ?_
  rintro e w' ⟨rfl, rfl⟩
  rw [hl']
  go_wp2
  go_ret2
  exact ⟨rfl, rfl⟩
/-- The lowest that is left. -/
structure Low (S : List stIt) (g f : Nat) : Prop where
  lt : f < S.length
  who : (atL S f).who = g
  tk : (atL S f).tk = false
  low : ∀ k, k < f → ¬ ((atL S k).who = g ∧ (atL S k).tk = false)
theorem PlAt.top {w : World} (h : PlAt w b s fb n G V L st S) {g : Nat} (hg : g < 16) (hl : 0 < (L g).length) : ∃ f, Low S g f ∧ atL (L g) 0 = ⟨f⟩ := by
  obtain ⟨k, hk, h1, h2, h3⟩ := mem_leftL.1 ((h.perm g hg).subset (mem_atL hl))
  refine ⟨k, ⟨hk, h1, h2, fun j hj hc => ?_⟩, h3⟩
  have hin : (⟨j⟩ : plIt) ∈ L g := (h.perm g hg).symm.subset (mem_leftL.2 ⟨j, by omega, hc.1, hc.2, rfl⟩)
  obtain ⟨i, hi, hie⟩ := mem_is_atL hin
  have := heap_min plLt_ordered (h.heap g hg) i hi
  rw [← hie, h3] at this
  simp only [plLt, decide_eq_false_iff_not] at this
  omega
theorem PlAt.none_left {w : World} (h : PlAt w b s fb n G V L st S) {g : Nat} (hg : g < 16) (hl : (L g).length = 0) : ∀ k, k < n → ¬ ((atL S k).who = g ∧ (atL S k).tk = false) := by
  intro k hk hc
  have hin : (⟨k⟩ : plIt) ∈ L g := (h.perm g hg).symm.subset (mem_leftL.2 ⟨k, by rw [h.len]; exact hk, hc.1, hc.2, rfl⟩)
  rw [List.length_eq_zero_iff.1 hl] at hin
  cases hin
set_option maxRecDepth 20000 in
set_option maxHeartbeats 1000000 in
theorem plTake (g f : Nat) (w : World) (h : PlAt w b s fb n G V L st S) (hg : g < 16) (hl : 0 < (L g).length) (hlow : Low S g f) (ht : atL (L g) 0 = ⟨f⟩) :
    Calls Try.prog 34 #[.pointer (some ⟨b, 0, none⟩), .int .i64 g] w fun e w' => e = .returned (.tuple #[.int .i64 f, .int .i64 0]) ∧ ∃ v' l', PlAt w' b s fb n G (setV V g v') (setV L g l') st (S.set f ⟨g, true⟩) ∧ Frs (tch b fb (V g) st) w w' ∧ (v'.ownBlock = (V g).ownBlock ∨ ∀ a, v'.ownBlock = some a → w.heap.size ≤ a) := by
  have hl' : ¬ ((L g).length : Int) = 0 := by omega
  have hl'' : (((L g).length : Int) == 0) = false := by rw [beq_eq_false_iff_ne]; omega
  have hfS := hlow.lt
  have hf : f < n := by rw [← h.len]; exact hfS
  obtain ⟨m, hm⟩ : ∃ m, (L g).length = m + 1 := ⟨(L g).length - 1, by omega⟩
  have hlL : (L g).length ≤ 32 := by
    have h1 := (h.perm g hg).length_eq
    have h2 := left_le (S := S) (q := g)
    rw [h.len] at h2
    have := h.sto.1
    omega
  have hval : plVal (atL (L g) 0) = .iface 3 (.int .i64 f) := by rw [ht]
  have hta : ∀ w' : World, (Instr.typeAssert (.iface 3 (.int .i64 f)) 20 3 false).run Try.prog w' = .ok (.int .i64 f) w' := fun _ => by kernel_rfl
  have HV2 := Lib.hid hval
  clear hval
  go_enter Try.func34, Try.ntmps34
  go_wp2_with fail
  refine (plNone _ h.toPlIn h.pos).mono ?_
  rintro e w' ⟨rfl, rfl⟩
  go_wp2_with fail
  refine (plPart g _ hg).mono ?_
  rintro e w' ⟨rfl, rfl⟩
  go_wp2_with fail
  refine (plLen b _ (V g) (L g) _ (plBlk_ok _ _ V hg) (h.row hg)).mono ?_
  rintro e w' ⟨rfl, rfl⟩
  go_wp2_with fail
  refine (plHPop b _ (V g) (L g) m _ (plBlk_ok _ _ V hg) (h.row hg) hm (h.heap g hg) (by omega)).mono ?_
  rintro e w2 ⟨rfl, v2, l2, r2, hh2, hl2, p2, f2⟩
  rw [HV2.out]
  have h2 := h.toPlIn.put hg r2 hh2 f2
  obtain ⟨sb, cap, hv, hnc, hcm, hbs, hsb, d0, d1, hz⟩ := h2.seat hf
  have c1 := h2.cellT
  have hst := own_st h2 hv
  have HV := Lib.hid hv
  rw [hv] at c1
  have hzz := hz (f * 2 + 1)
  clear hz d0
  go_wp2
  go_ret2
  have h3 : PlIn (w2.setCell ⟨sb, f * 2 + 1, none⟩ (.bool true)) b s fb n G (setV V g v2) (setV L g l2) st (S.set f ⟨g, true⟩) := h2.seatSet (x := ⟨g, true⟩) hf HV.out (j := 1) (by omega) (by rw [stEnc, stEnc, hlow.who]; rfl) (.inr ⟨g, hg, rfl⟩)
  refine ⟨rfl, v2, l2, ⟨h3, fun q hq => ?_, h.pos⟩, (Frs.of_frm f2 (.inl rfl) (fun i hi => .inr (.inr (.inl hi)))).trans (Frs.of_upd (Upd.refl sb w2).setCell (.inr (.inr (.inr hst)))), f2.own⟩
  have hself := set_self hfS
  by_cases e : q = g
  · subst e
    rw [setV_at]
    refine List.Perm.trans ?_ (left_set hfS).symm
    rw [if_neg (by simp)]
    have h5 := left_set (S := S) (q := q) (x := atL S f) hfS
    rw [hself, if_pos ⟨hlow.who, hlow.tk⟩] at h5
    have h6 := (p2.trans (h.perm q hq)).trans h5
    rw [ht] at h6
    exact List.Perm.cons_inv (a := (⟨f⟩ : plIt)) h6
  · rw [setV_ne _ _ e]
    refine (h.perm q hq).trans ?_
    have := left_same (S := S) (q := q) (x := atL S f) (y := ⟨g, true⟩) hfS (by rw [hlow.who]; simp; omega)
    rwa [hself] at this

theorem plBackNo (f : Int) (w : World) (h : PlIn w b s fb n G V L st S) (hn : 0 < n) (hf : f < 0 ∨ (n : Int) ≤ f) :
    Calls Try.prog 37 #[.pointer (some ⟨b, 0, none⟩), .int .i64 f] w fun e w' => e = .returned (.int .i64 1) ∧ w = w' := by
  go_enter Try.func37, Try.ntmps37
  go_wp2_with fail
  refine (plNone _ h hn).mono ?_
  rintro e w' ⟨rfl, rfl⟩
  go_wp2_with fail
  refine (plIsNo f _ h hf).mono ?_
  rintro e w' ⟨rfl, rfl⟩
  go_wp2
  go_ret
  exact ⟨rfl, rfl⟩
theorem plBackFree (f : Nat) (w : World) (h : PlIn w b s fb n G V L st S) (hf : f < n) (ht : (atL S f).tk = false) :
    Calls Try.prog 37 #[.pointer (some ⟨b, 0, none⟩), .int .i64 f] w fun e w' => e = .returned (.int .i64 3) ∧ w = w' := by
  obtain ⟨sb, cap, hv, hnc, hcm, hbs, hsb, d0, d1, hz⟩ := h.seat hf
  have c1 := h.cellT
  rw [hv] at c1
  rw [ht] at d1
  clear hz d0
  go_enter Try.func37, Try.ntmps37
  go_wp2_with fail
  refine (plNone _ h (by omega)).mono ?_
  rintro e w' ⟨rfl, rfl⟩
  go_wp2_with fail
  refine (plIs f _ h hf).mono ?_
  rintro e w' ⟨rfl, rfl⟩
  go_wp2
  go_ret
  exact ⟨rfl, rfl⟩
theorem plBack (f : Nat) (w : World) (h : PlAt w b s fb n G V L st S) (hf : f < n) (ht : (atL S f).tk = true) :
    Calls Try.prog 37 #[.pointer (some ⟨b, 0, none⟩), .int .i64 f] w fun e w' => e = .returned (.int .i64 0) ∧ ∃ g v' l', g < 16 ∧ (atL S f).who = (g : Nat) ∧ PlAt w' b s fb n (putF G (f * 64) 64 0) (setV V g v') (setV L g l') st (S.set f ⟨g, false⟩) ∧ Frs (tch b fb (V g) st) w w' ∧ (v'.ownBlock = (V g).ownBlock ∨ ∀ a, v'.ownBlock = some a → w.heap.size ≤ a) := by
  have hfS : f < S.length := by rw [h.len]; exact hf
  obtain ⟨g, hg, hw⟩ : ∃ g : Nat, g < 16 ∧ (atL S f).who = g := by
    rcases h.who f hf with h1 | h1
    · rw [ht] at h1; cases h1.2
    · exact h1
  obtain ⟨sb, cap, hv, hnc, hcm, hbs, hsb, d0, d1, hz⟩ := h.seat hf
  have c1 := h.cellT
  rw [hv] at c1
  rw [ht] at d1
  clear hz d0 hv
  have hself : S.set f ⟨g, true⟩ = S := by
    have e : atL S f = ⟨g, true⟩ := by
      cases h' : atL S f with
      | mk a c =>
        rw [h'] at hw ht
        simp only at hw ht
        rw [hw, ht]
    rw [← e]; exact set_self hfS
  go_enter Try.func37, Try.ntmps37
  go_wp2_with fail
  refine (plNone _ h.toPlIn h.pos).mono ?_
  rintro e w' ⟨rfl, rfl⟩
  go_wp2_with fail
  refine (plIs f _ h.toPlIn hf).mono ?_
  rintro e w' ⟨rfl, rfl⟩
  go_wp2_with fail
  refine (plPut f g _ h.toPlIn hf hg hw (fun q hq => by rw [hself]; exact h.perm q hq)).mono ?_
  rintro e w2 ⟨rfl, v2, l2, h2, f2, o2⟩
  go_wp2
  go_ret
  exact ⟨rfl, g, v2, l2, hg, hw, h2, f2, o2⟩

theorem plTakenNo (f : Int) (w : World) (h : PlIn w b s fb n G V L st S) (hn : 0 < n) (hf : f < 0 ∨ (n : Int) ≤ f) :
    Calls Try.prog 19 #[.pointer (some ⟨b, 0, none⟩), .int .i64 f] w fun e w' => e = .returned (.bool false) ∧ w = w' := by
  go_enter Try.func19, Try.ntmps19
  go_wp2_with fail
  refine (plNone _ h hn).mono ?_
  rintro e w' ⟨rfl, rfl⟩
  go_wp2_with fail
  refine (plIsNo f _ h hf).mono ?_
  rintro e w' ⟨rfl, rfl⟩
  go_wp2
  go_ret
  exact ⟨rfl, rfl⟩
theorem plTaken (f : Nat) (w : World) (h : PlIn w b s fb n G V L st S) (hf : f < n) :
    Calls Try.prog 19 #[.pointer (some ⟨b, 0, none⟩), .int .i64 f] w fun e w' => e = .returned (.bool (atL S f).tk) ∧ w = w' := by
  obtain ⟨sb, cap, hv, hnc, hcm, hbs, hsb, d0, d1, hz⟩ := h.seat hf
  have c1 := h.cellT
  rw [hv] at c1
  clear hz d0
  go_enter Try.func19, Try.ntmps19
  go_wp2_with fail
  refine (plNone _ h (by omega)).mono ?_
  rintro e w' ⟨rfl, rfl⟩
  go_wp2_with fail
  refine (plIs f _ h hf).mono ?_
  rintro e w' ⟨rfl, rfl⟩
  go_wp2
  go_ret
  exact ⟨rfl, rfl⟩
theorem plLeftNo (g : Int) (w : World) (h : PlIn w b s fb n G V L st S) (hn : 0 < n) (hg : g < 0 ∨ 16 ≤ g) :
    Calls Try.prog 12 #[.pointer (some ⟨b, 0, none⟩), .int .i64 g] w fun e w' => e = .returned (.int .i64 0) ∧ w = w' := by
  go_enter Try.func12, Try.ntmps12
  go_wp2_with fail
  refine (plNone _ h hn).mono ?_
  rintro e w' ⟨rfl, rfl⟩
  go_wp2_with fail
  refine (plPartNo g _ hg).mono ?_
  rintro e w' ⟨rfl, rfl⟩
  go_wp2
  go_ret
  exact ⟨rfl, rfl⟩
theorem plLeft (g : Nat) (w : World) (h : PlIn w b s fb n G V L st S) (hn : 0 < n) (hg : g < 16) :
    Calls Try.prog 12 #[.pointer (some ⟨b, 0, none⟩), .int .i64 g] w fun e w' => e = .returned (.int .i64 (L g).length) ∧ w = w' := by
  go_enter Try.func12, Try.ntmps12
  go_wp2_with fail
  refine (plNone _ h hn).mono ?_
  rintro e w' ⟨rfl, rfl⟩
  go_wp2_with fail
  refine (plPart g _ hg).mono ?_
  rintro e w' ⟨rfl, rfl⟩
  go_wp2_with fail
  refine (plLen b _ (V g) (L g) _ (plBlk_ok _ _ V hg) (h.row hg)).mono ?_
  rintro e w' ⟨rfl, rfl⟩
  go_wp2
  go_ret
  exact ⟨rfl, rfl⟩
end
end Go.Proofs.Ytklgfnboadchmaa
end

section
/- The pool: New; beside others; awake. -/
namespace Go.Proofs.Ytklgfnboadchmaa
open Go.ChangeShapes Go.WideShapes Go.ChangeAt Go.RowKit
set_option linter.unusedVariables false
set_option maxRecDepth 20000

theorem Try.seatInfo : (Try.prog.info? 103).map (fun i => (i.zero, i.size, i.bytes)) = some (some (.agg #[.int .i64 0, .bool false]), 2, 16) := by kernel_rfl
def nilV : Nat → Value := fun _ => .slice none 0 0
theorem left_new (n q : Nat) : leftL (List.replicate n (⟨-1, false⟩ : stIt)) q = [] := by
  unfold leftL
  rw [List.filterMap_eq_nil_iff]
  intro k hk
  unfold lfOf
  rw [if_neg]
  rw [List.length_replicate] at hk
  have : atL (List.replicate n (⟨-1, false⟩ : stIt)) k = ⟨-1, false⟩ := by
    rw [atL_eq (by rw [List.length_replicate]; exact List.mem_range.1 hk)]
    simp
  rw [this]
  simp only
  omega
theorem atL_replicate {n k : Nat} {x : stIt} (hk : k < n) : atL (List.replicate n x) k = x := by
  rw [atL_eq (by rw [List.length_replicate]; exact hk)]
  simp
theorem plNewNo (s fb : Nat) (G : Nat → Int) (w : World) (h : StoAt w s fb 0 G) :
    Calls Try.prog 28 #[.pointer (some ⟨s, 0, none⟩)] w fun e w' => e = .returned (.tuple #[.pointer none, .int .i64 7]) ∧ Below w.heap.size w w' := by
  go_enter Try.func28, Try.ntmps28
  go_wp2_with fail
  refine (len_of s fb 0 G _ h).mono ?_
  rintro e w1 ⟨rfl, b1⟩
  go_wp2
  go_ret2
  exact ⟨rfl, b1⟩
set_option maxRecDepth 20000 in
set_option maxHeartbeats 2000000 in
theorem plNew (s fb n : Nat) (G : Nat → Int) (w : World) (h : StoAt w s fb n G) (hn : 0 < n) :
    Calls Try.prog 28 #[.pointer (some ⟨s, 0, none⟩)] w fun e w' => ∃ b st, e = .returned (.tuple #[.pointer (some ⟨b, 0, none⟩), .int .i64 0]) ∧ w.heap.size ≤ b ∧ PlAt w' b s fb n G nilV (fun _ => []) st (List.replicate n ⟨-1, false⟩) ∧ Below w.heap.size w w' ∧ ∀ a, st.ownBlock = some a → w.heap.size ≤ a := by
  obtain ⟨i0, hi, hz0, hz1, hz2⟩ := info_parts Try.seatInfo
  have hn0 : ((n : Int) == 0) = false := by rw [beq_eq_false_iff_ne]; omega
  have hn32 := h.1
  go_enter Try.func28, Try.ntmps28
  go_wp2_with fail
  refine (len_of s fb n G _ h).mono ?_
  rintro e w1 ⟨rfl, b1⟩
  have h1 := h.below b1
  go_wp2_with fail
  have hblk : (w1.alloc (.cells (plBlk (.pointer (some ⟨s, 0, none⟩)) (.slice none 0 0) nilV) 92)).heap[w1.heap.size]? = some (.cells (plBlk (.pointer (some ⟨s, 0, none⟩)) (.slice none 0 0) nilV) 92 (0, 0)) := Go.heap_alloc_new w1 _
  have h2 := h1.alloc (o := .cells (plBlk (.pointer (some ⟨s, 0, none⟩)) (.slice none 0 0) nilV) 92)
  have hb2 : Bel w.heap.size w (w1.alloc (.cells (plBlk (.pointer (some ⟨s, 0, none⟩)) (.slice none 0 0) nilV) 92)) := Bel.alloc ⟨b1, b1.size⟩
  have hR2 : RowIn 103 2 stEnc (w1.alloc (.cells (plBlk (.pointer (some ⟨s, 0, none⟩)) (.slice none 0 0) nilV) 92)) w1.heap.size 92 (fun v => plBlk (.pointer (some ⟨s, 0, none⟩)) v nilV) (.slice none 0 0) [] := ⟨hblk, World.ownsRow_nil _ _ _ _⟩
  have hbw : w.heap.size ≤ w1.heap.size := b1.size
  refine (len_of s fb n G _ h2).mono ?_
  rintro e w3 ⟨rfl, b3⟩
  have h3 := h2.below b3
  have hR3 := hR2.below b3
  have hb3 := hb2.of b3
  obtain ⟨b, hb⟩ : ∃ b, w1.heap.size = b := ⟨_, rfl⟩
  rw [hb] at hR3 hbw ⊢
  clear hblk hR2 hb2 b1 h1 h2 b3 hb
  go_wp2_with fail
  go_loopw [13] (fun kv wr => ∃ (k : Nat) (st : Value), k ≤ n ∧ kv = .int .i64 k ∧ RowIn 103 2 stEnc wr b 92 (fun v => plBlk (.pointer (some ⟨s, 0, none⟩)) v nilV) st (List.replicate k ⟨-1, false⟩) ∧ Bel w.heap.size w wr) (fun kv _ => n - (intOf kv).toNat)
  case atStart => exact ⟨0, _, Nat.zero_le _, rfl, hR3, hb3⟩
  case round =>
    obtain ⟨k, st, hk, rfl, hR, hbel⟩ := hrel
    clear hR3 hb3 h3
    have hlt := hR.lt
    by_cases hkn : k < n
    · have q0 := hR.field (plBlk_st (.pointer (some ⟨s, 0, none⟩)) nilV)
      have hne : st.ownBlock ≠ some b := fun e => by have := (hR.own _ e).1; omega
      have hlen : (List.replicate k (⟨-1, false⟩ : stIt)).length = k := List.length_replicate
      have hown := hR.2
      rw [hlen] at hown
      obtain ⟨a, c, hst⟩ := ownsRow_shape hown
      subst hst
      have hsucc : (List.replicate (k + 1) (⟨-1, false⟩ : stIt)).flatMap stEnc = (List.replicate k (⟨-1, false⟩ : stIt)).flatMap stEnc ++ [.int .i64 (-1), .bool false] := by
        rw [List.replicate_succ', List.flatMap_append]
        rfl
      have HS := Lib.hid hsucc
      clear hsucc hlen
      go_wp2_with (at_builtin; refine wpList_append_lies _ rfl _ _ 89 rfl (b + 1) 103 i0 (.agg #[.int .i64 0, .bool false]) 2 16 Try.underlying89 hi hz0 hz1 hz2 rfl (by decide) _ _ _ rfl (World.ownsRow.alloc hown _) ⟨wr.heap.size, 0, none⟩ 1 1 [.int .i64 (-1), .bool false] rfl rfl ?c1 ?c2 (by decide) ?c3 ?c4 ?c5 (wr.heap.size + 1) ?c6 ?_)
      case c1 =>
        intro x u hx
        match x, hx with
        | 0, hx => simp at hx; subst hx; simp [Addr.add]
        | 1, hx => simp at hx; subst hx; simp [Addr.add]
      case c2 => intro u hu; simp at hu; rcases hu with rfl | rfl <;> rfl
      case c3 => unfold maxLen; omega
      case c4 => omega
      case c5 => simp; omega
      case c6 => simp
      intro g4 cap4 w4 hown4 hgrow hat hlt4
      have r4 : w4.heap[b]? = some (.cells (plBlk (.pointer (some ⟨s, 0, none⟩)) (.slice a k c) nilV) 92 (0, 0)) := (hgrow.block b (by simp; omega) (fun e => hne e.symm)).trans (heap_alloc hR.1)
      have q4 : w4.cell? ⟨b, 1, none⟩ = some (.slice a k c) := (cell_of_row _ _ _ _ _ _ r4).trans rfl
      have z4 : w4.frozen? ⟨b, 1, none⟩ = false := by simp [World.frozen?, r4]
      have hbel4 : Bel w.heap.size w w4 := hbel.append (ownsRow_base hown (by omega)) hgrow
      clear hR hown hgrow hat
      go_wp2
      go_roundw
      case rel =>
        refine ⟨k + 1, .slice (some ⟨g4, 0, none⟩) (k + 1) cap4, by omega, by go_num, RowIn.stored (o := 1) (plBlk_st _ _) r4 ?_, hbel4.setCell hbw⟩
        rw [List.length_replicate, HS.out]
        simpa using hown4
      case measure => simp [intOf]; omega
    · have hkn2 : n = k := by omega
      have h4 : StoAt wr s fb n G := h.below (hbel.1)
      go_wp2
      go_ret2
      subst hkn2
      refine ⟨b, st, rfl, hbw, ⟨⟨hR.1, fun g hg => World.ownsRow_nil _ _ _ _, fun g hg x h0 hx => (by simp at hx), fun g k hg hk hgk a ha => (by cases ha), hR.2, List.length_replicate, h4, fun f hf => .inl (by rw [atL_replicate hf]; exact ⟨rfl, rfl⟩)⟩, fun g hg => by rw [left_new], hn⟩, hbel.1, fun a ha => by have := (hR.own a ha).1; omega⟩

section
variable {w w' : World} {b s fb n : Nat} {G : Nat → Int} {V : Nat → Value} {L : Nat → List plIt} {st : Value} {S : List stIt} {p : Nat → Prop}
theorem ownsRow_frs {B size m : Nat} {e : TypeId} {u : Value} {xs : List Value} (h : w.ownsRow B e size u m xs) (f : Frs p w w') (hp : ∀ a, u.ownBlock = some a → ¬ p a) : w'.ownsRow B e size u m xs := by
  refine ⟨h.1, ?_⟩
  rcases h.2 with hn | ⟨g, cap, cur, hv, hg, hh, hr⟩
  · exact .inl hn
  · exact .inr ⟨g, cap, cur, hv, hg, (f.block g (lt_heap hh) (hp g (by rw [hv]; rfl))).trans hh, hr⟩
theorem StoAt.frs (h : StoAt w s fb n G) (f : Frs p w w') (h1 : ¬ p s) (h2 : ¬ p fb) : StoAt w' s fb n G := by
  obtain ⟨s1, s2, ⟨curf, s3, s4⟩, s5⟩ := h
  exact ⟨s1, (f.block s (lt_heap s2) h1).trans s2, ⟨curf, (f.block fb (lt_heap s3) h2).trans s3, s4⟩, s5⟩
theorem PlAt.frs (h : PlAt w b s fb n G V L st S) (f : Frs p w w') (h1 : ¬ p b) (h2 : ¬ p s) (h3 : ¬ p fb) (h4 : ∀ g, g < 16 → ∀ a, (V g).ownBlock = some a → ¬ p a) (h5 : ∀ a, st.ownBlock = some a → ¬ p a) : PlAt w' b s fb n G V L st S :=
  ⟨⟨(f.block b h.lt h1).trans h.blk, fun g hg => ownsRow_frs (h.rows g hg) f (h4 g hg), h.heap, h.apart, ownsRow_frs h.seats f h5, h.len, h.sto.frs f h2 h3, h.who⟩, h.perm, h.pos⟩
/-- What a call touches lies from B on, where all of the pool does. -/
structure From (B b s fb : Nat) (V : Nat → Value) (st : Value) : Prop where
  b : B ≤ b
  s : B ≤ s
  fb : B ≤ fb
  V : ∀ g, g < 16 → ∀ a, (V g).ownBlock = some a → B ≤ a
  st : ∀ a, st.ownBlock = some a → B ≤ a
theorem From.tch {B : Nat} (h : From B b s fb V st) {g : Nat} (hg : g < 16) : ∀ i, Proofs.Ytklgfnboadchmaa.tch b fb (V g) st i → B ≤ i := by
  rintro i (rfl | rfl | e | e)
  · exact h.b
  · exact h.fb
  · exact h.V g hg i e.symm
  · exact h.st i e.symm
theorem From.put {B : Nat} (h : From B b s fb V st) {g : Nat} (hg : g < 16) {v' : Value} {k : Nat} (hk : B ≤ k) (ho : v'.ownBlock = (V g).ownBlock ∨ ∀ a, v'.ownBlock = some a → k ≤ a) : From B b s fb (setV V g v') st := by
  refine ⟨h.b, h.s, h.fb, fun q hq a ha => ?_, h.st⟩
  by_cases e : q = g
  · subst e
    rw [setV_at] at ha
    rcases ho with ho | ho
    · exact h.V q hq a (ho ▸ ha)
    · exact Nat.le_trans hk (ho a ha)
  · rw [setV_ne _ _ e] at ha
    exact h.V q hq a ha
end
theorem low_one {S : List stIt} {g f f' : Nat} (h : Low S g f) (h' : Low S g f') : f = f' := by
  rcases Nat.lt_trichotomy f f' with hh | hh | hh
  · exact absurd ⟨h.who, h.tk⟩ (h'.low f hh)
  · exact hh
  · exact absurd ⟨h'.who, h'.tk⟩ (h.low f' hh)

end Go.Proofs.Ytklgfnboadchmaa
end

section
/- Two pools beside each other. -/
namespace Go.Proofs.Ytklgfnboadchmaa
open Go.ChangeShapes Go.WideShapes Go.ChangeAt Go.RowKit
set_option linter.unusedVariables false
set_option maxRecDepth 20000

/-- The blocks of a pool. -/
def AllP (b s fb : Nat) (V : Nat → Value) (st : Value) (i : Nat) : Prop := i = b ∨ i = s ∨ i = fb ∨ (∃ g, g < 16 ∧ some i = (V g).ownBlock) ∨ some i = st.ownBlock
structure P1At (w0 w : World) (b s fb n : Nat) (G : Nat → Int) (V : Nat → Value) (L : Nat → List plIt) (st : Value) (S : List stIt) : Prop where
  pl : PlAt w b s fb n G V L st S
  fr : From w0.heap.size b s fb V st
section
variable {w0 w w' : World} {n : Nat} {b s fb : Nat} {G : Nat → Int} {V : Nat → Value} {L : Nat → List plIt} {st : Value} {S : List stIt} {b' s' fb' : Nat} {G' : Nat → Int} {V' : Nat → Value} {L' : Nat → List plIt} {st' : Value} {S' : List stIt}
theorem PlAt.all_lt (h : PlAt w b s fb n G V L st S) {i : Nat} (hi : AllP b s fb V st i) : i < w.heap.size := by
  rcases hi with rfl | rfl | rfl | ⟨g, hg, e⟩ | e
  · exact h.lt
  · exact lt_heap h.sto.2.1
  · obtain ⟨curf, s3, _⟩ := h.sto.2.2.1
    exact lt_heap s3
  · exact ((h.rows g hg).lt i e.symm).2
  · exact (h.seats.lt i e.symm).2
theorem tch_all {g : Nat} (hg : g < 16) {i : Nat} (h : Proofs.Ytklgfnboadchmaa.tch b fb (V g) st i) : AllP b s fb V st i := by
  rcases h with rfl | rfl | e | e
  · exact .inl rfl
  · exact .inr (.inr (.inl rfl))
  · exact .inr (.inr (.inr (.inl ⟨g, hg, e⟩)))
  · exact .inr (.inr (.inr (.inr e)))
/-- Two pools that share nothing. -/
structure TwoP (w0 w : World) (n : Nat) (b s fb : Nat) (G : Nat → Int) (V : Nat → Value) (L : Nat → List plIt) (st : Value) (S : List stIt) (b' s' fb' : Nat) (G' : Nat → Int) (V' : Nat → Value) (L' : Nat → List plIt) (st' : Value) (S' : List stIt) : Prop where
  p : PlAt w b s fb n G V L st S
  q : PlAt w b' s' fb' n G' V' L' st' S'
  fp : From w0.heap.size b s fb V st
  fq : From w0.heap.size b' s' fb' V' st'
  apart : ∀ i, AllP b s fb V st i → ¬ AllP b' s' fb' V' st' i
  bel : Bel w0.heap.size w0 w
theorem TwoP.swap (h : TwoP w0 w n b s fb G V L st S b' s' fb' G' V' L' st' S') : TwoP w0 w n b' s' fb' G' V' L' st' S' b s fb G V L st S :=
  ⟨h.q, h.p, h.fq, h.fp, fun i h1 h2 => h.apart i h2 h1, h.bel⟩
theorem TwoP.step (h : TwoP w0 w n b s fb G V L st S b' s' fb' G' V' L' st' S') {g : Nat} (hg : g < 16) {v' : Value} {G2 : Nat → Int} {l' : List plIt} {S2 : List stIt}
    (hp : PlAt w' b s fb n G2 (setV V g v') (setV L g l') st S2) (f : Frs (tch b fb (V g) st) w w') (ho : v'.ownBlock = (V g).ownBlock ∨ ∀ a, v'.ownBlock = some a → w.heap.size ≤ a) :
    TwoP w0 w' n b s fb G2 (setV V g v') (setV L g l') st S2 b' s' fb' G' V' L' st' S' := by
  have hn : ∀ i, AllP b' s' fb' V' st' i → ¬ Proofs.Ytklgfnboadchmaa.tch b fb (V g) st i := fun i h1 h2 => h.apart i (tch_all hg h2) h1
  refine ⟨hp, h.q.frs f (hn _ (.inl rfl)) (hn _ (.inr (.inl rfl))) (hn _ (.inr (.inr (.inl rfl)))) (fun k hk a ha => hn _ (.inr (.inr (.inr (.inl ⟨k, hk, ha.symm⟩))))) (fun a ha => hn _ (.inr (.inr (.inr (.inr ha.symm))))),
    h.fp.put hg h.bel.2 ho, h.fq, fun i h1 h2 => ?_, f.bel h.bel (h.fp.tch hg)⟩
  have hlt := h.q.all_lt h2
  rcases h1 with e | e | e | ⟨k, hk, e⟩ | e
  · exact h.apart i (.inl e) h2
  · exact h.apart i (.inr (.inl e)) h2
  · exact h.apart i (.inr (.inr (.inl e))) h2
  · by_cases hkg : k = g
    · subst hkg
      rw [setV_at] at e
      rcases ho with ho | ho
      · exact h.apart i (.inr (.inr (.inr (.inl ⟨k, hk, by rw [e, ho]⟩)))) h2
      · have := ho i e.symm
        omega
    · rw [setV_ne _ _ hkg] at e
      exact h.apart i (.inr (.inr (.inr (.inl ⟨k, hk, e⟩)))) h2
  · exact h.apart i (.inr (.inr (.inr (.inr e)))) h2
end
/-- The same is left to partition 1. -/
def Rel1 (n : Nat) (S S' : List stIt) : Prop := S.length = n ∧ S'.length = n ∧ ∀ k, k < n → lfOf S 1 k = lfOf S' 1 k
theorem lfOf_iff {S : List stIt} {q k : Nat} : (lfOf S q k = some ⟨k⟩) ↔ ((atL S k).who = (q : Int) ∧ (atL S k).tk = false) := by
  unfold lfOf
  split
  · rename_i h; exact ⟨fun _ => h, fun _ => rfl⟩
  · rename_i h; exact ⟨fun e => by (cases e), fun e => absurd e h⟩
theorem Rel1.iff {n : Nat} {S S' : List stIt} (h : Rel1 n S S') {k : Nat} (hk : k < n) : ((atL S k).who = (1 : Nat) ∧ (atL S k).tk = false) ↔ ((atL S' k).who = (1 : Nat) ∧ (atL S' k).tk = false) := by
  rw [← lfOf_iff, ← lfOf_iff, h.2.2 k hk]
theorem Rel1.left {n : Nat} {S S' : List stIt} (h : Rel1 n S S') : leftL S 1 = leftL S' 1 := by
  unfold leftL
  rw [h.1, h.2.1]
  exact fm_congr fun k hk => h.2.2 k (List.mem_range.1 hk)
theorem Rel1.low {n : Nat} {S S' : List stIt} (h : Rel1 n S S') {f : Nat} (hl : Low S 1 f) : Low S' 1 f := by
  have hf : f < n := by rw [← h.1]; exact hl.lt
  have := (h.iff hf).1 ⟨hl.who, hl.tk⟩
  exact ⟨by rw [h.2.1]; exact hf, this.1, this.2, fun k hk hc => hl.low k hk ((h.iff (by omega)).2 hc)⟩
theorem Rel1.set {n : Nat} {S S' : List stIt} (h : Rel1 n S S') {f : Nat} {x : stIt} (hf : f < n) : Rel1 n (S.set f x) (S'.set f x) := by
  refine ⟨by rw [List.length_set]; exact h.1, by rw [List.length_set]; exact h.2.1, fun k hk => ?_⟩
  have := h.2.2 k hk
  unfold lfOf at this ⊢
  rw [atL_setS (by rw [h.1]; exact hf), atL_setS (by rw [h.2.1]; exact hf)]
  by_cases e : k = f
  · rw [if_pos e, if_pos e]
  · rw [if_neg e, if_neg e]
    exact this
/-- A frame of another's. -/
theorem Rel1.other {n : Nat} {S S' : List stIt} (h : Rel1 n S S') {f : Nat} {x : stIt} (hf : f < n) (h0 : (atL S f).who = (0 : Nat)) (hx : x.who = (0 : Nat)) : Rel1 n (S.set f x) S' := by
  refine ⟨by rw [List.length_set]; exact h.1, h.2.1, fun k hk => ?_⟩
  rw [← h.2.2 k hk]
  unfold lfOf
  rw [atL_setS (by rw [h.1]; exact hf)]
  by_cases e : k = f
  · subst e
    rw [if_pos rfl, if_neg (by rw [hx]; simp), if_neg (by rw [h0]; simp)]
  · rw [if_neg e]
theorem Rel1.of_eq {n : Nat} {S S' : List stIt} (h : S.length = n) (e : S = S') : Rel1 n S S' := by subst e; exact ⟨h, h, fun _ _ => rfl⟩
end Go.Proofs.Ytklgfnboadchmaa
end

section
/- The reference's pool: where it lies; New. -/
namespace Go.Proofs.Ytklgfnboadchmaa
open Go.ChangeShapes Go.WideShapes Go.ChangeAt Go.RowKit
set_option linter.unusedVariables false
set_option maxRecDepth 20000

def whEnc (x : stIt) : List Value := [.int .i64 x.who]
def tkEnc (x : stIt) : List Value := [.bool x.tk]
theorem whEnc_length (x : stIt) : (whEnc x).length = 1 := rfl
theorem tkEnc_length (x : stIt) : (tkEnc x).length = 1 := rfl
def rpBlk (tp uv tv : Value) : Array Value := #[tp, uv, tv]
theorem rpBlk_ok1 (tp tv : Value) : BlkOk (fun v => rpBlk tp v tv) 1 := ⟨fun _ => rfl, fun _ _ => rfl⟩
theorem rpBlk_ok2 (tp uv : Value) : BlkOk (fun v => rpBlk tp uv v) 2 := ⟨fun _ => rfl, fun _ _ => rfl⟩
/-- The reference's pool in block q, over the store t. -/
structure RPlAt (w : World) (q t rb n : Nat) (G : Nat → Int) (uv tv : Value) (S : List stIt) : Prop where
  blk : w.heap[q]? = some (.cells (rpBlk (.pointer (some ⟨t, 0, none⟩)) uv tv) 62 (0, 0))
  whos : w.ownsRow (q + 1) 3 1 uv S.length (S.flatMap whEnc)
  tks : w.ownsRow (q + 1) 4 1 tv S.length (S.flatMap tkEnc)
  len : S.length = n
  sto : RStoAt w t rb n G
  who : ∀ f, f < n → (atL S f).who = -1 ∧ (atL S f).tk = false ∨ ∃ g : Nat, g < 16 ∧ (atL S f).who = g
/-- What a call on it may touch. -/
def tchR (rb : Nat) (uv tv : Value) (i : Nat) : Prop := i = rb ∨ some i = uv.ownBlock ∨ some i = tv.ownBlock
theorem flatMap_set_same {α : Type} [Inhabited α] {enc : α → List Value} {l : List α} {f : Nat} {x : α} (hf : f < l.length) (hx : enc x = enc (atL l f)) : (l.set f x).flatMap enc = l.flatMap enc := by
  rw [List.flatMap_def, List.flatMap_def, List.map_set, hx, atL_eq hf]
  congr 1
  rw [← List.getElem_map enc]
  exact List.set_getElem_self (by simpa using hf)
/-- One cell of a row of single cells is written. -/
theorem RowIn.cell1 {α : Type} [Inhabited α] {T t : TypeId} {enc : α → List Value} {w : World} {q : Nat} {blk : Value → Array Value} {v : Value} {l : List α} (h1 : ∀ x : α, (enc x).length = 1) (h : RowIn T 1 enc w q t blk v l) {f g cap : Nat} (hf : f < l.length)
    (hv : v = .slice (some ⟨g, 0, none⟩) l.length cap) {x : α} {u : Value} (hx : enc x = [u]) : RowIn T 1 enc (w.setCell ⟨g, f, none⟩ u) q t blk v (l.set f x) := by
  obtain ⟨cur, hcur, hcells⟩ : ∃ cur : Array Value, w.heap[g]? = some (.cells cur T (0, 0)) ∧ ∀ k, k < l.length → ∀ j, j < 1 → cur[k * 1 + j]? = (enc (atL l k))[j]? := by
    rcases h.2.2 with ⟨h2, _⟩ | ⟨g', cap', cur, hv2, _, hh, _⟩
    · rw [hv] at h2; cases h2
    · rw [hv] at hv2
      simp only [Value.slice.injEq, Option.some.injEq, Addr.mk.injEq, and_true] at hv2
      obtain ⟨rfl, _, _⟩ := hv2
      refine ⟨cur, hh, fun k hk j hj => ?_⟩
      obtain ⟨gx, cx, hvx, _, _, _, _, hc, _⟩ := h.item h1 hk
      rw [hv] at hvx
      simp only [Value.slice.injEq, Option.some.injEq, Addr.mk.injEq, and_true] at hvx
      obtain ⟨rfl, _, _⟩ := hvx
      rw [← cell_of_row _ _ _ _ _ _ hh]
      exact hc k hk j hj
  refine h.wrote h1 (g := g) (cap := cap) hv ((Upd.refl g w).setCell) (show (l.set f x).length = l.length from List.length_set ..) ⟨cur, _, hcur, heap_setCell_at hcur, by simp, fun k hk j' hj' => ?_⟩
  obtain rfl : j' = 0 := by omega
  have hsz : f < cur.size := by
    have := hcells f hf 0 (by omega)
    rw [List.getElem?_eq_getElem (by rw [h1]; omega)] at this
    have := (Array.getElem?_eq_some_iff.1 this).1
    omega
  have hk1 := hcells k hk 0 (by omega)
  simp only [Nat.mul_one, Nat.add_zero] at hk1 ⊢
  rw [atL_setS hf, Array.getElem?_setIfInBounds]
  by_cases e : f = k
  · subst e
    rw [if_pos rfl, if_pos hsz, if_pos rfl, hx]
    rfl
  · rw [if_neg e, if_neg (fun h => e h.symm), hk1]
section
variable {w w' : World} {q t rb n : Nat} {G : Nat → Int} {uv tv : Value} {S : List stIt} {p : Nat → Prop}
theorem RPlAt.lt (h : RPlAt w q t rb n G uv tv S) : q < w.heap.size := lt_heap h.blk
theorem RPlAt.rowW (h : RPlAt w q t rb n G uv tv S) : RowIn 3 1 whEnc w q 62 (fun v => rpBlk (.pointer (some ⟨t, 0, none⟩)) v tv) uv S := ⟨h.blk, h.whos⟩
theorem RPlAt.rowT (h : RPlAt w q t rb n G uv tv S) : RowIn 4 1 tkEnc w q 62 (fun v => rpBlk (.pointer (some ⟨t, 0, none⟩)) uv v) tv S := ⟨h.blk, h.tks⟩
theorem RPlAt.below (h : RPlAt w q t rb n G uv tv S) (hb : Below w.heap.size w w') : RPlAt w' q t rb n G uv tv S :=
  ⟨(hb.block q h.lt).trans h.blk, ownsRow_below h.whos hb, ownsRow_below h.tks hb, h.len, h.sto.below hb, h.who⟩
theorem RPlAt.cell0 (h : RPlAt w q t rb n G uv tv S) : w.cell? ⟨q, 0, none⟩ = some (.pointer (some ⟨t, 0, none⟩)) := (cell_of_row _ _ _ _ _ _ h.blk).trans rfl
theorem RPlAt.cell1 (h : RPlAt w q t rb n G uv tv S) : w.cell? ⟨q, 1, none⟩ = some uv := (cell_of_row _ _ _ _ _ _ h.blk).trans rfl
theorem RPlAt.cell2 (h : RPlAt w q t rb n G uv tv S) : w.cell? ⟨q, 2, none⟩ = some tv := (cell_of_row _ _ _ _ _ _ h.blk).trans rfl
theorem RPlAt.itemW (h : RPlAt w q t rb n G uv tv S) {f : Nat} (hf : f < n) : ∃ g cap, uv = .slice (some ⟨g, 0, none⟩) n cap ∧ n ≤ cap ∧ cap ≤ maxLen ∧ g < w.heap.size ∧ (∀ k, k < n → w.cell? ⟨g, k, none⟩ = some (.int .i64 (atL S k).who)) ∧ ∀ x, w.frozen? ⟨g, x, none⟩ = false := by
  obtain ⟨g, cap, hv, h1, h2, h3, h4, hc, hf2⟩ := h.rowW.item whEnc_length (i := f) (by rw [h.len]; exact hf)
  rw [h.len] at hv h1
  refine ⟨g, cap, hv, h1, h2, h4, fun k hk => ?_, hf2⟩
  have := hc k (by rw [h.len]; exact hk) 0 (by omega)
  simpa only [Nat.mul_one, Nat.add_zero, whEnc, List.getElem?_cons_zero] using this
theorem RPlAt.itemT (h : RPlAt w q t rb n G uv tv S) {f : Nat} (hf : f < n) : ∃ g cap, tv = .slice (some ⟨g, 0, none⟩) n cap ∧ n ≤ cap ∧ cap ≤ maxLen ∧ g < w.heap.size ∧ (∀ k, k < n → w.cell? ⟨g, k, none⟩ = some (.bool (atL S k).tk)) ∧ ∀ x, w.frozen? ⟨g, x, none⟩ = false := by
  obtain ⟨g, cap, hv, h1, h2, h3, h4, hc, hf2⟩ := h.rowT.item tkEnc_length (i := f) (by rw [h.len]; exact hf)
  rw [h.len] at hv h1
  refine ⟨g, cap, hv, h1, h2, h4, fun k hk => ?_, hf2⟩
  have := hc k (by rw [h.len]; exact hk) 0 (by omega)
  simpa only [Nat.mul_one, Nat.add_zero, tkEnc, List.getElem?_cons_zero] using this
theorem own_typR {B size m : Nat} {e : TypeId} {u : Value} {xs : List Value} (h : w.ownsRow B e size u m xs) {a : Nat} (ha : u.ownBlock = some a) : ∃ cur, w.heap[a]? = some (.cells cur e (0, 0)) := by
  rcases h.2 with ⟨rfl, _⟩ | ⟨g, cap, cur, rfl, hg, hh, hr⟩
  · cases ha
  · cases ha
    exact ⟨cur, hh⟩
/-- Whose a frame is was written. -/
theorem RPlAt.setWho (h : RPlAt w q t rb n G uv tv S) {f g cap : Nat} (hf : f < n) (hv : uv = .slice (some ⟨g, 0, none⟩) n cap) {x : stIt} (hx : x.tk = (atL S f).tk)
    (hw : ∃ k : Nat, k < 16 ∧ x.who = k) : RPlAt (w.setCell ⟨g, f, none⟩ (.int .i64 x.who)) q t rb n G uv tv (S.set f x) := by
  have hfS : f < S.length := by rw [h.len]; exact hf
  have hU : Upd g w (w.setCell ⟨g, f, none⟩ (.int .i64 x.who)) := (Upd.refl g w).setCell
  have hr := h.rowW.cell1 whEnc_length hfS (by rw [h.len]; exact hv) (x := x) (u := .int .i64 x.who) rfl
  obtain ⟨cur, hc⟩ := own_typR h.whos (a := g) (by rw [hv]; rfl)
  refine ⟨hr.1, hr.2, ?_, by rw [List.length_set]; exact h.len, h.sto.upd hU hc (by decide) (by decide) (by decide), fun k hk => ?_⟩
  · rw [flatMap_set_same hfS (by unfold tkEnc; rw [hx]), List.length_set]
    exact ownsRow_upd h.tks hU fun e => by
      obtain ⟨cur2, hc2⟩ := own_typR h.tks e
      exact types_ne hc2 hc (by decide) rfl
  · rw [atL_setS hfS]
    by_cases e : k = f
    · rw [if_pos e]; exact .inr hw
    · rw [if_neg e]; exact h.who k hk
/-- Whether it is taken was written. -/
theorem RPlAt.setTk (h : RPlAt w q t rb n G uv tv S) {f g cap : Nat} (hf : f < n) (hv : tv = .slice (some ⟨g, 0, none⟩) n cap) {x : stIt} (hx : x.who = (atL S f).who)
    (hw : ∃ k : Nat, k < 16 ∧ x.who = k) : RPlAt (w.setCell ⟨g, f, none⟩ (.bool x.tk)) q t rb n G uv tv (S.set f x) := by
  have hfS : f < S.length := by rw [h.len]; exact hf
  have hU : Upd g w (w.setCell ⟨g, f, none⟩ (.bool x.tk)) := (Upd.refl g w).setCell
  have hr := h.rowT.cell1 tkEnc_length hfS (by rw [h.len]; exact hv) (x := x) (u := .bool x.tk) rfl
  obtain ⟨cur, hc⟩ := own_typR h.tks (a := g) (by rw [hv]; rfl)
  refine ⟨hr.1, ?_, hr.2, by rw [List.length_set]; exact h.len, h.sto.upd hU hc (by decide) (by decide) (by decide), fun k hk => ?_⟩
  · rw [flatMap_set_same hfS (by unfold whEnc; rw [hx]), List.length_set]
    exact ownsRow_upd h.whos hU fun e => by
      obtain ⟨cur2, hc2⟩ := own_typR h.whos e
      exact types_ne hc2 hc (by decide) rfl
  · rw [atL_setS hfS]
    by_cases e : k = f
    · rw [if_pos e]; exact .inr hw
    · rw [if_neg e]; exact h.who k hk
/-- Bytes were written. -/
theorem RStoAt.blkR (h : RStoAt w t rb n G) (hn : 0 < n) : ∃ cur, w.heap[rb]? = some (.cells cur 45 (0, 0)) := by
  obtain ⟨_, _, v, h1, h2⟩ := h
  rcases h2 with ⟨rfl, rfl⟩ | ⟨c, cur, rfl, q2, q3, q4, q5, q6⟩
  · omega
  · exact ⟨cur, q4⟩
theorem RPlAt.stored (h : RPlAt w q t rb n G uv tv S) (hn : 0 < n) {G' : Nat → Int} (hU : Upd rb w w') (hs : RStoAt w' t rb n G') : RPlAt w' q t rb n G' uv tv S := by
  obtain ⟨cur, hc⟩ := h.sto.blkR hn
  have hown : ∀ {B size m : Nat} {e : TypeId} {u : Value} {xs : List Value}, w.ownsRow B e size u m xs → e ≠ 45 → u.ownBlock ≠ some rb := fun {B size m e u xs} ho he e2 => by
    obtain ⟨cur2, hc2⟩ := own_typR ho e2
    exact types_ne hc2 hc he rfl
  exact ⟨heap_upd h.blk hU (types_ne h.blk hc (by decide)), ownsRow_upd h.whos hU (hown h.whos (by decide)), ownsRow_upd h.tks hU (hown h.tks (by decide)), h.len, hs, h.who⟩
theorem RStoAt.frs (h : RStoAt w t rb n G) (f : Frs p w w') (hp : ∀ i c ty fz, w.heap[i]? = some (.cells c ty fz) → (ty = 56 ∨ ty = 45 ∨ ty = 5) → ¬ p i) : RStoAt w' t rb n G := by
  obtain ⟨hn, hG, v, h1, h2⟩ := h
  refine ⟨hn, hG, v, (f.block t (lt_heap h1) (hp _ _ _ _ h1 (.inl rfl))).trans h1, ?_⟩
  rcases h2 with h2 | ⟨c, cur, q1, q2, q3, q4, q5, q6⟩
  · exact .inl h2
  · refine .inr ⟨c, cur, q1, q2, q3, (f.block rb (lt_heap q4) (hp _ _ _ _ q4 (.inr (.inl rfl)))).trans q4, q5, fun k hk => ?_⟩
    obtain ⟨g, c', r1, r2, r3, r4⟩ := q6 k hk
    obtain ⟨cur2, s1, s2⟩ := r4
    exact ⟨g, c', r1, r2, r3, cur2, (f.block g (lt_heap s1) (hp _ _ _ _ s1 (.inr (.inr rfl)))).trans s1, s2⟩
theorem RPlAt.frs (h : RPlAt w q t rb n G uv tv S) (f : Frs p w w') (hp : ∀ i c ty fz, w.heap[i]? = some (.cells c ty fz) → (ty = 56 ∨ ty = 45 ∨ ty = 5 ∨ ty = 62 ∨ ty = 4) → ¬ p i) (hu : ∀ a, uv.ownBlock = some a → ¬ p a) : RPlAt w' q t rb n G uv tv S := by
  refine ⟨(f.block q h.lt (hp _ _ _ _ h.blk (by simp))).trans h.blk, ownsRow_frs h.whos f hu, ownsRow_frs h.tks f fun a ha => ?_, h.len, h.sto.frs f fun i c ty fz hi ht => hp i c ty fz hi ?_, h.who⟩
  · obtain ⟨cur2, hc2⟩ := own_typR h.tks ha
    exact hp _ _ _ _ hc2 (by simp)
  · rcases ht with rfl | rfl | rfl <;> simp
end
end Go.Proofs.Ytklgfnboadchmaa
end

section
/- The reference's pool: New. -/
namespace Go.Proofs.Ytklgfnboadchmaa
open Go.ChangeShapes Go.WideShapes Go.ChangeAt Go.RowKit
set_option linter.unusedVariables false
set_option maxRecDepth 20000

theorem Try.intInfo7 : (Try.prog.info? 3).map (fun i => (i.zero, i.size, i.bytes)) = some (some (.int .i64 0), 1, 8) := by kernel_rfl
theorem Try.boolInfo7 : (Try.prog.info? 4).map (fun i => (i.zero, i.size, i.bytes)) = some (some (.bool false), 1, 1) := by kernel_rfl
theorem frs_grew {w w' : World} {ob : Obj} {r : Option Nat} (hg : (w.alloc ob).grownBy w' r) : Frs (fun i => r = some i) (w.alloc ob) w' := ⟨hg.os, hg.tape, hg.output, hg.size, fun i hi hne => hg.block i hi (fun e => hne e.symm)⟩
theorem rpNewNo (t rb : Nat) (G : Nat → Int) (w : World) (h : RStoAt w t rb 0 G) :
    Calls Try.prog 29 #[.pointer (some ⟨t, 0, none⟩)] w fun e w' => e = .returned (.tuple #[.pointer none, .int .i64 7]) ∧ w = w' := by
  obtain ⟨a, c, h0⟩ := h.cell0
  go_enter Try.func29, Try.ntmps29
  go_wp2
  go_ret2
  exact ⟨rfl, rfl⟩
set_option maxRecDepth 20000 in
set_option maxHeartbeats 2000000 in
theorem rpNew (t rb n : Nat) (G : Nat → Int) (w : World) (h : RStoAt w t rb n G) (hn : 0 < n) :
    Calls Try.prog 29 #[.pointer (some ⟨t, 0, none⟩)] w fun e w' => ∃ q uv tv, e = .returned (.tuple #[.pointer (some ⟨q, 0, none⟩), .int .i64 0]) ∧ w.heap.size ≤ q ∧ RPlAt w' q t rb n G uv tv (List.replicate n ⟨-1, false⟩) ∧ Below w.heap.size w w' ∧ (∀ a, uv.ownBlock = some a → w.heap.size ≤ a) ∧ ∀ a, tv.ownBlock = some a → w.heap.size ≤ a := by
  obtain ⟨i0, hi, hz0, hz1, hz2⟩ := info_parts Try.intInfo7
  obtain ⟨j0, hj, hy0, hy1, hy2⟩ := info_parts Try.boolInfo7
  obtain ⟨a0, c0, h0⟩ := h.cell0
  have htl := h.lt
  have hn0 : ((n : Int) == 0) = false := by rw [beq_eq_false_iff_ne]; omega
  have hn32 := h.1
  have hR2 : (w.alloc (.cells (rpBlk (.pointer (some ⟨t, 0, none⟩)) (.slice none 0 0) (.slice none 0 0)) 62)).heap[w.heap.size]? = some (.cells (rpBlk (.pointer (some ⟨t, 0, none⟩)) (.slice none 0 0) (.slice none 0 0)) 62 (0, 0)) := Go.heap_alloc_new w _
  have hb2 : Bel w.heap.size w (w.alloc (.cells (rpBlk (.pointer (some ⟨t, 0, none⟩)) (.slice none 0 0) (.slice none 0 0)) 62)) := Bel.alloc (Bel.refl w)
  have h2 := h.alloc (o := .cells (rpBlk (.pointer (some ⟨t, 0, none⟩)) (.slice none 0 0) (.slice none 0 0)) 62)
  go_enter Try.func29, Try.ntmps29
  go_wp2_with fail
  go_loopw [5] (fun kv wr => ∃ (k : Nat) (uv tv : Value), k ≤ n ∧ kv = .int .i64 k ∧ wr.heap[w.heap.size]? = some (.cells (rpBlk (.pointer (some ⟨t, 0, none⟩)) uv tv) 62 (0, 0)) ∧ wr.ownsRow (w.heap.size + 1) 3 1 uv k ((List.replicate k (⟨-1, false⟩ : stIt)).flatMap whEnc) ∧ wr.ownsRow (w.heap.size + 1) 4 1 tv k ((List.replicate k (⟨-1, false⟩ : stIt)).flatMap tkEnc) ∧ Bel w.heap.size w wr) (fun kv _ => n - (intOf kv).toNat)
  case atStart => exact ⟨0, .slice none 0 0, .slice none 0 0, Nat.zero_le _, rfl, hR2, World.ownsRow_nil _ _ _ _, World.ownsRow_nil _ _ _ _, hb2⟩
  case round =>
    obtain ⟨k, uv, tv, hk, rfl, hR, hU, hT, hbel⟩ := hrel
    clear hR2 hb2 h2
    have hlt := lt_heap hR
    have c00 : wr.cell? ⟨t, 0, none⟩ = some (.slice a0 n c0) := (hbel.1.cell (p := ⟨t, 0, none⟩) htl).trans h0
    by_cases hkn : k < n
    · have q0 : wr.cell? ⟨w.heap.size, 1, none⟩ = some uv := (cell_of_row _ _ _ _ _ _ hR).trans rfl
      have hneU : uv.ownBlock ≠ some w.heap.size := fun e => by have := (hU.lt _ e).1; omega
      have hneT : tv.ownBlock ≠ some w.heap.size := fun e => by have := (hT.lt _ e).1; omega
      have hUT : ∀ a, tv.ownBlock = some a → ¬ uv.ownBlock = some a := fun a h1 h2 => by
        obtain ⟨cur, hc⟩ := own_typR hU h2
        obtain ⟨cur2, hc2⟩ := own_typR hT h1
        exact types_ne hc hc2 (by decide) rfl
      obtain ⟨a, c, rfl⟩ := ownsRow_shape hU
      have hsU : (List.replicate (k + 1) (⟨-1, false⟩ : stIt)).flatMap whEnc = (List.replicate k (⟨-1, false⟩ : stIt)).flatMap whEnc ++ [.int .i64 (-1)] := by
        rw [List.replicate_succ', List.flatMap_append]
        rfl
      have hsT : (List.replicate (k + 1) (⟨-1, false⟩ : stIt)).flatMap tkEnc = (List.replicate k (⟨-1, false⟩ : stIt)).flatMap tkEnc ++ [.bool false] := by
        rw [List.replicate_succ', List.flatMap_append]
        rfl
      have HU := Lib.hid hsU
      have HT := Lib.hid hsT
      have HUT := Lib.hid hUT
      clear hsU hsT hUT
      go_wp2_with (at_builtin; refine wpList_append_lies _ rfl _ _ 39 rfl (w.heap.size + 1) 3 i0 (.int .i64 0) 1 8 Try.underlying39 hi hz0 hz1 hz2 rfl (by decide) _ _ _ rfl (World.ownsRow.alloc hU _) ⟨wr.heap.size, 0, none⟩ 1 1 [.int .i64 (-1)] rfl rfl ?c1 ?c2 (by decide) ?c3 ?c4 ?c5 (wr.heap.size + 1) ?c6 ?_)
      case c1 =>
        intro x u hx
        match x, hx with
        | 0, hx => simp at hx; subst hx; simp [Addr.add]
      case c2 => intro u hu; simp at hu; subst hu; rfl
      case c3 => unfold maxLen; omega
      case c4 => omega
      case c5 => simp; omega
      case c6 => simp
      intro g4 cap4 w4 hown4 hgrow hat hlt4
      have hfr := frs_grew hgrow
      have hT4 := ownsRow_frs (hT.alloc _) hfr (fun a ha => HUT.out a ha)
      have r4 := (hfr.block w.heap.size (by simp; omega) hneU).trans (heap_alloc hR)
      have q4 : w4.cell? ⟨w.heap.size, 1, none⟩ = some (.slice a k c) := (cell_of_row _ _ _ _ _ _ r4).trans rfl
      have z4 : w4.frozen? ⟨w.heap.size, 1, none⟩ = false := by simp [World.frozen?, r4]
      have hbel4 : Bel w.heap.size w w4 := hbel.append (ownsRow_base hU (by omega)) hgrow
      have r5 : (w4.setCell ⟨w.heap.size, 1, none⟩ (.slice (some ⟨g4, 0, none⟩) (k + 1) cap4)).heap[w.heap.size]? = some (.cells (rpBlk (.pointer (some ⟨t, 0, none⟩)) (.slice (some ⟨g4, 0, none⟩) (k + 1) cap4) tv) 62 (0, 0)) := heap_setCell_at (o := 1) r4
      have hU5 : Upd w.heap.size w4 (w4.setCell ⟨w.heap.size, 1, none⟩ (.slice (some ⟨g4, 0, none⟩) (k + 1) cap4)) := (Upd.refl _ w4).setCell
      have u5 := ownsRow_upd hown4 hU5 (fun e => by have := (hown4.lt _ e).1; omega)
      have t5 := ownsRow_upd hT4 hU5 hneT
      have hbel5 := Bel.setCell (p := ⟨w.heap.size, 1, none⟩) (u := .slice (some ⟨g4, 0, none⟩) (k + 1) cap4) hbel4 (Nat.le_refl _)
      have hs4 : w.heap.size < w4.heap.size := lt_heap r4
      have q6 : w4.cell? ⟨w.heap.size, 2, none⟩ = some tv := (cell_of_row _ _ _ _ _ _ r4).trans rfl
      obtain ⟨ta, tc, rfl⟩ := ownsRow_shape hT
      clear hR hU hT hgrow hat hfr hT4 r4 hbel hbel4 hU5 q0
      go_wp2_with (at_builtin; refine wpList_append_lies _ rfl _ _ 60 rfl (w.heap.size + 1) 4 j0 (.bool false) 1 1 Try.underlying60 hj hy0 hy1 hy2 rfl (by decide) _ _ _ rfl (World.ownsRow.alloc t5 _) ⟨w4.heap.size, 0, none⟩ 1 1 [.bool false] rfl rfl ?c1 ?c2 (by decide) ?c3 ?c4 ?c5 (w4.heap.size + 1) ?c6 ?_)
      case c1 =>
        intro x u hx
        match x, hx with
        | 0, hx =>
          simp at hx
          subst hx
          have hn := Go.heap_alloc_new (w4.setCell ⟨w.heap.size, 1, none⟩ (.slice (some ⟨g4, 0, none⟩) (k + 1) cap4)) (.cells #[.bool false] 4)
          rw [show (w4.setCell ⟨w.heap.size, 1, none⟩ (.slice (some ⟨g4, 0, none⟩) (k + 1) cap4)).heap.size = w4.heap.size by simp] at hn
          exact (cell_of_row _ _ _ _ _ _ hn).trans rfl
      case c2 => intro u hu; simp at hu; subst hu; rfl
      case c3 => unfold maxLen; omega
      case c4 => omega
      case c5 => simp; omega
      case c6 => simp
      intro g7 cap7 w7 hown7 hgrow hat hlt7
      have hfr := frs_grew hgrow
      have hneT7 : (Value.slice ta k tc).ownBlock ≠ some w.heap.size := fun e => by have := (t5.lt _ e).1; omega
      have u7 := ownsRow_frs (u5.alloc _) hfr (fun a ha e => by
        obtain ⟨cur, hc⟩ := own_typR u5 ha
        obtain ⟨cur2, hc2⟩ := own_typR t5 e
        exact types_ne hc hc2 (by decide) rfl)
      have r7 := (hfr.block w.heap.size (by simp; omega) hneT7).trans (heap_alloc r5)
      have z7 : w7.frozen? ⟨w.heap.size, 2, none⟩ = false := by simp [World.frozen?, r7]
      have q7 : w7.cell? ⟨w.heap.size, 2, none⟩ = some (.slice ta k tc) := (cell_of_row _ _ _ _ _ _ r7).trans rfl
      have hbel7 : Bel w.heap.size w w7 := hbel5.append (ownsRow_base t5 (by omega)) hgrow
      have r8 : (w7.setCell ⟨w.heap.size, 2, none⟩ (.slice (some ⟨g7, 0, none⟩) (k + 1) cap7)).heap[w.heap.size]? = some (.cells (rpBlk (.pointer (some ⟨t, 0, none⟩)) (.slice (some ⟨g4, 0, none⟩) (k + 1) cap4) (.slice (some ⟨g7, 0, none⟩) (k + 1) cap7)) 62 (0, 0)) := heap_setCell_at (o := 2) r7
      have hU8 : Upd w.heap.size w7 (w7.setCell ⟨w.heap.size, 2, none⟩ (.slice (some ⟨g7, 0, none⟩) (k + 1) cap7)) := (Upd.refl _ w7).setCell
      have u8 := ownsRow_upd u7 hU8 (fun e => by have := (u7.lt _ e).1; omega)
      have t8 := ownsRow_upd hown7 hU8 (fun e => by have := (hown7.lt _ e).1; omega)
      have hbel8 := Bel.setCell (p := ⟨w.heap.size, 2, none⟩) (u := .slice (some ⟨g7, 0, none⟩) (k + 1) cap7) hbel7 (Nat.le_refl _)
      clear hown4 r5 u5 t5 hbel5 hown7 hgrow hat hfr u7 r7 hbel7 hU8 q4 q6 z4 hneT7
      go_wp2
      go_roundw
      case rel => exact ⟨k + 1, _, _, by omega, by go_num, r8, by rw [HU.out]; exact u8, by rw [HT.out]; exact t8, hbel8⟩
      case measure => simp [intOf]; omega
    · have e : n = k := by omega
      subst e
      have hS := h.below hbel.1
      have hlenr : (List.replicate n (⟨-1, false⟩ : stIt)).length = n := List.length_replicate
      go_wp2
      go_ret2
      refine ⟨w.heap.size, uv, tv, rfl, Nat.le_refl _, ⟨hR, by rw [hlenr]; exact hU, by rw [hlenr]; exact hT, hlenr, hS, fun f hf => .inl (by rw [atL_replicate hf]; exact ⟨rfl, rfl⟩)⟩, hbel.1, fun a ha => ?_, fun a ha => ?_⟩
      · have := (hU.lt a ha).1; omega
      · have := (hT.lt a ha).1; omega
end Go.Proofs.Ytklgfnboadchmaa
end

section
/- The reference's pool: its methods. -/
namespace Go.Proofs.Ytklgfnboadchmaa
open Go.ChangeShapes Go.WideShapes Go.ChangeAt Go.RowKit
set_option linter.unusedVariables false
set_option maxRecDepth 20000

section
variable {q t rb n : Nat} {G : Nat → Int} {uv tv : Value} {S : List stIt}
theorem rpOwnNo (f who : Int) (w : World) (h : RPlAt w q t rb n G uv tv S) (hf : (Lit.int .i64 f).wf = true) (hno : f < 0 ∨ (n : Int) ≤ f ∨ who < 0 ∨ 16 ≤ who) :
    Calls Try.prog 31 #[.pointer (some ⟨q, 0, none⟩), .int .i64 f, .int .i64 who] w fun e w' => e = .returned (.int .i64 1) ∧ w = w' := by
  have h0 := h.cell0
  by_cases hin : f < 0 ∨ (n : Int) ≤ f
  · clear hno
    go_enter Try.func31, Try.ntmps31
    go_wp2_with fail
    refine (is_no t rb n f G _ h.sto hf hin).mono ?_
    rintro e w' ⟨rfl, rfl⟩
    go_wp2
    go_ret
    exact ⟨rfl, rfl⟩
  · obtain ⟨k, rfl⟩ : ∃ k : Nat, f = k := ⟨f.toNat, by omega⟩
    have hk : k < n := by omega
    have hw : who < 0 ∨ ¬ who < 0 ∧ 16 ≤ who := by omega
    clear hno hin
    rcases hw with hw | ⟨hw, hw2⟩
    all_goals
      go_enter Try.func31, Try.ntmps31
      go_wp2_with fail
      refine (is_yes t rb n k G _ h.sto hk).mono ?_
      rintro e w' ⟨rfl, rfl⟩
      go_wp2
      go_ret
      exact ⟨rfl, rfl⟩
theorem rpOwnUsed (f g : Nat) (w : World) (h : RPlAt w q t rb n G uv tv S) (hf : f < n) (hg : g < 16) (hw : (atL S f).who ≠ -1) :
    Calls Try.prog 31 #[.pointer (some ⟨q, 0, none⟩), .int .i64 f, .int .i64 g] w fun e w' => e = .returned (.int .i64 5) ∧ w = w' := by
  have h0 := h.cell0
  have h1 := h.cell1
  obtain ⟨gw, cap, rfl, hc1, hc2, hgl, hc, hfz⟩ := h.itemW hf
  have hcf := hc f hf
  have hge : (atL S f).who ≥ 0 := by
    rcases h.who f hf with hx | ⟨k, hk, hx⟩
    · exact absurd hx.1 hw
    · omega
  generalize (atL S f).who = x at *
  clear hc hw
  go_enter Try.func31, Try.ntmps31
  go_wp2_with fail
  refine (is_yes t rb n f G _ h.sto hf).mono ?_
  rintro e w' ⟨rfl, rfl⟩
  go_wp2
  go_ret
  exact ⟨rfl, rfl⟩
theorem rpOwn (f g : Nat) (w : World) (h : RPlAt w q t rb n G uv tv S) (hf : f < n) (hg : g < 16) (hw : (atL S f).who = -1) :
    Calls Try.prog 31 #[.pointer (some ⟨q, 0, none⟩), .int .i64 f, .int .i64 g] w fun e w' => e = .returned (.int .i64 0) ∧ RPlAt w' q t rb n (putF G (f * 64) 64 0) uv tv (S.set f ⟨g, false⟩) ∧ Frs (tchR rb uv tv) w w' := by
  have h0 := h.cell0
  have h1 := h.cell1
  have htk : (atL S f).tk = false := by
    rcases h.who f hf with hx | ⟨k, hk, hx⟩
    · exact hx.2
    · omega
  obtain ⟨gw, cap, hv, hc1, hc2, hgl, hc, hfz⟩ := h.itemW hf
  have hcf := hc f hf
  rw [hw] at hcf
  have hfzf := hfz f
  have hS := h.setWho (x := ⟨(g : Nat), false⟩) hf hv (by rw [htk]) ⟨g, hg, rfl⟩
  have hF : Frs (tchR rb uv tv) w (w.setCell ⟨gw, f, none⟩ (.int .i64 g)) := Frs.of_upd ((Upd.refl gw w).setCell) (.inr (.inl (by rw [hv]; rfl)))
  have hsto := h.sto
  have hq0 := hS.cell0
  have hHF := Lib.hid hF
  rw [hv] at h1
  clear hc hfz h hF
  have hHS := Lib.hid hS
  clear hS
  go_enter Try.func31, Try.ntmps31
  go_wp2_with fail
  refine (is_yes t rb n f G _ hsto hf).mono ?_
  rintro e w' ⟨rfl, rfl⟩
  go_wp2_with fail
  refine (rclear_in t rb n f G _ hHS.out.sto hf).mono ?_
  rintro e w' ⟨rfl, u2, s2⟩
  go_wp2
  go_ret
  exact ⟨rfl, hHS.out.stored (by omega) u2 s2, hHF.out.trans (Frs.of_upd u2 (.inl rfl))⟩
theorem rpBackNo (f : Int) (w : World) (h : RPlAt w q t rb n G uv tv S) (hf : (Lit.int .i64 f).wf = true) (hno : f < 0 ∨ (n : Int) ≤ f) :
    Calls Try.prog 45 #[.pointer (some ⟨q, 0, none⟩), .int .i64 f] w fun e w' => e = .returned (.int .i64 1) ∧ w = w' := by
  have h0 := h.cell0
  go_enter Try.func45, Try.ntmps45
  go_wp2_with fail
  refine (is_no t rb n f G _ h.sto hf hno).mono ?_
  rintro e w' ⟨rfl, rfl⟩
  go_wp2
  go_ret
  exact ⟨rfl, rfl⟩
theorem rpBackFree (f : Nat) (w : World) (h : RPlAt w q t rb n G uv tv S) (hf : f < n) (ht : (atL S f).tk = false) :
    Calls Try.prog 45 #[.pointer (some ⟨q, 0, none⟩), .int .i64 f] w fun e w' => e = .returned (.int .i64 3) ∧ w = w' := by
  have h0 := h.cell0
  have h2 := h.cell2
  obtain ⟨gw, cap, rfl, hc1, hc2, hgl, hc, hfz⟩ := h.itemT hf
  have hcf := hc f hf
  rw [ht] at hcf
  clear hc
  go_enter Try.func45, Try.ntmps45
  go_wp2_with fail
  refine (is_yes t rb n f G _ h.sto hf).mono ?_
  rintro e w' ⟨rfl, rfl⟩
  go_wp2
  go_ret
  exact ⟨rfl, rfl⟩
theorem rpBack (f g : Nat) (w : World) (h : RPlAt w q t rb n G uv tv S) (hf : f < n) (hg : g < 16) (hw : (atL S f).who = g) (ht : (atL S f).tk = true) :
    Calls Try.prog 45 #[.pointer (some ⟨q, 0, none⟩), .int .i64 f] w fun e w' => e = .returned (.int .i64 0) ∧ RPlAt w' q t rb n (putF G (f * 64) 64 0) uv tv (S.set f ⟨g, false⟩) ∧ Frs (tchR rb uv tv) w w' := by
  have h0 := h.cell0
  have h2 := h.cell2
  obtain ⟨gw, cap, hv, hc1, hc2, hgl, hc, hfz⟩ := h.itemT hf
  have hcf := hc f hf
  rw [ht] at hcf
  have hfzf := hfz f
  have hS := h.setTk (x := ⟨(g : Nat), false⟩) hf hv (by rw [hw]) ⟨g, hg, rfl⟩
  have hF : Frs (tchR rb uv tv) w (w.setCell ⟨gw, f, none⟩ (.bool false)) := Frs.of_upd ((Upd.refl gw w).setCell) (.inr (.inr (by rw [hv]; rfl)))
  have hsto := h.sto
  have hq0 := hS.cell0
  have hHF := Lib.hid hF
  rw [hv] at h2
  clear hc hfz h hF
  have hHS := Lib.hid hS
  clear hS
  go_enter Try.func45, Try.ntmps45
  go_wp2_with fail
  refine (is_yes t rb n f G _ hsto hf).mono ?_
  rintro e w' ⟨rfl, rfl⟩
  go_wp2_with fail
  refine (rclear_in t rb n f G _ hHS.out.sto hf).mono ?_
  rintro e w' ⟨rfl, u2, s2⟩
  go_wp2
  go_ret
  exact ⟨rfl, hHS.out.stored (by omega) u2 s2, hHF.out.trans (Frs.of_upd u2 (.inl rfl))⟩
theorem rpTakeBad (g : Int) (w : World) (h : RPlAt w q t rb n G uv tv S) (hg : g < 0 ∨ 16 ≤ g) :
    Calls Try.prog 48 #[.pointer (some ⟨q, 0, none⟩), .int .i64 g] w fun e w' => e = .returned (.tuple #[.int .i64 0, .int .i64 1]) ∧ w = w' := by
  have hw : g < 0 ∨ ¬ g < 0 ∧ 16 ≤ g := by omega
  clear hg h
  rcases hw with hw | ⟨hw, hw2⟩
  all_goals
    go_enter Try.func48, Try.ntmps48
    go_wp2
    go_ret2
    exact ⟨rfl, rfl⟩
end
end Go.Proofs.Ytklgfnboadchmaa
end

section
/- The reference's pool: Take, Left. -/
namespace Go.Proofs.Ytklgfnboadchmaa
open Go.ChangeShapes Go.WideShapes Go.ChangeAt Go.RowKit
set_option linter.unusedVariables false
set_option maxRecDepth 20000

section
variable {q t rb n : Nat} {G : Nat → Int} {uv tv : Value} {S : List stIt}
set_option maxHeartbeats 1000000 in
theorem rpTakeFull (g : Nat) (w : World) (h : RPlAt w q t rb n G uv tv S) (hg : g < 16) (hno : ∀ k, k < n → ¬ ((atL S k).who = g ∧ (atL S k).tk = false)) :
    Calls Try.prog 48 #[.pointer (some ⟨q, 0, none⟩), .int .i64 g] w fun e w' => e = .returned (.tuple #[.int .i64 0, .int .i64 2]) ∧ w = w' := by
  have h1 := h.cell1
  have h2 := h.cell2
  have hn32 := h.sto.1
  obtain ⟨ua, uc, hu⟩ := ownsRow_shape h.whos
  obtain ⟨ta, tc, ht⟩ := ownsRow_shape h.tks
  rw [h.len] at hu ht
  subst hu
  subst ht
  have hng : ¬ (g : Int) < 0 := by omega
  go_enter Try.func48, Try.ntmps48
  go_wp2_with fail
  go_loopw [6] (fun iv wr => ∃ k : Nat, k ≤ n ∧ iv = .int .i64 k ∧ wr = w ∧ ∀ j, j < k → ¬ ((atL S j).who = g ∧ (atL S j).tk = false)) (fun iv _ => n - (intOf iv).toNat)
  case atStart => exact ⟨0, Nat.zero_le _, rfl, rfl, fun j hj => by omega⟩
  case round =>
    obtain ⟨k, hk, rfl, rfl, hpre⟩ := hrel
    by_cases hkn : k < n
    · obtain ⟨gw, cap, hv, hc1, hc2, hgl, hc, hfz⟩ := h.itemW hkn
      obtain ⟨gt, capt, hvt, hd1, hd2, hgtl, hd, hfzt⟩ := h.itemT hkn
      cases hv
      cases hvt
      have hcf := hc k hkn
      have hdf := hd k hkn
      clear hc hd
      by_cases hx : (atL S k).who = g
      · cases hy : (atL S k).tk
        · exact absurd ⟨hx, hy⟩ (hno k hkn)
        · rw [hx] at hcf
          rw [hy] at hdf
          go_wp2
          go_roundw
          case rel =>
            refine ⟨k + 1, by omega, by go_num, by trivial, fun j hj hc => ?_⟩
            by_cases e : j = k
            · subst e
              first
              | exact hx hc.1
              | (rw [hc.2] at hy; cases hy)
            · exact hpre j (by omega) hc
          case measure => simp [intOf]; omega
      · obtain ⟨x, hxe⟩ : ∃ x, (atL S k).who = x := ⟨_, rfl⟩
        have hy : True := trivial
        rw [hxe] at hcf
        have hxg : ((x == (g : Int)) = false) := by rw [beq_eq_false_iff_ne, ← hxe]; exact hx
        clear hxe
        go_wp2
        go_roundw
        case rel =>
          refine ⟨k + 1, by omega, by go_num, by trivial, fun j hj hc => ?_⟩
          by_cases e : j = k
          · subst e
            first
            | exact hx hc.1
            | (rw [hc.2] at hy; cases hy)
          · exact hpre j (by omega) hc
        case measure => simp [intOf]; omega
    · go_wp2
      go_ret2
      exact ⟨rfl, rfl⟩
set_option maxHeartbeats 1000000 in
theorem rpTake (g f : Nat) (w : World) (h : RPlAt w q t rb n G uv tv S) (hg : g < 16) (hlow : Low S g f) :
    Calls Try.prog 48 #[.pointer (some ⟨q, 0, none⟩), .int .i64 g] w fun e w' => e = .returned (.tuple #[.int .i64 f, .int .i64 0]) ∧ RPlAt w' q t rb n G uv tv (S.set f ⟨g, true⟩) ∧ Frs (tchR rb uv tv) w w' := by
  have h1 := h.cell1
  have h2 := h.cell2
  have hn32 := h.sto.1
  have hfn : f < n := by rw [← h.len]; exact hlow.lt
  obtain ⟨ua, uc, hu⟩ := ownsRow_shape h.whos
  obtain ⟨ta, tc, ht⟩ := ownsRow_shape h.tks
  rw [h.len] at hu ht
  subst hu
  subst ht
  have hng : ¬ (g : Int) < 0 := by omega
  go_enter Try.func48, Try.ntmps48
  go_wp2_with fail
  go_loopw [6] (fun iv wr => ∃ k : Nat, k ≤ n ∧ iv = .int .i64 k ∧ wr = w ∧ ∀ j, j < k → ¬ ((atL S j).who = g ∧ (atL S j).tk = false)) (fun iv _ => n - (intOf iv).toNat)
  case atStart => exact ⟨0, Nat.zero_le _, rfl, rfl, fun j hj => by omega⟩
  case round =>
    obtain ⟨k, hk, rfl, rfl, hpre⟩ := hrel
    by_cases hkn : k < n
    · obtain ⟨gw, cap, hv, hc1, hc2, hgl, hc, hfz⟩ := h.itemW hkn
      obtain ⟨gt, capt, hvt, hd1, hd2, hgtl, hd, hfzt⟩ := h.itemT hkn
      have hS := fun hx : (atL S k).who = g => h.setTk (x := ⟨(g : Nat), true⟩) hkn hvt hx.symm ⟨g, hg, rfl⟩
      cases hv
      cases hvt
      have hcf := hc k hkn
      have hdf := hd k hkn
      have hzt := hfzt k
      clear hc hd
      by_cases hx : (atL S k).who = g
      · cases hy : (atL S k).tk
        · have hkf : k = f := by
            rcases Nat.lt_trichotomy k f with hh | hh | hh
            · exact absurd ⟨hx, hy⟩ (hlow.low k hh)
            · exact hh
            · exact absurd ⟨hlow.who, hlow.tk⟩ (hpre f hh)
          subst hkf
          have hS2 := Lib.hid (hS hx)
          rw [hx] at hcf
          rw [hy] at hdf
          clear hS hfz hfzt
          go_wp2
          go_ret2
          exact ⟨rfl, hS2.out, Frs.of_upd ((Upd.refl gt wr).setCell) (.inr (.inr rfl))⟩
        · rw [hx] at hcf
          rw [hy] at hdf
          clear hS
          go_wp2
          go_roundw
          case rel =>
            refine ⟨k + 1, by omega, by go_num, by trivial, fun j hj hc => ?_⟩
            by_cases e : j = k
            · subst e
              first
              | exact hx hc.1
              | (rw [hc.2] at hy; cases hy)
            · exact hpre j (by omega) hc
          case measure => simp [intOf]; omega
      · obtain ⟨x, hxe⟩ : ∃ x, (atL S k).who = x := ⟨_, rfl⟩
        have hy : True := trivial
        rw [hxe] at hcf
        have hxg : ((x == (g : Int)) = false) := by rw [beq_eq_false_iff_ne, ← hxe]; exact hx
        clear hxe hS
        go_wp2
        go_roundw
        case rel =>
          refine ⟨k + 1, by omega, by go_num, by trivial, fun j hj hc => ?_⟩
          by_cases e : j = k
          · subst e
            first
            | exact hx hc.1
            | (rw [hc.2] at hy; cases hy)
          · exact hpre j (by omega) hc
        case measure => simp [intOf]; omega
    · exact absurd ⟨hlow.who, hlow.tk⟩ (hpre f (by omega))
/-- How many of the first k are left. -/
def cntL (S : List stIt) (g k : Nat) : Nat := ((List.range k).filterMap (lfOf S g)).length
theorem cntL_succ (S : List stIt) (g k : Nat) : cntL S g (k + 1) = cntL S g k + if (atL S k).who = (g : Int) ∧ (atL S k).tk = false then 1 else 0 := by
  unfold cntL
  rw [List.range_succ, List.filterMap_append, List.length_append]
  congr 1
  unfold lfOf
  by_cases h : (atL S k).who = (g : Int) ∧ (atL S k).tk = false
  · simp [h]
  · simp [h]
theorem cntL_le (S : List stIt) (g k : Nat) : cntL S g k ≤ k := by
  have := List.length_filterMap_le (lfOf S g) (List.range k)
  simpa [cntL] using this
set_option maxHeartbeats 1000000 in
theorem rpLeft (g : Nat) (w : World) (h : RPlAt w q t rb n G uv tv S) :
    Calls Try.prog 46 #[.pointer (some ⟨q, 0, none⟩), .int .i64 g] w fun e w' => e = .returned (.int .i64 (leftL S g).length) ∧ w = w' := by
  have h1 := h.cell1
  have h2 := h.cell2
  have hn32 := h.sto.1
  obtain ⟨ua, uc, hu⟩ := ownsRow_shape h.whos
  obtain ⟨ta, tc, ht⟩ := ownsRow_shape h.tks
  rw [h.len] at hu ht
  subst hu
  subst ht
  have hng : (g : Int) ≥ 0 := by omega
  go_enter Try.func46, Try.ntmps46
  go_wp2_with fail
  go_loopw [5, 6] (fun nv iv wr => ∃ k : Nat, k ≤ n ∧ iv = .int .i64 k ∧ wr = w ∧ nv = .int .i64 (cntL S g k)) (fun _ iv _ => n - (intOf iv).toNat)
  case atStart => exact ⟨0, Nat.zero_le _, rfl, rfl, rfl⟩
  case round =>
    obtain ⟨k, hk, rfl, rfl, rfl⟩ := hrel
    have hcs := cntL_succ S g k
    have hcl := cntL_le S g k
    by_cases hkn : k < n
    · obtain ⟨gw, cap, hv, hc1, hc2, hgl, hc, hfz⟩ := h.itemW hkn
      obtain ⟨gt, capt, hvt, hd1, hd2, hgtl, hd, hfzt⟩ := h.itemT hkn
      cases hv
      cases hvt
      have hcf := hc k hkn
      have hdf := hd k hkn
      clear hc hd
      by_cases hx : (atL S k).who = g
      · cases hy : (atL S k).tk
        · rw [if_pos ⟨hx, hy⟩] at hcs
          rw [hx] at hcf
          rw [hy] at hdf
          have HCS := Lib.hid hcs
          clear hcs
          go_wp2
          go_roundw
          case rel => exact ⟨k + 1, by omega, by go_num, by trivial, by rw [HCS.out]; go_num⟩
          case measure => simp [intOf]; omega
        · rw [if_neg (by rw [hy]; simp)] at hcs
          rw [hx] at hcf
          rw [hy] at hdf
          have HCS := Lib.hid hcs
          clear hcs
          go_wp2
          go_roundw
          case rel => exact ⟨k + 1, by omega, by go_num, by trivial, by rw [HCS.out]; go_num⟩
          case measure => simp [intOf]; omega
      · rw [if_neg (fun hh => hx hh.1)] at hcs
        obtain ⟨x, hxe⟩ : ∃ x, (atL S k).who = x := ⟨_, rfl⟩
        rw [hxe] at hcf
        have hxg : ((x == (g : Int)) = false) := by rw [beq_eq_false_iff_ne, ← hxe]; exact hx
        have HCS := Lib.hid hcs
        clear hxe hcs
        go_wp2
        go_roundw
        case rel => exact ⟨k + 1, by omega, by go_num, by trivial, by rw [HCS.out]; go_num⟩
        case measure => simp [intOf]; omega
    · have e : n = k := by omega
      subst e
      have hl : (leftL S g).length = cntL S g n := by
        unfold leftL cntL
        rw [h.len]
      have HL := Lib.hid hl
      clear hl hcs
      go_wp2
      go_ret
      refine ⟨?_, rfl⟩
      rw [HL.out]
      rfl
theorem rpLeftNeg (g : Int) (w : World) (h : RPlAt w q t rb n G uv tv S) (hg : g < 0) :
    Calls Try.prog 46 #[.pointer (some ⟨q, 0, none⟩), .int .i64 g] w fun e w' => e = .returned (.int .i64 0) ∧ w = w' := by
  have h1 := h.cell1
  have h2 := h.cell2
  have hn32 := h.sto.1
  obtain ⟨ua, uc, hu⟩ := ownsRow_shape h.whos
  obtain ⟨ta, tc, ht⟩ := ownsRow_shape h.tks
  rw [h.len] at hu ht
  subst hu
  subst ht
  have hng : ¬ g ≥ 0 := by omega
  go_enter Try.func46, Try.ntmps46
  go_wp2_with fail
  go_loopw [5, 6] (fun nv iv wr => ∃ k : Nat, k ≤ n ∧ iv = .int .i64 k ∧ wr = w ∧ nv = .int .i64 0) (fun _ iv _ => n - (intOf iv).toNat)
  case atStart => exact ⟨0, Nat.zero_le _, rfl, rfl, rfl⟩
  case round =>
    obtain ⟨k, hk, rfl, rfl, rfl⟩ := hrel
    by_cases hkn : k < n
    · obtain ⟨gw, cap, hv, hc1, hc2, hgl, hc, hfz⟩ := h.itemW hkn
      cases hv
      have hcf := hc k hkn
      clear hc
      obtain ⟨x, hxe⟩ : ∃ x, (atL S k).who = x := ⟨_, rfl⟩
      rw [hxe] at hcf
      clear hxe
      go_wp2
      all_goals
        go_roundw
        case rel => exact ⟨k + 1, by omega, by go_num, by trivial, by trivial⟩
        case measure => simp [intOf]; omega
    · go_wp2
      go_ret
      exact ⟨rfl, rfl⟩
end
end Go.Proofs.Ytklgfnboadchmaa
end
