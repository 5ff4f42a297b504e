/- TimerPlays: the timers beside the reference's. -/
import Derived.Test.YtjlhdbkhebfghaaR29d
import Derived.Test.YtjlhdbkhebfghaaInts
namespace Go.Proofs.Ytjlhdbkhebfghaa
open Go.ChangeShapes Go.WideShapes Go.ChangeAt Go.RowKit
set_option linter.unusedVariables false

structure Play (w0 : World) (w : World) (rb : Nat) (u : Nat → Bool) (now : Nat) (v : Value) (l : List trIt) (rv : Value) (m : List trIt) : Prop where
  tm : TmAt w w0.heap.size u now v l
  rf : RfAt w rb rv m
  lt : w0.heap.size < rb
  bel : Bel w0.heap.size w0 w
  perm : l.Perm m
  ids : Ids u l
  since : m.Pairwise fun a b => a.since < b.since
  max : ∀ x ∈ m, x.since ≤ now

section
variable {w0 w w2 w3 : World} {rb now now2 : Nat} {u u2 : Nat → Bool} {v v2 rv rv3 : Value} {l l2 m m2 : List trIt}
theorem Play.below (h : Play w0 w rb u now v l rv m) (hb : Below w.heap.size w w2) : Play w0 w2 rb u now v l rv m :=
  ⟨h.tm.below hb, h.rf.below hb, h.lt, h.bel.of hb, h.perm, h.ids, h.since, h.max⟩
theorem Play.armedM (h : Play w0 w rb u now v l rv m) : Armed m := ⟨h.since, (h.perm.symm.map _).nodup_iff.2 h.ids.nodup⟩
theorem Play.le (h : Play w0 w rb u now v l rv m) : l.length ≤ 4 ∧ m.length = l.length := ⟨h.ids.le, h.perm.symm.length_eq⟩
/-- Both moved. -/
theorem Play.move (h : Play w0 w rb u now v l rv m) (t2 : TmAt w2 w0.heap.size u2 now2 v2 l2) (f2 : Frm w0.heap.size v v2 w w2) (r3 : RfAt w3 rb rv3 m2) (f3 : Frm rb rv rv3 w2 w3)
    (hp : l2.Perm m2) (hi : Ids u2 l2) (hs : m2.Pairwise fun a b => a.since < b.since) (hm : ∀ x ∈ m2, x.since ≤ now2) : Play w0 w3 rb u2 now2 v2 l2 rv3 m2 := by
  have r2 : RfAt w2 rb rv m := h.rf.frm h.tm.row f2 (by decide) (by decide) (by decide) (by decide)
  have t3 : trRow w3 w0.heap.size (tmBlk u2 now2) v2 l2 := t2.row.frm r2 f3 (by decide) (by decide) (by decide) (by decide)
  refine ⟨⟨t3, t2.heap⟩, r3, h.lt, ?_, hp, hi, hs, hm⟩
  have b2 := h.bel.frm f2 (Nat.le_refl _) (fun g hg => Nat.le_of_lt (h.tm.row.own g hg).1)
  exact b2.frm f3 (Nat.le_of_lt h.lt) (fun g hg => by have := (h.rf.own g hg).1; have := h.lt; omega)
theorem Play.rf2 (h : Play w0 w rb u now v l rv m) (f2 : Frm w0.heap.size v v2 w w2) : RfAt w2 rb rv m := h.rf.frm h.tm.row f2 (by decide) (by decide) (by decide) (by decide)
theorem Play.hasU (h : Play w0 w rb u now v l rv m) {k : Nat} (hk : k < 4) : hasM m k = u k := by
  cases hu : u k
  · refine hasM_false fun i hi e => ?_
    obtain ⟨q, hq, e2, hu2⟩ := h.ids.rng _ (h.perm.symm.subset (mem_atL hi))
    rw [e] at e2
    have : k = q := by omega
    subst this
    rw [hu] at hu2
    cases hu2
  · obtain ⟨x, hx, e⟩ := h.ids.all k hk hu
    obtain ⟨i, hi, rfl⟩ := mem_is_atL (h.perm.subset hx)
    exact hasM_true hi e
theorem Play.hasNo (h : Play w0 w rb u now v l rv m) {id : Int} (hno : id < 0 ∨ 4 ≤ id) : hasM m id = false := by
  refine hasM_false fun i hi e => ?_
  obtain ⟨q, hq, e2, hu2⟩ := h.ids.rng _ (h.perm.symm.subset (mem_atL hi))
  omega
theorem lessM_no {m : List trIt} {id : Int} (h : hasM m id = false) : lessM m id = m := by
  unfold hasM at h
  rw [List.any_eq_false] at h
  exact List.filter_eq_self.2 fun x hx => by simpa using h x hx
theorem Play.armed (h : Play w0 w rb u now v l rv m) {k : Nat} {d : Int} (hk : k < 4) (hu : u k = false) (t2 : TmAt w2 w0.heap.size (putU u k true) (now + 1) v2 l2) (p2 : l2.Perm (l ++ [⟨d, (now + 1 : Nat), k⟩])) (f2 : Frm w0.heap.size v v2 w w2)
    (r3 : RfAt w3 rb rv3 (m ++ [⟨d, (now + 1 : Nat), k⟩])) (f3 : Frm rb rv rv3 w2 w3) : Play w0 w3 rb (putU u k true) (now + 1) v2 l2 rv3 (m ++ [⟨d, (now + 1 : Nat), k⟩]) := by
  refine h.move t2 f2 r3 f3 (p2.trans (h.perm.append_right _)) ((h.ids.arm hk hu).perm p2) (List.pairwise_append.2 ⟨h.since, List.pairwise_singleton _ _, fun a ha b hb => ?_⟩) (fun x hx => ?_)
  · rw [List.mem_singleton.1 hb]
    have := h.max a ha
    simp only
    omega
  · rcases List.mem_append.1 hx with hx | hx
    · have := h.max x hx; omega
    · rw [List.mem_singleton.1 hx]; exact Int.le_refl _
theorem Play.cancelled (h : Play w0 w rb u now v l rv m) {k : Nat} {x : trIt} (hk : k < 4) (hx : x.id = k) (p2 : (x :: l2).Perm l) (t2 : TmAt w2 w0.heap.size (putU u k false) now v2 l2) (f2 : Frm w0.heap.size v v2 w w2)
    (r3 : RfAt w3 rb rv3 (lessM m k)) (f3 : Frm rb rv rv3 w2 w3) : Play w0 w3 rb (putU u k false) now v2 l2 rv3 (lessM m k) := by
  have hsub : ∀ y ∈ lessM m k, y ∈ m := fun y hy => (List.mem_filter.1 hy).1
  refine h.move t2 f2 r3 f3 ?_ (h.ids.cancel p2 hx) (h.since.filter _) (fun y hy => h.max y (hsub y hy))
  have h1 := (p2.trans h.perm).filter (fun y => !decide (y.id = (k : Int)))
  rw [List.filter_cons_of_neg (by simp [hx]), List.filter_eq_self.2 (fun y hy => ?_)] at h1
  · exact h1
  · have := (h.ids.perm p2).ne_of y hy
    rw [hx] at this
    simpa using this
theorem Play.fired (h : Play w0 w rb u now v l rv m) {xs : List trIt} {n : Int} (hF : Fired n l xs l2) (t2 : TmAt w2 w0.heap.size (offU u xs) now v2 l2) (f2 : Frm w0.heap.size v v2 w w2)
    (r3 : RfAt w3 rb rv3 (offL m xs)) (f3 : Frm rb rv rv3 w2 w3) : Play w0 w3 rb (offU u xs) now v2 l2 rv3 (offL m xs) := by
  have hsub : ∀ y ∈ offL m xs, y ∈ m := fun y hy => (List.mem_filter.1 hy).1
  have hF2 : Fired n m xs l2 := ⟨hF.perm.trans h.perm, hF.due, hF.sorted, hF.behind⟩
  exact h.move t2 f2 r3 f3 (fire_perm hF2 h.armedM.nodup) (h.ids.off hF.perm) (h.since.filter _) (fun y hy => h.max y (hsub y hy))
theorem Play.first (h : Play w0 w rb u now v l rv m) (hl : l.length ≠ 0) : (atL m (bstD m m.length).toNat).due = (atL l 0).due := by
  have hin : atL l 0 ∈ m := h.perm.subset (mem_atL (by omega))
  obtain ⟨k, hk, he, hat⟩ := h.armedM.best hin (fun y hy => by
    obtain ⟨i, hi, rfl⟩ := mem_is_atL (h.perm.symm.subset hy)
    exact heap_min trLt_ordered h.tm.heap i hi)
  rw [he]
  simp [hat]
end
theorem rCancelT (b : Nat) (v : Value) (m : List trIt) (id : Int) (c : Bool) (w : World) (h : RfAt w b v m) (hm : m.length ≤ 1000000) (hc : hasM m id = c) :
    Calls Try.prog 27 #[.pointer (some ⟨b, 0, none⟩), .int .i64 id] w fun e w' => e = .returned (.bool c) ∧ ∃ v', RfAt w' b v' (lessM m id) ∧ Frm b v v' w w' := by
  subst hc
  exact rCancel b v m id w h hm
theorem map_ids (xs : List trIt) : (xs.map fun x => Value.int .i64 x.id) = (xs.map trIt.id).map (Value.int .i64) := by rw [List.map_map]; rfl
theorem ids_at {w : World} {B n c : Nat} {a : Option Addr} {e : TypeId} {xs : List trIt} (h : w.ownsRow B e 1 (.slice a n c) xs.length (xs.map fun x => .int .i64 x.id)) : IntsAt .i64 w a xs.length (xs.map trIt.id) := by
  rw [map_ids] at h
  have h' : w.ownsRow B e 1 (.slice a n c) (xs.map trIt.id).length ((xs.map trIt.id).map (Value.int .i64)) := by rw [List.length_map]; exact h
  obtain ⟨a', c', hv, _, _, hi, _⟩ := ints_of_owned h'
  cases hv
  rw [List.length_map] at hi
  exact hi
theorem intsSame (a b : Option Addr) (n m c d : Nat) (l : List Int) (w : World) (h : IntsAt .i64 w a n l) (h' : IntsAt .i64 w b m l) (hn : n ≤ 9223372036854775807) (hm : m ≤ 9223372036854775807) :
    Calls Try.prog 29 #[.slice a n c, .slice b m d] w fun e w' => e = .returned (.bool true) ∧ Below w.heap.size w w' := by
  have := ints_any a b n m c d l l w h h' hn hm
  rw [beq_self_eq_true] at this
  exact this
theorem Ids.full {u : Nat → Bool} {l : List trIt} (h : Ids u l) (hu : ∀ k, k < 4 → u k = true) : l.length = 4 := by
  rw [h.count]
  simp [cntU, hu 0 (by omega), hu 1 (by omega), hu 2 (by omega), hu 3 (by omega)]
theorem Ids.room {u : Nat → Bool} {l : List trIt} (h : Ids u l) {k : Nat} (hk : k < 4) (hu : u k = false) : l.length < 4 := by
  rw [h.count]
  rcases (by omega : k = 0 ∨ k = 1 ∨ k = 2 ∨ k = 3) with rfl | rfl | rfl | rfl <;> simp only [cntU, hu] <;> repeat' split
  all_goals first | omega | simp_all
end Go.Proofs.Ytjlhdbkhebfghaa
