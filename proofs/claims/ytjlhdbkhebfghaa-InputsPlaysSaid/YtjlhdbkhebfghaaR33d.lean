/- The reference of law 33: Due. -/
import Derived.Test.YtjlhdbkhebfghaaR33
import Derived.Test.YtjlhdbkhebfghaaReg6
import Derived.Laws.AppendOwn
namespace Go.Proofs.Ytjlhdbkhebfghaa
open Go.ChangeShapes Go.WideShapes Go.ChangeAt Go.RowKit
set_option linter.unusedVariables false

/-- append, at a step of a region that draws its order: whatever the number of what is appended. -/
theorem step_append_any {P : Program} {w : World} {ops : Array Oper} {o : Oper} {a : Act} {K : Act → World → Prop} {Q : Exit → Act → World → Prop} {E : Prop} (hgd : o.guard = none) (s x : Operand) (t : TypeId)
    (ho : o.op = .call { callee := .builtin .append, args := #[s, x], argTypes := #[t, t] })
    (base : Nat) (e : TypeId) (i : TypeInfo) (z : Value) (size bytes : Nat) (ht : P.underlying t = some (.slice e)) (hi : P.info? e = some i) (hz : i.zero = some z)
    (hsize : i.size = size) (hby : i.bytes = bytes) (hzs : z.cells.size = size) (hsz : 0 < size)
    (v : Value) (n : Nat) (xs : List Value) (hs : a.eval s = v) (hown : w.ownsRow base e size v n xs)
    (ad : Addr) (m c : Nat) (news : List Value) (hx : a.eval x = .slice (some ad) m c) (hl : news.length = m * size) (hnews : ∀ j u, news[j]? = some u → w.cell? (ad.add j) = some u) (h1 : ∀ u ∈ news, u.oneCell' = true)
    (h63 : n + m ≤ maxLen) (hbytes : (n + m) * bytes ≤ 140737488355328) (hbase : base ≤ w.heap.size)
    (h : ∀ v' w', w'.ownsRow base e size v' (n + m) (xs ++ news) → w.grownBy w' v.ownBlock → K (a.put o.dst v') w') :
    if Region.wanted o (yielded ops a.tmps) = true then Oper.wp P o a w K Q else E := by
  have hw : Region.wanted o (yielded ops a.tmps) = true := by simp [Region.wanted, hgd]
  rw [if_pos hw]
  exact wp_append_own w s x t ho base e i z size bytes ht hi hz hsize hby hzs hsz v n xs hs hown ad m c news hx hl hnews h1 h63 hbytes hbase fun v' w' a b _ => h v' w' a b

theorem ownsRow_grew {w w' : World} {B size n : Nat} {e : TypeId} {u : Value} {xs : List Value} {ob : Obj} {r : Option Nat} (h : w.ownsRow B e size u n xs) (hg : (w.alloc ob).grownBy w' r) (hne : ∀ a, u.ownBlock = some a → r ≠ some a) : w'.ownsRow B e size u n xs := by
  refine ⟨h.1, ?_⟩
  rcases h.2 with hn | ⟨g, cap, cur, hv, hg2, hh, hr⟩
  · exact .inl hn
  · exact .inr ⟨g, cap, cur, hv, hg2, (hg.block g (by have := lt_heap hh; simp; omega) (fun e => hne g (by rw [hv]; rfl) e.symm)).trans (heap_alloc hh), hr⟩
theorem flat_cells {f : Nat → Option Value} {l : List inIt} (hc : ∀ i, i < l.length → ∀ r, r < 5 → f (i * 5 + r) = (inArg (atL l i))[r]?) : ∀ j u, (l.flatMap inArg)[j]? = some u → f j = some u := by
  intro j u hj
  have hjl : j < (l.flatMap inArg).length := (List.getElem?_eq_some_iff.1 hj).1
  rw [flat_length inArg_length] at hjl
  have h1 : j / 5 < l.length := by omega
  have h2 : j % 5 < 5 := by omega
  have e : j / 5 * 5 + j % 5 = j := by omega
  have h3 := hc (j / 5) h1 (j % 5) h2
  rw [← flat_at inArg_length l _ _ h1 h2, e] at h3
  exact h3.trans hj
theorem atL_drop {l : List inIt} {q i : Nat} : atL (l.drop q) i = atL l (q + i) := by simp [atL, List.getD]
theorem inArg_one (x : inIt) : ∀ u ∈ inArg x, u.oneCell' = true := by
  intro u hu
  simp [inArg] at hu
  rcases hu with rfl | rfl | rfl | rfl | rfl <;> rfl
theorem flat_one (l : List inIt) : ∀ u ∈ l.flatMap inArg, u.oneCell' = true := by
  intro u hu
  obtain ⟨x, _, hx⟩ := List.mem_flatMap.1 hu
  exact inArg_one x u hx
/-- The place of the earliest of the first j that are due; -1: there is none. -/
def bstI (m : Int) (l : List inIt) : Nat → Int
  | 0 => -1
  | j + 1 => if (atL l j).tat ≤ m ∧ (bstI m l j < 0 ∨ (atL l j).tat < (atL l (bstI m l j).toNat).tat) then (j : Int) else bstI m l j
theorem bstI_spec (m : Int) (l : List inIt) : ∀ j, (bstI m l j = -1 ∧ ∀ i, i < j → m < (atL l i).tat) ∨ ∃ k : Nat, k < j ∧ bstI m l j = k ∧ (atL l k).tat ≤ m ∧ (∀ i, i < j → (atL l k).tat ≤ (atL l i).tat) ∧ ∀ i, i < k → (atL l k).tat < (atL l i).tat
  | 0 => .inl ⟨rfl, fun i hi => by omega⟩
  | j + 1 => by
    rcases bstI_spec m l j with ⟨he, ha⟩ | ⟨k, hk, he, hm, h1, h2⟩
    · by_cases hc : (atL l j).tat ≤ m
      · refine .inr ⟨j, by omega, ?_, hc, fun i hi => ?_, fun i hi => ?_⟩
        · rw [bstI, if_pos ⟨hc, .inl (by rw [he]; omega)⟩]
        · rcases Nat.lt_succ_iff_lt_or_eq.1 hi with h | rfl
          · have := ha i h; omega
          · exact Int.le_refl _
        · have := ha i hi; omega
      · refine .inl ⟨?_, fun i hi => ?_⟩
        · rw [bstI, if_neg (fun h => hc h.1), he]
        · rcases Nat.lt_succ_iff_lt_or_eq.1 hi with h | rfl
          · exact ha i h
          · omega
    · have hn : ¬ (k : Int) < 0 := by omega
      by_cases hc : (atL l j).tat < (atL l k).tat
      · refine .inr ⟨j, by omega, ?_, by omega, fun i hi => ?_, fun i hi => ?_⟩
        · rw [bstI, he, if_pos ⟨by omega, .inr (by simpa using hc)⟩]
        · rcases Nat.lt_succ_iff_lt_or_eq.1 hi with h | rfl
          · have := h1 i h; omega
          · exact Int.le_refl _
        · have := h1 i hi; omega
      · refine .inr ⟨k, by omega, ?_, hm, fun i hi => ?_, h2⟩
        · rw [bstI, he, if_neg (fun h => by rcases h.2 with h | h; exact hn h; exact hc (by simpa using h))]
        · rcases Nat.lt_succ_iff_lt_or_eq.1 hi with h | rfl
          · exact h1 i h
          · omega
theorem Took.stepMin {ok : inIt → Bool} {l xs l' l'' : List inIt} {x : inIt} (h : Took inLt ok l xs l') (hmin : ∀ y ∈ l', inLt y x = false) (hp : (x :: l'').Perm l') (hd : ok x = true) : Took inLt ok l (xs ++ [x]) l'' := by
  have hin : x ∈ l' := hp.subset (List.mem_cons_self ..)
  refine ⟨?_, ?_, ?_, ?_⟩
  · rw [List.append_assoc]
    exact (List.Perm.append_left xs hp).trans h.perm
  · intro z hz
    rcases List.mem_append.1 hz with hz | hz
    · exact h.due z hz
    · rw [List.mem_singleton.1 hz]; exact hd
  · refine List.pairwise_append.2 ⟨h.sorted, List.pairwise_singleton _ _, fun a ha b hb => ?_⟩
    rw [List.mem_singleton.1 hb]
    exact h.behind a ha _ hin
  · intro z hz y hy
    have hy' : y ∈ l' := hp.subset (List.mem_cons_of_mem _ hy)
    rcases List.mem_append.1 hz with hz | hz
    · exact h.behind z hz y hy'
    · rw [List.mem_singleton.1 hz]; exact hmin y hy'
theorem bst_min {l : List inIt} (hi : Inc l) {k : Nat} (hk : k < l.length) (h1 : ∀ i, i < l.length → (atL l k).tat ≤ (atL l i).tat) (h2 : ∀ i, i < k → (atL l k).tat < (atL l i).tat) : ∀ y ∈ l, inLt y (atL l k) = false := by
  intro y hy
  obtain ⟨i, hil, rfl⟩ := mem_is_atL hy
  rw [inLt_false]
  rcases Nat.lt_trichotomy i k with h | h | h
  · exact .inl (h2 i h)
  · subst h; exact .inr ⟨rfl, Int.le_refl _⟩
  · have h3 := h1 i hil
    have h4 := hi.at h hil
    omega
theorem erase_cells (l : List inIt) {k : Nat} (hk : k < l.length) : (l.eraseIdx k).flatMap inArg = (l.take k).flatMap inArg ++ (l.drop (k + 1)).flatMap inArg := by
  rw [List.eraseIdx_eq_take_drop_succ, List.flatMap_append]

theorem atL_set {α : Type} [Inhabited α] {l : List α} {g q : Nat} {v : α} (hg : g < l.length) : atL (l.set g v) q = if q = g then v else atL l q := by
  unfold atL List.getD
  by_cases e : q = g
  · subst e; rw [List.getElem?_set_self hg, if_pos rfl]; rfl
  · rw [List.getElem?_set_ne (Ne.symm e), if_neg e]
/-- A guest's slice was put anew. -/
theorem riStored {w4 w7 : World} {rb n gL cV g g4 cap4 N m : Nat} {U' : List Value} {R : Nat → List inIt} {l' l'' : List inIt} {a7 : Option Addr} {c7 B0 : Nat} {ys : List Value}
    (hR : RiAt w4 rb n (.slice (some ⟨gL, 0, none⟩) n cV) U' (putF R g l')) (hb : Bel w4.heap.size w4 w7) (hg : g < n) (hgL : gL < w4.heap.size)
    (own8 : w7.ownsRow w4.heap.size 55 5 (.slice a7 N c7) l''.length (l''.flatMap inArg))
    (hown4 : w4.ownsRow B0 55 5 (.slice (some ⟨g4, 0, none⟩) m cap4) m ys) (HAP : Hid (∀ q, q < n → ∀ a, (atL U' q).ownBlock = some a → a ≠ g4)) (hlt4 : g4 < w4.heap.size) :
    RiAt (w7.setCell ⟨gL, g, none⟩ (.slice a7 N c7)) rb n (.slice (some ⟨gL, 0, none⟩) n cV) (U'.set g (.slice a7 N c7)) (putF R g l'') ∧
    Hid (∀ q, q < n → ∀ a, (atL (U'.set g (.slice a7 N c7)) q).ownBlock = some a → (Value.slice (some ⟨g4, 0, none⟩) m cap4).ownBlock ≠ some a) ∧
    Frm rb (.slice (some ⟨gL, 0, none⟩) n cV) (.slice (some ⟨gL, 0, none⟩) n cV) w4 (w7.setCell ⟨gL, g, none⟩ (.slice a7 N c7)) ∧
    (w7.setCell ⟨gL, g, none⟩ (.slice a7 N c7)).ownsRow B0 55 5 (.slice (some ⟨g4, 0, none⟩) m cap4) m ys := by
  have hU : Upd gL w7 (w7.setCell ⟨gL, g, none⟩ (.slice a7 N c7)) := (Upd.refl gL w7).setCell
  have hR7 := hR.below hb.1
  have hgU : g < U'.length := by rw [hR.len]; exact hg
  have hrow := hR7.row
  obtain ⟨cur, hcur, hcells⟩ : ∃ cur : Array Value, w7.heap[gL]? = some (.cells cur 42 (0, 0)) ∧ ∀ k, k < U'.length → ∀ j, j < 1 → cur[k * 1 + j]? = (slEnc (atL U' k))[j]? := by
    rcases hrow.2.2 with ⟨h2, _⟩ | ⟨g', cap, cur, hv, _, hh, _⟩
    · cases h2
    · simp only [Value.slice.injEq, Option.some.injEq, Addr.mk.injEq, and_true] at hv
      obtain ⟨rfl, _, _⟩ := hv
      refine ⟨cur, hh, fun k hk j hj => ?_⟩
      obtain ⟨gx, cx, hvx, _, _, _, _, hc, _⟩ := hrow.item slEnc_length hk
      simp only [Value.slice.injEq, Option.some.injEq, Addr.mk.injEq, and_true] at hvx
      obtain ⟨rfl, _⟩ := hvx
      rw [← cell_of_row _ _ _ _ _ _ hh]
      exact hc k hk j hj
  have typne : ∀ {u : Value} {B size k : Nat} {zs : List Value}, w7.ownsRow B 55 size u k zs → u.ownBlock ≠ some gL := fun {u B size k zs} ho e => by
    rcases ho.2 with ⟨hv, _⟩ | ⟨gx, capx, curx, hv, _, hh, _⟩
    · rw [hv] at e; cases e
    · rw [hv] at e
      simp only [Value.ownBlock, Option.some.injEq] at e
      subst e
      exact typ_ne hh hcur (by decide) rfl
  refine ⟨⟨?_, by rw [List.length_set]; exact hR.len, fun q hq => ?_⟩, Lib.hid fun q hq a ha => ?_, (Frm.of_below hb.1).trans (Frm.of_upd hU rfl), ownsRow_upd (ownsRow_below hown4 hb.1) hU (typne (ownsRow_below hown4 hb.1))⟩
  · refine hrow.wrote slEnc_length (g := gL) (cap := cV) (by rw [hR.len]) hU (List.length_set ..) ⟨cur, _, hcur, heap_setCell_at hcur, by simp, fun k hk j hj => ?_⟩
    obtain rfl : j = 0 := by omega
    rw [atL_set hgU, Nat.mul_one, Nat.add_zero, Array.getElem?_setIfInBounds]
    have hsz : g < cur.size := by
      have := hcells g hgU 0 (by omega)
      simp only [Nat.mul_one, Nat.add_zero, slEnc, List.getElem?_cons_zero] at this
      exact (Array.getElem?_eq_some_iff.1 this).1
    by_cases e : g = k
    · subst e; simp [hsz, slEnc]
    · rw [if_neg e, if_neg (Ne.symm e)]
      have := hcells k hk 0 (by omega)
      simpa using this
  · rw [atL_set hgU]
    by_cases e : q = g
    · subst e
      rw [if_pos rfl, putF_at]
      exact ownsRow_upd (ownsRow_base own8 (by have := hR.lt; omega)) hU (typne own8)
    · rw [if_neg e, putF_ne _ _ e]
      have h1 := hR7.own q hq
      rw [putF_ne _ _ e] at h1
      exact ownsRow_upd h1 hU (typne h1)
  · rw [atL_set hgU] at ha
    simp only [Value.ownBlock, ne_eq, Option.some.injEq]
    by_cases e : q = g
    · rw [if_pos e] at ha
      have := (own8.lt a ha).1
      omega
    · rw [if_neg e] at ha
      exact fun e2 => HAP.out q hq a ha e2.symm

set_option maxRecDepth 20000 in
set_option maxHeartbeats 4000000 in
theorem riDue (rb n : Nat) (VL : Value) (U : List Value) (R : Nat → List inIt) (g : Nat) (m : Int) (w : World) (h : RiAt w rb n VL U R) (hn : n ≤ 4) (hg : g < n) (hl : (R g).length ≤ 1000) (hinc : Inc (R g)) :
    Calls Try.prog 23 #[.pointer (some ⟨rb, 0, none⟩), .int .i64 g, .int .i64 m] w fun e w' => ∃ a c xs l' U', e = .returned (.slice a xs.length c) ∧ Took inLt (dueBy m) (R g) xs l' ∧ xs.length ≤ 4 ∧ (xs.length = 4 ∨ ∀ y ∈ l', m < y.tat) ∧ Inc l' ∧ RiAt w' rb n VL U' (putF R g l') ∧ w'.ownsRow w.heap.size 55 5 (.slice a xs.length c) xs.length (xs.flatMap inArg) ∧ Frm rb VL VL w w' := by
  obtain ⟨i0, hi, hz0, hz1, hz2⟩ := info_parts Try.inputRow
  obtain rfl : n = U.length := h.len.symm
  have hlt := h.lt
  obtain ⟨gL, cV, rfl, hnc, hmx, hrbL, hgL, _, _⟩ := h.row.item slEnc_length hg
  have q0 := h.row.field riBlk_ok
  have hg0 : ¬ (g : Int) < 0 := by omega
  have hgn : ¬ U.length ≤ g := by omega
  have HN := Lib.hid hn
  clear hn
  obtain ⟨n, hnU⟩ : ∃ n, U.length = n := ⟨_, rfl⟩
  rw [hnU] at h q0 hg hgn hnc HN ⊢
  clear hnU
  go_enter Try.func23, Try.ntmps23
  go_wp2_with fail
  go_loopw [7, 8] (fun ov kv wr => ∃ (k : Nat) (xs l' : List inIt) (U' : List Value), k ≤ 4 ∧ kv = .int .i64 k ∧ Took inLt (dueBy m) (R g) xs l' ∧ xs.length ≤ k ∧ Hid (xs.length = k ∨ ∀ y ∈ l', m < y.tat) ∧ Inc l' ∧ RiAt wr rb n (.slice (some ⟨gL, 0, none⟩) n cV) U' (putF R g l') ∧ wr.ownsRow w.heap.size 55 5 ov xs.length (xs.flatMap inArg) ∧ Hid (∀ q, q < n → ∀ a, (atL U' q).ownBlock = some a → ov.ownBlock ≠ some a) ∧ Frm rb (.slice (some ⟨gL, 0, none⟩) n cV) (.slice (some ⟨gL, 0, none⟩) n cV) w wr) (fun _ kv _ => 4 - (intOf kv).toNat)
  case atStart => exact ⟨0, [], R g, U, Nat.zero_le _, rfl, Took.nil _, Nat.le_refl _, Lib.hid (.inl rfl), hinc, by rw [putF_same]; exact h, World.ownsRow_nil _ _ _ _, Lib.hid (fun q hq a ha e => by cases e), Frm.refl _ _ _⟩
  case round =>
    obtain ⟨k, xs, l', U', hk4, rfl, hT, hxk, hX, hI, hR, hown, HAP, hfr⟩ := hrel
    have hlen := hT.length
    have hl1000 : l'.length ≤ 1000 := by omega
    have hx4 : xs.length ≤ 4 := by omega
    have hws : w.heap.size ≤ wr.heap.size := hfr.size
    have p0 := hR.row.field riBlk_ok
    obtain ⟨ao, co, rfl⟩ := ownsRow_shape hown
    by_cases hk : k < 4
    · have hkd : decide (k < 4) = true := decide_eq_true hk
      have hkd2 : decide ((k : Int) < 4) = true := decide_eq_true (by omega)
      obtain ⟨w2, rfl⟩ : ∃ w2 : World, w2 = wr := ⟨_, rfl⟩
      obtain ⟨al, cl, hsl, hlc, hcm, hit⟩ := hR.slice hg
      rw [putF_at] at hsl hlc hit
      have hUl := hR.len
      have hgU : g < U'.length := by rw [hUl]; exact hg
      have hlt2 := hR.lt
      obtain ⟨gL', cV', hvv, _, _, _, hgL2, hcL, hfL⟩ := hR.row.item slEnc_length hgU
      obtain ⟨rfl, rfl⟩ : gL = gL' ∧ cV = cV' := by cases hvv; exact ⟨rfl, rfl⟩
      have c0 := hcL g hgU 0 (by omega)
      simp only [slEnc, List.getElem?_cons_zero, Nat.add_zero, Nat.mul_one] at c0
      rw [hsl] at c0
      have HCL := Lib.hid hcL
      have HUL := Lib.hid hUl
      have HSL := Lib.hid hsl
      have hcm' : cl ≤ 9223372036854775807 := by unfold maxLen at hcm; omega
      clear hvv hcL hUl hsl hlen
      go_wp2_with fail
      go_loopw [10, 11] (fun bv iv wz => ∃ i : Nat, i ≤ l'.length ∧ iv = .int .i64 i ∧ bv = .int .i64 (bstI m l' i) ∧ Bel w2.heap.size w2 wz) (fun _ iv _ => l'.length - (intOf iv).toNat)
      case atStart => exact ⟨0, Nat.zero_le _, rfl, rfl, Bel.refl _⟩
      case round =>
        obtain ⟨i, hil, rfl, rfl, hbz⟩ := hrel
        have hspec := bstI_spec m l' i
        by_cases hi2 : i < l'.length
        · obtain ⟨gl, o, rfl, hgl, e0, _, _, _, _⟩ := hit.five hi2
          have hgz : gl < wr.heap.size := Nat.lt_of_lt_of_le hgl hbz.2
          have e1 := (hbz.1.cell (p := ⟨gl, o + i * 5, none⟩) hgl).trans e0
          have hsucc : bstI m l' (i + 1) = if (atL l' i).tat ≤ m ∧ (bstI m l' i < 0 ∨ (atL l' i).tat < (atL l' (bstI m l' i).toNat).tat) then (i : Int) else bstI m l' i := rfl
          rcases hspec with ⟨he, _⟩ | ⟨k0, hk0, he, _, _, _⟩
          · rw [he] at hsucc ⊢
            clear he
            generalize (atL l' i).tat = ti at *
            by_cases hc : ti ≤ m
            · have hcd : decide (ti ≤ m) = true := decide_eq_true hc
              rw [if_pos ⟨hc, .inl (by omega)⟩] at hsucc
              have HS := Lib.hid hsucc
              clear hsucc e0
              go_wp2_with fail
              refine wp_region_later (by kernel_rfl) (by kernel_rfl) ?_
              (repeat (go_big_quiet_step (fail)))
              refine wpQuiet_nil ?_
              intro _ hw'
              obtain ⟨x8, hw''⟩ := hw'
              subst hw''
              go_wp2
              go_roundw
              case rel => exact ⟨i + 1, by omega, by go_num, by rw [HS.out], hbz.later⟩
              case measure => simp [intOf]; omega
            · have hcd : decide (ti ≤ m) = false := decide_eq_false hc
              rw [if_neg (fun h => hc h.1)] at hsucc
              have HS := Lib.hid hsucc
              clear hsucc e0
              go_wp2_with fail
              refine wp_region_later (by kernel_rfl) (by kernel_rfl) ?_
              (repeat (go_big_quiet_step (fail)))
              refine wpQuiet_nil ?_
              intro _ hw'
              obtain ⟨x8, hw''⟩ := hw'
              subst hw''
              go_wp2
              go_roundw
              case rel => exact ⟨i + 1, by omega, by go_num, by rw [HS.out], hbz.later⟩
              case measure => simp [intOf]; omega
          · obtain ⟨_, _, hpp, _, f0, _, _, _, _⟩ := hit.five (k := k0) (by omega)
            cases hpp
            have e2 := (hbz.1.cell (p := ⟨gl, o + k0 * 5, none⟩) hgl).trans f0
            have hkt : ((k0 : Int)).toNat = k0 := by omega
            rw [he, hkt] at hsucc
            rw [he]
            have hkn : decide ((k0 : Int) < 0) = false := decide_eq_false (by omega)
            have hk0l : k0 < l'.length := by omega
            clear he hkt
            generalize (atL l' i).tat = ti at *
            generalize (atL l' k0).tat = tk at *
            by_cases hc : ti ≤ m
            · have hcd : decide (ti ≤ m) = true := decide_eq_true hc
              by_cases hc2 : ti < tk
              · have hcd2 : decide (ti < tk) = true := decide_eq_true hc2
                rw [if_pos ⟨hc, .inr hc2⟩] at hsucc
                have HS := Lib.hid hsucc
                clear hsucc e0 f0
                go_wp2_with fail
                refine wp_region_later (by kernel_rfl) (by kernel_rfl) ?_
                (repeat (go_big_quiet_step (fail)))
                refine wpQuiet_nil ?_
                intro _ hw'
                obtain ⟨x8, hw''⟩ := hw'
                subst hw''
                go_wp2
                go_roundw
                case rel => exact ⟨i + 1, by omega, by go_num, by rw [HS.out], hbz.later⟩
                case measure => simp [intOf]; omega
              · have hcd2 : decide (ti < tk) = false := decide_eq_false hc2
                rw [if_neg (fun h => by rcases h.2 with h | h; omega; exact hc2 h)] at hsucc
                have HS := Lib.hid hsucc
                clear hsucc e0 f0
                go_wp2_with fail
                refine wp_region_later (by kernel_rfl) (by kernel_rfl) ?_
                (repeat (go_big_quiet_step (fail)))
                refine wpQuiet_nil ?_
                intro _ hw'
                obtain ⟨x8, hw''⟩ := hw'
                subst hw''
                go_wp2
                go_roundw
                case rel => exact ⟨i + 1, by omega, by go_num, by rw [HS.out], hbz.later⟩
                case measure => simp [intOf]; omega
            · have hcd : decide (ti ≤ m) = false := decide_eq_false hc
              rw [if_neg (fun h => hc h.1)] at hsucc
              have HS := Lib.hid hsucc
              clear hsucc e0 f0
              go_wp2_with fail
              refine wp_region_later (by kernel_rfl) (by kernel_rfl) ?_
              (repeat (go_big_quiet_step (fail)))
              refine wpQuiet_nil ?_
              intro _ hw'
              obtain ⟨x8, hw''⟩ := hw'
              subst hw''
              go_wp2
              go_roundw
              case rel => exact ⟨i + 1, by omega, by go_num, by rw [HS.out], hbz.later⟩
              case measure => simp [intOf]; omega
        · have hie : l'.length = i := by omega
          have hR3 := hR.below hbz.1
          have hown3 := ownsRow_below hown hbz.1
          have hfr3 := hfr.trans (Frm.of_below (b := rb) (v := .slice (some ⟨gL, 0, none⟩) n cV) hbz.1)
          rcases hspec with ⟨he, hall⟩ | ⟨k0, hk0, he, htk, h1, h2⟩
          · rw [he]
            have HALL := Lib.hid hall
            clear hall he
            go_wp2
            go_roundw
            case rel => exact ⟨k + 1, xs, l', U', by omega, by go_num, hT, by omega, Lib.hid (.inr fun y hy => by
              obtain ⟨q, hq, rfl⟩ := mem_is_atL hy
              exact HALL.out q (by omega)), hI, hR3, hown3, HAP, hfr3⟩
            case measure => simp [intOf]; omega
          · have hk0l : k0 < l'.length := by omega
            have hT2 := hT.stepMin (bst_min hI hk0l (fun q hq => h1 q (by omega)) h2) (erase_perm l' hk0l) (by simpa [dueBy] using htk)
            have hI2 : Inc (l'.eraseIdx k0) := List.Pairwise.sublist (List.eraseIdx_sublist ..) hI
            have hel := erase_cells l' hk0l
            have hxk2 : xs.length = k ∨ k0 = k0 := .inr rfl
            rw [he]
            have H1 := Lib.hid h1
            have H2 := Lib.hid h2
            have HE := Lib.hid hel
            have HTM := Lib.hid htk
            have HT2 := Lib.hid hT2
            clear h1 h2 hel hT2 he htk hxk2
            obtain ⟨gl, o, rfl, hgl, hcell⟩ := (hit.below hbz.1).2 (by omega)
            have HCE := Lib.hid hcell
            clear hcell
            obtain ⟨gl', o', hpp, _, d0, d1, d2, d3, d4⟩ := (hit.below hbz.1).five hk0l
            obtain ⟨rfl, rfl⟩ : gl = gl' ∧ o = o' := by cases hpp; exact ⟨rfl, rfl⟩
            clear hpp
            obtain ⟨t, gs, kd, cd, dt, pl, hxe⟩ : ∃ t gs kd cd dt pl, atL l' k0 = (⟨t, gs, kd, cd, dt, pl⟩ : inIt) := ⟨_, _, _, _, _, _, rfl⟩
            rw [hxe] at d0 d1 d2 d3 d4
            simp only at d0 d1 d2 d3 d4
            have htk : (xs ++ [atL l' k0]).flatMap inArg = xs.flatMap inArg ++ [.int .i64 t, .int .i64 gs, .int .i64 kd, .int .i64 cd, .string dt] := by rw [hxe]; simp [inArg]
            have HTK := Lib.hid htk
            clear htk hxe
            have hwz := hbz.2
            have hln : l'.length = i := hie
            clear hln
            go_wp2_with (at_builtin; refine wpList_append_lies _ rfl _ _ 42 rfl w.heap.size 55 i0 (.agg #[.int .i64 0, .int .i64 0, .int .i64 0, .int .i64 0, .string ByteArray.empty]) 5 48 Try.underlying42 hi hz0 hz1 hz2 rfl (by decide) _ _ _ rfl (World.ownsRow.alloc hown3 _) ⟨wr.heap.size, 0, none⟩ 1 1 [.int .i64 t, .int .i64 gs, .int .i64 kd, .int .i64 cd, .string dt] rfl rfl ?c1 ?c2 (by decide) ?c3 ?c4 ?c5 (wr.heap.size + 1) ?c6 ?_)
            case c1 =>
              intro x u hx
              match x, hx with
              | 0, hx => simp at hx; subst hx; simp [Addr.add]
              | 1, hx => simp at hx; subst hx; simp [Addr.add]
              | 2, hx => simp at hx; subst hx; simp [Addr.add]
              | 3, hx => simp at hx; subst hx; simp [Addr.add]
              | 4, hx => simp at hx; subst hx; simp [Addr.add]
            case c2 => intro u hu; simp at hu; rcases hu with rfl | rfl | rfl | rfl | rfl <;> rfl
            case c3 => unfold maxLen; omega
            case c4 => omega
            case c5 => simp; omega
            case c6 => simp
            intro g4 cap4 w4 hown4 hgrow hat hlt4
            have hfr4 := hfr3.grewBy hown3 hgrow
            have hR4 : RiAt w4 rb n (.slice (some ⟨gL, 0, none⟩) n cV) U' (putF R g l') := by
              refine ⟨hR3.row.grewBy hown3 hgrow (by decide) (by decide), hR3.len, fun q hq => ?_⟩
              exact ownsRow_grew (hR3.own q hq) hgrow (fun a ha e => HAP.out q hq a ha e)
            have HAP4 : Hid (∀ q, q < n → ∀ a, (atL U' q).ownBlock = some a → a ≠ g4) := Lib.hid fun q hq a ha e => by
              subst e
              rcases hat with hat | hat
              · exact HAP.out q hq a ha hat
              · have := ((hR3.own q hq).lt a ha).2
                omega
            have hrb4 := hR4.lt
            have p4 := hR4.row.field riBlk_ok
            obtain ⟨gL'', cV'', hvv, _, _, _, hgL4, hcL4, hfL4⟩ := hR4.row.item slEnc_length hgU
            obtain ⟨rfl, rfl⟩ : gL = gL'' ∧ cV = cV'' := by cases hvv; exact ⟨rfl, rfl⟩
            have c4 := hcL4 g hgU 0 (by omega)
            simp only [slEnc, List.getElem?_cons_zero, Nat.add_zero, Nat.mul_one] at c4
            have z4 := hfL4 g
            obtain ⟨al4, cl4, hsl4, _, _, hit4⟩ := hR4.slice hg
            clear hvv hcL4 hfL4 hfr3 hR3 hown3 hgrow hat d0 d1 d2 d3 d4 HCE hfr hR hown hit hbz p0 c0 HCL hws hwz hgl
            rw [putF_at] at hsl4 hit4
            have hsl5 := hsl4.symm.trans HSL.out
            obtain ⟨rfl, rfl⟩ : al4 = some ⟨gl, o, none⟩ ∧ cl4 = cl := by cases hsl5; exact ⟨rfl, rfl⟩
            obtain ⟨gl', o', hpp, hgl4, hcell4⟩ := hit4.2 (by omega)
            obtain ⟨rfl, rfl⟩ : gl = gl' ∧ o = o' := by cases hpp; exact ⟨rfl, rfl⟩
            have HC4 := Lib.hid hcell4
            have hwz4 : w.heap.size ≤ w4.heap.size := hfr4.size
            have hk0i : k0 < i := by omega
            clear hpp hcell4 hsl4 hsl5 hit4
            go_wp2_with fail
            (refine wp_region_line 17 (fun x => ∃ y : LatC w4 ⟨rb, 0, none⟩, x = laterC w4 ⟨rb, 0, none⟩ y) (by kernel_rfl) rfl ?_)
            (refine wpSeg (0 :: 1 :: 2 :: 3 :: 4 :: 6 :: 7 :: 8 :: 10 :: 11 :: 12 :: 13 :: []) 5 (l := _) rfl (by simp only [List.filterMap_cons, List.filterMap_nil, List.getElem?_toArray, List.getElem?_cons_succ, List.getElem?_cons_zero]; rfl) (by kernel_rfl) (fun _ _ _ _ _ h => h) (laterC_of (w := w4.drew) rfl) ?_; show wpQuiet _ _ _ _ (_ :: _ :: _ :: _ :: _ :: _ :: _ :: _ :: _ :: _ :: _ :: _ :: []) _; (repeat (go_big_quiet_step (fail))); refine wpQuiet_nil ?_; show wpAnyH _ _ _ _ _ _ _ _ _)
            (refine wpOne 5 4 rfl rfl (by kernel_rfl) ?_; intro K hK; go_simp)
            have hb5 : Bel w4.heap.size w4 (w4.alloc (.cells #[] 55)).drew := (Bel.refl w4).alloc.drew
            have h5n : (w4.alloc (.cells #[] 55)).drew.heap[w4.heap.size]? = some (.cells #[] 55 (0, 0)) := Go.heap_alloc_new w4 _
            have own5 : (w4.alloc (.cells #[] 55)).drew.ownsRow w4.heap.size 55 5 (.slice (some ⟨w4.heap.size, 0, none⟩) 0 0) 0 [] := ⟨rfl, .inr ⟨w4.heap.size, 0, #[], rfl, Nat.le_refl _, h5n, Nat.le_refl _, Nat.zero_le _, rfl, rfl⟩⟩
            generalize (w4.alloc (.cells #[] 55)).drew = w5 at hb5 own5 ⊢
            (refine hK.out _ _ _ (fun _ h => h) (laterC_of (hb5.1.cell (p := ⟨rb, 0, none⟩) hrb4)) ?_; clear hK K)
            refine wpOne 9 3 rfl rfl (by kernel_rfl) ?_
            intro K hK
            have hc5 : ∀ j u, ((l'.take k0).flatMap inArg)[j]? = some u → w5.cell? ⟨gl, o + j, none⟩ = some u := flat_cells fun q hq r hr => by
              rw [List.length_take] at hq
              rw [atL_take (by omega), ← Nat.add_assoc]
              exact (hb5.1.cell (p := ⟨gl, o + q * 5 + r, none⟩) hgl4).trans (HC4.out q (by omega) r hr)
            refine step_append_any rfl (.tmp 80) (.tmp 83) 42 rfl w4.heap.size 55 i0 (.agg #[.int .i64 0, .int .i64 0, .int .i64 0, .int .i64 0, .string ByteArray.empty]) 5 48 Try.underlying42 hi hz0 hz1 hz2 rfl (by decide) (.slice (some ⟨w4.heap.size, 0, none⟩) 0 0) 0 [] rfl own5 ⟨gl, o, none⟩ k0 cl4 ((l'.take k0).flatMap inArg) rfl ?e1 ?e2 (flat_one _) ?e3 ?e4 hb5.2 ?_
            case e1 => rw [flat_length inArg_length, List.length_take]; omega
            case e2 =>
              intro j u hj
              rw [Go.WideShapes.add_plain]
              exact hc5 j u hj
            case e3 => unfold maxLen; omega
            case e4 => omega
            intro v6 w6 own6 hgr6
            have hb6 : Bel w4.heap.size w4 w6 := ⟨hb5.1.grown hgr6 hb5.2 (fun q hq => (own5.lt q hq).1), Nat.le_trans hb5.2 hgr6.size⟩
            clear hc5 own5 hgr6 hb5
            (refine hK.out _ _ _ (fun _ h => h) (laterC_of (hb6.1.cell (p := ⟨rb, 0, none⟩) hrb4)) ?_; clear hK K)
            refine wpOne 14 2 rfl rfl (by kernel_rfl) ?_
            intro K hK
            have hc6 : ∀ j u, ((l'.drop (k0 + 1)).flatMap inArg)[j]? = some u → w6.cell? ⟨gl, o + (k0 + 1) * 5 + j, none⟩ = some u := flat_cells fun q hq r hr => by
              rw [List.length_drop] at hq
              rw [atL_drop, show o + (k0 + 1) * 5 + (q * 5 + r) = o + (k0 + 1 + q) * 5 + r by omega]
              exact (hb6.1.cell (p := ⟨gl, o + (k0 + 1 + q) * 5 + r, none⟩) hgl4).trans (HC4.out (k0 + 1 + q) (by omega) r hr)
            by_cases hcap : cl4 = k0 + 1
            · have hi0 : i = k0 + 1 := by omega
              have hnil : (l'.drop (k0 + 1)).flatMap inArg = [] := by rw [List.drop_of_length_le (by omega)]; rfl
              refine step_append_any rfl (.tmp 84) (.tmp 88) 42 rfl w4.heap.size 55 i0 (.agg #[.int .i64 0, .int .i64 0, .int .i64 0, .int .i64 0, .string ByteArray.empty]) 5 48 Try.underlying42 hi hz0 hz1 hz2 rfl (by decide) v6 (0 + k0) ([] ++ (l'.take k0).flatMap inArg) rfl own6 ⟨gl, o, none⟩ (i - (k0 + 1)) (cl4 - (k0 + 1)) ((l'.drop (k0 + 1)).flatMap inArg) ?e0 ?e1 ?e2 (flat_one _) ?e3 ?e4 hb6.2 ?_
              case e0 => subst hcap; subst hi0; go_simp
              case e1 => rw [flat_length inArg_length, List.length_drop, hie]
              case e2 => intro j u hj; rw [hnil] at hj; simp at hj
              case e3 => unfold maxLen; omega
              case e4 => omega
              intro v7 w7 own7 hgr7
              have hb7 : Bel w4.heap.size w4 w7 := ⟨hb6.1.grown hgr7 hb6.2 (fun q hq => (own6.lt q hq).1), Nat.le_trans hb6.2 hgr7.size⟩
              clear hc6 own6 hgr7 hb6
              obtain ⟨a7, c7, hv7⟩ := ownsRow_shape own7
              obtain ⟨N, hN⟩ : ∃ N, 0 + k0 + (i - (k0 + 1)) = N := ⟨_, rfl⟩
              rw [hN] at own7 hv7
              subst hv7
              have HNN := Lib.hid hN
              clear hN
              have y7 : w7.cell? ⟨rb, 0, none⟩ = w4.cell? ⟨rb, 0, none⟩ := hb7.1.cell (p := ⟨rb, 0, none⟩) hrb4
              have c7L := (hb7.1.cell (p := ⟨gL, g, none⟩) hgL4).trans c4
              have z7L : w7.frozen? ⟨gL, g, none⟩ = false := (hb7.1.frozen (p := ⟨gL, g, none⟩) hgL4).trans z4
              have y8 : (w7.setCell ⟨gL, g, none⟩ (.slice a7 N c7)).cell? ⟨rb, 0, none⟩ = w4.cell? ⟨rb, 0, none⟩ := (World.cell?_setCell_other _ _ _ _ (fun e => by simp only [Addr.mk.injEq] at e; omega)).trans y7
              (refine hK.out _ _ _ (fun _ h => h) (laterC_of y7) ?_; clear hK K)
              show wpAnyH _ _ _ _ _ _ _ (Act.put (Act.put _ (some 84) _) (some 89) _) _
              simp only [Act.put, List.setIfInBounds_toArray, List.set_cons_zero, List.set_cons_succ]
              (refine wpSeg (15 :: []) 1 (l := _) rfl (by simp only [List.filterMap_cons, List.filterMap_nil, List.getElem?_toArray, List.getElem?_cons_succ, List.getElem?_cons_zero]; rfl) (by kernel_rfl) (fun _ _ _ _ _ h => h) (laterC_of y7) ?_; show wpQuiet _ _ _ _ (_ :: []) _; (repeat (go_big_quiet_step (fail))); refine wpQuiet_nil ?_; show wpAnyH _ _ _ _ _ _ _ _ _)
              (refine wpOne 16 0 rfl rfl (by kernel_rfl) ?_; intro K hK; go_simp)
              (refine hK.out _ _ _ (fun _ h => h) (laterC_of y8) ?_; clear hK K)
              refine wpAnyH_done (by kernel_rfl) ?_ _
              have hE2 : (l'.eraseIdx k0).length = N := by rw [← HNN.out, List.length_eraseIdx, if_pos (by omega)]; omega
              have own8 : w7.ownsRow w4.heap.size 55 5 (.slice a7 N c7) (l'.eraseIdx k0).length ((l'.eraseIdx k0).flatMap inArg) := by
                rw [hE2, HE.out]
                simpa using own7
              obtain ⟨hR8, hA8, hF8, hO8⟩ := riStored hR4 hb7 hg hgL4 own8 hown4 HAP4 hlt4
              clear own7 own8 hR4 hown4 c4 z4 p4 y7 c7L z7L y8 hb7 HAP4 HC4 hgl4 hrb4 hgL4 hE2
              generalize (w7.setCell ⟨gL, g, none⟩ (.slice a7 N c7)) = w8 at hR8 hF8 hO8 ⊢
              go_wp2
              go_roundw
              case rel =>
                refine ⟨k + 1, xs ++ [atL l' k0], l'.eraseIdx k0, U'.set g (.slice a7 N c7), by omega, by go_num, HT2.out, by simp; omega, Lib.hid (.inl ?_), hI2, hR8, ?_, hA8, hfr4.trans hF8⟩
                · rcases hX.out with h1 | h1
                  · simp [h1]
                  · have := h1 _ (mem_atL hk0l)
                    have := HTM.out
                    omega
                · rw [HTK.out]
                  simpa using hO8
              case measure => simp [intOf]; omega
            · refine step_append_any rfl (.tmp 84) (.tmp 88) 42 rfl w4.heap.size 55 i0 (.agg #[.int .i64 0, .int .i64 0, .int .i64 0, .int .i64 0, .string ByteArray.empty]) 5 48 Try.underlying42 hi hz0 hz1 hz2 rfl (by decide) v6 (0 + k0) ([] ++ (l'.take k0).flatMap inArg) rfl own6 ⟨gl, o + (k0 + 1) * 5, none⟩ (i - (k0 + 1)) (cl4 - (k0 + 1)) ((l'.drop (k0 + 1)).flatMap inArg) ?e0 ?e1 ?e2 (flat_one _) ?e3 ?e4 hb6.2 ?_
              case e0 => go_simp
              case e1 => rw [flat_length inArg_length, List.length_drop, hie]
              case e2 =>
                intro j u hj
                rw [Go.WideShapes.add_plain]
                exact hc6 j u hj
              case e3 => unfold maxLen; omega
              case e4 => omega
              intro v7 w7 own7 hgr7
              have hb7 : Bel w4.heap.size w4 w7 := ⟨hb6.1.grown hgr7 hb6.2 (fun q hq => (own6.lt q hq).1), Nat.le_trans hb6.2 hgr7.size⟩
              clear hc6 own6 hgr7 hb6
              obtain ⟨a7, c7, hv7⟩ := ownsRow_shape own7
              obtain ⟨N, hN⟩ : ∃ N, 0 + k0 + (i - (k0 + 1)) = N := ⟨_, rfl⟩
              rw [hN] at own7 hv7
              subst hv7
              have HNN := Lib.hid hN
              clear hN
              have y7 : w7.cell? ⟨rb, 0, none⟩ = w4.cell? ⟨rb, 0, none⟩ := hb7.1.cell (p := ⟨rb, 0, none⟩) hrb4
              have c7L := (hb7.1.cell (p := ⟨gL, g, none⟩) hgL4).trans c4
              have z7L : w7.frozen? ⟨gL, g, none⟩ = false := (hb7.1.frozen (p := ⟨gL, g, none⟩) hgL4).trans z4
              have y8 : (w7.setCell ⟨gL, g, none⟩ (.slice a7 N c7)).cell? ⟨rb, 0, none⟩ = w4.cell? ⟨rb, 0, none⟩ := (World.cell?_setCell_other _ _ _ _ (fun e => by simp only [Addr.mk.injEq] at e; omega)).trans y7
              (refine hK.out _ _ _ (fun _ h => h) (laterC_of y7) ?_; clear hK K)
              show wpAnyH _ _ _ _ _ _ _ (Act.put (Act.put _ (some 84) _) (some 89) _) _
              simp only [Act.put, List.setIfInBounds_toArray, List.set_cons_zero, List.set_cons_succ]
              (refine wpSeg (15 :: []) 1 (l := _) rfl (by simp only [List.filterMap_cons, List.filterMap_nil, List.getElem?_toArray, List.getElem?_cons_succ, List.getElem?_cons_zero]; rfl) (by kernel_rfl) (fun _ _ _ _ _ h => h) (laterC_of y7) ?_; show wpQuiet _ _ _ _ (_ :: []) _; (repeat (go_big_quiet_step (fail))); refine wpQuiet_nil ?_; show wpAnyH _ _ _ _ _ _ _ _ _)
              (refine wpOne 16 0 rfl rfl (by kernel_rfl) ?_; intro K hK; go_simp)
              (refine hK.out _ _ _ (fun _ h => h) (laterC_of y8) ?_; clear hK K)
              refine wpAnyH_done (by kernel_rfl) ?_ _
              have hE2 : (l'.eraseIdx k0).length = N := by rw [← HNN.out, List.length_eraseIdx, if_pos (by omega)]; omega
              have own8 : w7.ownsRow w4.heap.size 55 5 (.slice a7 N c7) (l'.eraseIdx k0).length ((l'.eraseIdx k0).flatMap inArg) := by
                rw [hE2, HE.out]
                simpa using own7
              obtain ⟨hR8, hA8, hF8, hO8⟩ := riStored hR4 hb7 hg hgL4 own8 hown4 HAP4 hlt4
              clear own7 own8 hR4 hown4 c4 z4 p4 y7 c7L z7L y8 hb7 HAP4 HC4 hgl4 hrb4 hgL4 hE2
              generalize (w7.setCell ⟨gL, g, none⟩ (.slice a7 N c7)) = w8 at hR8 hF8 hO8 ⊢
              go_wp2
              go_roundw
              case rel =>
                refine ⟨k + 1, xs ++ [atL l' k0], l'.eraseIdx k0, U'.set g (.slice a7 N c7), by omega, by go_num, HT2.out, by simp; omega, Lib.hid (.inl ?_), hI2, hR8, ?_, hA8, hfr4.trans hF8⟩
                · rcases hX.out with h1 | h1
                  · simp [h1]
                  · have := h1 _ (mem_atL hk0l)
                    have := HTM.out
                    omega
                · rw [HTK.out]
                  simpa using hO8
              case measure => simp [intOf]; omega
    · go_wp2
      go_ret
      have hx := hX.out
      exact ⟨_, _, xs, l', U', rfl, hT, by omega, hx.elim (fun h1 => .inl (by omega)) .inr, hI, hR, hown, hfr⟩
end Go.Proofs.Ytjlhdbkhebfghaa
