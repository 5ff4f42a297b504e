/- Contracts of octet.Fit, Same, and of the reference's Fit. -/
import Derived.Test.YtclpbphofifojaaOctL
import Derived.Test.YtclpbphofifojaaOctetBackWalk
import Derived.Laws.IdiomCopy
import Derived.Lib.LazyBuf
namespace Go.Proofs.Ytclpbphofifojaa
open Go.ChangeShapes Go.WideShapes Go.ChangeAt Go.RowKit
set_option linter.unusedVariables false

def fitF (s : ByteArray) : Nat → Int := fun i => if h : i < s.size then ((s[i]'h).toNat : Int) else 0
theorem fitF_lt {s : ByteArray} {i : Nat} (h : i < s.size) : fitF s i = ((s[i]'h).toNat : Int) := dif_pos h
theorem fitF_ge {s : ByteArray} {i : Nat} (h : ¬ i < s.size) : fitF s i = 0 := dif_neg h
theorem fitF_byt (s : ByteArray) : Byt (fitF s) := fun i => by
  unfold fitF
  split
  · rename_i h
    have := (s[i]'h).toNat_lt
    omega
  · omega
def fitN (n : Int) : Nat := (max 0 (min n 16384)).toNat

theorem setCells_upd {b : Nat} : ∀ (vs : List Value) (o : Nat) (w : World), Upd b w (w.setCells b o vs)
  | [], _, w => Upd.refl b w
  | v :: r, o, w => by
    rw [World.setCells]
    exact (Upd.setCell (Upd.refl b w)).trans (setCells_upd r (o + 1) _)
theorem setCells_heap {b : Nat} {t : TypeId} {fr : Nat × Nat} : ∀ (vs : List Value) (o : Nat) (w : World) (cur : Array Value), w.heap[b]? = some (.cells cur t fr) → o + vs.length ≤ cur.size →
    ∃ cur', (w.setCells b o vs).heap[b]? = some (.cells cur' t fr) ∧ cur'.size = cur.size ∧ ∀ i, cur'[i]? = if o ≤ i ∧ i < o + vs.length then vs[i - o]? else cur[i]?
  | [], o, w, cur, h, _ => ⟨cur, h, rfl, fun i => by rw [if_neg (by simp <;> omega)]⟩
  | v :: r, o, w, cur, h, hl => by
    rw [World.setCells]
    simp only [List.length_cons] at hl
    obtain ⟨cur', h1, h2, h3⟩ := setCells_heap r (o + 1) (w.setCell ⟨b, o, none⟩ v) _ (heap_setCell_at (o := o) (u := v) h) (by simp; omega)
    refine ⟨cur', h1, by simpa using h2, fun i => ?_⟩
    rw [h3 i]
    simp only [List.length_cons]
    by_cases e : i = o
    · subst e
      rw [if_neg (by omega), if_pos (by omega), Nat.sub_self]
      simp [show i < cur.size by omega]
    · by_cases h4 : o + 1 ≤ i ∧ i < o + 1 + r.length
      · rw [if_pos h4, if_pos (by omega), show i - o = (i - (o + 1)) + 1 by omega, List.getElem?_cons_succ]
      · rw [if_neg h4, if_neg (by omega), Array.getElem?_setIfInBounds_ne (by omega)]

/-- The cells that go over. -/
def strCells (t : ByteArray) (n : Nat) : List Value := (List.range (min t.size n)).map fun i => .int .u8 (fitF t i)
theorem strCells_eq (t : ByteArray) (n : Nat) : (t.data.toList.map fun x => Value.int .u8 (x.toNat : Int)).take (min t.size n) = strCells t n := by
  refine List.ext_getElem? fun i => ?_
  unfold strCells
  by_cases hi : i < min t.size n
  · have hi2 : i < t.size := by omega
    have h3 : i < t.data.size := hi2
    rw [List.getElem?_take, if_pos hi, List.getElem?_map, List.getElem?_map, List.getElem?_range hi, Array.getElem?_toList, Array.getElem?_eq_getElem h3]
    simp only [Option.map_some, fitF_lt hi2]
    rfl
  · rw [List.getElem?_eq_none (by simp; omega), List.getElem?_eq_none (by simp; omega)]

theorem run_copy_str {P : Program} (w : World) (dT sT ty elem : TypeId) (b dLen dCap : Nat) (t : ByteArray)
    (hu : P.underlying dT = some (.slice elem)) (hz : ∀ w, (Go.sizeOf elem).run P w = .ok 1 w)
    (hc : ∀ j, j < dLen → (w.cell? ⟨b, 0 + j, none⟩).isSome = true) (hf : ∀ j, j < dLen → w.frozen? ⟨b, 0 + j, none⟩ = false) :
    (Builtin.copy_ #[dT, sT] ty #[.slice (some ⟨b, 0, none⟩) dLen dCap, .string t]).run P w = .ok (goInt ((min t.size dLen : Nat) : Int)) (w.setCells b 0 (strCells t dLen)) := by
  have hl : (strCells t dLen).length = min t.size dLen := by simp [strCells]
  have hst := run_storeCells_cells (P := P) b 0 (strCells t dLen) 0 w (fun j hj => by rw [hl] at hj; simpa using hc j (by omega)) (fun j hj => by rw [hl] at hj; simpa using hf j (by omega)) (by
    intro v hv
    obtain ⟨x, _, rfl⟩ := List.mem_map.1 hv
    rfl)
  have hmin : Nat.min t.size dLen = min t.size dLen := rfl
  simp [Builtin.copy_, run_underlying hu, Builtin.lenOf, Builtin.firstCells, hz, hmin]
  rw [strCells_eq t dLen, hst]
  simp

theorem Try.byteRun (w : World) : (sizeOf 5).run Try.prog w = .ok 1 w := by kernel_rfl

set_option maxHeartbeats 400000 in
theorem fit_any (s : ByteArray) (n : Int) (w : World) : Calls Try.prog 28 #[.string s, .int .i64 n] w fun e w' => ∃ g, e = .returned (.slice (some ⟨g, 0, none⟩) (fitN n) (fitN n)) ∧ RowAt w' g (fitN n) (fitF s) ∧ Below w.heap.size w w' := by
  obtain ⟨i0, hi, hz0, hz1, hz2⟩ := info_parts Try.infoByte
  obtain ⟨m, hm⟩ : ∃ m, fitN n = m := ⟨_, rfl⟩
  have hm2 : (m ≤ 0 ∧ n ≤ 0) ∨ ((n ≤ m ∧ m ≤ n) ∧ 0 < n ∧ n ≤ 16384) ∨ ((m ≤ 16384 ∧ 16384 ≤ m) ∧ 16384 < n) := by unfold fitN at hm; omega
  rw [hm]
  clear hm
  have hpost : ∀ w1 : World, w1.ownsRow w.heap.size 5 1 (.slice (some ⟨w.heap.size, 0, none⟩) m m) m (madeCells #[Value.int .u8 0] m).toList → w.grownBy w1 none →
      (∀ ty, (Builtin.copy_ #[34, 9] ty #[.slice (some ⟨w.heap.size, 0, none⟩) m m, .string s]).run Try.prog w1 = .ok (goInt ((min s.size m : Nat) : Int)) (w1.setCells w.heap.size 0 (strCells s m))) ∧
      RowAt (w1.setCells w.heap.size 0 (strCells s m)) w.heap.size m (fitF s) ∧ Below w.heap.size w (w1.setCells w.heap.size 0 (strCells s m)) := by
    intro w1 hown hgrow
    have hb1 : Below w.heap.size w w1 := ⟨hgrow.os, hgrow.tape, hgrow.output, hgrow.size, fun i hi => hgrow.block i hi (by simp)⟩
    rcases hown.2 with ⟨h, _⟩ | ⟨g, cap, cur, hv, _, hg, hle, _, hsz, ht⟩
    · cases h
    · simp only [Value.slice.injEq, Option.some.injEq, Addr.mk.injEq, and_true] at hv
      obtain ⟨rfl, _, rfl⟩ := hv
      have hcur : ∀ i, i < m → cur[i]? = some (.int .u8 0) := fun i hi => by
        have e : (madeCells #[Value.int .u8 0] m).toList[i]? = some (.int .u8 0) := made_byte hi
        rw [← ht, List.getElem?_take, if_pos (by omega)] at e
        rw [← Array.getElem?_toList, e]
      refine ⟨fun ty => run_copy_str w1 _ _ ty 5 _ m m s Try.underlying34 Try.byteRun (fun j hj => ?_) (fun j hj => by simp [World.frozen?, hg]), ?_, (Bel.upd (Bel.of (Bel.refl w) hb1) (setCells_upd _ _ _) (Nat.le_refl _)).1⟩
      · simp [World.cell?, hg, hcur j hj]
      · have hl : (strCells s m).length = min s.size m := by simp [strCells]
        obtain ⟨cur', h1, h2, h3⟩ := setCells_heap (strCells s m) 0 w1 cur hg (by rw [hl]; omega)
        refine ⟨cur', h1, fun i hi => ?_, fitF_byt s⟩
        rw [h3 i, hl]
        by_cases hin : i < s.size
        · rw [if_pos (by omega)]
          simp [strCells, show i < min s.size m by omega]
        · rw [if_neg (by omega), hcur i hi, fitF_ge hin]
  have HP := Lib.hid hpost
  clear hpost
  rcases hm2 with ⟨hm, h⟩ | ⟨⟨hm, hm'⟩, h, h'⟩ | ⟨⟨hm, hm'⟩, h⟩
  all_goals
    go_enter Try.func28, Try.ntmps28
    go_wp2_with (first | (at_make; refine wpList_make_full _ rfl (.tmp 8) (.tmp 8) 34 rfl w.heap.size 5 i0 (.int .u8 0) 1 Try.underlying34 hi hz0 hz1 _ _ _ _ m rfl rfl (by omega) (by omega) (by rw [hz2]; omega) (by unfold maxLen; omega) (Nat.le_refl _) ?_) | fail)
    intro w1 hown hgrow
    obtain ⟨hcp, hrow, hbel⟩ := HP.out w1 (by simpa using hown) hgrow
    clear hown hgrow
    go_wp2
    go_ret
    exact ⟨_, rfl, hrow, hbel⟩

set_option maxRecDepth 100000 in
set_option maxHeartbeats 400000 in
theorem rfit_any (s : ByteArray) (n : Int) (w : World) (hs : s.size ≤ 140737488355328) : Calls Try.prog 29 #[.string s, .int .i64 n] w fun e w' => ∃ v, e = .returned v ∧ w'.ownsRow w.heap.size 5 1 v (fitN n) (bytesL (fitF s) (fitN n)) ∧ Below w.heap.size w w' := by
  obtain ⟨i0, hi, hz0, hz1, hz2⟩ := info_parts Try.infoByte
  obtain ⟨m, hm⟩ : ∃ m, fitN n = m := ⟨_, rfl⟩
  have hm2 : ∀ k : Nat, k < m ↔ ((k : Int) < n ∧ k < 16384) := by unfold fitN at hm; omega
  have hmb : m ≤ 16384 := by unfold fitN at hm; omega
  rw [hm]
  have HM := Lib.hid hm2
  clear hm hm2
  go_enter Try.func29, Try.ntmps29
  go_wp2
  go_loopw [5, 6] (fun v i wr => ∃ k : Nat, k ≤ m ∧ i = .int .i64 k ∧ wr.ownsRow w.heap.size 5 1 v k (bytesL (fitF s) k) ∧ Bel w.heap.size w wr) (fun _ i _ => m - (intOf i).toNat)
  case atStart => exact ⟨0, Nat.zero_le _, rfl, World.ownsRow_nil _ _ _ _, Bel.refl _⟩
  case round =>
    obtain ⟨k, hk, rfl, hown, hbel⟩ := hrel
    have hsz := hbel.2
    by_cases hlt : k < m
    · obtain ⟨hkn, hk16⟩ := (HM.out k).1 hlt
      have hb1 : bytesL (fitF s) (k + 1) = bytesL (fitF s) k ++ [.int .u8 (fitF s k)] := by simp [bytesL, List.range_succ]
      have HB := Lib.hid hb1
      clear hb1
      by_cases hks : k < s.size
      · have hv := fitF_lt hks
        have HV := Lib.hid hv
        clear hv
        go_wp2_with (at_builtin; refine wpList_append_own _ rfl _ _ 34 rfl w.heap.size 5 i0 (.int .u8 0) 1 1 Try.underlying34 hi hz0 hz1 hz2 rfl (by decide) _ _ _ rfl (World.ownsRow.alloc hown _) ⟨wr.heap.size, 0, none⟩ 1 1 [.int .u8 ((s[k]'hks).toNat : Int)] rfl rfl ?c1 ?c2 ?c3 ?c4 ?c5 ?_)
        case c1 =>
          intro j u hj
          match j, hj with
          | 0, hj => simp at hj; subst hj; simp [Addr.add]
        case c2 => intro u hu; simp at hu; subst hu; rfl
        case c3 => unfold maxLen; omega
        case c4 => omega
        case c5 => simp; omega
        intro v' w1 hown' hgrow _
        go_wp2
        go_roundw
        case rel => exact ⟨k + 1, by omega, by go_num, by rw [HB.out, HV.out]; exact hown', Bel.append hbel hown hgrow⟩
        case measure => simp [intOf]; omega
      · have hv := fitF_ge hks
        have HV := Lib.hid hv
        clear hv
        go_wp2_with (at_builtin; refine wpList_append_own _ rfl _ _ 34 rfl w.heap.size 5 i0 (.int .u8 0) 1 1 Try.underlying34 hi hz0 hz1 hz2 rfl (by decide) _ _ _ rfl (World.ownsRow.alloc hown _) ⟨wr.heap.size, 0, none⟩ 1 1 [.int .u8 0] rfl rfl ?c1 ?c2 ?c3 ?c4 ?c5 ?_)
        case c1 =>
          intro j u hj
          match j, hj with
          | 0, hj => simp at hj; subst hj; simp [Addr.add]
        case c2 => intro u hu; simp at hu; subst hu; rfl
        case c3 => unfold maxLen; omega
        case c4 => omega
        case c5 => simp; omega
        intro v' w1 hown' hgrow _
        go_wp2
        go_roundw
        case rel => exact ⟨k + 1, by omega, by go_num, by rw [HB.out, HV.out]; exact hown', Bel.append hbel hown hgrow⟩
        case measure => simp [intOf]; omega
    · obtain rfl : k = m := by omega
      have hx : ¬ (k : Int) < n ∨ ((k : Int) < n ∧ ¬ k < 16384) := by
        have := HM.out k
        omega
      rcases hx with hx | ⟨hx, hx'⟩
      all_goals
        go_wp2
        go_ret
        exact ⟨_, rfl, hown, hbel.1⟩

theorem same_any (p q : Option Addr) (n m c d : Nat) (f g : Nat → Int) (w : World) (h : SrcAt w p n f) (h' : SrcAt w q m g) :
    Calls Try.prog 30 #[.slice p n c, .slice q m d] w fun e w' => e = .returned (.bool ((strF f n).toList == (strF g m).toList)) ∧ w = w' := by
  have k1 := conv_src h c
  have k2 := conv_src h' d
  go_enter Try.func30, Try.ntmps30
  go_wp2_with (go_in)
  go_ret
  exact ⟨rfl, rfl⟩

end Go.Proofs.Ytclpbphofifojaa
