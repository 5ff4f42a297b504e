/- The reference of law 19: what reads. -/
import Derived.Test.YthppjkpejnaocaaShE
import Derived.Laws.AppendOwn
namespace Go.Proofs.Ythppjkpejnaocaa
open Go.ChangeShapes Go.WideShapes Go.ChangeAt Go.RowKit
set_option linter.unusedVariables false

/-- append, at a step of a region that draws its order: whatever the number of what is appended. -/
theorem step_append_any {P : Program} {w : World} {ops : Array Oper} {o : Oper} {a : Act} {K : Act → World → Prop} {Q : Exit → Act → World → Prop} {E : Prop} (hgd : o.guard = none) (s x : Operand) (t : TypeId)
    (ho : o.op = .call { callee := .builtin .append, args := #[s, x], argTypes := #[t, t] })
    (base : Nat) (e : TypeId) (i : TypeInfo) (z : Value) (size bytes : Nat) (ht : P.underlying t = some (.slice e)) (hi : P.info? e = some i) (hz : i.zero = some z)
    (hsize : i.size = size) (hby : i.bytes = bytes) (hzs : z.cells.size = size) (hsz : 0 < size)
    (v : Value) (n : Nat) (xs : List Value) (hs : a.eval s = v) (hown : w.ownsRow base e size v n xs)
    (ad : Addr) (m c : Nat) (news : List Value) (hx : a.eval x = .slice (some ad) m c) (hl : news.length = m * size) (hnews : ∀ j u, news[j]? = some u → w.cell? (ad.add j) = some u) (h1 : ∀ u ∈ news, u.oneCell' = true)
    (h63 : n + m ≤ maxLen) (hbytes : (n + m) * bytes ≤ 140737488355328) (hbase : base ≤ w.heap.size)
    (h : ∀ v' w', w'.ownsRow base e size v' (n + m) (xs ++ news) → w.grownBy w' v.ownBlock → K (a.put o.dst v') w') :
    if Region.wanted o (yielded ops a.tmps) = true then Oper.wp P o a w K Q else E := by
  have hw : Region.wanted o (yielded ops a.tmps) = true := by simp [Region.wanted, hgd]
  rw [if_pos hw]
  exact wp_append_own w s x t ho base e i z size bytes ht hi hz hsize hby hzs hsz v n xs hs hown ad m c news hx hl hnews h1 h63 hbytes hbase fun v' w' a b _ => h v' w' a b

def rfBlk (v : Value) : Array Value := #[v]
theorem rfBlk_ok : BlkOk rfBlk 0 := ⟨fun _ => rfl, fun _ _ => rfl⟩
abbrev RfIn (w : World) (b : Nat) (v : Value) (l : List ln) : Prop := RowIn 74 7 lnEnc w b 57 rfBlk v l
section
variable {b : Nat} {v : Value} {l : List ln}
theorem rfField (w : World) (h : RfIn w b v l) : w.cell? ⟨b, 0, none⟩ = some v := h.field rfBlk_ok
theorem rf_own (p : Int) (w : World) : Calls Try.prog 38 #[.int .i64 p] w fun e w' => e = .returned (.bool (decide (0 ≤ p) && decide (p < 8))) ∧ w = w' := by
  by_cases h0 : 0 ≤ p
  · by_cases h1 : p < 8
    all_goals
      have h0' : decide (0 ≤ p) = true := by simp; omega
      have h1' : decide (p < 8) = decide (p < 8) := rfl
      go_enter Try.func38, Try.ntmps38
      go_wp2
      go_ret
      exact ⟨ret_bool (by simp [*]), rfl⟩
  · have h0' : decide (0 ≤ p) = false := by simp; omega
    go_enter Try.func38, Try.ntmps38
    go_wp2
    go_ret
    exact ⟨ret_bool (by simp [*]), rfl⟩
set_option maxHeartbeats 1000000 in
theorem rf_table (p : Int) (w : World) (h : RfIn w b v l) (hn : l.length ≤ 1000) :
    Calls Try.prog 26 #[.pointer (some ⟨b, 0, none⟩), .int .i64 p] w fun e w' => e = .returned (.bool (tableB l p)) ∧ w = w' := by
  have c0 := rfField _ h
  have hlt := h.lt
  obtain ⟨va, vc, hv⟩ := ownsRow_shape h.2
  rw [hv] at c0
  go_enter Try.func26, Try.ntmps26
  go_wp2_with fail
  go_loopw [5] (fun iv wr => ∃ i : Nat, i ≤ l.length ∧ iv = .int .i64 i ∧ (l.take i).any (thrB p) = false ∧ wr = w) (fun iv _ => l.length - (intOf iv).toNat)
  case atStart => exact ⟨0, Nat.zero_le _, rfl, rfl, rfl⟩
  case round =>
    obtain ⟨i, hi, rfl, hf, rfl⟩ := hrel
    by_cases hil : i < l.length
    · obtain ⟨g, cap, hv2, h1, h2, h3, h4, hc, hz⟩ := h.item lnEnc_length hil
      rw [hv] at hv2
      simp only [Value.slice.injEq] at hv2
      obtain ⟨rfl, _, rfl⟩ := hv2
      have d5 := hc i hil 5 (by omega)
      have d6 := hc i hil 6 (by omega)
      simp only [lnEnc, List.getElem?_cons_succ, List.getElem?_cons_zero] at d5 d6
      have hnx := any_take_succ hil hf
      have hall : thrB p (atL l i) = true → tableB l p = true := fun e => List.any_eq_true.2 ⟨_, mem_atL hil, e⟩
      have hth : thrB p (atL l i) = ((atL l i).rt == p || (atL l i).lf == p) := rfl
      rw [hth] at hnx hall
      clear hc hz hth
      cases e1 : ((atL l i).rt == p)
      · cases e2 : ((atL l i).lf == p)
        · rw [e1, e2] at hnx
          clear hall
          go_wp2
          go_roundw
          case rel => exact ⟨i + 1, by omega, by go_num, hnx, trivial⟩
          case measure => simp [intOf]; omega
        · have ht : tableB l p = true := hall (by rw [e1, e2]; rfl)
          clear hnx hall
          go_wp2
          go_ret
          exact ⟨by rw [ht]; rfl, rfl⟩
      · have ht : tableB l p = true := hall (by rw [e1]; rfl)
        clear hnx hall
        go_wp2
        go_ret
        exact ⟨by rw [ht]; rfl, rfl⟩
    · obtain rfl : i = l.length := by omega
      rw [List.take_length] at hf
      have ht : tableB l p = false := hf
      go_wp2
      go_ret
      exact ⟨by rw [ht]; rfl, rfl⟩
set_option maxHeartbeats 2000000 in
theorem rf_get (k0 k1 : Int) (w : World) (h : RfIn w b v l) (hn : l.length ≤ 1000) :
    Calls Try.prog 23 #[.pointer (some ⟨b, 0, none⟩), .agg #[.int .i64 k0, .int .i64 k1]] w fun e w' => e = .returned (.tuple #[.agg #[.int .i64 (getX l k0 k1).ep, .int .i64 (getX l k0 k1).ef, .int .i64 (getX l k0 k1).er], .bool (getB l k0 k1)]) ∧ Below w.heap.size w w' := by
  have hlt := h.lt
  obtain ⟨va, vc, hv⟩ := ownsRow_shape h.2
  have hB : Bel w.heap.size w ((w.alloc (.cells #[.int .i64 k0, .int .i64 k1] 30)).alloc (.cells #[.int .i64 0, .int .i64 0, .int .i64 0] 32)) := (Bel.refl w).alloc.alloc
  have h2 := h.alloc (ob := .cells #[.int .i64 k0, .int .i64 k1] 30) |>.alloc (ob := .cells #[.int .i64 0, .int .i64 0, .int .i64 0] 32)
  have eK : ((w.alloc (.cells #[.int .i64 k0, .int .i64 k1] 30)).alloc (.cells #[.int .i64 0, .int .i64 0, .int .i64 0] 32)).heap[w.heap.size]? = some (.cells #[.int .i64 k0, .int .i64 k1] 30 (0, 0)) := heap_alloc (Go.heap_alloc_new w _)
  have eR : ((w.alloc (.cells #[.int .i64 k0, .int .i64 k1] 30)).alloc (.cells #[.int .i64 0, .int .i64 0, .int .i64 0] 32)).heap[w.heap.size + 1]? = some (.cells #[.int .i64 0, .int .i64 0, .int .i64 0] 32 (0, 0)) := by
    have := Go.heap_alloc_new (w.alloc (.cells #[.int .i64 k0, .int .i64 k1] 30)) (.cells #[.int .i64 0, .int .i64 0, .int .i64 0] 32)
    simpa using this
  obtain ⟨w2, hW⟩ : ∃ W, ((w.alloc (.cells #[.int .i64 k0, .int .i64 k1] 30)).alloc (.cells #[.int .i64 0, .int .i64 0, .int .i64 0] 32)) = W := ⟨_, rfl⟩
  go_enter Try.func23, Try.ntmps23
  go_wp2_with fail
  rw [hW] at hB h2 eK eR
  clear hW
  have c0 := rfField _ h2
  rw [hv] at c0
  go_loopw [6] (fun iv wr => ∃ i : Nat, i ≤ l.length ∧ iv = .int .i64 i ∧ (l.take i).find? (keyB k0 k1) = none ∧ Below w2.heap.size w2 wr) (fun iv _ => l.length - (intOf iv).toNat)
  case atStart => exact ⟨0, Nat.zero_le _, rfl, rfl, Below.refl _ _⟩
  case round =>
    obtain ⟨i, hi, rfl, hf, hb⟩ := hrel
    have hr := h2.below hb
    have hs := hb.size
    have hBr := hB.of hb
    have eK2 := (hb.block _ (lt_heap eK)).trans eK
    have eR2 := (hb.block _ (lt_heap eR)).trans eR
    have e0 := (cell_of_row _ _ 0 _ _ _ eK2).trans rfl
    have e1 := (cell_of_row _ _ 1 _ _ _ eK2).trans rfl
    have f0 := (cell_of_row _ _ 0 _ _ _ eR2).trans rfl
    have f1 := (cell_of_row _ _ 1 _ _ _ eR2).trans rfl
    have f2 := (cell_of_row _ _ 2 _ _ _ eR2).trans rfl
    have z0 : wr.frozen? ⟨w.heap.size + 1, 0, none⟩ = false := by simp [World.frozen?, eR2]
    have z1 : wr.frozen? ⟨w.heap.size + 1, 1, none⟩ = false := by simp [World.frozen?, eR2]
    have z2 : wr.frozen? ⟨w.heap.size + 1, 2, none⟩ = false := by simp [World.frozen?, eR2]
    have lk := lt_heap eK2
    have lr := lt_heap eR2
    have r0 := rfField _ hr
    rw [hv] at r0
    have hlt2 := hr.lt
    have ER := Lib.hid eR2
    clear eK2 eR2 c0 eK eR
    by_cases hil : i < l.length
    · obtain ⟨g, cap, hv2, h1, h2', h3, h4, hc, hz⟩ := hr.item lnEnc_length hil
      rw [hv] at hv2
      simp only [Value.slice.injEq] at hv2
      obtain ⟨rfl, _, rfl⟩ := hv2
      have d0 := hc i hil 0 (by omega)
      have d1 := hc i hil 1 (by omega)
      have d2 := hc i hil 2 (by omega)
      have d3 := hc i hil 3 (by omega)
      have d4 := hc i hil 4 (by omega)
      simp only [lnEnc, List.getElem?_cons_succ, List.getElem?_cons_zero, Nat.add_zero] at d0 d1 d2 d3 d4
      have hnx := find_take_succ hil hf
      clear hc hz h2
      obtain ⟨X, hX⟩ : ∃ X, keyB k0 k1 (atL l i) = X := ⟨_, rfl⟩
      have hkk : ((atL l i).kr == k0 && (atL l i).kp == k1) = X := hX
      rw [hX] at hnx
      go_wp2_with fail
      refine wp_region_later (by kernel_rfl) (by kernel_rfl) ?_
      repeat (first | go_big_quiet_step (first | fail))
      refine wpQuiet_nil ?_
      intro w9 hw'
      have hb9 : Below wr.heap.size wr w9 := by
        obtain ⟨x9, hw''⟩ := hw'
        subst hw''
        exact later_below wr x9
      clear hw'
      have hb10 := hb.trans (hb9.mono hb.size)
      have hr9 := hr.below hb9
      have hB9 := hBr.of hb9
      have q0 := rfField _ hr9
      rw [hv] at q0
      have hlt9 := hr9.lt
      have q2 := (hb9.cell (p := ⟨g, i * 7 + 2, none⟩) h4).trans d2
      have q3 := (hb9.cell (p := ⟨g, i * 7 + 3, none⟩) h4).trans d3
      have q4 := (hb9.cell (p := ⟨g, i * 7 + 4, none⟩) h4).trans d4
      have lg9 : g < w9.heap.size := Nat.lt_of_lt_of_le h4 hb9.size
      have eR9 := (hb9.block _ (lt_heap ER.out)).trans ER.out
      have f0 := (cell_of_row _ _ 0 _ _ _ eR9).trans rfl
      have f1 := (cell_of_row _ _ 1 _ _ _ eR9).trans rfl
      have f2 := (cell_of_row _ _ 2 _ _ _ eR9).trans rfl
      have z0 : w9.frozen? ⟨w.heap.size + 1, 0, none⟩ = false := by simp [World.frozen?, eR9]
      have z1 : w9.frozen? ⟨w.heap.size + 1, 1, none⟩ = false := by simp [World.frozen?, eR9]
      have z2 : w9.frozen? ⟨w.heap.size + 1, 2, none⟩ = false := by simp [World.frozen?, eR9]
      have lr := lt_heap eR9
      have ER9 := Lib.hid eR9
      clear d0 d1 d2 d3 d4 e0 e1 hb9 hr hBr r0 eR9 ER hkk hb
      cases X
      · rw [if_neg (by simp)] at hnx
        go_wp2_with fail
        go_roundw
        case rel => exact ⟨i + 1, by omega, by go_num, hnx, hb10⟩
        case measure => simp [intOf]; omega
      · rw [if_pos rfl] at hnx
        have hg : getL l k0 k1 = some (atL l i) := find_take hnx
        have hg1 : getX l k0 k1 = atL l i := by rw [getX, hg]; rfl
        have hg2 : getB l k0 k1 = true := by rw [getB, hg]; rfl
        have HG1 := Lib.hid hg1
        have HG2 := Lib.hid hg2
        clear hg hg1 hg2 hnx hb10 hr9
        go_wp2_with fail
        have eF : ((((w9.setCell ⟨w.heap.size + 1, 0, none⟩ (.int .i64 (atL l i).ep)).setCell ⟨w.heap.size + 1, 1, none⟩ (.int .i64 (atL l i).ef)).setCell ⟨w.heap.size + 1, 2, none⟩ (.int .i64 (atL l i).er))).heap[w.heap.size + 1]? = some (.cells #[.int .i64 (atL l i).ep, .int .i64 (atL l i).ef, .int .i64 (atL l i).er] 32 (0, 0)) := heap_setCell_at (o := 2) (heap_setCell_at (o := 1) (heap_setCell_at (o := 0) ER9.out))
        have hBf : Bel w.heap.size w (((w9.setCell ⟨w.heap.size + 1, 0, none⟩ (.int .i64 (atL l i).ep)).setCell ⟨w.heap.size + 1, 1, none⟩ (.int .i64 (atL l i).ef)).setCell ⟨w.heap.size + 1, 2, none⟩ (.int .i64 (atL l i).er)) := (((hB9.setCell (by show _ ≤ w.heap.size + 1; omega)).setCell (by show _ ≤ w.heap.size + 1; omega)).setCell (by show _ ≤ w.heap.size + 1; omega))
        generalize (((w9.setCell ⟨w.heap.size + 1, 0, none⟩ (.int .i64 (atL l i).ep)).setCell ⟨w.heap.size + 1, 1, none⟩ (.int .i64 (atL l i).ef)).setCell ⟨w.heap.size + 1, 2, none⟩ (.int .i64 (atL l i).er)) = W at *
        have g0 := (cell_of_row _ _ 0 _ _ _ eF).trans rfl
        have g1 := (cell_of_row _ _ 1 _ _ _ eF).trans rfl
        have g2 := (cell_of_row _ _ 2 _ _ _ eF).trans rfl
        exact bodyPost_ret (v := .tuple #[.agg #[.int .i64 (atL l i).ep, .int .i64 (atL l i).ef, .int .i64 (atL l i).er], .bool true]) (by simp [results, Try.results23, go_sem, g0, g1, g2]) rfl ⟨by rw [HG1.out, HG2.out], hBf.1⟩
    · obtain rfl : i = l.length := by omega
      rw [List.take_length] at hf
      have hg : getL l k0 k1 = none := hf
      have hg1 : getX l k0 k1 = ⟨0, 0, 0, 0, 0, 0, 0⟩ := by rw [getX, hg]; rfl
      have hg2 : getB l k0 k1 = false := by rw [getB, hg]; rfl
      have HG1 := Lib.hid hg1
      have HG2 := Lib.hid hg2
      clear hg hg1 hg2
      go_wp2_with fail
      have eF : (((wr.setCell ⟨w.heap.size + 1, 0, none⟩ (.int .i64 0)).setCell ⟨w.heap.size + 1, 1, none⟩ (.int .i64 0)).setCell ⟨w.heap.size + 1, 2, none⟩ (.int .i64 0)).heap[w.heap.size + 1]? = some (.cells #[.int .i64 0, .int .i64 0, .int .i64 0] 32 (0, 0)) := (heap_setCell_at (o := 2) (heap_setCell_at (o := 1) (heap_setCell_at (o := 0) ER.out)))
      have hBf : Bel w.heap.size w (((wr.setCell ⟨w.heap.size + 1, 0, none⟩ (.int .i64 0)).setCell ⟨w.heap.size + 1, 1, none⟩ (.int .i64 0)).setCell ⟨w.heap.size + 1, 2, none⟩ (.int .i64 0)) := ((hBr.setCell (by show _ ≤ w.heap.size + 1; omega)).setCell (by show _ ≤ w.heap.size + 1; omega)).setCell (by show _ ≤ w.heap.size + 1; omega)
      generalize (((wr.setCell ⟨w.heap.size + 1, 0, none⟩ (.int .i64 0)).setCell ⟨w.heap.size + 1, 1, none⟩ (.int .i64 0)).setCell ⟨w.heap.size + 1, 2, none⟩ (.int .i64 0)) = W at *
      have g0 := (cell_of_row _ _ 0 _ _ _ eF).trans rfl
      have g1 := (cell_of_row _ _ 1 _ _ _ eF).trans rfl
      have g2 := (cell_of_row _ _ 2 _ _ _ eF).trans rfl
      exact bodyPost_ret (v := .tuple #[.agg #[.int .i64 0, .int .i64 0, .int .i64 0], .bool false]) (by simp [results, Try.results23, go_sem, g0, g1, g2]) rfl ⟨by rw [HG1.out, HG2.out], hBf.1⟩
set_option maxHeartbeats 2000000 in
theorem rf_list (w : World) (h : RfIn w b v l) (hn : l.length ≤ 1000) :
    Calls Try.prog 25 #[.pointer (some ⟨b, 0, none⟩)] w fun e w' => ∃ u, e = .returned u ∧ w'.ownsRow w.heap.size 39 5 u l.length (l.flatMap kpEnc) ∧ Below w.heap.size w w' := by
  obtain ⟨i0, hi0, hz0, hz1, hz2⟩ := info_parts Try.kptInfo
  have hlt := h.lt
  have c0 := rfField _ h
  obtain ⟨va, vc, hv⟩ := ownsRow_shape h.2
  rw [hv] at c0
  go_enter Try.func25, Try.ntmps25
  go_wp2_with fail
  go_loopw [3, 4] (fun u iv wr => ∃ i : Nat, i ≤ l.length ∧ iv = .int .i64 i ∧ wr.ownsRow w.heap.size 39 5 u i ((l.take i).flatMap kpEnc) ∧ Bel w.heap.size w wr) (fun _ iv _ => l.length - (intOf iv).toNat)
  case atStart => exact ⟨0, Nat.zero_le _, rfl, World.ownsRow_nil _ _ _ _, Bel.refl w⟩
  case round =>
    obtain ⟨i, hi, rfl, hown, hb⟩ := hrel
    have hr := h.below hb.1
    have hlt2 := hr.lt
    have c0' := rfField _ hr
    rw [hv] at c0'
    by_cases hil : i < l.length
    · obtain ⟨g0, cap0, hv0, _, _, _, hg0, _, _⟩ := h.item lnEnc_length hil
      obtain ⟨g, cap, hv2, h1, h2', h3, h4, hc, hz⟩ := hr.item lnEnc_length hil
      rw [hv0] at hv2
      simp only [Value.slice.injEq, Option.some.injEq, Addr.mk.injEq, and_true, true_and] at hv2
      obtain ⟨rfl, rfl⟩ := hv2
      rw [hv] at hv0
      simp only [Value.slice.injEq] at hv0
      obtain ⟨rfl, _, rfl⟩ := hv0
      have d0 := hc i hil 0 (by omega)
      have d1 := hc i hil 1 (by omega)
      have d2 := hc i hil 2 (by omega)
      have d3 := hc i hil 3 (by omega)
      have d4 := hc i hil 4 (by omega)
      simp only [lnEnc, List.getElem?_cons_succ, List.getElem?_cons_zero, Nat.add_zero] at d0 d1 d2 d3 d4
      have hsuc : (l.take (i + 1)).flatMap kpEnc = (l.take i).flatMap kpEnc ++ [.int .i64 (atL l i).kr, .int .i64 (atL l i).kp, .int .i64 (atL l i).ep, .int .i64 (atL l i).ef, .int .i64 (atL l i).er] := by
        rw [take_succ_atL hil, List.flatMap_append]
        rfl
      have HS := Lib.hid hsuc
      obtain ⟨ua, uc, rfl⟩ := ownsRow_shape hown
      clear hc hz hsuc
      go_wp2_with fail
      (refine wp_region_line 21 (fun x => ∃ y : LatF w.heap.size wr, x = laterF w.heap.size wr y) (by kernel_rfl) rfl ?_)
      (refine wpSeg (0 :: 1 :: 2 :: 3 :: 4 :: 5 :: 6 :: 7 :: 8 :: 9 :: 10 :: 11 :: 12 :: 13 :: 14 :: 15 :: 16 :: 17 :: []) 3 (l := _) rfl (by simp only [List.filterMap_cons, List.filterMap_nil, List.getElem?_toArray, List.getElem?_cons_succ, List.getElem?_cons_zero]; rfl) (by kernel_rfl) (fun _ _ _ _ _ h => h) laterF_drew ?_; show wpQuiet _ _ _ _ (_ :: _ :: _ :: _ :: _ :: _ :: _ :: _ :: _ :: _ :: _ :: _ :: _ :: _ :: _ :: _ :: _ :: _ :: []) _; (repeat (go_big_quiet_step (fail))); refine wpQuiet_nil ?_; show wpAnyH _ _ _ _ _ _ _ _ _)
      (refine wpOne 18 2 rfl rfl (by kernel_rfl) ?_; intro K hK; go_simp)
      have hA : Bel wr.heap.size wr (wr.alloc (.cells #[.int .i64 (atL l i).kr, .int .i64 (atL l i).kp, .int .i64 (atL l i).ep, .int .i64 (atL l i).ef, .int .i64 (atL l i).er] 39)).drew := (Bel.refl wr).alloc.drew
      have hnA : (wr.alloc (.cells #[.int .i64 (atL l i).kr, .int .i64 (atL l i).kp, .int .i64 (atL l i).ep, .int .i64 (atL l i).ef, .int .i64 (atL l i).er] 39)).drew.heap[wr.heap.size]? = some (.cells #[.int .i64 (atL l i).kr, .int .i64 (atL l i).kp, .int .i64 (atL l i).ep, .int .i64 (atL l i).ef, .int .i64 (atL l i).er] 39 (0, 0)) := Go.heap_alloc_new wr _
      have hownA := ownsRow_below hown hA.1
      have hbA := hb.of hA.1
      have hbF : Below w.heap.size wr (wr.alloc (.cells #[.int .i64 (atL l i).kr, .int .i64 (atL l i).kp, .int .i64 (atL l i).ep, .int .i64 (atL l i).ef, .int .i64 (atL l i).er] 39)).drew := hA.1.mono hb.2
      generalize (wr.alloc (.cells #[.int .i64 (atL l i).kr, .int .i64 (atL l i).kp, .int .i64 (atL l i).ep, .int .i64 (atL l i).ef, .int .i64 (atL l i).er] 39)).drew = wA at hA hnA hownA hbA hbF ⊢
      (refine hK.out _ _ _ (fun _ h => h) (laterF_of hbF) ?_; clear hK K)
      have p0 := (cell_of_row _ _ 0 _ _ _ hnA).trans rfl
      have p1 := (cell_of_row _ _ 1 _ _ _ hnA).trans rfl
      have p2 := (cell_of_row _ _ 2 _ _ _ hnA).trans rfl
      have p3 := (cell_of_row _ _ 3 _ _ _ hnA).trans rfl
      have p4 := (cell_of_row _ _ 4 _ _ _ hnA).trans rfl
      refine wpOne 19 1 rfl rfl (by kernel_rfl) ?_
      intro K hK
      refine step_append_any rfl (.tmp 14) (.tmp 32) 35 rfl w.heap.size 39 i0 _ 5 40 Try.underlying35 hi0 hz0 hz1 hz2 rfl (by decide) (.slice ua i uc) i _ rfl hownA ⟨wr.heap.size, 0, none⟩ 1 1 [.int .i64 (atL l i).kr, .int .i64 (atL l i).kp, .int .i64 (atL l i).ep, .int .i64 (atL l i).ef, .int .i64 (atL l i).er] rfl rfl ?c1 ?c2 ?c3 ?c4 ?c5 ?_
      case c1 =>
        intro j u hj
        match j, hj with
        | 0, hj => simp at hj; subst hj; simpa [Addr.add] using p0
        | 1, hj => simp at hj; subst hj; simpa [Addr.add] using p1
        | 2, hj => simp at hj; subst hj; simpa [Addr.add] using p2
        | 3, hj => simp at hj; subst hj; simpa [Addr.add] using p3
        | 4, hj => simp at hj; subst hj; simpa [Addr.add] using p4
      case c2 => intro u hu; simp at hu; rcases hu with rfl | rfl | rfl | rfl | rfl <;> rfl
      case c3 => unfold maxLen; omega
      case c4 => omega
      case c5 => exact hbA.2
      intro v4 w4 hown4 hgrow
      have hb4 : Bel w.heap.size w w4 := ⟨hbA.1.grown hgrow hbA.2 (fun q hq => (hownA.lt q hq).1), Nat.le_trans hbA.2 hgrow.size⟩
      have hbF4 : Below w.heap.size wr w4 := hbF.grown hgrow hbA.2 (fun q hq => (hownA.lt q hq).1)
      clear hownA hbA hbF hA hnA hgrow p0 p1 p2 p3 p4
      (refine hK.out _ _ _ (fun _ h => h) (laterF_of hbF4) ?_; clear hK K)
      show wpAnyH _ _ _ _ _ _ _ (Act.put _ (some 33) _) _
      simp only [Act.put, List.setIfInBounds_toArray, List.set_cons_zero, List.set_cons_succ]
      (refine wpSeg (20 :: []) 0 (l := _) rfl (by simp only [List.filterMap_cons, List.filterMap_nil, List.getElem?_toArray, List.getElem?_cons_succ, List.getElem?_cons_zero]; rfl) (by kernel_rfl) (fun _ _ _ _ _ h => h) (laterF_of hbF4) ?_; show wpQuiet _ _ _ _ (_ :: []) _; (repeat (go_big_quiet_step (fail))); refine wpQuiet_nil ?_; show wpAnyH _ _ _ _ _ _ _ _ _)
      refine wpAnyH_done (by kernel_rfl) ?_ _
      go_wp2
      go_roundw
      case rel => exact ⟨i + 1, by omega, by go_num, by rw [HS.out]; exact hown4, hb4⟩
      case measure => simp [intOf]; omega
    · obtain rfl : i = l.length := by omega
      rw [List.take_length] at hown
      obtain ⟨ua, uc, rfl⟩ := ownsRow_shape hown
      go_wp2
      go_ret
      exact ⟨_, rfl, hown, hb.1⟩
end
end Go.Proofs.Ythppjkpejnaocaa
