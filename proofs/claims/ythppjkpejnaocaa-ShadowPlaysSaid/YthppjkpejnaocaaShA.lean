/- shadow: lines in memory; the contracts that read. -/
import Derived.Test.YthppjkpejnaocaaRows
import Derived.Test.YthppjkpejnaocaaRowG
import Derived.Test.YthppjkpejnaocaaRowP
import Derived.Test.YthppjkpejnaocaaReg6
namespace Go.Proofs.Ythppjkpejnaocaa
open Go.ChangeShapes Go.WideShapes Go.ChangeAt Go.RowKit
set_option linter.unusedVariables false

@[go_sem] theorem key_held : Try.prog.stoodInHeld 30 = false := by kernel_rfl
@[go_sem] theorem key_guard : Try.prog.eqGuardType Try.prog.depth 30 = false := by kernel_rfl
@[go_sem high] theorem eql_key (a b a' b' : Int) (w : World) : (binOp .eql 30 (.agg #[.int .i64 a, .int .i64 b]) (.agg #[.int .i64 a', .int .i64 b'])).run Try.prog w = .ok (.bool (a == a' && b == b')) w := by
  simp [go_sem]
  repeat' split
  all_goals simp_all
/-- A line: key, entry, root, leaf. -/
structure ln where
  kr : Int
  kp : Int
  ep : Int
  ef : Int
  er : Int
  rt : Int
  lf : Int
instance lnInh : Inhabited ln := ⟨⟨0, 0, 0, 0, 0, 0, 0⟩⟩
def lnEnc (x : ln) : List Value := [.int .i64 x.kr, .int .i64 x.kp, .int .i64 x.ep, .int .i64 x.ef, .int .i64 x.er, .int .i64 x.rt, .int .i64 x.lf]
def kpEnc (x : ln) : List Value := [.int .i64 x.kr, .int .i64 x.kp, .int .i64 x.ep, .int .i64 x.ef, .int .i64 x.er]
def kyEnc (x : ln) : List Value := [.int .i64 x.kr, .int .i64 x.kp]
theorem lnEnc_length (x : ln) : (lnEnc x).length = 7 := rfl
theorem kpEnc_length (x : ln) : (kpEnc x).length = 5 := rfl
theorem kyEnc_length (x : ln) : (kyEnc x).length = 2 := rfl
def shBlk (v : Value) : Array Value := #[v, .bool true]
theorem shBlk_ok : BlkOk shBlk 0 := ⟨fun _ => rfl, fun _ _ => rfl⟩
abbrev ShIn (w : World) (b : Nat) (v : Value) (l : List ln) : Prop := RowIn 66 7 lnEnc w b 46 shBlk v l
def thrB (p : Int) (x : ln) : Bool := x.rt == p || x.lf == p
def keyB (k0 k1 : Int) (x : ln) : Bool := x.kr == k0 && x.kp == k1
def tableB (l : List ln) (p : Int) : Bool := l.any (thrB p)
section
variable {b : Nat} {v : Value} {l : List ln}
theorem shMade (w : World) (h : ShIn w b v l) : w.cell? ⟨b, 1, none⟩ = some (.bool true) := by simp [World.cell?, h.1, shBlk]
theorem shField (w : World) (h : ShIn w b v l) : w.cell? ⟨b, 0, none⟩ = some v := h.field shBlk_ok
theorem sh_none (w : World) (h : ShIn w b v l) : Calls Try.prog 27 #[.pointer (some ⟨b, 0, none⟩)] w fun e w' => e = .returned (.bool false) ∧ w = w' := by
  have h1 := shMade w h
  have h2 := h.lt
  clear h
  go_enter Try.func27, Try.ntmps27
  go_wp2
  go_ret
  exact ⟨rfl, rfl⟩
theorem thr_any (g o : Nat) (p r f : Int) (w : World) (h5 : w.cell? ⟨g, o + 5, none⟩ = some (.int .i64 r)) (h6 : w.cell? ⟨g, o + 6, none⟩ = some (.int .i64 f)) :
    Calls Try.prog 28 #[.pointer (some ⟨g, o, none⟩), .int .i64 p] w fun e w' => e = .returned (.bool (r == p || f == p)) ∧ w = w' := by
  have hg := block_lt_of_cell h5
  by_cases hr : r = p
  · have e1 : (r == p) = true := by simpa using hr
    rw [e1]
    go_enter Try.func28, Try.ntmps28
    go_wp2
    go_ret
    exact ⟨rfl, rfl⟩
  · have e1 : (r == p) = false := by simpa using hr
    rw [e1]
    go_enter Try.func28, Try.ntmps28
    go_wp2
    go_ret
    exact ⟨rfl, rfl⟩
theorem any_take_succ {α : Type} [Inhabited α] {f : α → Bool} {l : List α} {i : Nat} (hi : i < l.length) (h : (l.take i).any f = false) : (l.take (i + 1)).any f = f (atL l i) := by
  rw [take_succ_atL hi, List.any_append, h]
  simp
set_option maxHeartbeats 1000000 in
theorem sh_table (p : Int) (w : World) (h : ShIn w b v l) (hn : l.length ≤ 1000) :
    Calls Try.prog 11 #[.pointer (some ⟨b, 0, none⟩), .int .i64 p] w fun e w' => e = .returned (.bool (tableB l p)) ∧ w = w' := by
  have c0 := shField w h
  have hlt := h.lt
  obtain ⟨va, vc, hv⟩ := ownsRow_shape h.2
  go_enter Try.func11, Try.ntmps11
  go_wp2_with fail
  refine (sh_none _ h).mono ?_
  rintro e w' ⟨rfl, rfl⟩
  rw [hv] at c0
  go_wp2_with fail
  go_loopw [13] (fun iv wr => ∃ i : Nat, i ≤ l.length ∧ iv = .int .i64 i ∧ (l.take i).any (thrB p) = false ∧ wr = w) (fun iv _ => l.length - (intOf iv).toNat)
  case atStart => exact ⟨0, Nat.zero_le _, rfl, rfl, rfl⟩
  case round =>
    obtain ⟨i, hi, rfl, hf, rfl⟩ := hrel
    by_cases hil : i < l.length
    · obtain ⟨g, cap, hv2, h1, h2, h3, h4, hc, hz⟩ := h.item lnEnc_length hil
      rw [hv] at hv2
      simp only [Value.slice.injEq] at hv2
      obtain ⟨rfl, _, rfl⟩ := hv2
      have d5 := hc i hil 5 (by omega)
      have d6 := hc i hil 6 (by omega)
      simp only [lnEnc, List.getElem?_cons_succ, List.getElem?_cons_zero] at d5 d6
      have hth := thr_any g (i * 7) p (atL l i).rt (atL l i).lf wr d5 d6
      have hnx := any_take_succ hil hf
      rw [show ((atL l i).rt == p || (atL l i).lf == p) = thrB p (atL l i) from rfl] at hth
      have hall : thrB p (atL l i) = true → tableB l p = true := fun e => List.any_eq_true.2 ⟨_, mem_atL hil, e⟩
      generalize thrB p (atL l i) = X at hth hnx hall
      clear hc hz d5 d6
      go_wp2_with fail
      refine hth.mono ?_
      rintro e w2 ⟨rfl, rfl⟩
      cases X
      · go_wp2
        go_roundw
        case rel => exact ⟨i + 1, by omega, by go_num, hnx, trivial⟩
        case measure => simp [intOf]; omega
      · go_wp2
        go_ret
        exact ⟨by rw [(by first | exact hall rfl | exact hall trivial : tableB l p = true)]; rfl, rfl⟩
    · obtain rfl : i = l.length := by omega
      rw [List.take_length] at hf
      have ht : tableB l p = false := hf
      go_wp2
      go_ret
      exact ⟨by rw [ht]; rfl, rfl⟩
theorem sh_len (w : World) (h : ShIn w b v l) :
    Calls Try.prog 18 #[.pointer (some ⟨b, 0, none⟩)] w fun e w' => e = .returned (.int .i64 l.length) ∧ w = w' := by
  have c0 := shField w h
  have hlt := h.lt
  obtain ⟨va, vc, hv⟩ := ownsRow_shape h.2
  go_enter Try.func18, Try.ntmps18
  go_wp2_with fail
  refine (sh_none _ h).mono ?_
  rintro e w' ⟨rfl, rfl⟩
  rw [hv] at c0
  go_wp2
  go_ret
  exact ⟨rfl, rfl⟩
theorem Try.kptInfo : (Try.prog.info? 39).map (fun i => (i.zero, i.size, i.bytes)) = some (some (.agg #[.int .i64 0, .int .i64 0, .int .i64 0, .int .i64 0, .int .i64 0]), 5, 40) := by kernel_rfl
/-- The first that has a key. -/
def getL (l : List ln) (k0 k1 : Int) : Option ln := l.find? (keyB k0 k1)
def getX (l : List ln) (k0 k1 : Int) : ln := (getL l k0 k1).getD ⟨0, 0, 0, 0, 0, 0, 0⟩
def getB (l : List ln) (k0 k1 : Int) : Bool := (getL l k0 k1).isSome
theorem find_take_succ {α : Type} [Inhabited α] {f : α → Bool} {l : List α} {i : Nat} (hi : i < l.length) (h : (l.take i).find? f = none) : (l.take (i + 1)).find? f = if f (atL l i) = true then some (atL l i) else none := by
  rw [take_succ_atL hi, List.find?_append, h]
  simp only [Option.none_or, List.find?_cons, List.find?_nil]
  split <;> simp_all
theorem find_take {α : Type} {f : α → Bool} {l : List α} {i : Nat} {x : α} (h : (l.take i).find? f = some x) : l.find? f = some x := by
  have e := List.take_append_drop i l
  rw [← e, List.find?_append, h]
  rfl
set_option maxHeartbeats 1000000 in
theorem sh_get (k0 k1 : Int) (w : World) (h : ShIn w b v l) (hn : l.length ≤ 1000) :
    Calls Try.prog 16 #[.pointer (some ⟨b, 0, none⟩), .agg #[.int .i64 k0, .int .i64 k1]] w fun e w' => e = .returned (.tuple #[.agg #[.int .i64 (getX l k0 k1).ep, .int .i64 (getX l k0 k1).ef, .int .i64 (getX l k0 k1).er], .bool (getB l k0 k1)]) ∧ Below w.heap.size w w' := by
  have hlt := h.lt
  obtain ⟨va, vc, hv⟩ := ownsRow_shape h.2
  go_enter Try.func16, Try.ntmps16
  go_wp2_with fail
  refine (sh_none _ h.alloc.alloc).mono ?_
  rintro e w' ⟨rfl, rfl⟩
  have hB : Bel w.heap.size w ((w.alloc (.cells #[.int .i64 k0, .int .i64 k1] 30)).alloc (.cells #[.int .i64 0, .int .i64 0, .int .i64 0] 32)) := (Bel.refl w).alloc.alloc
  have h2 := h.alloc (ob := .cells #[.int .i64 k0, .int .i64 k1] 30) |>.alloc (ob := .cells #[.int .i64 0, .int .i64 0, .int .i64 0] 32)
  have eK : ((w.alloc (.cells #[.int .i64 k0, .int .i64 k1] 30)).alloc (.cells #[.int .i64 0, .int .i64 0, .int .i64 0] 32)).heap[w.heap.size]? = some (.cells #[.int .i64 k0, .int .i64 k1] 30 (0, 0)) := heap_alloc (Go.heap_alloc_new w _)
  have eR : ((w.alloc (.cells #[.int .i64 k0, .int .i64 k1] 30)).alloc (.cells #[.int .i64 0, .int .i64 0, .int .i64 0] 32)).heap[w.heap.size + 1]? = some (.cells #[.int .i64 0, .int .i64 0, .int .i64 0] 32 (0, 0)) := by
    have := Go.heap_alloc_new (w.alloc (.cells #[.int .i64 k0, .int .i64 k1] 30)) (.cells #[.int .i64 0, .int .i64 0, .int .i64 0] 32)
    simpa using this
  generalize ((w.alloc (.cells #[.int .i64 k0, .int .i64 k1] 30)).alloc (.cells #[.int .i64 0, .int .i64 0, .int .i64 0] 32)) = w2 at *
  have c0 := shField _ h2
  rw [hv] at c0
  go_wp2_with fail
  go_loopw [16] (fun iv wr => ∃ i : Nat, i ≤ l.length ∧ iv = .int .i64 i ∧ (l.take i).find? (keyB k0 k1) = none ∧ Below w2.heap.size w2 wr) (fun iv _ => l.length - (intOf iv).toNat)
  case atStart => exact ⟨0, Nat.zero_le _, rfl, rfl, Below.refl _ _⟩
  case round =>
    obtain ⟨i, hi, rfl, hf, hb⟩ := hrel
    have hr := h2.below hb
    have hs := hb.size
    have hBr := hB.of hb
    have eK2 := (hb.block _ (lt_heap eK)).trans eK
    have eR2 := (hb.block _ (lt_heap eR)).trans eR
    have e0 := (cell_of_row _ _ 0 _ _ _ eK2).trans rfl
    have e1 := (cell_of_row _ _ 1 _ _ _ eK2).trans rfl
    have f0 := (cell_of_row _ _ 0 _ _ _ eR2).trans rfl
    have f1 := (cell_of_row _ _ 1 _ _ _ eR2).trans rfl
    have f2 := (cell_of_row _ _ 2 _ _ _ eR2).trans rfl
    have z0 : wr.frozen? ⟨w.heap.size + 1, 0, none⟩ = false := by simp [World.frozen?, eR2]
    have z1 : wr.frozen? ⟨w.heap.size + 1, 1, none⟩ = false := by simp [World.frozen?, eR2]
    have z2 : wr.frozen? ⟨w.heap.size + 1, 2, none⟩ = false := by simp [World.frozen?, eR2]
    have lk := lt_heap eK2
    have lr := lt_heap eR2
    have ER := Lib.hid eR2
    clear eK2 eR2
    by_cases hil : i < l.length
    · obtain ⟨g, cap, hv2, h1, h2', h3, h4, hc, hz⟩ := hr.item lnEnc_length hil
      rw [hv] at hv2
      simp only [Value.slice.injEq] at hv2
      obtain ⟨rfl, _, rfl⟩ := hv2
      have d0 := hc i hil 0 (by omega)
      have d1 := hc i hil 1 (by omega)
      have d2 := hc i hil 2 (by omega)
      have d3 := hc i hil 3 (by omega)
      have d4 := hc i hil 4 (by omega)
      have d5 := hc i hil 5 (by omega)
      have d6 := hc i hil 6 (by omega)
      simp only [lnEnc, List.getElem?_cons_succ, List.getElem?_cons_zero, Nat.add_zero] at d0 d1 d2 d3 d4 d5 d6
      have hnx := find_take_succ hil hf
      clear hc hz
      by_cases hk : keyB k0 k1 (atL l i) = true
      · rw [if_pos hk] at hnx
        have hg : getL l k0 k1 = some (atL l i) := find_take hnx
        have hg1 : getX l k0 k1 = atL l i := by rw [getX, hg]; rfl
        have hg2 : getB l k0 k1 = true := by rw [getB, hg]; rfl
        have hk' := hk
        simp only [keyB, Bool.and_eq_true, beq_iff_eq] at hk'
        have HG1 := Lib.hid hg1
        have HG2 := Lib.hid hg2
        clear hg hg1 hg2 hnx hk
        go_wp2_with fail
        have eF : ((((wr.setCell ⟨w.heap.size + 1, 0, none⟩ (.int .i64 (atL l i).ep)).setCell ⟨w.heap.size + 1, 1, none⟩ (.int .i64 (atL l i).ef)).setCell ⟨w.heap.size + 1, 2, none⟩ (.int .i64 (atL l i).er)).alloc (.cells #[.int .i64 k0, .int .i64 k1, .int .i64 (atL l i).ep, .int .i64 (atL l i).ef, .int .i64 (atL l i).er, .int .i64 (atL l i).rt, .int .i64 (atL l i).lf] 66)).heap[w.heap.size + 1]? = some (.cells #[.int .i64 (atL l i).ep, .int .i64 (atL l i).ef, .int .i64 (atL l i).er] 32 (0, 0)) := heap_alloc (heap_setCell_at (o := 2) (heap_setCell_at (o := 1) (heap_setCell_at (o := 0) ER.out)))
        have hBf : Bel w.heap.size w ((((wr.setCell ⟨w.heap.size + 1, 0, none⟩ (.int .i64 (atL l i).ep)).setCell ⟨w.heap.size + 1, 1, none⟩ (.int .i64 (atL l i).ef)).setCell ⟨w.heap.size + 1, 2, none⟩ (.int .i64 (atL l i).er)).alloc (.cells #[.int .i64 k0, .int .i64 k1, .int .i64 (atL l i).ep, .int .i64 (atL l i).ef, .int .i64 (atL l i).er, .int .i64 (atL l i).rt, .int .i64 (atL l i).lf] 66)) := (((hBr.setCell (by show _ ≤ w.heap.size + 1; omega)).setCell (by show _ ≤ w.heap.size + 1; omega)).setCell (by show _ ≤ w.heap.size + 1; omega)).alloc
        generalize ((((wr.setCell ⟨w.heap.size + 1, 0, none⟩ (.int .i64 (atL l i).ep)).setCell ⟨w.heap.size + 1, 1, none⟩ (.int .i64 (atL l i).ef)).setCell ⟨w.heap.size + 1, 2, none⟩ (.int .i64 (atL l i).er)).alloc (.cells #[.int .i64 k0, .int .i64 k1, .int .i64 (atL l i).ep, .int .i64 (atL l i).ef, .int .i64 (atL l i).er, .int .i64 (atL l i).rt, .int .i64 (atL l i).lf] 66)) = W at *
        have g0 := (cell_of_row _ _ 0 _ _ _ eF).trans rfl
        have g1 := (cell_of_row _ _ 1 _ _ _ eF).trans rfl
        have g2 := (cell_of_row _ _ 2 _ _ _ eF).trans rfl
        exact bodyPost_ret (v := .tuple #[.agg #[.int .i64 (atL l i).ep, .int .i64 (atL l i).ef, .int .i64 (atL l i).er], .bool true]) (by simp [results, Try.results16, go_sem, g0, g1, g2]) rfl ⟨by rw [HG1.out, HG2.out], hBf.1⟩
      · rw [if_neg hk] at hnx
        have hk' : ((atL l i).kr == k0 && (atL l i).kp == k1) = false := by simpa [keyB] using hk
        clear hk
        go_wp2_with fail
        go_roundw
        case rel => exact ⟨i + 1, by omega, by go_num, hnx, hb.alloc hb.size _⟩
        case measure => simp [intOf]; omega
    · obtain rfl : i = l.length := by omega
      rw [List.take_length] at hf
      have hg : getL l k0 k1 = none := hf
      have hg1 : getX l k0 k1 = ⟨0, 0, 0, 0, 0, 0, 0⟩ := by rw [getX, hg]; rfl
      have hg2 : getB l k0 k1 = false := by rw [getB, hg]; rfl
      have HG1 := Lib.hid hg1
      have HG2 := Lib.hid hg2
      clear hg hg1 hg2
      go_wp2_with fail
      have eF : (((wr.setCell ⟨w.heap.size + 1, 0, none⟩ (.int .i64 0)).setCell ⟨w.heap.size + 1, 1, none⟩ (.int .i64 0)).setCell ⟨w.heap.size + 1, 2, none⟩ (.int .i64 0)).heap[w.heap.size + 1]? = some (.cells #[.int .i64 0, .int .i64 0, .int .i64 0] 32 (0, 0)) := (heap_setCell_at (o := 2) (heap_setCell_at (o := 1) (heap_setCell_at (o := 0) ER.out)))
      have hBf : Bel w.heap.size w (((wr.setCell ⟨w.heap.size + 1, 0, none⟩ (.int .i64 0)).setCell ⟨w.heap.size + 1, 1, none⟩ (.int .i64 0)).setCell ⟨w.heap.size + 1, 2, none⟩ (.int .i64 0)) := ((hBr.setCell (by show _ ≤ w.heap.size + 1; omega)).setCell (by show _ ≤ w.heap.size + 1; omega)).setCell (by show _ ≤ w.heap.size + 1; omega)
      generalize (((wr.setCell ⟨w.heap.size + 1, 0, none⟩ (.int .i64 0)).setCell ⟨w.heap.size + 1, 1, none⟩ (.int .i64 0)).setCell ⟨w.heap.size + 1, 2, none⟩ (.int .i64 0)) = W at *
      have g0 := (cell_of_row _ _ 0 _ _ _ eF).trans rfl
      have g1 := (cell_of_row _ _ 1 _ _ _ eF).trans rfl
      have g2 := (cell_of_row _ _ 2 _ _ _ eF).trans rfl
      exact bodyPost_ret (v := .tuple #[.agg #[.int .i64 0, .int .i64 0, .int .i64 0], .bool false]) (by simp [results, Try.results16, go_sem, g0, g1, g2]) rfl ⟨by rw [HG1.out, HG2.out], hBf.1⟩
set_option maxHeartbeats 1000000 in
theorem sh_list (w : World) (h : ShIn w b v l) (hn : l.length ≤ 1000) :
    Calls Try.prog 10 #[.pointer (some ⟨b, 0, none⟩)] w fun e w' => ∃ u, e = .returned u ∧ w'.ownsRow w.heap.size 39 5 u l.length (l.flatMap kpEnc) ∧ Below w.heap.size w w' := by
  obtain ⟨i0, hi0, hz0, hz1, hz2⟩ := info_parts Try.kptInfo
  have hlt := h.lt
  have c0 := shField _ h
  obtain ⟨va, vc, hv⟩ := ownsRow_shape h.2
  go_enter Try.func10, Try.ntmps10
  go_wp2_with fail
  refine (sh_none _ h).mono ?_
  rintro e w' ⟨rfl, rfl⟩
  rw [hv] at c0
  go_wp2_with fail
  go_loopw [3, 13] (fun u iv wr => ∃ i : Nat, i ≤ l.length ∧ iv = .int .i64 i ∧ wr.ownsRow w.heap.size 39 5 u i ((l.take i).flatMap kpEnc) ∧ Bel w.heap.size w wr) (fun _ iv _ => l.length - (intOf iv).toNat)
  case atStart => exact ⟨0, Nat.zero_le _, rfl, World.ownsRow_nil _ _ _ _, Bel.refl w⟩
  case round =>
    obtain ⟨i, hi, rfl, hown, hb⟩ := hrel
    have hr := h.below hb.1
    by_cases hil : i < l.length
    · obtain ⟨g, cap, hv2, h1, h2', h3, h4, hc, hz⟩ := hr.item lnEnc_length hil
      rw [hv] at hv2
      simp only [Value.slice.injEq] at hv2
      obtain ⟨rfl, _, rfl⟩ := hv2
      have d0 := hc i hil 0 (by omega)
      have d1 := hc i hil 1 (by omega)
      have d2 := hc i hil 2 (by omega)
      have d3 := hc i hil 3 (by omega)
      have d4 := hc i hil 4 (by omega)
      have d5 := hc i hil 5 (by omega)
      have d6 := hc i hil 6 (by omega)
      simp only [lnEnc, List.getElem?_cons_succ, List.getElem?_cons_zero, Nat.add_zero] at d0 d1 d2 d3 d4 d5 d6
      have hsuc : (l.take (i + 1)).flatMap kpEnc = (l.take i).flatMap kpEnc ++ [.int .i64 (atL l i).kr, .int .i64 (atL l i).kp, .int .i64 (atL l i).ep, .int .i64 (atL l i).ef, .int .i64 (atL l i).er] := by
        rw [take_succ_atL hil, List.flatMap_append]
        rfl
      have HS := Lib.hid hsuc
      clear hc hz hsuc
      go_wp2_with (at_builtin; refine wpList_append_own _ rfl _ _ 35 rfl w.heap.size 39 i0 _ 5 40 Try.underlying35 hi0 hz0 hz1 hz2 rfl (by decide) _ _ _ rfl (World.ownsRow.alloc (World.ownsRow.alloc hown _) _) ⟨wr.heap.size + 1, 0, none⟩ 1 1 [.int .i64 (atL l i).kr, .int .i64 (atL l i).kp, .int .i64 (atL l i).ep, .int .i64 (atL l i).ef, .int .i64 (atL l i).er] rfl rfl ?c1 ?c2 ?c3 ?c4 ?c5 ?_)
      case c1 =>
        intro j u hj
        match j, hj with
        | 0, hj => simp at hj; subst hj; simp [Addr.add]
        | 1, hj => simp at hj; subst hj; simp [Addr.add]
        | 2, hj => simp at hj; subst hj; simp [Addr.add]
        | 3, hj => simp at hj; subst hj; simp [Addr.add]
        | 4, hj => simp at hj; subst hj; simp [Addr.add]
      case c2 => intro u hu; simp at hu; rcases hu with rfl | rfl | rfl | rfl | rfl <;> rfl
      case c3 => unfold maxLen; omega
      case c4 => omega
      case c5 => have := hb.2; simp; omega
      intro v4 w4 hown4 hgrow _
      have hb4 := (hb.alloc).append (World.ownsRow.alloc hown _) hgrow
      go_wp2
      go_roundw
      case rel => exact ⟨i + 1, by omega, by go_num, by rw [HS.out]; exact hown4, hb4⟩
      case measure => simp [intOf]; omega
    · obtain rfl : i = l.length := by omega
      rw [List.take_length] at hown
      go_wp2
      go_ret
      exact ⟨_, rfl, hown, hb.1⟩
end
end Go.Proofs.Ythppjkpejnaocaa
