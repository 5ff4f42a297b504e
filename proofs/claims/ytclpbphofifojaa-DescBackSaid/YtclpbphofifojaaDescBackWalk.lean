/- The walk of hermitagelaw21.DescBack: true at every input. -/
import Derived.Test.YtclpbphofifojaaD21c
import Derived.Deep.RegionHeld3
namespace Go.Proofs.Ytclpbphofifojaa
open Go.ChangeShapes Go.WideShapes Go.ChangeAt Go.RowKit
set_option linter.unusedVariables false

theorem byte_of_get {f : Nat → Int} (hf : Byt f) (a r : Nat) (hr : r < 4) : getV f a 4 / (256 : Int) ^ r % 256 = f (a + r) := by
  obtain ⟨h0, h1⟩ := hf a
  obtain ⟨h2, h3⟩ := hf (a + 1)
  obtain ⟨h4, h5⟩ := hf (a + 2)
  obtain ⟨h6, h7⟩ := hf (a + 3)
  have : r = 0 ∨ r = 1 ∨ r = 2 ∨ r = 3 := by omega
  rcases this with rfl | rfl | rfl | rfl <;> simp [getV] <;> omega
theorem wb_four {f : Nat → Int} (hf : Byt f) (i : Nat) (hi : i < 16) : wb (four (getV f 0 4) (getV f 4 4) (getV f 8 4) (getV f 12 4)) 4 i = f i := by
  have e : four (getV f 0 4) (getV f 4 4) (getV f 8 4) (getV f 12 4) (i / 4) = getV f (4 * (i / 4)) 4 := by
    have : i / 4 = 0 ∨ i / 4 = 1 ∨ i / 4 = 2 ∨ i / 4 = 3 := by omega
    rcases this with h | h | h | h <;> rw [h] <;> rfl
  unfold wb
  rw [if_pos (by omega), e, byte_of_get hf _ _ (by omega), show 4 * (i / 4) + i % 4 = i by omega]
theorem strF_congr {f g : Nat → Int} {n : Nat} (h : ∀ i, i < n → f i = g i) : strF f n = strF g n := by
  unfold strF
  congr 1
  apply List.map_congr_left
  intro i hi
  exact h i (List.mem_range.1 hi)
theorem conv_src {w : World} {p : Option Addr} {n : Nat} {f : Nat → Int} (h : SrcAt w p n f) (c : Nat) : (convert 34 9 (.slice p n c)).run Try.prog w = .ok (.string (strF f n)) w := by
  by_cases hn : 1 ≤ n
  · obtain ⟨b, o, rfl, hb⟩ := h.2.2 hn
    exact conv_bytes hb c
  · obtain rfl : n = 0 := by omega
    rw [run_convert_bytes_string w 34 9 5 _ 0 c Try.underlying34 Try.underlying5 Try.underlying9]
    cases p <;> simp [Conv.bytesToString, loadCells]
    all_goals rfl

set_option maxRecDepth 100000 in
set_option maxHeartbeats 2000000 in
theorem descBack_walk (l0 : List Value) (p1 : Option Addr) (n1 c1 : Nat) (f1 : Nat → List Value) (w : World) (w0 : rowOk [some .u32, some .u32, some .u32, some .u32] l0) (w1 : SliceOk [some .u8] w p1 n1 c1 f1) (hR1 : c1 * 1 ≤ 140737488351232) :
    Calls Try.prog 9 #[.agg l0.toArray, .slice p1 n1 c1] w fun e w' => e = .returned (.bool true) ∧ Below w.heap.size w w' := by
  obtain ⟨a, r, rfl, wa, w0⟩ := rowOk_int w0
  obtain ⟨b, r, rfl, wb', w0⟩ := rowOk_int w0
  obtain ⟨c, r, rfl, wc, w0⟩ := rowOk_int w0
  obtain ⟨d, r, rfl, wd, w0⟩ := rowOk_int w0
  obtain rfl := rowOk_nil w0
  have ba := bounds_u32 wa
  have bb := bounds_u32 wb'
  have bc := bounds_u32 wc
  have bd := bounds_u32 wd
  have hnc := w1.1
  obtain ⟨f, hs⟩ := src_of_ok w1
  have hg0 : getV (wb (four a b c d) 4) 0 4 = a := wb_get (four a b c d) 4 0 (by omega) ba.1 ba.2
  have hg1 : getV (wb (four a b c d) 4) 4 4 = b := wb_get (four a b c d) 4 1 (by omega) bb.1 bb.2
  have hg2 : getV (wb (four a b c d) 4) 8 4 = c := wb_get (four a b c d) 4 2 (by omega) bc.1 bc.2
  have hg3 : getV (wb (four a b c d) 4) 12 4 = d := wb_get (four a b c d) 4 3 (by omega) bd.1 bd.2
  clear w0 wa wb' wc wd w1
  go_enter Try.func9, Try.ntmps9
  go_wp2_with fail
  refine (dput_any a b c d _ ba bb bc bd).mono ?_
  rintro e w2 ⟨g, rfl, hgb, hr, hb2⟩
  have hget := dget_in (some ⟨g, 0, none⟩) 16 _ w2 hr.bat.src (Nat.le_refl _)
  rw [hg0, hg1, hg2, hg3] at hget
  go_wp2_with fail
  refine hget.mono ?_
  rintro e w3 ⟨rfl, hb3⟩
  clear hget hg0 hg1 hg2 hg3
  have s2 : w.heap.size + 1 ≤ w2.heap.size := by simpa using hb2.size
  have hbel3 : Bel w.heap.size w w3 := Bel.of (Bel.of (Bel.refl w).alloc hb2) hb3
  have q0 : w3.cell? ⟨w.heap.size, 0, none⟩ = some (.int .u32 a) := (hb3.cell (p := ⟨w.heap.size, 0, none⟩) (by show w.heap.size < _; omega)).trans ((hb2.cell (p := ⟨w.heap.size, 0, none⟩) (by simp)).trans (by simp [go_sem]))
  have q1 : w3.cell? ⟨w.heap.size, 1, none⟩ = some (.int .u32 b) := (hb3.cell (p := ⟨w.heap.size, 1, none⟩) (by show w.heap.size < _; omega)).trans ((hb2.cell (p := ⟨w.heap.size, 1, none⟩) (by simp)).trans (by simp [go_sem]))
  have q2 : w3.cell? ⟨w.heap.size, 2, none⟩ = some (.int .u32 c) := (hb3.cell (p := ⟨w.heap.size, 2, none⟩) (by show w.heap.size < _; omega)).trans ((hb2.cell (p := ⟨w.heap.size, 2, none⟩) (by simp)).trans (by simp [go_sem]))
  have q3 : w3.cell? ⟨w.heap.size, 3, none⟩ = some (.int .u32 d) := (hb3.cell (p := ⟨w.heap.size, 3, none⟩) (by show w.heap.size < _; omega)).trans ((hb2.cell (p := ⟨w.heap.size, 3, none⟩) (by simp)).trans (by simp [go_sem]))
  have s3 := hb3.size
  have hs3 := hs.below hbel3.1
  clear hb2 hb3 hr hs
  have hbig : w.heap.size < w3.heap.size := by omega
  by_cases h16 : n1 = 16
  · subst h16
    have hf := hs3.2.1
    go_wp2_with fail
    refine (dget_in p1 c1 f _ (hs3.below (Bel.refl w3).alloc.1) hnc).mono ?_
    rintro e w4 ⟨rfl, hb4⟩
    have hs4 := (hs3.below (Bel.refl w3).alloc.1).below hb4
    have hbel4 : Bel w.heap.size w w4 := hbel3.alloc.of hb4
    have v0 := getV_bound hf 0 4
    have v1 := getV_bound hf 4 4
    have v2 := getV_bound hf 8 4
    have v3 := getV_bound hf 12 4
    have hst : strF (wb (four (getV f 0 4) (getV f 4 4) (getV f 8 4) (getV f 12 4)) 4) 16 = strF f 16 := strF_congr (wb_four hf)
    obtain ⟨A, hA⟩ : ∃ A, getV f 0 4 = A := ⟨_, rfl⟩
    obtain ⟨B, hB⟩ : ∃ A, getV f 4 4 = A := ⟨_, rfl⟩
    obtain ⟨C, hC⟩ : ∃ A, getV f 8 4 = A := ⟨_, rfl⟩
    obtain ⟨D, hD⟩ : ∃ A, getV f 12 4 = A := ⟨_, rfl⟩
    rw [hA, hB, hC, hD] at hst
    rw [hA] at v0 ⊢
    rw [hB] at v1 ⊢
    rw [hC] at v2 ⊢
    rw [hD] at v3 ⊢
    have vv0 : 0 ≤ A ∧ A ≤ 4294967295 := by have := v0.2; simp at this; omega
    have vv1 : 0 ≤ B ∧ B ≤ 4294967295 := by have := v1.2; simp at this; omega
    have vv2 : 0 ≤ C ∧ C ≤ 4294967295 := by have := v2.2; simp at this; omega
    have vv3 : 0 ≤ D ∧ D ≤ 4294967295 := by have := v3.2; simp at this; omega
    clear v0 v1 v2 v3 hA hB hC hD q0 q1 q2 q3 hb4 hs3 hbig s2 s3
    have kc := fun (wx : World) (h : Below w4.heap.size w4 wx) => conv_src (hs4.below h) c1
    have kc0 := kc (w4.alloc (.cells #[.int .u32 A, .int .u32 B, .int .u32 C, .int .u32 D] 30)).drew (Bel.refl w4).alloc.drew.1
    have kc9 := kc (w4.alloc (.cells #[.int .u32 A, .int .u32 B, .int .u32 C, .int .u32 D] 30)) (Bel.refl w4).alloc.1
    have HK := Lib.hid kc
    have z0 : (w4.alloc (.cells #[.int .u32 A, .int .u32 B, .int .u32 C, .int .u32 D] 30)).cell? ⟨w4.heap.size, 0, none⟩ = some (.int .u32 A) := by simp [go_sem]
    have z1 : (w4.alloc (.cells #[.int .u32 A, .int .u32 B, .int .u32 C, .int .u32 D] 30)).cell? ⟨w4.heap.size, 1, none⟩ = some (.int .u32 B) := by simp [go_sem]
    have z2 : (w4.alloc (.cells #[.int .u32 A, .int .u32 B, .int .u32 C, .int .u32 D] 30)).cell? ⟨w4.heap.size, 2, none⟩ = some (.int .u32 C) := by simp [go_sem]
    have z3 : (w4.alloc (.cells #[.int .u32 A, .int .u32 B, .int .u32 C, .int .u32 D] 30)).cell? ⟨w4.heap.size, 3, none⟩ = some (.int .u32 D) := by simp [go_sem]
    clear kc
    go_wp2_with fail
    go_region_with (first
      | (go_at_call 31; refine (dput_any A B C D _ vv0 vv1 vv2 vv3).mono ?_; rintro e wp ⟨gp, rfl, hgp, hrp, hbp⟩; have kp := conv_bytes hrp.bat 16; rw [hst] at kp; have hbelp : Bel w4.heap.size w4 wp := Bel.of (Bel.refl w4).alloc.drew hbp; have kc1 := HK.out wp hbelp.1)
      | (go_at_call 13; refine (awake21 _).mono ?_; rintro e wq ⟨rfl, hbq⟩; have hbelq : Bel w4.heap.size w4 wq := hbelp.of hbq))
    all_goals
      go_wp2_with fail
      go_ret
      exact ⟨rfl, (hbel4.trans hbelq hbel4.2).1⟩
  · have hn16 : ((n1 : Int) != 16) = true := by simp; omega
    go_wp2_with fail
    refine (Calls.lat (dget_no p1 n1 c1 _ h16)).mono ?_
    rintro e w' ⟨rfl, x4, rfl⟩
    go_wp2_with fail
    refine (Calls.lat (awake21 _)).mono ?_
    rintro e w' ⟨rfl, x5, rfl⟩
    have hbel := hbel3
    go_wp2_with fail
    go_ret
    exact ⟨rfl, (by refine (?_ : Bel _ _ _).1; repeat (first | exact hbel | exact Bel.refl _ | apply Bel.later | apply Bel.alloc | apply Bel.drew | (refine Bel.laterB ?_ (by first | exact Nat.le_refl _ | omega | (simp; omega) | simp)) | (refine Bel.setCell ?_ (by first | exact Nat.le_refl _ | omega | (simp; omega) | simp))))⟩

end Go.Proofs.Ytclpbphofifojaa
