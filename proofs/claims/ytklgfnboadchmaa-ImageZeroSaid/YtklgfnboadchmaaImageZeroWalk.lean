/- law 35: ImageZero. -/
import Derived.Test.YtklgfnboadchmaaImZ
namespace Go.Proofs.Ytklgfnboadchmaa
open Go.ChangeShapes Go.WideShapes Go.ChangeAt Go.RowKit
set_option linter.unusedVariables false
set_option maxRecDepth 20000

theorem host_left : leftC (hostL 10) 1 = 7 ∧ leftC (hostL 10) 2 = 3 := by decide
theorem pages_zeroMap : pagesTo zeroMap 12 = [] := by decide
set_option maxRecDepth 100000 in
set_option maxHeartbeats 4000000 in
theorem imageZero_walk (a0 : Int) (a1 : Int) (p2 : Option Addr) (n2 c2 : Nat) (f2 : Nat → List Value) (w : World) (w0 : (Lit.int .i64 a0).wf = true) (w1 : (Lit.int .i64 a1).wf = true) (w2 : SliceOk [some .u32] w p2 n2 c2 f2) (hR2 : c2 * 4 ≤ 140737488351232) :
    Calls Try.prog 3 #[.int .i64 a0, .int .i64 a1, .slice p2 n2 c2] w fun e w' => e = .returned (.bool true) ∧ Below w.heap.size w w' := by
  clear w0 w1 w2 hR2
  go_enter Try.func3, Try.ntmps3
  go_wp2_with fail
  refine (host_any 9 10 (by decide) (by decide) (by decide) _).mono ?_
  rintro e w1 ⟨b, s, fb, q, t, rb, V, L, st, uv, tv, rfl, hP⟩
  have hB := hP.bel
  go_wp2_with fail
  refine (new_map2 _).mono ?_
  rintro e w3 ⟨mb, rfl, hmb, hm, b3⟩
  obtain ⟨A, h2, hA⟩ := (hP.below b3).img hm (Nat.le_trans hB.2 hmb)
  have hB2 := hB.of b3
  clear hP hB hmb hm b3
  go_wp2_with fail
  refine (layNo none (some ⟨s, 0, none⟩) (some ⟨mb, 0, none⟩) a0 a1 _ _ (fun w' hb => made_p _ _ _)).mono ?_
  rintro e w4 ⟨rfl, b4⟩
  have hz4 : w4.cell? ⟨w3.heap.size, 24, none⟩ = some (.bool false) := (b4.cell (p := ⟨w3.heap.size, 24, none⟩) (by show _ < _; simp)).trans (by simp [go_sem])
  have hB4 := hB2.alloc.of b4
  have h4 := h2.alloc.below b4
  clear b4 hB2 h2
  generalize w3.heap.size = zb at *
  go_wp2_with fail
  refine (layNo (some ⟨b, 0, none⟩) none (some ⟨mb, 0, none⟩) a0 a1 _ _ (fun w' hb => made_s _ _ (h4.below hb) (fun w => z_Len none w (ZeroAt.nil w)))).mono ?_
  rintro e w5 ⟨rfl, b5⟩
  have hz5 := (b5.cell (p := ⟨zb, 24, none⟩) (cell_lt hz4)).trans hz4
  have hB5 := hB4.of b5
  have h5 := h4.below b5
  clear b5 hB4 h4 hz4
  go_wp2_with fail
  refine (layNo (some ⟨b, 0, none⟩) (some ⟨s, 0, none⟩) none a0 a1 _ _ (fun w' hb => made_m none _ (h5.below hb) (fun w _ => ZeroGmap.nil w))).mono ?_
  rintro e w6 ⟨rfl, b6⟩
  have hz6 := (b6.cell (p := ⟨zb, 24, none⟩) (cell_lt hz5)).trans hz5
  have hB6 := hB5.of b6
  have h6 := h5.below b6
  clear b6 hB5 h5 hz5
  go_wp2_with fail
  refine (layNo (some ⟨b, 0, none⟩) (some ⟨s, 0, none⟩) (some ⟨zb, 0, none⟩) a0 a1 _ _ (fun w' hb => made_m _ _ (h6.below hb) (fun w'' hb2 => .inr ⟨zb, rfl, (hb2.cell (p := ⟨zb, 24, none⟩) (Nat.lt_of_lt_of_le (cell_lt hz6) hb.size)).trans ((hb.cell (p := ⟨zb, 24, none⟩) (cell_lt hz6)).trans hz6)⟩))).mono ?_
  rintro e w7 ⟨rfl, b7⟩
  have hB7 := hB6.of b7
  have h7 := h6.below b7
  clear b7 hB6 h6 hz6
  go_wp2_with fail
  refine (stripNo none (some ⟨mb, 0, none⟩) _ (fun w' i hi hb => get_zeroMap mb i w' (h7.below hb).m)).mono ?_
  rintro e w8 ⟨rfl, b8⟩
  have hB8 := hB7.of b8
  have h8 := h7.below b8
  clear b8 hB7 h7
  go_wp2_with fail
  refine (stripNo (some ⟨b, 0, none⟩) none _ (fun w' i hi hb => gget_zero none i w' (ZeroGmap.nil _))).mono ?_
  rintro e w9 ⟨rfl, b9⟩
  have hB9 := hB8.of b9
  have h9 := h8.below b9
  clear b9 hB8 h8
  go_wp2_with fail
  refine (pages_any mb zeroMap _ h9.m).mono ?_
  rintro e wx ⟨v, rfl, hown, bx⟩
  have hBx := hB9.of bx
  have hx := h9.below bx
  clear bx hB9 h9
  rw [pages_zeroMap] at hown
  obtain ⟨va, vc, rfl⟩ := ownsRow_shape hown
  go_wp2_with fail
  refine (iLeft 1 _ hx).mono ?_
  rintro e wy ⟨rfl, rfl⟩
  rw [host_left.1]
  go_wp2_with fail
  refine (iLeft 2 _ hx).mono ?_
  rintro e wy ⟨rfl, rfl⟩
  rw [host_left.2]
  go_wp2_with fail
  refine (len_of s fb 10 _ _ hx.sto).mono ?_
  rintro e wy ⟨rfl, by'⟩
  go_wp2
  go_ret
  exact ⟨rfl, (hBx.of by').1⟩
end Go.Proofs.Ytklgfnboadchmaa
