/- Contracts of the reference: Words, Bytes, and desc's Get and Put. -/
import Derived.Test.YtclpbphofifojaaD21c
namespace Go.Proofs.Ytclpbphofifojaa
open Go.ChangeShapes Go.WideShapes Go.ChangeAt Go.RowKit
set_option linter.unusedVariables false

set_option maxHeartbeats 1000000 in
theorem rwords_any (p : Option Addr) (n c : Nat) (f : Nat → Int) (w : World) (h : SrcAt w p n f) (hnc : n ≤ c) (hn : n ≤ 140737488355328) :
    Calls Try.prog 26 #[.slice p n c] w fun e w' => ∃ v, e = .returned v ∧ Owned32 w' w.heap.size v (wordsOf f (n / 4)) ∧ Below w.heap.size w w' := by
  obtain ⟨i0, hi, hz0, hz1, hz2⟩ := info_parts Try.infoWord
  go_enter Try.func26, Try.ntmps26
  go_wp2
  go_loopw [3, 4] (fun v i wr => ∃ k : Nat, k ≤ n / 4 ∧ i = .int .i64 (4 * k : Nat) ∧ Owned32 wr w.heap.size v (wordsOf f k) ∧ Below w.heap.size w wr) (fun _ i _ => n - (intOf i).toNat)
  case atStart => exact ⟨0, Nat.zero_le _, rfl, (by unfold Owned32 wordsOf; exact World.ownsRow_nil _ _ _ _), Below.refl _ _⟩
  case round =>
    obtain ⟨k, hk, rfl, hown, hbel⟩ := hrel
    have hle := wordsOf_length f k
    have hsz := hbel.size
    obtain ⟨K, hK⟩ : ∃ K, 4 * k = K := ⟨_, rfl⟩
    rw [hK]
    by_cases hlt : k < n / 4
    · obtain ⟨b, o, rfl, hb⟩ := (h.below hbel).2.2 (by omega)
      have h4 : K + 4 ≤ n := by omega
      have h4' : (K : Int) + 4 ≤ n := by omega
      go_wp2_with (first
        | (go_at_call 17; refine (rget_in b o n c K 4 f _ hb (by omega) h4 hnc hn).mono ?_; rintro e w' ⟨rfl, rfl⟩)
        | (at_builtin; refine wpList_append_own _ rfl _ _ 47 rfl w.heap.size 26 i0 (.int .u32 0) 1 4 Try.underlying47 hi hz0 hz1 hz2 rfl (by decide) _ _ _ rfl (World.ownsRow.alloc hown _) ⟨wr.heap.size, 0, none⟩ 1 1 [.int .u32 (getV f K 4)] rfl rfl ?c1 ?c2 ?c3 ?c4 ?c5 ?_))
      case c1 =>
        intro j u hj
        match j, hj with
        | 0, hj => simp at hj; subst hj; simp [Addr.add]
      case c2 => intro u hu; simp at hu; subst hu; rfl
      case c3 => unfold maxLen; omega
      case c4 => omega
      case c5 => simp; omega
      intro v' w1 hown' hgrow _
      go_wp2
      go_roundw
      case rel =>
        refine ⟨k + 1, by omega, ?_, ?_, ?_⟩
        · rw [show 4 * (k + 1) = K + 4 by omega]; go_num
        · unfold Owned32
          rw [wordsOf_succ, hK]
          simpa [wordsOf_length] using hown'
        · exact ((Bel.append ⟨hbel, hsz⟩ hown hgrow)).1
      case measure => simp [intOf]; omega
    · obtain rfl : k = n / 4 := by omega
      have hge : ¬ (K : Int) + 4 ≤ n := by omega
      go_wp2
      go_ret
      exact ⟨_, rfl, hown, hbel⟩

set_option maxHeartbeats 2000000 in
theorem rbytes_any (b o n c : Nat) (L : Nat → Int) (w : World) (hl : HasYet w b) (hc : ∀ i, i < n → w.cell? ⟨b, o + i, none⟩ = some (.int .u32 (L i))) (hL : ∀ i, 0 ≤ L i ∧ L i ≤ 4294967295) (hn : 4 * n ≤ 140737488355328) :
    Calls Try.prog 27 #[.slice (some ⟨b, o, none⟩) n c] w fun e w' => ∃ v, e = .returned v ∧ w'.ownsRow w.heap.size 5 1 v (4 * n) (bytesL (wb L n) (4 * n)) ∧ Below w.heap.size w w' := by
  obtain ⟨i0, hi, hz0, hz1, hz2⟩ := info_parts Try.infoByte
  go_enter Try.func27, Try.ntmps27
  go_wp2
  go_loopw [3, 4] (fun v i wr => ∃ k : Nat, k ≤ n ∧ i = .int .i64 k ∧ wr.ownsRow w.heap.size 5 1 v (4 * k) (bytesL (wb L n) (4 * k)) ∧ Below w.heap.size w wr) (fun _ i _ => n - (intOf i).toNat)
  case atStart => exact ⟨0, Nat.zero_le _, rfl, World.ownsRow_nil _ _ _ _, Below.refl _ _⟩
  case round =>
    obtain ⟨k, hk, rfl, hown, hbel⟩ := hrel
    obtain ⟨wo, rfl⟩ : ∃ wo : World, wo = wr := ⟨_, rfl⟩
    by_cases hlt : k < n
    · have hbo : Bel w.heap.size w wo := ⟨hbel, hbel.size⟩
      obtain ⟨l0, l1⟩ := hL k
      go_wp2
      go_loopw [3, 5] (fun v i wi => ∃ j : Nat, j ≤ 4 ∧ i = .int .i64 j ∧ wi.ownsRow w.heap.size 5 1 v (4 * k + j) (bytesL (wb L n) (4 * k + j)) ∧ Bel w.heap.size w wi) (fun _ i _ => 4 - (intOf i).toNat)
      case atStart => exact ⟨0, Nat.zero_le _, rfl, hown, hbo⟩
      case round =>
        obtain ⟨j, hj, rfl, hown2, hbel2⟩ := hrel
        by_cases hj4 : j < 4
        · have c1 : wr.cell? ⟨b, o + k, none⟩ = some (.int .u32 (L k)) := (hbel2.1.cell (p := ⟨b, o + k, none⟩) hl).trans (hc k hlt)
          have hval : wb L n (4 * k + j) = L k / (256 : Int) ^ j % 256 := by
            unfold wb
            rw [if_pos (by omega), show (4 * k + j) / 4 = k by omega, show (4 * k + j) % 4 = j by omega]
          have hb1 : bytesL (wb L n) (4 * k + j + 1) = bytesL (wb L n) (4 * k + j) ++ [.int .u8 (L k / (256 : Int) ^ j % 256)] := by
            rw [← hval]
            simp [bytesL, List.range_succ]
          have hz := hbel2.2
          have HB := Lib.hid hb1
          clear hb1 hval
          have hk4 : j = 0 ∨ j = 1 ∨ j = 2 ∨ j = 3 := by omega
          rcases hk4 with rfl | rfl | rfl | rfl
          · have hb2 := HB.out
            rw [show L k / (256 : Int) ^ 0 % 256 = L k % 256 by simp] at hb2
            have HB2 := Lib.hid hb2
            clear hb2
            go_wp2_with (at_builtin; refine wpList_append_own _ rfl _ _ 34 rfl w.heap.size 5 i0 (.int .u8 0) 1 1 Try.underlying34 hi hz0 hz1 hz2 rfl (by decide) _ _ _ rfl (World.ownsRow.alloc hown2 _) ⟨wr.heap.size, 0, none⟩ 1 1 [.int .u8 (L k % 256)] rfl rfl ?c1 ?c2 ?c3 ?c4 ?c5 ?_)
            case c1 =>
              intro j u hj
              match j, hj with
              | 0, hj => simp at hj; subst hj; simp [Addr.add]
            case c2 => intro u hu; simp at hu; subst hu; rfl
            case c3 => unfold maxLen; omega
            case c4 => omega
            case c5 => simp; omega
            intro v' w1 hown' hgrow _
            go_wp2
            go_roundw
            case rel => exact ⟨1, by omega, rfl, by rw [show 4 * k + 1 = 4 * k + 0 + 1 by omega, HB2.out]; exact hown', Bel.append hbel2 hown2 hgrow⟩
            case measure => first | (simp [intOf]; done) | (simp [intOf]; omega)
          · have hb2 := HB.out
            rw [show L k / (256 : Int) ^ 1 % 256 = L k / 256 % 256 by omega] at hb2
            have HB2 := Lib.hid hb2
            clear hb2
            go_wp2_with (at_builtin; refine wpList_append_own _ rfl _ _ 34 rfl w.heap.size 5 i0 (.int .u8 0) 1 1 Try.underlying34 hi hz0 hz1 hz2 rfl (by decide) _ _ _ rfl (World.ownsRow.alloc hown2 _) ⟨wr.heap.size, 0, none⟩ 1 1 [.int .u8 (L k / 256 % 256)] rfl rfl ?c1 ?c2 ?c3 ?c4 ?c5 ?_)
            case c1 =>
              intro j u hj
              match j, hj with
              | 0, hj => simp at hj; subst hj; simp [Addr.add]
            case c2 => intro u hu; simp at hu; subst hu; rfl
            case c3 => unfold maxLen; omega
            case c4 => omega
            case c5 => simp; omega
            intro v' w1 hown' hgrow _
            go_wp2
            go_roundw
            case rel => exact ⟨2, by omega, rfl, by rw [show 4 * k + 2 = 4 * k + 1 + 1 by omega, HB2.out]; exact hown', Bel.append hbel2 hown2 hgrow⟩
            case measure => first | (simp [intOf]; done) | (simp [intOf]; omega)
          · have hb2 := HB.out
            rw [show L k / (256 : Int) ^ 2 % 256 = L k / 65536 % 256 by omega] at hb2
            have HB2 := Lib.hid hb2
            clear hb2
            go_wp2_with (at_builtin; refine wpList_append_own _ rfl _ _ 34 rfl w.heap.size 5 i0 (.int .u8 0) 1 1 Try.underlying34 hi hz0 hz1 hz2 rfl (by decide) _ _ _ rfl (World.ownsRow.alloc hown2 _) ⟨wr.heap.size, 0, none⟩ 1 1 [.int .u8 (L k / 65536 % 256)] rfl rfl ?c1 ?c2 ?c3 ?c4 ?c5 ?_)
            case c1 =>
              intro j u hj
              match j, hj with
              | 0, hj => simp at hj; subst hj; simp [Addr.add]
            case c2 => intro u hu; simp at hu; subst hu; rfl
            case c3 => unfold maxLen; omega
            case c4 => omega
            case c5 => simp; omega
            intro v' w1 hown' hgrow _
            go_wp2
            go_roundw
            case rel => exact ⟨3, by omega, rfl, by rw [show 4 * k + 3 = 4 * k + 2 + 1 by omega, HB2.out]; exact hown', Bel.append hbel2 hown2 hgrow⟩
            case measure => first | (simp [intOf]; done) | (simp [intOf]; omega)
          · have hb2 := HB.out
            rw [show L k / (256 : Int) ^ 3 % 256 = L k / 16777216 by omega] at hb2
            have HB2 := Lib.hid hb2
            clear hb2
            go_wp2_with (at_builtin; refine wpList_append_own _ rfl _ _ 34 rfl w.heap.size 5 i0 (.int .u8 0) 1 1 Try.underlying34 hi hz0 hz1 hz2 rfl (by decide) _ _ _ rfl (World.ownsRow.alloc hown2 _) ⟨wr.heap.size, 0, none⟩ 1 1 [.int .u8 (L k / 16777216)] rfl rfl ?c1 ?c2 ?c3 ?c4 ?c5 ?_)
            case c1 =>
              intro j u hj
              match j, hj with
              | 0, hj => simp at hj; subst hj; simp [Addr.add]
            case c2 => intro u hu; simp at hu; subst hu; rfl
            case c3 => unfold maxLen; omega
            case c4 => omega
            case c5 => simp; omega
            intro v' w1 hown' hgrow _
            go_wp2
            go_roundw
            case rel => exact ⟨4, by omega, rfl, by rw [show 4 * k + 4 = 4 * k + 3 + 1 by omega, HB2.out]; exact hown', Bel.append hbel2 hown2 hgrow⟩
            case measure => first | (simp [intOf]; done) | (simp [intOf]; omega)
        · obtain rfl : j = 4 := by omega
          go_wp2
          go_roundw
          case rel => exact ⟨k + 1, by omega, by go_num, by rw [show 4 * (k + 1) = 4 * k + 4 by omega]; exact hown2, hbel2.1⟩
          case measure => simp [intOf]; omega
    · obtain rfl : k = n := by omega
      go_wp2
      go_ret
      exact ⟨_, rfl, hown, hbel⟩

theorem rput_any (a b c d : Int) (w : World) (ha : 0 ≤ a ∧ a ≤ 4294967295) (hb : 0 ≤ b ∧ b ≤ 4294967295) (hc : 0 ≤ c ∧ c ≤ 4294967295) (hd : 0 ≤ d ∧ d ≤ 4294967295) :
    Calls Try.prog 34 #[.agg #[.int .u32 a, .int .u32 b, .int .u32 c, .int .u32 d]] w fun e w' => ∃ g cap, e = .returned (.slice (some ⟨g, 0, none⟩) 16 cap) ∧ RowAt w' g 16 (wb (four a b c d) 4) ∧ Below w.heap.size w w' := by
  have hF : ∀ i, 0 ≤ four a b c d i ∧ four a b c d i ≤ 4294967295 := fun i => by
    unfold four
    (repeat' split) <;> omega
  go_enter Try.func34, Try.ntmps34
  go_wp2_with fail
  refine (rbytes_any _ 0 4 4 (four a b c d) _ ?h1 ?h2 hF (by omega)).mono ?_
  case h1 => show _ < _; simp
  case h2 =>
    intro i hi
    have : i = 0 ∨ i = 1 ∨ i = 2 ∨ i = 3 := by omega
    rcases this with rfl | rfl | rfl | rfl <;> simp [go_sem, four]
  rintro e w2 ⟨v, rfl, hown, hb2⟩
  obtain ⟨g, cap, rfl, _, _, _, hrow⟩ := (row_of_owned hown (wb_byt _ _)).2 (by omega)
  have hbel : Bel w.heap.size w w2 := Bel.of (Bel.refl w).alloc.alloc hb2
  go_wp2_with fail
  go_ret
  exact ⟨g, cap, rfl, hrow, hbel.1⟩

theorem rdget_no (p : Option Addr) (n c : Nat) (w : World) (hn : n ≠ 16) :
    Calls Try.prog 33 #[.slice p n c] w fun e w' => e = .returned (.tuple #[.agg #[.int .u32 0, .int .u32 0, .int .u32 0, .int .u32 0], .int .i64 6]) ∧ Below w.heap.size w w' := by
  have h16 : ((n : Int) != 16) = true := by simp; omega
  go_enter Try.func33, Try.ntmps33
  go_wp2
  exact bodyPost_ret (v := .tuple #[.agg #[.int .u32 0, .int .u32 0, .int .u32 0, .int .u32 0], .int .i64 6]) (by simp [results, Try.results33, go_sem]) rfl ⟨rfl, (by refine (?_ : Bel _ _ _).1; repeat (first | exact hbel | exact Bel.refl _ | apply Bel.later | apply Bel.alloc | apply Bel.drew | (refine Bel.laterB ?_ (by first | exact Nat.le_refl _ | omega | (simp; omega) | simp)) | (refine Bel.setCell ?_ (by first | exact Nat.le_refl _ | omega | (simp; omega) | simp))))⟩

set_option maxHeartbeats 1000000 in
theorem rdget_in (p : Option Addr) (c : Nat) (f : Nat → Int) (w : World) (hs : SrcAt w p 16 f) (hc : 16 ≤ c) :
    Calls Try.prog 33 #[.slice p 16 c] w fun e w' => e = .returned (.tuple #[.agg #[.int .u32 (getV f 0 4), .int .u32 (getV f 4 4), .int .u32 (getV f 8 4), .int .u32 (getV f 12 4)], .int .i64 0]) ∧ Below w.heap.size w w' := by
  go_enter Try.func33, Try.ntmps33
  go_wp2_with fail
  refine (rwords_any p 16 c f _ (hs.below (Bel.refl w).alloc.1) hc (by omega)).mono ?_
  rintro e w1 ⟨v1, rfl, hown1, hb1⟩
  obtain ⟨g, cap, rfl, hcap, hgb, c0, c1, c2, c3⟩ := words4 hown1
  have hbel1 : Bel w.heap.size w w1 := Bel.of (Bel.refl w).alloc hb1
  have hR1 : w1.heap[w.heap.size]? = some (.cells #[.int .u32 0, .int .u32 0, .int .u32 0, .int .u32 0] 30 (0, 0)) := (hb1.block _ (by simp)).trans (Go.heap_alloc_new w _)
  have hcc : (4 : Int) ≤ cap := by omega
  have e0 := cells_at hR1 0
  have e1 := cells_at hR1 1
  have e2 := cells_at hR1 2
  have e3 := cells_at hR1 3
  have g0 := free_at hR1 0
  have g1 := free_at hR1 1
  have g2 := free_at hR1 2
  have g3 := free_at hR1 3
  simp at e0 e1 e2 e3
  clear hb1 hown1 hgb hR1 hs
  go_wp2_with fail
  go_region
  go_wp2
  exact bodyPost_ret (v := .tuple #[.agg #[.int .u32 (getV f 0 4), .int .u32 (getV f 4 4), .int .u32 (getV f 8 4), .int .u32 (getV f 12 4)], .int .i64 0]) (by simp [results, Try.results33, go_sem, e0, e1, e2, e3]) rfl ⟨rfl, ((((hbel1.drew.setCell (p := ⟨w.heap.size, 0, none⟩) (Nat.le_refl _)).setCell (p := ⟨w.heap.size, 1, none⟩) (Nat.le_refl _)).setCell (p := ⟨w.heap.size, 2, none⟩) (Nat.le_refl _)).setCell (p := ⟨w.heap.size, 3, none⟩) (Nat.le_refl _)).1⟩

end Go.Proofs.Ytclpbphofifojaa
