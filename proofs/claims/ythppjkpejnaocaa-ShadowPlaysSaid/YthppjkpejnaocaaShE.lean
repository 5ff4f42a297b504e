/- shadow: Fill, Wrote, Gone, Flush. -/
import Derived.Test.YthppjkpejnaocaaShD
import Derived.Deep.AppendLies
import Derived.Deep.RegionLaw
namespace Go.Proofs.Ythppjkpejnaocaa
open Go.ChangeShapes Go.WideShapes Go.ChangeAt Go.RowKit
set_option linter.unusedVariables false

theorem own_any (p : Int) (w : World) : Calls Try.prog 32 #[.int .i64 p] w fun e w' => e = .returned (.bool (decide (0 ≤ p) && decide (p < 8))) ∧ w = w' := by
  by_cases h0 : 0 ≤ p
  case' neg => have h0' : decide (0 ≤ p) = false := by simp; omega
  all_goals
    go_enter Try.func32, Try.ntmps32
    go_wp2
    go_ret
    exact ⟨ret_bool (by simp [*]), rfl⟩
section
variable {b : Nat} {v : Value} {l : List ln}
theorem clone_lines (g o n c : Nat) (L : List ln) (w : World) (hc : ∀ k, k < n → ∀ j, j < 7 → w.cell? ⟨g, o + k * 7 + j, none⟩ = (lnEnc (atL L k))[j]?) (hL : L.length = n) (hn : n ≤ 1000) :
    Calls Try.prog 35 #[.slice (some ⟨g, o, none⟩) n c] w fun e w' => ∃ u, e = .returned u ∧ w'.ownsRow w.heap.size 66 7 u L.length (L.flatMap lnEnc) ∧ Below w.heap.size w w' := by
  obtain ⟨j0, hj0, hy0, hy1, hy2⟩ := info_parts Try.lineInfo
  have hnil := fun (wx : World) => Lib.run_eql_slice_nil (P := Try.prog) wx 44
  have hnews : ∀ j u, (L.flatMap lnEnc)[j]? = some u → (w.alloc (.cells #[] 66)).cell? ((⟨g, o, none⟩ : Addr).add j) = some u := by
    intro j u hj
    have hjl : j < (L.flatMap lnEnc).length := (List.getElem?_eq_some_iff.1 hj).1
    rw [flat_length lnEnc_length] at hjl
    have h1 : j / 7 < n := by omega
    have h2 : j % 7 < 7 := by omega
    have e : j / 7 * 7 + j % 7 = j := by omega
    have h3 := hc (j / 7) h1 (j % 7) h2
    rw [← flat_at lnEnc_length L _ _ (by omega) h2, e] at h3
    rw [add_plain]
    have h4 : w.cell? ⟨g, o + j, none⟩ = some u := by rw [show o + j = o + j / 7 * 7 + j % 7 by omega]; exact h3.trans hj
    exact (alloc_old_cell w _ ⟨g, o + j, none⟩ (block_lt_of_cell h4)).trans h4
  go_enter Try.func35, Try.ntmps35
  go_wp2_with (at_builtin; refine wpList_append_own _ rfl (.tmp 5) (.tmp 6) 44 rfl w.heap.size 66 j0 _ 7 56 Try.underlying44 hj0 hy0 hy1 hy2 rfl (by decide) _ 0 [] rfl (World.ownsRow_made w #[] 0 (Nat.le_refl _) (Nat.zero_le _) rfl) ⟨g, o, none⟩ n c (L.flatMap lnEnc) rfl (by rw [flat_length lnEnc_length, hL]) ?c1 ?c2 ?c3 ?c4 (by simp) ?_)
  case c1 => exact hnews
  case c2 =>
    intro u hu
    obtain ⟨x, _, hx⟩ := List.mem_flatMap.1 hu
    simp [lnEnc] at hx
    rcases hx with rfl | rfl | rfl | rfl | rfl | rfl | rfl <;> rfl
  case c3 => unfold maxLen; omega
  case c4 => omega
  intro v' w1 hown hgrow _
  have hb1 : Below w.heap.size w w1 := (Bel.upd (Bel.refl w).alloc (show Upd w.heap.size _ _ from hgrow) (Nat.le_refl _)).1
  go_wp2
  go_ret
  exact ⟨v', rfl, by rw [hL]; simpa using hown, hb1⟩
theorem frm_pushed {w w1 : World} {b o g n cap : Nat} {v u : Value} {ob : Obj} (hg : (w.drew.alloc ob).grownBy w1 v.ownBlock) (hat : v.ownBlock = some g ∨ g = w.heap.size + 1) :
    Frm b v (.slice (some ⟨g, 0, none⟩) n cap) w (w1.setCell ⟨b, o, none⟩ u) := by
  have h1 : Below w.heap.size w (w.drew.alloc ob) := (Bel.refl w).drew.alloc.1
  have hs : (w.drew.alloc ob).heap.size = w.heap.size + 1 := by simp
  refine ⟨hg.os.trans h1.os, hg.tape.trans h1.tape, hg.output.trans h1.output, ?_, fun i hi hb hv => ?_, ?_⟩
  · have := hg.size
    simp [World.setCell]
    omega
  · rw [show (w1.setCell ⟨b, o, none⟩ u).heap[i]? = w1.heap[i]? by simp [World.setCell, Array.getElem?_modify, Ne.symm hb]]
    exact (hg.block i (by omega) hv).trans (h1.block i hi)
  · rcases hat with hat | hat
    · exact .inl (by rw [hat]; rfl)
    · refine .inr fun g' hg' => ?_
      simp only [Value.ownBlock, Option.some.injEq] at hg'
      omega
theorem ints_block {w w' : World} {g k : Nat} {L : List Int} (h : IntsAt .i64 w (some ⟨g, 0, none⟩) k L) (hb : w'.heap[g]? = w.heap[g]?) (hg : g < w'.heap.size) : IntsAt .i64 w' (some ⟨g, 0, none⟩) k L :=
  ⟨h.1, fun hk => by
    obtain ⟨g', o, e, h1, h2⟩ := h.2 hk
    simp only [Option.some.injEq, Addr.mk.injEq, and_true] at e
    obtain ⟨rfl, rfl⟩ := e
    exact ⟨g, 0, rfl, hg, fun i hi => (World.cell?_of_block hb).trans (h2 i hi)⟩⟩
/-- What was told stays, where the shadow works. -/
theorem told_frm {w w' : World} {v2 : Value} {g k : Nat} {L : List Int} (h : ShIn w b v l) (f : Frm b v v2 w w') (hI : IntsAt .i64 w (some ⟨g, 0, none⟩) k L) (hg : ∃ cur, w.heap[g]? = some (.cells cur 3 (0, 0))) : IntsAt .i64 w' (some ⟨g, 0, none⟩) k L ∧ ∃ cur, w'.heap[g]? = some (.cells cur 3 (0, 0)) := by
  obtain ⟨cur, hc⟩ := hg
  have h1 := f.other h hc (by decide) (by decide)
  exact ⟨ints_block hI (h1.trans hc.symm) (lt_heap h1), cur, h1⟩
def fillA (l : List ln) (x : ln) : List ln := (l.filter fun y => !keyB x.kr x.kp y) ++ [x]
def fillC (l : List ln) : List ln := if 32 < l.length then l.drop 1 else l
def fillL (l : List ln) (x : ln) : List ln := protL (fillC (fillA l x)) x.rt x.lf
theorem fillA_length (l : List ln) (x : ln) : (fillA l x).length ≤ l.length + 1 := by
  have := List.length_filter_le (fun y => !keyB x.kr x.kp y) l
  simp [fillA]
  omega
set_option maxRecDepth 100000 in
set_option maxHeartbeats 4000000 in
theorem sh_fill (k0 k1 e0 e1 e2 rt lf : Int) (w : World) (h : ShIn w b v l) (hn : l.length ≤ 32) (ho1 : 0 ≤ rt ∧ rt < 8) (ho2 : 0 ≤ lf ∧ lf < 8) :
    Calls Try.prog 15 #[.pointer (some ⟨b, 0, none⟩), .agg #[.int .i64 k0, .int .i64 k1], .agg #[.int .i64 e0, .int .i64 e1, .int .i64 e2], .int .i64 rt, .int .i64 lf] w fun e w' => ∃ g k v', e = .returned (.tuple #[.slice (some ⟨g, 0, none⟩) k 2, .int .i64 0]) ∧ IntsAt .i64 w' (some ⟨g, 0, none⟩) k (freshL l rt lf) ∧ w.heap.size ≤ g ∧ ShIn w' b v' (fillL l ⟨k0, k1, e0, e1, e2, rt, lf⟩) ∧ Frm b v v' w w' := by
  have hO1 := own_any rt
  have hO2 := own_any lf
  rw [show (decide (0 ≤ rt) && decide (rt < 8)) = true by simp; omega] at hO1
  rw [show (decide (0 ≤ lf) && decide (lf < 8)) = true by simp; omega] at hO2
  have eK : ((w.alloc (.cells #[.int .i64 k0, .int .i64 k1] 30)).alloc (.cells #[.int .i64 e0, .int .i64 e1, .int .i64 e2] 32)).heap[w.heap.size]? = some (.cells #[.int .i64 k0, .int .i64 k1] 30 (0, 0)) := heap_alloc (Go.heap_alloc_new w _)
  have eR : ((w.alloc (.cells #[.int .i64 k0, .int .i64 k1] 30)).alloc (.cells #[.int .i64 e0, .int .i64 e1, .int .i64 e2] 32)).heap[w.heap.size + 1]? = some (.cells #[.int .i64 e0, .int .i64 e1, .int .i64 e2] 32 (0, 0)) := by
    have := Go.heap_alloc_new (w.alloc (.cells #[.int .i64 k0, .int .i64 k1] 30)) (.cells #[.int .i64 e0, .int .i64 e1, .int .i64 e2] 32)
    simpa using this
  have h2 := h.alloc (ob := .cells #[.int .i64 k0, .int .i64 k1] 30) |>.alloc (ob := .cells #[.int .i64 e0, .int .i64 e1, .int .i64 e2] 32)
  have hB := (Bel.refl w).alloc (o := .cells #[.int .i64 k0, .int .i64 k1] 30) |>.alloc (o := .cells #[.int .i64 e0, .int .i64 e1, .int .i64 e2] 32)
  obtain ⟨W, hW⟩ : ∃ W, ((w.alloc (.cells #[.int .i64 k0, .int .i64 k1] 30)).alloc (.cells #[.int .i64 e0, .int .i64 e1, .int .i64 e2] 32)) = W := ⟨_, rfl⟩
  clear ho1 ho2
  go_enter Try.func15, Try.ntmps15
  go_wp2_with fail
  rw [hW] at eK eR h2 hB
  clear hW
  refine (sh_none _ h2).mono ?_
  rintro e w1 ⟨rfl, rfl⟩
  go_wp2_with fail
  refine (hO1 _).mono ?_
  rintro e w1 ⟨rfl, rfl⟩
  go_wp2_with fail
  refine (hO2 _).mono ?_
  rintro e w1 ⟨rfl, rfl⟩
  go_wp2_with fail
  refine (sh_fresh rt lf _ h2 (by omega)).mono ?_
  rintro e w2 ⟨g, k, rfl, hgl, hI, hgc, b2⟩
  have h3 := h2.below b2
  have hB2 := hB.of b2
  have eK2 := (b2.block _ (lt_heap eK)).trans eK
  have eR2 := (b2.block _ (lt_heap eR)).trans eR
  have hgw : w.heap.size ≤ g := Nat.le_trans hB.2 hgl
  have hmk : ∀ (fn : Fn) (first cap : Array Value) (w : World), (Instr.makeFunc fn first cap).run Try.prog w = .ok (.func fn first cap) w := fun _ _ _ _ => rfl
  clear eK eR h2 hB b2 hO1 hO2 hgl
  go_wp2_with fail
  refine (drop_fill w.heap.size k0 k1 _ h3 (by omega) ((cell_of_row _ _ 0 _ _ _ eK2).trans rfl) ((cell_of_row _ _ 1 _ _ _ eK2).trans rfl)).mono ?_
  rintro e w3 ⟨u, v3, rfl, hku, h4, f4⟩
  have hF3 : Frm b v v3 w w3 := (Frm.of_below hB2.1).trans f4
  have eK3 := f4.other h3 eK2 (by decide) (by decide)
  have eR3 := f4.other h3 eR2 (by decide) (by decide)
  obtain ⟨hI3, hgc3⟩ := told_frm h3 f4 hI hgc
  have hl3 : (l.filter fun x => !keyB k0 k1 x).length ≤ 32 := Nat.le_trans (List.length_filter_le _ _) hn
  have hlA : fillA l ⟨k0, k1, e0, e1, e2, rt, lf⟩ = (l.filter fun x => !keyB k0 k1 x) ++ [⟨k0, k1, e0, e1, e2, rt, lf⟩] := rfl
  have hfl : fillL l ⟨k0, k1, e0, e1, e2, rt, lf⟩ = protL (fillC (fillA l ⟨k0, k1, e0, e1, e2, rt, lf⟩)) rt lf := rfl
  have HFL := Lib.hid hfl
  clear hku f4 h3 hB2 eK2 eR2 hI hgc hmk hfl
  generalize (l.filter fun x => !keyB k0 k1 x) = l3 at *
  have cK0 := (cell_of_row _ _ 0 _ _ _ eK3).trans rfl
  have cK1 := (cell_of_row _ _ 1 _ _ _ eK3).trans rfl
  have cE0 := (cell_of_row _ _ 0 _ _ _ eR3).trans rfl
  have cE1 := (cell_of_row _ _ 1 _ _ _ eR3).trans rfl
  have cE2 := (cell_of_row _ _ 2 _ _ _ eR3).trans rfl
  have lK := lt_heap eK3
  have lR := lt_heap eR3
  have q0 := shField _ h4
  have q1 := h4.free 0
  have hlt := h4.lt
  have hlt1 : b < w3.heap.size + 1 := by omega
  obtain ⟨j0, hj0, hy0, hy1, hy2⟩ := info_parts Try.lineInfo
  have hown2 := h4.2.drew.alloc (.cells #[.int .i64 k0, .int .i64 k1, .int .i64 e0, .int .i64 e1, .int .i64 e2, .int .i64 rt, .int .i64 lf] 66)
  have hnb : (w3.drew.alloc (.cells #[.int .i64 k0, .int .i64 k1, .int .i64 e0, .int .i64 e1, .int .i64 e2, .int .i64 rt, .int .i64 lf] 66)).heap[w3.heap.size]? = some (.cells #[.int .i64 k0, .int .i64 k1, .int .i64 e0, .int .i64 e1, .int .i64 e2, .int .i64 rt, .int .i64 lf] 66 (0, 0)) := Go.heap_alloc_new w3.drew _
  have hne : some b ≠ v3.ownBlock := fun e => by have := (h4.own _ e.symm).1; omega
  obtain ⟨S, hS⟩ : ∃ S : World → Prop, S = fun w5 => ∃ v5, ShIn w5 b v5 (l3 ++ [⟨k0, k1, e0, e1, e2, rt, lf⟩]) ∧ Frm b v v5 w w5 ∧ IntsAt .i64 w5 (some ⟨g, 0, none⟩) k (freshL l rt lf) ∧ ∃ cur, w5.heap[g]? = some (.cells cur 3 (0, 0)) := ⟨_, rfl⟩
  clear eK3 eR3
  go_wp2_with fail
  go_region_law ((refine step_append_lies _ (by rfl) _ _ _ (by rfl) (b + 1) 66 j0 _ 7 56 Try.underlying44 hj0 hy0 hy1 hy2 rfl (by omega) v3 l3.length _ (by rfl) hown2 ⟨w3.heap.size, 0, none⟩ 1 1 [.int .i64 k0, .int .i64 k1, .int .i64 e0, .int .i64 e1, .int .i64 e2, .int .i64 rt, .int .i64 lf] (by rfl) (by rfl) (World.news_of_block (cs := #[.int .i64 k0, .int .i64 k1, .int .i64 e0, .int .i64 e1, .int .i64 e2, .int .i64 rt, .int .i64 lf]) (t := 66) (fr := (0, 0)) hnb) (by simp [Value.oneCell']) (by omega) (by unfold maxLen; omega) (by omega) (by simp; omega) (w3.heap.size + 1) (by simp) ?_; intro g4 cap4 w4 hown4 hgrow hat hlt4; have hR1 : w4.heap[b]? = some (.cells (shBlk v3) 46 (0, 0)) := (hgrow.block b (by simp; omega) hne).trans (heap_alloc h4.1); have r0 : w4.cell? ⟨b, 0, none⟩ = some v3 := (by simp [World.cell?, hR1, shBlk]); have r1 : w4.frozen? ⟨b, 0, none⟩ = false := (by simp [World.frozen?, hR1])))
  all_goals
    have h5 : ShIn (w4.setCell ⟨b, 0, none⟩ (.slice (some ⟨g4, 0, none⟩) (l3.length + 1) cap4)) b (.slice (some ⟨g4, 0, none⟩) (l3.length + 1) cap4) (l3 ++ [⟨k0, k1, e0, e1, e2, rt, lf⟩]) := RowIn.stored (o := 0) shBlk_ok hR1 (by simpa [lnEnc] using hown4)
    have f5 : Frm b v3 (.slice (some ⟨g4, 0, none⟩) (l3.length + 1) cap4) w3 (w4.setCell ⟨b, 0, none⟩ (.slice (some ⟨g4, 0, none⟩) (l3.length + 1) cap4)) := frm_pushed hgrow hat
    have hF5 := hF3.trans f5
    obtain ⟨hI5, hgc5⟩ := told_frm h4 f5 hI3 hgc3
    rw [← hlA] at h5
    have hlL : (fillA l ⟨k0, k1, e0, e1, e2, rt, lf⟩).length = l3.length + 1 := by rw [hlA]; simp
    generalize fillA l ⟨k0, k1, e0, e1, e2, rt, lf⟩ = L at *
    generalize w4.setCell ⟨b, 0, none⟩ (.slice (some ⟨g4, 0, none⟩) (l3.length + 1) cap4) = w5 at *
    have c5 := shField _ h5
    have lt5 := h5.lt
    clear hR1 r0 r1 hown4 hgrow hat hlt4 hnb hown2 q0 q1 cK0 cK1 cE0 cE1 cE2 lK lR h4 hF3 f5 hI3 hgc3 hlA hne hS hlt hlt1
    by_cases h32 : l3.length = 32
    · rw [h32] at hlL h5 c5 hF5
      have hgt : (32 : Int) < 33 := by omega
      have hfc : fillC L = L.drop 1 := by rw [fillC, if_pos (by omega)]
      rw [hfc] at HFL
      obtain ⟨g', cap', hv2, hi1, hi2, _, hi4, hc, _⟩ := h5.item lnEnc_length (i := 0) (by omega)
      rw [hlL] at hv2
      simp only [Value.slice.injEq, Option.some.injEq, Addr.mk.injEq, and_true, true_and] at hv2
      obtain ⟨rfl, rfl⟩ := hv2
      rw [hlL] at hi1
      have hd : ∀ k, k < 32 → ∀ j, j < 7 → w5.cell? ⟨g4, 7 + k * 7 + j, none⟩ = (lnEnc (atL (L.drop 1) k))[j]? := fun k hk j hj => by
        rw [show atL (L.drop 1) k = atL L (k + 1) by simp [atL, List.getD], ← hc (k + 1) (by omega) j hj, show 7 + k * 7 + j = (k + 1) * 7 + j by omega]
      have hcl := clone_lines g4 7 32 (cap4 - 1) (L.drop 1) w5 hd (by rw [List.length_drop]; omega) (by omega)
      clear hfc hc hd
      go_wp2_with fail
      refine hcl.mono ?_
      rintro e w6 ⟨u6, rfl, hown6, b6⟩
      have hB6 := b6
      have h6 := h5.below b6
      have hz6 := h6.free 0
      have lt6 := h6.lt
      obtain ⟨ua, uc, rfl⟩ := ownsRow_shape hown6
      have hlD : (L.drop 1).length = 32 := by rw [List.length_drop]; omega
      have hst1 := ownsRow_base hown6 (by omega : b + 1 ≤ w5.heap.size)
      have h7 := RowIn.stored (o := 0) shBlk_ok h6.1 hst1
      have hU := (Upd.refl b w6).setCell (o := 0) (s := none) (u := .slice ua (L.drop 1).length uc)
      have f7 : Frm b (.slice (some ⟨g4, 0, none⟩) (32 + 1) cap4) (.slice ua (L.drop 1).length uc) w5 (w6.setCell ⟨b, 0, none⟩ (.slice ua (L.drop 1).length uc)) := by
        have hFb : Frm b (.slice (some ⟨g4, 0, none⟩) (32 + 1) cap4) (.slice (some ⟨g4, 0, none⟩) (32 + 1) cap4) w5 w6 := Frm.of_below b6
        exact ⟨hU.os.trans hFb.os, hU.tape.trans hFb.tape, hU.output.trans hFb.output, Nat.le_trans b6.size hU.size, fun k hk hkb hkv => (hU.block k (Nat.lt_of_lt_of_le hk b6.size) (fun e => hkb (Option.some.inj e))).trans (b6.block k hk), .inr fun g hg => (hown6.lt g hg).1⟩
      obtain ⟨hI7, hgc7⟩ := told_frm h5 f7 hI5 hgc5
      have hF7 := hF5.trans f7
      have c6 := shField _ h6
      clear hcl hst1 hown6 h5 hF5 f7 hU hI5 hgc5 b6 hB6 c5
      rw [hlD] at h7 hI7 hgc7 hF7
      have hpt := sh_protect rt lf (w6.setCell ⟨b, 0, none⟩ (.slice ua 32 uc)) h7 (by omega) (by omega)
      go_wp2_with fail
      refine hpt.mono ?_
      rintro e w8 ⟨rfl, h8, f8⟩
      obtain ⟨hI8, _⟩ := told_frm h7 f8 hI7 hgc7
      go_wp2
      go_ret2
      exact ⟨g, k, _, rfl, hI8, hgw, by rw [HFL.out]; exact h8, hF7.trans f8⟩
    · have hle : ¬ (32 : Int) < (l3.length : Int) + 1 := by omega
      have hfc : fillC L = L := by rw [fillC, if_neg (by omega)]
      rw [hfc] at HFL
      have hpt := sh_protect rt lf w5 h5 (by omega) (by omega)
      clear hfc
      go_wp2_with fail
      refine hpt.mono ?_
      rintro e w6 ⟨rfl, h6, f6⟩
      obtain ⟨hI6, _⟩ := told_frm h5 f6 hI5 hgc5
      go_wp2
      go_ret2
      exact ⟨g, k, _, rfl, hI6, hgw, by rw [HFL.out]; exact h6, hF5.trans f6⟩
end
end Go.Proofs.Ythppjkpejnaocaa
