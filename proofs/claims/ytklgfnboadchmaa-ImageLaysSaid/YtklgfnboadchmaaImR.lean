/- image: the reference's side. -/
import Derived.Test.YtklgfnboadchmaaMrgE
import Derived.WalkArith
namespace Go.Proofs.Ytklgfnboadchmaa
open Go.ChangeShapes Go.WideShapes Go.ChangeAt Go.RowKit
set_option linter.unusedVariables false
set_option maxRecDepth 20000

def rSet (rb kb : Nat) (uv tv : Value) (i : Nat) : Prop := tchR rb uv tv i ∨ i = kb
structure RImg (w : World) (q t rb kb n : Nat) (uv tv : Value) (G : Nat → Int) (S : List stIt) (M : Nat → Int × Int) : Prop where
  p : RPlAt w q t rb n G uv tv S
  m : RMapAt w kb M
  hn : 0 < n
  mb : ∀ i, 0 ≤ (M i).1 ∧ (M i).1 < 32
section
variable {w w' : World} {q t rb kb n : Nat} {uv tv : Value} {G G' : Nat → Int} {S S' : List stIt} {M M' : Nat → Int × Int}
theorem RImg.below (h : RImg w q t rb kb n uv tv G S M) (hb : Below w.heap.size w w') : RImg w' q t rb kb n uv tv G S M := ⟨h.p.below hb, (hb.block kb h.m.lt).trans h.m, h.hn, h.mb⟩
theorem RImg.alloc {o : Obj} (h : RImg w q t rb kb n uv tv G S M) : RImg (w.alloc o) q t rb kb n uv tv G S M := h.below (Bel.refl w).alloc.1
theorem RImg.not (h : RImg w q t rb kb n uv tv G S M) : ¬ tchR rb uv tv kb := fun hx => by
  rcases h.p.tch_typ h.hn hx with ⟨c2, ty2, hc2, ht2⟩ | ⟨_, c2, hc2⟩
  · have := typ_same h.m hc2
    subst this
    revert ht2
    decide
  · exact absurd (typ_same h.m hc2) (by decide)
theorem RImg.move (h : RImg w q t rb kb n uv tv G S M) (mv : RMove w w' q t rb n G' uv tv S') : RImg w' q t rb kb n uv tv G' S' M ∧ Frs (rSet rb kb uv tv) w w' := by
  obtain ⟨hp, f⟩ := mv
  exact ⟨⟨hp, (f.block kb h.m.lt h.not).trans h.m, h.hn, h.mb⟩, ⟨f.os, f.tape, f.output, f.size, fun i hi hn => f.block i hi fun e => hn (.inl e)⟩⟩
theorem RImg.mapped (h : RImg w q t rb kb n uv tv G S M) (hU : Upd kb w w') (hm : RMapAt w' kb M') (hb : ∀ i, 0 ≤ (M' i).1 ∧ (M' i).1 < 32) : RImg w' q t rb kb n uv tv G S M' ∧ Frs (rSet rb kb uv tv) w w' := by
  have f : Frs (fun i => i = kb) w w' := Frs.of_upd hU rfl
  refine ⟨⟨h.p.frs f (fun i c ty fz hi ht hx => ?_) (fun a ha hx => ?_), hm, h.hn, hb⟩, Frs.of_upd hU (.inr rfl)⟩
  · subst hx
    have := typ_same hi h.m
    subst this
    revert ht
    decide
  · subst hx
    obtain ⟨cur, hc⟩ := own_typR h.p.whos ha
    exact absurd (typ_same h.m hc) (by decide)
theorem rTake (g : Nat) (hg : g < 16) (hl : 0 < (leftL S g).length) (w : World) (h : RImg w q t rb kb n uv tv G S M) :
    Calls Try.prog 48 #[.pointer (some ⟨q, 0, none⟩), .int .i64 g] w fun e w' => e = .returned (.tuple #[.int .i64 (lowF S g), .int .i64 0]) ∧ RImg w' q t rb kb n uv tv G (S.set (lowF S g) ⟨g, true⟩) M ∧ Frs (rSet rb kb uv tv) w w' := by
  refine (rpTake g _ w h.p hg (low_of_left hl)).mono ?_
  rintro e w' ⟨rfl, h2, f2⟩
  exact ⟨rfl, h.move ⟨h2, f2⟩⟩
theorem rBack (f : Int) (hf : 0 ≤ f ∧ f < 32) (w : World) (h : RImg w q t rb kb n uv tv G S M) :
    Calls Try.prog 45 #[.pointer (some ⟨q, 0, none⟩), .int .i64 f] w fun e w' => e = .returned (.int .i64 (backE S f)) ∧ RImg w' q t rb kb n uv tv (backG S G f) (backS S f) M ∧ Frs (rSet rb kb uv tv) w w' := by
  have hlen := h.p.len
  by_cases hin : fin n f
  · have hf' := hin
    obtain ⟨k, rfl, hk⟩ := hin.nat
    cases ht : (atL S k).tk
    · refine (rpBackFree k w h.p hk ht).mono ?_
      rintro e w' ⟨rfl, rfl⟩
      refine ⟨by rw [backE, hlen, if_pos hf', Int.toNat_natCast, ht]; rfl, ?_, Frs.refl _ _⟩
      rw [backG, backS, Int.toNat_natCast, ht, if_neg (by simp), if_neg (by simp)]
      exact h
    · obtain ⟨g, hg, hw⟩ : ∃ g : Nat, g < 16 ∧ (atL S k).who = g := by
        rcases h.p.who k hk with hx | hx
        · rw [hx.2] at ht; cases ht
        · exact hx
      refine (rpBack k g w h.p hk hg hw ht).mono ?_
      rintro e w' ⟨rfl, h2, f2⟩
      refine ⟨by rw [backE, hlen, if_pos hf', Int.toNat_natCast, ht]; rfl, ?_⟩
      rw [backG, backS, Int.toNat_natCast, ht, hlen, if_pos ⟨hf', rfl⟩, if_pos ⟨hf', rfl⟩, hw]
      exact h.move ⟨h2, f2⟩
  · refine (rpBackNo f w h.p (WalkArith.wf_i64 (by omega)) (fin.out hin)).mono ?_
    rintro e w' ⟨rfl, rfl⟩
    refine ⟨by rw [backE, hlen, if_neg hin], ?_, Frs.refl _ _⟩
    rw [backG, backS, hlen, if_neg (fun x => hin x.1), if_neg (fun x => hin x.1)]
    exact h
/-- The reference's Cut. -/
theorem rcut_any (p : Option Addr) (n1 c1 k : Nat) (hk1 : 1 ≤ k) (hk8 : k ≤ 8) (hc : n1 ≤ c1) (hn1 : n1 ≤ 140737488355328) (hp : p = none → c1 = 0) : ∃ c', ∀ w : World,
    Calls Try.prog 47 #[.slice p n1 c1, .int .i64 k] w fun e w' => e = .returned (.slice p (cutN n1 k) c') ∧ w = w' := by
  refine ⟨c1, fun w => ?_⟩
  have hk : ¬ k < 1 := by omega
  by_cases h2 : (16 * (k : Int)) ≤ n1
  · have e1 : cutN n1 k = 16 * k := by unfold cutN; omega
    rw [e1]
    clear e1
    go_enter Try.func47, Try.ntmps47
    go_wp2
    go_ret
    exact ⟨rfl, rfl⟩
  · have e1 : cutN n1 k = n1 := by unfold cutN; omega
    rw [e1]
    clear e1
    go_enter Try.func47, Try.ntmps47
    go_wp2
    go_ret
    exact ⟨rfl, rfl⟩
theorem frs_cell {p : Nat → Prop} (f : Frs p w w') {j o : Nat} {s : Option Nat} {v : Value} (h : w.cell? ⟨j, o, s⟩ = some v) (hn : ¬ p j) : w'.cell? ⟨j, o, s⟩ = some v := by
  have := f.block j (cell_lt h) hn
  rw [← h]
  simp [World.cell?, this]
theorem setNew_mb {M : Nat → Int × Int} (h : ∀ i, 0 ≤ (M i).1 ∧ (M i).1 < 32) (i f r : Int) : ∀ j, 0 ≤ (setNew M i f r j).1 ∧ (setNew M i f r j).1 < 32 := by
  intro j
  unfold setNew
  split
  · rename_i hc
    obtain ⟨_, hq, _⟩ := hc
    simp [placeB] at hq
    unfold upd
    split
    · simp only; omega
    · exact h j
  · exact h j
theorem dropNew_mb {M : Nat → Int × Int} (h : ∀ i, 0 ≤ (M i).1 ∧ (M i).1 < 32) (i : Int) : ∀ j, 0 ≤ (dropNew M i j).1 ∧ (dropNew M i j).1 < 32 := by
  intro j
  unfold dropNew
  split
  · unfold upd
    split
    · simp
    · exact h j
  · exact h j
set_option maxHeartbeats 4000000 in
theorem rLay (x : Im3) (who pages : Int) (p : Option Addr) (n1 c1 : Nat) (W : Nat → Int) (hc : n1 ≤ c1) (hn1 : n1 ≤ 140737488355328) (hp0 : p = none → c1 = 0) (w : World) (h : RImg w q t rb kb n uv tv x.G x.S x.M) (hU : USrc w p n1 W) (hp : 1 ≤ n1 → ∀ b o, p = some ⟨b, o, none⟩ → ¬ rSet rb kb uv tv b) :
    Calls Try.prog 15 #[.pointer (some ⟨q, 0, none⟩), .pointer (some ⟨t, 0, none⟩), .pointer (some ⟨kb, 0, none⟩), .int .i64 who, .int .i64 pages, .slice p n1 c1] w fun e w' => e = .returned (.int .i64 (layE x.S x.M who pages)) ∧ RImg w' q t rb kb n uv tv (layX n x who pages W (cutN n1 pages)).G (layX n x who pages W (cutN n1 pages)).S (layX n x who pages W (cutN n1 pages)).M ∧ Frs (rSet rb kb uv tv) w w' := by
  by_cases hbad : pages < 1 ∨ 8 < pages ∨ who < 0 ∨ 16 ≤ who
  · have hE : layE x.S x.M who pages = 1 := by rw [layE, if_pos hbad]
    rw [layX, if_neg (by omega), hE]
    rcases (by omega : pages < 1 ∨ (¬ pages < 1 ∧ 8 < pages) ∨ (¬ pages < 1 ∧ ¬ 8 < pages ∧ who < 0) ∨ (¬ pages < 1 ∧ ¬ 8 < pages ∧ ¬ who < 0 ∧ 16 ≤ who)) with h1 | ⟨h1, h2⟩ | ⟨h1, h2, h3⟩ | ⟨h1, h2, h3, h4⟩
    all_goals
      clear hbad hE
      go_enter Try.func15, Try.ntmps15
      go_wp2
      go_ret
      exact ⟨rfl, h, Frs.refl _ _⟩
  obtain ⟨k, rfl⟩ : ∃ k : Nat, pages = k := ⟨pages.toNat, by omega⟩
  obtain ⟨g, rfl⟩ : ∃ g : Nat, who = g := ⟨who.toNat, by omega⟩
  have hk1 : 1 ≤ k := by omega
  have hk8 : k ≤ 8 := by omega
  have hg : g < 16 := by omega
  have g1 : ¬ k < 1 := by omega
  have g2 : ¬ 8 < k := by omega
  have g4 : ¬ 16 ≤ g := by omega
  have hlc : leftC x.S g = (leftL x.S g).length := by rw [leftC, if_pos (by omega), Int.toNat_natCast]
  by_cases hfr : freeB x.M k = true
  case neg =>
    have hE : layE x.S x.M g k = 5 := by rw [layE, if_neg hbad, Int.toNat_natCast, if_pos (by simpa using hfr)]
    rw [layX, if_neg (by omega), hE]
    clear hbad hE
    go_enter Try.func15, Try.ntmps15
    go_wp2_with fail
    go_loopw [13] (fun iv wr => ∃ i : Nat, i ≤ k ∧ iv = .int .i64 i ∧ freeB x.M i = true ∧ Below w.heap.size w wr) (fun iv _ => k - (intOf iv).toNat)
    case atStart => exact ⟨0, Nat.zero_le _, rfl, rfl, Below.refl _ _⟩
    case round =>
      obtain ⟨i, hi, rfl, hf, hb⟩ := hrel
      have h1 := h.below hb
      by_cases hik : i < k
      · go_wp2_with fail
        refine (rget_any kb x.M i _ h1.m).mono ?_
        rintro e w2 ⟨rfl, b2⟩
        rw [getT_nat (by omega)]
        have hb2 := hb.trans (b2.mono hb.size)
        cases ht : isThere x.M i
        · go_wp2
          go_roundw
          case rel => exact ⟨i + 1, by omega, by go_num, by rw [freeB_succ, hf, ht]; rfl, hb2.alloc hb2.size _⟩
          case measure => simp [intOf]; omega
        · go_wp2
          go_ret
          exact ⟨rfl, (h.below hb2).alloc, Frs.of_below (hb2.alloc hb2.size _)⟩
      · obtain rfl : i = k := by omega
        exact absurd hf hfr
  case pos =>
    by_cases hl : (leftL x.S g).length < k
    case pos =>
      have hE : layE x.S x.M g k = 2 := by rw [layE, if_neg hbad, Int.toNat_natCast, if_neg (by simp [hfr]), hlc, if_pos (by omega)]
      rw [layX, if_neg (by omega), hE]
      clear hbad hE hlc
      go_enter Try.func15, Try.ntmps15
      go_wp2_with fail
      go_loopw [13] (fun iv wr => ∃ i : Nat, i ≤ k ∧ iv = .int .i64 i ∧ Below w.heap.size w wr) (fun iv _ => k - (intOf iv).toNat)
      case atStart => exact ⟨0, Nat.zero_le _, rfl, Below.refl _ _⟩
      case round =>
        obtain ⟨i, hi, rfl, hb⟩ := hrel
        have h1 := h.below hb
        by_cases hik : i < k
        · have ht := freeB_at hfr hik
          go_wp2_with fail
          refine (rget_any kb x.M i _ h1.m).mono ?_
          rintro e w2 ⟨rfl, b2⟩
          rw [getT_nat (by omega), ht]
          have hb2 := hb.trans (b2.mono hb.size)
          go_wp2
          go_roundw
          case rel => exact ⟨i + 1, by omega, by go_num, hb2.alloc hb2.size _⟩
          case measure => simp [intOf]; omega
        · obtain rfl : i = k := by omega
          go_wp2_with fail
          refine (rpLeft g _ h1.p).mono ?_
          rintro e w2 ⟨rfl, rfl⟩
          generalize (leftL x.S g).length = X at *
          go_wp2
          go_ret
          exact ⟨rfl, h1, Frs.of_below hb⟩
    case neg =>
      have hE : layE x.S x.M g k = 0 := by rw [layE, if_neg hbad, Int.toNat_natCast, if_neg (by simp [hfr]), hlc, if_neg (by omega)]
      rw [layX, if_pos hE, hE, Int.toNat_natCast, Int.toNat_natCast]
      obtain ⟨cc, hcut⟩ := rcut_any p n1 c1 k hk1 hk8 hc hn1 hp0
      have hN8 := cutN_le n1 k
      have hNn : cutN n1 k ≤ n1 := by unfold cutN; omega
      have hcp : (p = none → cutN n1 k = 0) := fun e => by have := hU.1 e; omega
      generalize cutN n1 (k : Int) = N at *
      clear hbad hE hlc hp0
      go_enter Try.func15, Try.ntmps15
      go_wp2_with fail
      go_loopw [13] (fun iv wr => ∃ i : Nat, i ≤ k ∧ iv = .int .i64 i ∧ Below w.heap.size w wr) (fun iv _ => k - (intOf iv).toNat)
      case atStart => exact ⟨0, Nat.zero_le _, rfl, Below.refl _ _⟩
      case round =>
        obtain ⟨i, hi, rfl, hb⟩ := hrel
        have h1 := h.below hb
        by_cases hik : i < k
        · have ht := freeB_at hfr hik
          go_wp2_with fail
          refine (rget_any kb x.M i _ h1.m).mono ?_
          rintro e w2 ⟨rfl, b2⟩
          rw [getT_nat (by omega), ht]
          have hb2 := hb.trans (b2.mono hb.size)
          go_wp2
          go_roundw
          case rel => exact ⟨i + 1, by omega, by go_num, hb2.alloc hb2.size _⟩
          case measure => simp [intOf]; omega
        · obtain rfl : i = k := by omega
          go_wp2_with fail
          refine (rpLeft g _ h1.p).mono ?_
          rintro e w2 ⟨rfl, rfl⟩
          obtain ⟨X, hX⟩ : ∃ X, (leftL x.S g).length = X := ⟨_, rfl⟩
          have HX := Lib.hid hX
          rw [hX] at hl ⊢
          clear hX
          go_wp2_with fail
          refine (hcut _).mono ?_
          rintro e w2 ⟨rfl, rfl⟩
          have hf1 : Frs (rSet rb kb uv tv) w wr := Frs.of_below hb
          clear hcut hb hi hik
          go_wp2_with fail
          go_loopw [17] (fun iv wr => ∃ j : Nat, j ≤ i ∧ iv = .int .i64 j ∧ RImg wr q t rb kb n uv tv (layTo n g W N x j).G (layTo n g W N x j).S (layTo n g W N x j).M ∧ Frs (rSet rb kb uv tv) w wr) (fun iv _ => i - (intOf iv).toNat)
          case atStart => exact ⟨0, Nat.zero_le _, rfl, h1, hf1⟩
          case round =>
            clear h1 hf1
            obtain ⟨j, hj, rfl, h2, hf2⟩ := hrel
            by_cases hji : j < i
            · have hlf : 0 < (leftL (layTo n g W N x j).S g).length := by
                have := layTo_left (n := n) (g := g) (N := N) (W := W) (x := x) (i := j) (by rw [HX.out]; omega)
                rw [HX.out] at this
                omega
              have hTk := fun w => rTake (q := q) (t := t) (rb := rb) (kb := kb) (n := n) (uv := uv) (tv := tv) (G := (layTo n g W N x j).G) (M := (layTo n g W N x j).M) g hg hlf w
              have hnext : layTo n g W N x (j + 1) = lay1 n g W N j (layTo n g W N x j) := rfl
              have hfn : lowF (layTo n g W N x j).S g < n := by
                have := (low_of_left hlf).lt
                rwa [h2.p.len] at this
              have hn32 := h2.p.sto.1
              obtain ⟨f, hf⟩ : ∃ f, lowF (layTo n g W N x j).S g = f := ⟨_, rfl⟩
              rw [lay1, hf] at hnext
              rw [hf] at hTk hfn
              generalize layTo n g W N x j = y at *
              clear hlf hf
              have HNX := Lib.hid hnext
              clear hnext
              go_wp2_with fail
              refine (hTk _ h2).mono ?_
              rintro e w3 ⟨rfl, h3, f3⟩
              clear hTk
              go_wp2_with fail
              refine (rset_any kb y.M j f 3 _ h3.m).mono ?_
              rintro e w4 ⟨rfl, u4, m4⟩
              obtain ⟨h4, f4⟩ := h3.mapped u4 m4 (setNew_mb h3.mb _ _ _)
              have hf4 := (hf2.trans f3).trans f4
              clear h3 f3 u4 m4 f4 h2 hf2
              go_wp2_with fail
              go_loopw [20] (fun mv wr => ∃ m : Nat, m ≤ 16 ∧ mv = .int .i64 m ∧ RImg wr q t rb kb n uv tv (wG n f W N j y.G m) (y.S.set f ⟨g, true⟩) (setNew y.M j f 3) ∧ Frs (rSet rb kb uv tv) w wr) (fun mv _ => 16 - (intOf mv).toNat)
              case atStart => exact ⟨0, Nat.zero_le _, rfl, h4, hf4⟩
              case round =>
                clear h4 hf4
                obtain ⟨m, hm, rfl, h5, hf5⟩ := hrel
                by_cases hm16 : m < 16
                · by_cases hin : 16 * j + m < N
                  · obtain ⟨b, o, rfl, hbl, hcs⟩ := hU.2.2 (by omega)
                    have q1 := frs_cell hf5 (hcs (16 * j + m) (by omega)) (hp (by omega) b o rfl)
                    have hw := hU.2.1 (16 * j + m)
                    have hs := fun w h => rsave_any t rb n f (4 * (m : Int)) 4 (W (16 * j + m)) (wG n f W N j y.G m) w h (WalkArith.wf_i64 (by omega)) (by decide) hw.1 hw.2
                    rw [show svG n (wG n f W N j y.G m) f (4 * (m : Int)) 4 (W (16 * j + m)) = wG n f W N j y.G (m + 1) from by rw [wG_yes (by omega), show j * 16 + m = 16 * j + m by omega]] at hs
                    have hin2 : 16 * (j : Int) + (m : Int) < N := by omega
                    clear hcs
                    go_wp2_with fail
                    refine (hs _ h5.p.sto).mono ?_
                    rintro e w6 ⟨rfl, u6, s6⟩
                    obtain ⟨h6, f6⟩ := h5.move ⟨h5.p.stored h5.hn u6 s6, Frs.of_upd u6 (.inl rfl)⟩
                    have hf6 := hf5.trans f6
                    clear hs q1 h5 hf5 f6 u6 s6
                    go_wp2
                    go_roundw
                    case rel => exact ⟨m + 1, by omega, by go_num, h6, hf6⟩
                    case measure => simp [intOf]; omega
                  · have hin2 : ¬ 16 * (j : Int) + (m : Int) < N := by omega
                    go_wp2
                    go_roundw
                    case rel => exact ⟨m + 1, by omega, by go_num, by rw [wG_no (by omega)]; exact h5, hf5⟩
                    case measure => simp [intOf]; omega
                · obtain rfl : m = 16 := by omega
                  go_wp2
                  go_roundw
                  case rel => exact ⟨j + 1, by omega, by go_num, by rw [HNX.out]; exact h5, hf5⟩
                  case measure => simp [intOf]; omega
            · obtain rfl : j = i := by omega
              go_wp2
              go_ret
              exact ⟨rfl, h2, hf2⟩
end
end Go.Proofs.Ytklgfnboadchmaa
