/- shadow: Wrote, Gone, Flush; an act. -/
import Derived.Test.YthppjkpejnaocaaShE
namespace Go.Proofs.Ythppjkpejnaocaa
open Go.ChangeShapes Go.WideShapes Go.ChangeAt Go.RowKit
set_option linter.unusedVariables false

section
variable {b : Nat} {v : Value} {l : List ln}
theorem sh_fillNo (k0 k1 e0 e1 e2 rt lf : Int) (w : World) (h : ShIn w b v l) (ho : ¬ ((0 ≤ rt ∧ rt < 8) ∧ (0 ≤ lf ∧ lf < 8))) :
    Calls Try.prog 15 #[.pointer (some ⟨b, 0, none⟩), .agg #[.int .i64 k0, .int .i64 k1], .agg #[.int .i64 e0, .int .i64 e1, .int .i64 e2], .int .i64 rt, .int .i64 lf] w fun e w' => e = .returned (.tuple #[.slice none 0 0, .int .i64 1]) ∧ Below w.heap.size w w' := by
  have h2 := h.alloc (ob := .cells #[.int .i64 k0, .int .i64 k1] 30) |>.alloc (ob := .cells #[.int .i64 e0, .int .i64 e1, .int .i64 e2] 32)
  have hB := (Bel.refl w).alloc (o := .cells #[.int .i64 k0, .int .i64 k1] 30) |>.alloc (o := .cells #[.int .i64 e0, .int .i64 e1, .int .i64 e2] 32)
  have hO1 := own_any rt
  have hO2 := own_any lf
  by_cases h1 : 0 ≤ rt ∧ rt < 8
  · rw [show (decide (0 ≤ rt) && decide (rt < 8)) = true by simp; omega] at hO1
    rw [show (decide (0 ≤ lf) && decide (lf < 8)) = false by simp; omega] at hO2
    clear h1 ho
    go_enter Try.func15, Try.ntmps15
    go_wp2_with fail
    refine (sh_none _ h2).mono ?_
    rintro e w1 ⟨rfl, rfl⟩
    go_wp2_with fail
    refine (hO1 _).mono ?_
    rintro e w1 ⟨rfl, rfl⟩
    go_wp2_with fail
    refine (hO2 _).mono ?_
    rintro e w1 ⟨rfl, rfl⟩
    go_wp2
    go_ret2
    exact ⟨rfl, hB.1⟩
  · rw [show (decide (0 ≤ rt) && decide (rt < 8)) = false by simp; omega] at hO1
    clear h1 ho
    go_enter Try.func15, Try.ntmps15
    go_wp2_with fail
    refine (sh_none _ h2).mono ?_
    rintro e w1 ⟨rfl, rfl⟩
    go_wp2_with fail
    refine (hO1 _).mono ?_
    rintro e w1 ⟨rfl, rfl⟩
    go_wp2
    go_ret2
    exact ⟨rfl, hB.1⟩
/-- The keys of what went, and what stayed. -/
def Went (w w' : World) (b : Nat) (v : Value) (l : List ln) (f : ln → Bool) (u : Value) : Prop :=
  ∃ v', w'.ownsRow w.heap.size 30 2 u (l.filter f).length ((l.filter f).flatMap kyEnc) ∧ ShIn w' b v' (l.filter fun x => !f x) ∧ Frm b v v' w w'
theorem sh_wrote (p : Int) (w : World) (h : ShIn w b v l) (hn : l.length ≤ 1000) :
    Calls Try.prog 13 #[.pointer (some ⟨b, 0, none⟩), .int .i64 p] w fun e w' => ∃ u, e = .returned u ∧ Went w w' b v l (thrB p) u := by
  have hmk : ∀ (fn : Fn) (first cap : Array Value) (w : World), (Instr.makeFunc fn first cap).run Try.prog w = .ok (.func fn first cap) w := fun _ _ _ _ => rfl
  go_enter Try.func13, Try.ntmps13
  have hlt := h.lt
  go_wp2_with fail
  refine (sh_none _ h.alloc).mono ?_
  rintro e w1 ⟨rfl, rfl⟩
  go_wp2_with fail
  refine (drop_wrote w.heap.size p _ h.alloc hn (by simp [go_sem])).mono ?_
  rintro e w2 ⟨u, v', rfl, h1, h2, h3⟩
  have h4 := ownsRow_base h1 (show w.heap.size ≤ (w.alloc (.cells #[.int .i64 p] 3)).heap.size by simp)
  have h5 := (Frm.of_below (b := b) (v := v) (Bel.refl w).alloc.1).trans h3
  go_wp2
  go_ret
  exact ⟨u, rfl, v', h4, h2, h5⟩
theorem sh_gone (p : Int) (w : World) (h : ShIn w b v l) (hn : l.length ≤ 1000) :
    Calls Try.prog 14 #[.pointer (some ⟨b, 0, none⟩), .int .i64 p] w fun e w' => ∃ u, e = .returned u ∧ Went w w' b v l (goneB p) u := by
  have hmk : ∀ (fn : Fn) (first cap : Array Value) (w : World), (Instr.makeFunc fn first cap).run Try.prog w = .ok (.func fn first cap) w := fun _ _ _ _ => rfl
  go_enter Try.func14, Try.ntmps14
  have hlt := h.lt
  go_wp2_with fail
  refine (sh_none _ h.alloc).mono ?_
  rintro e w1 ⟨rfl, rfl⟩
  go_wp2_with fail
  refine (drop_gone w.heap.size p _ h.alloc hn (by simp [go_sem])).mono ?_
  rintro e w2 ⟨u, v', rfl, h1, h2, h3⟩
  have h4 := ownsRow_base h1 (show w.heap.size ≤ (w.alloc (.cells #[.int .i64 p] 3)).heap.size by simp)
  have h5 := (Frm.of_below (b := b) (v := v) (Bel.refl w).alloc.1).trans h3
  go_wp2
  go_ret
  exact ⟨u, rfl, v', h4, h2, h5⟩
theorem sh_flush (w : World) (h : ShIn w b v l) (hn : l.length ≤ 1000) :
    Calls Try.prog 17 #[.pointer (some ⟨b, 0, none⟩)] w fun e w' => e = .returned (.int .i64 l.length) ∧ ∃ v', ShIn w' b v' [] ∧ Frm b v v' w w' := by
  go_enter Try.func17, Try.ntmps17
  go_wp2_with fail
  refine (sh_none _ h).mono ?_
  rintro e w1 ⟨rfl, rfl⟩
  go_wp2_with fail
  refine (drop_flush _ h hn).mono ?_
  rintro e w2 ⟨u, v', rfl, h1, h2, h3⟩
  rw [show (l.filter fun _ => true) = l by simp] at h1
  rw [show (l.filter fun x => !true) = [] by simp] at h2
  obtain ⟨ua, uc, rfl⟩ := ownsRow_shape h1
  go_wp2
  go_ret
  exact ⟨rfl, v', h2, h3⟩
end
/-- An act. -/
structure act where
  kd : Int
  x : ln
def ok8 (x : ln) : Bool := decide (0 ≤ x.rt) && decide (x.rt < 8) && (decide (0 ≤ x.lf) && decide (x.lf < 8))
def doL (l : List ln) (a : act) : List ln := if a.kd = 0 then l.filter fun x => !thrB a.x.rt x else if a.kd = 1 then l.filter fun x => !goneB a.x.rt x else if a.kd = 2 then [] else if ok8 a.x = true then fillL l a.x else l
def doK (l : List ln) (a : act) : List ln := if a.kd = 0 then l.filter (thrB a.x.rt) else if a.kd = 1 then l.filter (goneB a.x.rt) else []
def doT (l : List ln) (a : act) : List Int := if a.kd = 0 then [] else if a.kd = 1 then [] else if a.kd = 2 then [] else if ok8 a.x = true then freshL l a.x.rt a.x.lf else []
def doN (l : List ln) (a : act) : Int := if a.kd = 0 then 0 else if a.kd = 1 then 0 else if a.kd = 2 then l.length else if ok8 a.x = true then 0 else 1
def actV (a : act) : Value := .agg #[.int .i64 a.kd, .int .i64 a.x.kr, .int .i64 a.x.kp, .int .i64 a.x.ep, .int .i64 a.x.ef, .int .i64 a.x.er, .int .i64 a.x.rt, .int .i64 a.x.lf]
/-- What an act told. -/
structure Told (w w' : World) (l : List ln) (a : act) (u1 u2 : Value) : Prop where
  ts : ∃ ta tc, u1 = .slice ta (doT l a).length tc ∧ IntsAt .i64 w' ta (doT l a).length (doT l a) ∧ ∀ g, u1.ownBlock = some g → w.heap.size ≤ g
  ks : ∃ ka kc, u2 = .slice ka (doK l a).length kc ∧ ItemsAt 2 kyEnc w' ka (doK l a).length (doK l a) ∧ ∀ g, u2.ownBlock = some g → w.heap.size ≤ g
section
variable {b : Nat} {v : Value} {l : List ln}
theorem items_nil {w : World} : ItemsAt 2 kyEnc w none 0 ([] : List ln) := ⟨rfl, fun h => by omega⟩
set_option maxHeartbeats 4000000 in
theorem sh_does (a : act) (w : World) (h : ShIn w b v l) (hn : l.length ≤ 32) :
    Calls Try.prog 9 #[.pointer (some ⟨b, 0, none⟩), actV a] w fun e w' => ∃ u1 u2 v', e = .returned (.tuple #[u1, u2, .int .i64 (doN l a)]) ∧ Told w w' l a u1 u2 ∧ ShIn w' b v' (doL l a) ∧ Frm b v v' w w' := by
  obtain ⟨kd, ⟨k0, k1, e0, e1, e2, rt, lf⟩⟩ := a
  unfold actV
  have hFA : Frm b v v w (w.alloc (.cells #[.int .i64 kd, .int .i64 k0, .int .i64 k1, .int .i64 e0, .int .i64 e1, .int .i64 e2, .int .i64 rt, .int .i64 lf] 34)) := Frm.of_below (Bel.refl w).alloc.1
  have hsA : w.heap.size ≤ (w.alloc (.cells #[.int .i64 kd, .int .i64 k0, .int .i64 k1, .int .i64 e0, .int .i64 e1, .int .i64 e2, .int .i64 rt, .int .i64 lf] 34)).heap.size := by simp
  by_cases c0 : kd = 0
  · subst c0
    have hL : doL l ⟨0, ⟨k0, k1, e0, e1, e2, rt, lf⟩⟩ = l.filter fun x => !thrB rt x := by rw [doL, if_pos rfl]
    have hK : doK l ⟨0, ⟨k0, k1, e0, e1, e2, rt, lf⟩⟩ = l.filter (thrB rt) := by rw [doK, if_pos rfl]
    have hT : doT l ⟨0, ⟨k0, k1, e0, e1, e2, rt, lf⟩⟩ = [] := by rw [doT, if_pos rfl]
    have hN : doN l ⟨0, ⟨k0, k1, e0, e1, e2, rt, lf⟩⟩ = 0 := by rw [doN, if_pos rfl]
    rw [hL, hN]
    go_enter Try.func9, Try.ntmps9
    go_wp2_with fail
    refine (sh_wrote rt _ h.alloc (by omega)).mono ?_
    rintro e w2 ⟨u, rfl, v', h1, h2, h3⟩
    obtain ⟨ka, kc, rfl, _, _, hit, hkb⟩ := items_of_owned kyEnc_length h1
    have hTo : Told w w2 l ⟨0, ⟨k0, k1, e0, e1, e2, rt, lf⟩⟩ (.slice none 0 0) (.slice ka (l.filter (thrB rt)).length kc) := ⟨⟨none, 0, by rw [hT]; rfl, by rw [hT]; exact ⟨rfl, fun h => absurd h (by simp)⟩, fun g hg => by cases hg⟩, ⟨ka, kc, by rw [hK], by rw [hK]; exact hit, fun g hg => Nat.le_trans hsA (hkb g hg)⟩⟩
    have hF2 := hFA.trans h3
    clear hit hkb h1 hT hK hN hL h3
    go_wp2
    refine bodyPost_ret (v := .tuple #[.slice none 0 0, .slice ka (l.filter (thrB rt)).length kc, .int .i64 0]) (by simp [results, Try.results9, go_sem]) rfl ?_
    exact ⟨_, _, v', rfl, hTo, h2, hF2⟩
  by_cases c1 : kd = 1
  · subst c1
    have hL : doL l ⟨1, ⟨k0, k1, e0, e1, e2, rt, lf⟩⟩ = l.filter fun x => !goneB rt x := by rw [doL, if_neg (by simp), if_pos rfl]
    have hK : doK l ⟨1, ⟨k0, k1, e0, e1, e2, rt, lf⟩⟩ = l.filter (goneB rt) := by rw [doK, if_neg (by simp), if_pos rfl]
    have hT : doT l ⟨1, ⟨k0, k1, e0, e1, e2, rt, lf⟩⟩ = [] := by rw [doT, if_neg (by simp), if_pos rfl]
    have hN : doN l ⟨1, ⟨k0, k1, e0, e1, e2, rt, lf⟩⟩ = 0 := by rw [doN, if_neg (by simp), if_pos rfl]
    rw [hL, hN]
    clear c0
    go_enter Try.func9, Try.ntmps9
    go_wp2_with fail
    refine (sh_gone rt _ h.alloc (by omega)).mono ?_
    rintro e w2 ⟨u, rfl, v', h1, h2, h3⟩
    obtain ⟨ka, kc, rfl, _, _, hit, hkb⟩ := items_of_owned kyEnc_length h1
    have hTo : Told w w2 l ⟨1, ⟨k0, k1, e0, e1, e2, rt, lf⟩⟩ (.slice none 0 0) (.slice ka (l.filter (goneB rt)).length kc) := ⟨⟨none, 0, by rw [hT]; rfl, by rw [hT]; exact ⟨rfl, fun h => absurd h (by simp)⟩, fun g hg => by cases hg⟩, ⟨ka, kc, by rw [hK], by rw [hK]; exact hit, fun g hg => Nat.le_trans hsA (hkb g hg)⟩⟩
    have hF2 := hFA.trans h3
    clear hit hkb h1 hT hK hN hL h3
    go_wp2
    refine bodyPost_ret (v := .tuple #[.slice none 0 0, .slice ka (l.filter (goneB rt)).length kc, .int .i64 0]) (by simp [results, Try.results9, go_sem]) rfl ?_
    exact ⟨_, _, v', rfl, hTo, h2, hF2⟩
  by_cases c2 : kd = 2
  · subst c2
    have hL : doL l ⟨2, ⟨k0, k1, e0, e1, e2, rt, lf⟩⟩ = [] := by rw [doL, if_neg (by simp), if_neg (by simp), if_pos rfl]
    have hK : doK l ⟨2, ⟨k0, k1, e0, e1, e2, rt, lf⟩⟩ = [] := by rw [doK, if_neg (by simp), if_neg (by simp)]
    have hT : doT l ⟨2, ⟨k0, k1, e0, e1, e2, rt, lf⟩⟩ = [] := by rw [doT, if_neg (by simp), if_neg (by simp), if_pos rfl]
    have hN : doN l ⟨2, ⟨k0, k1, e0, e1, e2, rt, lf⟩⟩ = l.length := by rw [doN, if_neg (by simp), if_neg (by simp), if_pos rfl]
    rw [hL, hN]
    clear c0 c1
    go_enter Try.func9, Try.ntmps9
    go_wp2_with fail
    refine (sh_flush _ h.alloc (by omega)).mono ?_
    rintro e w2 ⟨rfl, v', h2, h3⟩
    have hTo : Told w w2 l ⟨2, ⟨k0, k1, e0, e1, e2, rt, lf⟩⟩ (.slice none 0 0) (.slice none 0 0) := ⟨⟨none, 0, by rw [hT]; rfl, by rw [hT]; exact ⟨rfl, fun h => absurd h (by simp)⟩, fun g hg => by cases hg⟩, ⟨none, 0, by rw [hK]; rfl, by rw [hK]; exact items_nil, fun g hg => by cases hg⟩⟩
    have hF2 := hFA.trans h3
    clear hT hK hN hL h3
    go_wp2
    refine bodyPost_ret (v := .tuple #[.slice none 0 0, .slice none 0 0, .int .i64 l.length]) (by simp [results, Try.results9, go_sem]) rfl ?_
    exact ⟨_, _, v', rfl, hTo, h2, hF2⟩
  have hK : doK l ⟨kd, ⟨k0, k1, e0, e1, e2, rt, lf⟩⟩ = [] := by rw [doK, if_neg c0, if_neg c1]
  have d0 : (kd == 0) = false := by simpa using c0
  have d1 : (kd == 1) = false := by simpa using c1
  have d2 : (kd == 2) = false := by simpa using c2
  by_cases ho : (0 ≤ rt ∧ rt < 8) ∧ (0 ≤ lf ∧ lf < 8)
  · have hok : ok8 ⟨k0, k1, e0, e1, e2, rt, lf⟩ = true := by simp [ok8]; omega
    have hL : doL l ⟨kd, ⟨k0, k1, e0, e1, e2, rt, lf⟩⟩ = fillL l ⟨k0, k1, e0, e1, e2, rt, lf⟩ := by rw [doL, if_neg c0, if_neg c1, if_neg c2, if_pos hok]
    have hT : doT l ⟨kd, ⟨k0, k1, e0, e1, e2, rt, lf⟩⟩ = freshL l rt lf := by rw [doT, if_neg c0, if_neg c1, if_neg c2, if_pos hok]
    have hN : doN l ⟨kd, ⟨k0, k1, e0, e1, e2, rt, lf⟩⟩ = 0 := by rw [doN, if_neg c0, if_neg c1, if_neg c2, if_pos hok]
    rw [hL, hN]
    clear c0 c1 c2 hok
    go_enter Try.func9, Try.ntmps9
    go_wp2_with fail
    refine (sh_fill k0 k1 e0 e1 e2 rt lf _ h.alloc hn ho.1 ho.2).mono ?_
    rintro e w2 ⟨g, k, v', rfl, hI, hgs, h2, h3⟩
    obtain rfl : k = (freshL l rt lf).length := hI.1.symm
    have hTo : Told w w2 l ⟨kd, ⟨k0, k1, e0, e1, e2, rt, lf⟩⟩ (.slice (some ⟨g, 0, none⟩) (freshL l rt lf).length 2) (.slice none 0 0) := ⟨⟨_, 2, by rw [hT], by rw [hT]; exact hI, fun g' hg' => by
      simp only [Value.ownBlock, Option.some.injEq] at hg'
      subst hg'
      exact Nat.le_trans hsA hgs⟩, ⟨none, 0, by rw [hK]; rfl, by rw [hK]; exact items_nil, fun g hg => by cases hg⟩⟩
    have hF2 := hFA.trans h3
    clear hT hK hN hL h3 hI
    go_wp2
    refine bodyPost_ret (v := .tuple #[.slice (some ⟨g, 0, none⟩) (freshL l rt lf).length 2, .slice none 0 0, .int .i64 0]) (by simp [results, Try.results9, go_sem]) rfl ?_
    exact ⟨_, _, v', rfl, hTo, h2, hF2⟩
  · have hok : ok8 ⟨k0, k1, e0, e1, e2, rt, lf⟩ = false := by
      rw [Bool.eq_false_iff]
      intro hx
      simp [ok8] at hx
      omega
    have hL : doL l ⟨kd, ⟨k0, k1, e0, e1, e2, rt, lf⟩⟩ = l := by rw [doL, if_neg c0, if_neg c1, if_neg c2, if_neg (by simp [hok])]
    have hT : doT l ⟨kd, ⟨k0, k1, e0, e1, e2, rt, lf⟩⟩ = [] := by rw [doT, if_neg c0, if_neg c1, if_neg c2, if_neg (by simp [hok])]
    have hN : doN l ⟨kd, ⟨k0, k1, e0, e1, e2, rt, lf⟩⟩ = 1 := by rw [doN, if_neg c0, if_neg c1, if_neg c2, if_neg (by simp [hok])]
    rw [hL, hN]
    clear c0 c1 c2 hok
    go_enter Try.func9, Try.ntmps9
    go_wp2_with fail
    refine (sh_fillNo k0 k1 e0 e1 e2 rt lf _ h.alloc ho).mono ?_
    rintro e w2 ⟨rfl, b2⟩
    have h2 := h.alloc.below b2
    have hTo : Told w w2 l ⟨kd, ⟨k0, k1, e0, e1, e2, rt, lf⟩⟩ (.slice none 0 0) (.slice none 0 0) := ⟨⟨none, 0, by rw [hT]; rfl, by rw [hT]; exact ⟨rfl, fun h => absurd h (by simp)⟩, fun g hg => by cases hg⟩, ⟨none, 0, by rw [hK]; rfl, by rw [hK]; exact items_nil, fun g hg => by cases hg⟩⟩
    have hF2 := hFA.trans (Frm.of_below (b := b) (v := v) b2)
    clear hT hK hN hL b2
    go_wp2
    refine bodyPost_ret (v := .tuple #[.slice none 0 0, .slice none 0 0, .int .i64 1]) (by simp [results, Try.results9, go_sem]) rfl ?_
    exact ⟨_, _, v, rfl, hTo, h2, hF2⟩
end
def awX : ln := ⟨0, 0, 3, 0, 3, 1, 2⟩
theorem aw_fresh : freshL [] 1 2 = [1, 2] := by decide
theorem aw_tab : tableB (fillL [] awX) 2 = true ∧ tableB (fillL [] awX) 3 = false := by decide
theorem aw_len : (fillL [] awX).length = 1 := by decide
set_option maxHeartbeats 4000000 in
theorem awake19 (w : World) : Calls Try.prog 12 #[] w fun e w' => e = .returned (.bool true) ∧ Below w.heap.size w w' := by
  go_enter Try.func12, Try.ntmps12
  go_wp2_with fail
  refine (sh_new _).mono ?_
  rintro e w1 ⟨rfl, h1, b1, _⟩
  have hB1 : Bel w.heap.size w w1 := Bel.of (Bel.refl w) b1
  go_wp2_with fail
  refine (sh_fill 0 0 3 0 3 1 2 _ h1 (by simp) (by omega) (by omega)).mono ?_
  rintro e w2 ⟨g, k, v', rfl, hI, hgs, h2, h3⟩
  have hB2 := hB1.frm h3 (Nat.le_refl _) (fun g hg => by cases hg)
  rw [aw_fresh] at hI
  obtain rfl : k = 2 := hI.1.symm
  obtain ⟨g', o, he, hlt, hc⟩ := hI.2 (by omega)
  simp only [Option.some.injEq, Addr.mk.injEq, and_true] at he
  obtain ⟨rfl, rfl⟩ := he
  have r0 := hc 0 (by omega)
  have r1 := hc 1 (by omega)
  simp at r0 r1
  change ShIn w2 w.heap.size v' (fillL [] awX) at h2
  have ht2 := sh_table 2 w2 h2 (by rw [aw_len]; omega)
  have ht3 := sh_table 3 w2 h2 (by rw [aw_len]; omega)
  rw [aw_tab.1] at ht2
  rw [aw_tab.2] at ht3
  clear hc h1 h3 hI h2
  go_wp2_with fail
  refine ht2.mono ?_
  rintro e w3 ⟨rfl, rfl⟩
  go_wp2_with fail
  refine ht3.mono ?_
  rintro e w3 ⟨rfl, rfl⟩
  go_wp2
  go_ret
  exact ⟨rfl, hB2.1⟩
end Go.Proofs.Ythppjkpejnaocaa
