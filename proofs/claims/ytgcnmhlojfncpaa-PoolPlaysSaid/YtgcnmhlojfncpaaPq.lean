/- The pool: New; beside others; awake. -/
import Derived.Test.YtgcnmhlojfncpaaPn
namespace Go.Proofs.Ytgcnmhlojfncpaa
open Go.ChangeShapes Go.WideShapes Go.ChangeAt Go.RowKit
set_option linter.unusedVariables false

theorem Try.seatInfo : (Try.prog.info? 70).map (fun i => (i.zero, i.size, i.bytes)) = some (some (.agg #[.int .i64 0, .bool false]), 2, 16) := by kernel_rfl
def nilV : Nat → Value := fun _ => .slice none 0 0
theorem left_new (n q : Nat) : leftL (List.replicate n (⟨-1, false⟩ : stIt)) q = [] := by
  unfold leftL
  rw [List.filterMap_eq_nil_iff]
  intro k hk
  unfold lfOf
  rw [if_neg]
  rw [List.length_replicate] at hk
  have : atL (List.replicate n (⟨-1, false⟩ : stIt)) k = ⟨-1, false⟩ := by
    rw [atL_eq (by rw [List.length_replicate]; exact List.mem_range.1 hk)]
    simp
  rw [this]
  simp only
  omega
theorem atL_replicate {n k : Nat} {x : stIt} (hk : k < n) : atL (List.replicate n x) k = x := by
  rw [atL_eq (by rw [List.length_replicate]; exact hk)]
  simp
theorem plNewNo (s fb : Nat) (G : Nat → Int) (w : World) (h : StoAt w s fb 0 G) :
    Calls Try.prog 8 #[.pointer (some ⟨s, 0, none⟩)] w fun e w' => e = .returned (.tuple #[.pointer none, .int .i64 7]) ∧ Below w.heap.size w w' := by
  go_enter Try.func8, Try.ntmps8
  go_wp2_with fail
  refine (len_of s fb 0 G _ h).mono ?_
  rintro e w1 ⟨rfl, b1⟩
  go_wp2
  go_ret2
  exact ⟨rfl, b1⟩
set_option maxRecDepth 20000 in
set_option maxHeartbeats 2000000 in
theorem plNew (s fb n : Nat) (G : Nat → Int) (w : World) (h : StoAt w s fb n G) (hn : 0 < n) :
    Calls Try.prog 8 #[.pointer (some ⟨s, 0, none⟩)] w fun e w' => ∃ b st, e = .returned (.tuple #[.pointer (some ⟨b, 0, none⟩), .int .i64 0]) ∧ w.heap.size ≤ b ∧ PlAt w' b s fb n G nilV (fun _ => []) st (List.replicate n ⟨-1, false⟩) ∧ Below w.heap.size w w' ∧ ∀ a, st.ownBlock = some a → w.heap.size ≤ a := by
  obtain ⟨i0, hi, hz0, hz1, hz2⟩ := info_parts Try.seatInfo
  have hn0 : ((n : Int) == 0) = false := by rw [beq_eq_false_iff_ne]; omega
  have hn32 := h.1
  go_enter Try.func8, Try.ntmps8
  go_wp2_with fail
  refine (len_of s fb n G _ h).mono ?_
  rintro e w1 ⟨rfl, b1⟩
  have h1 := h.below b1
  go_wp2_with fail
  have hblk : (w1.alloc (.cells (plBlk (.pointer (some ⟨s, 0, none⟩)) (.slice none 0 0) nilV) 43)).heap[w1.heap.size]? = some (.cells (plBlk (.pointer (some ⟨s, 0, none⟩)) (.slice none 0 0) nilV) 43 (0, 0)) := Go.heap_alloc_new w1 _
  have h2 := h1.alloc (o := .cells (plBlk (.pointer (some ⟨s, 0, none⟩)) (.slice none 0 0) nilV) 43)
  have hb2 : Bel w.heap.size w (w1.alloc (.cells (plBlk (.pointer (some ⟨s, 0, none⟩)) (.slice none 0 0) nilV) 43)) := Bel.alloc ⟨b1, b1.size⟩
  have hR2 : RowIn 70 2 stEnc (w1.alloc (.cells (plBlk (.pointer (some ⟨s, 0, none⟩)) (.slice none 0 0) nilV) 43)) w1.heap.size 43 (fun v => plBlk (.pointer (some ⟨s, 0, none⟩)) v nilV) (.slice none 0 0) [] := ⟨hblk, World.ownsRow_nil _ _ _ _⟩
  have hbw : w.heap.size ≤ w1.heap.size := b1.size
  refine (len_of s fb n G _ h2).mono ?_
  rintro e w3 ⟨rfl, b3⟩
  have h3 := h2.below b3
  have hR3 := hR2.below b3
  have hb3 := hb2.of b3
  obtain ⟨b, hb⟩ : ∃ b, w1.heap.size = b := ⟨_, rfl⟩
  rw [hb] at hR3 hbw ⊢
  clear hblk hR2 hb2 b1 h1 h2 b3 hb
  go_wp2_with fail
  go_loopw [13] (fun kv wr => ∃ (k : Nat) (st : Value), k ≤ n ∧ kv = .int .i64 k ∧ RowIn 70 2 stEnc wr b 43 (fun v => plBlk (.pointer (some ⟨s, 0, none⟩)) v nilV) st (List.replicate k ⟨-1, false⟩) ∧ Bel w.heap.size w wr) (fun kv _ => n - (intOf kv).toNat)
  case atStart => exact ⟨0, _, Nat.zero_le _, rfl, hR3, hb3⟩
  case round =>
    obtain ⟨k, st, hk, rfl, hR, hbel⟩ := hrel
    clear hR3 hb3 h3
    have hlt := hR.lt
    by_cases hkn : k < n
    · have q0 := hR.field (plBlk_st (.pointer (some ⟨s, 0, none⟩)) nilV)
      have hne : st.ownBlock ≠ some b := fun e => by have := (hR.own _ e).1; omega
      have hlen : (List.replicate k (⟨-1, false⟩ : stIt)).length = k := List.length_replicate
      have hown := hR.2
      rw [hlen] at hown
      obtain ⟨a, c, hst⟩ := ownsRow_shape hown
      subst hst
      have hsucc : (List.replicate (k + 1) (⟨-1, false⟩ : stIt)).flatMap stEnc = (List.replicate k (⟨-1, false⟩ : stIt)).flatMap stEnc ++ [.int .i64 (-1), .bool false] := by
        rw [List.replicate_succ', List.flatMap_append]
        rfl
      have HS := Lib.hid hsucc
      clear hsucc hlen
      go_wp2_with (at_builtin; refine wpList_append_lies _ rfl _ _ 37 rfl (b + 1) 70 i0 (.agg #[.int .i64 0, .bool false]) 2 16 Try.underlying37 hi hz0 hz1 hz2 rfl (by decide) _ _ _ rfl (World.ownsRow.alloc hown _) ⟨wr.heap.size, 0, none⟩ 1 1 [.int .i64 (-1), .bool false] rfl rfl ?c1 ?c2 (by decide) ?c3 ?c4 ?c5 (wr.heap.size + 1) ?c6 ?_)
      case c1 =>
        intro x u hx
        match x, hx with
        | 0, hx => simp at hx; subst hx; simp [Addr.add]
        | 1, hx => simp at hx; subst hx; simp [Addr.add]
      case c2 => intro u hu; simp at hu; rcases hu with rfl | rfl <;> rfl
      case c3 => unfold maxLen; omega
      case c4 => omega
      case c5 => simp; omega
      case c6 => simp
      intro g4 cap4 w4 hown4 hgrow hat hlt4
      have r4 : w4.heap[b]? = some (.cells (plBlk (.pointer (some ⟨s, 0, none⟩)) (.slice a k c) nilV) 43 (0, 0)) := (hgrow.block b (by simp; omega) (fun e => hne e.symm)).trans (heap_alloc hR.1)
      have q4 : w4.cell? ⟨b, 1, none⟩ = some (.slice a k c) := (cell_of_row _ _ _ _ _ _ r4).trans rfl
      have z4 : w4.frozen? ⟨b, 1, none⟩ = false := by simp [World.frozen?, r4]
      have hbel4 : Bel w.heap.size w w4 := hbel.append (ownsRow_base hown (by omega)) hgrow
      clear hR hown hgrow hat
      go_wp2
      go_roundw
      case rel =>
        refine ⟨k + 1, .slice (some ⟨g4, 0, none⟩) (k + 1) cap4, by omega, by go_num, RowIn.stored (o := 1) (plBlk_st _ _) r4 ?_, hbel4.setCell hbw⟩
        rw [List.length_replicate, HS.out]
        simpa using hown4
      case measure => simp [intOf]; omega
    · have hkn2 : n = k := by omega
      have h4 : StoAt wr s fb n G := h.below (hbel.1)
      go_wp2
      go_ret2
      subst hkn2
      refine ⟨b, st, rfl, hbw, ⟨⟨hR.1, fun g hg => World.ownsRow_nil _ _ _ _, fun g hg x h0 hx => (by simp at hx), fun g k hg hk hgk a ha => (by cases ha), hR.2, List.length_replicate, h4, fun f hf => .inl (by rw [atL_replicate hf]; exact ⟨rfl, rfl⟩)⟩, fun g hg => by rw [left_new], hn⟩, hbel.1, fun a ha => by have := (hR.own a ha).1; omega⟩

section
variable {w w' : World} {b s fb n : Nat} {G : Nat → Int} {V : Nat → Value} {L : Nat → List plIt} {st : Value} {S : List stIt} {p : Nat → Prop}
theorem ownsRow_frs {B size m : Nat} {e : TypeId} {u : Value} {xs : List Value} (h : w.ownsRow B e size u m xs) (f : Frs p w w') (hp : ∀ a, u.ownBlock = some a → ¬ p a) : w'.ownsRow B e size u m xs := by
  refine ⟨h.1, ?_⟩
  rcases h.2 with hn | ⟨g, cap, cur, hv, hg, hh, hr⟩
  · exact .inl hn
  · exact .inr ⟨g, cap, cur, hv, hg, (f.block g (lt_heap hh) (hp g (by rw [hv]; rfl))).trans hh, hr⟩
theorem StoAt.frs (h : StoAt w s fb n G) (f : Frs p w w') (h1 : ¬ p s) (h2 : ¬ p fb) : StoAt w' s fb n G := by
  obtain ⟨s1, s2, ⟨curf, s3, s4⟩, s5⟩ := h
  exact ⟨s1, (f.block s (lt_heap s2) h1).trans s2, ⟨curf, (f.block fb (lt_heap s3) h2).trans s3, s4⟩, s5⟩
theorem PlAt.frs (h : PlAt w b s fb n G V L st S) (f : Frs p w w') (h1 : ¬ p b) (h2 : ¬ p s) (h3 : ¬ p fb) (h4 : ∀ g, g < 16 → ∀ a, (V g).ownBlock = some a → ¬ p a) (h5 : ∀ a, st.ownBlock = some a → ¬ p a) : PlAt w' b s fb n G V L st S :=
  ⟨⟨(f.block b h.lt h1).trans h.blk, fun g hg => ownsRow_frs (h.rows g hg) f (h4 g hg), h.heap, h.apart, ownsRow_frs h.seats f h5, h.len, h.sto.frs f h2 h3, h.who⟩, h.perm, h.pos⟩
/-- What a call touches lies from B on, where all of the pool does. -/
structure From (B b s fb : Nat) (V : Nat → Value) (st : Value) : Prop where
  b : B ≤ b
  s : B ≤ s
  fb : B ≤ fb
  V : ∀ g, g < 16 → ∀ a, (V g).ownBlock = some a → B ≤ a
  st : ∀ a, st.ownBlock = some a → B ≤ a
theorem From.tch {B : Nat} (h : From B b s fb V st) {g : Nat} (hg : g < 16) : ∀ i, Proofs.Ytgcnmhlojfncpaa.tch b fb (V g) st i → B ≤ i := by
  rintro i (rfl | rfl | e | e)
  · exact h.b
  · exact h.fb
  · exact h.V g hg i e.symm
  · exact h.st i e.symm
theorem From.put {B : Nat} (h : From B b s fb V st) {g : Nat} (hg : g < 16) {v' : Value} {k : Nat} (hk : B ≤ k) (ho : v'.ownBlock = (V g).ownBlock ∨ ∀ a, v'.ownBlock = some a → k ≤ a) : From B b s fb (setV V g v') st := by
  refine ⟨h.b, h.s, h.fb, fun q hq a ha => ?_, h.st⟩
  by_cases e : q = g
  · subst e
    rw [setV_at] at ha
    rcases ho with ho | ho
    · exact h.V q hq a (ho ▸ ha)
    · exact Nat.le_trans hk (ho a ha)
  · rw [setV_ne _ _ e] at ha
    exact h.V q hq a ha
end
theorem low_one {S : List stIt} {g f f' : Nat} (h : Low S g f) (h' : Low S g f') : f = f' := by
  rcases Nat.lt_trichotomy f f' with hh | hh | hh
  · exact absurd ⟨h.who, h.tk⟩ (h'.low f hh)
  · exact hh
  · exact absurd ⟨h'.who, h'.tk⟩ (h.low f' hh)

set_option maxRecDepth 20000 in
set_option maxHeartbeats 1000000 in
theorem awake07 (w : World) : Calls Try.prog 13 #[] w fun e w' => e = .returned (.bool true) ∧ Below w.heap.size w w' := by
  go_enter Try.func13, Try.ntmps13
  go_wp2_with fail
  refine (fnew_full 4 _ (by omega)).mono ?_
  rintro e w1 ⟨s, fb, rfl, hs, hfb, h1, b1⟩
  go_wp2_with fail
  refine (plNew s fb 4 _ _ h1 (by omega)).mono ?_
  rintro e w2 ⟨b, st, rfl, hb, h2, b2, hst⟩
  have hF2 : From w.heap.size b s fb nilV st := ⟨Nat.le_trans b1.size hb, hs, hfb, fun g hg a ha => (by cases ha), fun a ha => Nat.le_trans b1.size (hst a ha)⟩
  have hb2 : Bel w.heap.size w w2 := Bel.of ⟨b1, b1.size⟩ b2
  go_wp2_with fail
  refine (plOwn 3 1 _ h2 (by omega) (by omega) rfl).mono ?_
  rintro e w3 ⟨rfl, v3, l3, h3, f3, o3⟩
  have hb3 := f3.bel hb2 (hF2.tch (by omega))
  have hF3 := hF2.put (g := 1) (by omega) hb2.2 o3
  go_wp2_with fail
  refine (plOwn 1 1 _ h3 (by omega) (by omega) rfl).mono ?_
  rintro e w4 ⟨rfl, v4, l4, h4, f4, o4⟩
  have hb4 := f4.bel hb3 (hF3.tch (by omega))
  have hF4 := hF3.put (g := 1) (by omega) hb3.2 o4
  have hl4 : ((setV (setV (fun _ => []) 1 l3) 1 l4) 1 : List plIt).length = 2 := by
    rw [(h4.perm 1 (by omega)).length_eq]
    rfl
  obtain ⟨f, hlow, ht⟩ := h4.top (g := 1) (by omega) (by rw [hl4]; omega)
  have hlow1 : Low (((List.replicate 4 (⟨-1, false⟩ : stIt)).set 3 ⟨(1 : Nat), false⟩).set 1 ⟨(1 : Nat), false⟩) 1 1 := by
    refine ⟨by simp, rfl, rfl, fun k hk hc => ?_⟩
    obtain rfl : k = 0 := by omega
    have := hc.1
    simp [atL] at this
  obtain rfl := low_one hlow hlow1
  have HT := Lib.hid ht
  have HL := Lib.hid hl4
  clear ht hl4
  go_wp2_with fail
  refine (plTake 1 1 _ h4 (by omega) (by rw [HL.out]; omega) hlow HT.out).mono ?_
  rintro e w5 ⟨rfl, v5, l5, h5, f5, o5⟩
  have hb5 := f5.bel hb4 (hF4.tch (by omega))
  have hl5 : ((setV (setV (setV (fun _ => []) 1 l3) 1 l4) 1 l5) 1 : List plIt).length = 1 := by
    rw [(h5.perm 1 (by omega)).length_eq]
    rfl
  have HL5 := Lib.hid hl5
  clear hl5
  go_wp2_with fail
  refine (plLeft 1 _ h5.toPlIn (by omega) (by omega)).mono ?_
  rintro e w' ⟨rfl, rfl⟩
  rw [HL5.out]
  go_wp2
  go_ret
  exact ⟨rfl, hb5.1⟩
end Go.Proofs.Ytgcnmhlojfncpaa
