/- Contracts of the store of frames, in bounds: what writes, copies and compares; New. -/
import Derived.Test.YtgcnmhlojfncpaaFrm
namespace Go.Proofs.Ytgcnmhlojfncpaa
open Go.ChangeShapes Go.WideShapes Go.ChangeAt Go.RowKit
set_option linter.unusedVariables false

theorem setRow_upd {w : World} {g : Nat} {cs : Array Value} : Upd g w (w.setRow g cs) := ⟨rfl, rfl, rfl, by simp [World.setRow], fun k _ hne => setRow_other w g k cs (by rintro rfl; exact hne rfl)⟩

theorem putF_fr (G : Nat → Int) (f a m : Nat) (v : Int) : putF (fr G f) a m v = fr (putF G (f * 64 + a) m v) f := by
  funext i
  unfold putF fr
  dsimp only
  by_cases h : a ≤ i ∧ i < a + m
  · rw [if_pos h, if_pos (by omega), show f * 64 + i - (f * 64 + a) = i - a by omega]
  · rw [if_neg h, if_neg (by omega)]
theorem fr_other (G : Nat → Int) (f k a m : Nat) (v : Int) (h : a + m ≤ 64) (hk : k ≠ f) (i : Nat) (hi : i < 64) : putF G (f * 64 + a) m v (k * 64 + i) = G (k * 64 + i) := by
  unfold putF
  rw [if_neg (by omega)]

/-- The array behind a piece of its was laid anew. -/
theorem splice_at {cur : List Value} {off : Nat} {cs : List Value} (h : off + cs.length ≤ cur.length) (i : Nat) :
    (cur.take off ++ (cs ++ cur.drop (off + cs.length)))[i]? = if off ≤ i ∧ i < off + cs.length then cs[i - off]? else cur[i]? := by
  by_cases h1 : i < off
  · rw [List.getElem?_append_left (by simp; omega), List.getElem?_take, if_pos h1, if_neg (by omega)]
  · rw [List.getElem?_append_right (by simp; omega), List.length_take, Nat.min_eq_left (by omega)]
    by_cases h2 : i < off + cs.length
    · rw [List.getElem?_append_left (by omega), if_pos (by omega)]
    · rw [List.getElem?_append_right (by omega), List.getElem?_drop, if_neg (by omega), show off + cs.length + (i - off - cs.length) = i by omega]

theorem StoAt.setRow {w : World} {s fb n f : Nat} {G G' : Nat → Int} {cur : Array Value} (h : StoAt w s fb n G) (hc : w.heap[fb]? = some (.cells cur 79 (0, 0))) (hf : f < n) (hb : Byt G')
    (ho : ∀ i, i < n * 64 → ¬ (f * 64 ≤ i ∧ i < f * 64 + 64) → G' i = G i) :
    StoAt (w.setRow fb (cur.toList.take (f * 64) ++ (bytesL (fr G' f) 64 ++ cur.toList.drop (f * 64 + (bytesL (fr G' f) 64).length))).toArray) s fb n G' := by
  have hne := h.ne
  obtain ⟨hn, h1, ⟨cur', h2, h3, h4⟩, h5⟩ := h
  rw [hc] at h2
  cases h2
  have hlen : (bytesL (fr G' f) 64).length = 64 := by simp [bytesL]
  have hf64 : f * 64 + 64 ≤ n * 64 := by
    have : (f + 1) * 64 ≤ n * 64 := Nat.mul_le_mul_right _ hf
    omega
  refine ⟨hn, (setRow_other w fb s _ hne).trans h1, ⟨_, setRow_heap w fb _ _ _ _ hc, ?_, fun i hi => ?_⟩, hb⟩
  · simp [hlen, h3]; omega
  · rw [← Array.getElem?_toList, List.toList_toArray, splice_at (by rw [hlen]; simp [h3]; omega), hlen]
    by_cases hin : f * 64 ≤ i ∧ i < f * 64 + 64
    · rw [if_pos hin, bytesL_at _ _ _ (by omega)]
      unfold fr
      rw [show f * 64 + (i - f * 64) = i by omega]
    · rw [if_neg hin, Array.getElem?_toList, h4 i hi, ho i hi hin]

theorem Try.byteSize : (Try.prog.info? 5).map (·.size) = some 1 := by kernel_rfl
theorem Try.frameSize : (Try.prog.info? 79).map (·.size) = some 64 := by kernel_rfl

set_option maxHeartbeats 1000000 in
theorem save_in (s fb n f a m : Nat) (v : Int) (G : Nat → Int) (w : World) (h : StoAt w s fb n G) (hf : f < n) (hm : m = 1 ∨ m = 2 ∨ m = 4) (ha : a + m ≤ 64) (h0 : 0 ≤ v) (h1 : v ≤ 4294967295) :
    Calls Try.prog 21 #[.pointer (some ⟨s, 0, none⟩), .int .i64 f, .int .i64 a, .int .i64 m, .int .u32 v] w fun e w' => e = .returned (.int .i64 0) ∧ Upd fb w w' ∧ StoAt w' s fb n (putF G (f * 64 + a) m v) := by
  have c0 := h.cell0
  have hl := h.lt
  have hn1 : ¬ (f : Int) < 0 := by omega
  have hn2 : (f : Int) < n := by omega
  go_enter Try.func21, Try.ntmps21
  go_wp2_with fail
  refine (Calls.lat (may_in _ _ _ _ _ _ h hf)).mono ?_
  rintro e w' ⟨rfl, x, rfl⟩
  go_wp2_with fail
  refine (put_in fb (f * 64) 64 64 a m v _ _ (h.later.bat hf) hm ha (by omega) h0 h1).mono ?_
  rintro e w2 ⟨g, cap, rfl, hle, hcm, hgb, hrow, hb2⟩
  have hs2 := h.later.below hb2
  have hb : Upd fb w w2 := (Upd.of_below (later_below w x)).trans (.of_below hb2)
  rw [putF_fr] at hrow
  generalize hG' : putF G (f * 64 + a) m v = G' at *
  have hby : Byt G' := by rw [← hG']; exact putF_byt h.2.2.2 _ _ _
  have hother : ∀ i, i < n * 64 → ¬ (f * 64 ≤ i ∧ i < f * 64 + 64) → G' i = G i := by
    intro i hi hn
    rw [← hG']
    unfold putF
    rw [if_neg (by omega)]
  have d0 := hs2.cell0
  obtain ⟨cur, hc, hcs, _⟩ := hs2.2.2.1
  have hset := hs2.setRow hc hf hby hother
  have hsrc : ∀ j u, (bytesL (fr G' f) 64)[j]? = some u → w2.cell? ((⟨g, 0, none⟩ : Addr).add j) = some u := by
    intro j u hj
    have hjl : j < 64 := by have := (List.getElem?_eq_some_iff.1 hj).1; rwa [bytesL_length, Nat.mul_one] at this
    rw [bytesL_at _ 64 j hjl] at hj
    cases hj
    rw [add_plain, Nat.zero_add]
    exact hrow.cell hjl
  have hfit : f * 64 + (bytesL (fr G' f) 64).length ≤ cur.size := by
    have : (f + 1) * 64 ≤ n * 64 := Nat.mul_le_mul_right _ hf
    rw [bytesL_length, hcs]; omega
  have hcsl : (bytesL (fr G' f) 64).length = Nat.min 64 64 := by rw [bytesL_length]; rfl
  have h1c := bytesL_one (fr G' f) 64
  have HG := Lib.hid hG'
  clear h hm hG' hother hcs
  generalize bytesL (fr G' f) 64 = cs at *
  rw [show cs.length = 64 from hcsl] at hset
  go_wp2_with (refine wpList_copy_own rfl (.tmp 43) (.tmp 44) 22 22 rfl 5 Try.underlying22 Try.byteSize fb (f * 64) 64 64 ⟨g, 0, none⟩ 64 cap rfl rfl cur 79 hc cs hcsl hsrc hfit h1c ?_)
  go_wp2
  go_ret
  rw [HG.out]
  exact ⟨rfl, hb.trans setRow_upd, hset⟩

theorem save_out (s fb n f : Nat) (a m v : Int) (G : Nat → Int) (w : World) (h : StoAt w s fb n G) (hf : f < n) (hi : ¬ inP 64 a m) (hm : (Lit.int .i64 m).wf = true) :
    Calls Try.prog 21 #[.pointer (some ⟨s, 0, none⟩), .int .i64 f, .int .i64 a, .int .i64 m, .int .u32 v] w fun e w' => e = .returned (.int .i64 1) ∧ Below w.heap.size w w' := by
  have c0 := h.cell0
  have hl := h.lt
  have hn1 : ¬ (f : Int) < 0 := by omega
  have hn2 : (f : Int) < n := by omega
  go_enter Try.func21, Try.ntmps21
  go_wp2_with fail
  refine (Calls.lat (may_in _ _ _ _ _ _ h hf)).mono ?_
  rintro e w' ⟨rfl, x, rfl⟩
  go_wp2_with fail
  refine (Calls.lat (put_out _ _ _ _ _ _ _ _ (h.later.bat hf).src hi (by omega) hm)).mono ?_
  rintro e w' ⟨rfl, x2, rfl⟩
  go_wp2_with fail
  go_ret
  exact ⟨rfl, (by refine (?_ : Bel _ _ _).1; repeat (first | exact hbel | exact Bel.refl _ | apply Bel.later | apply Bel.alloc | apply Bel.drew | (refine Bel.laterB ?_ (by first | exact Nat.le_refl _ | omega | (simp; omega) | simp)) | (refine Bel.setCell ?_ (by first | exact Nat.le_refl _ | omega | (simp; omega) | simp))))⟩
theorem save_bad (p : Option Addr) (f o k v E : Int) (w : World) (h : Bad w p f E) : Calls Try.prog 21 #[.pointer p, .int .i64 f, .int .i64 o, .int .i64 k, .int .u32 v] w fun e w' => e = .returned (.int .i64 E) ∧ Below w.heap.size w w' := by
  obtain ⟨hE, hc⟩ := h
  rcases hE with rfl | rfl
  all_goals
    go_enter Try.func21, Try.ntmps21
    go_wp2_with fail
    refine (Calls.lat (hc _ (Below.refl _ _))).mono ?_
    rintro e w' ⟨rfl, x, rfl⟩
    go_wp2
    go_ret
    exact ⟨rfl, (by refine (?_ : Bel _ _ _).1; repeat (first | exact hbel | exact Bel.refl _ | apply Bel.later | apply Bel.alloc | apply Bel.drew | (refine Bel.laterB ?_ (by first | exact Nat.le_refl _ | omega | (simp; omega) | simp)) | (refine Bel.setCell ?_ (by first | exact Nat.le_refl _ | omega | (simp; omega) | simp))))⟩

end Go.Proofs.Ytgcnmhlojfncpaa
