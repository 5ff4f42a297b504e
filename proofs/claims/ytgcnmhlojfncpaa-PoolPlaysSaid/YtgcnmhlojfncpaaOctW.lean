/- Contracts of octet and of its reference that write; the law package's awake. -/
import Derived.Test.YtgcnmhlojfncpaaOctB
import Derived.Laws.BytesArg
namespace Go.Proofs.Ytgcnmhlojfncpaa
open Go.ChangeShapes Go.WideShapes Go.ChangeAt Go.RowKit
set_option linter.unusedVariables false

/-- A block of bytes of the call's own, of which the first n are these. -/
def RowAt (w : World) (g n : Nat) (f : Nat → Int) : Prop := ∃ cur : Array Value, w.heap[g]? = some (.cells cur 5 (0, 0)) ∧ (∀ i, i < n → cur[i]? = some (.int .u8 (f i))) ∧ Byt f
theorem RowAt.lt {w : World} {g n : Nat} {f : Nat → Int} (h : RowAt w g n f) : g < w.heap.size := let ⟨_, h, _⟩ := h; lt_heap h
theorem RowAt.cell {w : World} {g n : Nat} {f : Nat → Int} (h : RowAt w g n f) {i : Nat} (hi : i < n) : w.cell? ⟨g, i, none⟩ = some (.int .u8 (f i)) := by
  obtain ⟨cur, hg, hc, _⟩ := h
  rw [show w.cell? ⟨g, i, none⟩ = cur[i]? by simp [World.cell?, hg]]
  exact hc i hi
theorem RowAt.frozen {w : World} {g n : Nat} {f : Nat → Int} (h : RowAt w g n f) (i : Nat) : w.frozen? ⟨g, i, none⟩ = false := by
  obtain ⟨cur, hg, hc, _⟩ := h
  simp [World.frozen?, hg]
theorem RowAt.bat {w : World} {g n : Nat} {f : Nat → Int} (h : RowAt w g n f) : BAt w g 0 n f := ⟨h.lt, fun i hi => by rw [Nat.zero_add]; exact h.cell hi, let ⟨_, _, _, hf⟩ := h; hf⟩
theorem RowAt.below {w w' : World} {g n : Nat} {f : Nat → Int} (h : RowAt w g n f) (hb : Below w.heap.size w w') : RowAt w' g n f :=
  let ⟨cur, hg, hc⟩ := h; ⟨cur, (hb.block g (lt_heap hg)).trans hg, hc⟩
theorem RowAt.set {w : World} {g n : Nat} {f : Nat → Int} (h : RowAt w g n f) {k : Nat} (hk : k < n) (x : Int) (h0 : 0 ≤ x) (h1 : x ≤ 255) : RowAt (w.setCell ⟨g, k, none⟩ (.int .u8 x)) g n (fun i => if i = k then x else f i) := by
  obtain ⟨cur, hg, hc, hf⟩ := h
  have hks : k < cur.size := (Array.getElem?_eq_some_iff.1 (hc k hk)).1
  refine ⟨cur.setIfInBounds k (.int .u8 x), heap_setCell_at hg, fun i hi => ?_, fun i => ?_⟩
  · by_cases e : i = k
    · subst e; simp [hks]
    · simp only [if_neg e]; rw [Array.getElem?_setIfInBounds_ne (fun h => e h.symm)]; exact hc i hi
  · dsimp only
    split
    · exact ⟨h0, h1⟩
    · exact hf i

def bytesL (f : Nat → Int) (n : Nat) : List Value := (List.range n).map fun i => .int .u8 (f i)
theorem bytesL_length (f : Nat → Int) (n : Nat) : (bytesL f n).length = n * 1 := by simp [bytesL]
theorem bytesL_at (f : Nat → Int) (n i : Nat) (h : i < n) : (bytesL f n)[i]? = some (.int .u8 (f i)) := by simp [bytesL, h]
theorem bytesL_one (f : Nat → Int) (n : Nat) : ∀ u ∈ bytesL f n, u.oneCell' = true := by
  intro u hu
  simp only [bytesL, List.mem_map] at hu
  obtain ⟨i, _, rfl⟩ := hu
  rfl
theorem row_of_owned {w : World} {B n : Nat} {v : Value} {f : Nat → Int} (h : w.ownsRow B 5 1 v n (bytesL f n)) (hf : Byt f) :
    (∃ q c, v = .slice q n c) ∧ (1 ≤ n → ∃ g cap, v = .slice (some ⟨g, 0, none⟩) n cap ∧ n ≤ cap ∧ cap ≤ maxLen ∧ B ≤ g ∧ RowAt w g n f) := by
  rcases h.2 with ⟨rfl, rfl⟩ | ⟨g, cap, cur, rfl, hb, hg, hle, hm, hs, ht⟩
  · exact ⟨⟨none, 0, rfl⟩, fun h => absurd h (by omega)⟩
  · refine ⟨⟨_, cap, rfl⟩, fun _ => ⟨g, cap, rfl, hle, hm, hb, cur, hg, fun i hi => ?_, hf⟩⟩
    have f1 := bytesL_at f n i hi
    rw [← ht, List.getElem?_take, if_pos (by omega)] at f1
    rw [← Array.getElem?_toList]
    exact f1

/-- Bytes as a parameter, or another list, has them. -/
def SrcAt (w : World) (p : Option Addr) (n : Nat) (f : Nat → Int) : Prop := (p = none → n = 0) ∧ Byt f ∧ (1 ≤ n → ∃ b o, p = some ⟨b, o, none⟩ ∧ BAt w b o n f)
theorem SrcAt.below {w w' : World} {p : Option Addr} {n : Nat} {f : Nat → Int} (h : SrcAt w p n f) (hb : Below w.heap.size w w') : SrcAt w' p n f :=
  ⟨h.1, h.2.1, fun hn => let ⟨b, o, hp, hx⟩ := h.2.2 hn; ⟨b, o, hp, hx.below hb⟩⟩
theorem BAt.src {w : World} {b o n : Nat} {f : Nat → Int} (h : BAt w b o n f) : SrcAt w (some ⟨b, o, none⟩) n f := ⟨(fun h => by cases h), h.2.2, fun _ => ⟨b, o, rfl, h⟩⟩

theorem Try.infoByte : (Try.prog.info? 5).map (fun i => (i.zero, i.size, i.bytes)) = some (some (.int .u8 0), 1, 1) := by kernel_rfl

set_option maxHeartbeats 400000 in
theorem clone_any (p : Option Addr) (n c : Nat) (f : Nat → Int) (w : World) (h : SrcAt w p n f) (hn : n ≤ 140737488355328) :
    Calls Try.prog 43 #[.slice p n c] w fun e w' => ∃ v, e = .returned v ∧ Below w.heap.size w w' ∧ (∃ q c', v = .slice q n c') ∧ (1 ≤ n → ∃ g cap, v = .slice (some ⟨g, 0, none⟩) n cap ∧ n ≤ cap ∧ cap ≤ maxLen ∧ w.heap.size ≤ g ∧ RowAt w' g n f) := by
  obtain ⟨i0, hi, hz0, hz1, hz2⟩ := info_parts Try.infoByte
  have hnil := fun (wx : World) => Lib.run_eql_slice_nil (P := Try.prog) wx 22
  obtain ⟨hp, hf, hx⟩ := h
  cases p with
  | none =>
    have H0 := Lib.hid (hp rfl)
    clear hp hx hn
    go_enter Try.func43, Try.ntmps43
    go_wp2
    go_ret
    exact ⟨_, rfl, Below.refl _ _, ⟨none, 0, by rw [H0.out]; rfl⟩, fun h => absurd h (by rw [H0.out]; omega)⟩
  | some ad =>
    have hnews : ∀ j u, (bytesL f n)[j]? = some u → w.cell? (ad.add j) = some u := by
      intro j u hj
      have hjl : j < n := by have := (List.getElem?_eq_some_iff.1 hj).1; rwa [bytesL_length, Nat.mul_one] at this
      obtain ⟨b, o, he, hb⟩ := hx (by omega)
      cases he
      rw [bytesL_at f n j hjl] at hj
      cases hj
      rw [add_plain]
      exact hb.2.1 j hjl
    have hnews' : ∀ (ob : Obj) j u, (bytesL f n)[j]? = some u → (w.alloc ob).cell? (ad.add j) = some u := by
      intro ob j u hj
      have hjl : j < n := by have := (List.getElem?_eq_some_iff.1 hj).1; rwa [bytesL_length, Nat.mul_one] at this
      obtain ⟨b, o, he, hb⟩ := hx (by omega)
      cases he
      rw [bytesL_at f n j hjl] at hj
      cases hj
      rw [add_plain]
      exact hb.alloc.2.1 j hjl
    clear hx hp
    go_enter Try.func43, Try.ntmps43
    go_wp2_with (at_builtin; refine wpList_append_own _ rfl (.tmp 5) (.tmp 6) 22 rfl w.heap.size 5 i0 (.int .u8 0) 1 1 Try.underlying22 hi hz0 hz1 hz2 rfl (by decide) _ 0 [] rfl (World.ownsRow_made w #[] 0 (Nat.le_refl _) (Nat.zero_le _) rfl) ad n c (bytesL f n) rfl (bytesL_length f n) ?c1 (bytesL_one f n) ?c3 ?c4 (by simp) ?_)
    case c1 => first | exact hnews | exact hnews' _
    case c3 => unfold maxLen; omega
    case c4 => omega
    intro v' w1 hown hgrow _
    have ho := row_of_owned (n := n) (f := f) (by simpa using hown) hf
    have hb1 : Below w.heap.size w w1 := (Bel.upd (Bel.refl w).alloc (show Upd w.heap.size _ _ from hgrow) (Nat.le_refl _)).1
    go_wp2
    go_ret
    exact ⟨v', rfl, hb1, ho.1, ho.2⟩

set_option maxHeartbeats 1000000 in
theorem spread_any (g n a m : Nat) (v : Int) (f : Nat → Int) (w : World) (h : RowAt w g n f) (hm : m ≤ 4) (ha : a + m ≤ n) (h0 : 0 ≤ v) (h1 : v ≤ 4294967295) :
    Calls Try.prog 45 #[.slice (some ⟨g, a, none⟩) m m, .int .u32 v] w fun e w' => (∃ x, e = .returned x) ∧ Upd g w w' ∧ RowAt w' g n (putF f a m v) := by
  go_enter Try.func45, Try.ntmps45
  go_wp2
  go_loopw [7] (fun i wr => ∃ k : Nat, k ≤ m ∧ i = .int .i64 k ∧ Upd g w wr ∧ RowAt wr g n (putF f a k v)) (fun i _ => m - (intOf i).toNat)
  case atStart => exact ⟨0, Nat.zero_le _, rfl, Upd.refl _ _, by rw [putF_zero]; exact h⟩
  case round =>
    obtain ⟨k, hk, rfl, hu, hr⟩ := hrel
    by_cases hlt : k < m
    · have cx := hr.cell (i := a + k) (by omega)
      have cf := hr.frozen (a + k)
      have hset := hr.set (k := a + k) (by omega) (v / (256 : Int) ^ k % 256) (by omega) (by omega)
      rw [← putF_succ] at hset
      have H := Lib.hid hset
      clear hset hr h
      have hk4 : k = 0 ∨ k = 1 ∨ k = 2 ∨ k = 3 := by omega
      rcases hk4 with rfl | rfl | rfl | rfl
      · simp only [Nat.add_zero] at cx cf
        go_wp2
        go_roundw
        case rel => exact ⟨1, by omega, rfl, Upd.setCell hu, by simpa using H.out⟩
        case measure => simp [intOf]; omega
      · go_wp2
        go_roundw
        case rel => exact ⟨2, by omega, rfl, Upd.setCell hu, by simpa using H.out⟩
        case measure => simp [intOf]; omega
      · go_wp2
        go_roundw
        case rel => exact ⟨3, by omega, rfl, Upd.setCell hu, by simpa using H.out⟩
        case measure => simp [intOf]; omega
      · go_wp2
        go_roundw
        case rel =>
          have e : v / 16777216 % 256 = v / 16777216 := by omega
          have h := H.out
          simp [e] at h
          exact ⟨4, by omega, rfl, Upd.setCell hu, by simpa using h⟩
        case measure => simp [intOf]; omega
    · obtain rfl : k = m := by omega
      go_wp2
      go_end0
      exact ⟨⟨_, rfl⟩, hu, hr⟩

theorem put_in (b o n c a m : Nat) (v : Int) (f : Nat → Int) (w : World) (h : BAt w b o n f) (hm : m = 1 ∨ m = 2 ∨ m = 4) (ha : a + m ≤ n) (hn : n ≤ 140737488355328) (h0 : 0 ≤ v) (h1 : v ≤ 4294967295) :
    Calls Try.prog 37 #[.slice (some ⟨b, o, none⟩) n c, .int .i64 a, .int .i64 m, .int .u32 v] w fun e w' => ∃ g cap, e = .returned (.tuple #[.slice (some ⟨g, 0, none⟩) n cap, .int .i64 0]) ∧ n ≤ cap ∧ cap ≤ maxLen ∧ w.heap.size ≤ g ∧ RowAt w' g n (putF f a m v) ∧ Below w.heap.size w w' := by
  go_enter Try.func37, Try.ntmps37
  go_wp2_with fail
  refine (clone_any _ n c f _ h.src hn).mono ?_
  rintro e w1 ⟨v1, rfl, hb1, _, hg⟩
  obtain ⟨g, cap, rfl, hle, hcm, hgb, hrow⟩ := hg (by omega)
  go_wp2_with fail
  refine (window_in g 0 n cap a m _ hm ha hle hn).mono ?_
  rintro e w' ⟨rfl, rfl⟩
  go_wp2_with fail
  refine (spread_any g n a m v f _ hrow (by omega) ha h0 h1).mono ?_
  rintro e w2 ⟨⟨x, rfl⟩, hu, hr2⟩
  go_wp2_with fail
  go_ret2
  exact ⟨g, cap, rfl, hle, hcm, hgb, hr2, (Bel.upd (Bel.of (Bel.refl w) hb1) hu hgb).1⟩

theorem put_out (p : Option Addr) (n c : Nat) (a m v : Int) (f : Nat → Int) (w : World) (hs : SrcAt w p n f) (h : ¬ inP n a m) (hn : n ≤ 140737488355328) (hm : (Lit.int .i64 m).wf = true) :
    Calls Try.prog 37 #[.slice p n c, .int .i64 a, .int .i64 m, .int .u32 v] w fun e w' => e = .returned (.tuple #[.slice none 0 0, .int .i64 1]) ∧ Below w.heap.size w w' := by
  go_enter Try.func37, Try.ntmps37
  go_wp2_with fail
  refine (clone_any _ n c f _ hs hn).mono ?_
  rintro e w1 ⟨v1, rfl, hb1, ⟨q, c', rfl⟩, _⟩
  go_wp2_with fail
  refine (window_out _ _ _ _ _ _ h hn hm).mono ?_
  rintro e w' ⟨rfl, rfl⟩
  go_wp2_with fail
  go_ret2
  exact ⟨rfl, hb1⟩

end Go.Proofs.Ytgcnmhlojfncpaa
