/- Rings of one way: plain laws of what is sent and received; contracts at any frame; made, awake. -/
import Derived.Test.YtoigfpepdfbnkaaOwyR
namespace Go.Proofs.Ytoigfpepdfbnkaa
open Go.ChangeShapes Go.WideShapes Go.ChangeAt Go.RowKit
set_option linter.unusedVariables false

theorem getV_congr {f g : Nat → Int} {a : Nat} : ∀ {m : Nat}, (∀ i, a ≤ i → i < a + m → f i = g i) → getV f a m = getV g a m
  | 0, _ => rfl
  | m + 1, h => by rw [getV_succ, getV_succ, getV_congr (fun i h1 h2 => h i h1 (by omega)), h (a + m) (by omega) (by omega)]
theorem putF_at {f : Nat → Int} {a m i : Nat} {v : Int} (h : i < a ∨ a + m ≤ i) : putF f a m v i = f i := by
  unfold putF
  rw [if_neg (by omega)]
theorem fr_put (G : Nat → Int) (F a m : Nat) (v : Int) : fr (putF G (F * 64 + a) m v) F = putF (fr G F) a m v := (putF_fr G F a m v).symm

theorem hd_send {G : Nat → Int} (hG : Byt G) (F : Nat) (v : Int) : hd (sendG G F v) F = (hd G F + 1) % 4294967296 := by
  show getV (fr (sendG G F v) F) 0 4 = _
  unfold sendG
  rw [fr_put]
  exact get_put4 _ 0 _ (by omega) (by omega)
theorem wd_send {G : Nat → Int} (F : Nat) (v j : Int) (h0 : 0 ≤ v) (h1 : v ≤ 4294967295) : wdI (sendG G F v) F j = if plN j = plN (hd G F) then v else wdI G F j := by
  unfold wdI sendG
  rw [fr_put, fr_put]
  have hp : 4 ≤ plN j := by unfold plN; omega
  rw [getV_congr (f := putF (putF (fr G F) (plN (hd G F)) 4 v) 0 4 ((hd G F + 1) % 4294967296)) (g := putF (fr G F) (plN (hd G F)) 4 v) (fun i h1 h2 => putF_at (by omega))]
  by_cases e : plN j = plN (hd G F)
  · rw [if_pos e, e]
    exact get_put4 _ _ v h0 (by omega)
  · rw [if_neg e]
    refine getV_congr (fun i h1 h2 => putF_at ?_)
    unfold plN at *
    omega
theorem byt_sendG {G : Nat → Int} (h : Byt G) (F : Nat) (v : Int) : Byt (sendG G F v) := byt_putF (byt_putF h _ _ _) _ _ _

/-- The frames that 'made' makes. -/
def mkG (L : Nat → Int) : Nat → Nat → Int
  | 0 => fun _ => 0
  | k + 1 => putF (mkG L k) (0 * 64 + 4 * k) 4 (L k)
theorem mkG_succ (L : Nat → Int) (k : Nat) : mkG L (k + 1) = putF (mkG L k) (0 * 64 + 4 * k) 4 (L k) := rfl
theorem mkG_zero (L : Nat → Int) : mkG L 0 = fun _ => 0 := rfl
theorem mkG_byt (L : Nat → Int) : ∀ k, Byt (mkG L k)
  | 0 => fun _ => by simp [mkG]
  | k + 1 => byt_putF (mkG_byt L k) _ _ _
theorem mkG_hd0 (L : Nat → Int) : hd (mkG L 0) 0 = 0 := rfl
theorem mkG_hd {L : Nat → Int} (h0 : 0 ≤ L 0) (h1 : L 0 ≤ 4294967295) : ∀ k, hd (mkG L (k + 1)) 0 = L 0
  | 0 => by
    unfold hd
    rw [mkG_succ, fr_put]
    exact get_put4 _ 0 _ h0 (by omega)
  | k + 1 => by
    have ih := mkG_hd h0 h1 k
    unfold hd at *
    rw [mkG_succ, fr_put, ← ih]
    exact getV_congr fun i h1 h2 => putF_at (by omega)

/-- What is told, at any frame. -/
def snG (n : Nat) (G : Nat → Int) (f v : Int) : Nat → Int := if fin n f then sendG G f.toNat v else G
def hdV (n : Nat) (G : Nat → Int) (f : Int) : Int := if fin n f then hd G f.toNat else 0
def rcV (n : Nat) (G : Nat → Int) (f next : Int) : Value := if fin n f then gotV G f.toNat next else .agg #[.int .u32 0, .int .u32 0, .int .u32 0, .bool false]

theorem gotV_agg (G : Nat → Int) (F : Nat) (next : Int) : ∃ (a b c : Int) (d : Bool), gotV G F next = .agg #[.int .u32 a, .int .u32 b, .int .u32 c, .bool d] := by
  unfold gotV
  split
  · exact ⟨_, _, _, _, rfl⟩
  · exact ⟨_, _, _, _, rfl⟩
theorem rcV_agg (n : Nat) (G : Nat → Int) (f next : Int) : ∃ (a b c : Int) (d : Bool), rcV n G f next = .agg #[.int .u32 a, .int .u32 b, .int .u32 c, .bool d] := by
  unfold rcV
  split
  · exact gotV_agg _ _ _
  · exact ⟨_, _, _, _, rfl⟩

theorem send_any (s fb n : Nat) (f v : Int) (G : Nat → Int) (w : World) (h : StoAt w s fb n G) (h0 : 0 ≤ v) (h1 : v ≤ 4294967295) :
    Calls Try.prog 28 #[.pointer (some ⟨s, 0, none⟩), .int .i64 f, .int .u32 v] w fun e w' => e = .returned (.int .i64 (clE n f)) ∧ Upd fb w w' ∧ StoAt w' s fb n (snG n G f v) := by
  by_cases hf : fin n f
  · obtain ⟨F, rfl, hlt⟩ := hf.nat
    refine (send_in s fb n F v G w h hlt h0 h1).mono ?_
    rintro e w' ⟨rfl, hu, hs⟩
    exact ⟨by rw [clE, if_pos hf], hu, by rw [snG, if_pos hf]; exact hs⟩
  · refine (send_bad _ f v 1 w (h.bad (fin.out hf))).mono ?_
    rintro e w' ⟨rfl, hb⟩
    exact ⟨by rw [clE, if_neg hf], .of_below hb, by rw [snG, if_neg hf]; exact h.below hb⟩
theorem head_any (s fb n : Nat) (f : Int) (G : Nat → Int) (w : World) (h : StoAt w s fb n G) :
    Calls Try.prog 31 #[.pointer (some ⟨s, 0, none⟩), .int .i64 f] w fun e w' => e = .returned (.tuple #[.int .u32 (hdV n G f), .int .i64 (clE n f)]) ∧ Below w.heap.size w w' := by
  by_cases hf : fin n f
  · obtain ⟨F, rfl, hlt⟩ := hf.nat
    refine (head_in s fb n F G w h hlt).mono ?_
    rintro e w' ⟨rfl, hb⟩
    exact ⟨by rw [clE, hdV, if_pos hf, if_pos hf]; rfl, hb⟩
  · refine (head_bad _ f 1 w (h.bad (fin.out hf))).mono ?_
    rintro e w' ⟨rfl, hb⟩
    exact ⟨by rw [clE, hdV, if_neg hf, if_neg hf], hb⟩
theorem recv_any (s fb n : Nat) (f next : Int) (G : Nat → Int) (w : World) (h : StoAt w s fb n G) (h0 : 0 ≤ next) (h1 : next ≤ 4294967295) :
    Calls Try.prog 29 #[.pointer (some ⟨s, 0, none⟩), .int .i64 f, .int .u32 next] w fun e w' => e = .returned (.tuple #[rcV n G f next, .int .i64 (clE n f)]) ∧ Below w.heap.size w w' := by
  by_cases hf : fin n f
  · obtain ⟨F, rfl, hlt⟩ := hf.nat
    refine (recv_in s fb n F next G w h hlt h0 h1).mono ?_
    rintro e w' ⟨rfl, hb⟩
    exact ⟨by rw [clE, rcV, if_pos hf, if_pos hf]; rfl, hb⟩
  · refine (recv_bad _ f next 1 w (h.bad (fin.out hf))).mono ?_
    rintro e w' ⟨rfl, hb⟩
    exact ⟨by rw [clE, rcV, if_neg hf, if_neg hf], hb⟩

theorem rhead_no (t rb n : Nat) (f : Int) (G : Nat → Int) (w : World) (h : RStoAt w t rb n G) (hw : (Lit.int .i64 f).wf = true) (hf : f < 0 ∨ (n : Int) ≤ f) :
    Calls Try.prog 34 #[.pointer (some ⟨t, 0, none⟩), .int .i64 f] w fun e w' => e = .returned (.tuple #[.int .u32 0, .int .i64 1]) ∧ w = w' := by
  go_enter Try.func34, Try.ntmps34
  go_wp2_with fail
  refine (rload_no t rb n f 0 4 G _ h hw hf).mono ?_
  rintro e w' ⟨rfl, rfl⟩
  go_wp2
  go_ret2
  exact ⟨rfl, rfl⟩
theorem rhead_any (t rb n : Nat) (f : Int) (G : Nat → Int) (w : World) (h : RStoAt w t rb n G) (hw : (Lit.int .i64 f).wf = true) :
    Calls Try.prog 34 #[.pointer (some ⟨t, 0, none⟩), .int .i64 f] w fun e w' => e = .returned (.tuple #[.int .u32 (hdV n G f), .int .i64 (clE n f)]) ∧ w = w' := by
  by_cases hf : fin n f
  · obtain ⟨F, rfl, hlt⟩ := hf.nat
    refine (rhead_in t rb n F G w h hlt).mono ?_
    rintro e w' ⟨rfl, hb⟩
    exact ⟨by rw [clE, hdV, if_pos hf, if_pos hf]; rfl, hb⟩
  · refine (rhead_no t rb n f G w h hw (fin.out hf)).mono ?_
    rintro e w' ⟨rfl, hb⟩
    exact ⟨by rw [clE, hdV, if_neg hf, if_neg hf], hb⟩
theorem rsend_any (t rb n : Nat) (f v : Int) (G : Nat → Int) (w : World) (h : RStoAt w t rb n G) (hw : (Lit.int .i64 f).wf = true) (h0 : 0 ≤ v) (h1 : v ≤ 4294967295) :
    Calls Try.prog 32 #[.pointer (some ⟨t, 0, none⟩), .int .i64 f, .int .u32 v] w fun e w' => e = .returned (.int .i64 (clE n f)) ∧ Upd rb w w' ∧ RStoAt w' t rb n (snG n G f v) := by
  by_cases hf : fin n f
  · obtain ⟨F, rfl, hlt⟩ := hf.nat
    refine (rsend_in t rb n F v G w h hlt h0 h1).mono ?_
    rintro e w' ⟨rfl, hu, hs⟩
    exact ⟨by rw [clE, if_pos hf], hu, by rw [snG, if_pos hf]; exact hs⟩
  · rw [clE, if_neg hf, snG, if_neg hf]
    clear h0 h1
    go_enter Try.func32, Try.ntmps32
    go_wp2_with fail
    refine (rhead_no t rb n f G _ h hw (fin.out hf)).mono ?_
    rintro e w' ⟨rfl, rfl⟩
    go_wp2
    go_ret
    exact ⟨rfl, Upd.refl _ _, h⟩
theorem rrecv_any (t rb n : Nat) (f next : Int) (G : Nat → Int) (w : World) (h : RStoAt w t rb n G) (hw : (Lit.int .i64 f).wf = true) (h0 : 0 ≤ next) (h1 : next ≤ 4294967295) :
    Calls Try.prog 33 #[.pointer (some ⟨t, 0, none⟩), .int .i64 f, .int .u32 next] w fun e w' => e = .returned (.tuple #[rcV n G f next, .int .i64 (clE n f)]) ∧ Below w.heap.size w w' := by
  by_cases hf : fin n f
  · obtain ⟨F, rfl, hlt⟩ := hf.nat
    refine (rrecv_in t rb n F next G w h hlt h0 h1).mono ?_
    rintro e w' ⟨rfl, hb⟩
    exact ⟨by rw [clE, rcV, if_pos hf, if_pos hf]; rfl, hb⟩
  · rw [clE, if_neg hf, rcV, if_neg hf]
    clear h0 h1
    go_enter Try.func33, Try.ntmps33
    go_wp2_with fail
    refine (rhead_no t rb n f G _ h.alloc hw (fin.out hf)).mono ?_
    rintro e w' ⟨rfl, rfl⟩
    go_wp2
    exact bodyPost_ret (v := .tuple #[.agg #[.int .u32 0, .int .u32 0, .int .u32 0, .bool false], .int .i64 1]) (by simp [results, Try.results33, go_sem]) rfl ⟨rfl, (by refine (?_ : Bel _ _ _).1; repeat (first | exact hbel | exact Bel.refl _ | apply Bel.later | apply Bel.alloc | apply Bel.drew | (refine Bel.laterB ?_ (by first | exact Nat.le_refl _ | omega | (simp; omega) | simp)) | (refine Bel.setCell ?_ (by first | exact Nat.le_refl _ | omega | (simp; omega) | simp))))⟩

/-- Words as a parameter has them. -/
def USrc (w : World) (p : Option Addr) (n : Nat) (L : Nat → Int) : Prop := (∀ i, i < n → 0 ≤ L i ∧ L i ≤ 4294967295) ∧ (1 ≤ n → ∃ b o, p = some ⟨b, o, none⟩ ∧ b < w.heap.size ∧ ∀ i, i < n → w.cell? ⟨b, o + i, none⟩ = some (.int .u32 (L i)))
theorem USrc.below {w w' : World} {p : Option Addr} {n : Nat} {L : Nat → Int} (h : USrc w p n L) (hb : Below w.heap.size w w') : USrc w' p n L :=
  ⟨h.1, fun hn => let ⟨b, o, hp, hx, hc⟩ := h.2 hn; ⟨b, o, hp, Nat.lt_of_lt_of_le hx hb.size, fun i hi => (hb.cell (p := ⟨b, o + i, none⟩) hx).trans (hc i hi)⟩⟩
theorem USrc.of_ok {w : World} {p : Option Addr} {n c : Nat} {f0 : Nat → List Value} (h : SliceOk [some .u32] w p n c f0) : ∃ L, USrc w p n L := by
  by_cases hn : 1 ≤ n
  · obtain ⟨b, o, _, rfl, hb, _⟩ := h.int1 (i := 0) (by omega)
    obtain ⟨f, hf⟩ := Deep.choose_lt (α := Int) (n := n) (p := fun i x => (0 ≤ x ∧ x ≤ 4294967295) ∧ w.cell? ⟨b, o + i, none⟩ = some (.int .u32 x)) (fun i hi => by
      obtain ⟨b', o', x, ha, _, _, hw, hc⟩ := h.int1 hi
      simp only [Option.some.injEq, Addr.mk.injEq, and_true] at ha
      obtain ⟨rfl, rfl⟩ := ha
      exact ⟨x, bounds_u32 hw, hc⟩)
    exact ⟨f, fun i hi => (hf i hi).1, fun _ => ⟨b, o, rfl, hb, fun i hi => (hf i hi).2⟩⟩
  · exact ⟨fun _ => 0, fun i hi => absurd hi (by omega), fun h => absurd h hn⟩

set_option maxHeartbeats 1000000 in
theorem made_any (p : Option Addr) (n c : Nat) (L : Nat → Int) (w : World) (h : USrc w p n L) :
    Calls Try.prog 27 #[.slice p n c] w fun e w' => ∃ s fb t rb, e = .returned (.tuple #[.pointer (some ⟨s, 0, none⟩), .pointer (some ⟨t, 0, none⟩)]) ∧
      w.heap.size ≤ s ∧ w.heap.size ≤ fb ∧ w.heap.size ≤ t ∧ w.heap.size ≤ rb ∧ s ≠ rb ∧ fb ≠ rb ∧ StoAt w' s fb 2 (mkG L (min n 16)) ∧ RStoAt w' t rb 2 (mkG L (min n 16)) ∧ Below w.heap.size w w' := by
  go_enter Try.func27, Try.ntmps27
  go_wp2_with fail
  refine (fnew_full 2 _ (by omega)).mono ?_
  rintro e wa ⟨s, fb, rfl, hs, hfb, hst, hba⟩
  have hbela : Bel w.heap.size w wa := Bel.of (Bel.refl w) hba
  go_wp2_with fail
  refine (rnew_full 2 _ (by omega)).mono ?_
  rintro e wb ⟨t, rb, rfl, ht, hrb, hrst, hbb⟩
  have hbelb : Bel w.heap.size w wb := Bel.of hbela hbb
  have hn1 : s ≠ rb := by have := hst.lt; omega
  have hn2 : fb ≠ rb := by have := hst.ltb; omega
  replace hst := hst.below hbb
  replace hrb : w.heap.size ≤ rb := Nat.le_trans hbela.2 hrb
  replace ht : w.heap.size ≤ t := Nat.le_trans hbela.2 ht
  rw [← mkG_zero L] at hst hrst
  clear hba hbb hbela
  go_wp2_with fail
  go_loopw [8] (fun iv wr => ∃ k : Nat, k ≤ min n 16 ∧ iv = .int .i64 k ∧ Bel w.heap.size w wr ∧ StoAt wr s fb 2 (mkG L k) ∧ RStoAt wr t rb 2 (mkG L k)) (fun iv _ => 16 - (intOf iv).toNat)
  case atStart => exact ⟨0, Nat.zero_le _, rfl, hbelb, hst, hrst⟩
  case round =>
    clear hst hrst hbelb
    obtain ⟨k, hk, rfl, hbel, hst, hrst⟩ := hrel
    by_cases hall : k < n ∧ k < 16
    · obtain ⟨hkn, hk16⟩ := hall
      have hLb := h.1 k hkn
      obtain ⟨hL0, hL1⟩ := hLb
      obtain ⟨b, o, rfl, hb, hc⟩ := h.2 (by omega)
      have q := hc k hkn
      have r := (hbel.1.cell (p := ⟨b, o + k, none⟩) hb).trans q
      have hs1 := mkG_succ L k
      clear h hc hk
      obtain ⟨x, hx⟩ : ∃ x, L k = x := ⟨_, rfl⟩
      rw [hx] at r hL0 hL1 hs1 q
      have HS := Lib.hid hs1
      have HX := Lib.hid hx
      clear hs1 hx
      obtain ⟨G, hG⟩ : ∃ G, mkG L k = G := ⟨_, rfl⟩
      rw [hG] at hst hrst
      have HG := Lib.hid hG
      clear hG
      go_wp2_with fail
      refine (save_in s fb 2 0 (4 * k) 4 x G _ hst (by omega) (by omega) (by omega) hL0 hL1).mono ?_
      rintro e w2 ⟨rfl, hu, hst2⟩
      have hrst2 : RStoAt w2 t rb 2 G := by
        obtain ⟨_, _, ⟨cur, hcc, _⟩, _⟩ := hst
        exact hrst.upd hu hcc (by decide) (by decide) (by decide)
      have r2 := (hu.block b (Nat.lt_of_lt_of_le hb hbel.2) (by rintro ⟨⟩; omega))
      have r3 : w2.cell? ⟨b, o + k, none⟩ = some (.int .u32 x) := (World.cell?_of_block (w := wr) r2).trans r
      have hbel2 := hbel.upd hu hfb
      clear r2 hst hrst hu r q
      go_wp2_with fail
      refine (rsave_in t rb 2 0 (4 * k) 4 x G _ hrst2 (by omega) (by omega) (by omega) hL0 hL1).mono ?_
      rintro e w3 ⟨rfl, hu3, hrst3⟩
      have hst3 := hst2.upd hu3 hn1 hn2
      have hbel3 := hbel2.upd hu3 hrb
      go_wp2
      go_roundw
      case rel => exact ⟨k + 1, by omega, by go_num, hbel3, by rw [HS.out, HG.out]; exact hst3, by rw [HS.out, HG.out]; exact hrst3⟩
      case measure => simp [intOf]; omega
    · have hkm : k = min n 16 := by omega
      have hcase : ¬ k < n ∨ (k < n ∧ ¬ k < 16) := by omega
      rw [hkm] at hst hrst
      clear h hk hall
      rcases hcase with hc | ⟨hc, hc'⟩
      all_goals
        clear hkm
        go_wp2
        go_ret2
        exact ⟨s, fb, t, rb, rfl, hs, hfb, ht, hrb, hn1, hn2, hst, hrst, hbel.1⟩

end Go.Proofs.Ytoigfpepdfbnkaa
