/- The reference of law 28: Next, Take, Waits. -/
import Derived.Test.YtddngfhiaolkeaaR28
namespace Go.Proofs.Ytddngfhiaolkeaa
open Go.ChangeShapes Go.WideShapes Go.ChangeAt Go.RowKit
set_option linter.unusedVariables false

/-- The most urgent of the first j that is not masked; -1: there is none. -/
def bestV (mk : Nat → Bool) (pr : Nat → Int) (q : List Nat) : Nat → Int
  | 0 => -1
  | j + 1 => if mk (atL q j) = false ∧ (bestV mk pr q j < 0 ∨ pr (bestV mk pr q j).toNat < pr (atL q j)) then ((atL q j : Nat) : Int) else bestV mk pr q j
section
variable (mk : Nat → Bool) (pr : Nat → Int) (q : List Nat)
theorem bestV_spec : ∀ j, (bestV mk pr q j = -1 ∧ ∀ i, i < j → mk (atL q i) = true) ∨ ∃ k, k < j ∧ bestV mk pr q j = (atL q k : Nat) ∧ mk (atL q k) = false ∧ (∀ i, i < j → mk (atL q i) = false → pr (atL q i) ≤ pr (atL q k)) ∧ ∀ i, i < k → mk (atL q i) = false → pr (atL q i) < pr (atL q k)
  | 0 => .inl ⟨rfl, fun i hi => by omega⟩
  | j + 1 => by
    rcases bestV_spec j with ⟨he, ha⟩ | ⟨k, hk, he, hm, h1, h2⟩
    · cases hc : mk (atL q j)
      · refine .inr ⟨j, by omega, ?_, hc, fun i hi hi2 => ?_, fun i hi hi2 => ?_⟩
        · rw [bestV, if_pos ⟨hc, .inl (by rw [he]; omega)⟩]
        · rcases Nat.lt_succ_iff_lt_or_eq.1 hi with h | rfl
          · rw [ha i h] at hi2; cases hi2
          · exact Int.le_refl _
        · rw [ha i hi] at hi2; cases hi2
      · refine .inl ⟨?_, fun i hi => ?_⟩
        · rw [bestV, if_neg (fun h => by rw [hc] at h; exact Bool.noConfusion h.1), he]
        · rcases Nat.lt_succ_iff_lt_or_eq.1 hi with h | rfl
          · exact ha i h
          · exact hc
    · have hn : ¬ ((atL q k : Nat) : Int) < 0 := by omega
      by_cases hc : mk (atL q j) = false ∧ pr (atL q k) < pr (atL q j)
      · refine .inr ⟨j, by omega, ?_, hc.1, fun i hi hi2 => ?_, fun i hi hi2 => ?_⟩
        · rw [bestV, he, if_pos ⟨hc.1, .inr (by simpa using hc.2)⟩]
        · rcases Nat.lt_succ_iff_lt_or_eq.1 hi with h | rfl
          · have := h1 i h hi2; omega
          · exact Int.le_refl _
        · have := h1 i hi hi2; omega
      · refine .inr ⟨k, by omega, ?_, hm, fun i hi hi2 => ?_, h2⟩
        · rw [bestV, he, if_neg (fun h => hc ⟨h.1, by rcases h.2 with h | h; exact absurd h hn; simpa using h⟩)]
        · rcases Nat.lt_succ_iff_lt_or_eq.1 hi with h | rfl
          · exact h1 i h hi2
          · exact Int.not_lt.1 (fun h => hc ⟨hi2, h⟩)
variable (b : Nat) (v : Value)

set_option maxRecDepth 20000 in
set_option maxHeartbeats 2000000 in
theorem rvNext (w : World) (h : RvAt w b mk pr v q) (hm : q.length ≤ 1000000) (hq8 : ∀ i, i < q.length → atL q i < 8) :
    Calls Try.prog 23 #[.pointer (some ⟨b, 0, none⟩)] w fun e w' => e = .returned (if bestV mk pr q q.length < 0 then .tuple #[.int .i64 0, .bool false] else .tuple #[.int .i64 (bestV mk pr q q.length), .bool true]) ∧ Below w.heap.size w w' := by
  have q0 := h.field (rvBlk_ok mk pr)
  have hlt := h.lt
  have HQ8 := Lib.hid hq8
  clear hq8
  obtain ⟨r, hr⟩ : ∃ r, (if bestV mk pr q q.length < 0 then Value.tuple #[.int .i64 0, .bool false] else .tuple #[.int .i64 (bestV mk pr q q.length), .bool true]) = r := ⟨_, rfl⟩
  rw [hr]
  have HR := Lib.hid hr
  clear hr
  have cm := fun i (hi : i < 8) => (cell_of_row w _ _ _ _ _ h.1).trans (rvBlk_mk mk pr v i hi)
  have cp := fun i (hi : i < 8) => (cell_of_row w _ _ _ _ _ h.1).trans (rvBlk_pr mk pr v i hi)
  have CM := Lib.hid cm
  have CP := Lib.hid cp
  clear cm cp
  obtain ⟨a, c, rfl⟩ := h.shape
  go_enter Try.func23, Try.ntmps23
  go_wp2_with fail
  go_loopw [4, 5] (fun bv jv wr => ∃ j : Nat, j ≤ q.length ∧ jv = .int .i64 j ∧ bv = .int .i64 (bestV mk pr q j) ∧ Bel w.heap.size w wr) (fun _ jv _ => q.length - (intOf jv).toNat)
  case atStart => exact ⟨0, Nat.zero_le _, rfl, rfl, Bel.refl _⟩
  case round =>
    obtain ⟨j, hj, rfl, rfl, hbel⟩ := hrel
    have p0 := (hbel.1.cell (p := ⟨b, 0, none⟩) hlt).trans q0
    have hlr : b < wr.heap.size := Nat.lt_of_lt_of_le hlt hbel.2
    by_cases hjl : j < q.length
    · obtain ⟨g, rfl, hle, hmx, hbg, hg, hc, hf⟩ := h.at nEnc_length hjl
      have hgr : g < wr.heap.size := Nat.lt_of_lt_of_le hg hbel.2
      have e1 := (hbel.1.cell (p := ⟨g, j * 1, none⟩) hg).trans (hc j hjl 0 (by omega))
      simp only [nEnc, List.getElem?_cons_zero, Nat.mul_one] at e1
      have hx8 := HQ8.out j hjl
      have hsucc : bestV mk pr q (j + 1) = if mk (atL q j) = false ∧ (bestV mk pr q j < 0 ∨ pr (bestV mk pr q j).toNat < pr (atL q j)) then ((atL q j : Nat) : Int) else bestV mk pr q j := rfl
      have hspec := bestV_spec mk pr q j
      clear hc
      have em := (hbel.1.cell (p := ⟨b, 1 + atL q j, none⟩) hlt).trans (CM.out _ hx8)
      have ep := (hbel.1.cell (p := ⟨b, 9 + atL q j, none⟩) hlt).trans (CP.out _ hx8)
      rcases hspec with ⟨he, _⟩ | ⟨k, hk, he, _, _, _⟩
      · rw [he] at hsucc ⊢
        clear he
        generalize atL q j = x at *
        cases hmk : mk x
        · rw [if_pos ⟨hmk, .inl (by omega)⟩] at hsucc
          rw [hmk] at em
          have HS := Lib.hid hsucc
          clear hsucc hmk
          go_wp2_with fail
          refine wp_region_later (by kernel_rfl) (by kernel_rfl) ?_
          (repeat (go_big_quiet_step (fail)))
          refine wpQuiet_nil ?_
          intro _ hw'
          obtain ⟨x8, hw''⟩ := hw'
          subst hw''
          go_wp2
          go_roundw
          case rel => exact ⟨j + 1, by omega, by go_num, by rw [HS.out], hbel.later⟩
          case measure => simp [intOf]; omega
        · rw [if_neg (fun h => by rw [hmk] at h; exact Bool.noConfusion h.1)] at hsucc
          rw [hmk] at em
          have HS := Lib.hid hsucc
          clear hsucc hmk
          go_wp2_with fail
          refine wp_region_later (by kernel_rfl) (by kernel_rfl) ?_
          (repeat (go_big_quiet_step (fail)))
          refine wpQuiet_nil ?_
          intro _ hw'
          obtain ⟨x8, hw''⟩ := hw'
          subst hw''
          go_wp2
          go_roundw
          case rel => exact ⟨j + 1, by omega, by go_num, by rw [HS.out], hbel.later⟩
          case measure => simp [intOf]; omega
      · have hy8 := HQ8.out k (by omega)
        have ep2 := (hbel.1.cell (p := ⟨b, 9 + atL q k, none⟩) hlt).trans (CP.out _ hy8)
        rw [he] at hsucc ⊢
        clear he
        generalize atL q j = x at *
        generalize atL q k = y at *
        have hyn : decide ((y : Int) < 0) = false := decide_eq_false (by omega)
        have hyt : ((y : Int)).toNat = y := by omega
        rw [hyt] at hsucc
        clear hyt
        obtain ⟨px, hpx⟩ : ∃ p, pr x = p := ⟨_, rfl⟩
        obtain ⟨py, hpy⟩ : ∃ p, pr y = p := ⟨_, rfl⟩
        rw [hpx] at ep hsucc
        rw [hpy] at ep2 hsucc
        clear hpx hpy
        cases hmk : mk x
        · rw [hmk] at em
          by_cases hlt2 : py < px
          · rw [if_pos ⟨hmk, .inr hlt2⟩] at hsucc
            have HS := Lib.hid hsucc
            clear hsucc hmk
            go_wp2_with fail
            refine wp_region_later (by kernel_rfl) (by kernel_rfl) ?_
            (repeat (go_big_quiet_step (fail)))
            refine wpQuiet_nil ?_
            intro _ hw'
            obtain ⟨x8, hw''⟩ := hw'
            subst hw''
            go_wp2
            go_roundw
            case rel => exact ⟨j + 1, by omega, by go_num, by rw [HS.out], hbel.later⟩
            case measure => simp [intOf]; omega
          · rw [if_neg (fun h => by rcases h.2 with h | h; omega; exact hlt2 h)] at hsucc
            have HS := Lib.hid hsucc
            clear hsucc hmk
            go_wp2_with fail
            refine wp_region_later (by kernel_rfl) (by kernel_rfl) ?_
            (repeat (go_big_quiet_step (fail)))
            refine wpQuiet_nil ?_
            intro _ hw'
            obtain ⟨x8, hw''⟩ := hw'
            subst hw''
            go_wp2
            go_roundw
            case rel => exact ⟨j + 1, by omega, by go_num, by rw [HS.out], hbel.later⟩
            case measure => simp [intOf]; omega
        · rw [if_neg (fun h => by rw [hmk] at h; exact Bool.noConfusion h.1)] at hsucc
          rw [hmk] at em
          have HS := Lib.hid hsucc
          clear hsucc hmk
          go_wp2_with fail
          refine wp_region_later (by kernel_rfl) (by kernel_rfl) ?_
          (repeat (go_big_quiet_step (fail)))
          refine wpQuiet_nil ?_
          intro _ hw'
          obtain ⟨x8, hw''⟩ := hw'
          subst hw''
          go_wp2
          go_roundw
          case rel => exact ⟨j + 1, by omega, by go_num, by rw [HS.out], hbel.later⟩
          case measure => simp [intOf]; omega
    · obtain rfl : j = q.length := by omega
      by_cases hn : bestV mk pr q q.length < 0
      · go_wp2
        go_ret2
        exact ⟨by rw [← HR.out, if_pos (by omega)]; rfl, hbel.1⟩
      · go_wp2
        go_ret2
        exact ⟨by rw [← HR.out, if_neg (by omega)]; rfl, hbel.1⟩
end

section
variable (b : Nat) (mk : Nat → Bool) (pr : Nat → Int) (v : Value) (q : List Nat)
theorem rvNextNo (w : World) (h : RvAt w b mk pr v q) (hm : q.length ≤ 1000000) (hq8 : ∀ i, i < q.length → atL q i < 8) (hno : bestV mk pr q q.length < 0) :
    Calls Try.prog 23 #[.pointer (some ⟨b, 0, none⟩)] w fun e w' => e = .returned (.tuple #[.int .i64 0, .bool false]) ∧ Below w.heap.size w w' := by
  have := rvNext mk pr q b v w h hm hq8
  rwa [if_pos hno] at this
theorem rvNextIs (n : Nat) (w : World) (h : RvAt w b mk pr v q) (hm : q.length ≤ 1000000) (hq8 : ∀ i, i < q.length → atL q i < 8) (hn : bestV mk pr q q.length = n) :
    Calls Try.prog 23 #[.pointer (some ⟨b, 0, none⟩)] w fun e w' => e = .returned (.tuple #[.int .i64 n, .bool true]) ∧ Below w.heap.size w w' := by
  have := rvNext mk pr q b v w h hm hq8
  rwa [if_neg (by omega), hn] at this
theorem rvTakeNo (w : World) (h : RvAt w b mk pr v q) (hm : q.length ≤ 1000000) (hq8 : ∀ i, i < q.length → atL q i < 8) (hno : bestV mk pr q q.length < 0) :
    Calls Try.prog 22 #[.pointer (some ⟨b, 0, none⟩)] w fun e w' => e = .returned (.tuple #[.int .i64 0, .bool false]) ∧ Below w.heap.size w w' := by
  have HQ := Lib.hid hq8
  clear hq8
  go_enter Try.func22, Try.ntmps22
  go_wp2_with fail
  refine (rvNextNo b mk pr v q _ h hm HQ.out hno).mono ?_
  rintro e w' ⟨rfl, hb⟩
  go_wp2
  go_ret2
  exact ⟨rfl, hb⟩
theorem rvTakeIs (n : Nat) (w : World) (h : RvAt w b mk pr v q) (hm : q.length ≤ 1000000) (hq8 : ∀ i, i < q.length → atL q i < 8) (hn : bestV mk pr q q.length = n) :
    Calls Try.prog 22 #[.pointer (some ⟨b, 0, none⟩)] w fun e w' => e = .returned (.tuple #[.int .i64 n, .bool true]) ∧ ∃ v', RvAt w' b mk pr v' (lessQ q n) ∧ Frm b v v' w w' := by
  have HQ := Lib.hid hq8
  have HN := Lib.hid hn
  clear hq8 hn
  go_enter Try.func22, Try.ntmps22
  go_wp2_with fail
  refine (rvNextIs b mk pr v q n _ h hm HQ.out HN.out).mono ?_
  rintro e w' ⟨rfl, hb⟩
  go_wp2_with fail
  refine (rvClear b mk pr v q n _ (h.below hb) hm).mono ?_
  rintro e w2 ⟨rfl, v2, h2, f2⟩
  go_wp2
  go_ret2
  exact ⟨rfl, v2, h2, (Frm.of_below hb).trans f2⟩

/-- The lines that wait, of the first j. -/
def waitQ (q : List Nat) (j : Nat) : List Nat := (List.range j).filter fun i => hasQ q i
theorem waitQ_succ (j : Nat) : waitQ q (j + 1) = if hasQ q j = true then waitQ q j ++ [j] else waitQ q j := by
  unfold waitQ
  rw [List.range_succ, List.filter_append]
  split
  · rename_i h; simp [h]
  · rename_i h; simp [h]
theorem waitQ_le (j : Nat) : (waitQ q j).length ≤ j := by
  have := List.length_filter_le (fun i : Nat => hasQ q i) (List.range j)
  simpa [waitQ] using this
set_option maxRecDepth 20000 in
set_option maxHeartbeats 1000000 in
theorem rvWaits (w : World) (h : RvAt w b mk pr v q) (hm : q.length ≤ 1000000) :
    Calls Try.prog 25 #[.pointer (some ⟨b, 0, none⟩)] w fun e w' => ∃ out, e = .returned out ∧ w'.ownsRow w.heap.size 3 1 out (waitQ q 8).length ((waitQ q 8).flatMap nEnc) ∧ Below w.heap.size w w' := by
  obtain ⟨i0, hi, hz0, hz1, hz2⟩ := info_parts Try.intRow
  go_enter Try.func25, Try.ntmps25
  go_wp2_with fail
  go_loopw [3, 4] (fun ov kv wr => ∃ k : Nat, k ≤ 8 ∧ kv = .int .i64 k ∧ wr.ownsRow w.heap.size 3 1 ov (waitQ q k).length ((waitQ q k).flatMap nEnc) ∧ Bel w.heap.size w wr) (fun _ kv _ => 8 - (intOf kv).toNat)
  case atStart => exact ⟨0, Nat.zero_le _, rfl, World.ownsRow_nil _ _ _ _, Bel.refl w⟩
  case round =>
    obtain ⟨k, hk, rfl, hown, hbel⟩ := hrel
    have hwle := waitQ_le q k
    have hws := waitQ_succ q k
    have hbz := hbel.2
    obtain ⟨ao, co, rfl⟩ := ownsRow_shape hown
    by_cases hk8 : k < 8
    · obtain ⟨hh, hhe⟩ : ∃ x, hasQ q k = x := ⟨_, rfl⟩
      rw [hhe] at hws
      have HH := Lib.hid hhe
      clear hhe
      generalize waitQ q k = L at hown hwle hws
      cases hh
      · rw [if_neg (by simp)] at hws
        have HS := Lib.hid hws
        clear hws
        go_wp2_with fail
        refine (rvHas b mk pr v q k _ (h.below hbel.1) hm).mono ?_
        rintro e w' ⟨rfl, rfl⟩
        rw [HH.out]
        go_wp2
        go_roundw
        case rel => exact ⟨k + 1, by omega, by go_num, by rw [HS.out]; exact hown, hbel⟩
        case measure => simp [intOf]; omega
      · rw [if_pos rfl] at hws
        have HS := Lib.hid hws
        clear hws
        go_wp2_with fail
        refine (rvHas b mk pr v q k _ (h.below hbel.1) hm).mono ?_
        rintro e w' ⟨rfl, rfl⟩
        rw [HH.out]
        go_wp2_with (at_builtin; refine wpList_append_lies _ rfl _ _ 26 rfl w.heap.size 3 i0 (.int .i64 0) 1 8 Try.underlying26 hi hz0 hz1 hz2 rfl (by decide) _ _ _ rfl (World.ownsRow.alloc hown _) ⟨wr.heap.size, 0, none⟩ 1 1 [.int .i64 k] rfl rfl ?c1 ?c2 (by decide) ?c3 ?c4 ?c5 (wr.heap.size + 1) ?c6 ?_)
        case c1 =>
          intro x u hx
          match x, hx with
          | 0, hx => simp at hx; subst hx; simp [Addr.add]
        case c2 => intro u hu; simp at hu; subst hu; rfl
        case c3 => unfold maxLen; omega
        case c4 => omega
        case c5 => simp; omega
        case c6 => simp
        intro g4 cap4 w4 hown4 hgrow hat hlt4
        go_wp2
        go_roundw
        case rel =>
          refine ⟨k + 1, by omega, by go_num, ?_, ?_⟩
          · rw [HS.out]; simpa [nEnc] using hown4
          · exact hbel.append hown hgrow
        case measure => simp [intOf]; omega
    · obtain rfl : k = 8 := by omega
      go_wp2
      go_ret
      exact ⟨_, rfl, hown, hbel.1⟩
end
end Go.Proofs.Ytddngfhiaolkeaa
