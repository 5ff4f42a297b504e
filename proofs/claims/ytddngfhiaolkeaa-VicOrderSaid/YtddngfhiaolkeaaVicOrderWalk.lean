/- law 28: VicOrder. -/
import Derived.Test.YtddngfhiaolkeaaVo
namespace Go.Proofs.Ytddngfhiaolkeaa
open Go.ChangeShapes Go.WideShapes Go.ChangeAt Go.RowKit
set_option linter.unusedVariables false

theorem SliceOk.u8at {w : World} {a : Option Addr} {len cap : Nat} {f : Nat → List Value} (h : SliceOk [some .u8] w a len cap f) {i : Nat} (hi : i < len) :
    ∃ b off n, a = some ⟨b, off, none⟩ ∧ b < w.heap.size ∧ 0 ≤ n ∧ n ≤ 255 ∧ w.cell? ⟨b, off + i, none⟩ = some (.int .u8 n) := by
  obtain ⟨b, off, n, ha, hb, _, hw, hc⟩ := h.int1 hi
  obtain ⟨h0, h1⟩ := bounds_u8 hw
  exact ⟨b, off, n, ha, hb, h0, h1, hc⟩
/-- Eight bytes, as a function. -/
theorem eight_u8 {l : List Value} (h : rowOk [some .u8, some .u8, some .u8, some .u8, some .u8, some .u8, some .u8, some .u8] l) : ∃ pf : Nat → Int, l = [.int .u8 (pf 0), .int .u8 (pf 1), .int .u8 (pf 2), .int .u8 (pf 3), .int .u8 (pf 4), .int .u8 (pf 5), .int .u8 (pf 6), .int .u8 (pf 7)] ∧ ∀ i, i < 8 → 0 ≤ pf i ∧ pf i ≤ 255 := by
  obtain ⟨x0, r, rfl, w0, h⟩ := rowOk_int h
  obtain ⟨x1, r, rfl, w1, h⟩ := rowOk_int h
  obtain ⟨x2, r, rfl, w2, h⟩ := rowOk_int h
  obtain ⟨x3, r, rfl, w3, h⟩ := rowOk_int h
  obtain ⟨x4, r, rfl, w4, h⟩ := rowOk_int h
  obtain ⟨x5, r, rfl, w5, h⟩ := rowOk_int h
  obtain ⟨x6, r, rfl, w6, h⟩ := rowOk_int h
  obtain ⟨x7, r, rfl, w7, h⟩ := rowOk_int h
  obtain rfl := rowOk_nil h
  refine ⟨fun i => [x0, x1, x2, x3, x4, x5, x6, x7].getD i 0, rfl, ?_⟩
  apply eight
  · exact bounds_u8 w0
  · exact bounds_u8 w1
  · exact bounds_u8 w2
  · exact bounds_u8 w3
  · exact bounds_u8 w4
  · exact bounds_u8 w5
  · exact bounds_u8 w6
  · exact bounds_u8 w7

/-- What stays through the lines' work: the argument's block. -/
def pBlk (pf : Nat → Int) : Array Value := #[.int .u8 (pf 0), .int .u8 (pf 1), .int .u8 (pf 2), .int .u8 (pf 3), .int .u8 (pf 4), .int .u8 (pf 5), .int .u8 (pf 6), .int .u8 (pf 7)]
theorem pBlk_at (pf : Nat → Int) : ∀ i, i < 8 → (pBlk pf)[i]? = some (.int .u8 (pf i)) := by apply eight <;> rfl

set_option maxRecDepth 100000 in
set_option maxHeartbeats 4000000 in
theorem vicOrder_walk (p0 : Option Addr) (n0 c0 : Nat) (f0 : Nat → List Value) (l1 : List Value) (a2 : Int) (w : World) (w0 : SliceOk [some .u8] w p0 n0 c0 f0) (hR0 : c0 * 1 ≤ 140737488351232) (w1 : rowOk [some .u8, some .u8, some .u8, some .u8, some .u8, some .u8, some .u8, some .u8] l1) (w2 : (Lit.int .u8 a2).wf = true) :
    Calls Try.prog 3 #[.slice p0 n0 c0, .agg l1.toArray, .int .u8 a2] w fun e w' => e = .returned (.bool true) ∧ Below w.heap.size w w' := by
  obtain ⟨i0, hi, hz0, hz1, hz2⟩ := info_parts Try.intRow
  have hlen : n0 ≤ 140737488351232 := by
    have := w0.1
    omega
  obtain ⟨pf, rfl, hpf⟩ := eight_u8 w1
  obtain ⟨ha0, ha1⟩ := bounds_u8 w2
  clear w1 w2
  have HPF := Lib.hid hpf
  clear hpf
  go_enter Try.func3, Try.ntmps3
  go_wp2_with fail
  have hB0 : (w.alloc (.cells (pBlk pf) 23)).heap[w.heap.size]? = some (.cells (pBlk pf) 23 (0, 0)) := Go.heap_alloc_new w _
  have hba : Bel w.heap.size w (w.alloc (.cells (pBlk pf) 23)) := (Bel.refl w).alloc
  refine (vcNew _).mono ?_
  rintro e wa ⟨rfl, b1, h1⟩
  have hBa : wa.heap[w.heap.size]? = some (.cells (pBlk pf) 23 (0, 0)) := (b1.block _ (lt_heap hB0)).trans hB0
  have hbel1 := hba.of b1
  simp only [World.size_alloc] at h1
  have hV0 : VcAt wa (w.heap.size + 1) (sF [] (fun _ => 0) (fun _ => false)) ([] : List Nat).length (.slice none 0 0) [] := by rw [← sF_nil]; exact h1
  clear h1 hB0 hba b1
  go_wp2_with fail
  go_loopw [8, 9] (fun qv iv wr => ∃ (i : Nat) (Q : List Nat) (v : Value) (l : List vcIt), i ≤ 40 ∧ iv = .int .i64 i ∧ Q.length ≤ i ∧ Hid (Q.Nodup ∧ ∀ k ∈ Q, k < 8) ∧ wr.ownsRow (w.heap.size + 2) 3 1 qv Q.length (Q.flatMap nEnc) ∧ VcAt wr (w.heap.size + 1) (sF Q (fun _ => 0) (fun _ => false)) Q.length v l ∧ Bel w.heap.size w wr ∧ wr.heap[w.heap.size]? = some (.cells (pBlk pf) 23 (0, 0))) (fun _ iv _ => 40 - (intOf iv).toNat)
  case atStart => exact ⟨0, [], _, _, Nat.zero_le _, rfl, Nat.le_refl _, Lib.hid ⟨List.nodup_nil, fun k hk => by cases hk⟩, World.ownsRow_nil _ _ _ _, hV0, hbel1, hBa⟩
  case round =>
    obtain ⟨i, Q, v, l, hi40, rfl, hQi, HQ, hown, hV, hbel, hB⟩ := hrel
    clear hV0 hbel1 hBa
    obtain ⟨aq, cq, rfl, _, _, hitems, _⟩ := items_of_owned nEnc_length hown
    by_cases hall : i < n0 ∧ i < 40
    · obtain ⟨hi0, hi4⟩ := hall
      obtain ⟨b0, o0, x, rfl, l0, x0, x1, q0⟩ := SliceOk.u8at w0 hi0
      have r0 : wr.cell? ⟨b0, o0 + i, none⟩ = some (.int .u8 x) := (hbel.1.cell (p := ⟨b0, o0 + i, none⟩) l0).trans q0
      obtain ⟨n, hn⟩ : ∃ n : Nat, x % 8 = n := ⟨(x % 8).toNat, by omega⟩
      have hn8 : n < 8 := by omega
      clear q0 w0
      have hQn := HQ.out
      have hloQ : Q.length ≤ 40 := by omega
      clear hQn
      go_wp2_with fail
      go_loopw [11, 12] (fun ov kv wz => ∃ (k : Nat) (ob : Bool), k ≤ Q.length ∧ kv = .int .i64 k ∧ ov = .bool ob ∧ Hid (ob = decide (n ∈ Q.take k)) ∧ wz = wr) (fun _ kv _ => Q.length - (intOf kv).toNat)
      case atStart => exact ⟨0, false, Nat.zero_le _, rfl, rfl, Lib.hid (by simp), rfl⟩
      case round =>
        obtain ⟨k, ob, hk, rfl, rfl, HO, hwz⟩ := hrel
        subst hwz
        by_cases hkl : k < Q.length
        · obtain ⟨g, o, rfl, hg, hc⟩ := hitems.2 (by omega)
          have c0 := hc k hkl 0 (by omega)
          simp only [nEnc, List.getElem?_cons_zero, Nat.add_zero, Nat.mul_one] at c0
          clear hc
          have htk : n ∈ Q.take (k + 1) ↔ n ∈ Q.take k ∨ atL Q k = n := by
            rw [take_succ_atL hkl]
            simp [eq_comm]
          obtain ⟨y, hy⟩ : ∃ y, atL Q k = y := ⟨_, rfl⟩
          rw [hy] at c0 htk
          have HTK := Lib.hid htk
          clear htk hy
          cases ob
          · by_cases e : y = n
            · subst e
              go_wp2
              go_roundw
              case rel => exact ⟨k + 1, true, by omega, by go_num, rfl, Lib.hid (by simp [HTK.out]), trivial⟩
              case measure => simp [intOf]; omega
            · have en : ((y : Int) == n) = false := by simp; omega
              go_wp2
              go_roundw
              case rel => exact ⟨k + 1, false, by omega, by go_num, rfl, Lib.hid (by have := HO.out; simp at this; simp [HTK.out, this, e]), trivial⟩
              case measure => simp [intOf]; omega
          · go_wp2
            go_roundw
            case rel => exact ⟨k + 1, true, by omega, by go_num, rfl, Lib.hid (by have := HO.out; simp at this; simp [HTK.out, this]), trivial⟩
            case measure => simp [intOf]; omega
        · have hkq : k = Q.length := by omega
          have hob : ob = decide (n ∈ Q) := by have := HO.out; rw [this, hkq, List.take_length]
          clear HO hkq
          cases ob
          · have hnq : n ∉ Q := by simpa using hob.symm
            have HNQ := Lib.hid hnq
            clear hob hnq
            go_wp2_with (at_builtin; refine wpList_append_lies _ rfl _ _ 26 rfl (w.heap.size + 2) 3 i0 (.int .i64 0) 1 8 Try.underlying26 hi hz0 hz1 hz2 rfl (by decide) _ _ _ rfl (World.ownsRow.alloc hown _) ⟨wr.heap.size, 0, none⟩ 1 1 [.int .i64 n] rfl rfl ?c1 ?c2 (by decide) ?c3 ?c4 ?c5 (wr.heap.size + 1) ?c6 ?_)
            case c1 =>
              intro x u hx
              match x, hx with
              | 0, hx => simp at hx; subst hx; simp [Addr.add]
            case c2 => intro u hu; simp at hu; subst hu; rfl
            case c3 => unfold maxLen; omega
            case c4 => have := hV.lt; omega
            case c5 => simp; have := hV.lt; omega
            case c6 => simp
            intro g4 cap4 w4 hown4 hgrow hat hlt4
            have hV4 : VcAt w4 (w.heap.size + 1) (sF Q (fun _ => 0) (fun _ => false)) Q.length v l := ⟨hV.row.grewBy hown hgrow (by decide) (by decide), hV.heap, hV.perm⟩
            have hbel4 := hbel.append (ownsRow_base hown (by omega)) hgrow
            have hB4 : w4.heap[w.heap.size]? = some (.cells (pBlk pf) 23 (0, 0)) := by
              refine (hgrow.block _ (by have := lt_heap hB; simp; omega) (fun e => ?_)).trans (heap_alloc hB)
              have := (hown.lt _ e.symm).1
              omega
            have hfresh : (sF Q (fun _ => 0) (fun _ => false) n).wt = false := by simp [sF, HNQ.out]
            clear hown hgrow hat hlt4 hV hbel hB hitems r0
            go_wp2_with fail
            refine (vcRaise (w.heap.size + 1) Q.length _ v l n _ hV4 hn8 hfresh (by omega)).mono ?_
            rintro e w5 ⟨rfl, v5, l5, hV5, f5⟩
            have hbel5 := hV4.grow hbel4 (by omega) f5
            have hB5 := f5.other hV4.row hB4 (by decide) (by decide)
            have hown5 := ownsRow_other f5 hV4.row hown4 (by decide) (by decide)
            have hV6 : VcAt w5 (w.heap.size + 1) (sF (Q ++ [n]) (fun _ => 0) (fun _ => false)) (Q ++ [n]).length v5 l5 := by
              rw [← sF_raise HNQ.out, List.length_append]
              exact hV5
            clear hV4 hV5 hbel4 hB4 hown4 f5 hfresh
            go_wp2
            go_roundw
            case rel => exact ⟨i + 1, Q ++ [n], v5, l5, by omega, by go_num, by simp; omega, Lib.hid ⟨by
              rw [List.nodup_append]
              refine ⟨HQ.out.1, by simp, fun a ha b hb e => ?_⟩
              simp at hb
              subst hb
              exact HNQ.out (e ▸ ha), fun k hk => by
              rcases List.mem_append.1 hk with h1 | h1
              · exact HQ.out.2 k h1
              · rw [List.mem_singleton.1 h1]; exact hn8⟩, by simpa [nEnc] using hown5, hV6, hbel5, hB5⟩
            case measure => simp [intOf]; omega
          · have hnq : n ∈ Q := by simpa using hob.symm
            have hold : (sF Q (fun _ => 0) (fun _ => false) n).wt = true := by simp [sF, hnq]
            clear hob hnq
            go_wp2_with fail
            refine (vcRaiseOld (w.heap.size + 1) Q.length _ v l n _ hV hn8 hold).mono ?_
            rintro e w' ⟨rfl, rfl⟩
            go_wp2
            go_roundw
            case rel => exact ⟨i + 1, Q, v, l, by omega, by go_num, by omega, HQ, hown, hV, hbel, hB⟩
            case measure => simp [intOf]; omega
    · have hQn := HQ.out
      have hq8 : Q.length ≤ 40 := by omega
      clear hQn
      go_wp2_with fail
      all_goals
        clear hall
        go_loopw [13] (fun kv wz => ∃ (k : Nat) (v : Value) (l : List vcIt) (P : Nat → Int) (M : Nat → Bool), k ≤ 8 ∧ kv = .int .i64 k ∧ VcAt wz (w.heap.size + 1) (sF Q P M) Q.length v l ∧ wz.ownsRow (w.heap.size + 2) 3 1 (.slice aq Q.length cq) Q.length (Q.flatMap nEnc) ∧ Bel w.heap.size w wz ∧ wz.heap[w.heap.size]? = some (.cells (pBlk pf) 23 (0, 0)) ∧ Hid (∀ i, i < k → P i = pf i % 4 ∧ M i = (bits .and .u8 (a2 / 2 ^ i) 1 == 1))) (fun kv _ => 8 - (intOf kv).toNat)
        case atStart => exact ⟨0, v, l, _, _, Nat.zero_le _, rfl, hV, hown, hbel, hB, Lib.hid fun i hi => by omega⟩
        case round =>
          obtain ⟨k, v3, l3, P, M, hk8, rfl, hV3, hown3, hbel3, hB3, HP⟩ := hrel
          by_cases hk : k < 8
          · have cp : wr.cell? ⟨w.heap.size, k, none⟩ = some (.int .u8 (pf k)) := (cell_of_row _ _ _ _ _ _ hB3).trans (pBlk_at pf k hk)
            obtain ⟨hp0, hp1⟩ := HPF.out k hk
            go_wp2_with fail
            refine (vcPrio (w.heap.size + 1) Q.length _ v3 l3 k (pf k % 4) _ hV3 hk (by omega) (by omega)).mono ?_
            rintro e w4 ⟨rfl, v4, l4, hV4, f4⟩
            have hbel4 := hV3.grow hbel3 (by omega) f4
            have hB4 := f4.other hV3.row hB3 (by decide) (by decide)
            have hown4 := ownsRow_other f4 hV3.row hown3 (by decide) (by decide)
            have hV4 : VcAt w4 (w.heap.size + 1) (sF Q (putF P k (pf k % 4)) M) Q.length v4 l4 := by rw [← sF_prio]; exact hV4
            clear hV3 hbel3 hB3 hown3 f4 cp
            go_wp2_with fail
            refine (vcMask (w.heap.size + 1) Q.length _ v4 l4 k _ _ hV4 hk).mono ?_
            rintro e w5 ⟨rfl, v5, l5, hV5, f5⟩
            have hbel5 := hV4.grow hbel4 (by omega) f5
            have hB5 := f5.other hV4.row hB4 (by decide) (by decide)
            have hown5 := ownsRow_other f5 hV4.row hown4 (by decide) (by decide)
            have hV6 : VcAt w5 (w.heap.size + 1) (sF Q (putF P k (pf k % 4)) (putF M k (bits .and .u8 (a2 / 2 ^ k) 1 == 1))) Q.length v5 l5 := by rw [← sF_mask]; exact hV5
            clear hV4 hV5 hbel4 hB4 hown4 f5
            go_wp2
            go_roundw
            case rel => exact ⟨k + 1, v5, l5, _, _, by omega, by go_num, hV6, hown5, hbel5, hB5, Lib.hid fun i hi => by
              by_cases e : i = k
              · subst e; rw [putF_at, putF_at]; exact ⟨rfl, rfl⟩
              · rw [putF_ne _ _ e, putF_ne _ _ e]; exact HP.out i (by omega)⟩
            case measure => simp [intOf]; omega
          · have hk8' : 8 ≤ k := by omega
            have HPM : Hid (∀ i, i < 8 → P i = pf i % 4 ∧ M i = (bits .and .u8 (a2 / 2 ^ i) 1 == 1)) := Lib.hid fun i hi => HP.out i (by omega)
            obtain ⟨w3, rfl⟩ : ∃ w3 : World, w3 = wr := ⟨_, rfl⟩
            obtain ⟨aq', cq', hsl, _, _, hit3, hge3⟩ := items_of_owned nEnc_length hown3
            obtain ⟨rfl, rfl⟩ : aq = aq' ∧ cq = cq' := by cases hsl; exact ⟨rfl, rfl⟩
            clear hsl hown hV hbel hB hitems HP hown3 hge3
            have hQ8 : ∀ i, i < Q.length → atL Q i < 8 := fun i hi => HQ.out.2 _ (mem_atL hi)
            have HQ8 := Lib.hid hQ8
            clear hQ8
            go_wp2_with fail
            go_loopw [14, 15, 16] (fun ov zv kv wz => ∃ (j : Nat) (z : Int), j ≤ 4 ∧ zv = .int .i64 z ∧ z = 3 - (j : Int) ∧ wz.ownsRow w3.heap.size 3 1 ov (wantL Q P M j).length ((wantL Q P M j).flatMap nEnc) ∧ Bel w3.heap.size w3 wz) (fun _ zv _ _ => (intOf zv + 1).toNat)
            case atStart => exact ⟨0, 3, Nat.zero_le _, rfl, by omega, World.ownsRow_nil _ _ _ _, Bel.refl _⟩
            case round =>
              obtain ⟨j, z, hj4, rfl, hz, hown4, hbel4⟩ := hrel
              have hwl := wantL_le (Q := Q) (P := P) (M := M) j
              have hwl2 : (wantL Q P M j).length ≤ 160 := by
                have : j * Q.length ≤ 4 * 40 := Nat.mul_le_mul hj4 hq8
                omega
              clear hwl
              have HZ := Lib.hid hz
              by_cases hz0' : 0 ≤ z
              · have hj3 : j < 4 := by omega
                have hz3 : z ≤ 3 := by omega
                clear hz
                go_wp2_with fail
                go_loopw [14, 16] (fun ov kv wz => ∃ (k : Nat), k ≤ Q.length ∧ kv = .int .i64 k ∧ wz.ownsRow w3.heap.size 3 1 ov (wantL Q P M j ++ wantP (Q.take k) P M z).length ((wantL Q P M j ++ wantP (Q.take k) P M z).flatMap nEnc) ∧ Bel w3.heap.size w3 wz) (fun _ kv _ => Q.length - (intOf kv).toNat)
                case atStart => exact ⟨0, Nat.zero_le _, rfl, by simpa [wantP] using hown4, hbel4⟩
                case round =>
                  obtain ⟨k, hk, rfl, hown5, hbel5⟩ := hrel
                  have hwp := wantP_le (Q := Q.take k) (P := P) (M := M) (p := z)
                  obtain ⟨L, hL⟩ : ∃ L, wantL Q P M j ++ wantP (Q.take k) P M z = L := ⟨_, rfl⟩
                  have hLk : L.length ≤ 200 := by
                    rw [← hL, List.length_append]
                    rw [List.length_take] at hwp
                    omega
                  rw [hL] at hown5
                  have HL := Lib.hid hL
                  clear hL hwp
                  obtain ⟨ao, co, rfl⟩ := ownsRow_shape hown5
                  by_cases hkl : k < Q.length
                  · obtain ⟨g, o, rfl, hg, hc⟩ := hit3.2 (by omega)
                    have c0 := (hbel5.1.cell (p := ⟨g, o + k * 1 + 0, none⟩) hg).trans (hc k hkl 0 (by omega))
                    simp only [nEnc, List.getElem?_cons_zero, Nat.add_zero, Nat.mul_one] at c0
                    clear hc
                    have hy8 := HQ8.out k hkl
                    obtain ⟨hPy, hMy⟩ := HPM.out _ hy8
                    have hwt := wantP_take (P := P) (M := M) (p := z) hkl
                    have cp : wr.cell? ⟨w.heap.size, atL Q k, none⟩ = some (.int .u8 (pf (atL Q k))) := (cell_of_row _ _ _ _ _ _ ((hbel5.1.block _ (lt_heap hB3)).trans hB3)).trans (pBlk_at pf _ hy8)
                    obtain ⟨hp0, hp1⟩ := HPF.out _ hy8
                    have hbt := bit_two (atL Q k) ha0 ha1
                    rw [hPy, hMy] at hwt
                    have hws5 := hbel5.2
                    clear hPy hMy
                    generalize atL Q k = y at *
                    obtain ⟨py, hpy⟩ : ∃ x, pf y % 4 = x := ⟨_, rfl⟩
                    obtain ⟨bb, hbb⟩ : ∃ x, bits .and .u8 (a2 / 2 ^ y) 1 = x := ⟨_, rfl⟩
                    rw [hpy, hbb] at hwt
                    rw [hbb] at hbt
                    by_cases hyes : py = z ∧ bb = 0
                    · obtain ⟨rfl, rfl⟩ := hyes
                      rw [if_pos ⟨rfl, rfl⟩] at hwt
                      have hcat : wantL Q P M j ++ wantP (Q.take (k + 1)) P M py = L ++ [y] := by rw [hwt, ← List.append_assoc, HL.out]
                      have HC := Lib.hid hcat
                      clear hwt hcat hbt
                      go_wp2_with (at_builtin; refine wpList_append_lies _ rfl _ _ 26 rfl w3.heap.size 3 i0 (.int .i64 0) 1 8 Try.underlying26 hi hz0 hz1 hz2 rfl (by decide) _ _ _ rfl (World.ownsRow.alloc hown5 _) ⟨wr.heap.size, 0, none⟩ 1 1 [.int .i64 y] rfl rfl ?c1 ?c2 (by decide) ?c3 ?c4 ?c5 (wr.heap.size + 1) ?c6 ?_)
                      case c1 =>
                        intro x u hx
                        match x, hx with
                        | 0, hx => simp at hx; subst hx; simp [Addr.add]
                      case c2 => intro u hu; simp at hu; subst hu; rfl
                      case c3 => unfold maxLen; omega
                      case c4 => omega
                      case c5 => simp; omega
                      case c6 => simp
                      intro g6 cap6 w6 hown6 hgrow hat hlt6
                      have hbel6 := hbel5.append hown5 hgrow
                      go_wp2
                      go_roundw
                      case rel => exact ⟨k + 1, by omega, by go_num, by rw [HC.out]; simpa [nEnc] using hown6, hbel6⟩
                      case measure => simp [intOf]; omega
                    · rw [if_neg (fun h => hyes ⟨h.1, by have := h.2; rcases hbt with h2 | h2 <;> subst h2 <;> simp at this ⊢⟩)] at hwt
                      have HW := Lib.hid hwt
                      clear hwt
                      by_cases hpz : py = z
                      · subst hpz
                        obtain rfl : bb = 1 := by
                          rcases hbt with h2 | h2
                          · exact absurd ⟨rfl, h2⟩ hyes
                          · exact h2
                        clear hyes hbt
                        go_wp2
                        go_roundw
                        case rel => exact ⟨k + 1, by omega, by go_num, by rw [HW.out, HL.out]; exact hown5, hbel5⟩
                        case measure => simp [intOf]; omega
                      · clear hyes
                        go_wp2
                        go_roundw
                        case rel => exact ⟨k + 1, by omega, by go_num, by rw [HW.out, HL.out]; exact hown5, hbel5⟩
                        case measure => simp [intOf]; omega
                  · have hkq : k = Q.length := by omega
                    have hfull : wantL Q P M (j + 1) = L := by rw [← HL.out, hkq, List.take_length, wantL, HZ.out]
                    have HF := Lib.hid hfull
                    clear hfull hkq
                    go_wp2
                    go_roundw
                    case rel => exact ⟨j + 1, z - 1, by omega, by go_num, by have := HZ.out; omega, by rw [HF.out]; exact hown5, hbel5⟩
                    case measure => simp [intOf]; omega
              · have hj3 : j = 4 := by omega
                rw [hj3] at hown4 hwl2
                clear hz hj3
                have hpw : (wantL Q P M 4).Pairwise (aheadS (sF Q P M)) := wantL_pairwise HQ.out.1 4
                have hW8 : ∀ k ∈ wantL Q P M 4, k < 8 := fun k hk => HQ.out.2 k (mem_wantL.1 hk).1
                have hWa : ∀ k, k < 8 → (isAct (sF Q P M k) = true ↔ k ∈ wantL Q P M 4) := fun k hk => by
                  rw [mem_wantL]
                  obtain ⟨hp, _⟩ := HPM.out k hk
                  obtain ⟨h0, h1⟩ := HPF.out k hk
                  simp only [isAct, sF, Bool.and_eq_true, decide_eq_true_eq, Bool.not_eq_true']
                  constructor
                  · rintro ⟨h2, h3⟩
                    exact ⟨h2, h3, by omega, by omega⟩
                  · rintro ⟨h2, h3, _, _⟩
                    exact ⟨h2, h3⟩
                have hWw : ∀ k ∈ wantL Q P M 4, (sF Q P M k).wt = true := fun k hk => by
                  simp only [sF, decide_eq_true_eq]
                  exact (mem_wantL.1 hk).1
                have hcnt := nW_taken hpw hW8 hWw (pairwise_nodup hpw)
                have hnQ : nW (sF Q P M) = Q.length := nW_sF Q P M HQ.out.1 HQ.out.2
                generalize wantL Q P M 4 = W at *
                have HPW := Lib.hid hpw
                have HW8 := Lib.hid hW8
                have HWa := Lib.hid hWa
                have HCN := Lib.hid hcnt
                have HNQ := Lib.hid hnQ
                clear hpw hW8 hWa hWw hcnt hnQ
                have hV4 := hV3.below hbel4.1
                have hB4 := (hbel4.1.block _ (lt_heap hB3)).trans hB3
                have hbel40 : Bel w.heap.size w wr := hbel3.trans hbel4 hbel3.2
                have hl3 := hV3.lt
                obtain ⟨aw, cw, rfl⟩ := ownsRow_shape hown4
                have hV5 : VcAt wr (w.heap.size + 1) (taken (sF Q P M) W 0) Q.length v3 l3 := by rw [taken_zero]; exact hV4
                clear hV4 hV3 hbel3 hB3
                go_wp2_with fail
                go_loopw [17] (fun jv wz => ∃ (j : Nat) (v : Value) (l : List vcIt), j ≤ W.length ∧ jv = .int .i64 j ∧ VcAt wz (w.heap.size + 1) (taken (sF Q P M) W j) Q.length v l ∧ wz.ownsRow w3.heap.size 3 1 (.slice aw W.length cw) W.length (W.flatMap nEnc) ∧ Bel w.heap.size w wz) (fun jv _ => W.length - (intOf jv).toNat)
                case atStart => exact ⟨0, v3, l3, Nat.zero_le _, rfl, hV5, hown4, hbel40⟩
                case round =>
                  obtain ⟨j, v6, l6, hjW, rfl, hV6, hown6, hbel6⟩ := hrel
                  clear hV5 hown4 hbel40 hbel4
                  by_cases hj : j < W.length
                  · obtain ⟨aw', cw', hsl, _, _, hit6, _⟩ := items_of_owned nEnc_length hown6
                    obtain ⟨rfl, rfl⟩ : aw = aw' ∧ cw = cw' := by cases hsl; exact ⟨rfl, rfl⟩
                    clear hsl
                    obtain ⟨g, o, rfl, hg, hc⟩ := hit6.2 (by omega)
                    have ht := taken_top hj HPW.out HW8.out HWa.out
                    have hts := taken_succ (s := sF Q P M) hj (pairwise_nodup HPW.out)
                    have hself : taken (sF Q P M) W j (atL W j) = sF Q P M (atL W j) := by unfold taken; rw [if_neg (not_taken hj HPW.out)]
                    have HT := Lib.hid ht
                    have HTS := Lib.hid hts
                    have HSE := Lib.hid hself
                    have HCC := Lib.hid hc
                    clear ht hts hself hc hit6
                    go_wp2_with fail
                    refine (vcTakeIs _ hV6 HT.out).mono ?_
                    rintro e w7 ⟨rfl, v7, l7, hV7, f7⟩
                    have hbel7 := hV6.grow hbel6 (by omega) f7
                    have hown7 := ownsRow_other f7 hV6.row hown6 (by decide) (by decide)
                    have hV8 : VcAt w7 (w.heap.size + 1) (taken (sF Q P M) W (j + 1)) Q.length v7 l7 := by
                      rw [← HTS.out, ← HSE.out]
                      exact hV7
                    have c0 : w7.cell? ⟨g, o + j, none⟩ = some (.int .i64 (atL W j : Nat)) := by
                      obtain ⟨aw2, cw2, hsl, _, _, hit7, _⟩ := items_of_owned nEnc_length hown7
                      cases hsl
                      obtain ⟨g', o', hgo, _, hc⟩ := hit7.2 (by omega)
                      cases hgo
                      have := hc j hj 0 (by omega)
                      simpa [nEnc] using this
                    clear hV7 f7 hV6 hown6 hbel6 HTS HSE HCC HT
                    generalize atL W j = y at *
                    go_wp2
                    go_roundw
                    case rel => exact ⟨j + 1, v7, l7, by omega, by go_num, hV8, hown7, hbel7⟩
                    case measure => simp [intOf]; omega
                  · have hjW2 : j = W.length := by omega
                    have hV7 : VcAt wr (w.heap.size + 1) (taken (sF Q P M) W W.length) Q.length v6 l6 := by rw [hjW2] at hV6; exact hV6
                    have hno := taken_none HWa.out
                    have HNO := Lib.hid hno
                    have hc := HCN.out W.length (Nat.le_refl _)
                    rw [HNQ.out] at hc
                    obtain ⟨r, hr⟩ : ∃ r, nW (taken (sF Q P M) W W.length) = r := ⟨_, rfl⟩
                    rw [hr] at hc
                    have e9 : (Q.length : Int) - (W.length : Nat) = (r : Nat) := by omega
                    have HR := Lib.hid hr
                    clear hno hc hr hV6 hown6 hjW2
                    go_wp2_with fail
                    refine (vcTakeNone _ hV7 HNO.out).mono ?_
                    rintro e w' ⟨rfl, rfl⟩
                    go_wp2_with fail
                    refine (vcWaitsN hV7).mono ?_
                    rintro e w9 ⟨a9, c9, rfl, o9, b9⟩
                    rw [HR.out]
                    have hbel9 := hbel6.of b9
                    clear o9
                    go_wp2_with fail
                    refine (awake28 _).mono ?_
                    rintro e wx ⟨rfl, bx⟩
                    go_wp2
                    go_ret
                    exact ⟨rfl, (hbel9.of bx).1⟩
end Go.Proofs.Ytddngfhiaolkeaa
