/- law 29: TimerOnce. -/
import Derived.Test.YtjlhdbkhebfghaaTmo
import Derived.Test.YtjlhdbkhebfghaaTimerOrderWalk
namespace Go.Proofs.Ytjlhdbkhebfghaa
open Go.ChangeShapes Go.WideShapes Go.ChangeAt Go.RowKit
set_option linter.unusedVariables false

set_option maxRecDepth 100000 in
set_option maxHeartbeats 4000000 in
theorem timerOnce_walk (p0 : Option Addr) (n0 c0 : Nat) (f0 : Nat → List Value) (w : World) (w0 : SliceOk [some .i64, some .i64] w p0 n0 c0 f0) (hR0 : c0 * 16 ≤ 140737488351232) :
    Calls Try.prog 4 #[.slice p0 n0 c0] w fun e w' => e = .returned (.bool true) ∧ Below w.heap.size w w' := by
  go_enter Try.func4, Try.ntmps4
  go_wp2_with fail
  refine (tmNew _).mono ?_
  rintro e wa ⟨rfl, b1, t1⟩
  have hT0 := t1.lt
  have hOnce : Once w wa.heap.size (wa.heap.size + 1) ((wa.alloc (.cells #[.int .i64 0, .int .i64 0, .int .i64 0, .int .i64 0] 36)).alloc (.cells #[.bool false, .bool false, .bool false, .bool false] 37)) (fun _ => false) (fun _ => 0) 0 (.slice none 0 0) [] := by
    refine ⟨hT0, by omega, (t1.below (Bel.refl wa).alloc.1).below (Bel.refl _).alloc.1, ?_, heap_alloc (Go.heap_alloc_new wa _), fun g hg => (by cases hg), Bel.alloc (Bel.alloc ⟨b1, b1.size⟩), Ids.nil (fun _ _ => rfl), fun x hx => (by cases hx)⟩
    have := Go.heap_alloc_new (wa.alloc (.cells #[.int .i64 0, .int .i64 0, .int .i64 0, .int .i64 0] 36)) (.cells #[.bool false, .bool false, .bool false, .bool false] 37)
    rw [show (wa.alloc (.cells #[.int .i64 0, .int .i64 0, .int .i64 0, .int .i64 0] 36)).heap.size = wa.heap.size + 1 by simp] at this
    exact this
  have hwf : w0 = w0 := rfl
  clear hwf
  have hlen : n0 ≤ 140737488351232 := by
    have := w0.1
    omega
  go_wp2_with fail
  go_loopw [6] (fun iv wr => ∃ (i : Nat) (u : Nat → Bool) (D : Nat → Int) (now : Nat) (v : Value) (l : List trIt), i ≤ 100 ∧ iv = .int .i64 i ∧ now ≤ i ∧ Once w wa.heap.size (wa.heap.size + 1) wr u D now v l) (fun iv _ => 100 - (intOf iv).toNat)
  case atStart => exact ⟨0, _, _, 0, _, _, Nat.zero_le _, rfl, Nat.le_refl _, hOnce⟩
  case round =>
    obtain ⟨i, u, D, now, v, l, hi, rfl, hnow, hO⟩ := hrel
    obtain ⟨wo, rfl⟩ : ∃ wo : World, wo = wr := ⟨_, rfl⟩
    clear hOnce t1 b1
    by_cases hall : i < n0 ∧ i < 100
    · obtain ⟨i0, i100⟩ := hall
      obtain ⟨b0, o0, kd, nn, rfl, l0, _, _, _, q0, q1⟩ := w0.int2 i0
      have r0 : wo.cell? ⟨b0, o0 + i * 2, none⟩ = some (.int .i64 kd) := (hO.bel.1.cell (p := ⟨b0, o0 + i * 2, none⟩) l0).trans q0
      have r1 : wo.cell? ⟨b0, o0 + i * 2 + 1, none⟩ = some (.int .i64 nn) := (hO.bel.1.cell (p := ⟨b0, o0 + i * 2 + 1, none⟩) l0).trans q1
      clear q0 q1 w0
      have hA : (wo.alloc (.cells #[.int .i64 kd, .int .i64 nn] 39)).heap[wo.heap.size]? = some (.cells #[.int .i64 kd, .int .i64 nn] 39 (0, 0)) := Go.heap_alloc_new wo _
      have hO1 := hO.below (Bel.refl wo).alloc.1 (w2 := wo.alloc (.cells #[.int .i64 kd, .int .i64 nn] 39))
      have hact : ∀ j, (wo.alloc (.cells #[.int .i64 kd, .int .i64 nn] 39)).cell? ⟨wo.heap.size, j, none⟩ = #[Value.int .i64 kd, .int .i64 nn][j]? := fun j => cell_of_row _ _ _ _ _ _ hA
      have ll4 := hO.ids.le
      rcases (by omega : kd = 0 ∨ kd = 1 ∨ (kd ≠ 0 ∧ kd ≠ 1)) with rfl | rfl | ⟨k0, k1⟩
      · by_cases hd : nn < 0
        · go_wp2_with fail
          refine (tmArmNeg w.heap.size now u v l nn _ hO1.tm hd).mono ?_
          rintro e w' ⟨rfl, rfl⟩
          go_wp2_with fail
          obtain ⟨wz, hwz, hO2⟩ : ∃ wz, wz = _ ∧ Once w wa.heap.size (wa.heap.size + 1) wz u D now v l := ⟨_, rfl, hO1⟩
          rw [← hwz]
          obtain ⟨u2, hO2⟩ : ∃ u2, Once w wa.heap.size (wa.heap.size + 1) wz u2 D now v l := ⟨u, hO2⟩
          obtain ⟨D2, now2, v2, l2, hn2, hO2⟩ : ∃ D2 now2 v2 l2, now2 ≤ i + 1 ∧ Once w wa.heap.size (wa.heap.size + 1) wz u2 D2 now2 v2 l2 := ⟨_, _, _, _, by omega, hO2⟩
          clear hact hA hO1 r0 r1 hwz
          go_loopw [16, 17] (fun nv kv wr => ∃ k : Nat, k ≤ 4 ∧ kv = .int .i64 k ∧ nv = .int .i64 (cntU u2 k) ∧ wr = wz) (fun _ kv _ => 4 - (intOf kv).toNat)
          case atStart => exact ⟨0, by omega, rfl, rfl, rfl⟩
          case round =>
            obtain ⟨k, hk, rfl, rfl, hwz⟩ := hrel
            obtain rfl := hwz.symm
            by_cases hk4 : k < 4
            · have hon := hO2.onCell hk4
              have hcl : cntU u2 k ≤ 4 := Nat.le_trans (cntU_le u2 k) hk
              cases huk : u2 k
              · rw [huk] at hon
                have hcs : cntU u2 (k + 1) = cntU u2 k := by simp [cntU, huk]
                have HC := Lib.hid hcs
                clear hcs huk
                go_wp2
                go_roundw
                case rel => exact ⟨k + 1, by omega, by go_num, by rw [HC.out], trivial⟩
                case measure => simp [intOf]; omega
              · rw [huk] at hon
                have hcs : cntU u2 (k + 1) = cntU u2 k + 1 := by simp [cntU, huk]
                have HC := Lib.hid hcs
                clear hcs huk
                go_wp2
                go_roundw
                case rel => exact ⟨k + 1, by omega, by go_num, by rw [HC.out]; go_num, trivial⟩
                case measure => simp [intOf]; omega
            · obtain rfl : k = 4 := by omega
              have hcnt : (cntU u2 4 : Int) = l2.length := by rw [hO2.ids.count]
              go_wp2_with fail
              refine (tmLen w.heap.size now2 u2 v2 l2 _ hO2.tm).mono ?_
              rintro e w' ⟨rfl, rfl⟩
              try rw [hcnt]
              go_wp2
              go_roundw
              case rel => exact ⟨i + 1, u2, D2, now2, v2, l2, by omega, by go_num, hn2, hO2⟩
              case measure => simp [intOf]; omega
        · rcases freeU_spec u with ⟨hf, _⟩ | ⟨hk, hu, _⟩
          · go_wp2_with fail
            refine (tmArmFull w.heap.size now u v l nn _ hO1.tm (by omega) hf).mono ?_
            rintro e w' ⟨rfl, rfl⟩
            go_wp2_with fail
            obtain ⟨wz, hwz, hO2⟩ : ∃ wz, wz = _ ∧ Once w wa.heap.size (wa.heap.size + 1) wz u D now v l := ⟨_, rfl, hO1⟩
            rw [← hwz]
            obtain ⟨u2, hO2⟩ : ∃ u2, Once w wa.heap.size (wa.heap.size + 1) wz u2 D now v l := ⟨u, hO2⟩
            obtain ⟨D2, now2, v2, l2, hn2, hO2⟩ : ∃ D2 now2 v2 l2, now2 ≤ i + 1 ∧ Once w wa.heap.size (wa.heap.size + 1) wz u2 D2 now2 v2 l2 := ⟨_, _, _, _, by omega, hO2⟩
            clear hact hA hO1 r0 r1 hwz
            go_loopw [16, 17] (fun nv kv wr => ∃ k : Nat, k ≤ 4 ∧ kv = .int .i64 k ∧ nv = .int .i64 (cntU u2 k) ∧ wr = wz) (fun _ kv _ => 4 - (intOf kv).toNat)
            case atStart => exact ⟨0, by omega, rfl, rfl, rfl⟩
            case round =>
              obtain ⟨k, hk, rfl, rfl, hwz⟩ := hrel
              obtain rfl := hwz.symm
              by_cases hk4 : k < 4
              · have hon := hO2.onCell hk4
                have hcl : cntU u2 k ≤ 4 := Nat.le_trans (cntU_le u2 k) hk
                cases huk : u2 k
                · rw [huk] at hon
                  have hcs : cntU u2 (k + 1) = cntU u2 k := by simp [cntU, huk]
                  have HC := Lib.hid hcs
                  clear hcs huk
                  go_wp2
                  go_roundw
                  case rel => exact ⟨k + 1, by omega, by go_num, by rw [HC.out], trivial⟩
                  case measure => simp [intOf]; omega
                · rw [huk] at hon
                  have hcs : cntU u2 (k + 1) = cntU u2 k + 1 := by simp [cntU, huk]
                  have HC := Lib.hid hcs
                  clear hcs huk
                  go_wp2
                  go_roundw
                  case rel => exact ⟨k + 1, by omega, by go_num, by rw [HC.out]; go_num, trivial⟩
                  case measure => simp [intOf]; omega
              · obtain rfl : k = 4 := by omega
                have hcnt : (cntU u2 4 : Int) = l2.length := by rw [hO2.ids.count]
                go_wp2_with fail
                refine (tmLen w.heap.size now2 u2 v2 l2 _ hO2.tm).mono ?_
                rintro e w' ⟨rfl, rfl⟩
                try rw [hcnt]
                go_wp2
                go_roundw
                case rel => exact ⟨i + 1, u2, D2, now2, v2, l2, by omega, by go_num, hn2, hO2⟩
                case measure => simp [intOf]; omega
          · obtain ⟨k, hf⟩ : ∃ k, freeU u = k := ⟨_, rfl⟩
            rw [hf] at hk hu
            have HF := Lib.hid hf
            have HU := Lib.hid hu
            clear hf hu
            go_wp2_with fail
            refine (tmArm w.heap.size now u v l nn k _ hO1.tm (by omega) HF.out hk (by omega) (by omega)).mono ?_
            rintro e w2 ⟨rfl, v2, l2, t2, p2, f2⟩
            have hO2 := hO1.armed hk HU.out (by omega) t2 p2 f2
            obtain ⟨m1, m2, m3, m4⟩ := hO1.move f2
            have hownlt : ∀ g, v.ownBlock = some g → g < wo.heap.size := fun g hg => (hO.tm.row.own g hg).2
            have hAf := (f2.block _ (lt_heap hA) (by have := hO.tm.lt; omega) (fun e => by have := hownlt _ e.symm; omega)).trans hA
            have hact2 : w2.cell? ⟨wo.heap.size, 1, none⟩ = some (.int .i64 _) := cell_of_row _ _ _ _ _ _ hAf
            have z1 : ∀ j, w2.frozen? ⟨wa.heap.size + 1, j, none⟩ = false := fun j => by simp [World.frozen?, m1]
            have z2 : ∀ j, w2.frozen? ⟨wa.heap.size, j, none⟩ = false := fun j => by simp [World.frozen?, m2]
            have hne1 : ¬ wo.heap.size = wa.heap.size + 1 := by have := lt_heap hO.on; omega
            have hne2 : ¬ wa.heap.size + 1 = wo.heap.size := by have := lt_heap hO.on; omega
            have c1 : w2.cell? ⟨wa.heap.size + 1, k, none⟩ = some (.bool false) := by rw [cell_of_row _ _ _ _ _ _ m1, onBlk_at u k hk, HU.out]
            have c2 : w2.cell? ⟨wa.heap.size, k, none⟩ = some (.int .i64 (D k)) := by rw [cell_of_row _ _ _ _ _ _ m2, dueBlk_at D k hk]
            have hk0 : ¬ (k : Int) < 0 := by omega
            have hk4 : ¬ 4 ≤ k := by omega
            go_wp2_with fail
            clear c2
            obtain ⟨wz, hwz, hO2⟩ : ∃ wz, wz = _ ∧ Once w wa.heap.size (wa.heap.size + 1) wz _ _ _ v2 l2 := ⟨_, rfl, hO2⟩
            rw [← hwz]
            obtain ⟨u2, D2, now2, hn2, hO2⟩ : ∃ u2 D2 now2, now2 ≤ i + 1 ∧ Once w wa.heap.size (wa.heap.size + 1) wz u2 D2 now2 v2 l2 := ⟨_, _, _, by omega, hO2⟩
            clear hact hA hO1 r0 r1 hwz hownlt hAf hact2 z1 z2 m1 m2 m3 m4 c1 f2 t2
            go_loopw [16, 17] (fun nv kv wr => ∃ k : Nat, k ≤ 4 ∧ kv = .int .i64 k ∧ nv = .int .i64 (cntU u2 k) ∧ wr = wz) (fun _ kv _ => 4 - (intOf kv).toNat)
            case atStart => exact ⟨0, by omega, rfl, rfl, rfl⟩
            case round =>
              obtain ⟨k, hk, rfl, rfl, hwz⟩ := hrel
              obtain rfl := hwz.symm
              by_cases hk4 : k < 4
              · have hon := hO2.onCell hk4
                have hcl : cntU u2 k ≤ 4 := Nat.le_trans (cntU_le u2 k) hk
                cases huk : u2 k
                · rw [huk] at hon
                  have hcs : cntU u2 (k + 1) = cntU u2 k := by simp [cntU, huk]
                  have HC := Lib.hid hcs
                  clear hcs huk
                  go_wp2
                  go_roundw
                  case rel => exact ⟨k + 1, by omega, by go_num, by rw [HC.out], trivial⟩
                  case measure => simp [intOf]; omega
                · rw [huk] at hon
                  have hcs : cntU u2 (k + 1) = cntU u2 k + 1 := by simp [cntU, huk]
                  have HC := Lib.hid hcs
                  clear hcs huk
                  go_wp2
                  go_roundw
                  case rel => exact ⟨k + 1, by omega, by go_num, by rw [HC.out]; go_num, trivial⟩
                  case measure => simp [intOf]; omega
              · obtain rfl : k = 4 := by omega
                have hcnt : (cntU u2 4 : Int) = l2.length := by rw [hO2.ids.count]
                go_wp2_with fail
                refine (tmLen w.heap.size now2 u2 v2 l2 _ hO2.tm).mono ?_
                rintro e w' ⟨rfl, rfl⟩
                try rw [hcnt]
                go_wp2
                go_roundw
                case rel => exact ⟨i + 1, u2, D2, now2, v2, l2, by omega, by go_num, hn2, hO2⟩
                case measure => simp [intOf]; omega
      · by_cases hd : nn < 0
        · go_wp2_with fail
          refine (tmCancelNo w.heap.size now u v l nn _ hO1.tm (.inl hd)).mono ?_
          rintro e w' ⟨rfl, rfl⟩
          go_wp2_with fail
          obtain ⟨wz, hwz, hO2⟩ : ∃ wz, wz = _ ∧ Once w wa.heap.size (wa.heap.size + 1) wz u D now v l := ⟨_, rfl, hO1⟩
          rw [← hwz]
          obtain ⟨u2, hO2⟩ : ∃ u2, Once w wa.heap.size (wa.heap.size + 1) wz u2 D now v l := ⟨u, hO2⟩
          obtain ⟨D2, now2, v2, l2, hn2, hO2⟩ : ∃ D2 now2 v2 l2, now2 ≤ i + 1 ∧ Once w wa.heap.size (wa.heap.size + 1) wz u2 D2 now2 v2 l2 := ⟨_, _, _, _, by omega, hO2⟩
          clear hact hA hO1 r0 r1 hwz
          go_loopw [16, 17] (fun nv kv wr => ∃ k : Nat, k ≤ 4 ∧ kv = .int .i64 k ∧ nv = .int .i64 (cntU u2 k) ∧ wr = wz) (fun _ kv _ => 4 - (intOf kv).toNat)
          case atStart => exact ⟨0, by omega, rfl, rfl, rfl⟩
          case round =>
            obtain ⟨k, hk, rfl, rfl, hwz⟩ := hrel
            obtain rfl := hwz.symm
            by_cases hk4 : k < 4
            · have hon := hO2.onCell hk4
              have hcl : cntU u2 k ≤ 4 := Nat.le_trans (cntU_le u2 k) hk
              cases huk : u2 k
              · rw [huk] at hon
                have hcs : cntU u2 (k + 1) = cntU u2 k := by simp [cntU, huk]
                have HC := Lib.hid hcs
                clear hcs huk
                go_wp2
                go_roundw
                case rel => exact ⟨k + 1, by omega, by go_num, by rw [HC.out], trivial⟩
                case measure => simp [intOf]; omega
              · rw [huk] at hon
                have hcs : cntU u2 (k + 1) = cntU u2 k + 1 := by simp [cntU, huk]
                have HC := Lib.hid hcs
                clear hcs huk
                go_wp2
                go_roundw
                case rel => exact ⟨k + 1, by omega, by go_num, by rw [HC.out]; go_num, trivial⟩
                case measure => simp [intOf]; omega
            · obtain rfl : k = 4 := by omega
              have hcnt : (cntU u2 4 : Int) = l2.length := by rw [hO2.ids.count]
              go_wp2_with fail
              refine (tmLen w.heap.size now2 u2 v2 l2 _ hO2.tm).mono ?_
              rintro e w' ⟨rfl, rfl⟩
              try rw [hcnt]
              go_wp2
              go_roundw
              case rel => exact ⟨i + 1, u2, D2, now2, v2, l2, by omega, by go_num, hn2, hO2⟩
              case measure => simp [intOf]; omega
        · by_cases hd4 : 4 ≤ nn
          · go_wp2_with fail
            refine (tmCancelNo w.heap.size now u v l nn _ hO1.tm (.inr (.inl hd4))).mono ?_
            rintro e w' ⟨rfl, rfl⟩
            go_wp2_with fail
            obtain ⟨wz, hwz, hO2⟩ : ∃ wz, wz = _ ∧ Once w wa.heap.size (wa.heap.size + 1) wz u D now v l := ⟨_, rfl, hO1⟩
            rw [← hwz]
            obtain ⟨u2, hO2⟩ : ∃ u2, Once w wa.heap.size (wa.heap.size + 1) wz u2 D now v l := ⟨u, hO2⟩
            obtain ⟨D2, now2, v2, l2, hn2, hO2⟩ : ∃ D2 now2 v2 l2, now2 ≤ i + 1 ∧ Once w wa.heap.size (wa.heap.size + 1) wz u2 D2 now2 v2 l2 := ⟨_, _, _, _, by omega, hO2⟩
            clear hact hA hO1 r0 r1 hwz
            go_loopw [16, 17] (fun nv kv wr => ∃ k : Nat, k ≤ 4 ∧ kv = .int .i64 k ∧ nv = .int .i64 (cntU u2 k) ∧ wr = wz) (fun _ kv _ => 4 - (intOf kv).toNat)
            case atStart => exact ⟨0, by omega, rfl, rfl, rfl⟩
            case round =>
              obtain ⟨k, hk, rfl, rfl, hwz⟩ := hrel
              obtain rfl := hwz.symm
              by_cases hk4 : k < 4
              · have hon := hO2.onCell hk4
                have hcl : cntU u2 k ≤ 4 := Nat.le_trans (cntU_le u2 k) hk
                cases huk : u2 k
                · rw [huk] at hon
                  have hcs : cntU u2 (k + 1) = cntU u2 k := by simp [cntU, huk]
                  have HC := Lib.hid hcs
                  clear hcs huk
                  go_wp2
                  go_roundw
                  case rel => exact ⟨k + 1, by omega, by go_num, by rw [HC.out], trivial⟩
                  case measure => simp [intOf]; omega
                · rw [huk] at hon
                  have hcs : cntU u2 (k + 1) = cntU u2 k + 1 := by simp [cntU, huk]
                  have HC := Lib.hid hcs
                  clear hcs huk
                  go_wp2
                  go_roundw
                  case rel => exact ⟨k + 1, by omega, by go_num, by rw [HC.out]; go_num, trivial⟩
                  case measure => simp [intOf]; omega
              · obtain rfl : k = 4 := by omega
                have hcnt : (cntU u2 4 : Int) = l2.length := by rw [hO2.ids.count]
                go_wp2_with fail
                refine (tmLen w.heap.size now2 u2 v2 l2 _ hO2.tm).mono ?_
                rintro e w' ⟨rfl, rfl⟩
                try rw [hcnt]
                go_wp2
                go_roundw
                case rel => exact ⟨i + 1, u2, D2, now2, v2, l2, by omega, by go_num, hn2, hO2⟩
                case measure => simp [intOf]; omega
          · obtain ⟨k, rfl⟩ : ∃ k : Nat, nn = k := ⟨nn.toNat, by omega⟩
            have hk : k < 4 := by omega
            have hk0 : ¬ (k : Int) < 0 := by omega
            have c0 := hO1.onCell hk
            cases huk : u k
            · rw [huk] at c0
              have HU := Lib.hid huk
              clear huk
              go_wp2_with fail
              refine (tmCancelNo w.heap.size now u v l k _ hO1.tm (.inr (.inr ⟨k, hk, rfl, HU.out⟩))).mono ?_
              rintro e w' ⟨rfl, rfl⟩
              go_wp2_with fail
              obtain ⟨wz, hwz, hO2⟩ : ∃ wz, wz = _ ∧ Once w wa.heap.size (wa.heap.size + 1) wz u D now v l := ⟨_, rfl, hO1⟩
              rw [← hwz]
              obtain ⟨u2, hO2⟩ : ∃ u2, Once w wa.heap.size (wa.heap.size + 1) wz u2 D now v l := ⟨u, hO2⟩
              obtain ⟨D2, now2, v2, l2, hn2, hO2⟩ : ∃ D2 now2 v2 l2, now2 ≤ i + 1 ∧ Once w wa.heap.size (wa.heap.size + 1) wz u2 D2 now2 v2 l2 := ⟨_, _, _, _, by omega, hO2⟩
              clear hact hA hO1 r0 r1 hwz
              go_loopw [16, 17] (fun nv kv wr => ∃ k : Nat, k ≤ 4 ∧ kv = .int .i64 k ∧ nv = .int .i64 (cntU u2 k) ∧ wr = wz) (fun _ kv _ => 4 - (intOf kv).toNat)
              case atStart => exact ⟨0, by omega, rfl, rfl, rfl⟩
              case round =>
                obtain ⟨k, hk, rfl, rfl, hwz⟩ := hrel
                obtain rfl := hwz.symm
                by_cases hk4 : k < 4
                · have hon := hO2.onCell hk4
                  have hcl : cntU u2 k ≤ 4 := Nat.le_trans (cntU_le u2 k) hk
                  cases huk : u2 k
                  · rw [huk] at hon
                    have hcs : cntU u2 (k + 1) = cntU u2 k := by simp [cntU, huk]
                    have HC := Lib.hid hcs
                    clear hcs huk
                    go_wp2
                    go_roundw
                    case rel => exact ⟨k + 1, by omega, by go_num, by rw [HC.out], trivial⟩
                    case measure => simp [intOf]; omega
                  · rw [huk] at hon
                    have hcs : cntU u2 (k + 1) = cntU u2 k + 1 := by simp [cntU, huk]
                    have HC := Lib.hid hcs
                    clear hcs huk
                    go_wp2
                    go_roundw
                    case rel => exact ⟨k + 1, by omega, by go_num, by rw [HC.out]; go_num, trivial⟩
                    case measure => simp [intOf]; omega
                · obtain rfl : k = 4 := by omega
                  have hcnt : (cntU u2 4 : Int) = l2.length := by rw [hO2.ids.count]
                  go_wp2_with fail
                  refine (tmLen w.heap.size now2 u2 v2 l2 _ hO2.tm).mono ?_
                  rintro e w' ⟨rfl, rfl⟩
                  try rw [hcnt]
                  go_wp2
                  go_roundw
                  case rel => exact ⟨i + 1, u2, D2, now2, v2, l2, by omega, by go_num, hn2, hO2⟩
                  case measure => simp [intOf]; omega
            · rw [huk] at c0
              have HU := Lib.hid huk
              clear huk
              go_wp2_with fail
              refine (tmCancel w.heap.size now u v l k _ hO1.tm hk HU.out (hO.ids.all k hk HU.out) (by omega)).mono ?_
              rintro e w2 ⟨rfl, v2, l2, x2, hx2, hxk2, p2, t2, f2⟩
              have hO2 := hO1.cancelled hk hxk2 t2 p2 f2
              obtain ⟨m1, m2, m3, m4⟩ := hO1.move f2
              have hownlt : ∀ g, v.ownBlock = some g → g < wo.heap.size := fun g hg => (hO.tm.row.own g hg).2
              have hAf := (f2.block _ (lt_heap hA) (by have := hO.tm.lt; omega) (fun e => by have := hownlt _ e.symm; omega)).trans hA
              have hact2 : w2.cell? ⟨wo.heap.size, 1, none⟩ = some (.int .i64 _) := cell_of_row _ _ _ _ _ _ hAf
              have z1 : ∀ j, w2.frozen? ⟨wa.heap.size + 1, j, none⟩ = false := fun j => by simp [World.frozen?, m1]
              have z2 : ∀ j, w2.frozen? ⟨wa.heap.size, j, none⟩ = false := fun j => by simp [World.frozen?, m2]
              have hne1 : ¬ wo.heap.size = wa.heap.size + 1 := by have := lt_heap hO.on; omega
              have hne2 : ¬ wa.heap.size + 1 = wo.heap.size := by have := lt_heap hO.on; omega
              have c1 : w2.cell? ⟨wa.heap.size + 1, k, none⟩ = some (.bool true) := by rw [cell_of_row _ _ _ _ _ _ m1, onBlk_at u k hk, HU.out]
              go_wp2_with fail
              clear c0
              obtain ⟨wz, hwz, hO2⟩ : ∃ wz, wz = _ ∧ Once w wa.heap.size (wa.heap.size + 1) wz _ _ _ v2 l2 := ⟨_, rfl, hO2⟩
              rw [← hwz]
              obtain ⟨u2, D2, now2, hn2, hO2⟩ : ∃ u2 D2 now2, now2 ≤ i + 1 ∧ Once w wa.heap.size (wa.heap.size + 1) wz u2 D2 now2 v2 l2 := ⟨_, _, _, by omega, hO2⟩
              clear hact hA hO1 r0 r1 hwz hownlt hAf hact2 z1 z2 m1 m2 m3 m4 c1 f2 t2
              go_loopw [16, 17] (fun nv kv wr => ∃ k : Nat, k ≤ 4 ∧ kv = .int .i64 k ∧ nv = .int .i64 (cntU u2 k) ∧ wr = wz) (fun _ kv _ => 4 - (intOf kv).toNat)
              case atStart => exact ⟨0, by omega, rfl, rfl, rfl⟩
              case round =>
                obtain ⟨k, hk, rfl, rfl, hwz⟩ := hrel
                obtain rfl := hwz.symm
                by_cases hk4 : k < 4
                · have hon := hO2.onCell hk4
                  have hcl : cntU u2 k ≤ 4 := Nat.le_trans (cntU_le u2 k) hk
                  cases huk : u2 k
                  · rw [huk] at hon
                    have hcs : cntU u2 (k + 1) = cntU u2 k := by simp [cntU, huk]
                    have HC := Lib.hid hcs
                    clear hcs huk
                    go_wp2
                    go_roundw
                    case rel => exact ⟨k + 1, by omega, by go_num, by rw [HC.out], trivial⟩
                    case measure => simp [intOf]; omega
                  · rw [huk] at hon
                    have hcs : cntU u2 (k + 1) = cntU u2 k + 1 := by simp [cntU, huk]
                    have HC := Lib.hid hcs
                    clear hcs huk
                    go_wp2
                    go_roundw
                    case rel => exact ⟨k + 1, by omega, by go_num, by rw [HC.out]; go_num, trivial⟩
                    case measure => simp [intOf]; omega
                · obtain rfl : k = 4 := by omega
                  have hcnt : (cntU u2 4 : Int) = l2.length := by rw [hO2.ids.count]
                  go_wp2_with fail
                  refine (tmLen w.heap.size now2 u2 v2 l2 _ hO2.tm).mono ?_
                  rintro e w' ⟨rfl, rfl⟩
                  try rw [hcnt]
                  go_wp2
                  go_roundw
                  case rel => exact ⟨i + 1, u2, D2, now2, v2, l2, by omega, by go_num, hn2, hO2⟩
                  case measure => simp [intOf]; omega
      · go_wp2_with fail
        refine (tmFire w.heap.size now u v l nn _ hO1.tm hO.ids.rng' (by omega)).mono ?_
        rintro e w2 ⟨out, xs, l2, v2, rfl, hF, hr, t2, o2, f2⟩
        obtain ⟨m1, m2, m3, m4⟩ := hO1.move f2
        have hownlt : ∀ g, v.ownBlock = some g → g < wo.heap.size := fun g hg => (hO.tm.row.own g hg).2
        have hAf := (f2.block _ (lt_heap hA) (by have := hO.tm.lt; omega) (fun e => by have := hownlt _ e.symm; omega)).trans hA
        have hact2 : w2.cell? ⟨wo.heap.size, 1, none⟩ = some (.int .i64 _) := cell_of_row _ _ _ _ _ _ hAf
        have z1 : ∀ j, w2.frozen? ⟨wa.heap.size + 1, j, none⟩ = false := fun j => by simp [World.frozen?, m1]
        have z2 : ∀ j, w2.frozen? ⟨wa.heap.size, j, none⟩ = false := fun j => by simp [World.frozen?, m2]
        have hne1 : ¬ wo.heap.size = wa.heap.size + 1 := by have := lt_heap hO.on; omega
        have hne2 : ¬ wa.heap.size + 1 = wo.heap.size := by have := lt_heap hO.on; omega
        obtain ⟨ao, co, rfl, hoc, hom, hids⟩ := ownsRow_ids o2
        have hxl : xs.length ≤ 4 := by have := hF.perm.length_eq; rw [List.length_append] at this; omega
        have hxs : ∀ x ∈ xs, x ∈ l := fun x hx => hF.perm.subset (List.mem_append_left _ hx)
        have hB : wa.heap.size + 1 < wo.heap.size := lt_heap hO.on
        have hwl : wo.heap.size < w2.heap.size := lt_heap hAf
        have hbdl : wa.heap.size < w2.heap.size := lt_heap m2
        have HID := Lib.hid hids
        clear hids hact
        go_wp2_with fail
        go_loopw [12, 13] (fun lv jv wr => ∃ j : Nat, j ≤ xs.length ∧ jv = .int .i64 j ∧ lv = .int .i64 (lastD xs j) ∧ Upd (wa.heap.size + 1) w2 wr ∧ wr.heap[wa.heap.size + 1]? = some (.cells (onBlk (offU u (xs.take j))) 37 (0, 0))) (fun _ jv _ => xs.length - (intOf jv).toNat)
        case atStart => exact ⟨0, Nat.zero_le _, rfl, rfl, Upd.refl _ _, by rw [List.take_zero, offU_nil]; exact m1⟩
        case round =>
          obtain ⟨j, hj, rfl, rfl, hu2, hon⟩ := hrel
          by_cases hjl : j < xs.length
          · obtain ⟨g, rfl, hgB, hgl, hcj⟩ := HID.out j hjl
            simp only [World.size_alloc] at hgB
            have hxin := hxs _ (mem_atL hjl)
            obtain ⟨q, hq, hqe, _⟩ := hO.ids.rng _ hxin
            obtain ⟨hDq, hD0⟩ := hO.dues _ hxin q hqe
            have hlast := lastD_le hF hjl hD0
            have hdn := hF.due _ (mem_atL hjl)
            have hfon := fired_on hO.ids hF.perm hjl hqe
            have hnext : putU (offU u (xs.take j)) q false = offU u (xs.take (j + 1)) := by rw [offU_snoc _ _ _ _ hqe, take_succ_atL hjl]
            have hls := lastD_succ xs j
            rw [hqe] at hcj
            have c1 : wr.cell? ⟨g, j, none⟩ = some (.int .i64 q) := (World.cell?_of_block (w := w2) (hu2.block g hgl (fun e => by simp only [Option.some.injEq] at e; omega))).trans hcj
            have c2 : wr.cell? ⟨wa.heap.size + 1, q, none⟩ = some (.bool true) := by rw [cell_of_row _ _ _ _ _ _ hon, onBlk_at _ q hq, hfon]
            have c3 : wr.cell? ⟨wa.heap.size, q, none⟩ = some (.int .i64 (D q)) := (World.cell?_of_block (w := w2) (hu2.block _ hbdl (fun e => by simp only [Option.some.injEq] at e; omega))).trans (by rw [cell_of_row _ _ _ _ _ _ m2, dueBlk_at D q hq])
            have c4 : wr.cell? ⟨wo.heap.size, 1, none⟩ = some (.int .i64 nn) := (World.cell?_of_block (w := w2) (hu2.block _ hwl (fun e => by simp only [Option.some.injEq] at e; omega))).trans hact2
            have z3 : wr.frozen? ⟨wa.heap.size + 1, q, none⟩ = false := by simp [World.frozen?, hon]
            rw [hDq] at c3
            have HLS := Lib.hid hls
            have HN := Lib.hid hnext
            clear hls hnext hqe hfon hDq
            obtain ⟨dq, hdq⟩ : ∃ dq, (atL xs j).due = dq := ⟨_, rfl⟩
            obtain ⟨la, hla⟩ : ∃ la, lastD xs j = la := ⟨_, rfl⟩
            rw [hdq] at c3 hD0 hdn hlast HLS
            rw [hla] at hlast ⊢
            clear hdq hla
            have g0 : wa.heap.size < wr.heap.size := Nat.lt_of_lt_of_le hbdl hu2.size
            have g1 : wa.heap.size + 1 < wr.heap.size := lt_heap hon
            have g2 : wo.heap.size < wr.heap.size := Nat.lt_of_lt_of_le hwl hu2.size
            have g3 : g < wr.heap.size := Nat.lt_of_lt_of_le hgl hu2.size
            have d0 : decide ((q : Int) < 0) = false := decide_eq_false (by omega)
            have d4 : decide (4 ≤ q) = false := decide_eq_false (by omega)
            have d4i : decide ((4 : Int) ≤ (q : Int)) = false := decide_eq_false (by omega)
            have dn : decide (nn < dq) = false := decide_eq_false (by omega)
            have dl : decide (dq < la) = false := decide_eq_false (by omega)
            go_wp2_with fail
            refine wp_region_later (by kernel_rfl) (by kernel_rfl) ?_
            (repeat (go_big_quiet_step (fail)))
            refine wpQuiet_nil ?_
            intro _ hw'
            obtain ⟨x8, hw''⟩ := hw'
            subst hw''
            go_wp2
            go_roundw
            case rel =>
              refine ⟨j + 1, by omega, by go_num, by rw [HLS.out], hu2.later.setCell, ?_⟩
              have := heap_setCell_at (o := q) (u := .bool false) (heap_later (x := x8) hon)
              rw [onBlk_set _ _ _ hq, HN.out] at this
              exact this
            case measure => simp [intOf]; omega
          · obtain rfl : j = xs.length := by omega
            rw [List.take_length] at hon
            have hO2 := hO1.fired t2 hF.perm f2 hu2 hon
            have c4 : wr.cell? ⟨wo.heap.size, 1, none⟩ = some (.int .i64 nn) := (World.cell?_of_block (w := w2) (hu2.block _ hwl (fun e => by simp only [Option.some.injEq] at e; omega))).trans hact2
            have g2 : wo.heap.size < wr.heap.size := Nat.lt_of_lt_of_le hwl hu2.size
            have hleft : ∀ k, k < 4 → offU u xs k = true → nn < D k := fun k hk huk => by
              obtain ⟨y, hy, hye⟩ := hO2.ids.all k hk huk
              rw [(hO2.dues y hy k hye).1]
              exact hr y hy
            have HLF := Lib.hid hleft
            clear hleft hA hO1 r0 r1 hownlt hAf hact2 z1 z2 m1 m2 m3 m4 f2 t2 hon hu2 hF hr o2 HID
            go_wp2_with fail
            obtain ⟨w3, rfl⟩ : ∃ w3 : World, w3 = wr := ⟨_, rfl⟩
            go_loopw [15] (fun kv wz => ∃ k : Nat, k ≤ 4 ∧ kv = .int .i64 k ∧ Bel w3.heap.size w3 wz) (fun kv _ => 4 - (intOf kv).toNat)
            case atStart => exact ⟨0, by omega, rfl, Bel.refl _⟩
            case round =>
              obtain ⟨k, hk, rfl, hbz⟩ := hrel
              have hO3 := hO2.below hbz.1
              by_cases hk4 : k < 4
              · have e1 := hO3.onCell hk4
                have e2 := hO3.dueCell hk4
                have e4 : wr.cell? ⟨wo.heap.size, 1, none⟩ = some (.int .i64 nn) := (hbz.1.cell (p := ⟨wo.heap.size, 1, none⟩) g2).trans c4
                have g0 : wa.heap.size < wr.heap.size := lt_heap hO3.due
                have g1 : wa.heap.size + 1 < wr.heap.size := lt_heap hO3.on
                have g3 : wo.heap.size < wr.heap.size := Nat.lt_of_lt_of_le g2 hbz.2
                have hl := HLF.out k hk4
                generalize D k = dk at *
                cases hc : offU u xs k
                · rw [hc] at e1
                  clear hl hc
                  go_wp2_with fail
                  refine wp_region_later (by kernel_rfl) (by kernel_rfl) ?_
                  (repeat (go_big_quiet_step (fail)))
                  refine wpQuiet_nil ?_
                  intro _ hw'
                  obtain ⟨x8, hw''⟩ := hw'
                  subst hw''
                  go_wp2
                  go_roundw
                  case rel => exact ⟨k + 1, by omega, by go_num, hbz.later⟩
                  case measure => simp [intOf]; omega
                · have hl2 := hl hc
                  rw [hc] at e1
                  have dd : decide (dk ≤ nn) = false := decide_eq_false (by omega)
                  clear hl hc
                  go_wp2_with fail
                  refine wp_region_later (by kernel_rfl) (by kernel_rfl) ?_
                  (repeat (go_big_quiet_step (fail)))
                  refine wpQuiet_nil ?_
                  intro _ hw'
                  obtain ⟨x8, hw''⟩ := hw'
                  subst hw''
                  go_wp2
                  go_roundw
                  case rel => exact ⟨k + 1, by omega, by go_num, hbz.later⟩
                  case measure => simp [intOf]; omega
              · obtain rfl : k = 4 := by omega
                go_wp2_with fail
                obtain ⟨wz, rfl⟩ : ∃ wz : World, wz = wr := ⟨_, rfl⟩
                obtain ⟨u2, D2, now2, v2, l2, hn2, hO2⟩ : ∃ u2 D2 now2 v2 l2, now2 ≤ i + 1 ∧ Once w wa.heap.size (wa.heap.size + 1) wz u2 D2 now2 v2 l2 := ⟨_, _, _, _, _, by omega, hO3⟩
                clear hO3 hbz HLF c4 g2
                go_loopw [16, 17] (fun nv kv wr => ∃ k : Nat, k ≤ 4 ∧ kv = .int .i64 k ∧ nv = .int .i64 (cntU u2 k) ∧ wr = wz) (fun _ kv _ => 4 - (intOf kv).toNat)
                case atStart => exact ⟨0, by omega, rfl, rfl, rfl⟩
                case round =>
                  obtain ⟨k, hk, rfl, rfl, hwz⟩ := hrel
                  obtain rfl := hwz.symm
                  by_cases hk4 : k < 4
                  · have hon := hO2.onCell hk4
                    have hcl : cntU u2 k ≤ 4 := Nat.le_trans (cntU_le u2 k) hk
                    cases huk : u2 k
                    · rw [huk] at hon
                      have hcs : cntU u2 (k + 1) = cntU u2 k := by simp [cntU, huk]
                      have HC := Lib.hid hcs
                      clear hcs huk
                      go_wp2
                      go_roundw
                      case rel => exact ⟨k + 1, by omega, by go_num, by rw [HC.out], trivial⟩
                      case measure => simp [intOf]; omega
                    · rw [huk] at hon
                      have hcs : cntU u2 (k + 1) = cntU u2 k + 1 := by simp [cntU, huk]
                      have HC := Lib.hid hcs
                      clear hcs huk
                      go_wp2
                      go_roundw
                      case rel => exact ⟨k + 1, by omega, by go_num, by rw [HC.out]; go_num, trivial⟩
                      case measure => simp [intOf]; omega
                  · obtain rfl : k = 4 := by omega
                    have hcnt : (cntU u2 4 : Int) = l2.length := by rw [hO2.ids.count]
                    go_wp2_with fail
                    refine (tmLen w.heap.size now2 u2 v2 l2 _ hO2.tm).mono ?_
                    rintro e w' ⟨rfl, rfl⟩
                    try rw [hcnt]
                    go_wp2
                    go_roundw
                    case rel => exact ⟨i + 1, u2, D2, now2, v2, l2, by omega, by go_num, hn2, hO2⟩
                    case measure => simp [intOf]; omega
    · go_wp2_with fail
      all_goals
        refine (awake29 _).mono ?_
        rintro e w7 ⟨rfl, b7⟩
        go_wp2
        go_ret
        exact ⟨rfl, (hO.bel.of b7).1⟩
end Go.Proofs.Ytjlhdbkhebfghaa
