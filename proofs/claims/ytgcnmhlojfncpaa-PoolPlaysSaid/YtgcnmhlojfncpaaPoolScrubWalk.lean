/- law 07: PoolScrub. -/
import Derived.Test.YtgcnmhlojfncpaaPs
import Derived.Test.YtgcnmhlojfncpaaPoolApartWalk
namespace Go.Proofs.Ytgcnmhlojfncpaa
open Go.ChangeShapes Go.WideShapes Go.ChangeAt Go.RowKit
set_option linter.unusedVariables false

theorem Try.intInfo : (Try.prog.info? 3).map (fun i => (i.zero, i.size, i.bytes)) = some (some (.int .i64 0), 1, 8) := by kernel_rfl
theorem save_inI (s fb n f a : Nat) (y : Int) (hy : y = a) (v : Int) (G : Nat → Int) (w : World) (h : StoAt w s fb n G) (hf : f < n) (ha : a + 4 ≤ 64) (h0 : 0 ≤ v) (h1 : v ≤ 4294967295) :
    Calls Try.prog 21 #[.pointer (some ⟨s, 0, none⟩), .int .i64 f, .int .i64 y, .int .i64 4, .int .u32 v] w fun e w' => e = .returned (.int .i64 0) ∧ Upd fb w w' ∧ StoAt w' s fb n (putF G (f * 64 + a) 4 v) := by
  subst hy
  exact save_in s fb n f a 4 v G w h hf (by omega) ha h0 h1
theorem left_taken {S : List stIt} {g f : Nat} (h : Low S g f) : (leftL (S.set f ⟨g, true⟩) g).length + 1 = (leftL S g).length := by
  have h1 := (left_set (S := S) (q := g) (x := ⟨g, true⟩) h.lt).length_eq
  have h2 := (left_set (S := S) (q := g) (x := atL S f) h.lt).length_eq
  rw [set_self h.lt, if_pos ⟨h.who, h.tk⟩] at h2
  rw [if_neg (by simp)] at h1
  rw [h1, h2]
  simp
/-- Owned up to f. -/
def Upto (n : Nat) (G : Nat → Int) (S : List stIt) (f : Nat) : Prop := S.length = n ∧ ∀ k, k < n → (atL S k).tk = false ∧ cleanB (fr G k) = true ∧ (k < f → ∃ g : Nat, g < 4 ∧ (atL S k).who = g) ∧ (f ≤ k → (atL S k).who = -1)
theorem Upto.own {n : Nat} {G : Nat → Int} {S : List stIt} {f g : Nat} (h : Upto n G S f) (hf : f < n) (hg : g < 4) : Upto n (putF G (f * 64) 64 0) (S.set f ⟨g, false⟩) (f + 1) := by
  refine ⟨by rw [List.length_set]; exact h.1, fun k hk => ?_⟩
  rw [atL_setS (by rw [h.1]; exact hf)]
  by_cases e : k = f
  · subst e
    rw [if_pos rfl]
    exact ⟨rfl, clean_self G k, fun _ => ⟨g, hg, rfl⟩, fun _ => by omega⟩
  · rw [if_neg e, clean_else e]
    obtain ⟨h1, h2, h3, h4⟩ := h.2 k hk
    exact ⟨h1, h2, fun _ => h3 (by omega), fun _ => h4 (by omega)⟩
theorem Upto.have {n : Nat} {G : Nat → Int} {S : List stIt} (h : Upto n G S n) : Have n G S [] :=
  ⟨h.1, fun f hf => (h.2 f hf).2.2.1 hf, fun f hf => ⟨fun e => absurd e (by rw [(h.2 f hf).1]; decide), fun e => by cases e⟩, fun f hf _ => (h.2 f hf).2.1, List.nodup_nil, fun x hx => by cases hx⟩

set_option maxRecDepth 100000 in
set_option maxHeartbeats 4000000 in
theorem poolScrub_walk (a0 : Int) (p1 : Option Addr) (n1 c1 : Nat) (f1 : Nat → List Value) (a2 : Int) (w : World) (w0 : (Lit.int .u8 a0).wf = true) (w1 : SliceOk [some .u8] w p1 n1 c1 f1) (hR1 : c1 * 1 ≤ 140737488351232) (w2 : (Lit.int .u32 a2).wf = true) :
    Calls Try.prog 6 #[.int .u8 a0, .slice p1 n1 c1, .int .u32 a2] w fun e w' => e = .returned (.bool true) ∧ Below w.heap.size w w' := by
  obtain ⟨i0, hi, hz0, hz1, hz2⟩ := info_parts Try.intInfo
  have b0 := bounds_u8 w0
  obtain ⟨b00, b01⟩ := b0
  have b2 := bounds_u32 w2
  obtain ⟨b20, b21⟩ := b2
  obtain ⟨n, hN, hN1, hN2⟩ : ∃ N : Nat, (1 + a0 % 32 : Int) = N ∧ 1 ≤ N ∧ N ≤ 32 := ⟨(1 + a0 % 32).toNat, by omega, by omega, by omega⟩
  have HN := Lib.hid hN
  clear hN w0 w2 hR1
  go_enter Try.func6, Try.ntmps6
  go_wp2_with fail
  rw [HN.out]
  refine (fnew_full n _ hN2).mono ?_
  rintro e wa ⟨s, fb, rfl, hs, hfb, hst, hba⟩
  have hbela : Bel w.heap.size w wa := Bel.of (Bel.refl w) hba
  clear HN
  go_wp2_with fail
  refine (plNew s fb n _ _ hst (by omega)).mono ?_
  rintro e wc ⟨b, st, rfl, hb, hp, hbc, hstc⟩
  have hT0 : Scr w wc b s fb n (fun _ => 0) nilV (fun _ => []) st (List.replicate n ⟨-1, false⟩) (.slice none 0 0) [] := by
    have hs1 := hbela.2
    exact ⟨hp, ⟨by omega, by omega, by omega, fun g hg a ha => (by cases ha), fun a ha => by have := hstc a ha; omega⟩, hbela.of hbc, World.ownsRow_nil _ _ _ _, fun a ha => by cases ha⟩
  have hU0 : Upto n (fun _ => 0) (List.replicate n ⟨-1, false⟩) 0 := by
    refine ⟨List.length_replicate, fun k hk => ?_⟩
    rw [atL_replicate hk]
    exact ⟨rfl, cleanB_true.2 (fun _ _ => rfl), fun h => by omega, fun _ => rfl⟩
  clear hst hp hba hbc hs hfb hb hstc hbela
  go_wp2_with fail
  go_loopw [12] (fun iv wr => ∃ (f : Nat) (G : Nat → Int) (V : Nat → Value) (L : Nat → List plIt) (S : List stIt), f ≤ n ∧ iv = .int .i64 f ∧ Scr w wr b s fb n G V L st S (.slice none 0 0) [] ∧ Upto n G S f) (fun iv _ => n - (intOf iv).toNat)
  case atStart => exact ⟨0, _, _, _, _, Nat.zero_le _, rfl, hT0, hU0⟩
  case round =>
    clear hT0 hU0
    obtain ⟨f, G, V, L, S, hfn, rfl, hT, hU⟩ := hrel
    by_cases hf : f < n
    · by_cases hw : f < n1
      · obtain ⟨b1, o1, y, rfl, l1, _, wy, q1⟩ := w1.int1 hw
        have r1 := (hT.bel.1.cell (p := ⟨b1, o1 + f, none⟩) l1).trans q1
        have by1 := bounds_u8 wy
        obtain ⟨by0, by1⟩ := by1
        obtain ⟨x, hx, hx2⟩ : ∃ x : Nat, (y % 4 : Int) = x ∧ x < 4 := ⟨(y % 4).toNat, by omega, by omega⟩
        have HX := Lib.hid hx
        clear w1 wy hx
        go_wp2_with fail
        clear r1
        refine (plOwnI f _ x HX.out _ hT.pl hf (by omega) ((hU.2 f hf).2.2.2 (Nat.le_refl _))).mono ?_
        rintro e w2 ⟨rfl, v2, l2, h2, f2, o2⟩
        have hT2 := hT.step (by omega) h2 f2 o2
        have hU2 := hU.own hf hx2
        clear hT h2 f2 o2 hU
        go_wp2
        go_roundw
        case rel => exact ⟨f + 1, _, _, _, _, by omega, by go_num, hT2, hU2⟩
        case measure => simp [intOf]; omega
      · obtain ⟨x, hx0⟩ : ∃ x : Nat, x = 0 := ⟨0, rfl⟩
        have hx2 : x < 4 := by omega
        have hx : (0 : Int) = (x : Nat) := by omega
        have HX := Lib.hid hx
        clear w1 hx hx0
        go_wp2_with fail
        refine (plOwnI f _ x HX.out _ hT.pl hf (by omega) ((hU.2 f hf).2.2.2 (Nat.le_refl _))).mono ?_
        rintro e w2 ⟨rfl, v2, l2, h2, f2, o2⟩
        have hT2 := hT.step (by omega) h2 f2 o2
        have hU2 := hU.own hf hx2
        clear hT h2 f2 o2 hU
        go_wp2
        go_roundw
        case rel => exact ⟨f + 1, _, _, _, _, by omega, by go_num, hT2, hU2⟩
        case measure => simp [intOf]; omega
    · clear w1
      have e : n = f := by omega
      subst e
      have hH0 := hU.have
      clear hU hf hfn
      obtain ⟨wx, rfl⟩ : ∃ wx : World, wx = wr := ⟨_, rfl⟩
      go_wp2_with fail
      go_loopw [14] (fun iv wr => ∃ (t : Nat) (G : Nat → Int) (V : Nat → Value) (L : Nat → List plIt) (S : List stIt), t ≤ 2 ∧ iv = .int .i64 t ∧ Scr w wr b s fb n G V L st S (.slice none 0 0) [] ∧ Have n G S []) (fun iv _ => 2 - (intOf iv).toNat)
      case atStart => exact ⟨0, _, _, _, _, by omega, rfl, hT, hH0⟩
      case round =>
        clear hT hH0
        obtain ⟨t, G, V, L, S, ht2, rfl, hT, hH0⟩ := hrel
        by_cases ht : t < 2
        · have htd : decide ((t : Int) < 2) = true := decide_eq_true (by omega)
          go_wp2_with fail
          go_loopw [15, 16] (fun lv wv wr => ∃ (g : Nat) (G : Nat → Int) (V : Nat → Value) (L : Nat → List plIt) (S : List stIt) (T : List plIt), g ≤ 4 ∧ wv = .int .i64 g ∧ Scr w wr b s fb n G V L st S lv T ∧ Have n G S T ∧ ∀ k, k < n → ∀ h : Nat, h < g → (atL S k).who = h → (atL S k).tk = true) (fun _ wv _ => 4 - (intOf wv).toNat)
          case atStart => exact ⟨0, _, _, _, _, [], by omega, rfl, hT, hH0, fun k hk h hh => by omega⟩
          case round =>
            clear hT hH0
            obtain ⟨g, G, V, L, S, T, hg4, rfl, hT, hH, hall⟩ := hrel
            by_cases hg : g < 4
            · go_wp2_with fail
              refine (plLeft g _ hT.pl.toPlIn hT.pl.pos (by omega)).mono ?_
              rintro e w2 ⟨rfl, rfl⟩
              have hm32 : (L g).length ≤ 32 := by
                have h1 := (hT.pl.perm g (by omega)).length_eq
                have h2 := left_le (S := S) (q := g)
                rw [hT.pl.len] at h2
                omega
              obtain ⟨m, hm⟩ : ∃ m, (L g).length = m := ⟨_, rfl⟩
              rw [hm] at hm32 ⊢
              go_wp2_with fail
              go_loopw [15, 18] (fun lv iv wr => ∃ (i : Nat) (G : Nat → Int) (V : Nat → Value) (L : Nat → List plIt) (S : List stIt) (T : List plIt), i + (L g).length = m ∧ iv = .int .i64 i ∧ Scr w wr b s fb n G V L st S lv T ∧ Have n G S T ∧ ∀ k, k < n → ∀ h : Nat, h < g → (atL S k).who = h → (atL S k).tk = true) (fun _ iv _ => m - (intOf iv).toNat)
              case atStart => exact ⟨0, _, _, _, _, _, by omega, rfl, hT, hH, hall⟩
              case round =>
                clear hT hH hall hm
                obtain ⟨i, G, V, L, S, T, hil, rfl, hT, hH, hall⟩ := hrel
                by_cases him : i < m
                · have hi40 : i < 40 := by omega
                  go_wp2_with fail
                  rcases plTakeAny g _ hT.pl (by omega) with ⟨h0, hc⟩ | ⟨f, hf, hlow, hc⟩
                  · omega
                  · refine hc.mono ?_
                    rintro e w2 ⟨rfl, v2, l2, h2, f2, o2⟩
                    have hT2 := hT.step (by omega) h2 f2 o2
                    have hl2 : (setV L g l2 g).length + 1 = (L g).length := by
                      rw [(h2.perm g (by omega)).length_eq, (hT.pl.perm g (by omega)).length_eq]
                      exact left_taken hlow
                    have hat : atL (S.set f ⟨(g : Nat), true⟩) f = ⟨(g : Nat), true⟩ := by rw [atL_setS (by rw [hT.pl.len]; exact hf), if_pos rfl]
                    have hcl := hH.clean f hf hlow.tk
                    have HL := Lib.hid hl2
                    clear hc h2 f2 o2 hT hl2
                    go_wp2_with fail
                    refine (plWho f g _ hT2.pl.toPlIn hf (by rw [hat])).mono ?_
                    rintro e w3 ⟨rfl, rfl⟩
                    go_wp2_with fail
                    refine (clean_in s fb n f G _ hT2.pl.sto hf).mono ?_
                    rintro e w4 ⟨rfl, b4⟩
                    rw [hcl]
                    have hT4 := hT2.below b4
                    clear hT2 b4
                    go_wp2_with fail
                    refine (plTaken f _ hT4.pl.toPlIn hf).mono ?_
                    rintro e w5 ⟨rfl, rfl⟩
                    rw [hat]
                    have ha16 : (4 * ((f : Int) % 16) : Int) = ((4 * (f % 16) : Nat) : Int) := by omega
                    have HA := Lib.hid ha16
                    clear ha16
                    go_wp2_with fail
                    refine (save_inI s fb n f (4 * (f % 16)) _ HA.out a2 G _ hT4.pl.sto hf (by omega) b20 b21).mono ?_
                    rintro e w6 ⟨rfl, u6, s6⟩
                    have hT6 := hT4.saved u6 s6
                    have hH6 := hH.take (v := a2) (a := 4 * (f % 16)) (m := 4) hf hg hlow.tk (by omega)
                    have hall6 : ∀ k, k < n → ∀ h : Nat, h < g → (atL (S.set f ⟨(g : Nat), true⟩) k).who = h → (atL (S.set f ⟨(g : Nat), true⟩) k).tk = true := by
                      intro k hk h hh
                      rw [atL_setS (by rw [hH.len]; exact hf)]
                      by_cases e : k = f
                      · rw [if_pos e]; intro _; rfl
                      · rw [if_neg e]; exact hall k hk h hh
                    clear hT4 u6 s6 hall hat hcl HA
                    obtain ⟨aT, cT, rfl⟩ := ownsRow_shape hT6.row
                    have hTl : T.length ≤ 32 := by
                      have := hH.short
                      omega
                    have hsucc : T.flatMap plEnc ++ [.int .i64 (f : Int)] = T.flatMap plEnc ++ plEnc ⟨(f : Int)⟩ := rfl
                    clear hH
                    have HS := Lib.hid hsucc
                    have hws := hT6.bel.2
                    clear hsucc
                    go_wp2_with (at_builtin; refine wpList_append_lies _ rfl _ _ 38 rfl w.heap.size 3 i0 (.int .i64 0) 1 8 Try.underlying38 hi hz0 hz1 hz2 rfl (by decide) _ _ _ rfl (World.ownsRow.alloc hT6.row _) ⟨w6.heap.size, 0, none⟩ 1 1 [.int .i64 f] rfl rfl ?c1 ?c2 (by decide) ?c3 ?c4 ?c5 (w6.heap.size + 1) ?c6 ?_)
                    case c1 =>
                      intro x u hx
                      match x, hx with
                      | 0, hx => simp at hx; subst hx; simp [Addr.add]
                    case c2 => intro u hu; simp at hu; subst hu; rfl
                    case c3 => unfold maxLen; omega
                    case c4 => omega
                    case c5 => simp; omega
                    case c6 => simp
                    intro g7 cap7 w7 hown7 hgrow7 hat7 hlt7
                    rw [HS.out] at hown7
                    have hT7 := hT6.grew hown7 hgrow7 hat7
                    clear hT6 hown7 hgrow7 hat7 hlt7 HS
                    have hl7 := HL.out
                    go_wp2
                    go_roundw
                    case rel => exact ⟨i + 1, _, _, _, _, _, by omega, by go_num, hT7, hH6, hall6⟩
                    case measure => simp [intOf]; omega
                · have h0 : (L g).length = 0 := by omega
                  have him2 : ¬ (i : Int) < m := by omega
                  have hnl := hT.pl.none_left (by omega) h0
                  obtain ⟨wy, rfl⟩ : ∃ wy : World, wy = wr := ⟨_, rfl⟩
                  go_wp2_with fail
                  refine (plTakeFull g _ hT.pl.toPlIn hT.pl.pos (by omega) h0).mono ?_
                  rintro e w2 ⟨rfl, rfl⟩
                  go_wp2
                  go_roundw
                  case rel =>
                    refine ⟨g + 1, _, _, _, _, _, by omega, by go_num, hT, hH, fun k hk h hh hw => ?_⟩
                    by_cases e : h = g
                    · subst e
                      cases htk : (atL S k).tk
                      · exact absurd ⟨hw, htk⟩ (hnl k hk)
                      · rfl
                    · exact hall k hk h (by omega) hw
                  case measure => simp [intOf]; omega
            · have hfull := hH.full (fun k hk => by
                obtain ⟨h, hh, hw⟩ := hH.who k hk
                exact hall k hk h (by omega) hw)
              have hG0 := hH.gone
              obtain ⟨aT, cT, hlv⟩ := ownsRow_shape hT.row
              rw [hfull] at hlv
              subst hlv
              have HF := Lib.hid hfull
              obtain ⟨wy, rfl⟩ : ∃ wy : World, wy = wr := ⟨_, rfl⟩
              clear hH hall hfull
              go_wp2_with fail
              go_loopw [25] (fun iv wr => ∃ (i : Nat) (G : Nat → Int) (V : Nat → Value) (L : Nat → List plIt) (S : List stIt), i ≤ n ∧ iv = .int .i64 i ∧ Scr w wr b s fb n G V L st S (.slice aT n cT) T ∧ Gone n G S T i) (fun iv _ => n - (intOf iv).toNat)
              case atStart => exact ⟨0, _, _, _, _, by omega, rfl, hT, hG0⟩
              case round =>
                clear hT hG0
                obtain ⟨i, G, V, L, S, hil, rfl, hT, hG⟩ := hrel
                by_cases him : i < n
                · have himT : i < T.length := by rw [HF.out]; exact him
                  obtain ⟨f, hf, hat⟩ := hG.lt i himT
                  have htk := (hG.tk f hf).2 ⟨i, Nat.le_refl _, himT, hat⟩
                  obtain ⟨gl, cap, hlv, hgl, hc⟩ := hT.item himT
                  rw [HF.out] at hlv
                  rw [hat] at hc
                  cases hlv
                  go_wp2_with fail
                  refine (plBack f _ hT.pl hf htk).mono ?_
                  rintro e w2 ⟨rfl, g, v2, l2, hg, hw, h2, f2, o2⟩
                  have hT2 := hT.step hg h2 f2 o2
                  have hg4 : g < 4 := by
                    obtain ⟨g', h1, h3⟩ := hG.who f hf
                    omega
                  have hG2 := hG.back hf hg4 himT hat
                  have htk2 : (atL (S.set f ⟨(g : Nat), false⟩) f).tk = false := by rw [atL_setS (by rw [hG.len]; exact hf), if_pos rfl]
                  obtain ⟨gl2, cap2, hlv2, hgl2, hc2⟩ := hT2.item himT
                  rw [HF.out] at hlv2
                  rw [hat] at hc2
                  cases hlv2
                  clear hT h2 f2 o2 hc hgl hG himT
                  go_wp2_with fail
                  refine (plBackFree f _ hT2.pl.toPlIn hf htk2).mono ?_
                  rintro e w3 ⟨rfl, rfl⟩
                  go_wp2_with fail
                  refine (clean_in s fb n f _ _ hT2.pl.sto hf).mono ?_
                  rintro e w4 ⟨rfl, b4⟩
                  rw [clean_self G f]
                  have hT4 := hT2.below b4
                  clear hT2 b4 hc2 hgl2
                  go_wp2
                  go_roundw
                  case rel => exact ⟨i + 1, _, _, _, _, by omega, by go_num, hT4, hG2⟩
                  case measure => simp [intOf]; omega
                · have hH := hG.none (by rw [HF.out]; omega)
                  have hT2 := hT.fresh
                  go_wp2
                  go_roundw
                  case rel => exact ⟨t + 1, _, _, _, _, by omega, by go_num, hT2, hH⟩
                  case measure => simp [intOf]; omega
        · have hbel := hT.bel
          clear hT hH0
          go_wp2_with fail
          refine (awake07 _).mono ?_
          rintro e w4 ⟨rfl, b4⟩
          have hb := hbel.of b4
          go_wp2
          go_ret
          exact ⟨rfl, hb.1⟩
end Go.Proofs.Ytgcnmhlojfncpaa
