/- Texts of this proof in one: ImG, ImH, ImP. -/
import Derived.Test.YtklgfnboadchmaaMrgD

section
/- image: the law package's host. -/
namespace Go.Proofs.Ytklgfnboadchmaa
open Go.ChangeShapes Go.WideShapes Go.ChangeAt Go.RowKit
set_option linter.unusedVariables false
set_option maxRecDepth 20000

/-- Whose a frame is. -/
def hostW (f : Nat) : Nat := 1 + f % 3 / 2
def HostTo (n : Nat) (S : List stIt) (f : Nat) : Prop := S.length = n ∧ ∀ k, k < n → atL S k = if k < f then ⟨hostW k, false⟩ else ⟨-1, false⟩
theorem HostTo.zero (n : Nat) : HostTo n (List.replicate n ⟨-1, false⟩) 0 := ⟨List.length_replicate, fun k hk => by rw [atL_replicate hk, if_neg (by omega)]⟩
theorem HostTo.succ {n f : Nat} {S : List stIt} (h : HostTo n S f) (hf : f < n) : HostTo n (S.set f ⟨hostW f, false⟩) (f + 1) := by
  refine ⟨by rw [List.length_set]; exact h.1, fun k hk => ?_⟩
  rw [atL_setS (by rw [h.1]; exact hf)]
  by_cases e : k = f
  · subst e
    rw [if_pos rfl, if_pos (by omega)]
  · rw [if_neg e, h.2 k hk]
    by_cases e2 : k < f
    · rw [if_pos e2, if_pos (by omega)]
    · rw [if_neg e2, if_neg (by omega)]
def hostL (n : Nat) : List stIt := (List.range n).map fun k => ⟨hostW k, false⟩
theorem HostTo.eq {n : Nat} {S : List stIt} (h : HostTo n S n) : S = hostL n := by
  refine List.ext_getElem (by rw [h.1]; simp [hostL]) fun k h1 h2 => ?_
  have := h.2 k (by rw [← h.1]; exact h1)
  rw [atL_eq h1, if_pos (by rw [← h.1]; exact h1)] at this
  rw [this]
  simp [hostL]
theorem putF_none (a m : Nat) : putF (fun _ => 0) a m 0 = fun _ => 0 := by
  funext i
  unfold putF
  split <;> simp
section
variable {b s fb n : Nat} {G : Nat → Int} {V : Nat → Value} {L : Nat → List plIt} {st : Value} {S : List stIt} {q t rb : Nat} {uv tv : Value}
theorem plOwnM (f : Nat) (y : Int) (g : Nat) (hy : y = g) (w : World) (h : PlAt w b s fb n G V L st S) (hf : f < n) (hg : g < 16) (hw : (atL S f).who = -1) :
    Calls Try.prog 30 #[.pointer (some ⟨b, 0, none⟩), .int .i64 f, .int .i64 y] w fun e w' => e = .returned (.int .i64 0) ∧ PMove w w' b s fb n (putF G (f * 64) 64 0) V L st (S.set f ⟨g, false⟩) := by
  subst hy
  refine (plOwn f g w h hf hg hw).mono ?_
  rintro e w' ⟨rfl, v', l', h2, f2, o2⟩
  exact ⟨rfl, g, v', l', hg, h2, f2, o2⟩
theorem rpOwnI (f : Nat) (y : Int) (g : Nat) (hy : y = g) (w : World) (h : RPlAt w q t rb n G uv tv S) (hf : f < n) (hg : g < 16) (hw : (atL S f).who = -1) :
    Calls Try.prog 31 #[.pointer (some ⟨q, 0, none⟩), .int .i64 f, .int .i64 y] w fun e w' => e = .returned (.int .i64 0) ∧ RMove w w' q t rb n (putF G (f * 64) 64 0) uv tv (S.set f ⟨g, false⟩) := by
  subst hy
  refine (rpOwn f g w h hf hg hw).mono ?_
  rintro e w' ⟨rfl, h2, f2⟩
  exact ⟨rfl, h2, f2⟩
end
set_option maxHeartbeats 4000000 in
theorem host_any (a : Int) (n : Nat) (hn : 1 + a % 32 = (n : Int)) (ha : 0 ≤ a) (ha2 : a ≤ 255) (w : World) :
    Calls Try.prog 7 #[.int .u8 a] w fun e w' => ∃ b s fb q t rb V L st uv tv, e = .returned (.tuple #[.pointer (some ⟨s, 0, none⟩), .pointer (some ⟨b, 0, none⟩), .pointer (some ⟨t, 0, none⟩), .pointer (some ⟨q, 0, none⟩)]) ∧ PP w w' n b s fb (fun _ => 0) V L st (hostL n) q t rb (fun _ => 0) uv tv (hostL n) := by
  have hn32 : n ≤ 32 := by omega
  have hn0 : 0 < n := by omega
  have HN := Lib.hid hn
  clear hn
  go_enter Try.func7, Try.ntmps7
  go_wp2_with fail
  rw [HN.out]
  refine (fnew_full n _ hn32).mono ?_
  rintro e wa ⟨s, fb, rfl, hs, hfb, hst, hba⟩
  have hbela : Bel w.heap.size w wa := Bel.of (Bel.refl w) hba
  go_wp2_with fail
  refine (rnew_full n _ hn32).mono ?_
  rintro e wb ⟨t, rb, rfl, ht, hrb, hrst, hbb⟩
  have hbelb : Bel w.heap.size w wb := Bel.of hbela hbb
  replace hst := hst.below hbb
  replace hrb : w.heap.size ≤ rb := Nat.le_trans hbela.2 hrb
  go_wp2_with fail
  refine (plNew s fb n _ _ hst hn0).mono ?_
  rintro e wc ⟨b, st, rfl, hb, hp, hbc, hstc⟩
  have hrst3 := hrst.below hbc
  have hbelc := hbelb.of hbc
  go_wp2_with fail
  refine (rpNew t rb n _ _ hrst3 hn0).mono ?_
  rintro e wd ⟨q, uv, tv, rfl, hq, hr, hbd, hfu, hft⟩
  have hPP : PP w wd n b s fb (fun _ => 0) nilV (fun _ => []) st (List.replicate n ⟨-1, false⟩) q t rb (fun _ => 0) uv tv (List.replicate n ⟨-1, false⟩) := by
    have h1 := hbela.2
    have h2 := hbelb.2
    have h3 := hbelc.2
    exact ⟨hp.below hbd, hr, ⟨by omega, by omega, by omega, fun g hg a ha => (by cases ha), fun a ha => by have := hstc a ha; omega⟩, hrb, fun a ha => by have := hfu a ha; omega, fun a ha => by have := hft a ha; omega, fun g hg a ha => (by cases ha), hbelc.of hbd⟩
  clear hst hrst hp hrst3 hr hba hbb hbc hbd hbela hbelb hbelc hs hfb ht hrb hb hq hstc hfu hft
  go_wp2_with fail
  go_loopw [15] (fun iv wr => ∃ (i : Nat) (V : Nat → Value) (L : Nat → List plIt) (S : List stIt), i ≤ n ∧ iv = .int .i64 i ∧ PP w wr n b s fb (fun _ => 0) V L st S q t rb (fun _ => 0) uv tv S ∧ HostTo n S i) (fun iv _ => n - (intOf iv).toNat)
  case atStart => exact ⟨0, _, _, _, Nat.zero_le _, rfl, hPP, HostTo.zero n⟩
  case round =>
    clear hPP
    obtain ⟨i, V, L, S, hi, rfl, hP, hS⟩ := hrel
    by_cases hin : i < n
    · have hwho : (atL S i).who = -1 := by rw [hS.2 i hin, if_neg (by omega)]
      have hy : (1 + (i : Int) % 3 / 2) = (hostW i : Nat) := by unfold hostW; omega
      have HY := Lib.hid hy
      clear hy
      go_wp2_with fail
      refine (plOwnM i _ (hostW i) HY.out _ hP.p hin (by unfold hostW; omega) hwho).mono ?_
      rintro e w2 ⟨rfl, mx⟩
      rw [putF_none] at mx
      obtain ⟨V2, L2, hP2⟩ := hP.stepP mx
      clear mx
      go_wp2_with fail
      refine (rpOwnI i _ (hostW i) HY.out _ hP2.r hin (by unfold hostW; omega) hwho).mono ?_
      rintro e w3 ⟨rfl, my⟩
      rw [putF_none] at my
      have hP3 := hP2.stepR my
      clear my
      go_wp2_with fail
      go_roundw
      case rel => exact ⟨i + 1, V2, L2, _, by omega, by go_num, hP3, hS.succ hin⟩
      case measure => simp [intOf]; omega
    · obtain rfl : i = n := by omega
      obtain rfl := hS.eq
      go_wp2
      refine bodyPost_ret (v := .tuple #[.pointer (some ⟨s, 0, none⟩), .pointer (some ⟨b, 0, none⟩), .pointer (some ⟨t, 0, none⟩), .pointer (some ⟨q, 0, none⟩)]) (by simp [results, Try.results7, go_sem]) rfl ?_
      exact ⟨b, s, fb, q, t, rfl, rb, V, L, st, uv, tv, hP⟩
/-- A pool of the host with a map that is new. -/
theorem PP.img {w0 w : World} {n b s fb : Nat} {G : Nat → Int} {V : Nat → Value} {L : Nat → List plIt} {st : Value} {S : List stIt} {q t rb : Nat} {G2 : Nat → Int} {uv tv : Value} {S2 : List stIt} {mb : Nat} {M : Nat → Int × Int}
    (h : PP w0 w n b s fb G V L st S q t rb G2 uv tv S2) (hm : MapAt w mb M) (hmb : w0.heap.size ≤ mb) : ∃ A, Img A w b s fb mb n G S M ∧ ∀ i, A i → w0.heap.size ≤ i := by
  refine ⟨fun i => AllP b s fb V st i ∨ i = mb, ⟨⟨V, L, st, h.p, fun i => Iff.rfl⟩, hm⟩, fun i hi => ?_⟩
  rcases hi with (rfl | rfl | rfl | ⟨g, hg, e⟩ | e) | rfl
  · exact h.fp.b
  · exact h.fp.s
  · exact h.fp.fb
  · exact h.fp.V g hg i e.symm
  · exact h.fp.st i e.symm
  · exact hmb
def awW (i : Nat) : Int := if i = 0 then 5 else if i = 1 then 6 else 0
def aw0 : Im3 := ⟨hostL 10, fun _ => 0, zeroMap⟩
def aw1 : Im3 := layX 10 aw0 1 2 awW 2
theorem aw_err : layE aw0.S aw0.M 1 2 = 0 := by decide
theorem aw_get : getT aw1.M 1 = true ∧ getF aw1.M 1 = 1 := by decide
theorem aw_load : ldV 10 aw1.G 0 4 4 = 6 := by decide
theorem aw_cnt : cntT aw1.M 8 = 2 := by decide
end Go.Proofs.Ytklgfnboadchmaa
end

section
/- image: the law package's awake. -/
namespace Go.Proofs.Ytklgfnboadchmaa
open Go.ChangeShapes Go.WideShapes Go.ChangeAt Go.RowKit
set_option linter.unusedVariables false
set_option maxRecDepth 20000

theorem new_map2 (w : World) : Calls Try.prog 8 #[] w fun e w' => ∃ mb, e = .returned (.pointer (some ⟨mb, 0, none⟩)) ∧ w.heap.size ≤ mb ∧ MapAt w' mb zeroMap ∧ Below w.heap.size w w' := by
  refine (new_map w).mono ?_
  rintro e w' ⟨rfl, rfl⟩
  exact ⟨_, rfl, Nat.le_refl _, Go.heap_alloc_new w _, (Bel.refl w).alloc.1⟩
theorem aw_src (w : World) : USrc (w.alloc (.cells #[.int .u32 5, .int .u32 6] 66)) (some ⟨w.heap.size, 0, none⟩) 2 awW := by
  have hw : Wrd awW := fun i => by
    unfold awW
    by_cases h0 : i = 0
    · rw [if_pos h0]; decide
    · rw [if_neg h0]
      by_cases h1 : i = 1
      · rw [if_pos h1]; decide
      · rw [if_neg h1]; decide
  refine ⟨(fun h => by cases h), hw, fun _ => ⟨_, _, rfl, by show _ < _; simp, fun i hi => ?_⟩⟩
  rcases (by omega : i = 0 ∨ i = 1) with rfl | rfl
  · simp [go_sem, awW]
  · simp [go_sem, awW]
set_option maxHeartbeats 4000000 in
theorem awake35 (w : World) : Calls Try.prog 20 #[] w fun e w' => e = .returned (.bool true) ∧ Below w.heap.size w w' := by
  go_enter Try.func20, Try.ntmps20
  go_wp2_with fail
  refine (host_any 9 10 (by decide) (by decide) (by decide) _).mono ?_
  rintro e w1 ⟨b, s, fb, q, t, rb, V, L, st, uv, tv, rfl, hP⟩
  have hB := hP.bel
  go_wp2_with fail
  refine (new_map2 _).mono ?_
  rintro e w3 ⟨mb, rfl, hmb, hm, b3⟩
  obtain ⟨A, h2, hA⟩ := (hP.below b3).img hm (Nat.le_trans hB.2 hmb)
  have hB2 := hB.of b3
  clear hP hB hmb hm b3
  go_wp2_with fail
  have h3 := h2.alloc (o := .cells #[.int .u32 5, .int .u32 6] 66)
  have hsr := aw_src w3
  have hLay := iLay (x := aw0) 1 2 (some ⟨w3.heap.size, 0, none⟩) 2 2 awW (by decide) _ h3 hsr (fun _ b o e => by
    simp only [Option.some.injEq, Addr.mk.injEq, and_true] at e
    obtain ⟨rfl, _⟩ := e
    exact fun hx => by have := h2.lt _ hx; omega)
  rw [aw_err, show cutN 2 2 = 2 from by decide] at hLay
  refine hLay.mono ?_
  rintro e w4 ⟨rfl, A4, h4, m4⟩
  have hA4 := m4.low hA (by have := hB2.2; simp; omega)
  have hB4 := m4.bel hB2.alloc hA
  change Img A4 w4 b s fb mb 10 aw1.G aw1.S aw1.M at h4
  clear hLay h3 hsr m4 h2
  go_wp2_with fail
  refine (iGet 1 _ h4).mono ?_
  rintro e w5 ⟨rfl, b5⟩
  rw [aw_get.1, aw_get.2]
  have h5 := h4.below b5
  have hB5 := hB4.of b5
  go_wp2_with fail
  refine (fload_any s fb 10 0 4 4 aw1.G _ h5.alloc.sto (by decide)).mono ?_
  rintro e w6 ⟨rfl, b6⟩
  rw [aw_load]
  have h6 := h5.alloc.below b6
  have hB6 := hB5.alloc.of b6
  have q := (b6.cell (p := ⟨w5.heap.size, 0, none⟩) (by show _ < _; simp)).trans (show (w5.alloc (.cells #[.int .i64 1, .int .i64 (getR aw1.M 1)] 32)).cell? ⟨w5.heap.size, 0, none⟩ = some (.int .i64 1) by simp [go_sem])
  go_wp2_with fail
  refine (iStrip (x := aw1) _ h6).mono ?_
  rintro e w7 ⟨rfl, A7, h7, m7⟩
  rw [aw_cnt]
  have hB7 := m7.bel hB6 hA4
  go_wp2
  go_ret
  exact ⟨rfl, hB7.1⟩
end Go.Proofs.Ytklgfnboadchmaa
end

section
/- image: the plain laws of laying and stripping. -/
namespace Go.Proofs.Ytklgfnboadchmaa
open Go.ChangeShapes Go.WideShapes Go.ChangeAt Go.RowKit
set_option linter.unusedVariables false
set_option maxRecDepth 20000

theorem putF_out {f : Nat → Int} {a m : Nat} {v : Int} {i : Nat} (h : ¬ (a ≤ i ∧ i < a + m)) : putF f a m v i = f i := if_neg h
theorem getV_congr {f g : Nat → Int} {a : Nat} : ∀ {m : Nat}, (∀ i, a ≤ i → i < a + m → f i = g i) → getV f a m = getV g a m
  | 0, _ => rfl
  | m + 1, h => by rw [getV_succ, getV_succ, getV_congr (fun i h1 h2 => h i h1 (by omega)), h (a + m) (by omega) (by omega)]
theorem svG_in {n f o : Nat} {G : Nat → Int} {v : Int} (hf : f < n) (ho : o + 4 ≤ 64) : svG n G f (o : Int) 4 v = putF G (f * 64 + o) 4 v := by
  have h1 : fin n (f : Int) := ⟨by omega, by omega⟩
  have h2 : inP 64 (o : Int) 4 := ⟨.inr (.inr rfl), by omega, by omega, by omega⟩
  rw [svG, if_pos ⟨h1, h2⟩]
  rfl
theorem svG_in4 {n f k : Nat} {G : Nat → Int} {v : Int} (hf : f < n) (hk : k < 16) : svG n G f (4 * (k : Int)) 4 v = putF G (f * 64 + 4 * k) 4 v := by
  have := svG_in (n := n) (f := f) (o := 4 * k) (G := G) (v := v) hf (by omega)
  rw [← this]
  simp
/-- The k-th word of a frame. -/
def wdF (G : Nat → Int) (f k : Nat) : Int := getV (fr G f) (4 * k) 4
theorem wdF_put {G : Nat → Int} {f k c : Nat} {v : Int} (hk : k < 16) (hc : c < 16) (h0 : 0 ≤ v) (h1 : v ≤ 4294967295) : wdF (putF G (f * 64 + 4 * k) 4 v) f c = if c = k then v else wdF G f c := by
  unfold wdF
  rw [← putF_fr]
  by_cases e : c = k
  · subst e
    rw [if_pos rfl, get_put4 _ _ _ h0 (by omega)]
  · rw [if_neg e]
    exact getV_congr fun i h2 h3 => putF_out (by omega)
theorem fr_put_ne {G : Nat → Int} {f g a m : Nat} {v : Int} (h : a + m ≤ 64) (hne : g ≠ f) : ∀ i, i < 64 → fr (putF G (f * 64 + a) m v) g i = fr G g i := fun i hi => fr_other G f g a m v h hne i hi
theorem wdF_congr {G G' : Nat → Int} {f c : Nat} (hc : c < 16) (h : ∀ i, i < 64 → fr G f i = fr G' f i) : wdF G f c = wdF G' f c := getV_congr fun i h1 h2 => h i (by omega)
theorem clean_congr {G G' : Nat → Int} {f : Nat} (h : ∀ i, i < 64 → fr G f i = fr G' f i) (hc : cleanB (fr G' f) = true) : cleanB (fr G f) = true :=
  cleanB_true.2 fun i hi => (h i hi).trans (cleanB_true.1 hc i hi)
theorem wdF_clean {G : Nat → Int} {f c : Nat} (hc : c < 16) (h : cleanB (fr G f) = true) : wdF G f c = 0 := by
  unfold wdF
  rw [getV_congr (g := fun _ => 0) (fun i h1 h2 => cleanB_true.1 h i (by omega))]
  simp [getV]
section
variable {n f N i : Nat} {W : Nat → Int} {G : Nat → Int}
theorem wG_ne (hf : f < n) {g : Nat} (hne : g ≠ f) : ∀ {m : Nat}, m ≤ 16 → ∀ c, c < 64 → fr (wG n f W N i G m) g c = fr G g c
  | 0, _, c, hc => rfl
  | m + 1, h, c, hc => by
    rw [wG]
    split
    · rw [svG_in4 hf (by omega), fr_put_ne (by omega) hne c hc, wG_ne hf hne (by omega) c hc]
    · exact wG_ne hf hne (by omega) c hc
theorem wG_at (hf : f < n) (hW : Wrd W) {c : Nat} (hc : c < 16) : ∀ {m : Nat}, m ≤ 16 → wdF (wG n f W N i G m) f c = if c < m ∧ i * 16 + c < N then W (i * 16 + c) else wdF G f c
  | 0, _ => by rw [if_neg (by omega)]; rfl
  | m + 1, h => by
    rw [wG]
    split
    · rename_i hm
      rw [svG_in4 hf (by omega), wdF_put (by omega) hc (hW _).1 (hW _).2]
      by_cases e : c = m
      · subst e
        rw [if_pos rfl, if_pos ⟨by omega, hm⟩]
      · rw [if_neg e, wG_at hf hW hc (by omega)]
        by_cases e2 : c < m ∧ i * 16 + c < N
        · rw [if_pos e2, if_pos ⟨by omega, e2.2⟩]
        · rw [if_neg e2, if_neg (by omega)]
    · rename_i hm
      rw [wG_at hf hW hc (by omega)]
      by_cases e2 : c < m ∧ i * 16 + c < N
      · rw [if_pos e2, if_pos ⟨by omega, e2.2⟩]
      · rw [if_neg e2, if_neg (fun h => e2 ⟨by
          by_cases e : c = m
          · subst e; exact absurd h.2 hm
          · omega, h.2⟩)]
end
/-- All is well: what is taken is a page's, and what is not is clean. -/
structure Ok (x : Im3) : Prop where
  len : x.S.length = 32
  who : ∀ f, f < 32 → (atL x.S f).who = (hostW f : Nat)
  clean : ∀ f, f < 32 → (atL x.S f).tk = false → cleanB (fr x.G f) = true
  page : ∀ f, f < 32 → (atL x.S f).tk = true → ∃ j, j < 8 ∧ x.M j = ((f : Int), 3)
  take : ∀ j, j < 8 → isThere x.M j = true → ∃ f : Nat, f < 32 ∧ x.M j = ((f : Int), 3) ∧ (atL x.S f).tk = true
  one : ∀ j k f : Nat, j < 8 → k < 8 → x.M j = ((f : Int), 3) → x.M k = ((f : Int), 3) → j = k
theorem there3 {M : Nat → Int × Int} {j : Nat} {f : Int} (h : M j = (f, 3)) : isThere M j = true := by
  rw [isThere, h]
  simp
theorem hostL_at {n k : Nat} (hk : k < n) : atL (hostL n) k = ⟨hostW k, false⟩ := by
  rw [atL_eq (by simp [hostL]; exact hk)]
  simp [hostL]
theorem zero_clean (f : Nat) : cleanB (fr (fun _ => 0) f) = true := cleanB_true.2 fun _ _ => rfl
theorem Ok.host {M : Nat → Int × Int} (h : ∀ j, j < 8 → M j = (0, 0)) : Ok ⟨hostL 32, fun _ => 0, M⟩ := by
  refine ⟨by simp [hostL], fun f hf => by simp only; rw [hostL_at hf], fun f hf _ => zero_clean f, fun f hf ht => ?_, fun j hj ht => ?_, fun j k f hj hk h1 _ => ?_⟩
  · simp only at ht
    rw [hostL_at hf] at ht
    cases ht
  · simp only at ht
    rw [isThere, h j hj] at ht
    simp at ht
  · simp only at h1
    rw [h j hj] at h1
    simp at h1
theorem lay1_M {n g N i : Nat} {W : Nat → Int} {x : Im3} (hn : n ≤ 32) (hi : i < 8) (hf : lowF x.S g < n) (ht : isThere x.M i = false) : (lay1 n g W N i x).M = upd x.M i ((lowF x.S g : Nat), 3) := by
  rw [lay1]
  simp only
  rw [setNew, if_pos ⟨pageB_nat (by omega), placeB_of (by omega) (by omega) (by omega) (by omega), by rw [Int.toNat_natCast]; exact ht⟩, Int.toNat_natCast]
theorem upd_at (M : Nat → Int × Int) (i : Nat) (p : Int × Int) : upd M i p i = p := if_pos rfl
theorem upd_ne (M : Nat → Int × Int) {i j : Nat} (p : Int × Int) (h : j ≠ i) : upd M i p j = M j := if_neg h
section
variable {g N i : Nat} {W : Nat → Int} {x : Im3}
theorem Ok.lay1 (h : Ok x) (hi : i < 8) (ht : isThere x.M i = false) (hl : 0 < (leftL x.S g).length) : Ok (lay1 32 g W N i x) ∧ lowF x.S g < 32 ∧ (atL x.S (lowF x.S g)).tk = false := by
  have hlow := low_of_left hl
  obtain ⟨f, hf⟩ : ∃ f, lowF x.S g = f := ⟨_, rfl⟩
  rw [hf] at hlow ⊢
  have hf32 : f < 32 := by rw [← h.len]; exact hlow.lt
  have hM := lay1_M (W := W) (N := N) (n := 32) (g := g) (x := x) (i := i) (by omega) hi (by rw [hf]; exact hf32) ht
  have hS : (Proofs.Ytklgfnboadchmaa.lay1 32 g W N i x).S = x.S.set f ⟨g, true⟩ := by rw [Proofs.Ytklgfnboadchmaa.lay1, hf]
  have hG : (Proofs.Ytklgfnboadchmaa.lay1 32 g W N i x).G = wG 32 f W N i x.G 16 := by rw [Proofs.Ytklgfnboadchmaa.lay1, hf]
  rw [hf] at hM
  have hat : ∀ k, atL (x.S.set f ⟨g, true⟩) k = if k = f then ⟨g, true⟩ else atL x.S k := fun k => atL_setS hlow.lt
  refine ⟨⟨?_, fun k hk => ?_, fun k hk htk => ?_, fun k hk htk => ?_, fun j hj hth => ?_, fun j k f' hj hk h1 h2 => ?_⟩, hf32, hlow.tk⟩
  · rw [hS, List.length_set]; exact h.len
  · rw [hS, hat]
    by_cases e : k = f
    · subst e; rw [if_pos rfl, ← h.who k hk, hlow.who]
    · rw [if_neg e]; exact h.who k hk
  · rw [hS, hat] at htk
    by_cases e : k = f
    · subst e; rw [if_pos rfl] at htk; cases htk
    · rw [if_neg e] at htk
      rw [hG]
      exact clean_congr (wG_ne hf32 e (Nat.le_refl _)) (h.clean k hk htk)
  · rw [hS, hat] at htk
    rw [hM]
    by_cases e : k = f
    · subst e; exact ⟨i, hi, upd_at _ _ _⟩
    · rw [if_neg e] at htk
      obtain ⟨j, hj, hjm⟩ := h.page k hk htk
      refine ⟨j, hj, ?_⟩
      rw [upd_ne _ _ (fun e2 => by subst e2; rw [there3 hjm] at ht; cases ht)]
      exact hjm
  · rw [hM] at hth ⊢
    rw [hS]
    by_cases e : j = i
    · subst e
      exact ⟨f, hf32, upd_at _ _ _, by rw [hat, if_pos rfl]⟩
    · rw [there_upd_ne _ _ e] at hth
      obtain ⟨f', h1, h2, h3⟩ := h.take j hj hth
      refine ⟨f', h1, by rw [upd_ne _ _ e]; exact h2, ?_⟩
      rw [hat]
      split
      · rfl
      · exact h3
  · have key : ∀ j, j < 8 → j ≠ i → x.M j = ((f : Int), 3) → False := fun j hj hne hm => by
      obtain ⟨f2, h3, h4, h5⟩ := h.take j hj (there3 hm)
      rw [hm] at h4
      simp only [Prod.mk.injEq, and_true] at h4
      obtain rfl : f = f2 := by omega
      rw [hlow.tk] at h5
      cases h5
    rw [hM] at h1 h2
    by_cases e : j = i
    · by_cases e2 : k = i
      · rw [e, e2]
      · subst e
        rw [upd_at] at h1
        rw [upd_ne _ _ e2] at h2
        rw [← h1] at h2
        exact absurd (key k hk e2 h2) id
    · rw [upd_ne _ _ e] at h1
      by_cases e2 : k = i
      · subst e2
        rw [upd_at] at h2
        rw [← h2] at h1
        exact absurd (key j hj e h1) id
      · rw [upd_ne _ _ e2] at h2
        exact h.one j k f' hj hk h1 h2
end
/-- Page j has its words. -/
def HasW (x : Im3) (W : Nat → Int) (N j : Nat) : Prop := ∃ f : Nat, f < 32 ∧ x.M j = ((f : Int), 3) ∧ (atL x.S f).tk = true ∧ ∀ c, c < 16 → wdF x.G f c = if j * 16 + c < N then W (j * 16 + c) else 0
section
variable {g N : Nat} {W : Nat → Int} {x : Im3}
theorem Ok.layTo (h : Ok x) (hW : Wrd W) : ∀ {i : Nat}, i ≤ 8 → freeB x.M i = true → i ≤ (leftL x.S g).length → Ok (layTo 32 g W N x i) ∧ ∀ j, j < i → HasW (layTo 32 g W N x i) W N j
  | 0, _, _, _ => ⟨h, fun j hj => by omega⟩
  | i + 1, hi, hfr, hl => by
    have hfr' : freeB x.M i = true := by rw [freeB_succ] at hfr; simp at hfr; exact hfr.1
    obtain ⟨h1, h2⟩ := Ok.layTo h hW (i := i) (by omega) hfr' (by omega)
    have hti : isThere (Proofs.Ytklgfnboadchmaa.layTo 32 g W N x i).M i = false := (layTo_there (Nat.le_refl i)).trans (freeB_at hfr (by omega))
    have hll : 0 < (leftL (Proofs.Ytklgfnboadchmaa.layTo 32 g W N x i).S g).length := by
      have := layTo_left (n := 32) (g := g) (N := N) (W := W) (x := x) (i := i) (by omega)
      omega
    rw [Proofs.Ytklgfnboadchmaa.layTo]
    generalize Proofs.Ytklgfnboadchmaa.layTo 32 g W N x i = y at *
    obtain ⟨h3, hf32, htk⟩ := h1.lay1 (W := W) (N := N) (by omega) hti hll
    refine ⟨h3, fun j hj => ?_⟩
    obtain ⟨f, hf⟩ : ∃ f, lowF y.S g = f := ⟨_, rfl⟩
    have hM := lay1_M (W := W) (N := N) (n := 32) (g := g) (x := y) (i := i) (by omega) (by omega) hf32 hti
    have hS : (Proofs.Ytklgfnboadchmaa.lay1 32 g W N i y).S = y.S.set f ⟨g, true⟩ := by rw [Proofs.Ytklgfnboadchmaa.lay1, hf]
    have hG : (Proofs.Ytklgfnboadchmaa.lay1 32 g W N i y).G = wG 32 f W N i y.G 16 := by rw [Proofs.Ytklgfnboadchmaa.lay1, hf]
    rw [hf] at hM htk hf32
    have hat : ∀ k, atL (y.S.set f ⟨g, true⟩) k = if k = f then ⟨g, true⟩ else atL y.S k := fun k => atL_setS (by rw [h1.len]; exact hf32)
    by_cases e : j = i
    · subst e
      refine ⟨f, hf32, by rw [hM, upd_at], by rw [hS, hat, if_pos rfl], fun c hc => ?_⟩
      rw [hG, wG_at hf32 hW hc (Nat.le_refl _)]
      by_cases e2 : j * 16 + c < N
      · rw [if_pos ⟨hc, e2⟩, if_pos e2]
      · rw [if_neg (fun x => e2 x.2), if_neg e2]
        exact wdF_clean hc (h1.clean f hf32 htk)
    · obtain ⟨f', a1, a2, a3, a4⟩ := h2 j (by omega)
      have hne : f' ≠ f := fun e3 => by subst e3; rw [htk] at a3; cases a3
      refine ⟨f', a1, by rw [hM, upd_ne _ _ e]; exact a2, by rw [hS, hat, if_neg hne]; exact a3, fun c hc => ?_⟩
      rw [hG, ← a4 c hc]
      exact wdF_congr hc (wG_ne hf32 hne (Nat.le_refl _))
/-- One page goes. -/
theorem Ok.back (h : Ok x) {i : Nat} (hi : i < 8) (ht : isThere x.M i = true) : Ok ⟨backS x.S (x.M i).1, backG x.S x.G (x.M i).1, upd x.M i (0, 0)⟩ := by
  obtain ⟨f, hf, hm, htk⟩ := h.take i hi ht
  have hin : fin x.S.length (f : Int) := ⟨by omega, by rw [h.len]; omega⟩
  have hS : backS x.S (x.M i).1 = x.S.set f ⟨(hostW f : Nat), false⟩ := by rw [hm, backS, if_pos ⟨hin, by rw [Int.toNat_natCast]; exact htk⟩, Int.toNat_natCast, h.who f hf]
  have hG : backG x.S x.G (x.M i).1 = putF x.G (f * 64 + 0) 64 0 := by rw [hm, backG, if_pos ⟨hin, by rw [Int.toNat_natCast]; exact htk⟩, Int.toNat_natCast]; rfl
  rw [hS, hG]
  have hat : ∀ k, atL (x.S.set f ⟨(hostW f : Nat), false⟩) k = if k = f then ⟨(hostW f : Nat), false⟩ else atL x.S k := fun k => atL_setS (by rw [h.len]; exact hf)
  refine ⟨by simp only; rw [List.length_set]; exact h.len, fun k hk => ?_, fun k hk hk2 => ?_, fun k hk hk2 => ?_, fun j hj hth => ?_, fun j k f' hj hk h1 h2 => ?_⟩
  · simp only
    rw [hat]
    by_cases e : k = f
    · subst e; rw [if_pos rfl]
    · rw [if_neg e]; exact h.who k hk
  · simp only at hk2 ⊢
    rw [hat] at hk2
    by_cases e : k = f
    · subst e; exact cleanB_true.2 (zero_fr x.G k)
    · rw [if_neg e] at hk2
      exact clean_congr (fr_put_ne (by omega) e) (h.clean k hk hk2)
  · simp only at hk2 ⊢
    rw [hat] at hk2
    by_cases e : k = f
    · subst e; rw [if_pos rfl] at hk2; cases hk2
    · rw [if_neg e] at hk2
      obtain ⟨j, hj, hjm⟩ := h.page k hk hk2
      refine ⟨j, hj, ?_⟩
      rw [upd_ne _ _ (fun e2 => by
        subst e2
        rw [hm] at hjm
        simp only [Prod.mk.injEq, and_true] at hjm
        omega)]
      exact hjm
  · simp only at hth ⊢
    have e : j ≠ i := fun e => by
      subst e
      rw [isThere, upd_at] at hth
      simp at hth
    rw [there_upd_ne _ _ e] at hth
    obtain ⟨f', h1, h2, h3⟩ := h.take j hj hth
    refine ⟨f', h1, by rw [upd_ne _ _ e]; exact h2, ?_⟩
    rw [hat, if_neg (fun e2 => e (by subst e2; exact h.one j i f' hj hi h2 hm))]
    exact h3
  · simp only at h1 h2
    have e : j ≠ i := fun e => by subst e; rw [upd_at] at h1; simp at h1
    have e2 : k ≠ i := fun e => by subst e; rw [upd_at] at h2; simp at h2
    rw [upd_ne _ _ e] at h1
    rw [upd_ne _ _ e2] at h2
    exact h.one j k f' hj hk h1 h2
theorem Ok.strTo (h : Ok x) : ∀ {i : Nat}, i ≤ 8 → Ok (strTo x i) ∧ ∀ j, j < i → isThere (strTo x i).M j = false
  | 0, _ => ⟨h, fun j hj => by omega⟩
  | i + 1, hi => by
    obtain ⟨h1, h2⟩ := Ok.strTo h (i := i) (by omega)
    rw [Proofs.Ytklgfnboadchmaa.strTo]
    split
    · rename_i ht
      refine ⟨h1.back (by omega) ht, fun j hj => ?_⟩
      simp only
      by_cases e : j = i
      · subst e; simp [isThere, upd_at]
      · rw [there_upd_ne _ _ e]; exact h2 j (by omega)
    · rename_i ht
      refine ⟨h1, fun j hj => ?_⟩
      by_cases e : j = i
      · subst e; simpa using ht
      · exact h2 j (by omega)
/-- Nothing is taken, all is clean. -/
theorem Ok.done (h : Ok x) (hn : ∀ j, j < 8 → isThere x.M j = false) : x.S = hostL 32 ∧ ∀ f, f < 32 → cleanB (fr x.G f) = true := by
  have htk : ∀ f, f < 32 → (atL x.S f).tk = false := fun f hf => by
    cases ht : (atL x.S f).tk
    · rfl
    · obtain ⟨j, hj, hm⟩ := h.page f hf ht
      have := hn j hj
      rw [there3 hm] at this
      cases this
  refine ⟨HostTo.eq ⟨h.len, fun k hk => ?_⟩, fun f hf => h.clean f hf (htk f hf)⟩
  rw [if_pos hk]
  have h1 := h.who k hk
  have h2 := htk k hk
  cases hx : atL x.S k with
  | mk a c =>
    rw [hx] at h1 h2
    simp only at h1 h2
    rw [h1, h2]
end
end Go.Proofs.Ytklgfnboadchmaa
end
