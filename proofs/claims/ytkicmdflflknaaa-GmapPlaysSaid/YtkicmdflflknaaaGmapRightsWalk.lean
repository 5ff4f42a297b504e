/- The walk of hermitagelaw15.GmapRights: true at every page, frame and rights. -/
import Derived.Test.YtkicmdflflknaaaG15p
import Derived.Test.YtkicmdflflknaaaNums
namespace Go.Proofs.Ytkicmdflflknaaa
open Go.ChangeShapes Go.WideShapes Go.ChangeAt Go.RowKit
set_option linter.unusedVariables false

theorem pageB_nat {k : Nat} (h : k < 12) : pageB (k : Int) = true := by simp [pageB]; omega
theorem placeB_of {fr ri : Int} (h0 : 0 ≤ fr) (h1 : fr < 32) (h2 : 1 ≤ ri) (h3 : ri ≤ 3) : placeB fr ri = true := by simp [placeB]; omega
theorem there_upd (M : Nat → Int × Int) (k : Nat) {fr ri : Int} (h : 1 ≤ ri) : isThere (upd M k (fr, ri)) k = true := by
  have : ¬ ri = 0 := by omega
  simp [isThere, upd, this]
theorem there_upd_ne (M : Nat → Int × Int) {k j : Nat} (p : Int × Int) (h : j ≠ k) : isThere (upd M k p) j = isThere M j := by
  simp [isThere, upd, h]

theorem pages_one (k : Nat) (hk : k < 12) (fr ri : Int) (h : 1 ≤ ri) : pagesTo (upd zeroMap k (fr, ri)) 12 = [(k : Int)] := by
  have ht := there_upd zeroMap k (fr := fr) h
  have hf : ∀ j, j ≠ k → isThere (upd zeroMap k (fr, ri)) j = false := fun j hj => by rw [there_upd_ne _ _ hj]; rfl
  have e : (List.range 12).filter (isThere (upd zeroMap k (fr, ri))) = (List.range 12).filter (fun j => j == k) := by
    apply List.filter_congr
    intro j _
    by_cases hj : j = k
    · subst hj; simp [ht]
    · rw [hf j hj]; simp [hj]
  unfold pagesTo
  rw [e]
  rcases lt12 hk with rfl | rfl | rfl | rfl | rfl | rfl | rfl | rfl | rfl | rfl | rfl | rfl <;> rfl

theorem mayB_load {n ri : Int} (h : 1 ≤ ri) (h' : ri ≤ 3) : mayB n ri 1 = (bits .and .i64 ri 1 != 0) := by simp [mayB]
theorem mayB_store {n ri : Int} : mayB n ri 2 = (bits .and .i64 ri 2 != 0) := by simp [mayB]

set_option maxHeartbeats 1000000 in
theorem gmapRights_core (k : Nat) (hk : k < 12) (fr ri : Int) (a0 a1 a2 : Int) (e0 : a0 % 12 = k) (e1 : a1 % 32 = fr) (e2 : 1 + a2 % 3 = ri) (b0 : 0 ≤ a0) (b0' : a0 ≤ 255) (b1 : 0 ≤ a1) (b1' : a1 ≤ 255) (b2 : 0 ≤ a2) (b2' : a2 ≤ 255) (w : World) :
    Calls Try.prog 5 #[.int .u8 a0, .int .u8 a1, .int .u8 a2] w fun e w' => e = .returned (.bool true) ∧ Below w.heap.size w w' := by
  have hfr0 : 0 ≤ fr := by omega
  have hfr1 : fr < 32 := by omega
  have hri0 : 1 ≤ ri := by omega
  have hri1 : ri ≤ 3 := by omega
  have p1 := pageB_nat hk
  have p2 := placeB_of hfr0 hfr1 hri0 hri1
  have t1 := there_upd zeroMap k (fr := fr) hri0
  have s1 : setRes zeroMap k fr ri = 0 := by simp [setRes, p1, p2]; rfl
  have s2 : setNew zeroMap k fr ri = upd zeroMap k (fr, ri) := by unfold setNew; rw [if_pos ⟨p1, p2, rfl⟩]; rfl
  have s3 : setRes (upd zeroMap k (fr, ri)) k fr ri = 5 := by simp [setRes, p1, p2, t1]
  have s4 : setNew (upd zeroMap k (fr, ri)) k fr ri = upd zeroMap k (fr, ri) := by unfold setNew; rw [if_neg (by simp [t1])]
  have g1 : getT (upd zeroMap k (fr, ri)) k = true := by simp [getT, p1, t1]
  have g2 : getR (upd zeroMap k (fr, ri)) k = ri := by simp [getR, p1, upd]
  have l1 : (allowsI (upd zeroMap k (fr, ri)) k 1 == 0) = (bits .and .i64 ri 1 != 0) := by
    simp only [allowsI, g1, g2, if_true, mayB_load hri0 hri1]
    cases (bits .and .i64 ri 1 != 0) <;> rfl
  have l2 : (allowsI (upd zeroMap k (fr, ri)) k 2 == 0) = (bits .and .i64 ri 2 != 0) := by
    simp only [allowsI, g1, g2, if_true, mayB_store]
    cases (bits .and .i64 ri 2 != 0) <;> rfl
  have l3 : (allowsI (upd zeroMap k (fr, ri)) k 0 == 0) = decide ((k : Int) < 8) := by
    simp only [allowsI, g1, g2, if_true, mayB]
    cases (decide ((k : Int) < 8)) <;> rfl
  have pg := pages_one k hk fr ri hri0
  have Hm := Lib.hid (And.intro s2 s4)
  have Hp := Lib.hid pg
  clear s2 s4 pg g1 g2 t1 p1 p2
  go_enter Try.func5, Try.ntmps5
  go_wp2_with fail
  refine (new_map' _).mono ?_
  rintro e w' ⟨rfl, x0, rfl, hm0⟩
  go_wp2_with fail
  simp at hm0
  refine (Calls.latB (set_any _ _ k fr ri _ hm0)).mono ?_
  rintro e w' ⟨rfl, x1, rfl, hm1⟩
  rw [Hm.out.1] at hm1
  go_wp2_with fail
  refine (Calls.latB (set_any _ _ k fr ri _ hm1)).mono ?_
  rintro e w' ⟨rfl, x2, rfl, hm2⟩
  rw [Hm.out.2] at hm2
  go_wp2_with fail
  refine wp_region_later (by kernel_rfl) (by kernel_rfl) ?_
  repeat (first | go_big_quiet_step (first | (go_at_call 18; exact Calls.later_of (allows_any _ _ _ _ _ hm2.later))))
  refine wpQuiet_nil ?_
  intro _ hw'
  obtain ⟨x3, hw''⟩ := hw'
  subst hw''
  go_wp2_with fail
  refine (pages_any _ _ _ hm2.later).mono ?_
  rintro e w' ⟨v, rfl, hown, hbel⟩
  obtain ⟨x4, rfl⟩ := later_of hbel
  rw [Hp.out] at hown
  obtain ⟨a, c, rfl, hac, hc, hl, _⟩ := ints_of_owned hown
  obtain ⟨g, o, rfl, hg, hcell⟩ := hl.2 (by simp)
  have hc0 := hcell 0 (by simp)
  simp at hc0
  go_wp2_with fail
  refine (Calls.lat (allows_any _ _ _ _ _ hm2.later.later)).mono ?_
  rintro e w' ⟨rfl, x5, rfl⟩
  go_wp2_with (go_at_call 19; refine (Calls.lat (awake15 _)).mono ?_; rintro e w' ⟨rfl, x6, rfl⟩)
  go_ret
  exact ⟨rfl, (by refine (?_ : Bel _ _ _).1; repeat (first | exact Bel.refl _ | apply Bel.later | apply Bel.alloc | apply Bel.drew | (refine Bel.laterB ?_ (by first | omega | (simp; omega) | simp))))⟩

theorem gmapRights_walk (a0 : Int) (a1 : Int) (a2 : Int) (w : World) (w0 : (Lit.int .u8 a0).wf = true) (w1 : (Lit.int .u8 a1).wf = true) (w2 : (Lit.int .u8 a2).wf = true) :
    Calls Try.prog 5 #[.int .u8 a0, .int .u8 a1, .int .u8 a2] w fun e w' => e = .returned (.bool true) ∧ Below w.heap.size w w' := by
  have b0 := bounds_u8 w0
  have b1 := bounds_u8 w1
  have b2 := bounds_u8 w2
  exact gmapRights_core (a0 % 12).toNat (by omega) (a1 % 32) (1 + a2 % 3) a0 a1 a2 (by omega) rfl rfl b0.1 b0.2 b1.1 b1.2 b2.1 b2.2 w

end Go.Proofs.Ytkicmdflflknaaa
