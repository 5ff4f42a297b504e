/- hermitagelaw35.ImageLays answers true at every input, and leaves all that was there as it was: no condition. -/
import Derived.Test.YtklgfnboadchmaaRows
import Derived.Test.YtklgfnboadchmaaMrgA
import Derived.Test.YtklgfnboadchmaaImageLaysWalk
namespace Go.Proofs.Ytklgfnboadchmaa.imageLaysRow
open Go.ChangeShapes Go.WideShapes Go.ChangeAt Go.RowKit
open Go.ChangeMaps (open_string shut_string)
set_option linter.unusedVariables false

theorem own : ownKnob Try.prog.godebug = none := by kernel_rfl
theorem laidOut : laidOutB Try.prog = true := by kernel_rfl

set_option maxRecDepth 100000 in
theorem lifted (os : Os) (started : os.Started) (H : Type) (enc : TypeId × Value → H) :
    ReturnsInHanded {} Try.checked os 4 .any (Rows.imageLaysSpec.pre6 enc Try.prog Try.f4 Rows.imageLaysRow.domain false) (Rows.imageLaysSpec.post enc Try.prog Try.f4 false true false false) := by
  refine returnsInHanded_of_change_sized (C := Try.checked) own started (by kernel_rfl) Try.func4
    (ChangeSpec.witness6 (enc := enc) (C := Try.checked) false ⟨#[], #[.int .u8 0, .slice none 0 0, .slice none 0 0, .slice none 0 0, .slice none 0 0], []⟩ 8 (by kernel_rfl) (by kernel_rfl) (by kernel_rfl) (by kernel_rfl)) ?_
  intro W base args ds gs before hval0 hW hcnd hsz0 _
  have hval : ∀ (j : Nat) t v, Try.f4.params[j]? = some t → args[j]? = some v → Value.okWide Try.prog W .any base t v := hval0
  have hsz : (DataW.weightsEach Try.prog (Try.f4.params.toList ++ Rows.imageLaysSpec.plain.varTypes Try.prog) (ds ++ gs)).all (· ≤ reachBytes) = true := hsz0
  have hW' := hW
  obtain ⟨p, q, hA0, hV, rfl, hfz, hnd⟩ := hW
  have hA : DataW.TrodAll enc Try.prog W 0 (fun _ => true) true Try.f4.params.toList args.toList ds p := hA0
  rw [Try.params4] at hA hval hsz
  obtain ⟨v0, vs0, d0, ds0, pl0, q0, hargs, rfl, rfl, h0, r0⟩ := trodAll_cons hA
  obtain ⟨v1, vs1, d1, ds1, pl1, q1, rfl, rfl, rfl, h1, r1⟩ := trodAll_cons r0
  obtain ⟨v2, vs2, d2, ds2, pl2, q2, rfl, rfl, rfl, h2, r2⟩ := trodAll_cons r1
  obtain ⟨v3, vs3, d3, ds3, pl3, q3, rfl, rfl, rfl, h3, r3⟩ := trodAll_cons r2
  obtain ⟨v4, vs4, d4, ds4, pl4, q4, rfl, rfl, rfl, h4, r4⟩ := trodAll_cons r3
  obtain ⟨rfl, rfl, rfl⟩ := trodAll_nil r4
  obtain rfl : args = #[v0, v1, v2, v3, v4] := by cases args; simp_all
  obtain ⟨rfl, rfl⟩ := trodVars_none hV
  have k0 := h0
  have lt0 : ∀ x ∈ pl0, x.block < W.heap.size := by obtain ⟨m, hm⟩ := k0; exact DataW.trod_lt m _ _ _ hm
  have k1 := h1
  have lt1 : ∀ x ∈ pl1, x.block < W.heap.size := by obtain ⟨m, hm⟩ := k1; exact DataW.trod_lt m _ _ _ hm
  have k2 := h2
  have lt2 : ∀ x ∈ pl2, x.block < W.heap.size := by obtain ⟨m, hm⟩ := k2; exact DataW.trod_lt m _ _ _ hm
  have k3 := h3
  have lt3 : ∀ x ∈ pl3, x.block < W.heap.size := by obtain ⟨m, hm⟩ := k3; exact DataW.trod_lt m _ _ _ hm
  have k4 := h4
  have lt4 : ∀ x ∈ pl4, x.block < W.heap.size := by obtain ⟨m, hm⟩ := k4; exact DataW.trod_lt m _ _ _ hm
  obtain ⟨a0, rfl, rfl, rfl, w0⟩ := open_int Try.underlying5 (hval 0 5 v0 rfl rfl) h0
  obtain ⟨p1, n1, c1, f1, rfl, w1, hd1⟩ := open_flats (n := 8) (k := some .i64) (ks := []) Try.underlying39 (by kernel_rfl) (by kernel_rfl) (hval 1 39 v1 rfl rfl) h1
  have hR1 : c1 * 8 ≤ 140737488351232 := by
    rcases hd1 with ⟨rfl, hc⟩ | ⟨el, sp, rfl, hc⟩
    · omega
    · have hz := sized_slice hsz (j := 1) (t := 39) (e := 3) rfl rfl Try.underlying39
      rw [hc, show Try.prog.bytesOf 3 = 8 from by kernel_rfl] at hz
      simpa [reachBytes] using hz
  obtain ⟨p2, n2, c2, f2, rfl, w2, hd2⟩ := open_flats (n := 8) (k := some .i64) (ks := []) Try.underlying39 (by kernel_rfl) (by kernel_rfl) (hval 2 39 v2 rfl rfl) h2
  have hR2 : c2 * 8 ≤ 140737488351232 := by
    rcases hd2 with ⟨rfl, hc⟩ | ⟨el, sp, rfl, hc⟩
    · omega
    · have hz := sized_slice hsz (j := 2) (t := 39) (e := 3) rfl rfl Try.underlying39
      rw [hc, show Try.prog.bytesOf 3 = 8 from by kernel_rfl] at hz
      simpa [reachBytes] using hz
  obtain ⟨p3, n3, c3, rfl, w3⟩ := open_rowsU (n := 8) (j := 3) Try.underlying44 Try.underlying22 (by kernel_rfl) (by kernel_rfl) (by kernel_rfl) (by kernel_rfl) (hval 3 44 v3 rfl rfl) h3 hsz rfl rfl
  obtain ⟨p4, n4, c4, f4, rfl, w4, hd4⟩ := open_flats (n := 8) (k := some .u8) (ks := []) Try.underlying45 (by kernel_rfl) (by kernel_rfl) (hval 4 45 v4 rfl rfl) h4
  have hR4 : c4 * 1 ≤ 140737488351232 := by
    rcases hd4 with ⟨rfl, hc⟩ | ⟨el, sp, rfl, hc⟩
    · omega
    · have hz := sized_slice hsz (j := 4) (t := 45) (e := 5) rfl rfl Try.underlying45
      rw [hc, show Try.prog.bytesOf 5 = 1 from by kernel_rfl] at hz
      simpa [reachBytes] using hz
  clear hA0 hval0
  refine (imageLays_walk a0 p1 n1 c1 f1 p2 n2 c2 f2 p3 n3 c3 p4 n4 c4 f4 W w0 w1 hR1 w2 hR2 w3 w4 hR4).mono fun e W' ⟨he, bel⟩ => ?_
  subst he
  exact ⟨_, rfl, _, _, _, [], _, [], hW', trodAll_mk1 (shut_bool Try.underlying4 _), (trodAll_cons_mk (Below.trod laidOut (by kernel_rfl) (of_decide_eq_true (by kernel_rfl)) k0 bel lt0) (trodAll_cons_mk (Below.trod laidOut (by kernel_rfl) (of_decide_eq_true (by kernel_rfl)) k1 bel lt1) (trodAll_cons_mk (Below.trod laidOut (by kernel_rfl) (of_decide_eq_true (by kernel_rfl)) k2 bel lt2) (trodAll_cons_mk (Below.trod laidOut (by kernel_rfl) (of_decide_eq_true (by kernel_rfl)) k3 bel lt3) (trodAll_cons_mk (Below.trod laidOut (by kernel_rfl) (of_decide_eq_true (by kernel_rfl)) k4 bel lt4) trodAll_mk0))))), rfl, bel.frame _, fun h => by cases h⟩

theorem over : Rows.imageLaysRow.holds Try.pinned (OpenSpec.ofChange Rows.imageLaysSpec) :=
  OpenClaim.holds_of_wide 4 Try.f4 rfl rfl rfl rfl rfl rfl rfl ⟨rfl, rfl, rfl, rfl, rfl⟩ rfl rfl rfl rfl rfl (by kernel_rfl) Try.func4 (by kernel_rfl)
    (of_decide_eq_true (by kernel_rfl)) (by unfold Func.isWrapper; first | (rw [if_pos (by decide +kernel)]; kernel_rfl) | (rw [if_neg (by decide +kernel)]; exact ⟨rfl, rfl⟩))
    (fun os started H enc _ => lifted os started H enc)

/-- THE STATEMENT. -/
theorem proved : Rows.ImageLaysSaid := over
#print axioms proved
end Go.Proofs.Ytklgfnboadchmaa.imageLaysRow
