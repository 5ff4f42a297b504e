/- Plain laws: the bit of RWrite. -/
import Derived.WalkKit
import Derived.Laws.BitsAllLaws
import Derived.WalkArith
import Derived.OpenShut
namespace Go.Proofs.Ythppjkpejnaocaa

def bv (r : Int) : BitVec 64 := BitVec.ofInt 64 r
theorem and_def (r : Int) : bits .and .i64 r 2 = IntKind.i64.wrap ((bv r &&& 2#64).toNat : Int) := rfl
theorem andNot_def (r : Int) : bits .andNot .i64 r 2 = IntKind.i64.wrap ((bv r &&& ~~~2#64).toNat : Int) := rfl
theorem bv_wrap (x : BitVec 64) : bv (IntKind.i64.wrap (x.toNat : Int)) = x := by
  apply BitVec.eq_of_toNat_eq
  have h := x.isLt
  rw [bv, BitVec.toNat_ofInt, IntKind.wrap_i64]
  omega
theorem wrap_bv {r : Int} (h : (Lit.int .i64 r).wf = true) : IntKind.i64.wrap ((bv r).toNat : Int) = r := by
  have hb := bounds_i64 h
  rw [bv, BitVec.toNat_ofInt, IntKind.wrap_i64]
  omega
theorem wrap_wf (x : BitVec 64) : (Lit.int .i64 (IntKind.i64.wrap (x.toNat : Int))).wf = true := by
  have h := x.isLt
  refine WalkArith.wf_i64 ?_
  rw [IntKind.wrap_i64]
  omega
theorem nrw_wf (r : Int) : (Lit.int .i64 (bits .andNot .i64 r 2)).wf = true := by rw [andNot_def]; exact wrap_wf _
theorem bv_nrw (r : Int) : bv (bits .andNot .i64 r 2) = bv r &&& ~~~2#64 := by rw [andNot_def, bv_wrap]
/-- What was narrowed has no RWrite. -/
theorem and_nrw (r : Int) : bits .and .i64 (bits .andNot .i64 r 2) 2 = 0 := by
  rw [and_def, bv_nrw, BitVec.and_assoc, show (~~~2#64 &&& 2#64) = 0#64 by decide, BitVec.and_zero]
  decide
theorem nrw_nrw (r : Int) : bits .andNot .i64 (bits .andNot .i64 r 2) 2 = bits .andNot .i64 r 2 := by
  rw [andNot_def (bits .andNot .i64 r 2), bv_nrw, BitVec.and_assoc, BitVec.and_self, ← andNot_def]
theorem and_zero_bv {r : Int} (h : bits .and .i64 r 2 = 0) : bv r &&& 2#64 = 0#64 := by
  rw [and_def] at h
  have := congrArg bv h
  rw [bv_wrap] at this
  rw [this]
  decide
theorem nrw_same {r : Int} (hw : (Lit.int .i64 r).wf = true) (h : bits .and .i64 r 2 = 0) : bits .andNot .i64 r 2 = r := by
  have h1 := and_zero_bv h
  have h2 : bv r &&& ~~~2#64 = bv r := by
    apply BitVec.eq_of_getLsbD_eq
    intro i hi
    have h3 := congrArg (fun x : BitVec 64 => x.getLsbD i) h1
    simp only [BitVec.getLsbD_and, BitVec.getLsbD_not, BitVec.getLsbD_zero] at h3 ⊢
    cases hx : (bv r).getLsbD i
    · simp
    · rw [hx] at h3
      simp only [Bool.true_and] at h3
      rw [h3]
      simp [hi]
  rw [andNot_def, h2]
  exact wrap_bv hw
theorem nrw_iff {r : Int} (hw : (Lit.int .i64 r).wf = true) : (bits .andNot .i64 r 2 == r) = (bits .and .i64 r 2 == 0) := by
  by_cases h : bits .and .i64 r 2 = 0
  · rw [nrw_same hw h, h]; simp
  · have : ¬ bits .andNot .i64 r 2 = r := fun e => h (by rw [← e]; exact and_nrw r)
    rw [beq_eq_false_iff_ne.2 this, beq_eq_false_iff_ne.2 h]
end Go.Proofs.Ythppjkpejnaocaa
