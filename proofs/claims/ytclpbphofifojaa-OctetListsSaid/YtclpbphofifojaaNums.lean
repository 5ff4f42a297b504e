/- Plain laws on bits and numbers, no program in sight. -/
import Derived.WalkKit
import Derived.Laws.BitsAllLaws
namespace Go.Proofs.Ytclpbphofifojaa

theorem nat_clear2 (x : Nat) (h : x < 4294967296) : x &&& 4294967292 = x / 4 * 4 := by
  have e : (4294967292 : Nat) = (2 ^ 30 - 1) <<< 2 := by decide
  have e2 : x &&& ((2 ^ 30 - 1) <<< 2) = ((x >>> 2) &&& (2 ^ 30 - 1)) <<< 2 := by
    apply Nat.eq_of_testBit_eq
    intro i
    simp only [Nat.testBit_and, Nat.testBit_shiftLeft, Nat.testBit_shiftRight]
    by_cases hi : 2 ≤ i
    · rw [show 2 + (i - 2) = i by omega]
      cases x.testBit i <;> simp
    · simp [hi]
  rw [e, e2, Nat.and_two_pow_sub_one_eq_mod, Nat.shiftLeft_eq, Nat.shiftRight_eq_div_pow]
  omega

theorem u32_andNot3 (a : Int) (h1 : 0 ≤ a) (h2 : a ≤ 4294967295) : bits .andNot .u32 a 3 = a / 4 * 4 := by
  rw [u32_andNot a 3 h1 (by omega) (by omega) (by omega)]
  have := nat_clear2 a.toNat (by omega)
  rw [show (4294967295 - (3 : Int).toNat) = 4294967292 by decide, this]
  omega

theorem u32_and1 (a : Int) (h1 : 0 ≤ a) (h2 : a ≤ 4294967295) : bits .and .u32 a 1 = a % 2 := by
  rw [u32_and a 1 h1 (by omega) (by omega) (by omega)]
  rw [show (1 : Int).toNat = 1 by decide, nat_mask1]
  omega

end Go.Proofs.Ytclpbphofifojaa
