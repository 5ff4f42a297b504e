/- Plain: numbers in bytes, the lowest byte first; no program in sight. -/
import Derived.WalkKit
import Derived.Laws.BitsAllLaws
namespace Go.Proofs.Ytgcnmhlojfncpaa

def Byt (f : Nat → Int) : Prop := ∀ i, 0 ≤ f i ∧ f i ≤ 255
/-- The number of the m bytes from a on. -/
def getV (f : Nat → Int) (a : Nat) : Nat → Int
  | 0 => 0
  | k + 1 => getV f a k + f (a + k) * (256 : Int) ^ k
theorem getV_succ (f : Nat → Int) (a k : Nat) : getV f a (k + 1) = getV f a k + f (a + k) * (256 : Int) ^ k := rfl
theorem getV_zero (f : Nat → Int) (a : Nat) : getV f a 0 = 0 := rfl
theorem getV_bound {f : Nat → Int} (h : Byt f) (a : Nat) : ∀ k, 0 ≤ getV f a k ∧ getV f a k < (256 : Int) ^ k
  | 0 => by simp [getV]
  | k + 1 => by
    obtain ⟨h1, h2⟩ := getV_bound h a k
    obtain ⟨h3, h4⟩ := h (a + k)
    have hp : (0 : Int) < 256 ^ k := Int.pow_pos (by decide)
    have h5 : 0 ≤ f (a + k) * (256 : Int) ^ k := Int.mul_nonneg h3 (by omega)
    have h6 : f (a + k) * (256 : Int) ^ k ≤ 255 * (256 : Int) ^ k := Int.mul_le_mul_of_nonneg_right h4 (by omega)
    rw [getV_succ, Int.pow_succ]
    omega
/-- The bytes with a number's first m bytes from a on. -/
def putF (f : Nat → Int) (a m : Nat) (v : Int) : Nat → Int := fun i => if a ≤ i ∧ i < a + m then v / (256 : Int) ^ (i - a) % 256 else f i
theorem putF_byt {f : Nat → Int} (h : Byt f) (a m : Nat) (v : Int) : Byt (putF f a m v) := fun i => by
  unfold putF
  split
  · omega
  · exact h i
theorem putF_zero (f : Nat → Int) (a : Nat) (v : Int) : putF f a 0 v = f := by
  funext i
  unfold putF
  rw [if_neg (by omega)]
theorem putF_succ (f : Nat → Int) (a k : Nat) (v : Int) : putF f a (k + 1) v = fun i => if i = a + k then v / (256 : Int) ^ k % 256 else putF f a k v i := by
  funext i
  unfold putF
  by_cases e : i = a + k
  · subst e
    rw [if_pos (by omega), if_pos rfl, show a + k - a = k by omega]
  · rw [if_neg e]
    by_cases h : a ≤ i ∧ i < a + k
    · rw [if_pos (by omega), if_pos h]
    · rw [if_neg (by omega), if_neg h]

theorem or8 (v x : Int) (h1 : 0 ≤ v) (h2 : v < 256) (h3 : 0 ≤ x) (h4 : x ≤ 255) : bits .or .u32 v (x * 256) = v + x * 256 := by
  rw [u32_or v (x * 256) h1 (by omega) (by omega) (by omega), Nat.or_comm, nat_join 8 _ _ (by omega) (by omega)]
  omega
theorem or16 (v x : Int) (h1 : 0 ≤ v) (h2 : v < 65536) (h3 : 0 ≤ x) (h4 : x ≤ 255) : bits .or .u32 v (x * 65536) = v + x * 65536 := by
  rw [u32_or v (x * 65536) h1 (by omega) (by omega) (by omega), Nat.or_comm, nat_join 16 _ _ (by omega) (by omega)]
  omega
theorem or24 (v x : Int) (h1 : 0 ≤ v) (h2 : v < 16777216) (h3 : 0 ≤ x) (h4 : x ≤ 255) : bits .or .u32 v (x * 16777216) = v + x * 16777216 := by
  rw [u32_or v (x * 16777216) h1 (by omega) (by omega) (by omega), Nat.or_comm, nat_join 24 _ _ (by omega) (by omega)]
  omega
theorem or0 (x : Int) (h3 : 0 ≤ x) (h4 : x ≤ 255) : bits .or .u32 0 x = x := by
  rw [u32_or 0 x (by omega) (by omega) (by omega) (by omega)]
  simp
  omega

/-- What a number's place is: its bytes are all there. -/
def inP (n : Nat) (at' wd : Int) : Prop := (wd = 1 ∨ wd = 2 ∨ wd = 4) ∧ 0 ≤ at' ∧ at' ≤ n ∧ wd ≤ n - at'
instance (n : Nat) (at' wd : Int) : Decidable (inP n at' wd) := inferInstanceAs (Decidable (_ ∧ _))
theorem inP.nat {n : Nat} {at' wd : Int} (h : inP n at' wd) : ∃ a m : Nat, at' = a ∧ wd = m ∧ (m = 1 ∨ m = 2 ∨ m = 4) ∧ a + m ≤ n := by
  obtain ⟨h1, h2, h3, h4⟩ := h
  refine ⟨at'.toNat, wd.toNat, by omega, by omega, by omega, by omega⟩

/-- The highest bit in all bits above. -/
def signV (v wd : Int) : Int := if wd = 1 then (if 128 ≤ v % 256 then v % 256 + 4294967040 else v % 256) else if wd = 2 then (if 32768 ≤ v % 65536 then v % 65536 + 4294901760 else v % 65536) else v

/-- What is put is got. -/
theorem get_put1 (f : Nat → Int) (a : Nat) (v : Int) : getV (putF f a 1 v) a 1 = v % 256 := by
  simp [getV, putF]
theorem get_put2 (f : Nat → Int) (a : Nat) (v : Int) : getV (putF f a 2 v) a 2 = v % 65536 := by
  simp [getV, putF]
  omega
theorem get_put4 (f : Nat → Int) (a : Nat) (v : Int) (h0 : 0 ≤ v) (h1 : v < 4294967296) : getV (putF f a 4 v) a 4 = v := by
  simp [getV, putF]
  omega

end Go.Proofs.Ytgcnmhlojfncpaa
