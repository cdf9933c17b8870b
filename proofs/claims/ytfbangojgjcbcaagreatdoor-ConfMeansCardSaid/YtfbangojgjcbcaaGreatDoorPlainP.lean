/- Plain arithmetic of prefixes: an address is a number below 2^32, a length from 0 to 32. Nothing of the program. -/
import Derived.WalkKit
namespace Go.Proofs.YtfbangojgjcbcaaGreatDoor.Pl

/-- 2 to the number of bits behind the first n. -/
def blk (n : Int) : Int := ((2 ^ (32 - n.toNat) : Nat) : Int)
/-- May the prefix be? -/
def mayP (a n : Int) : Bool := decide (0 ≤ n) && (decide (n ≤ 32) && decide (a % blk n = 0))
/-- The first n bits, the others noughts. -/
def firstP (a n : Int) : Int := a / blk n * blk n
def hasP (a n x : Int) : Bool := mayP a n && decide (firstP x n = a)
def withinP (a n b m : Int) : Bool := mayP a n && (mayP b m && (decide (n ≤ m) && decide (firstP b n = a)))
def cmpI (x y : Int) : Int := if x < y then -1 else if y < x then 1 else 0
def cmpP (a n b m : Int) : Int := if cmpI a b = 0 then cmpI n m else cmpI a b

theorem blk_pos (n : Int) : 1 ≤ blk n := by
  unfold blk; have := Nat.pow_pos (n := 32 - n.toNat) (show 0 < 2 by decide); omega
theorem blk_le (n : Int) : blk n ≤ 4294967296 := by
  unfold blk; have := Nat.pow_le_pow_right (show 0 < 2 by decide) (show 32 - n.toNat ≤ 32 by omega); omega
/-- x & (2^32 - 2^k) = x / 2^k * 2^k below 2^32 -/
theorem and_mask (x k : Nat) (hx : x < 4294967296) (hk : k ≤ 32) : x &&& (4294967296 - 2 ^ k) = x / 2 ^ k * 2 ^ k := by
  apply Nat.eq_of_testBit_eq
  intro i
  have h1 : (4294967296 : Nat) - 2 ^ k = 2 ^ 32 - (2 ^ k - 1 + 1) := by
    have := Nat.pow_pos (n := k) (show 0 < 2 by decide); omega
  rw [Nat.testBit_and, h1, Nat.testBit_two_pow_sub_succ (by have := Nat.pow_le_pow_right (show 0 < 2 by decide) hk; have := Nat.pow_pos (n := k) (show 0 < 2 by decide); omega), Nat.testBit_two_pow_sub_one, Nat.mul_comm, Nat.testBit_two_pow_mul, Nat.testBit_div_two_pow]
  by_cases hi : i < 32
  · by_cases hik : i < k
    · simp [hik]; intro; omega
    · rw [Nat.sub_add_cancel (by omega)]; simp [hi, hik]; omega
  · have : x.testBit i = false := Nat.testBit_lt_two_pow (Nat.lt_of_lt_of_le hx (Nat.pow_le_pow_right (show 0 < 2 by decide) (show 32 ≤ i by omega)))
    by_cases hki : k ≤ i
    · rw [Nat.sub_add_cancel hki]; simp [this]
    · simp [this, hki]
theorem and_low (x k : Nat) : x &&& (2 ^ k - 1) = x % 2 ^ k := Nat.and_two_pow_sub_one_eq_mod x k
end Go.Proofs.YtfbangojgjcbcaaGreatDoor.Pl
