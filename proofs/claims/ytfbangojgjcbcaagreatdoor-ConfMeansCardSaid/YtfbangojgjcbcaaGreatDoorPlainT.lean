/- Plain texts of addresses and prefixes. Nothing of the program. -/
import Derived.Test.YtfbangojgjcbcaaGreatDoorPlainN
import Derived.Lib.ItoaNum
import Derived.Lib.Join
import Derived.Lib.JoinLaws
import Derived.Lib.Split
import Derived.Lib.SplitLaws
import Derived.Lib.ParseIntB
import Derived.Lib.CutLaws
namespace Go.Proofs.YtfbangojgjcbcaaGreatDoor.Pl
open Go.Lib (decDigits itoa join)

/-- An address's bytes. -/
def oct (a i : Nat) : Nat := a / 2 ^ (8 * (3 - i)) % 256
def octs (a : Nat) : List (List UInt8) := (List.range 4).map fun i => decDigits (oct a i)
def addrText (a : Nat) : List UInt8 := join (octs a) [46]
def prefixText (a n : Nat) : List UInt8 := addrText a ++ 47 :: decDigits n

theorem itoa_nat (n : Nat) : itoa (n : Int) = decDigits n := by simp [itoa]
theorem oct_lt (a i : Nat) : oct a i < 256 := Nat.mod_lt _ (by decide)
theorem octs_length (a : Nat) : (octs a).length = 4 := by simp [octs]
theorem octs_take (a j : Nat) (h : j < 4) : (octs a).take (j + 1) = (octs a).take j ++ [decDigits (oct a j)] := by
  rw [List.take_add_one]; simp [octs, h]
theorem dec_len (n : Nat) (h : n < 1000) : (decDigits n).length ≤ 3 := by
  rw [Lib.decDigits_length]
  by_cases h1 : n < 10
  · rw [Lib.nDigits_small h1]; omega
  · rw [Lib.nDigits_big h1]
    by_cases h2 : n / 10 < 10
    · rw [Lib.nDigits_small h2]; omega
    · rw [Lib.nDigits_big h2, Lib.nDigits_small (by omega)]; omega
theorem octs_eq (a : Nat) : octs a = [decDigits (oct a 0), decDigits (oct a 1), decDigits (oct a 2), decDigits (oct a 3)] := by
  simp [octs, List.range_succ]
theorem addrText_eq (a : Nat) : addrText a = decDigits (oct a 0) ++ (46 :: (decDigits (oct a 1) ++ (46 :: (decDigits (oct a 2) ++ (46 :: decDigits (oct a 3)))))) := by
  rw [addrText, octs_eq]; simp [join, List.intercalate]
theorem addrText_len (a : Nat) : (addrText a).length ≤ 15 := by
  have h0 := dec_len _ (Nat.lt_trans (oct_lt a 0) (by decide))
  have h1 := dec_len _ (Nat.lt_trans (oct_lt a 1) (by decide))
  have h2 := dec_len _ (Nat.lt_trans (oct_lt a 2) (by decide))
  have h3 := dec_len _ (Nat.lt_trans (oct_lt a 3) (by decide))
  rw [addrText_eq]; simp; omega
end Go.Proofs.YtfbangojgjcbcaaGreatDoor.Pl
