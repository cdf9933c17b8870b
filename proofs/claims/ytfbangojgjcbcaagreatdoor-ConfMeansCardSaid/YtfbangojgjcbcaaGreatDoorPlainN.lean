/- Plain numbers and bytes: the highest first. Nothing of the program. -/
import Derived.Test.YtfbangojgjcbcaaGreatDoorPlainP
namespace Go.Proofs.YtfbangojgjcbcaaGreatDoor.Pl

/-- A number's bytes, so many, the highest first. -/
def putB (n k : Nat) : List UInt8 := (List.range k).map fun i => UInt8.ofNat (n / 2 ^ (8 * (k - 1 - i)))
/-- The number of bytes. -/
def getB (l : List UInt8) : Nat := l.foldl (fun a b => a * 256 + b.toNat) 0
/-- Has a number room? -/
def fits (n k : Nat) : Bool := decide (n / 2 ^ (8 * k) = 0)
def roomB (n : Nat) (k : Int) : Bool := decide (1 ≤ k) && (decide (k ≤ 8) && fits n k.toNat)

theorem putB_length (n k : Nat) : (putB n k).length = k := by simp [putB]
theorem putB_get (n k j : Nat) (h : j < k) : (putB n k)[j]? = some (UInt8.ofNat (n / 2 ^ (8 * (k - 1 - j)))) := by
  simp [putB, h]
theorem putB_take (n k j : Nat) (h : j < k) : (putB n k).take (j + 1) = (putB n k).take j ++ [UInt8.ofNat (n / 2 ^ (8 * (k - 1 - j)))] := by
  rw [List.take_add_one, putB_get n k j h]; rfl
theorem putB_drop (n k j : Nat) (h : j < k) : (putB n k).drop j = UInt8.ofNat (n / 2 ^ (8 * (k - 1 - j))) :: (putB n k).drop (j + 1) := by
  have hl : j < (putB n k).length := by rw [putB_length]; exact h
  rw [List.drop_eq_getElem_cons hl]
  congr 1
  have := putB_get n k j h
  rw [List.getElem?_eq_getElem hl] at this
  exact Option.some.inj this
theorem ofNat_toNat (n : Nat) : ((UInt8.ofNat n).toNat : Int) = (n : Int) % 256 := by simp
theorem getB_append (l m : List UInt8) : getB (l ++ m) = getB l * 256 ^ m.length + getB m := by
  have key : ∀ (m : List UInt8) (a : Nat), m.foldl (fun a b => a * 256 + b.toNat) a = a * 256 ^ m.length + m.foldl (fun a b => a * 256 + b.toNat) 0 := by
    intro m
    induction m with
    | nil => intro a; simp
    | cons x m ih =>
      intro a
      simp only [List.foldl_cons, List.length_cons]
      rw [ih (a * 256 + x.toNat), ih (0 * 256 + x.toNat), Nat.pow_succ]
      simp only [Nat.add_mul, Nat.mul_assoc, Nat.zero_mul, Nat.zero_add, Nat.mul_comm (256 ^ m.length) 256, Nat.add_assoc]
  unfold getB
  rw [List.foldl_append, key m]
theorem getB_snoc (l : List UInt8) (b : UInt8) : getB (l ++ [b]) = getB l * 256 + b.toNat := by
  simp [getB, List.foldl_append]
theorem getB_lt (l : List UInt8) : getB l < 256 ^ l.length := by
  induction l with
  | nil => simp [getB]
  | cons b l ih =>
    have h := getB_append [b] l
    simp only [List.singleton_append] at h
    rw [h, List.length_cons, Nat.pow_succ]
    have h1 : getB [b] = b.toNat := by simp [getB]
    have h2 : b.toNat < 256 := b.toNat_lt
    rw [h1]
    have h3 : b.toNat * 256 ^ l.length ≤ 255 * 256 ^ l.length := Nat.mul_le_mul_right _ (by omega)
    omega
theorem getB_putB (n : Nat) : ∀ k, getB (putB n k) = n % 256 ^ k := by
  have key : ∀ k j, j ≤ k → getB ((putB n k).take j) = n / 2 ^ (8 * (k - j)) % 256 ^ j := by
    intro k j
    induction j with
    | zero => intro _; simp [getB, Nat.mod_one]
    | succ j ih =>
      intro hj
      rw [putB_take n k j (by omega), getB_snoc, ih (by omega)]
      have e1 : k - j = (k - 1 - j) + 1 := by omega
      have e2 : k - (j + 1) = k - 1 - j := by omega
      rw [e2, e1]
      generalize hq : k - 1 - j = q
      have e3 : n / 2 ^ (8 * (q + 1)) = n / 2 ^ (8 * q) / 256 := by
        rw [Nat.div_div_eq_div_mul, show 8 * (q + 1) = 8 * q + 8 by omega, Nat.pow_add]
      rw [e3]
      generalize n / 2 ^ (8 * q) = m
      have e4 : (UInt8.ofNat m).toNat = m % 256 := by simp
      rw [e4, Nat.pow_succ, Nat.mul_comm (256 ^ j) 256, Nat.mod_mul]
      omega
  intro k
  have := key k k (Nat.le_refl _)
  rw [List.take_of_length_le (by rw [putB_length]; exact Nat.le_refl _)] at this
  simpa using this
theorem pow256 (k : Nat) : 256 ^ k = 2 ^ (8 * k) := by rw [Nat.pow_mul]
theorem or_low (a b : Nat) (hb : b < 256) : a * 256 ||| b = a * 256 + b := by
  have := Nat.two_pow_add_eq_or_of_lt (i := 8) (b := b) (by simpa using hb) a
  rw [Nat.mul_comm a 256]
  exact this.symm
end Go.Proofs.YtfbangojgjcbcaaGreatDoor.Pl
