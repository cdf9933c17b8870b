/- Plain laws of prefixes: their order, and which are within which. Nothing of the program. -/
import Derived.Test.YtfbangojgjcbcaaGreatDoorPlainP
namespace Go.Proofs.YtfbangojgjcbcaaGreatDoor.Pl

theorem cmpI_bd (x y : Int) : -1 ≤ cmpI x y ∧ cmpI x y ≤ 1 := by
  unfold cmpI; split
  · omega
  · split <;> omega
theorem cmpP_bd (a n b m : Int) : -1 ≤ cmpP a n b m ∧ cmpP a n b m ≤ 1 := by
  unfold cmpP; split <;> exact cmpI_bd _ _
theorem cmpP_lt (a n b m : Int) : cmpP a n b m < 0 ↔ a < b ∨ (a = b ∧ n < m) := by
  unfold cmpP cmpI
  by_cases h1 : a < b
  · simp [h1]
  · by_cases h2 : b < a
    · simp [h1, h2]; omega
    · have : a = b := by omega
      subst this
      by_cases h3 : n < m
      · simp [h3]
      · by_cases h4 : m < n <;> simp [h3, h4]
theorem cmpP_zero (a n b m : Int) : cmpP a n b m = 0 ↔ a = b ∧ n = m := by
  unfold cmpP cmpI
  by_cases h1 : a < b
  · simp [h1]; omega
  · by_cases h2 : b < a
    · simp [h1, h2]; omega
    · have : a = b := by omega
      subst this
      by_cases h3 : n < m
      · simp [h3]; omega
      · by_cases h4 : m < n
        · simp [h3, h4]; omega
        · simp [h3, h4]; omega
theorem cmpP_neg (a n b m : Int) : -(cmpP b m a n) = cmpP a n b m := by
  unfold cmpP cmpI
  by_cases h1 : a < b
  · have : ¬ b < a := by omega
    simp [h1, this]
  · by_cases h2 : b < a
    · simp [h1, h2]
    · have : a = b := by omega
      subst this
      by_cases h3 : n < m
      · have : ¬ m < n := by omega
        simp [h3, this]
      · by_cases h4 : m < n <;> simp [h3, h4]
theorem cmpP_trans (a n b m c k : Int) (h1 : cmpP a n b m < 0) (h2 : cmpP b m c k < 0) : cmpP a n c k < 0 := by
  rw [cmpP_lt] at *; omega

theorem mayP_iff (a n : Int) : mayP a n = true ↔ 0 ≤ n ∧ n ≤ 32 ∧ a % blk n = 0 := by unfold mayP; simp
theorem withinP_iff (a n b m : Int) : withinP a n b m = true ↔ mayP a n = true ∧ mayP b m = true ∧ n ≤ m ∧ firstP b n = a := by unfold withinP; simp
theorem hasP_iff (a n x : Int) : hasP a n x = true ↔ mayP a n = true ∧ firstP x n = a := by unfold hasP; simp
theorem firstP_le (a n : Int) : firstP a n ≤ a ∧ a < firstP a n + blk n := by
  unfold firstP
  have h1 := Int.mul_ediv_add_emod a (blk n)
  have h2 := Int.emod_nonneg a (show blk n ≠ 0 by have := blk_pos n; omega)
  have h3 := Int.emod_lt_of_pos a (show 0 < blk n by have := blk_pos n; omega)
  rw [Int.mul_comm] at h1
  omega
/-- The blocks of a longer prefix divide those of a shorter one. -/
theorem blk_dvd (n m : Int) (h0 : 0 ≤ n) (h : n ≤ m) (h1 : m ≤ 32) : ∃ t : Int, 1 ≤ t ∧ blk n = t * blk m := by
  refine ⟨((2 ^ (m - n).toNat : Nat) : Int), ?_, ?_⟩
  · have := Nat.pow_pos (n := (m - n).toNat) (show 0 < 2 by decide); omega
  · unfold blk
    rw [← Int.natCast_mul, ← Nat.pow_add]
    congr 2
    omega
theorem firstP_mono (a b n : Int) (h : a ≤ b) : firstP a n ≤ firstP b n := by
  unfold firstP
  have := blk_pos n
  exact Int.mul_le_mul_of_nonneg_right (Int.ediv_le_ediv (by omega) h) (by omega)
theorem firstP_self (a n : Int) (h : a % blk n = 0) : firstP a n = a := by
  unfold firstP
  have h1 := Int.mul_ediv_add_emod a (blk n)
  rw [Int.mul_comm] at h1
  omega
/-- First bits of first bits. -/
theorem firstP_first (x n m : Int) (h0 : 0 ≤ n) (h : n ≤ m) (h1 : m ≤ 32) : firstP (firstP x m) n = firstP x n := by
  obtain ⟨t, ht, e⟩ := blk_dvd n m h0 h h1
  have hm := blk_pos m
  unfold firstP
  rw [e]
  congr 1
  rw [Int.mul_comm t, ← Int.ediv_ediv_of_nonneg (by omega), ← Int.ediv_ediv_of_nonneg (by omega), Int.mul_ediv_cancel _ (by omega)]
theorem within_le (a n c k : Int) (h : withinP a n c k = true) : cmpP a n c k ≤ 0 := by
  rw [withinP_iff] at h
  obtain ⟨_, _, h3, h4⟩ := h
  have := (firstP_le c n).1
  rcases Int.lt_or_le (cmpP a n c k) 1 with h' | h'
  · omega
  · exfalso
    have hb := cmpP_bd a n c k
    have h5 : cmpP c k a n < 0 := by rw [← cmpP_neg]; omega
    rw [cmpP_lt] at h5
    omega
theorem within_between (a n b m c k : Int) (h : withinP a n c k = true) (hm : mayP b m = true) (h1 : cmpP a n b m ≤ 0) (h2 : cmpP b m c k ≤ 0) : withinP a n b m = true := by
  rw [withinP_iff] at h ⊢
  obtain ⟨w1, w2, w3, w4⟩ := h
  have p1 := (mayP_iff a n).1 w1
  have p2 := (mayP_iff b m).1 hm
  have l1 : a < b ∨ (a = b ∧ n ≤ m) := by
    rcases Int.lt_or_le (cmpP a n b m) 0 with h | h
    · have := (cmpP_lt a n b m).1 h; omega
    · have := (cmpP_zero a n b m).1 (by omega); omega
  have l2 : b ≤ c := by
    rcases Int.lt_or_le (cmpP b m c k) 0 with h | h
    · have := (cmpP_lt b m c k).1 h; omega
    · have := (cmpP_zero b m c k).1 (by omega); omega
  have hf : firstP b n = a := by
    have f1 := firstP_mono a b n (by omega)
    have f2 := firstP_mono b c n l2
    rw [firstP_self a n p1.2.2] at f1
    omega
  refine ⟨w1, hm, ?_, hf⟩
  rcases l1 with l1 | l1
  · rcases Int.lt_or_le m n with hlt | hge
    · exfalso
      obtain ⟨t, ht, e⟩ := blk_dvd m n p2.1 (by omega) p1.2.1
      have hb := (firstP_le b n).2
      rw [hf] at hb
      have hd : (b - a) % blk n = 0 := by
        have e1 : b % blk n = 0 := by
          have := p2.2.2
          rw [e] at this
          have h3 := Int.emod_emod_of_dvd b (show blk n ∣ t * blk n from ⟨t, Int.mul_comm _ _⟩)
          rw [this] at h3
          simpa using h3.symm
        rw [Int.sub_emod, e1, p1.2.2]; simp
      rw [Int.emod_eq_of_lt (by omega) (by omega)] at hd
      omega
    · exact hge
  · exact l1.2
theorem within_trans (a n b m c k : Int) (h1 : withinP a n b m = true) (h2 : withinP b m c k = true) : withinP a n c k = true := by
  rw [withinP_iff] at *
  obtain ⟨p1, _, p3, p4⟩ := h1
  obtain ⟨q1, q2, q3, q4⟩ := h2
  refine ⟨p1, q2, by omega, ?_⟩
  have i1 := (mayP_iff a n).1 p1
  have i2 := (mayP_iff b m).1 q1
  rw [← firstP_first c n m i1.1 p3 i2.2.1, q4, p4]
/-- Of two prefixes one is within the other, or no address is in both. -/
theorem has_both (a n b m x : Int) (h1 : hasP a n x = true) (h2 : hasP b m x = true) : withinP a n b m = true ∨ withinP b m a n = true := by
  rw [hasP_iff] at *
  have i1 := (mayP_iff a n).1 h1.1
  have i2 := (mayP_iff b m).1 h2.1
  rcases Int.le_total n m with h | h
  · left
    rw [withinP_iff]
    exact ⟨h1.1, h2.1, h, by rw [← h2.2, firstP_first x n m i1.1 h i2.2.1, h1.2]⟩
  · right
    rw [withinP_iff]
    exact ⟨h2.1, h1.1, h, by rw [← h1.2, firstP_first x m n i2.1 h i1.2.1, h2.2]⟩
end Go.Proofs.YtfbangojgjcbcaaGreatDoor.Pl
