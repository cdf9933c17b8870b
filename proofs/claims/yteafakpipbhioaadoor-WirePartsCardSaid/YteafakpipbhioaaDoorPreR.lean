/- Contracts of the prefix functions of the reference; Compare of both. -/
import Derived.Test.YteafakpipbhioaaDoorPre
namespace Go.Proofs.YteafakpipbhioaaDoor
open Go.RowKit Pl

theorem first_le (a k j : Nat) (ha : a < 4294967296) (hj : j < k) : a / 2 ^ k * 2 ^ j * 2 ≤ 4294967295 := by
  have h1 : 2 ^ j * 2 ≤ 2 ^ k := by rw [← Nat.pow_succ]; exact Nat.pow_le_pow_right (by decide) hj
  have h2 := Nat.mul_le_mul_left (a / 2 ^ k) h1
  have h3 := Nat.div_mul_le_self a (2 ^ k)
  rw [Nat.mul_assoc]
  omega
set_option maxRecDepth 100000 in
set_option maxHeartbeats 400000 in
theorem rfirst (a n : Int) (w : World) (ha : IsAddr a) (h0 : 0 ≤ n) (h1 : n ≤ 32) :
    Calls Tryd.prog 75 #[.int .u32 a, .int .i64 n] w fun e w' => e = .returned (.int .u32 (firstP a n)) ∧ w = w' := by
  obtain ⟨ha0, ha1⟩ := ha
  obtain ⟨A, rfl⟩ := Int.eq_ofNat_of_zero_le ha0
  obtain ⟨m, rfl⟩ := Int.eq_ofNat_of_zero_le h0
  have HA : Hid (A < 4294967296) := Lib.hid (by omega)
  clear ha0 ha1 h0
  obtain ⟨k, hk⟩ : ∃ k, k = 32 - m := ⟨_, rfl⟩
  have HF : Hid (firstP A m = ((A / 2 ^ k * 2 ^ k : Nat) : Int)) := Lib.hid (by unfold firstP blk; rw [hk]; simp)
  have HK : Hid (k = 32 - m) := Lib.hid hk
  have hk1 : (k : Int) = 32 - m := by omega
  have hk2 : (32 : Int) - m ≤ k := by omega
  have hk3 : (k : Int) ≤ 32 - m := by omega
  clear hk hk1
  go_enter Tryd.func75, Tryd.ntmps75
  go_wp2
  go_loop [0, 5] (fun x i => ∃ j q : Nat, j ≤ k ∧ i = .int .i64 j ∧ x = .int .u32 (q : Int) ∧ Hid (q = A / 2 ^ j)) (fun _ i => k - (intOf i).toNat)
  case atStart => exact ⟨0, A, Nat.zero_le _, rfl, rfl, Lib.hid (by simp)⟩
  case round =>
    obtain ⟨j, q, hj, rfl, rfl, HQ⟩ := hrel
    by_cases hlt : j < k
    · have hq : q ≤ 4294967295 := by have := HQ.out; have := HA.out; have := Nat.div_le_self A (2 ^ j); omega
      go_wp2
      go_round
      case rel => exact ⟨j + 1, q / 2, by omega, by go_num, by go_num, Lib.hid (by rw [HQ.out, Nat.pow_succ, Nat.div_div_eq_div_mul])⟩
      case measure => simp [intOf]; omega
    · obtain rfl : j = k := by omega
      go_wp2
      go_loop [0, 6] (fun x i => ∃ i0 q : Nat, i0 ≤ j ∧ i = .int .i64 i0 ∧ x = .int .u32 (q : Int) ∧ Hid (q = A / 2 ^ j * 2 ^ i0)) (fun _ i => j - (intOf i).toNat)
      case atStart => exact ⟨0, q, Nat.zero_le _, rfl, rfl, Lib.hid (by rw [HQ.out]; simp)⟩
      case round =>
        obtain ⟨i0, q2, hj2, rfl, rfl, HQ2⟩ := hrel
        by_cases hlt2 : i0 < j
        · have hq2 : q2 * 2 ≤ 4294967295 := by rw [HQ2.out]; exact first_le A j i0 HA.out hlt2
          go_wp2
          go_round
          case rel => exact ⟨i0 + 1, q2 * 2, by omega, by go_num, by go_num, Lib.hid (by rw [HQ2.out, Nat.pow_succ, Nat.mul_assoc])⟩
          case measure => simp [intOf]; omega
        · obtain rfl : i0 = j := by omega
          go_wp2
          go_ret
          exact ⟨ret_int (by rw [HF.out, HQ2.out]), rfl⟩

theorem firstP_eq (a n : Int) : (firstP a n == a) = (a % blk n == 0) := by
  have hb := blk_pos n
  have := Int.mul_ediv_add_emod a (blk n)
  unfold firstP
  rw [Int.mul_comm, Bool.eq_iff_iff]; simp; omega

set_option maxHeartbeats 400000 in
theorem rmay (a n : Int) (w : World) (ha : IsAddr a) :
    Calls Tryd.prog 30 #[.agg #[.int .u32 a, .int .i64 n]] w fun e w' => e = .returned (.bool (mayP a n)) ∧ Below w.heap.size w w' := by
  by_cases h0 : 0 ≤ n
  · by_cases h1 : n ≤ 32
    · have HM : Hid (mayP a n = (firstP a n == a)) := Lib.hid (by rw [mayP_in a n h0 h1, firstP_eq])
      go_enter Tryd.func30, Tryd.ntmps30
      go_wp2
      refine wp_region_ext (by kernel_rfl) (by kernel_rfl) ?_
      repeat (go_big_quiet_step (first | (go_at_call 75; exact Ext.callq (rfirst a n _ ha h0 h1))))
      refine wpQuiet_nil ?_
      rintro _ ⟨y, rfl⟩
      go_wp2
      go_ret
      exact ⟨by rw [HM.out]; rfl, (by repeat (first | exact Below.refl _ _ | apply Below.drew | apply below_drewN | apply bel_alloc | apply Ext.lift | apply bel_set0 | apply bel_set))⟩
    · have HM := Lib.hid (mayP_out a n (by omega))
      have d : decide (n ≤ 32) = false := by simpa using h1
      go_enter Tryd.func30, Tryd.ntmps30
      go_wp2
      go_quiet (fail)
      go_wp2
      go_ret
      exact ⟨by rw [HM.out]; rfl, (by repeat (first | exact Below.refl _ _ | apply Below.drew | apply below_drewN | apply bel_alloc | apply Ext.lift | apply bel_set0 | apply bel_set))⟩
  · have HM := Lib.hid (mayP_out a n (by omega))
    have d : decide (0 ≤ n) = false := by simpa using h0
    go_enter Tryd.func30, Tryd.ntmps30
    go_wp2
    go_quiet (fail)
    go_wp2
    go_ret
    exact ⟨by rw [HM.out]; rfl, (by repeat (first | exact Below.refl _ _ | apply Below.drew | apply below_drewN | apply bel_alloc | apply Ext.lift | apply bel_set0 | apply bel_set))⟩
theorem rmay_at (a n : Int) (b : Bool) (w : World) (ha : IsAddr a) (h : mayP a n = b) :
    Calls Tryd.prog 30 #[.agg #[.int .u32 a, .int .i64 n]] w fun e w' => e = .returned (.bool b) ∧ Below w.heap.size w w' := by
  rw [← h]; exact rmay a n w ha
end Go.Proofs.YteafakpipbhioaaDoor
