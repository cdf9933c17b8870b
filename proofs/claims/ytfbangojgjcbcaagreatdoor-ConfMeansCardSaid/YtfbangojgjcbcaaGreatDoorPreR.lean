/- Contracts of the prefix functions of package wire and of its reference. -/
/- Contracts of the prefix functions of the reference; Compare of both. -/
import Derived.Test.YtfbangojgjcbcaaGreatDoorBase
namespace Go.Proofs.YtfbangojgjcbcaaGreatDoor
open Go.RowKit Pl

theorem quiet_sym {P : Program} {f : FuncId} {args : Array Value} {w : World} {v : Value} (h : Calls P f args w fun e w' => e = .returned v ∧ w = w') : Calls P f args w fun e w' => e = .returned v ∧ w' = w :=
  h.mono fun _ _ ⟨a, b⟩ => ⟨a, b.symm⟩

theorem mask_num (n : Int) (h0 : 0 ≤ n) (h1 : n ≤ 32) : IntKind.u64.wrap (18446744073709551615 * 2 ^ (32 - n).toNat) % 4294967296 = 4294967296 - blk n := by
  have hle := blk_le n
  have hpos := blk_pos n
  have e : ((2 : Int) ^ (32 - n).toNat) = blk n := by
    unfold blk; rw [show (32 - n).toNat = 32 - n.toNat by omega]; simp
  rw [e, IntKind.wrap_u64]
  omega
set_option maxHeartbeats 400000 in
theorem mask_any (n : Int) (w : World) (h0 : 0 ≤ n) (h1 : n ≤ 32) :
    Calls Tryz.prog 135 #[.int .i64 n] w fun e w' => e = .returned (.int .u32 (4294967296 - blk n)) ∧ w = w' := by
  have H := Lib.hid (mask_num n h0 h1)
  go_enter Tryz.func135, Tryz.ntmps135
  go_wp2
  go_ret
  exact ⟨ret_int H.out, rfl⟩

theorem andNot_mask (a n : Int) (ha : 0 ≤ a) (ha' : a < 4294967296) : bits .andNot .u32 a (4294967296 - blk n) = a % blk n := by
  have hle := blk_le n
  have hpos := blk_pos n
  rw [u32_andNot a _ ha ha' (by omega) (by omega)]
  obtain ⟨A, rfl⟩ := Int.eq_ofNat_of_zero_le ha
  have e : blk n = ((2 ^ (32 - n.toNat) : Nat) : Int) := rfl
  rw [e]
  have hb := Nat.pow_pos (n := 32 - n.toNat) (show 0 < 2 by decide)
  rw [e] at hle hpos
  rw [show (4294967295 - (4294967296 - ((2 ^ (32 - n.toNat) : Nat) : Int)).toNat) = 2 ^ (32 - n.toNat) - 1 by omega, Int.toNat_natCast, and_low]
  exact Int.natCast_emod _ _
theorem and_maskI (a n : Int) (ha : 0 ≤ a) (ha' : a < 4294967296) : bits .and .u32 a (4294967296 - blk n) = firstP a n := by
  have hle := blk_le n
  have hpos := blk_pos n
  rw [u32_and a _ ha ha' (by omega) (by omega)]
  obtain ⟨A, rfl⟩ := Int.eq_ofNat_of_zero_le ha
  have e : blk n = ((2 ^ (32 - n.toNat) : Nat) : Int) := rfl
  unfold firstP
  rw [e]
  rw [e] at hle hpos
  rw [show (4294967296 - ((2 ^ (32 - n.toNat) : Nat) : Int)).toNat = 4294967296 - 2 ^ (32 - n.toNat) by omega, Int.toNat_natCast, and_mask A _ (by omega) (by omega)]
  simp

/-- An address. -/
def IsAddr (a : Int) : Prop := 0 ≤ a ∧ a < 4294967296

theorem mayP_out (a n : Int) (h : n < 0 ∨ 32 < n) : mayP a n = false := by
  unfold mayP; rcases h with h | h
  · simp [show ¬ 0 ≤ n by omega]
  · simp [show ¬ n ≤ 32 by omega]
theorem mayP_in (a n : Int) (h0 : 0 ≤ n) (h1 : n ≤ 32) : mayP a n = (a % blk n == 0) := by
  unfold mayP; simp [h0, h1]; rfl

set_option maxHeartbeats 400000 in
theorem may_any (a n : Int) (w : World) (ha : IsAddr a) :
    Calls Tryz.prog 134 #[.agg #[.int .u32 a, .int .i64 n]] w fun e w' => e = .returned (.bool (mayP a n)) ∧ Below w.heap.size w w' := by
  obtain ⟨ha0, ha1⟩ := ha
  by_cases h0 : 0 ≤ n
  · by_cases h1 : n ≤ 32
    · have HM := Lib.hid (mayP_in a n h0 h1)
      have hbn := andNot_mask a n ha0 ha1
      go_enter Tryz.func134, Tryz.ntmps134
      go_wp2
      go_quiet ((go_at_call 135; exact Calls.quiet_of_same (quiet_sym (mask_any n _ h0 h1))))
      go_wp2
      go_ret
      exact ⟨by rw [HM.out]; rfl, below_drewN ((Below.refl _ _).alloc (Nat.le_refl _) _) _⟩
    · have HM := Lib.hid (mayP_out a n (by omega))
      have d : decide (n ≤ 32) = false := by simpa using h1
      go_enter Tryz.func134, Tryz.ntmps134
      go_wp2
      go_quiet (fail)
      go_wp2
      go_ret
      exact ⟨by rw [HM.out]; rfl, below_drewN ((Below.refl _ _).alloc (Nat.le_refl _) _) _⟩
  · have HM := Lib.hid (mayP_out a n (by omega))
    have d : decide (0 ≤ n) = false := by simpa using h0
    go_enter Tryz.func134, Tryz.ntmps134
    go_wp2
    go_quiet (fail)
    go_wp2
    go_ret
    exact ⟨by rw [HM.out]; rfl, below_drewN ((Below.refl _ _).alloc (Nat.le_refl _) _) _⟩

theorem may_true (a n : Int) (w : World) (ha : IsAddr a) (h : mayP a n = true) :
    Calls Tryz.prog 134 #[.agg #[.int .u32 a, .int .i64 n]] w fun e w' => e = .returned (.bool true) ∧ Below w.heap.size w w' :=
  (may_any a n w ha).mono fun _ _ ⟨h1, h2⟩ => ⟨by rw [h1, h], h2⟩
theorem may_false (a n : Int) (w : World) (ha : IsAddr a) (h : mayP a n = false) :
    Calls Tryz.prog 134 #[.agg #[.int .u32 a, .int .i64 n]] w fun e w' => e = .returned (.bool false) ∧ Below w.heap.size w w' :=
  (may_any a n w ha).mono fun _ _ ⟨h1, h2⟩ => ⟨by rw [h1, h], h2⟩
theorem mayP_len {a n : Int} (h : mayP a n = true) : 0 ≤ n ∧ n ≤ 32 := by
  unfold mayP at h; simp at h; exact ⟨h.1, h.2.1⟩
theorem bcell {W w1 : World} (hb : Below W.heap.size W w1) : (∀ b o, b < W.heap.size → w1.cell? ⟨b, o, none⟩ = W.cell? ⟨b, o, none⟩) ∧ (∀ b o, b < W.heap.size → w1.frozen? ⟨b, o, none⟩ = W.frozen? ⟨b, o, none⟩) :=
  ⟨fun b o h => hb.cell (p := ⟨b, o, none⟩) h, fun b o h => hb.frozen (p := ⟨b, o, none⟩) h⟩
/-- Cells of a new block behind later worlds. -/
theorem cell_new_below {w w1 : World} {cs : Array Value} {t : TypeId} {k : Nat} (hb : Below (w.heap.size + 1) ((w.alloc (.cells cs t)).drewN k) w1) (i : Nat) : w1.cell? ⟨w.heap.size, i, none⟩ = cs[i]? := by
  rw [hb.cell (p := ⟨w.heap.size, i, none⟩) (by show w.heap.size < _; omega)]
  exact cell_of_row _ w.heap.size i cs t (0, 0) (heap_alloc_new w _)

set_option maxHeartbeats 400000 in
theorem has_any (a n x : Int) (w : World) (ha : IsAddr a) (hx : IsAddr x) :
    Calls Tryz.prog 72 #[.agg #[.int .u32 a, .int .i64 n], .int .u32 x] w fun e w' => e = .returned (.bool (hasP a n x)) ∧ Below w.heap.size w w' := by
  by_cases hm : mayP a n = true
  · obtain ⟨h0, h1⟩ := mayP_len hm
    have HH : Hid (hasP a n x = (firstP x n == a)) := by unfold hasP; rw [hm]; exact Lib.hid (by simp; rfl)
    have hfm := and_maskI x n hx.1 hx.2
    have HM := Lib.hid hm; clear hm
    go_enter Tryz.func72, Tryz.ntmps72
    go_wp2
    refine wp_region_ext (by kernel_rfl) (by kernel_rfl) ?_
    repeat (go_big_quiet_step (first | (go_at_call 134; exact Ext.call (may_true a n _ ha HM.out)) | (go_at_call 135; exact Ext.callq (mask_any n _ h0 h1))))
    refine wpQuiet_nil ?_
    rintro _ ⟨y, rfl⟩
    go_wp2
    go_ret
    exact ⟨by rw [HH.out]; rfl, (by repeat (first | exact Below.refl _ _ | apply Below.drew | apply below_drewN | apply bel_alloc | apply Ext.lift | apply bel_set0 | apply bel_set))⟩
  · have HH : Hid (hasP a n x = false) := by unfold hasP; simp only [Bool.not_eq_true] at hm; rw [hm]; exact Lib.hid rfl
    have HM := Lib.hid (show mayP a n = false by simpa using hm); clear hm
    go_enter Tryz.func72, Tryz.ntmps72
    go_wp2
    refine wp_region_ext (by kernel_rfl) (by kernel_rfl) ?_
    repeat (go_big_quiet_step (first | (go_at_call 134; exact Ext.call (may_false a n _ ha HM.out))))
    refine wpQuiet_nil ?_
    rintro _ ⟨y, rfl⟩
    go_wp2
    go_ret
    exact ⟨by rw [HH.out]; rfl, (by repeat (first | exact Below.refl _ _ | apply Below.drew | apply below_drewN | apply bel_alloc | apply Ext.lift | apply bel_set0 | apply bel_set))⟩

theorem has_true (a n x : Int) (w : World) (ha : IsAddr a) (hx : IsAddr x) (h : hasP a n x = true) :
    Calls Tryz.prog 72 #[.agg #[.int .u32 a, .int .i64 n], .int .u32 x] w fun e w' => e = .returned (.bool true) ∧ Below w.heap.size w w' :=
  (has_any a n x w ha hx).mono fun _ _ ⟨h1, h2⟩ => ⟨by rw [h1, h], h2⟩
theorem withinP_eq (a n b m : Int) : withinP a n b m = (mayP b m && (decide (n ≤ m) && hasP a n b)) := by
  unfold withinP hasP
  cases mayP a n <;> cases mayP b m <;> simp
end Go.Proofs.YtfbangojgjcbcaaGreatDoor
namespace Go.Proofs.YtfbangojgjcbcaaGreatDoor
open Go.RowKit Pl

theorem first_le (a k j : Nat) (ha : a < 4294967296) (hj : j < k) : a / 2 ^ k * 2 ^ j * 2 ≤ 4294967295 := by
  have h1 : 2 ^ j * 2 ≤ 2 ^ k := by rw [← Nat.pow_succ]; exact Nat.pow_le_pow_right (by decide) hj
  have h2 := Nat.mul_le_mul_left (a / 2 ^ k) h1
  have h3 := Nat.div_mul_le_self a (2 ^ k)
  rw [Nat.mul_assoc]
  omega
set_option maxRecDepth 100000 in
set_option maxHeartbeats 400000 in
theorem rfirst (a n : Int) (w : World) (ha : IsAddr a) (h0 : 0 ≤ n) (h1 : n ≤ 32) :
    Calls Tryz.prog 158 #[.int .u32 a, .int .i64 n] w fun e w' => e = .returned (.int .u32 (firstP a n)) ∧ w = w' := by
  obtain ⟨ha0, ha1⟩ := ha
  obtain ⟨A, rfl⟩ := Int.eq_ofNat_of_zero_le ha0
  obtain ⟨m, rfl⟩ := Int.eq_ofNat_of_zero_le h0
  have HA : Hid (A < 4294967296) := Lib.hid (by omega)
  clear ha0 ha1 h0
  obtain ⟨k, hk⟩ : ∃ k, k = 32 - m := ⟨_, rfl⟩
  have HF : Hid (firstP A m = ((A / 2 ^ k * 2 ^ k : Nat) : Int)) := Lib.hid (by unfold firstP blk; rw [hk]; simp)
  have HK : Hid (k = 32 - m) := Lib.hid hk
  have hk1 : (k : Int) = 32 - m := by omega
  have hk2 : (32 : Int) - m ≤ k := by omega
  have hk3 : (k : Int) ≤ 32 - m := by omega
  clear hk hk1
  go_enter Tryz.func158, Tryz.ntmps158
  go_wp2
  go_loop [0, 5] (fun x i => ∃ j q : Nat, j ≤ k ∧ i = .int .i64 j ∧ x = .int .u32 (q : Int) ∧ Hid (q = A / 2 ^ j)) (fun _ i => k - (intOf i).toNat)
  case atStart => exact ⟨0, A, Nat.zero_le _, rfl, rfl, Lib.hid (by simp)⟩
  case round =>
    obtain ⟨j, q, hj, rfl, rfl, HQ⟩ := hrel
    by_cases hlt : j < k
    · have hq : q ≤ 4294967295 := by have := HQ.out; have := HA.out; have := Nat.div_le_self A (2 ^ j); omega
      go_wp2
      go_round
      case rel => exact ⟨j + 1, q / 2, by omega, by go_num, by go_num, Lib.hid (by rw [HQ.out, Nat.pow_succ, Nat.div_div_eq_div_mul])⟩
      case measure => simp [intOf]; omega
    · obtain rfl : j = k := by omega
      go_wp2
      go_loop [0, 6] (fun x i => ∃ i0 q : Nat, i0 ≤ j ∧ i = .int .i64 i0 ∧ x = .int .u32 (q : Int) ∧ Hid (q = A / 2 ^ j * 2 ^ i0)) (fun _ i => j - (intOf i).toNat)
      case atStart => exact ⟨0, q, Nat.zero_le _, rfl, rfl, Lib.hid (by rw [HQ.out]; simp)⟩
      case round =>
        obtain ⟨i0, q2, hj2, rfl, rfl, HQ2⟩ := hrel
        by_cases hlt2 : i0 < j
        · have hq2 : q2 * 2 ≤ 4294967295 := by rw [HQ2.out]; exact first_le A j i0 HA.out hlt2
          go_wp2
          go_round
          case rel => exact ⟨i0 + 1, q2 * 2, by omega, by go_num, by go_num, Lib.hid (by rw [HQ2.out, Nat.pow_succ, Nat.mul_assoc])⟩
          case measure => simp [intOf]; omega
        · obtain rfl : i0 = j := by omega
          go_wp2
          go_ret
          exact ⟨ret_int (by rw [HF.out, HQ2.out]), rfl⟩

theorem firstP_eq (a n : Int) : (firstP a n == a) = (a % blk n == 0) := by
  have hb := blk_pos n
  have := Int.mul_ediv_add_emod a (blk n)
  unfold firstP
  rw [Int.mul_comm, Bool.eq_iff_iff]; simp; omega

set_option maxHeartbeats 400000 in
theorem rmay (a n : Int) (w : World) (ha : IsAddr a) :
    Calls Tryz.prog 118 #[.agg #[.int .u32 a, .int .i64 n]] w fun e w' => e = .returned (.bool (mayP a n)) ∧ Below w.heap.size w w' := by
  by_cases h0 : 0 ≤ n
  · by_cases h1 : n ≤ 32
    · have HM : Hid (mayP a n = (firstP a n == a)) := Lib.hid (by rw [mayP_in a n h0 h1, firstP_eq])
      go_enter Tryz.func118, Tryz.ntmps118
      go_wp2
      refine wp_region_ext (by kernel_rfl) (by kernel_rfl) ?_
      repeat (go_big_quiet_step (first | (go_at_call 158; exact Ext.callq (rfirst a n _ ha h0 h1))))
      refine wpQuiet_nil ?_
      rintro _ ⟨y, rfl⟩
      go_wp2
      go_ret
      exact ⟨by rw [HM.out]; rfl, (by repeat (first | exact Below.refl _ _ | apply Below.drew | apply below_drewN | apply bel_alloc | apply Ext.lift | apply bel_set0 | apply bel_set))⟩
    · have HM := Lib.hid (mayP_out a n (by omega))
      have d : decide (n ≤ 32) = false := by simpa using h1
      go_enter Tryz.func118, Tryz.ntmps118
      go_wp2
      go_quiet (fail)
      go_wp2
      go_ret
      exact ⟨by rw [HM.out]; rfl, (by repeat (first | exact Below.refl _ _ | apply Below.drew | apply below_drewN | apply bel_alloc | apply Ext.lift | apply bel_set0 | apply bel_set))⟩
  · have HM := Lib.hid (mayP_out a n (by omega))
    have d : decide (0 ≤ n) = false := by simpa using h0
    go_enter Tryz.func118, Tryz.ntmps118
    go_wp2
    go_quiet (fail)
    go_wp2
    go_ret
    exact ⟨by rw [HM.out]; rfl, (by repeat (first | exact Below.refl _ _ | apply Below.drew | apply below_drewN | apply bel_alloc | apply Ext.lift | apply bel_set0 | apply bel_set))⟩
theorem rmay_at (a n : Int) (b : Bool) (w : World) (ha : IsAddr a) (h : mayP a n = b) :
    Calls Tryz.prog 118 #[.agg #[.int .u32 a, .int .i64 n]] w fun e w' => e = .returned (.bool b) ∧ Below w.heap.size w w' := by
  rw [← h]; exact rmay a n w ha
end Go.Proofs.YtfbangojgjcbcaaGreatDoor
