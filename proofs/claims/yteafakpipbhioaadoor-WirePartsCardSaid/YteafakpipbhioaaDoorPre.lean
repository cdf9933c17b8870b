/- Contracts of the prefix functions of package wire and of its reference. -/
import Derived.Test.YteafakpipbhioaaDoorBase
namespace Go.Proofs.YteafakpipbhioaaDoor
open Go.RowKit Pl

theorem quiet_sym {P : Program} {f : FuncId} {args : Array Value} {w : World} {v : Value} (h : Calls P f args w fun e w' => e = .returned v ∧ w = w') : Calls P f args w fun e w' => e = .returned v ∧ w' = w :=
  h.mono fun _ _ ⟨a, b⟩ => ⟨a, b.symm⟩

theorem mask_num (n : Int) (h0 : 0 ≤ n) (h1 : n ≤ 32) : IntKind.u64.wrap (18446744073709551615 * 2 ^ (32 - n).toNat) % 4294967296 = 4294967296 - blk n := by
  have hle := blk_le n
  have hpos := blk_pos n
  have e : ((2 : Int) ^ (32 - n).toNat) = blk n := by
    unfold blk; rw [show (32 - n).toNat = 32 - n.toNat by omega]; simp
  rw [e, IntKind.wrap_u64]
  omega
set_option maxHeartbeats 400000 in
theorem mask_any (n : Int) (w : World) (h0 : 0 ≤ n) (h1 : n ≤ 32) :
    Calls Tryd.prog 79 #[.int .i64 n] w fun e w' => e = .returned (.int .u32 (4294967296 - blk n)) ∧ w = w' := by
  have H := Lib.hid (mask_num n h0 h1)
  go_enter Tryd.func79, Tryd.ntmps79
  go_wp2
  go_ret
  exact ⟨ret_int H.out, rfl⟩

theorem andNot_mask (a n : Int) (ha : 0 ≤ a) (ha' : a < 4294967296) : bits .andNot .u32 a (4294967296 - blk n) = a % blk n := by
  have hle := blk_le n
  have hpos := blk_pos n
  rw [u32_andNot a _ ha ha' (by omega) (by omega)]
  obtain ⟨A, rfl⟩ := Int.eq_ofNat_of_zero_le ha
  have e : blk n = ((2 ^ (32 - n.toNat) : Nat) : Int) := rfl
  rw [e]
  have hb := Nat.pow_pos (n := 32 - n.toNat) (show 0 < 2 by decide)
  rw [e] at hle hpos
  rw [show (4294967295 - (4294967296 - ((2 ^ (32 - n.toNat) : Nat) : Int)).toNat) = 2 ^ (32 - n.toNat) - 1 by omega, Int.toNat_natCast, and_low]
  exact Int.natCast_emod _ _
theorem and_maskI (a n : Int) (ha : 0 ≤ a) (ha' : a < 4294967296) : bits .and .u32 a (4294967296 - blk n) = firstP a n := by
  have hle := blk_le n
  have hpos := blk_pos n
  rw [u32_and a _ ha ha' (by omega) (by omega)]
  obtain ⟨A, rfl⟩ := Int.eq_ofNat_of_zero_le ha
  have e : blk n = ((2 ^ (32 - n.toNat) : Nat) : Int) := rfl
  unfold firstP
  rw [e]
  rw [e] at hle hpos
  rw [show (4294967296 - ((2 ^ (32 - n.toNat) : Nat) : Int)).toNat = 4294967296 - 2 ^ (32 - n.toNat) by omega, Int.toNat_natCast, and_mask A _ (by omega) (by omega)]
  simp

/-- An address. -/
def IsAddr (a : Int) : Prop := 0 ≤ a ∧ a < 4294967296

theorem mayP_out (a n : Int) (h : n < 0 ∨ 32 < n) : mayP a n = false := by
  unfold mayP; rcases h with h | h
  · simp [show ¬ 0 ≤ n by omega]
  · simp [show ¬ n ≤ 32 by omega]
theorem mayP_in (a n : Int) (h0 : 0 ≤ n) (h1 : n ≤ 32) : mayP a n = (a % blk n == 0) := by
  unfold mayP; simp [h0, h1]; rfl

set_option maxHeartbeats 400000 in
theorem may_any (a n : Int) (w : World) (ha : IsAddr a) :
    Calls Tryd.prog 36 #[.agg #[.int .u32 a, .int .i64 n]] w fun e w' => e = .returned (.bool (mayP a n)) ∧ Below w.heap.size w w' := by
  obtain ⟨ha0, ha1⟩ := ha
  by_cases h0 : 0 ≤ n
  · by_cases h1 : n ≤ 32
    · have HM := Lib.hid (mayP_in a n h0 h1)
      have hbn := andNot_mask a n ha0 ha1
      go_enter Tryd.func36, Tryd.ntmps36
      go_wp2
      go_quiet ((go_at_call 79; exact Calls.quiet_of_same (quiet_sym (mask_any n _ h0 h1))))
      go_wp2
      go_ret
      exact ⟨by rw [HM.out]; rfl, below_drewN ((Below.refl _ _).alloc (Nat.le_refl _) _) _⟩
    · have HM := Lib.hid (mayP_out a n (by omega))
      have d : decide (n ≤ 32) = false := by simpa using h1
      go_enter Tryd.func36, Tryd.ntmps36
      go_wp2
      go_quiet (fail)
      go_wp2
      go_ret
      exact ⟨by rw [HM.out]; rfl, below_drewN ((Below.refl _ _).alloc (Nat.le_refl _) _) _⟩
  · have HM := Lib.hid (mayP_out a n (by omega))
    have d : decide (0 ≤ n) = false := by simpa using h0
    go_enter Tryd.func36, Tryd.ntmps36
    go_wp2
    go_quiet (fail)
    go_wp2
    go_ret
    exact ⟨by rw [HM.out]; rfl, below_drewN ((Below.refl _ _).alloc (Nat.le_refl _) _) _⟩

theorem may_true (a n : Int) (w : World) (ha : IsAddr a) (h : mayP a n = true) :
    Calls Tryd.prog 36 #[.agg #[.int .u32 a, .int .i64 n]] w fun e w' => e = .returned (.bool true) ∧ Below w.heap.size w w' :=
  (may_any a n w ha).mono fun _ _ ⟨h1, h2⟩ => ⟨by rw [h1, h], h2⟩
theorem may_false (a n : Int) (w : World) (ha : IsAddr a) (h : mayP a n = false) :
    Calls Tryd.prog 36 #[.agg #[.int .u32 a, .int .i64 n]] w fun e w' => e = .returned (.bool false) ∧ Below w.heap.size w w' :=
  (may_any a n w ha).mono fun _ _ ⟨h1, h2⟩ => ⟨by rw [h1, h], h2⟩
theorem mayP_len {a n : Int} (h : mayP a n = true) : 0 ≤ n ∧ n ≤ 32 := by
  unfold mayP at h; simp at h; exact ⟨h.1, h.2.1⟩
theorem bcell {W w1 : World} (hb : Below W.heap.size W w1) : (∀ b o, b < W.heap.size → w1.cell? ⟨b, o, none⟩ = W.cell? ⟨b, o, none⟩) ∧ (∀ b o, b < W.heap.size → w1.frozen? ⟨b, o, none⟩ = W.frozen? ⟨b, o, none⟩) :=
  ⟨fun b o h => hb.cell (p := ⟨b, o, none⟩) h, fun b o h => hb.frozen (p := ⟨b, o, none⟩) h⟩
/-- Cells of a new block behind later worlds. -/
theorem cell_new_below {w w1 : World} {cs : Array Value} {t : TypeId} {k : Nat} (hb : Below (w.heap.size + 1) ((w.alloc (.cells cs t)).drewN k) w1) (i : Nat) : w1.cell? ⟨w.heap.size, i, none⟩ = cs[i]? := by
  rw [hb.cell (p := ⟨w.heap.size, i, none⟩) (by show w.heap.size < _; omega)]
  exact cell_of_row _ w.heap.size i cs t (0, 0) (heap_alloc_new w _)

set_option maxHeartbeats 400000 in
theorem has_any (a n x : Int) (w : World) (ha : IsAddr a) (hx : IsAddr x) :
    Calls Tryd.prog 38 #[.agg #[.int .u32 a, .int .i64 n], .int .u32 x] w fun e w' => e = .returned (.bool (hasP a n x)) ∧ Below w.heap.size w w' := by
  by_cases hm : mayP a n = true
  · obtain ⟨h0, h1⟩ := mayP_len hm
    have HH : Hid (hasP a n x = (firstP x n == a)) := by unfold hasP; rw [hm]; exact Lib.hid (by simp; rfl)
    have hfm := and_maskI x n hx.1 hx.2
    have HM := Lib.hid hm; clear hm
    go_enter Tryd.func38, Tryd.ntmps38
    go_wp2
    refine wp_region_ext (by kernel_rfl) (by kernel_rfl) ?_
    repeat (go_big_quiet_step (first | (go_at_call 36; exact Ext.call (may_true a n _ ha HM.out)) | (go_at_call 79; exact Ext.callq (mask_any n _ h0 h1))))
    refine wpQuiet_nil ?_
    rintro _ ⟨y, rfl⟩
    go_wp2
    go_ret
    exact ⟨by rw [HH.out]; rfl, (by repeat (first | exact Below.refl _ _ | apply Below.drew | apply below_drewN | apply bel_alloc | apply Ext.lift | apply bel_set0 | apply bel_set))⟩
  · have HH : Hid (hasP a n x = false) := by unfold hasP; simp only [Bool.not_eq_true] at hm; rw [hm]; exact Lib.hid rfl
    have HM := Lib.hid (show mayP a n = false by simpa using hm); clear hm
    go_enter Tryd.func38, Tryd.ntmps38
    go_wp2
    refine wp_region_ext (by kernel_rfl) (by kernel_rfl) ?_
    repeat (go_big_quiet_step (first | (go_at_call 36; exact Ext.call (may_false a n _ ha HM.out))))
    refine wpQuiet_nil ?_
    rintro _ ⟨y, rfl⟩
    go_wp2
    go_ret
    exact ⟨by rw [HH.out]; rfl, (by repeat (first | exact Below.refl _ _ | apply Below.drew | apply below_drewN | apply bel_alloc | apply Ext.lift | apply bel_set0 | apply bel_set))⟩

theorem has_true (a n x : Int) (w : World) (ha : IsAddr a) (hx : IsAddr x) (h : hasP a n x = true) :
    Calls Tryd.prog 38 #[.agg #[.int .u32 a, .int .i64 n], .int .u32 x] w fun e w' => e = .returned (.bool true) ∧ Below w.heap.size w w' :=
  (has_any a n x w ha hx).mono fun _ _ ⟨h1, h2⟩ => ⟨by rw [h1, h], h2⟩
theorem withinP_eq (a n b m : Int) : withinP a n b m = (mayP b m && (decide (n ≤ m) && hasP a n b)) := by
  unfold withinP hasP
  cases mayP a n <;> cases mayP b m <;> simp
set_option maxHeartbeats 400000 in
theorem within_any (a n b m : Int) (w : World) (ha : IsAddr a) (hb : IsAddr b) :
    Calls Tryd.prog 37 #[.agg #[.int .u32 a, .int .i64 n], .agg #[.int .u32 b, .int .i64 m]] w fun e w' => e = .returned (.bool (withinP a n b m)) ∧ Below w.heap.size w w' := by
  rw [withinP_eq]
  by_cases hm : mayP b m = true
  · by_cases hl : n ≤ m
    · rw [hm]
      have HM := Lib.hid hm; clear hm
      go_enter Tryd.func37, Tryd.ntmps37
      go_wp2_with (first | (go_at_call 36; refine (ext_of (may_true b m _ hb HM.out)).mono ?_; rintro e w' ⟨rfl, y, rfl⟩; have hz := y.below.size; simp only [World.size_alloc] at hz) | (go_at_call 38; refine (ext_of (has_any a n b _ ha hb)).mono ?_; rintro e w' ⟨rfl, z, rfl⟩))
      go_ret
      exact ⟨by simp [hl], (by repeat (first | exact Below.refl _ _ | apply Below.drew | apply below_drewN | apply bel_alloc | apply Ext.lift | apply bel_set0 | apply bel_set))⟩
    · rw [hm]
      have HM := Lib.hid hm; clear hm
      have d : decide (n ≤ m) = false := by simpa using hl
      go_enter Tryd.func37, Tryd.ntmps37
      go_wp2_with (go_at_call 36; refine (ext_of (may_true b m _ hb HM.out)).mono ?_; rintro e w' ⟨rfl, y, rfl⟩)
      go_ret
      exact ⟨by rw [d]; rfl, (by repeat (first | exact Below.refl _ _ | apply Below.drew | apply below_drewN | apply bel_alloc | apply Ext.lift | apply bel_set0 | apply bel_set))⟩
  · have hm' : mayP b m = false := by simpa using hm
    rw [hm']
    have HM := Lib.hid hm'; clear hm hm'
    go_enter Tryd.func37, Tryd.ntmps37
    go_wp2_with (go_at_call 36; refine (ext_of (may_false b m _ hb HM.out)).mono ?_; rintro e w' ⟨rfl, y, rfl⟩)
    go_ret
    exact ⟨rfl, (by repeat (first | exact Below.refl _ _ | apply Below.drew | apply below_drewN | apply bel_alloc | apply Ext.lift | apply bel_set0 | apply bel_set))⟩
end Go.Proofs.YteafakpipbhioaaDoor
