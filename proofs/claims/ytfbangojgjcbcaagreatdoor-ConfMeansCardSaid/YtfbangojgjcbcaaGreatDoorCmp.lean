/- Contracts: the reference's Has, Within, Compare; wire.Compare. -/
import Derived.Test.YtfbangojgjcbcaaGreatDoorPreR
import Derived.Test.YtfbangojgjcbcaaGreatDoorLoadF
namespace Go.Proofs.YtfbangojgjcbcaaGreatDoor
open Go.RowKit Pl

set_option maxHeartbeats 400000 in
theorem rhas (a n x : Int) (w : World) (ha : IsAddr a) (hx : IsAddr x) :
    Calls Tryz.prog 120 #[.agg #[.int .u32 a, .int .i64 n], .int .u32 x] w fun e w' => e = .returned (.bool (hasP a n x)) ∧ Below w.heap.size w w' := by
  by_cases hm : mayP a n = true
  · obtain ⟨h0, h1⟩ := mayP_len hm
    have HH : Hid (hasP a n x = (firstP x n == a)) := by unfold hasP; rw [hm]; exact Lib.hid (by simp; rfl)
    have HM := Lib.hid hm; clear hm
    go_enter Tryz.func120, Tryz.ntmps120
    go_wp2
    refine wp_region_ext (by kernel_rfl) (by kernel_rfl) ?_
    repeat (go_big_quiet_step (first | (go_at_call 118; exact Ext.call (rmay_at a n true _ ha HM.out)) | (go_at_call 158; exact Ext.callq (rfirst x n _ hx h0 h1))))
    refine wpQuiet_nil ?_
    rintro _ ⟨y, rfl⟩
    go_wp2
    go_ret
    exact ⟨by rw [HH.out]; rfl, (by repeat (first | exact Below.refl _ _ | apply Below.drew | apply below_drewN | apply bel_alloc | apply Ext.lift | apply bel_set0 | apply bel_set))⟩
  · have HH : Hid (hasP a n x = false) := by unfold hasP; simp only [Bool.not_eq_true] at hm; rw [hm]; exact Lib.hid rfl
    have HM := Lib.hid (show mayP a n = false by simpa using hm); clear hm
    go_enter Tryz.func120, Tryz.ntmps120
    go_wp2
    refine wp_region_ext (by kernel_rfl) (by kernel_rfl) ?_
    repeat (go_big_quiet_step (first | (go_at_call 118; exact Ext.call (rmay_at a n false _ ha HM.out))))
    refine wpQuiet_nil ?_
    rintro _ ⟨y, rfl⟩
    go_wp2
    go_ret
    exact ⟨by rw [HH.out]; rfl, (by repeat (first | exact Below.refl _ _ | apply Below.drew | apply below_drewN | apply bel_alloc | apply Ext.lift | apply bel_set0 | apply bel_set))⟩

theorem cmpA (x y : Int) (w : World) : Calls Tryz.prog 168 #[.int .u32 x, .int .u32 y] w fun e w' => e = .returned (.int .i64 (cmpI x y)) ∧ w = w' := by
  unfold cmpI
  by_cases h : x < y
  · rw [if_pos h]
    go_enter Tryz.func168, Tryz.ntmps168
    go_wp2
    go_ret
    exact ⟨rfl, rfl⟩
  · rw [if_neg h]
    by_cases h2 : y < x
    · rw [if_pos h2]
      go_enter Tryz.func168, Tryz.ntmps168
      go_wp2
      go_ret
      exact ⟨rfl, rfl⟩
    · rw [if_neg h2]
      go_enter Tryz.func168, Tryz.ntmps168
      go_wp2
      go_ret
      exact ⟨rfl, rfl⟩
theorem cmpL (x y : Int) (w : World) : Calls Tryz.prog 169 #[.int .i64 x, .int .i64 y] w fun e w' => e = .returned (.int .i64 (cmpI x y)) ∧ w = w' := by
  unfold cmpI
  by_cases h : x < y
  · rw [if_pos h]
    go_enter Tryz.func169, Tryz.ntmps169
    go_wp2
    go_ret
    exact ⟨rfl, rfl⟩
  · rw [if_neg h]
    by_cases h2 : y < x
    · rw [if_pos h2]
      go_enter Tryz.func169, Tryz.ntmps169
      go_wp2
      go_ret
      exact ⟨rfl, rfl⟩
    · rw [if_neg h2]
      go_enter Tryz.func169, Tryz.ntmps169
      go_wp2
      go_ret
      exact ⟨rfl, rfl⟩

def orI (x y : Int) : Int := if x = 0 then y else x
def OrRel (x y : Int) (j : Nat) : Prop := (1 ≤ j → x = 0) ∧ (2 ≤ j → y = 0)
theorem orI_zero (y : Int) : orI 0 y = y := by simp [orI]
theorem orI_ne (x y : Int) (h : ¬ x = 0) : orI x y = x := by simp [orI, h]
set_option maxHeartbeats 400000 in
theorem or2 (x y : Int) (b : Nat) (w : World) (h0 : w.cell? ⟨b, 0, none⟩ = some (.int .i64 x)) (h1 : w.cell? ⟨b, 1, none⟩ = some (.int .i64 y)) :
    Calls Tryz.prog 167 #[.slice (some ⟨b, 0, none⟩) 2 2] w fun e w' => e = .returned (.int .i64 (orI x y)) ∧ w = w' := by
  go_enter Tryz.func167, Tryz.ntmps167
  go_wp2
  go_loop [8] (fun i => ∃ j : Nat, j ≤ 2 ∧ i = .int .i64 j ∧ OrRel x y j) (fun i => 2 - (intOf i).toNat)
  case atStart => exact ⟨0, by omega, rfl, (fun h => by omega), (fun h => by omega)⟩
  case round =>
    obtain ⟨j, hj, rfl, HR⟩ := hrel
    obtain rfl | rfl | rfl : j = 0 ∨ j = 1 ∨ j = 2 := by omega
    · by_cases hx : x = 0
      · subst hx
        go_wp2
        go_round
        case rel => exact ⟨1, by omega, rfl, (fun _ => rfl), (fun h => by omega)⟩
        case measure => simp [intOf]
      · have d : (x != 0) = true := by simpa using hx
        go_wp2
        go_ret
        exact ⟨ret_int (orI_ne x y hx).symm, rfl⟩
    · have hx := HR.1 (Nat.le_refl _)
      subst hx
      by_cases hy : y = 0
      · subst hy
        go_wp2
        go_round
        case rel => exact ⟨2, by omega, rfl, (fun _ => rfl), (fun _ => rfl)⟩
        case measure => simp [intOf]
      · have d : (y != 0) = true := by simpa using hy
        go_wp2
        go_ret
        exact ⟨ret_int (orI_zero _).symm, rfl⟩
    · have hx := HR.1 (by omega)
      have hy := HR.2 (by omega)
      subst hx; subst hy
      go_wp2
      go_ret
      exact ⟨ret_int (orI_zero _).symm, rfl⟩

theorem cmpP_eq (a n b m : Int) : cmpP a n b m = orI (cmpI a b) (cmpI n m) := rfl
set_option maxRecDepth 100000 in
set_option maxHeartbeats 400000 in
theorem compare_any (a n b m : Int) (w : World) :
    Calls Tryz.prog 130 #[.agg #[.int .u32 a, .int .i64 n], .agg #[.int .u32 b, .int .i64 m]] w fun e w' => e = .returned (.int .i64 (cmpP a n b m)) ∧ Below w.heap.size w w' := by
  rw [cmpP_eq]
  go_enter Tryz.func130, Tryz.ntmps130
  go_wp2
  refine wp_region_ext_tail 10 (by kernel_rfl) (by kernel_rfl) ?_
  simp only [List.take_succ_cons, List.take_zero, List.drop_succ_cons, List.drop_zero]
  repeat (go_big_quiet_step (first | (go_at_call 168; exact Ext.callq (cmpA a b _)) | (go_at_call 169; exact Ext.callq (cmpL n m _))))
  refine wpQuiet_nil ?_
  rintro _ ⟨y, rfl⟩
  go_wp2_with (go_at_call 167; refine (or2 (cmpI a b) (cmpI n m) _ _ (by simp) (by simp)).mono ?_; rintro e w' ⟨rfl, rfl⟩)
  go_ret
  exact ⟨rfl, (by repeat (first | exact Below.refl _ _ | apply Below.drew | apply below_drewN | apply bel_alloc | apply Ext.lift | apply bel_set0 | apply bel_set))⟩

set_option maxHeartbeats 400000 in
theorem rcompare (a n b m : Int) (w : World) :
    Calls Tryz.prog 119 #[.agg #[.int .u32 a, .int .i64 n], .agg #[.int .u32 b, .int .i64 m]] w fun e w' => e = .returned (.int .i64 (cmpP a n b m)) ∧ Below w.heap.size w w' := by
  by_cases h1 : a < b
  · have HC : Hid (cmpP a n b m = -1) := Lib.hid (by unfold cmpP cmpI; simp [h1])
    have d1 : (a == b) = false := by simp; omega
    go_enter Tryz.func119, Tryz.ntmps119
    go_wp2
    go_ret
    exact ⟨ret_int (by rw [HC.out]), (by repeat (first | exact Below.refl _ _ | apply Below.drew | apply below_drewN | apply bel_alloc | apply Ext.lift | apply bel_set0 | apply bel_set))⟩
  by_cases h2 : b < a
  · have HC : Hid (cmpP a n b m = 1) := Lib.hid (by unfold cmpP cmpI; simp [h1, h2])
    have d1 : (a == b) = false := by simp; omega
    have d2 : decide (a < b) = false := by simpa using h1
    go_enter Tryz.func119, Tryz.ntmps119
    go_wp2
    go_ret
    exact ⟨ret_int (by rw [HC.out]), (by repeat (first | exact Below.refl _ _ | apply Below.drew | apply below_drewN | apply bel_alloc | apply Ext.lift | apply bel_set0 | apply bel_set))⟩
  obtain rfl : a = b := by omega
  clear h1 h2
  by_cases h3 : n < m
  · have HC : Hid (cmpP a n a m = -1) := Lib.hid (by unfold cmpP cmpI; simp [h3])
    have d1 : (n == m) = false := by simp; omega
    go_enter Tryz.func119, Tryz.ntmps119
    go_wp2
    go_ret
    exact ⟨ret_int (by rw [HC.out]), (by repeat (first | exact Below.refl _ _ | apply Below.drew | apply below_drewN | apply bel_alloc | apply Ext.lift | apply bel_set0 | apply bel_set))⟩
  by_cases h4 : m < n
  · have HC : Hid (cmpP a n a m = 1) := Lib.hid (by unfold cmpP cmpI; simp [h3, h4])
    have d1 : (n == m) = false := by simp; omega
    have d2 : decide (n < m) = false := by simpa using h3
    go_enter Tryz.func119, Tryz.ntmps119
    go_wp2
    go_ret
    exact ⟨ret_int (by rw [HC.out]), (by repeat (first | exact Below.refl _ _ | apply Below.drew | apply below_drewN | apply bel_alloc | apply Ext.lift | apply bel_set0 | apply bel_set))⟩
  obtain rfl : n = m := by omega
  clear h3 h4
  have HC : Hid (cmpP a n a n = 0) := Lib.hid (by unfold cmpP cmpI; simp)
  go_enter Tryz.func119, Tryz.ntmps119
  go_wp2
  go_ret
  exact ⟨ret_int (by rw [HC.out]), (by repeat (first | exact Below.refl _ _ | apply Below.drew | apply below_drewN | apply bel_alloc | apply Ext.lift | apply bel_set0 | apply bel_set))⟩
end Go.Proofs.YtfbangojgjcbcaaGreatDoor
