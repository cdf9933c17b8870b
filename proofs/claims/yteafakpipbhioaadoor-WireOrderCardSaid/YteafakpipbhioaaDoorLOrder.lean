/- The walk of the law WireOrder: whatever three prefixes, it answers true. -/
import Derived.Test.YteafakpipbhioaaDoorKnown
import Derived.Test.YteafakpipbhioaaDoorCmp
import Derived.Test.YteafakpipbhioaaDoorPlainO
import Derived.Deep.DeepCutAuto
namespace Go.Proofs.YteafakpipbhioaaDoor
open Go.RowKit Pl

set_option maxRecDepth 100000 in
set_option maxHeartbeats 4000000 in
theorem wireOrder_walk (a n b m c k : Int) (w : World) (ha : IsAddr a) (hb : IsAddr b) (hc : IsAddr c) (E : Env w) :
    Calls Tryd.prog 8 #[.agg #[.int .u32 a, .int .i64 n], .agg #[.int .u32 b, .int .i64 m], .agg #[.int .u32 c, .int .i64 k]] w fun e w' => e = .returned (.bool true) ∧ Below w.heap.size w w' := by
  have E1 := ((E.alloc (.cells #[.int .u32 a, .int .i64 n] 38)).alloc (.cells #[.int .u32 b, .int .i64 m] 38)).alloc (.cells #[.int .u32 c, .int .i64 k] 38)
  go_enter Tryd.func8, Tryd.ntmps8
  go_upto_region 1 with fail
  go_cut [42] (fun s42 wx => s42 = .bool false ∧ InExt (((w.alloc (.cells #[.int .u32 a, .int .i64 n] 38)).alloc (.cells #[.int .u32 b, .int .i64 m] 38)).alloc (.cells #[.int .u32 c, .int .i64 k] 38)) wx)
  case first =>
    have hneg := cmpP_neg a n b m
    have hbd := cmpP_bd b m a n
    have hbd1 := cmpP_bd a n b m
    by_cases hab : a = b
    · by_cases hnm : n = m
      · subst hab; subst hnm
        have h0 : cmpP a n a n = 0 := (cmpP_zero a n a n).2 ⟨rfl, rfl⟩
        clear hneg hbd hbd1
        refine wp_region_ext (by kernel_rfl) (by kernel_rfl) ?_
        repeat (go_big_quiet_step (first | (go_at_call 41; exact Ext.call (compare_any _ _ _ _ _))))
        refine wpQuiet_nil ?_
        rintro _ ⟨y, rfl⟩
        go_wp2_with fail
        go_meet
        exact ⟨rfl, y, rfl⟩
      · subst hab
        have hz : (cmpP a n a m == 0) = false := by simp [cmpP_zero, hnm]
        have d0 : (n == m) = false := by simpa using hnm
        by_cases h1 : cmpP a n a m < 0
        · by_cases h2 : cmpP a m c k < 0
          · have h3 : decide (0 ≤ cmpP a n c k) = false := by have := cmpP_trans a n a m c k h1 h2; simp; omega
            refine wp_region_ext (by kernel_rfl) (by kernel_rfl) ?_
            repeat (go_big_quiet_step (first | (go_at_call 41; exact Ext.call (compare_any _ _ _ _ _))))
            refine wpQuiet_nil ?_
            rintro _ ⟨y, rfl⟩
            go_wp2_with fail
            go_meet
            exact ⟨rfl, y, rfl⟩
          · have d2 : decide (cmpP a m c k < 0) = false := by simpa using h2
            refine wp_region_ext (by kernel_rfl) (by kernel_rfl) ?_
            repeat (go_big_quiet_step (first | (go_at_call 41; exact Ext.call (compare_any _ _ _ _ _))))
            refine wpQuiet_nil ?_
            rintro _ ⟨y, rfl⟩
            go_wp2_with fail
            go_meet
            exact ⟨rfl, y, rfl⟩
        · have d1 : decide (cmpP a n a m < 0) = false := by simpa using h1
          refine wp_region_ext (by kernel_rfl) (by kernel_rfl) ?_
          repeat (go_big_quiet_step (first | (go_at_call 41; exact Ext.call (compare_any _ _ _ _ _))))
          refine wpQuiet_nil ?_
          rintro _ ⟨y, rfl⟩
          go_wp2_with fail
          go_meet
          exact ⟨rfl, y, rfl⟩
    · have hz : (cmpP a n b m == 0) = false := by simp [cmpP_zero, hab]
      have d0 : (a == b) = false := by simpa using hab
      by_cases h1 : cmpP a n b m < 0
      · by_cases h2 : cmpP b m c k < 0
        · have h3 : decide (0 ≤ cmpP a n c k) = false := by have := cmpP_trans a n b m c k h1 h2; simp; omega
          refine wp_region_ext (by kernel_rfl) (by kernel_rfl) ?_
          repeat (go_big_quiet_step (first | (go_at_call 41; exact Ext.call (compare_any _ _ _ _ _))))
          refine wpQuiet_nil ?_
          rintro _ ⟨y, rfl⟩
          go_wp2_with fail
          go_meet
          exact ⟨rfl, y, rfl⟩
        · have d2 : decide (cmpP b m c k < 0) = false := by simpa using h2
          refine wp_region_ext (by kernel_rfl) (by kernel_rfl) ?_
          repeat (go_big_quiet_step (first | (go_at_call 41; exact Ext.call (compare_any _ _ _ _ _))))
          refine wpQuiet_nil ?_
          rintro _ ⟨y, rfl⟩
          go_wp2_with fail
          go_meet
          exact ⟨rfl, y, rfl⟩
      · have d1 : decide (cmpP a n b m < 0) = false := by simpa using h1
        refine wp_region_ext (by kernel_rfl) (by kernel_rfl) ?_
        repeat (go_big_quiet_step (first | (go_at_call 41; exact Ext.call (compare_any _ _ _ _ _))))
        refine wpQuiet_nil ?_
        rintro _ ⟨y, rfl⟩
        go_wp2_with fail
        go_meet
        exact ⟨rfl, y, rfl⟩
  case rest =>
    obtain ⟨rfl, y, rfl⟩ := hcut
    have r6 : (withinP a n b m = false) ∨ (withinP a n b m = true ∧ withinP b m c k = false) ∨ (withinP a n b m = true ∧ withinP b m c k = true ∧ withinP a n c k = true) := by
      by_cases h1 : withinP a n b m = true
      · by_cases h2 : withinP b m c k = true
        · exact .inr (.inr ⟨h1, h2, within_trans _ _ _ _ _ _ h1 h2⟩)
        · exact .inr (.inl ⟨h1, by simpa using h2⟩)
      · exact .inl (by simpa using h1)
    by_cases hw : withinP a n c k = true
    · have hle := within_le _ _ _ _ hw
      have dle : decide (0 < cmpP a n c k) = false := by simp; omega
      have r4 : (mayP b m = false) ∨ (mayP b m = true ∧ decide (cmpP a n b m ≤ 0) = false) ∨ (mayP b m = true ∧ decide (cmpP a n b m ≤ 0) = true ∧ decide (cmpP b m c k ≤ 0) = false) ∨ (mayP b m = true ∧ decide (cmpP a n b m ≤ 0) = true ∧ decide (cmpP b m c k ≤ 0) = true ∧ withinP a n b m = true) := by
        by_cases hm : mayP b m = true
        · by_cases h1 : cmpP a n b m ≤ 0
          · by_cases h2 : cmpP b m c k ≤ 0
            · exact .inr (.inr (.inr ⟨hm, by simpa using h1, by simpa using h2, within_between _ _ _ _ _ _ hw hm h1 h2⟩))
            · exact .inr (.inr (.inl ⟨hm, by simpa using h1, by simpa using h2⟩))
          · exact .inr (.inl ⟨hm, by simpa using h1⟩)
        · exact .inl (by simpa using hm)
      clear hle
      rcases r4 with h4 | ⟨h4, h5⟩ | ⟨h4, h5, h6⟩ | ⟨h4, h5, h6, h7⟩ <;> rcases r6 with g1 | ⟨g1, g2⟩ | ⟨g1, g2, g3⟩
      all_goals first
        | (exfalso; simp_all; done)
        | (go_wp2_with (first | (go_at_call 37; refine (Ext.call (within_any _ _ _ _ _ (by assumption) (by assumption))).mono ?_; rintro e w' ⟨rfl, z, rfl⟩) | (go_at_call 41; refine (Ext.call (compare_any _ _ _ _ _)).mono ?_; rintro e w' ⟨rfl, z, rfl⟩) | (go_at_call 36; refine (Ext.call (may_any _ _ _ (by assumption))).mono ?_; rintro e w' ⟨rfl, z, rfl⟩) | (go_at_call 16; refine (Ext.call (known_any _ (Ext.env _ E1))).mono ?_; rintro e w' ⟨rfl, z, rfl⟩)); go_ret; exact ⟨rfl, (by repeat (first | exact Below.refl _ _ | apply Below.drew | apply below_drewN | apply bel_alloc | apply Ext.lift | apply bel_set0 | apply bel_set))⟩)
    · have hw' : withinP a n c k = false := by simpa using hw
      clear hw
      rcases r6 with g1 | ⟨g1, g2⟩ | ⟨g1, g2, g3⟩
      all_goals first
        | (exfalso; simp_all; done)
        | (go_wp2_with (first | (go_at_call 37; refine (Ext.call (within_any _ _ _ _ _ (by assumption) (by assumption))).mono ?_; rintro e w' ⟨rfl, z, rfl⟩) | (go_at_call 41; refine (Ext.call (compare_any _ _ _ _ _)).mono ?_; rintro e w' ⟨rfl, z, rfl⟩) | (go_at_call 36; refine (Ext.call (may_any _ _ _ (by assumption))).mono ?_; rintro e w' ⟨rfl, z, rfl⟩) | (go_at_call 16; refine (Ext.call (known_any _ (Ext.env _ E1))).mono ?_; rintro e w' ⟨rfl, z, rfl⟩)); go_ret; exact ⟨rfl, (by repeat (first | exact Below.refl _ _ | apply Below.drew | apply below_drewN | apply bel_alloc | apply Ext.lift | apply bel_set0 | apply bel_set))⟩)
end Go.Proofs.YteafakpipbhioaaDoor
