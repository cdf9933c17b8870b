/- The walk of the law CtlFarther: whatever the two updates and the two numbers, it answers true. -/
import Derived.Test.YteafakpipbhioaaDoorLCtlBytes
import Derived.Deep.DeepCutAuto
namespace Go.Proofs.YteafakpipbhioaaDoor
open Go.RowKit Pl

theorem far_mono {d e c : Int} (h : d ≤ e) (h0 : 0 ≤ d) : decide (farP e c < farP d c) = false := by
  rw [decide_eq_false_iff_not]
  intro hh
  unfold farP at hh
  repeat' split at hh
  all_goals omega
theorem far_cost {d c k : Int} (h : c ≤ k) (h0 : 0 ≤ d) (h1 : d ≤ 255) (hc : 1 ≤ c) (hk : k ≤ 50) : decide (farP d k < farP d c) = false := by
  rw [decide_eq_false_iff_not]
  intro hh
  unfold farP at hh
  repeat' split at hh
  all_goals omega

set_option maxRecDepth 100000 in
set_option maxHeartbeats 4000000 in
theorem ctlFarther_walk (a n d b m e : Int) (c k : Int) (w : World) (ha : IsAddr a) (hb : IsAddr b) (E : Env w) :
    Calls Tryd.prog 13 #[upd a n d, upd b m e, .int .i64 c, .int .i64 k] w fun e w' => e = .returned (.bool true) ∧ Below w.heap.size w w' := by
  have E0 := (E.alloc (.cells #[.int .u32 a, .int .i64 n, .int .i64 d] 77)).alloc (.cells #[.int .u32 b, .int .i64 m, .int .i64 e] 77)
  by_cases hm : mayU a n d = true
  · by_cases hm2 : mayU b m e = true
    · obtain ⟨A, N, D, rfl, rfl, rfl, hA, hN, hD⟩ := mayU_nat hm ha
      obtain ⟨B, M, F, rfl, rfl, rfl, hB, hM, hF⟩ := mayU_nat hm2 hb
      have HM := Lib.hid hm
      have HM2 := Lib.hid hm2
      have hs2 : w.heap.size < w.heap.size + 1 + 1 := by omega
      go_enter Tryd.func13, Tryd.ntmps13
      go_wp2_with fail
      refine (ext_of (cmay_any _ _ _ _ (by assumption))).mono ?_
      rintro e w' ⟨rfl, y0, rfl⟩
      go_upto_region 2 with (first
        | (go_at_call 53; refine (Ext.call (cmay_any _ _ _ _ (by assumption))).mono ?_; rintro e w' ⟨rfl, y1, rfl⟩))
      go_cut [38] (fun s wx => s = .bool false ∧ ∃ y : Ext ((w.alloc (.cells #[.int .u32 (A : Int), .int .i64 (N : Int), .int .i64 (D : Int)] 77)).alloc (.cells #[.int .u32 (B : Int), .int .i64 (M : Int), .int .i64 (F : Int)] 77)), wx = y.w)
      case first =>
        have hs_y1 : w.heap.size < y1.w.heap.size := by have := y1.below.size; simp only [World.size_alloc] at this; omega
        have ht_y1 : w.heap.size + 1 < y1.w.heap.size := by have := y1.below.size; simp only [World.size_alloc] at this; omega
        by_cases h1 : D ≤ F
        · have h1' : (D : Int) ≤ (F : Int) := by omega
          have h2 := far_mono (c := c) h1' (by omega)
          refine wp_region_ext (by kernel_rfl) (by kernel_rfl) ?_
          repeat (go_big_quiet_step (first | (go_at_call 60; exact Ext.callq (far_any _ _ _))))
          refine wpQuiet_nil ?_
          rintro _ ⟨z, rfl⟩
          go_wp2_with fail
          go_meet
          exact ⟨rfl, ⟨_, y1.below.trans (z.below.mono y1.below.size)⟩, rfl⟩
        · have h1' : decide ((D : Int) ≤ (F : Int)) = false := by simp; omega
          refine wp_region_ext (by kernel_rfl) (by kernel_rfl) ?_
          repeat (go_big_quiet_step (first | (go_at_call 60; exact Ext.callq (far_any _ _ _))))
          refine wpQuiet_nil ?_
          rintro _ ⟨z, rfl⟩
          go_wp2_with fail
          go_meet
          exact ⟨rfl, ⟨_, y1.below.trans (z.below.mono y1.below.size)⟩, rfl⟩
      case rest =>
        obtain ⟨rfl, y2, rfl⟩ := hcut
        go_upto_region 4 with fail
        go_cut [60] (fun s wx => s = .bool false ∧ ∃ y : Ext ((w.alloc (.cells #[.int .u32 (A : Int), .int .i64 (N : Int), .int .i64 (D : Int)] 77)).alloc (.cells #[.int .u32 (B : Int), .int .i64 (M : Int), .int .i64 (F : Int)] 77)), wx = y.w)
        case first =>
          have hs_y2 : w.heap.size < y2.w.heap.size := by have := y2.below.size; simp only [World.size_alloc] at this; omega
          have ht_y2 : w.heap.size + 1 < y2.w.heap.size := by have := y2.below.size; simp only [World.size_alloc] at this; omega
          by_cases g1 : 1 ≤ c
          · by_cases g2 : c ≤ k
            · by_cases g3 : k ≤ 50
              · have g4 := far_cost (d := (D : Int)) g2 (by omega) (by omega) g1 g3
                refine wp_region_ext (by kernel_rfl) (by kernel_rfl) ?_
                repeat (go_big_quiet_step (first | (go_at_call 60; exact Ext.callq (far_any _ _ _))))
                refine wpQuiet_nil ?_
                rintro _ ⟨z, rfl⟩
                go_wp2_with fail
                go_meet
                exact ⟨rfl, ⟨_, y2.below.trans (z.below.mono y2.below.size)⟩, rfl⟩
              · have g3' : decide (k ≤ 50) = false := by simpa using g3
                clear g3
                refine wp_region_ext (by kernel_rfl) (by kernel_rfl) ?_
                repeat (go_big_quiet_step (first | (go_at_call 60; exact Ext.callq (far_any _ _ _))))
                refine wpQuiet_nil ?_
                rintro _ ⟨z, rfl⟩
                go_wp2_with fail
                go_meet
                exact ⟨rfl, ⟨_, y2.below.trans (z.below.mono y2.below.size)⟩, rfl⟩
            · have g2' : decide (c ≤ k) = false := by simpa using g2
              clear g2
              refine wp_region_ext (by kernel_rfl) (by kernel_rfl) ?_
              repeat (go_big_quiet_step (first | (go_at_call 60; exact Ext.callq (far_any _ _ _))))
              refine wpQuiet_nil ?_
              rintro _ ⟨z, rfl⟩
              go_wp2_with fail
              go_meet
              exact ⟨rfl, ⟨_, y2.below.trans (z.below.mono y2.below.size)⟩, rfl⟩
          · have g1' : decide (1 ≤ c) = false := by simpa using g1
            clear g1
            refine wp_region_ext (by kernel_rfl) (by kernel_rfl) ?_
            repeat (go_big_quiet_step (first | (go_at_call 60; exact Ext.callq (far_any _ _ _))))
            refine wpQuiet_nil ?_
            rintro _ ⟨z, rfl⟩
            go_wp2_with fail
            go_meet
            exact ⟨rfl, ⟨_, y2.below.trans (z.below.mono y2.below.size)⟩, rfl⟩
        case rest =>
          obtain ⟨rfl, y3, rfl⟩ := hcut
          have E1 := y3.env E0
          go_wp2_with fail
          refine (cbytes_ok A N D _ ha hN hD HM.out).mono ?_
          rintro e w1 ⟨x1, rfl, hown1, hb1⟩
          obtain ⟨y4, rfl⟩ : ∃ y : Ext y3.w, w1 = y.w := ⟨⟨_, hb1⟩, rfl⟩
          have HX1 := Lib.hid (Bs.own hown1)
          have E2 := y4.env E1
          have hs4 : w.heap.size < y4.w.heap.size := by have := y4.below.size; have := y3.below.size; simp only [World.size_alloc] at this; omega
          have ht4 : w.heap.size + 1 < y4.w.heap.size := by have := y4.below.size; have := y3.below.size; simp only [World.size_alloc] at this; omega
          have hs3 : w.heap.size < y3.w.heap.size := by have := y3.below.size; simp only [World.size_alloc] at this; omega
          have ht3 : w.heap.size + 1 < y3.w.heap.size := by have := y3.below.size; simp only [World.size_alloc] at this; omega
          clear hown1 hb1
          go_wp2_with fail
          refine (cbytes_ok B M F _ hb hM hF HM2.out).mono ?_
          rintro e w1 ⟨x2, rfl, hown2, hb2⟩
          obtain ⟨y5, rfl⟩ : ∃ y : Ext y4.w, w1 = y.w := ⟨⟨_, hb2⟩, rfl⟩
          have HX2 := Lib.hid (Bs.own hown2)
          have HX1' := Lib.hid (HX1.out.ext y5)
          have E3 := y5.env E2
          have hs5 : w.heap.size < y5.w.heap.size := Nat.lt_of_lt_of_le hs4 y5.below.size
          have ht5 : w.heap.size + 1 < y5.w.heap.size := Nat.lt_of_lt_of_le ht4 y5.below.size
          clear hown2 hb2
          go_wp2_with fail
          refine (ext_of (ctext_ok A N D _ hA HM.out E3)).mono ?_
          rintro e w' ⟨rfl, y6, rfl⟩
          have E4 := y6.env E3
          have hs6 : w.heap.size < y6.w.heap.size := Nat.lt_of_lt_of_le hs5 y6.below.size
          have ht6 : w.heap.size + 1 < y6.w.heap.size := Nat.lt_of_lt_of_le ht5 y6.below.size
          go_wp2_with fail
          refine (ext_of (ctext_ok B M F _ hB HM2.out E4)).mono ?_
          rintro e w' ⟨rfl, y7, rfl⟩
          have E5 := y7.env E4
          have hs7 : w.heap.size < y7.w.heap.size := Nat.lt_of_lt_of_le hs6 y7.below.size
          have ht7 : w.heap.size + 1 < y7.w.heap.size := Nat.lt_of_lt_of_le ht6 y7.below.size
          have hcv1 : ∀ x : Ext y7.w, (convert 23 9 x1).run Tryd.prog x.w = .ok (.string (str (bytesU A N D))) x.w := fun x => (((HX1'.out.ext y6).ext y7).ext x).conv
          have hcv2 : ∀ x : Ext y7.w, (convert 23 9 x2).run Tryd.prog x.w = .ok (.string (str (bytesU B M F))) x.w := fun x => (((HX2.out.ext y6).ext y7).ext x).conv
          go_upto_region 12 with (first
            | (go_at_call 55; refine (num5_any _ _).mono ?_; rintro e w' ⟨rfl, rfl⟩))
          by_cases q1 : A = B
          · subst q1
            by_cases q2 : N = M
            · subst q2
              by_cases q3 : D = F
              · subst q3
                refine wp_region_ext (by kernel_rfl) (by kernel_rfl) ?_
                repeat (go_big_quiet_step (first | (go_at_call 49; exact Ext.call (known5_any _ (Ext.env _ E5)))))
                refine wpQuiet_nil ?_
                rintro _ ⟨z, rfl⟩
                go_wp2_with fail
                go_ret
                exact ⟨rfl, (by repeat (first | exact Below.refl _ _ | apply Below.drew | apply below_drewN | apply bel_alloc | apply Ext.lift | apply bel_set0 | apply bel_set))⟩
              · skip
                have u1 := str_eq_false (l := bytesU A N D) (m := bytesU A N F) (fun h => q3 (bytesU_inj hA hB HM.out HM2.out h).2.2)
                have u2 := str_eq_false (l := textU A N D) (m := textU A N F) (fun h => q3 (textU_inj hA hB HM.out HM2.out h).2.2)
                have u3 : ((D : Int) == (F : Int)) = false := by simp; omega
                clear q3
                refine wp_region_ext (by kernel_rfl) (by kernel_rfl) ?_
                repeat (go_big_quiet_step (first | (go_at_call 49; exact Ext.call (known5_any _ (Ext.env _ E5)))))
                refine wpQuiet_nil ?_
                rintro _ ⟨z, rfl⟩
                go_wp2_with fail
                go_ret
                exact ⟨rfl, (by repeat (first | exact Below.refl _ _ | apply Below.drew | apply below_drewN | apply bel_alloc | apply Ext.lift | apply bel_set0 | apply bel_set))⟩
            · skip
              have u1 := str_eq_false (l := bytesU A N D) (m := bytesU A M F) (fun h => q2 (bytesU_inj hA hB HM.out HM2.out h).2.1)
              have u2 := str_eq_false (l := textU A N D) (m := textU A M F) (fun h => q2 (textU_inj hA hB HM.out HM2.out h).2.1)
              have u3 : ((N : Int) == (M : Int)) = false := by simp; omega
              clear q2
              refine wp_region_ext (by kernel_rfl) (by kernel_rfl) ?_
              repeat (go_big_quiet_step (first | (go_at_call 49; exact Ext.call (known5_any _ (Ext.env _ E5)))))
              refine wpQuiet_nil ?_
              rintro _ ⟨z, rfl⟩
              go_wp2_with fail
              go_ret
              exact ⟨rfl, (by repeat (first | exact Below.refl _ _ | apply Below.drew | apply below_drewN | apply bel_alloc | apply Ext.lift | apply bel_set0 | apply bel_set))⟩
          · skip
            have u1 := str_eq_false (l := bytesU A N D) (m := bytesU B M F) (fun h => q1 (bytesU_inj hA hB HM.out HM2.out h).1)
            have u2 := str_eq_false (l := textU A N D) (m := textU B M F) (fun h => q1 (textU_inj hA hB HM.out HM2.out h).1)
            have u3 : ((A : Int) == (B : Int)) = false := by simp; omega
            clear q1
            refine wp_region_ext (by kernel_rfl) (by kernel_rfl) ?_
            repeat (go_big_quiet_step (first | (go_at_call 49; exact Ext.call (known5_any _ (Ext.env _ E5)))))
            refine wpQuiet_nil ?_
            rintro _ ⟨z, rfl⟩
            go_wp2_with fail
            go_ret
            exact ⟨rfl, (by repeat (first | exact Below.refl _ _ | apply Below.drew | apply below_drewN | apply bel_alloc | apply Ext.lift | apply bel_set0 | apply bel_set))⟩
    · obtain ⟨A, N, D, rfl, rfl, rfl, hA, hN, hD⟩ := mayU_nat hm ha
      have hm2' : mayU b m e = false := by simpa using hm2
      have HM := Lib.hid hm
      have HM2 := Lib.hid hm2'
      clear hm2
      have hs2 : w.heap.size < w.heap.size + 1 + 1 := by omega
      go_enter Tryd.func13, Tryd.ntmps13
      go_wp2_with fail
      refine (ext_of (cmay_any _ _ _ _ (by assumption))).mono ?_
      rintro e w' ⟨rfl, y0, rfl⟩
      have E1 := y0.env E0
      have hs0 : w.heap.size < y0.w.heap.size := by have := y0.below.size; simp only [World.size_alloc] at this; omega
      have ht0 : w.heap.size + 1 < y0.w.heap.size := by have := y0.below.size; simp only [World.size_alloc] at this; omega
      go_wp2_with fail
      refine (ext_of (cmay_any _ _ _ _ (by assumption))).mono ?_
      rintro e w' ⟨rfl, y1, rfl⟩
      have E2 := y1.env E1
      have hs1 : w.heap.size < y1.w.heap.size := Nat.lt_of_lt_of_le hs0 y1.below.size
      have ht1 : w.heap.size + 1 < y1.w.heap.size := Nat.lt_of_lt_of_le ht0 y1.below.size
      go_wp2_with fail
      refine (cbytes_ok A N D _ ha hN hD HM.out).mono ?_
      rintro e w1 ⟨x1, rfl, hown1, hb1⟩
      obtain ⟨y2, rfl⟩ : ∃ y : Ext y1.w, w1 = y.w := ⟨⟨_, hb1⟩, rfl⟩
      obtain ⟨g1, cap1, rfl, _⟩ := hown1.form (by decide)
      clear hown1 hb1
      have E3 := y2.env E2
      have hs2 : w.heap.size < y2.w.heap.size := Nat.lt_of_lt_of_le hs1 y2.below.size
      have ht2 : w.heap.size + 1 < y2.w.heap.size := Nat.lt_of_lt_of_le ht1 y2.below.size
      go_wp2_with fail
      refine (ext_of (cbytes_no _ _ _ _ hb HM2.out)).mono ?_
      rintro e w' ⟨rfl, y3, rfl⟩
      have E4 := y3.env E3
      have hs3 : w.heap.size < y3.w.heap.size := Nat.lt_of_lt_of_le hs2 y3.below.size
      have ht3 : w.heap.size + 1 < y3.w.heap.size := Nat.lt_of_lt_of_le ht2 y3.below.size
      go_wp2_with fail
      refine (ext_of (ctext_ok A N D _ hA HM.out E4)).mono ?_
      rintro e w' ⟨rfl, y4, rfl⟩
      have E5 := y4.env E4
      have hs4 : w.heap.size < y4.w.heap.size := Nat.lt_of_lt_of_le hs3 y4.below.size
      have ht4 : w.heap.size + 1 < y4.w.heap.size := Nat.lt_of_lt_of_le ht3 y4.below.size
      go_wp2_with fail
      refine (ext_of (ctext_no _ _ _ _ hb HM2.out)).mono ?_
      rintro e w' ⟨rfl, y5, rfl⟩
      have E6 := y5.env E5
      have hs5 : w.heap.size < y5.w.heap.size := Nat.lt_of_lt_of_le hs4 y5.below.size
      have ht5 : w.heap.size + 1 < y5.w.heap.size := Nat.lt_of_lt_of_le ht4 y5.below.size
      go_wp2_with (first
        | (go_at_call 55; refine (num5_any _ _).mono ?_; rintro e w' ⟨rfl, rfl⟩)
        | (go_at_call 49; refine (ext_of (known5_any _ E6)).mono ?_; rintro e w' ⟨rfl, z, rfl⟩))
      go_ret
      exact ⟨rfl, (by repeat (first | exact Below.refl _ _ | apply Below.drew | apply below_drewN | apply bel_alloc | apply Ext.lift | apply bel_set0 | apply bel_set))⟩
  · have hm' : mayU a n d = false := by simpa using hm
    have HM := Lib.hid hm'
    clear hm
    by_cases hm2 : mayU b m e = true
    · obtain ⟨B, M, F, rfl, rfl, rfl, hB, hM, hF⟩ := mayU_nat hm2 hb
      have HM2 := Lib.hid hm2
      have hs2 : w.heap.size < w.heap.size + 1 + 1 := by omega
      go_enter Tryd.func13, Tryd.ntmps13
      go_wp2_with fail
      refine (ext_of (cmay_any _ _ _ _ (by assumption))).mono ?_
      rintro e w' ⟨rfl, y0, rfl⟩
      have E1 := y0.env E0
      have hs0 : w.heap.size < y0.w.heap.size := by have := y0.below.size; simp only [World.size_alloc] at this; omega
      have ht0 : w.heap.size + 1 < y0.w.heap.size := by have := y0.below.size; simp only [World.size_alloc] at this; omega
      go_wp2_with fail
      refine (ext_of (cbytes_no _ _ _ _ ha HM.out)).mono ?_
      rintro e w' ⟨rfl, y1, rfl⟩
      have E2 := y1.env E1
      have hs1 : w.heap.size < y1.w.heap.size := Nat.lt_of_lt_of_le hs0 y1.below.size
      have ht1 : w.heap.size + 1 < y1.w.heap.size := Nat.lt_of_lt_of_le ht0 y1.below.size
      go_wp2_with fail
      refine (cbytes_ok B M F _ hb hM hF HM2.out).mono ?_
      rintro e w1 ⟨x1, rfl, hown1, hb1⟩
      obtain ⟨y2, rfl⟩ : ∃ y : Ext y1.w, w1 = y.w := ⟨⟨_, hb1⟩, rfl⟩
      obtain ⟨g1, cap1, rfl, _⟩ := hown1.form (by decide)
      clear hown1 hb1
      have E3 := y2.env E2
      have hs2 : w.heap.size < y2.w.heap.size := Nat.lt_of_lt_of_le hs1 y2.below.size
      have ht2 : w.heap.size + 1 < y2.w.heap.size := Nat.lt_of_lt_of_le ht1 y2.below.size
      go_wp2_with fail
      refine (ext_of (ctext_no _ _ _ _ ha HM.out)).mono ?_
      rintro e w' ⟨rfl, y3, rfl⟩
      have E4 := y3.env E3
      have hs3 : w.heap.size < y3.w.heap.size := Nat.lt_of_lt_of_le hs2 y3.below.size
      have ht3 : w.heap.size + 1 < y3.w.heap.size := Nat.lt_of_lt_of_le ht2 y3.below.size
      go_wp2_with fail
      refine (ext_of (ctext_ok B M F _ hB HM2.out E4)).mono ?_
      rintro e w' ⟨rfl, y4, rfl⟩
      have E5 := y4.env E4
      have hs4 : w.heap.size < y4.w.heap.size := Nat.lt_of_lt_of_le hs3 y4.below.size
      have ht4 : w.heap.size + 1 < y4.w.heap.size := Nat.lt_of_lt_of_le ht3 y4.below.size
      go_wp2_with (first
        | (go_at_call 55; refine (num5_any _ _).mono ?_; rintro e w' ⟨rfl, rfl⟩)
        | (go_at_call 49; refine (ext_of (known5_any _ E5)).mono ?_; rintro e w' ⟨rfl, z, rfl⟩))
      go_ret
      exact ⟨rfl, (by repeat (first | exact Below.refl _ _ | apply Below.drew | apply below_drewN | apply bel_alloc | apply Ext.lift | apply bel_set0 | apply bel_set))⟩
    · have hm2' : mayU b m e = false := by simpa using hm2
      have HM2 := Lib.hid hm2'
      clear hm2
      have hs2 : w.heap.size < w.heap.size + 1 + 1 := by omega
      go_enter Tryd.func13, Tryd.ntmps13
      go_wp2_with fail
      refine (ext_of (cmay_any _ _ _ _ (by assumption))).mono ?_
      rintro e w' ⟨rfl, y0, rfl⟩
      have E1 := y0.env E0
      have hs0 : w.heap.size < y0.w.heap.size := by have := y0.below.size; simp only [World.size_alloc] at this; omega
      have ht0 : w.heap.size + 1 < y0.w.heap.size := by have := y0.below.size; simp only [World.size_alloc] at this; omega
      go_wp2_with fail
      refine (ext_of (cbytes_no _ _ _ _ ha HM.out)).mono ?_
      rintro e w' ⟨rfl, y1, rfl⟩
      have E2 := y1.env E1
      have hs1 : w.heap.size < y1.w.heap.size := Nat.lt_of_lt_of_le hs0 y1.below.size
      have ht1 : w.heap.size + 1 < y1.w.heap.size := Nat.lt_of_lt_of_le ht0 y1.below.size
      go_wp2_with fail
      refine (ext_of (cbytes_no _ _ _ _ hb HM2.out)).mono ?_
      rintro e w' ⟨rfl, y2, rfl⟩
      have E3 := y2.env E2
      have hs2 : w.heap.size < y2.w.heap.size := Nat.lt_of_lt_of_le hs1 y2.below.size
      have ht2 : w.heap.size + 1 < y2.w.heap.size := Nat.lt_of_lt_of_le ht1 y2.below.size
      go_wp2_with fail
      refine (ext_of (ctext_no _ _ _ _ ha HM.out)).mono ?_
      rintro e w' ⟨rfl, y3, rfl⟩
      have E4 := y3.env E3
      have hs3 : w.heap.size < y3.w.heap.size := Nat.lt_of_lt_of_le hs2 y3.below.size
      have ht3 : w.heap.size + 1 < y3.w.heap.size := Nat.lt_of_lt_of_le ht2 y3.below.size
      go_wp2_with fail
      refine (ext_of (ctext_no _ _ _ _ hb HM2.out)).mono ?_
      rintro e w' ⟨rfl, y4, rfl⟩
      have E5 := y4.env E4
      have hs4 : w.heap.size < y4.w.heap.size := Nat.lt_of_lt_of_le hs3 y4.below.size
      have ht4 : w.heap.size + 1 < y4.w.heap.size := Nat.lt_of_lt_of_le ht3 y4.below.size
      go_wp2_with (first
        | (go_at_call 55; refine (num5_any _ _).mono ?_; rintro e w' ⟨rfl, rfl⟩)
        | (go_at_call 49; refine (ext_of (known5_any _ E5)).mono ?_; rintro e w' ⟨rfl, z, rfl⟩))
      go_ret
      exact ⟨rfl, (by repeat (first | exact Below.refl _ _ | apply Below.drew | apply below_drewN | apply bel_alloc | apply Ext.lift | apply bel_set0 | apply bel_set))⟩
end Go.Proofs.YteafakpipbhioaaDoor
