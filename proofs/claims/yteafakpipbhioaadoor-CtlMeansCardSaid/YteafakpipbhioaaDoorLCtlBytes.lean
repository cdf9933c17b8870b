/- The walk of the law CtlBytes: whatever the update and the bytes, it answers true. -/
import Derived.Test.YteafakpipbhioaaDoorLCtlTexts
namespace Go.Proofs.YteafakpipbhioaaDoor
open Go.RowKit Pl

theorem of_fact (l : List UInt8) : ∃ (a n d : Nat) (e : Int) (ok : Bool),
    ((∀ w v, Bs w v l → Calls Tryd.prog 51 #[v] w fun r w' => r = .returned (.tuple #[upd a n d, .int .i64 e]) ∧ Below w.heap.size w w') ∧
     (∀ w v, Bs w v l → Calls Tryd.prog 52 #[v] w fun r w' => r = .returned (.tuple #[upd a n d, .bool ok]) ∧ Below w.heap.size w w')) ∧
    ((e = 0 ∧ ok = true) ∨ (e = 4 ∧ ok = false)) := by
  have h1 := fun w v h => cof_any l v w h
  have h2 := fun w v h => rof_any l v w h
  unfold ofRes at h1
  unfold rofRes at h2
  cases h : ofU l with
  | some u => obtain ⟨a, n, d⟩ := u; rw [h] at h1 h2; exact ⟨a, n, d, 0, true, ⟨h1, h2⟩, .inl ⟨rfl, rfl⟩⟩
  | none => rw [h] at h1 h2; exact ⟨0, 0, 0, 4, false, ⟨h1, h2⟩, .inr ⟨rfl, rfl⟩⟩

set_option maxRecDepth 100000 in
set_option maxHeartbeats 4000000 in
theorem ctlBytes_walk (a n d : Int) (v : Value) (l : List UInt8) (w : World) (ha : IsAddr a) (hv : Bs w v l) (E : Env w) :
    Calls Tryd.prog 11 #[upd a n d, v] w fun e w' => e = .returned (.bool true) ∧ Below w.heap.size w w' := by
  have E0 := E.alloc (.cells #[.int .u32 a, .int .i64 n, .int .i64 d] 77)
  have HV := Lib.hid (hv.alloc (.cells #[.int .u32 a, .int .i64 n, .int .i64 d] 77))
  obtain ⟨B, c, rfl, hc, _, _⟩ := hv
  by_cases hl : 9000 < l.length
  · have hl' : 9000 < (l.length : Int) := by omega
    go_enter Tryd.func11, Tryd.ntmps11
    go_wp2_with (go_at_call 49; refine (ext_of (known5_any _ E0)).mono ?_; rintro e w' ⟨rfl, y, rfl⟩)
    go_ret
    exact ⟨rfl, (by repeat (first | exact Below.refl _ _ | apply Below.drew | apply below_drewN | apply bel_alloc | apply Ext.lift | apply bel_set0 | apply bel_set))⟩
  have dl : decide (9000 < (l.length : Int)) = false := by simp; omega
  obtain ⟨aU, nU, dU, eU, okU, HU, hcU⟩ := of_fact l
  have ha' := ha
  obtain ⟨ha0, ha1⟩ := ha'
  obtain ⟨A, rfl⟩ := Int.eq_ofNat_of_zero_le ha0
  have hA : A < 4294967296 := by omega
  clear hl ha0 ha1
  have HU1 := Lib.hid HU.1
  have HU2 := Lib.hid HU.2
  clear HU
  by_cases hm : mayU A n d = true
  · obtain ⟨_, N, D, hq, rfl, rfl, _, hN, hD⟩ := mayU_nat hm ha
    clear hq
    have HM := Lib.hid hm
    rcases hcU with ⟨rfl, rfl⟩ | ⟨rfl, rfl⟩
    all_goals
      go_enter Tryd.func11, Tryd.ntmps11
      go_upto_region 6 with (first
        | (go_at_call 50; refine (cbytes_ok A N D _ ha hN hD HM.out).mono ?_; rintro e w1 ⟨x, rfl, hown, hb1⟩; obtain ⟨y0, rfl⟩ : ∃ y : Ext _, w1 = y.w := ⟨⟨_, hb1⟩, rfl⟩; have HX := Lib.hid (Bs.own hown); clear hown hb1)
        | (go_at_call 51; refine (ext_of (HU1.out _ _ (HV.out.ext y0))).mono ?_; rintro e w' ⟨rfl, z1, rfl⟩; have hz0 : w.heap.size < y0.w.heap.size := (by have := y0.below.size; simp only [World.size_alloc] at this; omega); have hz1 : w.heap.size < z1.w.heap.size := (by have := z1.below.size; omega); have hz1' : w.heap.size < z1.w.heap.size + 1 := (by omega); have E1 := (z1.env (y0.env E0)).alloc (.cells #[.int .u32 aU, .int .i64 nU, .int .i64 dU] 77); have HV1 := Lib.hid (((HV.out.ext y0).ext z1).alloc (.cells #[.int .u32 aU, .int .i64 nU, .int .i64 dU] 77)); have HX1 := Lib.hid ((HX.out.ext z1).alloc (.cells #[.int .u32 aU, .int .i64 nU, .int .i64 dU] 77)))
        | (go_at_call 52; refine (ext_of (HU2.out _ _ HV1.out)).mono ?_; rintro e w' ⟨rfl, z2, rfl⟩; have hz2 : z1.w.heap.size < z2.w.heap.size := (by have := z2.below.size; simp only [World.size_alloc] at this; omega); have hz2' : z1.w.heap.size < z2.w.heap.size + 1 := (by omega); have hz3 : w.heap.size < z2.w.heap.size := (by omega); have hz3' : w.heap.size < z2.w.heap.size + 1 := (by omega); have E2 := (z2.env E1).alloc (.cells #[.int .u32 aU, .int .i64 nU, .int .i64 dU] 77); have HX2 := Lib.hid ((HX1.out.ext z2).alloc (.cells #[.int .u32 aU, .int .i64 nU, .int .i64 dU] 77))))
      refine wp_region_ext (by kernel_rfl) (by kernel_rfl) ?_
      repeat (go_big_quiet_step (first
        | (go_at_call 53; exact Ext.call (cmay_any _ _ _ _ (by assumption)))
        | (go_at_call 54; exact Ext.call (rmayU_any _ _ _ _ (by assumption)))
        | (go_at_call 55; exact Ext.callq (num5_any _ _))))
      refine wpQuiet_nil ?_
      rintro _ ⟨z3, rfl⟩
      go_wp2_with (first
        | (go_at_call 54; refine (Ext.call (rmayU_any _ _ _ _ (by assumption))).mono ?_; rintro e w' ⟨rfl, z4, rfl⟩))
      have HD := Lib.hid (show Bs z4.w.drew x (bytesU A N D) from HX2.out.ext z4)
      have hcv1 := HD.out.conv
      have E3 : Env z4.w.drew := (Ext.env z4 E2).here (below_undrew (Below.refl _ _))
      go_region_with (first
        | (go_at_call 56; refine (rbytes A N D _ hA (by omega) hD).mono ?_; rintro e w2 ⟨x2, rfl, hbs2, hb2⟩; have hcv2 := hbs2.conv; have hcv3 := (HD.out.below hb2).conv; have E4 := E3.here hb2)
        | (go_at_call 55; refine (num5_any _ _).mono ?_; rintro e w' ⟨rfl, rfl⟩)
        | (go_at_call 49; refine (known5_any _ E4).mono ?_; rintro e w3 ⟨rfl, hb3⟩))
      all_goals
        have hbz : Below w.heap.size w z4.w := (by repeat (first | exact Below.refl _ _ | apply Below.drew | apply below_drewN | apply bel_alloc | apply Ext.lift | apply bel_set0 | apply bel_set))
        have h2 := hbz.trans ((show Below z4.w.heap.size z4.w w2 from below_undrew hb2).mono hbz.size)
        go_wp2_with fail
        go_ret
        exact ⟨rfl, h2.trans (hb3.mono h2.size)⟩
  · have hm' : mayU A n d = false := by simpa using hm
    have HM := Lib.hid hm'
    clear hm
    rcases hcU with ⟨rfl, rfl⟩ | ⟨rfl, rfl⟩
    all_goals
      go_enter Tryd.func11, Tryd.ntmps11
      go_upto_region 6 with (first
        | (go_at_call 50; refine (ext_of (cbytes_no A n d _ ha HM.out)).mono ?_; rintro e w1 ⟨rfl, y0, rfl⟩)
        | (go_at_call 51; refine (ext_of (HU1.out _ _ (HV.out.ext y0))).mono ?_; rintro e w' ⟨rfl, z1, rfl⟩; have hz0 : w.heap.size < y0.w.heap.size := (by have := y0.below.size; simp only [World.size_alloc] at this; omega); have hz1 : w.heap.size < z1.w.heap.size := (by have := z1.below.size; omega); have hz1' : w.heap.size < z1.w.heap.size + 1 := (by omega); have E1 := (z1.env (y0.env E0)).alloc (.cells #[.int .u32 aU, .int .i64 nU, .int .i64 dU] 77); have HV1 := Lib.hid (((HV.out.ext y0).ext z1).alloc (.cells #[.int .u32 aU, .int .i64 nU, .int .i64 dU] 77)))
        | (go_at_call 52; refine (ext_of (HU2.out _ _ HV1.out)).mono ?_; rintro e w' ⟨rfl, z2, rfl⟩; have hz2 : z1.w.heap.size < z2.w.heap.size := (by have := z2.below.size; simp only [World.size_alloc] at this; omega); have hz2' : z1.w.heap.size < z2.w.heap.size + 1 := (by omega); have hz3 : w.heap.size < z2.w.heap.size := (by omega); have hz3' : w.heap.size < z2.w.heap.size + 1 := (by omega); have E2 := (z2.env E1).alloc (.cells #[.int .u32 aU, .int .i64 nU, .int .i64 dU] 77)))
      refine wp_region_ext (by kernel_rfl) (by kernel_rfl) ?_
      repeat (go_big_quiet_step (first
        | (go_at_call 53; exact Ext.call (cmay_any _ _ _ _ (by assumption)))
        | (go_at_call 54; exact Ext.call (rmayU_any _ _ _ _ (by assumption)))
        | (go_at_call 55; exact Ext.callq (num5_any _ _))))
      refine wpQuiet_nil ?_
      rintro _ ⟨z3, rfl⟩
      go_wp2_with (first
        | (go_at_call 54; refine (Ext.call (rmayU_any _ _ _ _ (by assumption))).mono ?_; rintro e w' ⟨rfl, z4, rfl⟩)
        | (go_at_call 55; refine (num5_any _ _).mono ?_; rintro e w' ⟨rfl, rfl⟩)
        | (go_at_call 49; refine (Ext.call (known5_any _ (Ext.env _ E2))).mono ?_; rintro e w' ⟨rfl, z5, rfl⟩))
      go_ret
      exact ⟨rfl, (by repeat (first | exact Below.refl _ _ | apply Below.drew | apply below_drewN | apply bel_alloc | apply Ext.lift | apply bel_set0 | apply bel_set))⟩
end Go.Proofs.YteafakpipbhioaaDoor
