/- The walk of the law CtlTexts: whatever the update, the text and the two numbers, it answers true. -/
import Derived.Test.YteafakpipbhioaaDoorCtlU
namespace Go.Proofs.YteafakpipbhioaaDoor
open Go.RowKit Pl

theorem untext_fact (l : List UInt8) (hl : l.length ≤ 1000000) : ∃ (a n d : Nat) (e : Int) (ok : Bool),
    ((∀ w, Env w → Calls Tryd.prog 58 #[.string (str l)] w fun r w' => r = .returned (.tuple #[upd a n d, .int .i64 e]) ∧ Below w.heap.size w w') ∧
     (∀ w, Calls Tryd.prog 59 #[.string (str l)] w fun r w' => r = .returned (.tuple #[upd a n d, .bool ok]) ∧ Below w.heap.size w w')) ∧
    ((e = 0 ∧ ok = true) ∨ (e = 4 ∧ ok = false)) := by
  have h1 := fun w E => cuntext_any l w hl E
  have h2 := fun w => runtext_any l w hl
  unfold untextRes at h1
  unfold runtextRes at h2
  cases h : untextU l with
  | some u => obtain ⟨a, n, d⟩ := u; rw [h] at h1 h2; exact ⟨a, n, d, 0, true, ⟨h1, h2⟩, .inl ⟨rfl, rfl⟩⟩
  | none => rw [h] at h1 h2; exact ⟨0, 0, 0, 4, false, ⟨h1, h2⟩, .inr ⟨rfl, rfl⟩⟩

set_option maxRecDepth 100000 in
set_option maxHeartbeats 4000000 in
theorem ctlTexts_walk (a n d : Int) (l : List UInt8) (x c : Int) (w : World) (ha : IsAddr a) (_ : l.length ≤ maxLen) (E : Env w) :
    Calls Tryd.prog 12 #[upd a n d, .string (str l), .int .i64 x, .int .i64 c] w fun e w' => e = .returned (.bool true) ∧ Below w.heap.size w w' := by
  have hsz : (str l).size = l.length := str_size l
  have E0 := E.alloc (.cells #[.int .u32 a, .int .i64 n, .int .i64 d] 77)
  by_cases hl : 9000 < l.length
  · have hl' : 9000 < (l.length : Int) := by omega
    go_enter Tryd.func12, Tryd.ntmps12
    go_wp2_with (go_at_call 49; refine (ext_of (known5_any _ E0)).mono ?_; rintro e w' ⟨rfl, y, rfl⟩)
    go_ret
    exact ⟨rfl, (by repeat (first | exact Below.refl _ _ | apply Below.drew | apply below_drewN | apply bel_alloc | apply Ext.lift | apply bel_set0 | apply bel_set))⟩
  have dl : decide (9000 < (l.length : Int)) = false := by simp; omega
  obtain ⟨aU, nU, dU, eU, okU, HU, hcU⟩ := untext_fact l (by omega)
  have ha' := ha
  obtain ⟨ha0, ha1⟩ := ha'
  obtain ⟨A, rfl⟩ := Int.eq_ofNat_of_zero_le ha0
  have hA : A < 4294967296 := by omega
  clear hl ha0 ha1
  have HU1 := Lib.hid HU.1
  have HU2 := Lib.hid HU.2
  clear HU
  by_cases hm : mayU A n d = true
  · obtain ⟨_, N, D, hq, rfl, rfl, _, hN, hD⟩ := mayU_nat hm ha
    clear hq
    have HM := Lib.hid hm
    rcases hcU with ⟨rfl, rfl⟩ | ⟨rfl, rfl⟩
    all_goals
      go_enter Tryd.func12, Tryd.ntmps12
      go_wp2_with (first
        | (go_at_call 57; refine (ext_of (ctext_ok A N D _ hA HM.out E0)).mono ?_; rintro e w' ⟨rfl, y0, rfl⟩)
        | (go_at_call 58; refine (Ext.call (HU1.out _ (Ext.env _ E0))).mono ?_; rintro e w' ⟨rfl, z1, rfl⟩; have hz1 : w.heap.size < z1.w.heap.size := (by have := z1.below.size; simp only [World.size_alloc] at this; omega); have hz1' : w.heap.size < z1.w.heap.size + 1 := (by omega); have E1 := (z1.env E0).alloc (.cells #[.int .u32 aU, .int .i64 nU, .int .i64 dU] 77))
        | (go_at_call 59; refine (ext_of (HU2.out _)).mono ?_; rintro e w' ⟨rfl, z2, rfl⟩; have hz2 : z1.w.heap.size < z2.w.heap.size := (by have := z2.below.size; simp only [World.size_alloc] at this; omega); have hz2' : z1.w.heap.size < z2.w.heap.size + 1 := (by omega); have hz3 : w.heap.size < z2.w.heap.size := (by omega); have hz3' : w.heap.size < z2.w.heap.size + 1 := (by omega); have E2 := (z2.env E1).alloc (.cells #[.int .u32 aU, .int .i64 nU, .int .i64 dU] 77))
        | (go_at_call 55; refine (num5_any _ _).mono ?_; rintro e w' ⟨rfl, rfl⟩)
        | (go_at_call 60; refine (far_any _ _ _).mono ?_; rintro e w' ⟨rfl, rfl⟩)
        | (go_at_call 61; refine (rfar_any _ _ _).mono ?_; rintro e w' ⟨rfl, rfl⟩)
        | (go_at_call 54; refine (ext_of (rmayU_any _ _ _ _ (by assumption))).mono ?_; rintro e w' ⟨rfl, z6, rfl⟩)
        | (go_at_call 62; refine (Ext.call (rtextU A N D _ hA hN hD (Ext.env _ E2))).mono ?_; rintro e w' ⟨rfl, z7, rfl⟩)
        | (go_at_call 49; refine (Ext.call (known5_any _ (Ext.env _ E2))).mono ?_; rintro e w' ⟨rfl, z8, rfl⟩))
      go_ret
      exact ⟨rfl, (by repeat (first | exact Below.refl _ _ | apply Below.drew | apply below_drewN | apply bel_alloc | apply Ext.lift | apply bel_set0 | apply bel_set))⟩
  · have hm' : mayU A n d = false := by simpa using hm
    have HM := Lib.hid hm'
    clear hm
    rcases hcU with ⟨rfl, rfl⟩ | ⟨rfl, rfl⟩
    all_goals
      go_enter Tryd.func12, Tryd.ntmps12
      go_wp2_with (first
        | (go_at_call 57; refine (ext_of (ctext_no A n d _ ha HM.out)).mono ?_; rintro e w' ⟨rfl, y0, rfl⟩)
        | (go_at_call 58; refine (Ext.call (HU1.out _ (Ext.env _ E0))).mono ?_; rintro e w' ⟨rfl, z1, rfl⟩; have hz1 : w.heap.size < z1.w.heap.size := (by have := z1.below.size; simp only [World.size_alloc] at this; omega); have hz1' : w.heap.size < z1.w.heap.size + 1 := (by omega); have E1 := (z1.env E0).alloc (.cells #[.int .u32 aU, .int .i64 nU, .int .i64 dU] 77))
        | (go_at_call 59; refine (ext_of (HU2.out _)).mono ?_; rintro e w' ⟨rfl, z2, rfl⟩; have hz2 : z1.w.heap.size < z2.w.heap.size := (by have := z2.below.size; simp only [World.size_alloc] at this; omega); have hz2' : z1.w.heap.size < z2.w.heap.size + 1 := (by omega); have hz3 : w.heap.size < z2.w.heap.size := (by omega); have hz3' : w.heap.size < z2.w.heap.size + 1 := (by omega); have E2 := (z2.env E1).alloc (.cells #[.int .u32 aU, .int .i64 nU, .int .i64 dU] 77))
        | (go_at_call 55; refine (num5_any _ _).mono ?_; rintro e w' ⟨rfl, rfl⟩)
        | (go_at_call 60; refine (far_any _ _ _).mono ?_; rintro e w' ⟨rfl, rfl⟩)
        | (go_at_call 61; refine (rfar_any _ _ _).mono ?_; rintro e w' ⟨rfl, rfl⟩)
        | (go_at_call 54; refine (ext_of (rmayU_any _ _ _ _ (by assumption))).mono ?_; rintro e w' ⟨rfl, z6, rfl⟩)
        | (go_at_call 49; refine (Ext.call (known5_any _ (Ext.env _ E2))).mono ?_; rintro e w' ⟨rfl, z8, rfl⟩))
      go_ret
      exact ⟨rfl, (by repeat (first | exact Below.refl _ _ | apply Below.drew | apply below_drewN | apply bel_alloc | apply Ext.lift | apply bel_set0 | apply bel_set))⟩
end Go.Proofs.YteafakpipbhioaaDoor
