/- Contracts of ctl and ref05: May (reference), Far. -/
import Derived.Test.YteafakpipbhioaaDoorCtl
namespace Go.Proofs.YteafakpipbhioaaDoor
open Go.RowKit Pl

set_option maxRecDepth 100000 in
set_option maxHeartbeats 1000000 in
theorem rmayU_any (a n d : Int) (w : World) (ha : IsAddr a) :
    Calls Tryd.prog 54 #[upd a n d] w fun e w' => e = .returned (.bool (mayU a n d)) ∧ Below w.heap.size w w' := by
  unfold mayU
  cases hm : mayP a n with
  | false =>
    go_enter Tryd.func54, Tryd.ntmps54
    go_wp2_with (go_at_call 30; refine (ext_of (rmay _ _ _ (by assumption))).mono ?_; rintro e w' ⟨rfl, z2, rfl⟩)
    go_ret
    exact ⟨rfl, (by repeat (first | exact Below.refl _ _ | apply Below.drew | apply below_drewN | apply bel_alloc | apply Ext.lift | apply bel_set0 | apply bel_set))⟩
  | true =>
    by_cases h0 : 0 ≤ d
    · by_cases h1 : d ≤ 255
      · go_enter Tryd.func54, Tryd.ntmps54
        go_wp2_with (go_at_call 30; refine (ext_of (rmay _ _ _ (by assumption))).mono ?_; rintro e w' ⟨rfl, z2, rfl⟩)
        go_ret
        exact ⟨by simp [h0, h1], (by repeat (first | exact Below.refl _ _ | apply Below.drew | apply below_drewN | apply bel_alloc | apply Ext.lift | apply bel_set0 | apply bel_set))⟩
      · have h1' : decide (d ≤ 255) = false := by simpa using h1
        clear h1
        go_enter Tryd.func54, Tryd.ntmps54
        go_wp2_with (go_at_call 30; refine (ext_of (rmay _ _ _ (by assumption))).mono ?_; rintro e w' ⟨rfl, z2, rfl⟩)
        go_ret
        exact ⟨by simp [h1'], (by repeat (first | exact Below.refl _ _ | apply Below.drew | apply below_drewN | apply bel_alloc | apply Ext.lift | apply bel_set0 | apply bel_set))⟩
    · have h0' : decide (0 ≤ d) = false := by simpa using h0
      clear h0
      go_enter Tryd.func54, Tryd.ntmps54
      go_wp2_with (go_at_call 30; refine (ext_of (rmay _ _ _ (by assumption))).mono ?_; rintro e w' ⟨rfl, z2, rfl⟩)
      go_ret
      exact ⟨by simp [h0'], (by repeat (first | exact Below.refl _ _ | apply Below.drew | apply below_drewN | apply bel_alloc | apply Ext.lift | apply bel_set0 | apply bel_set))⟩

/-- How far by a neighbour. -/
def farP (d c : Int) : Int := if d < 0 ∨ 255 < d ∨ c < 1 ∨ 50 < c then 255 else if d + c ≤ 255 then d + c else 255

set_option maxRecDepth 100000 in
set_option maxHeartbeats 1000000 in
theorem far_any (d c : Int) (w : World) : Calls Tryd.prog 60 #[.int .i64 d, .int .i64 c] w fun e w' => e = .returned (.int .i64 (farP d c)) ∧ w = w' := by
  by_cases h0 : d < 0
  · have HF : Hid (farP d c = 255) := Lib.hid (by unfold farP; rw [if_pos (.inl h0)])
    go_enter Tryd.func60, Tryd.ntmps60
    go_wp2
    go_ret
    exact ⟨by rw [HF.out]; rfl, rfl⟩
  have k0 : decide (d < 0) = false := by simpa using h0
  by_cases h1 : 255 < d
  · have HF : Hid (farP d c = 255) := Lib.hid (by unfold farP; rw [if_pos (.inr (.inl h1))])
    clear h0
    go_enter Tryd.func60, Tryd.ntmps60
    go_wp2
    go_ret
    exact ⟨by rw [HF.out]; rfl, rfl⟩
  have k1 : decide (255 < d) = false := by simpa using h1
  by_cases h2 : c < 1
  · have HF : Hid (farP d c = 255) := Lib.hid (by unfold farP; rw [if_pos (.inr (.inr (.inl h2)))])
    clear h0 h1
    go_enter Tryd.func60, Tryd.ntmps60
    go_wp2
    go_ret
    exact ⟨by rw [HF.out]; rfl, rfl⟩
  have k2 : decide (c < 1) = false := by simpa using h2
  by_cases h3 : 50 < c
  · have HF : Hid (farP d c = 255) := Lib.hid (by unfold farP; rw [if_pos (.inr (.inr (.inr h3)))])
    clear h0 h1 h2
    go_enter Tryd.func60, Tryd.ntmps60
    go_wp2
    go_ret
    exact ⟨by rw [HF.out]; rfl, rfl⟩
  have k3 : decide (50 < c) = false := by simpa using h3
  have HF : Hid (farP d c = if d + c ≤ 255 then d + c else 255) := Lib.hid (by unfold farP; rw [if_neg (by omega)])
  have b1 : 0 ≤ d := by omega
  have b2 : d ≤ 255 := by omega
  have b3 : 1 ≤ c := by omega
  have b4 : c ≤ 50 := by omega
  clear h0 h1 h2 h3
  by_cases h4 : d + c ≤ 255
  · have HF2 : Hid (farP d c = d + c) := Lib.hid (by rw [HF.out, if_pos h4])
    go_enter Tryd.func60, Tryd.ntmps60
    go_wp2
    go_ret
    exact ⟨ret_int (by rw [HF2.out]; omega), rfl⟩
  · have HF2 : Hid (farP d c = 255) := Lib.hid (by rw [HF.out, if_neg h4])
    go_enter Tryd.func60, Tryd.ntmps60
    go_wp2
    go_ret
    exact ⟨ret_int (by rw [HF2.out]; omega), rfl⟩
end Go.Proofs.YteafakpipbhioaaDoor
