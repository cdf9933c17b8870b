/- Contracts of ctl and ref05: May, Far. -/
import Derived.Test.YteafakpipbhioaaDoorKnown
import Derived.Test.YteafakpipbhioaaDoorLHex
import Derived.Test.YteafakpipbhioaaDoorLAddrs
namespace Go.Proofs.YteafakpipbhioaaDoor
open Go.RowKit Pl

def mayU (a n d : Int) : Bool := mayP a n && decide (0 ≤ d) && decide (d ≤ 255)
abbrev upd (a n d : Int) : Value := .agg #[.int .u32 a, .int .i64 n, .int .i64 d]

theorem num5_any (n : Int) (w : World) : Calls Tryd.prog 55 #[.int .i64 n] w fun e w' => e = .returned (.int .i64 n) ∧ w = w' := by
  go_enter Tryd.func55, Tryd.ntmps55
  go_wp2
  go_ret
  exact ⟨rfl, rfl⟩

set_option maxRecDepth 100000 in
set_option maxHeartbeats 1000000 in
theorem cmay_any (a n d : Int) (w : World) (ha : IsAddr a) :
    Calls Tryd.prog 53 #[upd a n d] w fun e w' => e = .returned (.bool (mayU a n d)) ∧ Below w.heap.size w w' := by
  unfold mayU
  cases hm : mayP a n with
  | false =>
    go_enter Tryd.func53, Tryd.ntmps53
    go_wp2_with (go_at_call 36; refine (ext_of (may_any _ _ _ (by assumption))).mono ?_; rintro e w' ⟨rfl, z2, rfl⟩)
    go_ret
    exact ⟨rfl, (by repeat (first | exact Below.refl _ _ | apply Below.drew | apply below_drewN | apply bel_alloc | apply Ext.lift | apply bel_set0 | apply bel_set))⟩
  | true =>
    by_cases h0 : 0 ≤ d
    · by_cases h1 : d ≤ 255
      · go_enter Tryd.func53, Tryd.ntmps53
        go_wp2_with (go_at_call 36; refine (ext_of (may_any _ _ _ (by assumption))).mono ?_; rintro e w' ⟨rfl, z2, rfl⟩)
        go_ret
        exact ⟨by simp [h0, h1], (by repeat (first | exact Below.refl _ _ | apply Below.drew | apply below_drewN | apply bel_alloc | apply Ext.lift | apply bel_set0 | apply bel_set))⟩
      · have h1' : decide (d ≤ 255) = false := by simpa using h1
        clear h1
        go_enter Tryd.func53, Tryd.ntmps53
        go_wp2_with (go_at_call 36; refine (ext_of (may_any _ _ _ (by assumption))).mono ?_; rintro e w' ⟨rfl, z2, rfl⟩)
        go_ret
        exact ⟨by simp [h1'], (by repeat (first | exact Below.refl _ _ | apply Below.drew | apply below_drewN | apply bel_alloc | apply Ext.lift | apply bel_set0 | apply bel_set))⟩
    · have h0' : decide (0 ≤ d) = false := by simpa using h0
      clear h0
      go_enter Tryd.func53, Tryd.ntmps53
      go_wp2_with (go_at_call 36; refine (ext_of (may_any _ _ _ (by assumption))).mono ?_; rintro e w' ⟨rfl, z2, rfl⟩)
      go_ret
      exact ⟨by simp [h0'], (by repeat (first | exact Below.refl _ _ | apply Below.drew | apply below_drewN | apply bel_alloc | apply Ext.lift | apply bel_set0 | apply bel_set))⟩
end Go.Proofs.YteafakpipbhioaaDoor
