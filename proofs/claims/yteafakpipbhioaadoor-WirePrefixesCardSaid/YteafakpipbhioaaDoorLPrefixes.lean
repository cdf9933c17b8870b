/- The walk of the law WirePrefixes: whatever the prefixes and the address, it answers true. -/
import Derived.Test.YteafakpipbhioaaDoorKnown
import Derived.Test.YteafakpipbhioaaDoorCmp
namespace Go.Proofs.YteafakpipbhioaaDoor
open Go.RowKit Pl

set_option maxRecDepth 100000 in
set_option maxHeartbeats 1000000 in
theorem wirePrefixes_walk (a n b m x : Int) (w : World) (ha : IsAddr a) (hb : IsAddr b) (hx : IsAddr x) (E : Env w) :
    Calls Tryd.prog 7 #[.agg #[.int .u32 a, .int .i64 n], .agg #[.int .u32 b, .int .i64 m], .int .u32 x] w fun e w' => e = .returned (.bool true) ∧ Below w.heap.size w w' := by
  have E1 := (E.alloc (.cells #[.int .u32 a, .int .i64 n] 38)).alloc (.cells #[.int .u32 b, .int .i64 m] 38)
  go_enter Tryd.func7, Tryd.ntmps7
  go_wp2
  refine wp_region_ext (by kernel_rfl) (by kernel_rfl) ?_
  repeat (go_big_quiet_step (first
    | (go_at_call 36; exact Ext.call (may_any a n _ ha))
    | (go_at_call 30; exact Ext.call (rmay a n _ ha))
    | (go_at_call 38; exact Ext.call (has_any a n x _ ha hx))
    | (go_at_call 39; exact Ext.call (rhas a n x _ ha hx))
    | (go_at_call 37; exact Ext.call (within_any a n b m _ ha hb))
    | (go_at_call 40; exact Ext.call (rwithin a n b m _ ha hb))
    | (go_at_call 41; exact Ext.call (compare_any a n b m _))
    | (go_at_call 42; exact Ext.call (rcompare a n b m _))
    | (go_at_call 16; exact Ext.call (known_any _ (Ext.env _ E1)))))
  refine wpQuiet_nil ?_
  rintro _ ⟨y, rfl⟩
  go_wp2
  go_ret
  exact ⟨rfl, (by repeat (first | exact Below.refl _ _ | apply Below.drew | apply below_drewN | apply bel_alloc | apply Ext.lift | apply bel_set0 | apply bel_set))⟩
end Go.Proofs.YteafakpipbhioaaDoor
