/- The chapter's rows hold: law01.known answers true. -/
import Derived.Test.YteafakpipbhioaaDoorAddr
namespace Go.Proofs.YteafakpipbhioaaDoor
open Go.RowKit Pl
theorem k1 : addrOf [49, 48, 46, 48, 46, 48, 46, 48, 49] = none := by decide +kernel
theorem k2 : addrOf [49, 48, 46, 48, 46, 48, 46, 50, 53, 54] = none := by decide +kernel
theorem k3 : prefixOf [49, 48, 46, 48, 46, 48, 46, 48, 47, 56] = some (167772160, 8) := by decide +kernel
theorem k4 : prefixOf [49, 48, 46, 48, 46, 48, 46, 49, 47, 56] = none := by decide +kernel
theorem k5 : addrText 167772161 = [49, 48, 46, 48, 46, 48, 46, 49] := by decide +kernel
theorem k6 : hasP 167772160 8 168364297 = true := by decide +kernel

theorem kput (w : World) : Calls Tryd.prog 17 #[.int .u64 258, .int .i64 2] w fun e w' => ∃ v, e = .returned (.tuple #[v, .int .i64 0]) ∧ Bs w' v [1, 2] ∧ Below w.heap.size w w' :=
  (put_ok 258 2 w (by decide) (by decide) (by decide)).mono fun _ _ ⟨v, he, hown, hb⟩ => ⟨v, he, Bs.own (l := [1, 2]) (by rw [show putB 258 2 = [1, 2] by decide +kernel] at hown; exact hown), hb⟩
theorem kput2 (w : World) : Calls Tryd.prog 17 #[.int .u64 256, .int .i64 1] w fun e w' => e = .returned (.tuple #[.slice none 0 0, .int .i64 2]) ∧ w = w' :=
  put_err 256 1 w (by decide) (by decide +kernel)
theorem kget (w : World) (b : Nat) (h0 : w.cell? ⟨b, 0, none⟩ = some (.int .u8 1)) (h1 : w.cell? ⟨b, 1, none⟩ = some (.int .u8 2)) (hb : b < w.heap.size) :
    Calls Tryd.prog 21 #[.slice (some ⟨b, 0, none⟩) 2 2] w fun e w' => e = .returned (.tuple #[.int .u64 258, .int .i64 0]) ∧ w = w' :=
  get_ok [1, 2] _ w ⟨_, 2, rfl, Nat.le_refl _, (fun h => by cases h), fun _ => ⟨b, 0, rfl, hb, fun j u hu => by
    match j, hu with
    | 0, hu => simp [cellsB] at hu; subst hu; simpa using h0
    | 1, hu => simp [cellsB] at hu; subst hu; simpa using h1⟩⟩ (by decide) (by decide)
theorem kaddr1 (w : World) (E : Env w) : Calls Tryd.prog 23 #[.string ⟨#[49, 48, 46, 48, 46, 48, 46, 48, 49]⟩] w fun e w' => e = .returned (.tuple #[.int .u32 0, .int .i64 4]) ∧ ∃ y : Ext w, w' = y.w :=
  ext_of (addrOf_no [49, 48, 46, 48, 46, 48, 46, 48, 49] w (by decide) E k1)
theorem kaddr2 (w : World) (E : Env w) : Calls Tryd.prog 23 #[.string ⟨#[49, 48, 46, 48, 46, 48, 46, 50, 53, 54]⟩] w fun e w' => e = .returned (.tuple #[.int .u32 0, .int .i64 4]) ∧ ∃ y : Ext w, w' = y.w :=
  ext_of (addrOf_no [49, 48, 46, 48, 46, 48, 46, 50, 53, 54] w (by decide) E k2)
theorem kpre1 (w : World) (E : Env w) : Calls Tryd.prog 25 #[.string ⟨#[49, 48, 46, 48, 46, 48, 46, 48, 47, 56]⟩] w fun e w' => e = .returned (.tuple #[.agg #[.int .u32 167772160, .int .i64 8], .int .i64 0]) ∧ ∃ y : Ext w, w' = y.w := by
  have := prefixOf_any [49, 48, 46, 48, 46, 48, 46, 48, 47, 56] w (by decide) E
  unfold prefixRes at this; rw [k3] at this
  exact ext_of this
theorem kpre2 (w : World) (E : Env w) : Calls Tryd.prog 25 #[.string ⟨#[49, 48, 46, 48, 46, 48, 46, 49, 47, 56]⟩] w fun e w' => e = .returned (.tuple #[.agg #[.int .u32 0, .int .i64 0], .int .i64 4]) ∧ ∃ y : Ext w, w' = y.w := by
  have := prefixOf_any [49, 48, 46, 48, 46, 48, 46, 49, 47, 56] w (by decide) E
  unfold prefixRes at this; rw [k4] at this
  exact ext_of this
theorem ktext (w : World) (E : Env w) : Calls Tryd.prog 28 #[.int .u32 167772161] w fun e w' => e = .returned (.string ⟨#[49, 48, 46, 48, 46, 48, 46, 49]⟩) ∧ ∃ y : Ext w, w' = y.w := by
  have := addrText_any 167772161 w (by decide) E
  rw [k5] at this
  exact ext_of this
theorem khas (w : World) : Calls Tryd.prog 38 #[.agg #[.int .u32 167772160, .int .i64 8], .int .u32 168364297] w fun e w' => e = .returned (.bool true) ∧ ∃ y : Ext w, w' = y.w :=
  ext_of (has_true 167772160 8 168364297 w ⟨by decide, by decide⟩ ⟨by decide, by decide⟩ k6)

set_option maxRecDepth 100000 in
set_option maxHeartbeats 1000000 in
theorem known_any (w : World) (E : Env w) : Calls Tryd.prog 16 #[] w fun e w' => e = .returned (.bool true) ∧ Below w.heap.size w w' := by
  go_enter Tryd.func16, Tryd.ntmps16
  go_wp2_with fail
  refine (kput w).mono ?_
  rintro e w1 ⟨v, rfl, hbs, hb1⟩
  have E1 := E.here hb1
  go_wp2_with fail
  refine (kput2 _).mono ?_
  rintro e w' ⟨rfl, rfl⟩
  go_wp2_with fail
  refine (kget _ w1.heap.size (by simp) (by simp) (by simp)).mono ?_
  rintro e w' ⟨rfl, rfl⟩
  have E2 := E1.alloc (.cells #[.int .u8 1, .int .u8 2] 5)
  go_wp2_with fail
  refine (kaddr1 _ E2).mono ?_
  rintro e w' ⟨rfl, y1, rfl⟩
  have E3 := y1.env E2
  go_wp2_with fail
  refine (kaddr2 _ E3).mono ?_
  rintro e w' ⟨rfl, y2, rfl⟩
  have E4 := y2.env E3
  go_wp2_with fail
  refine (kpre1 _ E4).mono ?_
  rintro e w' ⟨rfl, y3, rfl⟩
  have E5 := (y3.env E4).alloc (.cells #[.int .u32 167772160, .int .i64 8] 38)
  go_wp2_with fail
  refine (kpre2 _ E5).mono ?_
  rintro e w' ⟨rfl, y4, rfl⟩
  have E6 := (y4.env E5).alloc (.cells #[.int .u32 0, .int .i64 0] 38)
  have hcv := ((((((hbs.alloc (.cells #[.int .u8 1, .int .u8 2] 5)).ext y1).ext y2).ext y3).alloc (.cells #[.int .u32 167772160, .int .i64 8] 38)).ext y4).alloc (.cells #[.int .u32 0, .int .i64 0] 38) |>.conv
  have hz : y3.w.heap.size < y4.w.heap.size := by have := y4.below.size; simp only [World.size_alloc] at this; omega
  have hz' : y3.w.heap.size < y4.w.heap.size + 1 := by omega
  go_wp2_with (first
    | (go_at_call 20; refine (num_any _ _).mono ?_; rintro e w' ⟨rfl, rfl⟩)
    | (go_at_call 28; refine (ktext _ E6).mono ?_; rintro e w' ⟨rfl, y5, rfl⟩)
    | (go_at_call 38; refine (khas _).mono ?_; rintro e w' ⟨rfl, y6, rfl⟩))
  go_ret
  refine ⟨rfl, hb1.trans (Below.mono (B := w1.heap.size) (by repeat (first | exact Below.refl _ _ | apply Below.drew | apply below_drewN | apply bel_alloc | apply Ext.lift | apply bel_set0 | apply bel_set)) hb1.size)⟩
end Go.Proofs.YteafakpipbhioaaDoor
