/- Contracts: ref05.Untext, law05.known. Printed by ctluntext.py. -/
import Derived.Test.YteafakpipbhioaaDoorCtlT
namespace Go.Proofs.YteafakpipbhioaaDoor
open Go.RowKit Pl

theorem rprefix_at (l : List UInt8) (r : Option (Nat × Nat)) (w : World) (hl : l.length ≤ 1000000) (h : prefixOf l = r) :
    Calls Tryd.prog 26 #[.string (str l)] w fun e w' => e = .returned (match (generalizing := false) r with
      | some (a, n) => .tuple #[.agg #[.int .u32 a, .int .i64 n], .bool true]
      | none => .tuple #[.agg #[.int .u32 0, .int .i64 0], .bool false]) ∧ Below w.heap.size w w' := by
  have := rprefixOf l w hl
  unfold rprefixRes at this; rw [h] at this; exact this

set_option maxRecDepth 100000 in
set_option maxHeartbeats 1000000 in
theorem runtext_nopre (l x y : List UInt8) (w : World) (hl : l.length ≤ 1000000) (hs : splitOn 32 l = [x, y]) (hr : prefixOf x = none) :
    Calls Tryd.prog 59 #[.string (str l)] w fun e w' => e = .returned (.tuple #[upd 0 0 0, .bool false]) ∧ Below w.heap.size w w' := by
  have hlx : x.length ≤ 1000000 := Nat.le_trans ((splitOn_len 32 l).2 x (by rw [hs]; simp)) hl
  have hly : y.length ≤ 1000000 := Nat.le_trans ((splitOn_len 32 l).2 y (by rw [hs]; simp)) hl
  have HS := Lib.hid hs
  have HR := Lib.hid hr
  clear hs hr
  go_enter Tryd.func59, Tryd.ntmps59
  go_wp2_with (first
    | (go_at_call 70; refine (rsplit_two 32 l x y _ hl HS.out).mono ?_; rintro e w1 ⟨⟨g, cap, rfl, hg, hcap, c0, c1⟩, hb1⟩; obtain ⟨y1, rfl⟩ : ∃ y : Ext _, w1 = y.w := ⟨⟨_, hb1⟩, rfl⟩; have hz1 : w.heap.size < y1.w.heap.size := (by have := hb1.size; simp only [World.size_alloc] at this; omega); clear hb1)
    | (go_at_call 26; refine (ext_of (rprefix_at x (none) _ hlx HR.out)).mono ?_; rintro e w2 ⟨rfl, y2, rfl⟩; have hz2 : w.heap.size < y2.w.heap.size := Nat.lt_of_lt_of_le hz1 y2.below.size; have hz2a : w.heap.size < y2.w.heap.size + 1 := (by omega); have hz2b : g < y2.w.heap.size := Nat.lt_of_lt_of_le hg y2.below.size)
    | (go_at_call 71; refine (rnumber y 255 _ hly).mono ?_; rintro e w3 ⟨⟨k, hk, rfl, hv⟩, rfl⟩; clear hv))
  exact bodyPost_ret (v := .tuple #[upd 0 0 0, .bool false]) (by simp [results, Tryd.results59, go_sem, hz1, hz2]) rfl ⟨rfl, (by repeat (first | exact Below.refl _ _ | apply Below.drew | apply below_drewN | apply bel_alloc | apply Ext.lift | apply bel_set0 | apply bel_set))⟩

set_option maxRecDepth 100000 in
set_option maxHeartbeats 1000000 in
theorem runtext_nonum (l x y : List UInt8) (a n : Nat) (w : World) (hl : l.length ≤ 1000000) (hs : splitOn 32 l = [x, y]) (hr : prefixOf x = some (a, n)) (hk : numOk y 255 = false) :
    Calls Tryd.prog 59 #[.string (str l)] w fun e w' => e = .returned (.tuple #[upd 0 0 0, .bool false]) ∧ Below w.heap.size w w' := by
  have hlx : x.length ≤ 1000000 := Nat.le_trans ((splitOn_len 32 l).2 x (by rw [hs]; simp)) hl
  have hly : y.length ≤ 1000000 := Nat.le_trans ((splitOn_len 32 l).2 y (by rw [hs]; simp)) hl
  have HS := Lib.hid hs
  have HR := Lib.hid hr
  clear hs hr
  go_enter Tryd.func59, Tryd.ntmps59
  go_wp2_with (first
    | (go_at_call 70; refine (rsplit_two 32 l x y _ hl HS.out).mono ?_; rintro e w1 ⟨⟨g, cap, rfl, hg, hcap, c0, c1⟩, hb1⟩; obtain ⟨y1, rfl⟩ : ∃ y : Ext _, w1 = y.w := ⟨⟨_, hb1⟩, rfl⟩; have hz1 : w.heap.size < y1.w.heap.size := (by have := hb1.size; simp only [World.size_alloc] at this; omega); clear hb1)
    | (go_at_call 26; refine (ext_of (rprefix_at x (some (a, n)) _ hlx HR.out)).mono ?_; rintro e w2 ⟨rfl, y2, rfl⟩; have hz2 : w.heap.size < y2.w.heap.size := Nat.lt_of_lt_of_le hz1 y2.below.size; have hz2a : w.heap.size < y2.w.heap.size + 1 := (by omega); have hz2b : g < y2.w.heap.size := Nat.lt_of_lt_of_le hg y2.below.size)
    | (go_at_call 71; refine (rnumber y 255 _ hly).mono ?_; rintro e w3 ⟨⟨k, hk, rfl, hv⟩, rfl⟩; clear hv))
  exact bodyPost_ret (v := .tuple #[upd 0 0 0, .bool false]) (by simp [results, Tryd.results59, go_sem, hz1, hz2]) rfl ⟨rfl, (by repeat (first | exact Below.refl _ _ | apply Below.drew | apply below_drewN | apply bel_alloc | apply Ext.lift | apply bel_set0 | apply bel_set))⟩

set_option maxRecDepth 100000 in
set_option maxHeartbeats 1000000 in
theorem runtext_ok (l x y : List UInt8) (a n : Nat) (w : World) (hl : l.length ≤ 1000000) (hs : splitOn 32 l = [x, y]) (hr : prefixOf x = some (a, n)) (hk : numOk y 255 = true) :
    Calls Tryd.prog 59 #[.string (str l)] w fun e w' => e = .returned (.tuple #[upd a n (numVal y), .bool true]) ∧ Below w.heap.size w w' := by
  have hlx : x.length ≤ 1000000 := Nat.le_trans ((splitOn_len 32 l).2 x (by rw [hs]; simp)) hl
  have hly : y.length ≤ 1000000 := Nat.le_trans ((splitOn_len 32 l).2 y (by rw [hs]; simp)) hl
  have HS := Lib.hid hs
  have HI := Lib.hid (numOk_dec _ _ hk).2.2
  have hle := (numOk_dec _ _ hk).2.1
  have HR := Lib.hid hr
  clear hs hr
  go_enter Tryd.func59, Tryd.ntmps59
  go_wp2_with (first
    | (go_at_call 70; refine (rsplit_two 32 l x y _ hl HS.out).mono ?_; rintro e w1 ⟨⟨g, cap, rfl, hg, hcap, c0, c1⟩, hb1⟩; obtain ⟨y1, rfl⟩ : ∃ y : Ext _, w1 = y.w := ⟨⟨_, hb1⟩, rfl⟩; have hz1 : w.heap.size < y1.w.heap.size := (by have := hb1.size; simp only [World.size_alloc] at this; omega); clear hb1)
    | (go_at_call 26; refine (ext_of (rprefix_at x (some (a, n)) _ hlx HR.out)).mono ?_; rintro e w2 ⟨rfl, y2, rfl⟩; have hz2 : w.heap.size < y2.w.heap.size := Nat.lt_of_lt_of_le hz1 y2.below.size; have hz2a : w.heap.size < y2.w.heap.size + 1 := (by omega); have hz2b : g < y2.w.heap.size := Nat.lt_of_lt_of_le hg y2.below.size)
    | (go_at_call 71; refine (rnumber y 255 _ hly).mono ?_; rintro e w3 ⟨⟨k, hk, rfl, hv⟩, rfl⟩; obtain rfl := hv HI.out; clear hv hk))
  exact bodyPost_ret (v := .tuple #[upd a n (numVal y), .bool true]) (by simp [results, Tryd.results59, go_sem, hz1, hz2]) rfl ⟨rfl, (by repeat (first | exact Below.refl _ _ | apply Below.drew | apply below_drewN | apply bel_alloc | apply Ext.lift | apply bel_set0 | apply bel_set))⟩

set_option maxRecDepth 100000 in
set_option maxHeartbeats 1000000 in
theorem runtext_len (l : List UInt8) (w : World) (hl : l.length ≤ 1000000) (hs : (splitOn 32 l).length ≠ 2) :
    Calls Tryd.prog 59 #[.string (str l)] w fun e w' => e = .returned (.tuple #[upd 0 0 0, .bool false]) ∧ Below w.heap.size w w' := by
  obtain ⟨k, hk⟩ : ∃ k, k = (splitOn 32 l).length := ⟨_, rfl⟩
  have HS : Hid (∀ w, Calls Tryd.prog 70 #[.string (str l), .int .u8 32] w fun e w' => (∃ g cap, e = .returned (.slice (some ⟨g, 0, none⟩) k cap)) ∧ Below w.heap.size w w') := Lib.hid (fun w => by rw [hk]; exact rsplit_other 32 l w hl)
  have hk1 := (splitOn_len 32 l).1
  rw [← hk] at hs hk1
  clear hk
  have d : ((k : Int) != 2) = true := by simp; omega
  go_enter Tryd.func59, Tryd.ntmps59
  go_wp2_with (go_at_call 70; refine (HS.out _).mono ?_; rintro e w1 ⟨⟨g, cap, rfl⟩, hb1⟩; obtain ⟨y1, rfl⟩ : ∃ y : Ext _, w1 = y.w := ⟨⟨_, hb1⟩, rfl⟩; clear hb1)
  exact bodyPost_ret (v := .tuple #[upd 0 0 0, .bool false]) (by simp [results, Tryd.results59, go_sem]) rfl ⟨rfl, (by repeat (first | exact Below.refl _ _ | apply Below.drew | apply below_drewN | apply bel_alloc | apply Ext.lift | apply bel_set0 | apply bel_set))⟩
theorem runtext_any (l : List UInt8) (w : World) (hl : l.length ≤ 1000000) :
    Calls Tryd.prog 59 #[.string (str l)] w fun e w' => e = .returned (runtextRes l) ∧ Below w.heap.size w w' := by
  unfold runtextRes
  rw [← refUntext_eq l]
  by_cases h2 : (splitOn 32 l).length = 2
  · match hs : splitOn 32 l, h2 with
    | [x, y], _ =>
      cases hr : prefixOf x with
      | none => simp only [hr]; exact runtext_nopre l x y w hl hs hr
      | some an =>
        obtain ⟨a, n⟩ := an
        simp only [hr]
        by_cases hk : numOk y 255 = true
        · rw [if_pos hk]; exact runtext_ok l x y a n w hl hs hr hk
        · rw [if_neg hk]; exact runtext_nonum l x y a n w hl hs hr (by simpa using hk)
  · split
    · rename_i a n d hsome
      exfalso
      split at hsome
      · rename_i x y hs; rw [hs] at h2; simp at h2
      · cases hsome
    · exact runtext_len l w hl h2

theorem kk1 : untextU [49, 48, 46, 48, 46, 48, 46, 48, 47, 56, 32, 53] = some (167772160, 8, 5) := by decide +kernel
theorem kk2 : untextU [49, 48, 46, 48, 46, 48, 46, 48, 47, 56, 32, 50, 53, 54] = none := by decide +kernel
theorem kk3 : ofU [10, 0, 0, 1, 8, 5] = none := by decide +kernel
theorem kk4 : bytesU 167772160 8 5 = [10, 0, 0, 0, 8, 5] := by decide +kernel
theorem kbytes (w : World) : Calls Tryd.prog 50 #[upd 167772160 8 5] w fun e w' => ∃ v, e = .returned (.tuple #[v, .int .i64 0]) ∧ Bs w' v [10, 0, 0, 0, 8, 5] ∧ Below w.heap.size w w' :=
  (cbytes_ok 167772160 8 5 w ⟨by decide, by decide⟩ (by decide) (by decide) (by decide +kernel)).mono fun _ _ ⟨v, he, hown, hb⟩ => ⟨v, he, Bs.own (l := [10, 0, 0, 0, 8, 5]) (by rw [kk4] at hown; exact hown), hb⟩
theorem kof (W : World) : Calls Tryd.prog 51 #[.slice (some ⟨W.heap.size, 0, none⟩) 6 6] (W.alloc (.cells #[.int .u8 10, .int .u8 0, .int .u8 0, .int .u8 1, .int .u8 8, .int .u8 5] 5)) fun e w' => e = .returned (.tuple #[upd 0 0 0, .int .i64 4]) ∧ ∃ y : Ext (W.alloc (.cells #[.int .u8 10, .int .u8 0, .int .u8 0, .int .u8 1, .int .u8 8, .int .u8 5] 5)), w' = y.w := by
  have := cof_any [10, 0, 0, 1, 8, 5] (.slice (some ⟨W.heap.size, 0, none⟩) 6 6) (W.alloc (.cells #[.int .u8 10, .int .u8 0, .int .u8 0, .int .u8 1, .int .u8 8, .int .u8 5] 5)) ⟨_, 6, rfl, Nat.le_refl _, (fun h => by cases h), fun _ => ⟨W.heap.size, 0, rfl, by simp, fun j u hu => by
    rw [cell_of_row _ W.heap.size (0 + j) _ _ (0, 0) (heap_alloc_new W _)]
    simpa [cellsB] using hu⟩⟩
  unfold ofRes at this; rw [kk3] at this
  exact ext_of this
theorem kun1 (w : World) (E : Env w) : Calls Tryd.prog 58 #[.string ⟨#[49, 48, 46, 48, 46, 48, 46, 48, 47, 56, 32, 53]⟩] w fun e w' => e = .returned (.tuple #[upd 167772160 8 5, .int .i64 0]) ∧ ∃ y : Ext w, w' = y.w := by
  have := cuntext_any [49, 48, 46, 48, 46, 48, 46, 48, 47, 56, 32, 53] w (by decide) E
  unfold untextRes at this; rw [kk1] at this
  exact ext_of this
theorem kun2 (w : World) (E : Env w) : Calls Tryd.prog 58 #[.string ⟨#[49, 48, 46, 48, 46, 48, 46, 48, 47, 56, 32, 50, 53, 54]⟩] w fun e w' => e = .returned (.tuple #[upd 0 0 0, .int .i64 4]) ∧ ∃ y : Ext w, w' = y.w := by
  have := cuntext_any [49, 48, 46, 48, 46, 48, 46, 48, 47, 56, 32, 50, 53, 54] w (by decide) E
  unfold untextRes at this; rw [kk2] at this
  exact ext_of this
theorem kfar1 : farP 250 9 = 255 := by decide
theorem kfar2 : farP 3 4 = 7 := by decide

set_option maxRecDepth 100000 in
set_option maxHeartbeats 1000000 in
theorem known5_any (w : World) (E : Env w) : Calls Tryd.prog 49 #[] w fun e w' => e = .returned (.bool true) ∧ Below w.heap.size w w' := by
  have E0 := E.alloc (.cells #[.int .u32 167772160, .int .i64 8, .int .i64 5] 77)
  go_enter Tryd.func49, Tryd.ntmps49
  go_wp2_with fail
  refine (kbytes _).mono ?_
  rintro e w1 ⟨v, rfl, hbs, hb1⟩
  obtain ⟨y0, rfl⟩ : ∃ y : Ext _, w1 = y.w := ⟨⟨_, hb1⟩, rfl⟩
  have E1 := (y0.env E0).alloc (.cells #[.int .u8 10, .int .u8 0, .int .u8 0, .int .u8 1, .int .u8 8, .int .u8 5] 5)
  have hs0 : w.heap.size < y0.w.heap.size := by have := y0.below.size; simp only [World.size_alloc] at this; omega
  clear hb1
  go_wp2_with fail
  refine (kof _).mono ?_
  rintro e w' ⟨rfl, y1, rfl⟩
  have E2 := (y1.env E1).alloc (.cells #[.int .u32 0, .int .i64 0, .int .i64 0] 77)
  have hs1 : w.heap.size < y1.w.heap.size := by have := y1.below.size; simp only [World.size_alloc] at this; omega
  have hs1a : w.heap.size < y1.w.heap.size + 1 := by omega
  have hs0a : w.heap.size < y0.w.heap.size + 1 := by omega
  go_wp2_with fail
  refine (kun1 _ E2).mono ?_
  rintro e w' ⟨rfl, y2, rfl⟩
  have E3 := (y2.env E2).alloc (.cells #[.int .u32 167772160, .int .i64 8, .int .i64 5] 77)
  have hs2 : w.heap.size < y2.w.heap.size := by have := y2.below.size; simp only [World.size_alloc] at this; omega
  have hs2a : w.heap.size < y2.w.heap.size + 1 := by omega
  go_wp2_with fail
  refine (kun2 _ E3).mono ?_
  rintro e w' ⟨rfl, y3, rfl⟩
  have hs3 : w.heap.size < y3.w.heap.size := by have := y3.below.size; simp only [World.size_alloc] at this; omega
  have hs3a : w.heap.size < y3.w.heap.size + 1 := by omega
  have hs3b : y2.w.heap.size < y3.w.heap.size := by have := y3.below.size; simp only [World.size_alloc] at this; omega
  have hs3c : y2.w.heap.size < y3.w.heap.size + 1 := by omega
  have hcv := ((((((hbs.alloc (.cells #[.int .u8 10, .int .u8 0, .int .u8 0, .int .u8 1, .int .u8 8, .int .u8 5] 5)).ext y1).alloc (.cells #[.int .u32 0, .int .i64 0, .int .i64 0] 77)).ext y2).alloc (.cells #[.int .u32 167772160, .int .i64 8, .int .i64 5] 77)).ext y3).alloc (.cells #[.int .u32 0, .int .i64 0, .int .i64 0] 77) |>.conv
  have hf1 := kfar1
  have hf2 := kfar2
  go_wp2_with (first
    | (go_at_call 55; refine (num5_any _ _).mono ?_; rintro e w' ⟨rfl, rfl⟩)
    | (go_at_call 60; refine (far_any _ _ _).mono ?_; rintro e w' ⟨rfl, rfl⟩))
  go_ret
  exact ⟨rfl, (by repeat (first | exact Below.refl _ _ | apply Below.drew | apply below_drewN | apply bel_alloc | apply Ext.lift | apply bel_set0 | apply bel_set))⟩
end Go.Proofs.YteafakpipbhioaaDoor
