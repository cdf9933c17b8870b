/- The walk of the law WireNumbers: whatever the number, the size and the bytes, it answers true. -/
import Derived.Test.YteafakpipbhioaaDoorKnown
import Derived.Test.YteafakpipbhioaaDoorTail
import Derived.Deep.DeepCutAuto
namespace Go.Proofs.YteafakpipbhioaaDoor
open Go.RowKit Pl

theorem rroom_at (n k : Nat) (b : Bool) (w : World) (hn : n < 18446744073709551616) (h0 : 1 ≤ k) (h1 : k ≤ 8) (h : fits n k = b) :
    Calls Tryd.prog 18 #[.int .u64 n, .int .i64 k] w fun e w' => e = .returned (.bool b) ∧ w = w' := by
  rw [← h]; exact rroom n k w hn h0 h1
theorem room_false (n : Nat) (k : Int) (w : World) (hn : n < 18446744073709551616) (h : roomB n k = false) :
    Calls Tryd.prog 18 #[.int .u64 n, .int .i64 k] w fun e w' => e = .returned (.bool false) ∧ w = w' := by
  by_cases h1 : k < 1 ∨ 8 < k
  · exact rroom_no n k w h1
  · obtain ⟨m, rfl⟩ := Int.eq_ofNat_of_zero_le (show 0 ≤ k by omega)
    refine rroom_at n m false w hn (by omega) (by omega) ?_
    cases hf : fits n m with
    | false => rfl
    | true =>
      have : roomB n m = true := by simp [roomB, hf]; omega
      rw [this] at h; cases h
theorem roomB_true {n : Nat} {k : Int} (h : roomB n k = true) : ∃ m : Nat, k = m ∧ 1 ≤ m ∧ m ≤ 8 ∧ fits n m = true := by
  simp only [roomB, Bool.and_eq_true, decide_eq_true_eq] at h
  exact ⟨k.toNat, by omega, by omega, by omega, h.2.2⟩

set_option maxRecDepth 100000 in
set_option maxHeartbeats 4000000 in
theorem wireNumbers_walk (n k : Int) (v : Value) (l : List UInt8) (w : World) (hn : IsU64 n) (hb : Bs w v l) (E : Env w) :
    Calls Tryd.prog 3 #[.int .u64 n, .int .i64 k, v] w fun e w' => e = .returned (.bool true) ∧ Below w.heap.size w w' := by
  obtain ⟨hn0, hn1⟩ := hn
  obtain ⟨N, rfl⟩ := Int.eq_ofNat_of_zero_le hn0
  have HN : Hid (N < 18446744073709551616) := Lib.hid (by omega)
  clear hn0 hn1
  have HB := Lib.hid hb
  obtain ⟨A, c, rfl, hc, _, _⟩ := hb
  by_cases hl : 9000 < l.length
  · have hl' : 9000 < (l.length : Int) := by omega
    go_enter Tryd.func3, Tryd.ntmps3
    go_wp2_with (go_at_call 16; refine (ext_of (known_any _ E)).mono ?_; rintro e w' ⟨rfl, y, rfl⟩)
    go_ret
    exact ⟨rfl, (by repeat (first | exact Below.refl _ _ | apply Below.drew | apply below_drewN | apply bel_alloc | apply Ext.lift | apply bel_set0 | apply bel_set))⟩
  have dl : decide (9000 < (l.length : Int)) = false := by simp; omega
  clear hl
  cases hr : roomB N k with
  | true =>
    obtain ⟨m, rfl, hm1, hm8, hf⟩ := roomB_true hr
    have HF := Lib.hid hf
    have HF2 : Hid (N / 2 ^ (8 * m) = 0) := Lib.hid (by simpa [fits] using hf)
    clear hr hf
    go_enter Tryd.func3, Tryd.ntmps3
    go_upto_region 5 with (first
      | (go_at_call 17; refine (put_ok N m _ hm1 hm8 HF2.out).mono ?_; rintro e w1 ⟨x, rfl, hown, hb1⟩; obtain ⟨y, rfl⟩ : ∃ y : Ext w, w1 = y.w := ⟨⟨_, hb1⟩, rfl⟩; have HX := Lib.hid (Bs.own hown); clear hown hb1)
      | (go_at_call 18; refine (rroom_at N m true _ HN.out hm1 hm8 HF.out).mono ?_; rintro e w' ⟨rfl, rfl⟩))
    have HD := Lib.hid (show Bs y.w.drew x (putB N m) from HX.out)
    have hcv1 := HD.out.conv
    go_cut [35] (fun s35 wx => s35 = .bool false ∧ InExt w wx)
    case first =>
      go_region_with (first
        | (go_at_call 19; refine (rput N m _ HN.out hm1 hm8).mono ?_; rintro e w2 ⟨x2, rfl, hown2, hb2⟩; have hcv2 := (Bs.own hown2).conv; have hcv3 := (HD.out.below hb2).conv; clear hown2)
        | (go_at_call 20; refine (num_any _ _).mono ?_; rintro e w' ⟨rfl, rfl⟩))
      all_goals (go_wp2_with fail; go_meet; exact ⟨rfl, ⟨_, Ext.lift y (Below.refl _ _) |>.trans (show Below w.heap.size y.w _ from (show Below y.w.heap.size y.w _ from ⟨hb2.os, hb2.tape, hb2.output, hb2.size, hb2.block⟩).mono y.below.size)⟩, rfl⟩)
    case rest =>
      obtain ⟨rfl, y1, rfl⟩ := hcut
      clear HD hcv1 HX
      by_cases g1 : l.length < 1
      · have g1' : (l.length : Int) < 1 := by omega
        go_wp2_with (first | (go_at_call 21; refine (get_err _ l _ (Bs.ext HB.out _) (.inl g1)).mono ?_; rintro e w' ⟨rfl, rfl⟩) | (go_at_call 20; refine (num_any _ _).mono ?_; rintro e w' ⟨rfl, rfl⟩) | (go_at_call 16; refine (Ext.call (known_any _ (Ext.env _ E))).mono ?_; rintro e w' ⟨rfl, z, rfl⟩))
        go_ret
        exact ⟨rfl, (by repeat (first | exact Below.refl _ _ | apply Below.drew | apply below_drewN | apply bel_alloc | apply Ext.lift | apply bel_set0 | apply bel_set))⟩
      by_cases g2 : 8 < l.length
      · have g1' : decide ((l.length : Int) < 1) = false := by simp; omega
        have g2' : 8 < (l.length : Int) := by omega
        go_wp2_with (first | (go_at_call 21; refine (get_err _ l _ (Bs.ext HB.out _) (.inr g2)).mono ?_; rintro e w' ⟨rfl, rfl⟩) | (go_at_call 20; refine (num_any _ _).mono ?_; rintro e w' ⟨rfl, rfl⟩) | (go_at_call 16; refine (Ext.call (known_any _ (Ext.env _ E))).mono ?_; rintro e w' ⟨rfl, z, rfl⟩))
        go_ret
        exact ⟨rfl, (by repeat (first | exact Below.refl _ _ | apply Below.drew | apply below_drewN | apply bel_alloc | apply Ext.lift | apply bel_set0 | apply bel_set))⟩
      have g1' : decide ((l.length : Int) < 1) = false := by simp; omega
      have g2' : decide (8 < (l.length : Int)) = false := by simp; omega
      go_wp2_with (first | (go_at_call 21; refine (get_ok l _ _ (Bs.ext HB.out _) (by omega) (by omega)).mono ?_; rintro e w' ⟨rfl, rfl⟩) | (go_at_call 22; refine (rget l _ _ (Bs.ext HB.out _) (by omega) (by omega)).mono ?_; rintro e w' ⟨rfl, rfl⟩) | (go_at_call 20; refine (num_any _ _).mono ?_; rintro e w' ⟨rfl, rfl⟩) | (go_at_call 16; refine (Ext.call (known_any _ (Ext.env _ E))).mono ?_; rintro e w' ⟨rfl, z, rfl⟩))
      go_ret
      exact ⟨rfl, (by repeat (first | exact Below.refl _ _ | apply Below.drew | apply below_drewN | apply bel_alloc | apply Ext.lift | apply bel_set0 | apply bel_set))⟩
  | false =>
    have HR := Lib.hid hr
    clear hr
    obtain ⟨y, hy⟩ : ∃ y : Ext w, y.w = w := ⟨⟨w, Below.refl _ _⟩, rfl⟩
    have key : Calls Tryd.prog 3 #[.int .u64 N, .int .i64 k, .slice A l.length c] y.w fun e w' => e = .returned (.bool true) ∧ Below w.heap.size w w' := by
      clear hy
      go_enter Tryd.func3, Tryd.ntmps3
      go_wp2_with (first
        | (go_at_call 17; refine (put_err N k _ HN.out HR.out).mono ?_; rintro e w1 ⟨rfl, rfl⟩)
        | (go_at_call 18; refine (room_false N k _ HN.out HR.out).mono ?_; rintro e w' ⟨rfl, rfl⟩)
        | (go_at_call 20; refine (num_any _ _).mono ?_; rintro e w' ⟨rfl, rfl⟩))
      by_cases g1 : l.length < 1
      · have g1' : (l.length : Int) < 1 := by omega
        go_wp2_with (first | (go_at_call 21; refine (get_err _ l _ (Bs.ext HB.out _) (.inl g1)).mono ?_; rintro e w' ⟨rfl, rfl⟩) | (go_at_call 20; refine (num_any _ _).mono ?_; rintro e w' ⟨rfl, rfl⟩) | (go_at_call 16; refine (Ext.call (known_any _ (Ext.env _ E))).mono ?_; rintro e w' ⟨rfl, z, rfl⟩))
        go_ret
        exact ⟨rfl, (by repeat (first | exact Below.refl _ _ | apply Below.drew | apply below_drewN | apply bel_alloc | apply Ext.lift | apply bel_set0 | apply bel_set))⟩
      by_cases g2 : 8 < l.length
      · have g1' : decide ((l.length : Int) < 1) = false := by simp; omega
        have g2' : 8 < (l.length : Int) := by omega
        go_wp2_with (first | (go_at_call 21; refine (get_err _ l _ (Bs.ext HB.out _) (.inr g2)).mono ?_; rintro e w' ⟨rfl, rfl⟩) | (go_at_call 20; refine (num_any _ _).mono ?_; rintro e w' ⟨rfl, rfl⟩) | (go_at_call 16; refine (Ext.call (known_any _ (Ext.env _ E))).mono ?_; rintro e w' ⟨rfl, z, rfl⟩))
        go_ret
        exact ⟨rfl, (by repeat (first | exact Below.refl _ _ | apply Below.drew | apply below_drewN | apply bel_alloc | apply Ext.lift | apply bel_set0 | apply bel_set))⟩
      have g1' : decide ((l.length : Int) < 1) = false := by simp; omega
      have g2' : decide (8 < (l.length : Int)) = false := by simp; omega
      go_wp2_with (first | (go_at_call 21; refine (get_ok l _ _ (Bs.ext HB.out _) (by omega) (by omega)).mono ?_; rintro e w' ⟨rfl, rfl⟩) | (go_at_call 22; refine (rget l _ _ (Bs.ext HB.out _) (by omega) (by omega)).mono ?_; rintro e w' ⟨rfl, rfl⟩) | (go_at_call 20; refine (num_any _ _).mono ?_; rintro e w' ⟨rfl, rfl⟩) | (go_at_call 16; refine (Ext.call (known_any _ (Ext.env _ E))).mono ?_; rintro e w' ⟨rfl, z, rfl⟩))
      go_ret
      exact ⟨rfl, (by repeat (first | exact Below.refl _ _ | apply Below.drew | apply below_drewN | apply bel_alloc | apply Ext.lift | apply bel_set0 | apply bel_set))⟩
    rw [hy] at key
    exact key
end Go.Proofs.YteafakpipbhioaaDoor
