/- The walk of the law WireBack: whatever the number, the address, the prefixes and the bytes, it answers true. -/
import Derived.Test.YteafakpipbhioaaDoorLHex
import Derived.Test.YteafakpipbhioaaDoorLAddrs
import Derived.Test.YteafakpipbhioaaDoorPlainO
namespace Go.Proofs.YteafakpipbhioaaDoor
open Go.RowKit Pl

theorem Ext.of {W : World} (y : Ext W) {w1 : World} (hb : Below y.w.heap.size y.w w1) : ∃ z : Ext W, w1 = z.w := ⟨⟨_, y.below.trans (hb.mono y.below.size)⟩, rfl⟩
theorem get_put (N : Nat) (x : Value) (w : World) (hN : N < 18446744073709551616) (h : Bs w x (putB N 8)) :
    Calls Tryd.prog 21 #[x] w fun e w' => e = .returned (.tuple #[.int .u64 (N : Int), .int .i64 0]) ∧ w = w' := by
  have := get_ok (putB N 8) x w h (by rw [putB_length]; decide) (by rw [putB_length]; decide)
  rw [getB_putB, Nat.mod_eq_of_lt (by omega)] at this
  exact this
theorem unhex_back (l : List UInt8) (w : World) (hl : l.length ≤ 100000) :
    Calls Tryd.prog 32 #[.string (str (hexText l))] w fun r w' => ∃ v, r = .returned (.tuple #[v, .int .i64 0]) ∧ Bs w' v l ∧ Below w.heap.size w w' :=
  (unhex_any (hexText l) w (by rw [hexText_length]; omega)).mono (by
    rintro r w' ⟨⟨m', v, h1, h2, h3⟩ | ⟨h1, _⟩, hb⟩
    · rw [unhex_hex] at h1; injection h1 with h1; subst h1; exact ⟨v, h2, Bs.own h3, hb⟩
    · rw [unhex_hex] at h1; cases h1)
theorem addr_back (a : Nat) (w : World) (ha : a < 4294967296) (E : Env w) :
    Calls Tryd.prog 23 #[.string (str (addrText a))] w fun e w' => e = .returned (.tuple #[.int .u32 a, .int .i64 0]) ∧ Below w.heap.size w w' :=
  addrOf_ok _ a w (by have := addrText_len a; omega) E (addrOf_text a ha)
theorem prefix_back (a n : Nat) (w : World) (ha : a < 4294967296) (hm : mayP a n = true) (hl : (prefixText a n).length ≤ 1000000) (E : Env w) :
    Calls Tryd.prog 25 #[.string (str (prefixText a n))] w fun e w' => e = .returned (.tuple #[.agg #[.int .u32 a, .int .i64 n], .int .i64 0]) ∧ Below w.heap.size w w' := by
  have := prefixOf_any (prefixText a n) w hl E
  unfold prefixRes at this
  rw [prefixOf_text a n ha hm] at this
  exact this

theorem ptext_len (a n : Nat) (hn : n ≤ 32) : (prefixText a n).length ≤ 1000000 := by
  have h1 := addrText_len a
  have h2 := dec_len n (by omega)
  simp only [prefixText, List.length_append, List.length_cons]; omega
theorem within_at (a n b m : Int) (r : Bool) (w : World) (ha : IsAddr a) (hb : IsAddr b) (h : withinP a n b m = r) :
    Calls Tryd.prog 37 #[.agg #[.int .u32 a, .int .i64 n], .agg #[.int .u32 b, .int .i64 m]] w fun e w' => e = .returned (.bool r) ∧ Below w.heap.size w w' := h ▸ within_any a n b m w ha hb
theorem has_at (a n x : Int) (r : Bool) (w : World) (ha : IsAddr a) (hx : IsAddr x) (h : hasP a n x = r) :
    Calls Tryd.prog 38 #[.agg #[.int .u32 a, .int .i64 n], .int .u32 x] w fun e w' => e = .returned (.bool r) ∧ Below w.heap.size w w' := h ▸ has_any a n x w ha hx

set_option maxRecDepth 100000 in
set_option maxHeartbeats 2000000 in
theorem wireBack_walk (n x a p b q : Int) (v : Value) (l : List UInt8) (w : World) (hn : IsU64 n) (hx : IsAddr x) (ha : IsAddr a) (hb : IsAddr b) (hv : Bs w v l) (E : Env w) :
    Calls Tryd.prog 6 #[.int .u64 n, .int .u32 x, .agg #[.int .u32 a, .int .i64 p], .agg #[.int .u32 b, .int .i64 q], v] w fun e w' => e = .returned (.bool true) ∧ Below w.heap.size w w' := by
  have E1 := (E.alloc (.cells #[.int .u32 a, .int .i64 p] 38)).alloc (.cells #[.int .u32 b, .int .i64 q] 38)
  have HV := Lib.hid ((hv.alloc (.cells #[.int .u32 a, .int .i64 p] 38)).alloc (.cells #[.int .u32 b, .int .i64 q] 38))
  obtain ⟨A, c, rfl, hc, _, _⟩ := hv
  obtain ⟨hn0, hn1⟩ := hn
  obtain ⟨N, rfl⟩ := Int.eq_ofNat_of_zero_le hn0
  have HN : Hid (N < 18446744073709551616) := Lib.hid (by omega)
  have HN2 : Hid (N / 2 ^ (8 * 8) = 0) := Lib.hid (Nat.div_eq_of_lt (by have := HN.out; omega))
  have hx' := hx
  obtain ⟨hx0, hx1⟩ := hx'
  obtain ⟨X, rfl⟩ := Int.eq_ofNat_of_zero_le hx0
  have hX : X < 4294967296 := by omega
  clear hn0 hn1 hx0 hx1
  have HF : Hid (withinP a p b q = false → withinP b q a p = false → hasP a p X = true → hasP b q X = false) := Lib.hid (by
    intro h1 h2 h3
    cases h4 : hasP b q X with
    | false => rfl
    | true => rcases has_both a p b q X h3 h4 with h | h
              · rw [h1] at h; cases h
              · rw [h2] at h; cases h)
  by_cases hl : l.length ≤ 9000
  · have dl : (l.length : Int) ≤ 9000 := by omega
    go_enter Tryd.func6, Tryd.ntmps6
    go_upto_region 12 with (first
      | (go_at_call 16; refine (ext_of (known_any _ E1)).mono ?_; rintro e w' ⟨rfl, y, rfl⟩)
      | (go_at_call 17; refine (put_ok N 8 _ (by decide) (by decide) HN2.out).mono ?_; rintro e w1 ⟨u, rfl, hown, hb1⟩; obtain ⟨y1, rfl⟩ := Ext.of y hb1; have HX := Lib.hid (Bs.own hown); clear hown hb1)
      | (go_at_call 21; refine (get_put N _ _ HN.out HX.out).mono ?_; rintro e w1 ⟨rfl, rfl⟩)
      | (go_at_call 28; refine (Ext.call (addrText_any X _ hX (Ext.env _ E1))).mono ?_; rintro e w' ⟨rfl, y2, rfl⟩)
      | (go_at_call 23; refine (Ext.call (addr_back X _ hX (Ext.env _ E1))).mono ?_; rintro e w' ⟨rfl, y3, rfl⟩)
      | (go_at_call 20; refine (num_any _ _).mono ?_; rintro e w' ⟨rfl, rfl⟩)
      | (go_at_call 34; refine (Ext.call (hex_any _ l _ (HV.out.ext _) (by omega))).mono ?_; rintro e w' ⟨rfl, y4, rfl⟩)
      | (go_at_call 32; refine (unhex_back l _ (by omega)).mono ?_; rintro e w1 ⟨u2, rfl, hu, hb1⟩; obtain ⟨y5, rfl⟩ := Ext.of y4 hb1; have hcv1 := hu.conv; have hcv2 := (HV.out.ext y5).conv; clear hb1))
    by_cases hm : mayP a p = true
    · obtain ⟨ha0, ha1⟩ := id ha
      obtain ⟨A', rfl⟩ := Int.eq_ofNat_of_zero_le ha0
      have hA : A' < 4294967296 := by omega
      obtain ⟨hp0, hp1⟩ := mayP_len hm
      obtain ⟨P, rfl⟩ := Int.eq_ofNat_of_zero_le hp0
      have HM := Lib.hid hm
      have HT : Hid ((prefixText A' P).length ≤ 1000000) := Lib.hid (ptext_len A' P (by omega))
      clear hm ha0 ha1 hp0 hp1
      go_upto_region 17 with (first
      | (go_at_call 27; refine (Ext.call (prefixText_ok A' P _ hA HM.out (Ext.env _ E1))).mono ?_; rintro e w' ⟨rfl, z0, rfl⟩)
      | (go_at_call 20; refine (num_any _ _).mono ?_; rintro e w' ⟨rfl, rfl⟩)
      | (go_at_call 25; refine (Ext.call (prefix_back A' P _ hA HM.out HT.out (Ext.env _ E1))).mono ?_; rintro e w' ⟨rfl, z1, rfl⟩; have hz1 : w.heap.size < z1.w.heap.size := (by have := z1.below.size; simp only [World.size_alloc] at this; omega); have hz2 : w.heap.size < z1.w.heap.size + 1 := (by omega); have hz3 : w.heap.size + 1 < z1.w.heap.size := (by have := z1.below.size; simp only [World.size_alloc] at this; omega)))
      have hm := HM.out
      cases hq : mayP b q with
      | false =>
        go_wp2_with (first
          | (go_at_call 36; refine (Ext.call (may_any _ _ _ (by assumption))).mono ?_; rintro e w' ⟨rfl, z3, rfl⟩)
          | (go_at_call 36; refine (ext_of (may_any _ _ _ (by assumption))).mono ?_; rintro e w' ⟨rfl, z2, rfl⟩)
          | (go_at_call 37; refine (Ext.call (within_any _ _ _ _ _ (by assumption) (by assumption))).mono ?_; rintro e w' ⟨rfl, z4, rfl⟩)
          | (go_at_call 38; refine (Ext.call (has_any _ _ _ _ (by assumption) (by assumption))).mono ?_; rintro e w' ⟨rfl, z6, rfl⟩))
        go_ret
        exact ⟨rfl, (by repeat (first | exact Below.refl _ _ | apply Below.drew | apply below_drewN | apply bel_alloc | apply Ext.lift | apply bel_set0 | apply bel_set))⟩
      | true =>
        cases h1 : withinP A' P b q with
        | true =>
          go_wp2_with (first
            | (go_at_call 36; refine (Ext.call (may_any _ _ _ (by assumption))).mono ?_; rintro e w' ⟨rfl, z3, rfl⟩)
            | (go_at_call 36; refine (ext_of (may_any _ _ _ (by assumption))).mono ?_; rintro e w' ⟨rfl, z2, rfl⟩)
            | (go_at_call 37; refine (Ext.call (within_any _ _ _ _ _ (by assumption) (by assumption))).mono ?_; rintro e w' ⟨rfl, z4, rfl⟩)
            | (go_at_call 38; refine (Ext.call (has_any _ _ _ _ (by assumption) (by assumption))).mono ?_; rintro e w' ⟨rfl, z6, rfl⟩))
          go_ret
          exact ⟨rfl, (by repeat (first | exact Below.refl _ _ | apply Below.drew | apply below_drewN | apply bel_alloc | apply Ext.lift | apply bel_set0 | apply bel_set))⟩
        | false =>
          cases h2 : withinP b q A' P with
          | true =>
            go_wp2_with (first
              | (go_at_call 36; refine (Ext.call (may_any _ _ _ (by assumption))).mono ?_; rintro e w' ⟨rfl, z3, rfl⟩)
              | (go_at_call 36; refine (ext_of (may_any _ _ _ (by assumption))).mono ?_; rintro e w' ⟨rfl, z2, rfl⟩)
              | (go_at_call 37; refine (Ext.call (within_any _ _ _ _ _ (by assumption) (by assumption))).mono ?_; rintro e w' ⟨rfl, z4, rfl⟩)
              | (go_at_call 38; refine (Ext.call (has_any _ _ _ _ (by assumption) (by assumption))).mono ?_; rintro e w' ⟨rfl, z6, rfl⟩))
            go_ret
            exact ⟨rfl, (by repeat (first | exact Below.refl _ _ | apply Below.drew | apply below_drewN | apply bel_alloc | apply Ext.lift | apply bel_set0 | apply bel_set))⟩
          | false =>
            cases h3 : hasP A' P X with
            | false =>
              go_wp2_with (first
                | (go_at_call 36; refine (Ext.call (may_any _ _ _ (by assumption))).mono ?_; rintro e w' ⟨rfl, z3, rfl⟩)
                | (go_at_call 36; refine (ext_of (may_any _ _ _ (by assumption))).mono ?_; rintro e w' ⟨rfl, z2, rfl⟩)
                | (go_at_call 37; refine (Ext.call (within_any _ _ _ _ _ (by assumption) (by assumption))).mono ?_; rintro e w' ⟨rfl, z4, rfl⟩)
                | (go_at_call 38; refine (Ext.call (has_any _ _ _ _ (by assumption) (by assumption))).mono ?_; rintro e w' ⟨rfl, z6, rfl⟩))
              go_ret
              exact ⟨rfl, (by repeat (first | exact Below.refl _ _ | apply Below.drew | apply below_drewN | apply bel_alloc | apply Ext.lift | apply bel_set0 | apply bel_set))⟩
            | true =>
              have h4 := HF.out h1 h2 h3
              go_wp2_with (first
                | (go_at_call 36; refine (Ext.call (may_any _ _ _ (by assumption))).mono ?_; rintro e w' ⟨rfl, z3, rfl⟩)
                | (go_at_call 36; refine (ext_of (may_any _ _ _ (by assumption))).mono ?_; rintro e w' ⟨rfl, z2, rfl⟩)
                | (go_at_call 37; refine (Ext.call (within_any _ _ _ _ _ (by assumption) (by assumption))).mono ?_; rintro e w' ⟨rfl, z4, rfl⟩)
                | (go_at_call 38; refine (Ext.call (has_any _ _ _ _ (by assumption) (by assumption))).mono ?_; rintro e w' ⟨rfl, z6, rfl⟩))
              go_ret
              exact ⟨rfl, (by repeat (first | exact Below.refl _ _ | apply Below.drew | apply below_drewN | apply bel_alloc | apply Ext.lift | apply bel_set0 | apply bel_set))⟩
    · have HM := Lib.hid (show mayP a p = false by simpa using hm)
      clear hm
      go_wp2_with (first
        | (go_at_call 27; refine (Ext.call (prefixText_err a p _ ha HM.out)).mono ?_; rintro e w' ⟨rfl, z0, rfl⟩)
        | (go_at_call 20; refine (num_any _ _).mono ?_; rintro e w' ⟨rfl, rfl⟩)
        | (go_at_call 36; refine (Ext.call (may_false a p _ ha HM.out)).mono ?_; rintro e w' ⟨rfl, z1, rfl⟩))
      go_ret
      exact ⟨rfl, (by repeat (first | exact Below.refl _ _ | apply Below.drew | apply below_drewN | apply bel_alloc | apply Ext.lift | apply bel_set0 | apply bel_set))⟩
  · have dl : decide ((l.length : Int) ≤ 9000) = false := by simp; omega
    clear hl
    go_enter Tryd.func6, Tryd.ntmps6
    go_upto_region 12 with (first
      | (go_at_call 16; refine (ext_of (known_any _ E1)).mono ?_; rintro e w' ⟨rfl, y, rfl⟩)
      | (go_at_call 17; refine (put_ok N 8 _ (by decide) (by decide) HN2.out).mono ?_; rintro e w1 ⟨u, rfl, hown, hb1⟩; obtain ⟨y1, rfl⟩ := Ext.of y hb1; have HX := Lib.hid (Bs.own hown); clear hown hb1)
      | (go_at_call 21; refine (get_put N _ _ HN.out HX.out).mono ?_; rintro e w1 ⟨rfl, rfl⟩)
      | (go_at_call 28; refine (Ext.call (addrText_any X _ hX (Ext.env _ E1))).mono ?_; rintro e w' ⟨rfl, y2, rfl⟩)
      | (go_at_call 23; refine (Ext.call (addr_back X _ hX (Ext.env _ E1))).mono ?_; rintro e w' ⟨rfl, y3, rfl⟩)
      | (go_at_call 20; refine (num_any _ _).mono ?_; rintro e w' ⟨rfl, rfl⟩))
    by_cases hm : mayP a p = true
    · obtain ⟨ha0, ha1⟩ := id ha
      obtain ⟨A', rfl⟩ := Int.eq_ofNat_of_zero_le ha0
      have hA : A' < 4294967296 := by omega
      obtain ⟨hp0, hp1⟩ := mayP_len hm
      obtain ⟨P, rfl⟩ := Int.eq_ofNat_of_zero_le hp0
      have HM := Lib.hid hm
      have HT : Hid ((prefixText A' P).length ≤ 1000000) := Lib.hid (ptext_len A' P (by omega))
      clear hm ha0 ha1 hp0 hp1
      go_upto_region 17 with (first
      | (go_at_call 27; refine (Ext.call (prefixText_ok A' P _ hA HM.out (Ext.env _ E1))).mono ?_; rintro e w' ⟨rfl, z0, rfl⟩)
      | (go_at_call 20; refine (num_any _ _).mono ?_; rintro e w' ⟨rfl, rfl⟩)
      | (go_at_call 25; refine (Ext.call (prefix_back A' P _ hA HM.out HT.out (Ext.env _ E1))).mono ?_; rintro e w' ⟨rfl, z1, rfl⟩; have hz1 : w.heap.size < z1.w.heap.size := (by have := z1.below.size; simp only [World.size_alloc] at this; omega); have hz2 : w.heap.size < z1.w.heap.size + 1 := (by omega); have hz3 : w.heap.size + 1 < z1.w.heap.size := (by have := z1.below.size; simp only [World.size_alloc] at this; omega)))
      have hm := HM.out
      cases hq : mayP b q with
      | false =>
        go_wp2_with (first
          | (go_at_call 36; refine (Ext.call (may_any _ _ _ (by assumption))).mono ?_; rintro e w' ⟨rfl, z3, rfl⟩)
          | (go_at_call 36; refine (ext_of (may_any _ _ _ (by assumption))).mono ?_; rintro e w' ⟨rfl, z2, rfl⟩)
          | (go_at_call 37; refine (Ext.call (within_any _ _ _ _ _ (by assumption) (by assumption))).mono ?_; rintro e w' ⟨rfl, z4, rfl⟩)
          | (go_at_call 38; refine (Ext.call (has_any _ _ _ _ (by assumption) (by assumption))).mono ?_; rintro e w' ⟨rfl, z6, rfl⟩))
        go_ret
        exact ⟨rfl, (by repeat (first | exact Below.refl _ _ | apply Below.drew | apply below_drewN | apply bel_alloc | apply Ext.lift | apply bel_set0 | apply bel_set))⟩
      | true =>
        cases h1 : withinP A' P b q with
        | true =>
          go_wp2_with (first
            | (go_at_call 36; refine (Ext.call (may_any _ _ _ (by assumption))).mono ?_; rintro e w' ⟨rfl, z3, rfl⟩)
            | (go_at_call 36; refine (ext_of (may_any _ _ _ (by assumption))).mono ?_; rintro e w' ⟨rfl, z2, rfl⟩)
            | (go_at_call 37; refine (Ext.call (within_any _ _ _ _ _ (by assumption) (by assumption))).mono ?_; rintro e w' ⟨rfl, z4, rfl⟩)
            | (go_at_call 38; refine (Ext.call (has_any _ _ _ _ (by assumption) (by assumption))).mono ?_; rintro e w' ⟨rfl, z6, rfl⟩))
          go_ret
          exact ⟨rfl, (by repeat (first | exact Below.refl _ _ | apply Below.drew | apply below_drewN | apply bel_alloc | apply Ext.lift | apply bel_set0 | apply bel_set))⟩
        | false =>
          cases h2 : withinP b q A' P with
          | true =>
            go_wp2_with (first
              | (go_at_call 36; refine (Ext.call (may_any _ _ _ (by assumption))).mono ?_; rintro e w' ⟨rfl, z3, rfl⟩)
              | (go_at_call 36; refine (ext_of (may_any _ _ _ (by assumption))).mono ?_; rintro e w' ⟨rfl, z2, rfl⟩)
              | (go_at_call 37; refine (Ext.call (within_any _ _ _ _ _ (by assumption) (by assumption))).mono ?_; rintro e w' ⟨rfl, z4, rfl⟩)
              | (go_at_call 38; refine (Ext.call (has_any _ _ _ _ (by assumption) (by assumption))).mono ?_; rintro e w' ⟨rfl, z6, rfl⟩))
            go_ret
            exact ⟨rfl, (by repeat (first | exact Below.refl _ _ | apply Below.drew | apply below_drewN | apply bel_alloc | apply Ext.lift | apply bel_set0 | apply bel_set))⟩
          | false =>
            cases h3 : hasP A' P X with
            | false =>
              go_wp2_with (first
                | (go_at_call 36; refine (Ext.call (may_any _ _ _ (by assumption))).mono ?_; rintro e w' ⟨rfl, z3, rfl⟩)
                | (go_at_call 36; refine (ext_of (may_any _ _ _ (by assumption))).mono ?_; rintro e w' ⟨rfl, z2, rfl⟩)
                | (go_at_call 37; refine (Ext.call (within_any _ _ _ _ _ (by assumption) (by assumption))).mono ?_; rintro e w' ⟨rfl, z4, rfl⟩)
                | (go_at_call 38; refine (Ext.call (has_any _ _ _ _ (by assumption) (by assumption))).mono ?_; rintro e w' ⟨rfl, z6, rfl⟩))
              go_ret
              exact ⟨rfl, (by repeat (first | exact Below.refl _ _ | apply Below.drew | apply below_drewN | apply bel_alloc | apply Ext.lift | apply bel_set0 | apply bel_set))⟩
            | true =>
              have h4 := HF.out h1 h2 h3
              go_wp2_with (first
                | (go_at_call 36; refine (Ext.call (may_any _ _ _ (by assumption))).mono ?_; rintro e w' ⟨rfl, z3, rfl⟩)
                | (go_at_call 36; refine (ext_of (may_any _ _ _ (by assumption))).mono ?_; rintro e w' ⟨rfl, z2, rfl⟩)
                | (go_at_call 37; refine (Ext.call (within_any _ _ _ _ _ (by assumption) (by assumption))).mono ?_; rintro e w' ⟨rfl, z4, rfl⟩)
                | (go_at_call 38; refine (Ext.call (has_any _ _ _ _ (by assumption) (by assumption))).mono ?_; rintro e w' ⟨rfl, z6, rfl⟩))
              go_ret
              exact ⟨rfl, (by repeat (first | exact Below.refl _ _ | apply Below.drew | apply below_drewN | apply bel_alloc | apply Ext.lift | apply bel_set0 | apply bel_set))⟩
    · have HM := Lib.hid (show mayP a p = false by simpa using hm)
      clear hm
      go_wp2_with (first
        | (go_at_call 27; refine (Ext.call (prefixText_err a p _ ha HM.out)).mono ?_; rintro e w' ⟨rfl, z0, rfl⟩)
        | (go_at_call 20; refine (num_any _ _).mono ?_; rintro e w' ⟨rfl, rfl⟩)
        | (go_at_call 36; refine (Ext.call (may_false a p _ ha HM.out)).mono ?_; rintro e w' ⟨rfl, z1, rfl⟩))
      go_ret
      exact ⟨rfl, (by repeat (first | exact Below.refl _ _ | apply Below.drew | apply below_drewN | apply bel_alloc | apply Ext.lift | apply bel_set0 | apply bel_set))⟩
end Go.Proofs.YteafakpipbhioaaDoor
