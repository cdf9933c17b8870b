/- Contracts of the text functions: AddrText, PrefixText of both. -/
import Derived.Test.YtfbangojgjcbcaaGreatDoorPlainT
import Derived.Test.YtfbangojgjcbcaaGreatDoorNum
import Derived.Test.YtfbangojgjcbcaaGreatDoorCmp
import Derived.Test.YtfbangojgjcbcaaGreatDoorShelf
import Derived.Lib.AppendIntMem
namespace Go.Proofs.YtfbangojgjcbcaaGreatDoor
open Go.RowKit Pl

theorem str_data (l : List UInt8) : (str l).data.toList = l := by simp [str]
theorem str_size (l : List UInt8) : (str l).size = l.length := by simp [str, ByteArray.size]

theorem itoa_any (n : Int) (w : World) (h0 : -1000000000 ≤ n) (h1 : n ≤ 1000000000) (E : Env w) :
    Calls Tryz.prog 58 #[.int .i64 n] w fun e w' => e = .returned (.string (str (Lib.itoa n))) ∧ Below w.heap.size w w' :=
  (Tryz.strconv_Itoa n (by omega) (by omega) w E.pow).mono fun _ _ ⟨he, k, os, hw⟩ => ⟨he, by rw [hw]; exact Lib.below_grow _ _ (Nat.le_refl _) _ _⟩

theorem and255 (x : Nat) (h : x < 4294967296) : bits .and .u32 (x : Int) 255 = ((x % 256 : Nat) : Int) := by
  have := u32_and_nat x 255 h (by decide)
  rw [show (255 : Nat) = 2 ^ 8 - 1 from rfl, and_low] at this
  simpa using this

theorem text_rel {w wr w1 : World} {a j : Nat} {v v' : Value} (hj : j < 4) (hb : Below w.heap.size w wr) (hown : wr.ownsRow w.heap.size 9 1 v j (((octs a).take j).map fun l => .string (str l)))
    (hown' : w1.ownsRow w.heap.size 9 1 v' (j + 1) ((((octs a).take j).map fun l => .string (str l)) ++ [.string (str (Lib.itoa ((oct a j : Nat) : Int)))])) (hg : wr.grownBy w1 v.ownBlock) :
    w1.ownsRow w.heap.size 9 1 v' (j + 1) (((octs a).take (j + 1)).map fun l => .string (str l)) ∧ Below w.heap.size w w1 := by
  constructor
  · rw [octs_take a j hj, List.map_append]
    rw [itoa_nat] at hown'
    exact hown'
  · exact hb.grown hg hb.size fun g hg => (hown.lt g hg).1

theorem join_own {base n : Nat} {v : Value} {ls : List (List UInt8)} {sep : List UInt8} (w : World) (h : w.ownsRow base 9 1 v n (ls.map fun l => .string (str l))) (h0 : 0 < n) (hn : n ≤ 100000) (hlen : (Lib.join ls sep).length ≤ 1000000) :
    Calls Tryz.prog 139 #[v, .string (str sep)] w fun e w' => e = .returned (.string (str (Lib.join ls sep))) ∧ Below w.heap.size w w' := by
  obtain ⟨g, cap, hv, _, hlt⟩ := h.form h0
  subst hv
  have hl : ls.length = n := by have := h.1; simpa using this
  have hcap : n ≤ cap := by
    rcases h.2 with ⟨h', _⟩ | ⟨g', cap', cur, h', _, _, hnc, _⟩
    · cases h'
    · injection h' with _ _ h'; omega
  have e1 : (ls.map str).map (·.data.toList) = ls := by rw [List.map_map]; exact (List.map_congr_left (fun l _ => str_data l)).trans (List.map_id _)
  have key := Tryz.strings_Join g 0 cap (ls.map str) (str sep) w (fun j x hx => by
      have hx' : (ls.map fun l => Value.string (str l))[j]? = some (.string x) := by
        simp only [List.getElem?_map, Option.map_eq_some_iff] at hx ⊢
        obtain ⟨l, h1, h2⟩ := hx
        exact ⟨l, h1, by rw [h2]⟩
      have := h.cells (g := g) rfl j _ hx'
      rw [show ((⟨g, 0, none⟩ : Addr).add j) = ⟨g, 0 + j, none⟩ from by unfold Addr.add; by_cases hj : j = 0 <;> simp [hj]] at this
      exact this) hlt (by simp; omega) (by simp; omega) (by rw [e1, str_data]; omega)
  rw [e1, str_data] at key
  rw [List.length_map, hl] at key
  exact key

set_option maxRecDepth 100000 in
set_option maxHeartbeats 400000 in
theorem addrText_any (a : Nat) (w : World) (ha : a < 4294967296) (E : Env w) :
    Calls Tryz.prog 124 #[.int .u32 a] w fun e w' => e = .returned (.string (str (addrText a))) ∧ Below w.heap.size w w' := by
  go_enter Tryz.func124, Tryz.ntmps124
  go_wp2
  go_loopw [3, 5] (fun v i wr => ∃ j : Nat, j ≤ 4 ∧ i = .int .i64 j ∧ wr.ownsRow w.heap.size 9 1 v j (((octs a).take j).map fun l => .string (str l)) ∧ Below w.heap.size w wr) (fun _ i _ => 4 - (intOf i).toNat)
  case atStart => exact ⟨0, Nat.zero_le _, rfl, by simpa using World.ownsRow_nil _ _ _ _, Below.refl _ _⟩
  case round =>
    obtain ⟨j, hj, rfl, hown, hb⟩ := hrel
    by_cases hlt : j < 4
    · have hbs := hb.size
      have hq : a / 2 ^ (8 * (3 - j)) < 4294967296 := Nat.lt_of_le_of_lt (Nat.div_le_self _ _) ha
      have hand : bits .and .u32 ((a : Int) / 2 ^ (8 * (3 - j))) 255 = (oct a j : Int) := by
        have := and255 _ hq
        simpa [oct] using this
      have ho : oct a j < 256 := oct_lt a j
      have E1 := E.here hb
      clear hq
      go_wp2_with (first | (go_at_call 58; refine (ext_of (itoa_any _ _ (by omega) (by omega) E1)).mono ?_; rintro e w' ⟨rfl, y, rfl⟩; have hown1 := own_below hown y.below; have hb1 := Ext.lift y hb; have hbs1 := hb1.size) | (at_builtin; refine wpList_push rfl _ _ 40 rfl w.heap.size 9 info_str rfl (by decide) Tryz.underlying40 _ _ _ rfl hown1 rfl rfl (by omega) hbs1 ?_; intro v' w1 hown' hg))
      have R := text_rel hlt hb1 hown1 hown' hg
      clear hown hown1 hown' hg hb hb1 hand
      go_wp2
      go_roundw
      case rel => exact ⟨j + 1, by omega, by go_num, R.1, R.2⟩
      case measure => simp [intOf]; omega
    · obtain rfl : j = 4 := by omega
      rw [List.take_of_length_le (by rw [octs_length]; exact Nat.le_refl _)] at hown
      have hl := addrText_len a
      have HJ := Lib.hid (join_own (sep := [46]) wr hown (by omega) (by omega) (by unfold addrText at hl; omega))
      go_wp2_with (go_at_call 139; refine HJ.out.mono ?_; rintro e w' ⟨rfl, hb1⟩)
      go_ret
      exact ⟨rfl, hb.trans (hb1.mono hb.size)⟩

theorem str_append (l m : List UInt8) : str l ++ str m = str (l ++ m) := by
  apply ByteArray.ext
  simp [str]
theorem itoa_size (n : Int) (h0 : 0 ≤ n) (h1 : n < 1000) : (str (Lib.itoa n)).size ≤ 3 := by
  obtain ⟨m, rfl⟩ := Int.eq_ofNat_of_zero_le h0
  rw [str_size, itoa_nat]; exact dec_len m (by omega)

set_option maxRecDepth 100000 in
set_option maxHeartbeats 400000 in
theorem prefixText_ok (a n : Nat) (w : World) (ha : a < 4294967296) (hm : mayP a n = true) (E : Env w) :
    Calls Tryz.prog 125 #[.agg #[.int .u32 a, .int .i64 n]] w fun e w' => e = .returned (.tuple #[.string (str (prefixText a n)), .int .i64 0]) ∧ Below w.heap.size w w' := by
  obtain ⟨h0, h1⟩ := mayP_len hm
  have HT : Hid (str (prefixText a n) = str (addrText a) ++ str [47] ++ str (Lib.itoa n)) := Lib.hid (by simp only [str_append, itoa_nat, prefixText]; congr 1; simp)
  have HM := Lib.hid hm; clear hm
  have hs1 : (str (addrText a)).size ≤ 15 := by rw [str_size]; exact addrText_len a
  have hs2 : (str (Lib.itoa n)).size ≤ 3 := itoa_size n h0 (by omega)
  have E1 := E.alloc (.cells #[.int .u32 a, .int .i64 n] 86)
  go_enter Tryz.func125, Tryz.ntmps125
  go_wp2_with (go_at_call 134; refine (ext_of (may_true a n _ ⟨by omega, by omega⟩ HM.out)).mono ?_; rintro e w' ⟨rfl, y, rfl⟩)
  have E2 := y.env E1
  have hz : w.heap.size < y.w.heap.size := by have := y.below.size; simp only [World.size_alloc] at this; omega
  refine wp_region_ext (by kernel_rfl) (by kernel_rfl) ?_
  repeat (go_big_quiet_step (first | (go_at_call 124; exact Ext.call (addrText_any a _ ha (Ext.env _ E2))) | (go_at_call 58; exact Ext.call (itoa_any n _ (by omega) (by omega) (Ext.env _ E2)))))
  refine wpQuiet_nil ?_
  rintro _ ⟨z, rfl⟩
  go_wp2
  go_ret2
  exact ⟨by rw [HT.out]; rfl, (by repeat (first | exact Below.refl _ _ | apply Below.drew | apply below_drewN | apply bel_alloc | apply Ext.lift | apply bel_set0 | apply bel_set))⟩

theorem prefixText_err (a n : Int) (w : World) (ha : IsAddr a) (hm : mayP a n = false) :
    Calls Tryz.prog 125 #[.agg #[.int .u32 a, .int .i64 n]] w fun e w' => e = .returned (.tuple #[.string ⟨#[]⟩, .int .i64 2]) ∧ Below w.heap.size w w' := by
  have HM := Lib.hid hm; clear hm
  go_enter Tryz.func125, Tryz.ntmps125
  go_wp2_with (go_at_call 134; refine (ext_of (may_false a n _ ha HM.out)).mono ?_; rintro e w' ⟨rfl, y, rfl⟩)
  go_ret2
  exact ⟨rfl, (by repeat (first | exact Below.refl _ _ | apply Below.drew | apply below_drewN | apply bel_alloc | apply Ext.lift | apply bel_set0 | apply bel_set))⟩

theorem putB4 (a : Nat) : putB a 4 = [UInt8.ofNat (a / 2 ^ 24), UInt8.ofNat (a / 2 ^ 16), UInt8.ofNat (a / 2 ^ 8), UInt8.ofNat a] := by
  simp [putB, List.range_succ]
theorem oct_val (a : Nat) : ((UInt8.ofNat (a / 2 ^ 24)).toNat = oct a 0 ∧ (UInt8.ofNat (a / 2 ^ 16)).toNat = oct a 1) ∧ (UInt8.ofNat (a / 2 ^ 8)).toNat = oct a 2 ∧ (UInt8.ofNat a).toNat = oct a 3 := by
  simp [oct]

set_option maxRecDepth 100000 in
set_option maxHeartbeats 1000000 in
theorem raddrText (a : Nat) (w : World) (ha : a < 4294967296) (E : Env w) :
    Calls Tryz.prog 59 #[.int .u32 a] w fun e w' => e = .returned (.string (str (addrText a))) ∧ Below w.heap.size w w' := by
  have HT : Hid (str (Lib.itoa (oct a 0 : Int)) ++ str [46] ++ str (Lib.itoa (oct a 1 : Int)) ++ str [46] ++ str (Lib.itoa (oct a 2 : Int)) ++ str [46] ++ str (Lib.itoa (oct a 3 : Int)) = str (addrText a)) := Lib.hid (by
    rw [addrText_eq]; simp only [str_append, itoa_nat]; congr 1; simp)
  have o0 := oct_lt a 0
  have o1 := oct_lt a 1
  have o2 := oct_lt a 2
  have o3 := oct_lt a 3
  have s0 := itoa_size (oct a 0) (by omega) (by omega)
  have s1 := itoa_size (oct a 1) (by omega) (by omega)
  have s2 := itoa_size (oct a 2) (by omega) (by omega)
  have s3 := itoa_size (oct a 3) (by omega) (by omega)
  have HP := Lib.hid (rput a 4 w (by omega) (by omega) (by omega))
  go_enter Tryz.func59, Tryz.ntmps59
  go_wp2_with (go_at_call 122; refine HP.out.mono ?_; rintro e w' ⟨v, rfl, hown, hb⟩)
  obtain ⟨g, cap, hv, hg1, hg2⟩ := hown.form (by omega)
  subst hv
  rw [putB4] at hown
  obtain ⟨⟨v0, v1⟩, v2, v3⟩ := oct_val a
  have c0 : w'.cell? ⟨g, 0, none⟩ = some (.int .u8 (oct a 0 : Int)) := by rw [hown.cellAt 0 (by omega), ← v0]; rfl
  have c1 : w'.cell? ⟨g, 1, none⟩ = some (.int .u8 (oct a 1 : Int)) := by rw [hown.cellAt 1 (by omega), ← v1]; rfl
  have c2 : w'.cell? ⟨g, 2, none⟩ = some (.int .u8 (oct a 2 : Int)) := by rw [hown.cellAt 2 (by omega), ← v2]; rfl
  have c3 : w'.cell? ⟨g, 3, none⟩ = some (.int .u8 (oct a 3 : Int)) := by rw [hown.cellAt 3 (by omega), ← v3]; rfl
  have E2 := E.here hb
  clear hown v0 v1 v2 v3
  refine wp_region_ext (by kernel_rfl) (by kernel_rfl) ?_
  repeat (go_big_quiet_step (first | (go_at_call 58; exact Ext.call (itoa_any _ _ (by omega) (by omega) (Ext.env _ E2)))))
  refine wpQuiet_nil ?_
  rintro _ ⟨z, rfl⟩
  go_wp2
  go_ret
  exact ⟨by rw [← HT.out]; rfl, hb.trans (z.below.mono hb.size)⟩

set_option maxRecDepth 100000 in
set_option maxHeartbeats 400000 in
theorem rprefixText (a n : Nat) (w : World) (ha : a < 4294967296) (hn : n ≤ 32) (E : Env w) :
    Calls Tryz.prog 60 #[.agg #[.int .u32 a, .int .i64 n]] w fun e w' => e = .returned (.string (str (prefixText a n))) ∧ Below w.heap.size w w' := by
  have HT : Hid (str (prefixText a n) = str (addrText a) ++ str [47] ++ str (Lib.itoa n)) := Lib.hid (by simp only [str_append, itoa_nat, prefixText]; congr 1; simp)
  have hs1 : (str (addrText a)).size ≤ 15 := by rw [str_size]; exact addrText_len a
  have hs2 : (str (Lib.itoa n)).size ≤ 3 := itoa_size n (by omega) (by omega)
  have E2 := E.alloc (.cells #[.int .u32 a, .int .i64 n] 86)
  go_enter Tryz.func60, Tryz.ntmps60
  go_wp2
  refine wp_region_ext (by kernel_rfl) (by kernel_rfl) ?_
  repeat (go_big_quiet_step (first | (go_at_call 59; exact Ext.call (raddrText a _ ha (Ext.env _ E2))) | (go_at_call 58; exact Ext.call (itoa_any n _ (by omega) (by omega) (Ext.env _ E2)))))
  refine wpQuiet_nil ?_
  rintro _ ⟨z, rfl⟩
  go_wp2
  go_ret
  exact ⟨by rw [HT.out]; rfl, (by repeat (first | exact Below.refl _ _ | apply Below.drew | apply below_drewN | apply bel_alloc | apply Ext.lift | apply bel_set0 | apply bel_set))⟩
end Go.Proofs.YtfbangojgjcbcaaGreatDoor
