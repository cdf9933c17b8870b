/- Contracts: strings.Split, strconv.ParseUint, strings.Cut as they are used here; wire.AddrOf. -/
import Derived.Test.YtfbangojgjcbcaaGreatDoorPlainA
import Derived.Test.YtfbangojgjcbcaaGreatDoorText
namespace Go.Proofs.YtfbangojgjcbcaaGreatDoor
open Go.RowKit Pl

theorem splitB_str (c : UInt8) (l : List UInt8) : Lib.splitB (str [c]) 0 (Lib.countB (str l) (str [c])) (str l) = (splitOn c l).map str := by
  have h := Lib.splitB_data (str [c]) 0 (Lib.countB (str l) (str [c])) (str l)
  rw [str_data, str_data] at h
  have e : Lib.countB (str l) (str [c]) = Lib.count l [c] := by show Lib.count _ _ = _; rw [str_data, str_data]
  rw [e, split_eq] at h
  rw [e, ← h, List.map_map]
  have : (str ∘ fun x : ByteArray => x.data.toList) = id := by funext x; simp [str]
  rw [this, List.map_id]
/-- What strings.Split leaves: a row of the parts. -/
def Parts (w : World) (v : Value) (ws : List (List UInt8)) : Prop :=
  ∃ b, v = .slice (some ⟨b, 0, none⟩) ws.length ws.length ∧ b < w.heap.size ∧ ∀ j x, ws[j]? = some x → w.cell? ⟨b, j, none⟩ = some (.string (str x))
theorem Parts.below {w w' : World} {v : Value} {ws : List (List UInt8)} (h : Parts w v ws) (hb : Below w.heap.size w w') : Parts w' v ws := by
  obtain ⟨b, rfl, hlt, hc⟩ := h
  exact ⟨b, rfl, Nat.lt_of_lt_of_le hlt hb.size, fun j x hx => (hb.cell hlt).trans (hc j x hx)⟩
theorem split_any (c : UInt8) (l : List UInt8) (w : World) (hl : l.length ≤ 1000000) (E : Env w) :
    Calls Tryz.prog 83 #[.string (str l), .string (str [c])] w fun e w' => ∃ v, e = .returned v ∧ Parts w' v (splitOn c l) ∧ Below w.heap.size w w' := by
  obtain ⟨m, hm⟩ := E.maxlen
  refine (Tryz.strings_Split (str l) (str [c]) m w (by rw [str_size]; omega) hm (by rw [str_size]; simp)).mono fun e w' ⟨he, hw⟩ => ?_
  rw [splitB_str] at hw
  have hlen : Lib.countB (str l) (str [c]) + 1 = (splitOn c l).length := by
    have h := Lib.splitB_all (str [c]) (by rw [str_size]; simp) 0 _ (str l) rfl
    rw [splitB_str, List.length_map] at h; omega
  rw [hlen] at he
  refine ⟨_, he, ⟨w.heap.size, rfl, by rw [hw]; simp, fun j x hx => ?_⟩, by rw [hw]; exact (Below.refl _ _).alloc (Nat.le_refl _) _⟩
  rw [hw, cell_of_row _ w.heap.size j _ _ (0, 0) (heap_alloc_new w _)]
  simp [hx]

theorem below_bytes (w : World) (t : TypeId) (s : ByteArray) : Below w.heap.size w (Lib.bytesWorld w t s) :=
  ⟨rfl, rfl, rfl, by rw [Lib.bytesWorld_size]; omega, fun k hk => Lib.bytesWorld_at_old w t s k hk⟩
theorem pu_ok (x : List UInt8) (u : Nat) (w : World) (hx : x.length ≤ 1000000) (h : Lib.parseUintB 8 x = .ok u) :
    Calls Tryz.prog 181 #[.string (str x), .int .i64 10, .int .i64 8] w fun e w' => e = .returned (.tuple #[.int .u64 u, .nilIface]) ∧ Below w.heap.size w w' :=
  (Tryz.strconv_ParseUint_10_at8_ok (str x) (by rw [str_size]; omega) u (by rw [str_data]; exact h) w).mono fun e w' ⟨he, hw⟩ => ⟨he, by
    rcases hw with rfl | rfl
    · exact Below.refl _ _
    · exact below_bytes _ _ _⟩
/-- An error that is not nil beside some number. -/
def PuErr (e : Ending) : Prop := ∃ (n : Nat) (t : TypeId) (p : Value), n ≤ 255 ∧ e = .returned (.tuple #[.int .u64 n, .iface t p])
theorem pu_err (x : List UInt8) (w : World) (hx : x.length ≤ 1000000) (h : ∀ u, Lib.parseUintB 8 x ≠ .ok u) (E : Env w) :
    Calls Tryz.prog 181 #[.string (str x), .int .i64 10, .int .i64 8] w fun e w' => PuErr e ∧ Below w.heap.size w w' := by
  obtain ⟨t1, p1, h1⟩ := E.syn
  obtain ⟨t2, p2, h2⟩ := E.rng
  cases hp : Lib.parseUintB 8 x
  · exact absurd hp (h _)
  · exact (Any.strconv_ParseUint_10_at8_syntax Tryz.laysPu14 (str x) (by rw [str_size]; omega) (by rw [str_data]; exact hp) _ w h1 (.inr ⟨_, _, rfl⟩)).mono fun e w' ⟨N, he, _, _, hb⟩ => ⟨⟨0, _, _, by decide, he⟩, hb⟩
  · exact (Any.strconv_ParseUint_10_at8_range Tryz.laysPu14 (str x) (by rw [str_size]; omega) (by rw [str_data]; exact hp) _ w h2 (.inr ⟨_, _, rfl⟩)).mono fun e w' ⟨N, he, _, _, hb⟩ => ⟨⟨255, _, _, by decide, he⟩, hb⟩
theorem str_toList (l : List UInt8) : (str l).toList = l := by rw [Lib.toList_data, str_data]
theorem str_eq_true {l m : List UInt8} (h : l = m) : ((str l).toList == (str m).toList) = true := by rw [h]; simp
theorem str_eq_false {l m : List UInt8} (h : ¬ l = m) : ((str l).toList == (str m).toList) = false := by rw [str_toList, str_toList]; simpa using h
/-- What AddrOf answers. -/
def addrRes (l : List UInt8) : Value := match addrOf l with
  | some a => .tuple #[.int .u32 a, .int .i64 0]
  | none => .tuple #[.int .u32 0, .int .i64 4]
theorem or_u32 (a u : Nat) (hu : u ≤ 255) : bits .or .u32 ((a : Int) * 256 % 4294967296) (u : Int) = (((a * 256 + u) % 4294967296 : Nat) : Int) := by
  have e : ((a : Int) * 256 % 4294967296) = ((a * 256 % 4294967296 : Nat) : Int) := by omega
  rw [e, u32_or_nat _ u (by omega) (by omega)]
  have e2 : a * 256 % 4294967296 = (a % 16777216) * 256 := by omega
  rw [e2, or_low _ u (by omega)]
  omega
set_option maxRecDepth 100000 in
set_option maxHeartbeats 400000 in
theorem addrOf_any (l : List UInt8) (w : World) (hl : l.length ≤ 1000000) (E : Env w) :
    Calls Tryz.prog 154 #[.string (str l)] w fun e w' => e = .returned (addrRes l) ∧ Below w.heap.size w w' := by
  obtain ⟨ws, hws⟩ : ∃ ws, ws = splitOn 46 l := ⟨_, rfl⟩
  have HS := split_any 46 l w hl E
  have hlen := splitOn_len 46 l
  have HR : addrRes l = match (match addrLoop ws 0 with | some a => if addrText a = l then some a else none | none => none) with
      | some a => .tuple #[.int .u32 a, .int .i64 0] | none => .tuple #[.int .u32 0, .int .i64 4] := by unfold addrRes addrOf; rw [hws]; rfl
  rw [← hws] at HS hlen
  have hn : ws.length ≤ 1000001 := by have := hlen.1; omega
  have HW := Lib.hid hlen.2
  have HS := Lib.hid HS
  have HR := Lib.hid HR
  clear hws hlen
  go_enter Tryz.func154, Tryz.ntmps154
  go_wp2_with (go_at_call 83; refine HS.out.mono ?_; rintro e w1 ⟨v, rfl, ⟨b, rfl, hlt, hc⟩, hb⟩; have HC := Lib.hid hc; clear hc)
  go_loopw [4, 12] (fun x i wr => ∃ j a : Nat, j ≤ ws.length ∧ i = .int .i64 j ∧ x = .int .u32 a ∧ a < 4294967296 ∧ Hid (addrLoop (ws.drop j) a = addrLoop ws 0) ∧ Below w1.heap.size w1 wr) (fun _ i _ => ws.length - (intOf i).toNat)
  case atStart => exact ⟨0, 0, Nat.zero_le _, rfl, rfl, by decide, Lib.hid (by simp), Below.refl _ _⟩
  case round =>
    obtain ⟨j, a, hj, rfl, rfl, ha, HI, hb2⟩ := hrel
    have hb3 : Below w.heap.size w wr := hb.trans (hb2.mono hb.size)
    have E2 := E.here hb3
    by_cases hlt2 : j < ws.length
    · obtain ⟨x, hx⟩ : ∃ x, ws[j]? = some x := ⟨_, List.getElem?_eq_getElem hlt2⟩
      have hcx : wr.cell? ⟨b, j, none⟩ = some (.string (str x)) := (hb2.cell hlt).trans (HC.out j x hx)
      have hxl : x.length ≤ 1000000 := Nat.le_trans (HW.out x (List.mem_of_getElem? hx)) hl
      have hat := addrLoop_at ws j a x hx
      by_cases hok : ∃ u, Lib.parseUintB 8 x = .ok u
      · obtain ⟨u, hp⟩ := hok
        rw [hp] at hat
        have hu := parse8_le x u hp
        have HP := Lib.hid (pu_ok x u wr hxl hp)
        have HT := Lib.hid (hat.symm.trans HI.out)
        have hor := or_u32 a u hu
        clear hat hx hp HI
        go_wp2_with (go_at_call 181; refine (ext_of HP.out).mono ?_; rintro e w' ⟨rfl, y, rfl⟩)
        go_roundw
        case rel => exact ⟨j + 1, (a * 256 + u) % 4294967296, by omega, by go_num, by go_num, Nat.mod_lt _ (by decide), HT, hb2.trans (y.below.mono hb2.size)⟩
        case measure => simp [intOf]; omega
      · have hne : ∀ u, Lib.parseUintB 8 x ≠ .ok u := fun u hu => hok ⟨u, hu⟩
        have hat := hat.trans (addr_stop x _ hne)
        have HZ : Hid (addrRes l = .tuple #[.int .u32 0, .int .i64 4]) := Lib.hid (by rw [HR.out, ← HI.out, hat])
        have HP := Lib.hid (pu_err x wr hxl hne E2)
        clear hat hx hne hok HI HR
        go_wp2_with (go_at_call 181; refine HP.out.mono ?_; rintro e w' ⟨⟨n, t, p, _, rfl⟩, hb4⟩)
        go_ret2
        exact ⟨by rw [HZ.out]; rfl, hb3.trans (hb4.mono hb3.size)⟩
    · obtain rfl : j = ws.length := by omega
      have hat : some a = addrLoop ws 0 := by rw [← HI.out, List.drop_length]; rfl
      by_cases ht : addrText a = l
      · have HZ : Hid (addrRes l = .tuple #[.int .u32 a, .int .i64 0]) := Lib.hid (by rw [HR.out, ← hat]; simp only [if_pos ht])
        have d := str_eq_true ht
        clear hat HI HR
        go_wp2_with (go_at_call 124; refine (addrText_any a _ ha E2).mono ?_; rintro e w' ⟨rfl, hb4⟩)
        go_ret2
        exact ⟨by rw [HZ.out]; rfl, hb3.trans (hb4.mono hb3.size)⟩
      · have HZ : Hid (addrRes l = .tuple #[.int .u32 0, .int .i64 4]) := Lib.hid (by rw [HR.out, ← hat]; simp only [if_neg ht])
        have d := str_eq_false ht
        clear hat HI HR
        go_wp2_with (go_at_call 124; refine (addrText_any a _ ha E2).mono ?_; rintro e w' ⟨rfl, hb4⟩)
        go_ret2
        exact ⟨by rw [HZ.out]; rfl, hb3.trans (hb4.mono hb3.size)⟩

theorem addrOf_ok (l : List UInt8) (a : Nat) (w : World) (hl : l.length ≤ 1000000) (E : Env w) (h : addrOf l = some a) :
    Calls Tryz.prog 154 #[.string (str l)] w fun e w' => e = .returned (.tuple #[.int .u32 a, .int .i64 0]) ∧ Below w.heap.size w w' := by
  have := addrOf_any l w hl E
  unfold addrRes at this; rw [h] at this; exact this
theorem addrOf_no (l : List UInt8) (w : World) (hl : l.length ≤ 1000000) (E : Env w) (h : addrOf l = none) :
    Calls Tryz.prog 154 #[.string (str l)] w fun e w' => e = .returned (.tuple #[.int .u32 0, .int .i64 4]) ∧ Below w.heap.size w w' := by
  have := addrOf_any l w hl E
  unfold addrRes at this; rw [h] at this; exact this
/-- ParseUint, whatever it answers. -/
def PuAny (e : Ending) : Prop := ∃ (n : Nat) (v : Value), n ≤ 255 ∧ (v = .nilIface ∨ ∃ t p, v = .iface t p) ∧ e = .returned (.tuple #[.int .u64 n, v])
theorem pu_any (x : List UInt8) (w : World) (hx : x.length ≤ 1000000) (E : Env w) :
    Calls Tryz.prog 181 #[.string (str x), .int .i64 10, .int .i64 8] w fun e w' => PuAny e ∧ Below w.heap.size w w' := by
  by_cases h : ∃ u, Lib.parseUintB 8 x = .ok u
  · obtain ⟨u, hu⟩ := h
    exact (pu_ok x u w hx hu).mono fun e w' ⟨he, hb⟩ => ⟨⟨u, _, parse8_le x u hu, .inl rfl, he⟩, hb⟩
  · exact (pu_err x w hx (fun u hu => h ⟨u, hu⟩) E).mono fun e w' ⟨⟨n, t, p, hn, he⟩, hb⟩ => ⟨⟨n, _, hn, .inr ⟨t, p, rfl⟩, he⟩, hb⟩
def TextAny (e : Ending) : Prop := ∃ (t : ByteArray) (n : Int), e = .returned (.tuple #[.string t, .int .i64 n])
theorem prefixText_some (a n : Nat) (w : World) (ha : a < 4294967296) (E : Env w) :
    Calls Tryz.prog 125 #[.agg #[.int .u32 a, .int .i64 n]] w fun e w' => TextAny e ∧ Below w.heap.size w w' := by
  by_cases h : mayP a n = true
  · exact (prefixText_ok a n w ha h E).mono fun e w' ⟨he, hb⟩ => ⟨⟨_, _, he⟩, hb⟩
  · exact (prefixText_err a n w ⟨by omega, by omega⟩ (by simpa using h)).mono fun e w' ⟨he, hb⟩ => ⟨⟨_, _, he⟩, hb⟩
theorem cut_any (c : UInt8) (l : List UInt8) (w : World) (hl : l.length ≤ 1000000) (E : Env w) :
    Calls Tryz.prog 52 #[.string (str l), .string (str [c])] w fun e w' => (∃ f, e = .returned (.tuple #[.string (str (cutA c l)), .string (str (cutB c l)), .bool f])) ∧ Below w.heap.size w w' := by
  obtain ⟨m, hm⟩ := E.maxlen
  refine (Tryz.strings_Cut (str l) (str [c]) m w (by rw [str_size]; omega) hm).mono fun e w' ⟨he, n, hw⟩ => ⟨⟨(Lib.cut l [c]).2.2, ?_⟩, by rw [hw]; exact below_drewN (Below.refl _ _) n⟩
  rw [str_data, str_data] at he
  exact he

/-- What PrefixOf answers. -/
def prefixRes (l : List UInt8) : Value := match prefixOf l with
  | some (a, n) => .tuple #[.agg #[.int .u32 a, .int .i64 n], .int .i64 0]
  | none => .tuple #[.agg #[.int .u32 0, .int .i64 0], .int .i64 4]

set_option maxRecDepth 100000 in
set_option maxHeartbeats 1000000 in
theorem prefixOf_noaddr (l : List UInt8) (w : World) (hl : l.length ≤ 1000000) (E : Env w) (hr : addrOf (cutA 47 l) = none) :
    Calls Tryz.prog 155 #[.string (str l)] w fun e w' => e = .returned (.tuple #[.agg #[.int .u32 0, .int .i64 0], .int .i64 4]) ∧ Below w.heap.size w w' := by
  obtain ⟨hc1, hc2⟩ := cut_len 47 l
  have E1 := E.alloc (.cells #[.int .u32 0, .int .i64 0] 86)
  have HR := Lib.hid hr
  clear hr
  go_enter Tryz.func155, Tryz.ntmps155
  go_wp2_with (first
    | (go_at_call 52; refine (cut_any 47 l _ hl E1).mono ?_; rintro e w1 ⟨⟨f, rfl⟩, hb1⟩; obtain ⟨y1, rfl⟩ : ∃ y : Ext _, w1 = y.w := ⟨⟨_, hb1⟩, rfl⟩; have hz1 : w.heap.size < y1.w.heap.size := (by have := hb1.size; simp only [World.size_alloc] at this; omega); have E2 := y1.env E1; clear hb1)
    | (go_at_call 154; refine (ext_of (addrOf_no (cutA 47 l) _ (by omega) E2 HR.out)).mono ?_; rintro e w2 ⟨rfl, y2, rfl⟩; have hz2 : w.heap.size < y2.w.heap.size := Nat.lt_of_lt_of_le hz1 y2.below.size; have E3 := y2.env E2)
    | (go_at_call 181; refine (pu_any (cutB 47 l) _ (by omega) E3).mono ?_; rintro e w3 ⟨⟨n, v, hn, hv, rfl⟩, hb3⟩; obtain ⟨y3, rfl⟩ : ∃ y : Ext _, w3 = y.w := ⟨⟨_, hb3⟩, rfl⟩; have hz3 : w.heap.size < y3.w.heap.size := Nat.lt_of_lt_of_le hz2 y3.below.size; have E4 := (y3.env E3).alloc (.cells #[.int .u32 0, .int .i64 n] 86); clear hb3)
    | (go_at_call 125; refine (prefixText_some 0 n _ (by decide) E4).mono ?_; rintro e w4 ⟨⟨t, k, rfl⟩, hb4⟩; obtain ⟨y4, rfl⟩ : ∃ y : Ext _, w4 = y.w := ⟨⟨_, hb4⟩, rfl⟩; have hz4 : w.heap.size < y3.w.heap.size + 1 := (by omega); clear hb4))
  exact bodyPost_ret (v := .tuple #[.agg #[.int .u32 0, .int .i64 0], .int .i64 4]) (by simp [results, Tryz.results155, go_sem, hz1, hz2, hz3, hz4]) rfl ⟨rfl, (by repeat (first | exact Below.refl _ _ | apply Below.drew | apply below_drewN | apply bel_alloc | apply Ext.lift | apply bel_set0 | apply bel_set))⟩
set_option maxRecDepth 100000 in
set_option maxHeartbeats 1000000 in
theorem prefixOf_nonum (l : List UInt8) (a : Nat) (w : World) (hl : l.length ≤ 1000000) (E : Env w) (hr : addrOf (cutA 47 l) = some a) (hp : ∀ u, Lib.parseUintB 8 (cutB 47 l) ≠ .ok u) :
    Calls Tryz.prog 155 #[.string (str l)] w fun e w' => e = .returned (.tuple #[.agg #[.int .u32 0, .int .i64 0], .int .i64 4]) ∧ Below w.heap.size w w' := by
  obtain ⟨hc1, hc2⟩ := cut_len 47 l
  have E1 := E.alloc (.cells #[.int .u32 0, .int .i64 0] 86)
  have ha : a < 4294967296 := (addrOf_some _ a hr).2
  have HR := Lib.hid hr
  clear hr
  have HP := Lib.hid hp
  clear hp
  go_enter Tryz.func155, Tryz.ntmps155
  go_wp2_with (first
    | (go_at_call 52; refine (cut_any 47 l _ hl E1).mono ?_; rintro e w1 ⟨⟨f, rfl⟩, hb1⟩; obtain ⟨y1, rfl⟩ : ∃ y : Ext _, w1 = y.w := ⟨⟨_, hb1⟩, rfl⟩; have hz1 : w.heap.size < y1.w.heap.size := (by have := hb1.size; simp only [World.size_alloc] at this; omega); have E2 := y1.env E1; clear hb1)
    | (go_at_call 154; refine (ext_of (addrOf_ok (cutA 47 l) a _ (by omega) E2 HR.out)).mono ?_; rintro e w2 ⟨rfl, y2, rfl⟩; have hz2 : w.heap.size < y2.w.heap.size := Nat.lt_of_lt_of_le hz1 y2.below.size; have E3 := y2.env E2)
    | (go_at_call 181; refine (pu_err (cutB 47 l) _ (by omega) HP.out E3).mono ?_; rintro e w3 ⟨⟨n, t0, p0, hn, rfl⟩, hb3⟩; obtain ⟨y3, rfl⟩ : ∃ y : Ext _, w3 = y.w := ⟨⟨_, hb3⟩, rfl⟩; have hz3 : w.heap.size < y3.w.heap.size := Nat.lt_of_lt_of_le hz2 y3.below.size; have E4 := (y3.env E3).alloc (.cells #[.int .u32 a, .int .i64 n] 86); clear hb3)
    | (go_at_call 125; refine (prefixText_some a n _ ha E4).mono ?_; rintro e w4 ⟨⟨t, k, rfl⟩, hb4⟩; obtain ⟨y4, rfl⟩ : ∃ y : Ext _, w4 = y.w := ⟨⟨_, hb4⟩, rfl⟩; have hz4 : w.heap.size < y3.w.heap.size + 1 := (by omega); clear hb4))
  exact bodyPost_ret (v := .tuple #[.agg #[.int .u32 0, .int .i64 0], .int .i64 4]) (by simp [results, Tryz.results155, go_sem, hz1, hz2, hz3, hz4]) rfl ⟨rfl, (by repeat (first | exact Below.refl _ _ | apply Below.drew | apply below_drewN | apply bel_alloc | apply Ext.lift | apply bel_set0 | apply bel_set))⟩
set_option maxRecDepth 100000 in
set_option maxHeartbeats 1000000 in
theorem prefixOf_nomay (l : List UInt8) (a n : Nat) (w : World) (hl : l.length ≤ 1000000) (E : Env w) (hr : addrOf (cutA 47 l) = some a) (hp : Lib.parseUintB 8 (cutB 47 l) = .ok n) (hm : mayP a n = false) :
    Calls Tryz.prog 155 #[.string (str l)] w fun e w' => e = .returned (.tuple #[.agg #[.int .u32 0, .int .i64 0], .int .i64 4]) ∧ Below w.heap.size w w' := by
  obtain ⟨hc1, hc2⟩ := cut_len 47 l
  have E1 := E.alloc (.cells #[.int .u32 0, .int .i64 0] 86)
  have ha : a < 4294967296 := (addrOf_some _ a hr).2
  have HR := Lib.hid hr
  clear hr
  have hn := parse8_le _ n hp
  have HP := Lib.hid hp
  clear hp
  have HM := Lib.hid hm
  clear hm
  go_enter Tryz.func155, Tryz.ntmps155
  go_wp2_with (first
    | (go_at_call 52; refine (cut_any 47 l _ hl E1).mono ?_; rintro e w1 ⟨⟨f, rfl⟩, hb1⟩; obtain ⟨y1, rfl⟩ : ∃ y : Ext _, w1 = y.w := ⟨⟨_, hb1⟩, rfl⟩; have hz1 : w.heap.size < y1.w.heap.size := (by have := hb1.size; simp only [World.size_alloc] at this; omega); have E2 := y1.env E1; clear hb1)
    | (go_at_call 154; refine (ext_of (addrOf_ok (cutA 47 l) a _ (by omega) E2 HR.out)).mono ?_; rintro e w2 ⟨rfl, y2, rfl⟩; have hz2 : w.heap.size < y2.w.heap.size := Nat.lt_of_lt_of_le hz1 y2.below.size; have E3 := y2.env E2)
    | (go_at_call 181; refine (pu_ok (cutB 47 l) n _ (by omega) HP.out).mono ?_; rintro e w3 ⟨rfl, hb3⟩; obtain ⟨y3, rfl⟩ : ∃ y : Ext _, w3 = y.w := ⟨⟨_, hb3⟩, rfl⟩; have hz3 : w.heap.size < y3.w.heap.size := Nat.lt_of_lt_of_le hz2 y3.below.size; have E4 := (y3.env E3).alloc (.cells #[.int .u32 a, .int .i64 n] 86); clear hb3)
    | (go_at_call 125; refine (prefixText_err a n _ ⟨by omega, by omega⟩ HM.out).mono ?_; rintro e w4 ⟨rfl, hb4⟩; obtain ⟨y4, rfl⟩ : ∃ y : Ext _, w4 = y.w := ⟨⟨_, hb4⟩, rfl⟩; have hz4 : w.heap.size < y3.w.heap.size + 1 := (by omega); clear hb4))
  exact bodyPost_ret (v := .tuple #[.agg #[.int .u32 0, .int .i64 0], .int .i64 4]) (by simp [results, Tryz.results155, go_sem, hz1, hz2, hz3, hz4]) rfl ⟨rfl, (by repeat (first | exact Below.refl _ _ | apply Below.drew | apply below_drewN | apply bel_alloc | apply Ext.lift | apply bel_set0 | apply bel_set))⟩
set_option maxRecDepth 100000 in
set_option maxHeartbeats 1000000 in
theorem prefixOf_notext (l : List UInt8) (a n : Nat) (w : World) (hl : l.length ≤ 1000000) (E : Env w) (hr : addrOf (cutA 47 l) = some a) (hp : Lib.parseUintB 8 (cutB 47 l) = .ok n) (hm : mayP a n = true) (ht : ¬ prefixText a n = l) :
    Calls Tryz.prog 155 #[.string (str l)] w fun e w' => e = .returned (.tuple #[.agg #[.int .u32 0, .int .i64 0], .int .i64 4]) ∧ Below w.heap.size w w' := by
  obtain ⟨hc1, hc2⟩ := cut_len 47 l
  have E1 := E.alloc (.cells #[.int .u32 0, .int .i64 0] 86)
  have ha : a < 4294967296 := (addrOf_some _ a hr).2
  have HR := Lib.hid hr
  clear hr
  have hn := parse8_le _ n hp
  have HP := Lib.hid hp
  clear hp
  have HM := Lib.hid hm
  clear hm
  have d := str_eq_false ht
  clear ht
  go_enter Tryz.func155, Tryz.ntmps155
  go_wp2_with (first
    | (go_at_call 52; refine (cut_any 47 l _ hl E1).mono ?_; rintro e w1 ⟨⟨f, rfl⟩, hb1⟩; obtain ⟨y1, rfl⟩ : ∃ y : Ext _, w1 = y.w := ⟨⟨_, hb1⟩, rfl⟩; have hz1 : w.heap.size < y1.w.heap.size := (by have := hb1.size; simp only [World.size_alloc] at this; omega); have E2 := y1.env E1; clear hb1)
    | (go_at_call 154; refine (ext_of (addrOf_ok (cutA 47 l) a _ (by omega) E2 HR.out)).mono ?_; rintro e w2 ⟨rfl, y2, rfl⟩; have hz2 : w.heap.size < y2.w.heap.size := Nat.lt_of_lt_of_le hz1 y2.below.size; have E3 := y2.env E2)
    | (go_at_call 181; refine (pu_ok (cutB 47 l) n _ (by omega) HP.out).mono ?_; rintro e w3 ⟨rfl, hb3⟩; obtain ⟨y3, rfl⟩ : ∃ y : Ext _, w3 = y.w := ⟨⟨_, hb3⟩, rfl⟩; have hz3 : w.heap.size < y3.w.heap.size := Nat.lt_of_lt_of_le hz2 y3.below.size; have E4 := (y3.env E3).alloc (.cells #[.int .u32 a, .int .i64 n] 86); clear hb3)
    | (go_at_call 125; refine (prefixText_ok a n _ ha HM.out E4).mono ?_; rintro e w4 ⟨rfl, hb4⟩; obtain ⟨y4, rfl⟩ : ∃ y : Ext _, w4 = y.w := ⟨⟨_, hb4⟩, rfl⟩; have hz4 : w.heap.size < y3.w.heap.size + 1 := (by omega); clear hb4))
  exact bodyPost_ret (v := .tuple #[.agg #[.int .u32 0, .int .i64 0], .int .i64 4]) (by simp [results, Tryz.results155, go_sem, hz1, hz2, hz3, hz4]) rfl ⟨rfl, (by repeat (first | exact Below.refl _ _ | apply Below.drew | apply below_drewN | apply bel_alloc | apply Ext.lift | apply bel_set0 | apply bel_set))⟩
set_option maxRecDepth 100000 in
set_option maxHeartbeats 1000000 in
theorem prefixOf_ok (l : List UInt8) (a n : Nat) (w : World) (hl : l.length ≤ 1000000) (E : Env w) (hr : addrOf (cutA 47 l) = some a) (hp : Lib.parseUintB 8 (cutB 47 l) = .ok n) (hm : mayP a n = true) (ht : prefixText a n = l) :
    Calls Tryz.prog 155 #[.string (str l)] w fun e w' => e = .returned (.tuple #[.agg #[.int .u32 a, .int .i64 n], .int .i64 0]) ∧ Below w.heap.size w w' := by
  obtain ⟨hc1, hc2⟩ := cut_len 47 l
  have E1 := E.alloc (.cells #[.int .u32 0, .int .i64 0] 86)
  have ha : a < 4294967296 := (addrOf_some _ a hr).2
  have HR := Lib.hid hr
  clear hr
  have hn := parse8_le _ n hp
  have HP := Lib.hid hp
  clear hp
  have HM := Lib.hid hm
  clear hm
  have d := str_eq_true ht
  clear ht
  go_enter Tryz.func155, Tryz.ntmps155
  go_wp2_with (first
    | (go_at_call 52; refine (cut_any 47 l _ hl E1).mono ?_; rintro e w1 ⟨⟨f, rfl⟩, hb1⟩; obtain ⟨y1, rfl⟩ : ∃ y : Ext _, w1 = y.w := ⟨⟨_, hb1⟩, rfl⟩; have hz1 : w.heap.size < y1.w.heap.size := (by have := hb1.size; simp only [World.size_alloc] at this; omega); have E2 := y1.env E1; clear hb1)
    | (go_at_call 154; refine (ext_of (addrOf_ok (cutA 47 l) a _ (by omega) E2 HR.out)).mono ?_; rintro e w2 ⟨rfl, y2, rfl⟩; have hz2 : w.heap.size < y2.w.heap.size := Nat.lt_of_lt_of_le hz1 y2.below.size; have E3 := y2.env E2)
    | (go_at_call 181; refine (pu_ok (cutB 47 l) n _ (by omega) HP.out).mono ?_; rintro e w3 ⟨rfl, hb3⟩; obtain ⟨y3, rfl⟩ : ∃ y : Ext _, w3 = y.w := ⟨⟨_, hb3⟩, rfl⟩; have hz3 : w.heap.size < y3.w.heap.size := Nat.lt_of_lt_of_le hz2 y3.below.size; have E4 := (y3.env E3).alloc (.cells #[.int .u32 a, .int .i64 n] 86); clear hb3)
    | (go_at_call 125; refine (prefixText_ok a n _ ha HM.out E4).mono ?_; rintro e w4 ⟨rfl, hb4⟩; obtain ⟨y4, rfl⟩ : ∃ y : Ext _, w4 = y.w := ⟨⟨_, hb4⟩, rfl⟩; have hz4 : w.heap.size < y3.w.heap.size + 1 := (by omega); clear hb4))
  exact bodyPost_ret (v := .tuple #[.agg #[.int .u32 a, .int .i64 n], .int .i64 0]) (by simp [results, Tryz.results155, go_sem, hz1, hz2, hz3, hz4]) rfl ⟨rfl, (by repeat (first | exact Below.refl _ _ | apply Below.drew | apply below_drewN | apply bel_alloc | apply Ext.lift | apply bel_set0 | apply bel_set))⟩
theorem prefixOf_any (l : List UInt8) (w : World) (hl : l.length ≤ 1000000) (E : Env w) :
    Calls Tryz.prog 155 #[.string (str l)] w fun e w' => e = .returned (prefixRes l) ∧ Below w.heap.size w w' := by
  unfold prefixRes prefixOf
  cases hr : addrOf (cutA 47 l) with
  | none => exact prefixOf_noaddr l w hl E hr
  | some a =>
    by_cases hok : ∃ n, Lib.parseUintB 8 (cutB 47 l) = .ok n
    · obtain ⟨n, hp⟩ := hok
      rw [hp]
      by_cases hm : mayP a n = true
      · by_cases ht : prefixText a n = l
        · simp only [hm, ht, and_self, if_true]; exact prefixOf_ok l a n w hl E hr hp hm ht
        · simp only [ht, and_false, if_false]; exact prefixOf_notext l a n w hl E hr hp hm ht
      · simp only [hm]; exact prefixOf_nomay l a n w hl E hr hp (by simpa using hm)
    · have hne : ∀ u, Lib.parseUintB 8 (cutB 47 l) ≠ .ok u := fun u hu => hok ⟨u, hu⟩
      have e := prefix_stop (some a) _ (fun a n => if mayP a n = true ∧ prefixText a n = l then some (a, n) else none) hne
      rw [e]
      exact prefixOf_nonum l a w hl E hr hne
end Go.Proofs.YtfbangojgjcbcaaGreatDoor
