/- Contracts of ctl and ref05: Text, Untext. Printed by ctltext.py. -/
import Derived.Test.YteafakpipbhioaaDoorCtlR
namespace Go.Proofs.YteafakpipbhioaaDoor
open Go.RowKit Pl
open Go.Lib (decDigits)

theorem atoi_ok (x : List UInt8) (v : Int) (w : World) (hx : x.length ≤ 1000000) (h : Lib.atoiAll x = .ok v) :
    Calls Tryd.prog 87 #[.string (str x)] w fun e w' => e = .returned (.tuple #[.int .i64 v, .nilIface]) ∧ Below w.heap.size w w' :=
  (Tryd.strconv_Atoi_ok (str x) (by rw [str_size]; omega) v (by rw [str_data]; exact h) w).mono fun e w' ⟨he, hw⟩ => ⟨he, by
    rcases hw with rfl | ⟨t, rfl⟩
    · exact Below.refl _ _
    · exact below_bytes _ _ _⟩
def AtErr (e : Ending) : Prop := ∃ (n : Int) (t : TypeId) (p : Value), e = .returned (.tuple #[.int .i64 n, .iface t p])
theorem atoi_err (x : List UInt8) (w : World) (hx : x.length ≤ 1000000) (h : ∀ u, Lib.atoiAll x ≠ .ok u) (E : Env w) :
    Calls Tryd.prog 87 #[.string (str x)] w fun e w' => AtErr e ∧ Below w.heap.size w w' := by
  obtain ⟨t1, p1, h1⟩ := E.syn
  obtain ⟨t2, p2, h2⟩ := E.rng
  cases hp : Lib.atoiAll x
  · exact absurd hp (h _)
  · exact (Any.strconv_Atoi_syntax Tryd.laysC172 (str x) (by rw [str_size]; omega) (by rw [str_data]; exact hp) _ w h1 (.inr ⟨_, _, rfl⟩)).mono fun e w' ⟨N, he, _, _, hb⟩ => ⟨⟨_, _, _, he⟩, hb⟩
  · exact (Any.strconv_Atoi_range Tryd.laysC172 (str x) (by rw [str_size]; omega) (by rw [str_data]; exact hp) _ w h2 (.inr ⟨_, _, rfl⟩)).mono fun e w' ⟨N, he, _, _, hb⟩ => ⟨⟨_, _, _, he⟩, hb⟩
def AtAny (e : Ending) : Prop := ∃ (n : Int) (v : Value), (v = .nilIface ∨ ∃ t p, v = .iface t p) ∧ e = .returned (.tuple #[.int .i64 n, v])
theorem atoi_any (x : List UInt8) (w : World) (hx : x.length ≤ 1000000) (E : Env w) :
    Calls Tryd.prog 87 #[.string (str x)] w fun e w' => AtAny e ∧ Below w.heap.size w w' := by
  by_cases h : ∃ u, Lib.atoiAll x = .ok u
  · obtain ⟨u, hu⟩ := h
    exact (atoi_ok x u w hx hu).mono fun e w' ⟨he, hb⟩ => ⟨⟨u, _, .inl rfl, he⟩, hb⟩
  · exact (atoi_err x w hx (fun u hu => h ⟨u, hu⟩) E).mono fun e w' ⟨⟨n, t, p, he⟩, hb⟩ => ⟨⟨n, _, .inr ⟨t, p, rfl⟩, he⟩, hb⟩

theorem textU_str (a n d : Nat) : str (textU a n d) = str (prefixText a n) ++ str [32] ++ str (Lib.itoa d) := by
  simp only [str_append, itoa_nat, textU]; congr 1; simp
theorem ptext_size (a n : Nat) (hn : n ≤ 32) : (str (prefixText a n)).size ≤ 19 := by
  have h1 := addrText_len a
  have h2 := dec_len n (by omega)
  rw [str_size]; simp only [prefixText, List.length_append, List.length_cons]; omega

set_option maxRecDepth 100000 in
set_option maxHeartbeats 1000000 in
theorem ctext_ok (a n d : Nat) (w : World) (ha : a < 4294967296) (hm : mayU a n d = true) (E : Env w) :
    Calls Tryd.prog 57 #[upd a n d] w fun e w' => e = .returned (.tuple #[.string (str (textU a n d)), .int .i64 0]) ∧ Below w.heap.size w w' := by
  obtain ⟨hn, hd⟩ := mayU_le hm
  have hia : IsAddr (a : Int) := ⟨by omega, by omega⟩
  have HM := Lib.hid (mayU_iff.1 hm).1
  have HT := Lib.hid (textU_str a n d)
  have hs1 := ptext_size a n hn
  have hs2 : (str (Lib.itoa d)).size ≤ 3 := itoa_size d (by omega) (by omega)
  have E1 := E.alloc (.cells #[.int .u32 a, .int .i64 n, .int .i64 d] 77)
  go_enter Tryd.func57, Tryd.ntmps57
  go_wp2_with (first
    | (go_at_call 53; refine (ext_of (cmay_any _ _ _ _ (by assumption))).mono ?_; rintro e w' ⟨rfl, y, rfl⟩; have E2 := y.env E1)
    | (go_at_call 27; refine (Ext.call (prefixText_ok a n _ ha HM.out E2)).mono ?_; rintro e w' ⟨rfl, y2, rfl⟩)
    | (go_at_call 73; refine (Ext.call (itoa_any d _ (by omega) (by omega) (Ext.env _ E1))).mono ?_; rintro e w' ⟨rfl, y3, rfl⟩))
  go_ret2
  exact ⟨by rw [HT.out]; rfl, (by repeat (first | exact Below.refl _ _ | apply Below.drew | apply below_drewN | apply bel_alloc | apply Ext.lift | apply bel_set0 | apply bel_set))⟩

set_option maxRecDepth 100000 in
theorem ctext_no (a n d : Int) (w : World) (ha : IsAddr a) (hm : mayU a n d = false) :
    Calls Tryd.prog 57 #[upd a n d] w fun e w' => e = .returned (.tuple #[.string ⟨#[]⟩, .int .i64 2]) ∧ Below w.heap.size w w' := by
  go_enter Tryd.func57, Tryd.ntmps57
  go_wp2_with (go_at_call 53; refine (ext_of (cmay_any _ _ _ _ (by assumption))).mono ?_; rintro e w' ⟨rfl, y, rfl⟩)
  go_ret2
  exact ⟨rfl, (by repeat (first | exact Below.refl _ _ | apply Below.drew | apply below_drewN | apply bel_alloc | apply Ext.lift | apply bel_set0 | apply bel_set))⟩
theorem ctext_some (a n : Nat) (d : Int) (w : World) (ha : a < 4294967296) (E : Env w) :
    Calls Tryd.prog 57 #[upd a n d] w fun e w' => TextAny e ∧ Below w.heap.size w w' := by
  by_cases h : mayU a n d = true
  · obtain ⟨D, rfl⟩ := Int.eq_ofNat_of_zero_le (mayU_iff.1 h).2.1
    exact (ctext_ok a n D w ha h E).mono fun e w' ⟨he, hb⟩ => ⟨⟨_, _, he⟩, hb⟩
  · exact (ctext_no a n d w ⟨by omega, by omega⟩ (by simpa using h)).mono fun e w' ⟨he, hb⟩ => ⟨⟨_, _, he⟩, hb⟩

set_option maxRecDepth 100000 in
set_option maxHeartbeats 1000000 in
theorem rtextU (a n d : Nat) (w : World) (ha : a < 4294967296) (hn : n ≤ 32) (hd : d ≤ 255) (E : Env w) :
    Calls Tryd.prog 62 #[upd a n d] w fun e w' => e = .returned (.string (str (textU a n d))) ∧ Below w.heap.size w w' := by
  have HT := Lib.hid (textU_str a n d)
  have hs1 := ptext_size a n hn
  have hs2 : (str (Lib.itoa d)).size ≤ 3 := itoa_size d (by omega) (by omega)
  have E2 := E.alloc (.cells #[.int .u32 a, .int .i64 n, .int .i64 d] 77)
  go_enter Tryd.func62, Tryd.ntmps62
  go_wp2
  refine wp_region_ext (by kernel_rfl) (by kernel_rfl) ?_
  repeat (go_big_quiet_step (first | (go_at_call 31; exact Ext.call (rprefixText a n _ ha hn (Ext.env _ E2))) | (go_at_call 73; exact Ext.call (itoa_any d _ (by omega) (by omega) (Ext.env _ E2)))))
  refine wpQuiet_nil ?_
  rintro _ ⟨z, rfl⟩
  go_wp2
  go_ret
  exact ⟨by rw [HT.out]; rfl, (by repeat (first | exact Below.refl _ _ | apply Below.drew | apply below_drewN | apply bel_alloc | apply Ext.lift | apply bel_set0 | apply bel_set))⟩

theorem prefixOf_at (l : List UInt8) (r : Option (Nat × Nat)) (w : World) (hl : l.length ≤ 1000000) (E : Env w) (h : prefixOf l = r) :
    Calls Tryd.prog 25 #[.string (str l)] w fun e w' => e = .returned (match (generalizing := false) r with
      | some (a, n) => .tuple #[.agg #[.int .u32 a, .int .i64 n], .int .i64 0]
      | none => .tuple #[.agg #[.int .u32 0, .int .i64 0], .int .i64 4]) ∧ Below w.heap.size w w' := by
  have := prefixOf_any l w hl E
  unfold prefixRes at this; rw [h] at this; exact this

set_option maxRecDepth 100000 in
set_option maxHeartbeats 1000000 in
theorem cuntext_nopre (l : List UInt8) (w : World) (hl : l.length ≤ 1000000) (E : Env w) (hr : prefixOf (cutA 32 l) = none) :
    Calls Tryd.prog 58 #[.string (str l)] w fun e w' => e = .returned (.tuple #[upd 0 0 0, .int .i64 4]) ∧ Below w.heap.size w w' := by
  obtain ⟨hc1, hc2⟩ := cut_len 32 l
  have E1 := E.alloc (.cells #[.int .u32 0, .int .i64 0, .int .i64 0] 77)
  have HR := Lib.hid hr
  clear hr
  go_enter Tryd.func58, Tryd.ntmps58
  go_wp2_with (first
    | (go_at_call 72; refine (cut_any 32 l _ hl E1).mono ?_; rintro e w1 ⟨⟨f, rfl⟩, hb1⟩; obtain ⟨y1, rfl⟩ : ∃ y : Ext _, w1 = y.w := ⟨⟨_, hb1⟩, rfl⟩; have hz1 : w.heap.size < y1.w.heap.size := (by have := hb1.size; simp only [World.size_alloc] at this; omega); have E2 := y1.env E1; clear hb1)
    | (go_at_call 25; refine (ext_of (prefixOf_at (cutA 32 l) (none) _ (by omega) E2 HR.out)).mono ?_; rintro e w2 ⟨rfl, y2, rfl⟩; have hz2 : w.heap.size < y2.w.heap.size := Nat.lt_of_lt_of_le hz1 y2.below.size; have hz2a : w.heap.size < y2.w.heap.size + 1 := (by omega); have E3 := (y2.env E2).alloc (.cells #[.int .u32 0, .int .i64 0] 38))
    | (go_at_call 87; refine (atoi_any (cutB 32 l) _ (by omega) E3).mono ?_; rintro e w3 ⟨⟨dd, v, hv, rfl⟩, hb3⟩; obtain ⟨y3, rfl⟩ : ∃ y : Ext _, w3 = y.w := ⟨⟨_, hb3⟩, rfl⟩; have hz3 : w.heap.size < y3.w.heap.size := Nat.lt_of_lt_of_le hz2a (by have := y3.below.size; simp only [World.size_alloc] at this; omega); have hz3a : y2.w.heap.size < y3.w.heap.size := (by have := y3.below.size; simp only [World.size_alloc] at this; omega); have hz3b : w.heap.size < y3.w.heap.size + 1 := (by omega); have E4 := (y3.env E3).alloc (.cells #[.int .u32 0, .int .i64 0, .int .i64 dd] 77); clear hb3)
    | (go_at_call 57; refine (ctext_some 0 0 dd _ (by omega) E4).mono ?_; rintro e w4 ⟨⟨t, k, rfl⟩, hb4⟩; obtain ⟨y4, rfl⟩ : ∃ y : Ext _, w4 = y.w := ⟨⟨_, hb4⟩, rfl⟩; clear hb4))
  exact bodyPost_ret (v := .tuple #[upd 0 0 0, .int .i64 4]) (by simp [results, Tryd.results58, go_sem, hz1, hz2, hz2a, hz3, hz3b]) rfl ⟨rfl, (by repeat (first | exact Below.refl _ _ | apply Below.drew | apply below_drewN | apply bel_alloc | apply Ext.lift | apply bel_set0 | apply bel_set))⟩

set_option maxRecDepth 100000 in
set_option maxHeartbeats 1000000 in
theorem cuntext_nonum (l : List UInt8) (a n : Nat) (w : World) (hl : l.length ≤ 1000000) (E : Env w) (hr : prefixOf (cutA 32 l) = some (a, n)) (hp : ∀ u, Lib.atoiAll (cutB 32 l) ≠ .ok u) :
    Calls Tryd.prog 58 #[.string (str l)] w fun e w' => e = .returned (.tuple #[upd 0 0 0, .int .i64 4]) ∧ Below w.heap.size w w' := by
  obtain ⟨hc1, hc2⟩ := cut_len 32 l
  have E1 := E.alloc (.cells #[.int .u32 0, .int .i64 0, .int .i64 0] 77)
  have ha : a < 4294967296 := (prefixOf_some _ _ _ hr).2.1
  have HP := Lib.hid hp
  clear hp
  have HR := Lib.hid hr
  clear hr
  go_enter Tryd.func58, Tryd.ntmps58
  go_wp2_with (first
    | (go_at_call 72; refine (cut_any 32 l _ hl E1).mono ?_; rintro e w1 ⟨⟨f, rfl⟩, hb1⟩; obtain ⟨y1, rfl⟩ : ∃ y : Ext _, w1 = y.w := ⟨⟨_, hb1⟩, rfl⟩; have hz1 : w.heap.size < y1.w.heap.size := (by have := hb1.size; simp only [World.size_alloc] at this; omega); have E2 := y1.env E1; clear hb1)
    | (go_at_call 25; refine (ext_of (prefixOf_at (cutA 32 l) (some (a, n)) _ (by omega) E2 HR.out)).mono ?_; rintro e w2 ⟨rfl, y2, rfl⟩; have hz2 : w.heap.size < y2.w.heap.size := Nat.lt_of_lt_of_le hz1 y2.below.size; have hz2a : w.heap.size < y2.w.heap.size + 1 := (by omega); have E3 := (y2.env E2).alloc (.cells #[.int .u32 a, .int .i64 n] 38))
    | (go_at_call 87; refine (atoi_err (cutB 32 l) _ (by omega) HP.out E3).mono ?_; rintro e w3 ⟨⟨dd, t0, p0, rfl⟩, hb3⟩; obtain ⟨y3, rfl⟩ : ∃ y : Ext _, w3 = y.w := ⟨⟨_, hb3⟩, rfl⟩; have hz3 : w.heap.size < y3.w.heap.size := Nat.lt_of_lt_of_le hz2a (by have := y3.below.size; simp only [World.size_alloc] at this; omega); have hz3a : y2.w.heap.size < y3.w.heap.size := (by have := y3.below.size; simp only [World.size_alloc] at this; omega); have hz3b : w.heap.size < y3.w.heap.size + 1 := (by omega); have E4 := (y3.env E3).alloc (.cells #[.int .u32 a, .int .i64 n, .int .i64 dd] 77); clear hb3)
    | (go_at_call 57; refine (ctext_some a n dd _ (by omega) E4).mono ?_; rintro e w4 ⟨⟨t, k, rfl⟩, hb4⟩; obtain ⟨y4, rfl⟩ : ∃ y : Ext _, w4 = y.w := ⟨⟨_, hb4⟩, rfl⟩; clear hb4))
  exact bodyPost_ret (v := .tuple #[upd 0 0 0, .int .i64 4]) (by simp [results, Tryd.results58, go_sem, hz1, hz2, hz2a, hz3, hz3b]) rfl ⟨rfl, (by repeat (first | exact Below.refl _ _ | apply Below.drew | apply below_drewN | apply bel_alloc | apply Ext.lift | apply bel_set0 | apply bel_set))⟩

set_option maxRecDepth 100000 in
set_option maxHeartbeats 1000000 in
theorem cuntext_nomay (l : List UInt8) (a n : Nat) (d : Int) (w : World) (hl : l.length ≤ 1000000) (E : Env w) (hr : prefixOf (cutA 32 l) = some (a, n)) (hp : Lib.atoiAll (cutB 32 l) = .ok d) (hm : mayU a n d = false) :
    Calls Tryd.prog 58 #[.string (str l)] w fun e w' => e = .returned (.tuple #[upd 0 0 0, .int .i64 4]) ∧ Below w.heap.size w w' := by
  obtain ⟨hc1, hc2⟩ := cut_len 32 l
  have E1 := E.alloc (.cells #[.int .u32 0, .int .i64 0, .int .i64 0] 77)
  have ha : a < 4294967296 := (prefixOf_some _ _ _ hr).2.1
  have HP := Lib.hid hp
  have HM := Lib.hid hm
  clear hp hm
  have HR := Lib.hid hr
  clear hr
  go_enter Tryd.func58, Tryd.ntmps58
  go_wp2_with (first
    | (go_at_call 72; refine (cut_any 32 l _ hl E1).mono ?_; rintro e w1 ⟨⟨f, rfl⟩, hb1⟩; obtain ⟨y1, rfl⟩ : ∃ y : Ext _, w1 = y.w := ⟨⟨_, hb1⟩, rfl⟩; have hz1 : w.heap.size < y1.w.heap.size := (by have := hb1.size; simp only [World.size_alloc] at this; omega); have E2 := y1.env E1; clear hb1)
    | (go_at_call 25; refine (ext_of (prefixOf_at (cutA 32 l) (some (a, n)) _ (by omega) E2 HR.out)).mono ?_; rintro e w2 ⟨rfl, y2, rfl⟩; have hz2 : w.heap.size < y2.w.heap.size := Nat.lt_of_lt_of_le hz1 y2.below.size; have hz2a : w.heap.size < y2.w.heap.size + 1 := (by omega); have E3 := (y2.env E2).alloc (.cells #[.int .u32 a, .int .i64 n] 38))
    | (go_at_call 87; refine (atoi_ok (cutB 32 l) d _ (by omega) HP.out).mono ?_; rintro e w3 ⟨rfl, hb3⟩; obtain ⟨y3, rfl⟩ : ∃ y : Ext _, w3 = y.w := ⟨⟨_, hb3⟩, rfl⟩; have hz3 : w.heap.size < y3.w.heap.size := Nat.lt_of_lt_of_le hz2a (by have := y3.below.size; simp only [World.size_alloc] at this; omega); have hz3a : y2.w.heap.size < y3.w.heap.size := (by have := y3.below.size; simp only [World.size_alloc] at this; omega); have hz3b : w.heap.size < y3.w.heap.size + 1 := (by omega); have E4 := (y3.env E3).alloc (.cells #[.int .u32 a, .int .i64 n, .int .i64 d] 77); clear hb3)
    | (go_at_call 57; refine (ext_of (ctext_no a n d _ ⟨by omega, by omega⟩ HM.out)).mono ?_; rintro e w4 ⟨rfl, y4, rfl⟩))
  exact bodyPost_ret (v := .tuple #[upd 0 0 0, .int .i64 4]) (by simp [results, Tryd.results58, go_sem, hz1, hz2, hz2a, hz3, hz3b]) rfl ⟨rfl, (by repeat (first | exact Below.refl _ _ | apply Below.drew | apply below_drewN | apply bel_alloc | apply Ext.lift | apply bel_set0 | apply bel_set))⟩

set_option maxRecDepth 100000 in
set_option maxHeartbeats 1000000 in
theorem cuntext_notext (l : List UInt8) (a n d : Nat) (w : World) (hl : l.length ≤ 1000000) (E : Env w) (hr : prefixOf (cutA 32 l) = some (a, n)) (hp : Lib.atoiAll (cutB 32 l) = .ok (d : Int)) (hm : mayU a n d = true) (ht : ¬ textU a n d = l) :
    Calls Tryd.prog 58 #[.string (str l)] w fun e w' => e = .returned (.tuple #[upd 0 0 0, .int .i64 4]) ∧ Below w.heap.size w w' := by
  obtain ⟨hc1, hc2⟩ := cut_len 32 l
  have E1 := E.alloc (.cells #[.int .u32 0, .int .i64 0, .int .i64 0] 77)
  have ha : a < 4294967296 := (prefixOf_some _ _ _ hr).2.1
  have HP := Lib.hid hp
  have HM := Lib.hid hm
  have dd := str_eq_false ht
  clear hp hm ht
  have HR := Lib.hid hr
  clear hr
  go_enter Tryd.func58, Tryd.ntmps58
  go_wp2_with (first
    | (go_at_call 72; refine (cut_any 32 l _ hl E1).mono ?_; rintro e w1 ⟨⟨f, rfl⟩, hb1⟩; obtain ⟨y1, rfl⟩ : ∃ y : Ext _, w1 = y.w := ⟨⟨_, hb1⟩, rfl⟩; have hz1 : w.heap.size < y1.w.heap.size := (by have := hb1.size; simp only [World.size_alloc] at this; omega); have E2 := y1.env E1; clear hb1)
    | (go_at_call 25; refine (ext_of (prefixOf_at (cutA 32 l) (some (a, n)) _ (by omega) E2 HR.out)).mono ?_; rintro e w2 ⟨rfl, y2, rfl⟩; have hz2 : w.heap.size < y2.w.heap.size := Nat.lt_of_lt_of_le hz1 y2.below.size; have hz2a : w.heap.size < y2.w.heap.size + 1 := (by omega); have E3 := (y2.env E2).alloc (.cells #[.int .u32 a, .int .i64 n] 38))
    | (go_at_call 87; refine (atoi_ok (cutB 32 l) d _ (by omega) HP.out).mono ?_; rintro e w3 ⟨rfl, hb3⟩; obtain ⟨y3, rfl⟩ : ∃ y : Ext _, w3 = y.w := ⟨⟨_, hb3⟩, rfl⟩; have hz3 : w.heap.size < y3.w.heap.size := Nat.lt_of_lt_of_le hz2a (by have := y3.below.size; simp only [World.size_alloc] at this; omega); have hz3a : y2.w.heap.size < y3.w.heap.size := (by have := y3.below.size; simp only [World.size_alloc] at this; omega); have hz3b : w.heap.size < y3.w.heap.size + 1 := (by omega); have E4 := (y3.env E3).alloc (.cells #[.int .u32 a, .int .i64 n, .int .i64 d] 77); clear hb3)
    | (go_at_call 57; refine (ext_of (ctext_ok a n d _ ha HM.out E4)).mono ?_; rintro e w4 ⟨rfl, y4, rfl⟩))
  exact bodyPost_ret (v := .tuple #[upd 0 0 0, .int .i64 4]) (by simp [results, Tryd.results58, go_sem, hz1, hz2, hz2a, hz3, hz3b]) rfl ⟨rfl, (by repeat (first | exact Below.refl _ _ | apply Below.drew | apply below_drewN | apply bel_alloc | apply Ext.lift | apply bel_set0 | apply bel_set))⟩

set_option maxRecDepth 100000 in
set_option maxHeartbeats 1000000 in
theorem cuntext_ok (l : List UInt8) (a n d : Nat) (w : World) (hl : l.length ≤ 1000000) (E : Env w) (hr : prefixOf (cutA 32 l) = some (a, n)) (hp : Lib.atoiAll (cutB 32 l) = .ok (d : Int)) (hm : mayU a n d = true) (ht : textU a n d = l) :
    Calls Tryd.prog 58 #[.string (str l)] w fun e w' => e = .returned (.tuple #[upd a n d, .int .i64 0]) ∧ Below w.heap.size w w' := by
  obtain ⟨hc1, hc2⟩ := cut_len 32 l
  have E1 := E.alloc (.cells #[.int .u32 0, .int .i64 0, .int .i64 0] 77)
  have ha : a < 4294967296 := (prefixOf_some _ _ _ hr).2.1
  have HP := Lib.hid hp
  have HM := Lib.hid hm
  have dd := str_eq_true ht
  clear hp hm ht
  have HR := Lib.hid hr
  clear hr
  go_enter Tryd.func58, Tryd.ntmps58
  go_wp2_with (first
    | (go_at_call 72; refine (cut_any 32 l _ hl E1).mono ?_; rintro e w1 ⟨⟨f, rfl⟩, hb1⟩; obtain ⟨y1, rfl⟩ : ∃ y : Ext _, w1 = y.w := ⟨⟨_, hb1⟩, rfl⟩; have hz1 : w.heap.size < y1.w.heap.size := (by have := hb1.size; simp only [World.size_alloc] at this; omega); have E2 := y1.env E1; clear hb1)
    | (go_at_call 25; refine (ext_of (prefixOf_at (cutA 32 l) (some (a, n)) _ (by omega) E2 HR.out)).mono ?_; rintro e w2 ⟨rfl, y2, rfl⟩; have hz2 : w.heap.size < y2.w.heap.size := Nat.lt_of_lt_of_le hz1 y2.below.size; have hz2a : w.heap.size < y2.w.heap.size + 1 := (by omega); have E3 := (y2.env E2).alloc (.cells #[.int .u32 a, .int .i64 n] 38))
    | (go_at_call 87; refine (atoi_ok (cutB 32 l) d _ (by omega) HP.out).mono ?_; rintro e w3 ⟨rfl, hb3⟩; obtain ⟨y3, rfl⟩ : ∃ y : Ext _, w3 = y.w := ⟨⟨_, hb3⟩, rfl⟩; have hz3 : w.heap.size < y3.w.heap.size := Nat.lt_of_lt_of_le hz2a (by have := y3.below.size; simp only [World.size_alloc] at this; omega); have hz3a : y2.w.heap.size < y3.w.heap.size := (by have := y3.below.size; simp only [World.size_alloc] at this; omega); have hz3b : w.heap.size < y3.w.heap.size + 1 := (by omega); have E4 := (y3.env E3).alloc (.cells #[.int .u32 a, .int .i64 n, .int .i64 d] 77); clear hb3)
    | (go_at_call 57; refine (ext_of (ctext_ok a n d _ ha HM.out E4)).mono ?_; rintro e w4 ⟨rfl, y4, rfl⟩))
  exact bodyPost_ret (v := .tuple #[upd a n d, .int .i64 0]) (by simp [results, Tryd.results58, go_sem, hz1, hz2, hz2a, hz3, hz3b]) rfl ⟨rfl, (by repeat (first | exact Below.refl _ _ | apply Below.drew | apply below_drewN | apply bel_alloc | apply Ext.lift | apply bel_set0 | apply bel_set))⟩

/-- What Untext answers. -/
def untextRes (l : List UInt8) : Value := match untextU l with
  | some (a, n, d) => .tuple #[upd a n d, .int .i64 0]
  | none => .tuple #[upd 0 0 0, .int .i64 4]
def runtextRes (l : List UInt8) : Value := match untextU l with
  | some (a, n, d) => .tuple #[upd a n d, .bool true]
  | none => .tuple #[upd 0 0 0, .bool false]
theorem cuntext_any (l : List UInt8) (w : World) (hl : l.length ≤ 1000000) (E : Env w) :
    Calls Tryd.prog 58 #[.string (str l)] w fun e w' => e = .returned (untextRes l) ∧ Below w.heap.size w w' := by
  unfold untextRes untextU
  cases hr : prefixOf (cutA 32 l) with
  | none => exact cuntext_nopre l w hl E hr
  | some an =>
    obtain ⟨a, n⟩ := an
    by_cases hok : ∃ d, Lib.atoiAll (cutB 32 l) = .ok d
    · obtain ⟨d, hp⟩ := hok
      rw [hp]
      by_cases hm : mayU a n d = true
      · obtain ⟨D, rfl⟩ := Int.eq_ofNat_of_zero_le (mayU_iff.1 hm).2.1
        by_cases ht : textU a n D = l
        · have hc : mayU a n (D : Int) = true ∧ textU a n (D : Int).toNat = l := ⟨hm, by simpa using ht⟩
          simp only [if_pos hc]; exact cuntext_ok l a n D w hl E hr hp hm ht
        · have hc : ¬ (mayU a n (D : Int) = true ∧ textU a n (D : Int).toNat = l) := fun h => ht (by simpa using h.2)
          simp only [if_neg hc]; exact cuntext_notext l a n D w hl E hr hp hm ht
      · have hc : ¬ (mayU a n d = true ∧ textU a n d.toNat = l) := fun h => hm h.1
        simp only [if_neg hc]; exact cuntext_nomay l a n d w hl E hr hp (by simpa using hm)
    · have hne : ∀ u, Lib.atoiAll (cutB 32 l) ≠ .ok u := fun u hu => hok ⟨u, hu⟩
      cases hp : Lib.atoiAll (cutB 32 l)
      · exact absurd hp (hne _)
      · exact cuntext_nonum l a n w hl E hr hne
      · exact cuntext_nonum l a n w hl E hr hne
end Go.Proofs.YteafakpipbhioaaDoor
