/- Part 5 of the proof: TrieD, TrieE. -/
import Derived.Test.YtfbangojgjcbcaaGreatDoorShelf3
import Derived.WalkMore
import Derived.Deep.LoopGhost
import Derived.Deep.DeepCutAuto
import Derived.Test.YtfbangojgjcbcaaGreatDoorSC01
import Derived.Test.YtfbangojgjcbcaaGreatDoorSC02
import Derived.Test.YtfbangojgjcbcaaGreatDoorSC04
namespace Go.Proofs.YtfbangojgjcbcaaGreatDoor
open Go.RowKit Pl
/-- The pointer p reads as the tree t in world w. -/
def Tr (w : World) : Option Addr → Tree → Prop
  | p, .nil => p = none
  | p, .node b k has l r => p = some ⟨b, 0, none⟩ ∧ b < w.heap.size ∧ ∃ (a : Nat) (v : Bool) (p0 p1 : Option Addr), a < 4294967296 ∧ mayP a k.length = true ∧ bitsP a k.length = k ∧
      w.cell? ⟨b, 0, none⟩ = some (.int .u32 (a : Int)) ∧ w.cell? ⟨b, 1, none⟩ = some (.int .i64 (k.length : Int)) ∧ w.cell? ⟨b, 2, none⟩ = some (.bool v) ∧ w.cell? ⟨b, 3, none⟩ = some (.bool has) ∧
      w.cell? ⟨b, 4, none⟩ = some (.pointer p0) ∧ w.cell? ⟨b, 5, none⟩ = some (.pointer p1) ∧ (∀ i, w.frozen? ⟨b, i, none⟩ = false) ∧ Tr w p0 l ∧ Tr w p1 r
theorem Tr.keep {w w' : World} (hs : w.heap.size ≤ w'.heap.size) : ∀ {t : Tree} {p : Option Addr}, Tr w p t → (∀ x : Addr, x.block ∈ t.blocks → w'.cell? x = w.cell? x ∧ w'.frozen? x = w.frozen? x) → Tr w' p t
  | .nil, _, h, _ => h
  | .node b k has l r, p, h, hk => by
    obtain ⟨rfl, hb, a, v, p0, p1, ha, hm, hbits, c0, c1, c2, c3, c4, c5, hf, hl, hr⟩ := h
    have hb' : ∀ i, w'.cell? ⟨b, i, none⟩ = w.cell? ⟨b, i, none⟩ ∧ w'.frozen? ⟨b, i, none⟩ = w.frozen? ⟨b, i, none⟩ := fun i => hk _ (by simp [Tree.blocks])
    exact ⟨rfl, by omega, a, v, p0, p1, ha, hm, hbits, (hb' 0).1.trans c0, (hb' 1).1.trans c1, (hb' 2).1.trans c2, (hb' 3).1.trans c3, (hb' 4).1.trans c4, (hb' 5).1.trans c5, fun i => (hb' i).2.trans (hf i),
      Tr.keep hs hl fun x hx => hk x (by simp [Tree.blocks, hx]), Tr.keep hs hr fun x hx => hk x (by simp [Tree.blocks, hx])⟩
theorem Tr.lt {w : World} : ∀ {t : Tree} {p : Option Addr}, Tr w p t → ∀ b ∈ t.blocks, b < w.heap.size
  | .nil, _, _, b, hb => by simp [Tree.blocks] at hb
  | .node b k has l r, p, h, x, hx => by
    obtain ⟨rfl, hb, a, v, p0, p1, ha, hm, hbits, c0, c1, c2, c3, c4, c5, hf, hl, hr⟩ := h
    simp only [Tree.blocks, List.mem_cons, List.mem_append] at hx
    rcases hx with rfl | hx | hx
    · exact hb
    · exact Tr.lt hl x hx
    · exact Tr.lt hr x hx
theorem Tr.below {w w' : World} {t : Tree} {p : Option Addr} (h : Tr w p t) (hb : Below w.heap.size w w') : Tr w' p t :=
  h.keep hb.size fun _ hx => ⟨hb.cell (h.lt _ hx), hb.frozen (h.lt _ hx)⟩
/-- The place A, on the way down to a prefix from A0: what lies there is s; what is put in there is put into the whole. -/
structure Hole (w : World) (A0 A : Addr) (t s : Tree) (p : List Bool) : Prop where
  find : s.find p = t.find p
  inv : s.Inv
  sub : ∀ b ∈ s.blocks, b ∈ t.blocks
  nodup : s.blocks.Nodup
  out : A.block ∉ s.blocks
  here : A = A0 ∨ A.block ∈ t.blocks
  put : ∀ (b1 b2 : Nat) (w' : World) (ptr' : Option Addr), w.heap.size ≤ w'.heap.size → w'.cell? A = some (.pointer ptr') → Tr w' ptr' (s.ins b1 b2 p) →
    (∀ x : Addr, x ≠ A → x.block ∉ s.blocks → (x.block ∈ t.blocks ∨ x = A0) → w'.cell? x = w.cell? x) → (∀ x : Addr, x.block ∈ t.blocks → w'.frozen? x = w.frozen? x) → ∃ root, w'.cell? A0 = some (.pointer root) ∧ Tr w' root (t.ins b1 b2 p)
theorem Hole.start {w : World} {A0 : Addr} {t : Tree} {p : List Bool} (hi : t.Inv) (hn : t.blocks.Nodup) (ho : A0.block ∉ t.blocks) : Hole w A0 A0 t t p :=
  ⟨rfl, hi, fun _ h => h, hn, ho, .inl rfl, fun _ _ _ ptr' _ h1 h2 _ _ => ⟨ptr', h1, h2⟩⟩
def Tree.kid (c : Bool) (l r : Tree) : Tree := if c = true then r else l
theorem Hole.step {w : World} {A0 A : Addr} {t : Tree} {p : List Bool} {b : Nat} {k : List Bool} {has : Bool} {l r : Tree} {q : Option Addr} {c : Bool} (h : Hole w A0 A t (.node b k has l r) p) (hA : w.cell? A = some (.pointer q)) (hT : Tr w q (.node b k has l r))
    (hne : ¬ k = p) (hkp : k <+: p) (hc : p[k.length]? = some c) : Hole w A0 ⟨b, 4 + (if c = true then 1 else 0), none⟩ t (Tree.kid c l r) p := by
  obtain ⟨hfind, ⟨hk, i1, i2, i3, i4⟩, hsub, hnd, hout, hhere, hput⟩ := h
  obtain ⟨rfl, hb, a, v, p0, p1, ha, hm, hbits, c0, c1, c2, c3, c4, c5, hf, hl, hr⟩ := hT
  simp only [Tree.blocks, List.nodup_cons, List.nodup_append, List.mem_append, not_or] at hnd
  obtain ⟨⟨nb1, nb2⟩, nl, nr, ndis⟩ := hnd
  have hbt : b ∈ t.blocks := hsub b (by simp [Tree.blocks])
  have hAb : ¬ A.block = b := fun e => hout (by simp [Tree.blocks, e])
  cases c with
  | true =>
    simp only [Tree.kid, if_true]
    refine ⟨?_, i4, fun x hx => hsub x (by simp [Tree.blocks, hx]), nr, nb2, .inr hbt, ?_⟩
    · rw [← hfind]
      conv => rhs; unfold Tree.find
      rw [if_neg hne, if_pos hkp, if_pos hc]
    · intro b1 b2 w' ptr' hs hA' hT' hx hfz
      have hAx : w'.cell? A = some (.pointer (some ⟨b, 0, none⟩)) := by
        rw [← hA]
        exact hx A (fun e => hAb (by rw [e])) (fun e => hout (by simp [Tree.blocks, e])) (by rcases hhere with h | h; exact .inr h; exact .inl h)
      have hbx : ∀ i, ¬ i = 5 → w'.cell? ⟨b, i, none⟩ = w.cell? ⟨b, i, none⟩ := fun i hi => hx _ (fun e => hi (by injection e)) nb2 (.inl hbt)
      refine hput b1 b2 w' _ hs hAx ?_ (fun x _ h2 h3 => hx x (fun e => h2 (by rw [e]; simp [Tree.blocks])) (fun e => h2 (by simp [Tree.blocks, e])) h3) hfz
      have e : (Tree.node b k has l r).ins b1 b2 p = .node b k has l (r.ins b1 b2 p) := by
        conv => lhs; unfold Tree.ins
        rw [if_neg hne, if_pos hkp, if_pos hc]
      rw [e]
      refine ⟨rfl, by omega, a, v, p0, ptr', ha, hm, hbits, (hbx 0 (by decide)).trans c0, (hbx 1 (by decide)).trans c1, (hbx 2 (by decide)).trans c2, (hbx 3 (by decide)).trans c3, (hbx 4 (by decide)).trans c4, hA', fun i => (hfz _ hbt).trans (hf i), ?_, hT'⟩
      exact hl.keep hs fun x hxl => ⟨hx x (fun e => nb1 (by rw [e] at hxl; exact hxl)) (fun e => ndis _ hxl _ e rfl) (.inl (hsub _ (by simp [Tree.blocks, hxl]))), hfz x (hsub _ (by simp [Tree.blocks, hxl]))⟩
  | false =>
    simp only [Tree.kid, Bool.false_eq_true, if_false]
    have hct : ¬ p[k.length]? = some true := by rw [hc]; decide
    refine ⟨?_, i3, fun x hx => hsub x (by simp [Tree.blocks, hx]), nl, nb1, .inr hbt, ?_⟩
    · rw [← hfind]
      conv => rhs; unfold Tree.find
      rw [if_neg hne, if_pos hkp, if_neg hct]
    · intro b1 b2 w' ptr' hs hA' hT' hx hfz
      have hAx : w'.cell? A = some (.pointer (some ⟨b, 0, none⟩)) := by
        rw [← hA]
        exact hx A (fun e => hAb (by rw [e])) (fun e => hout (by simp [Tree.blocks, e])) (by rcases hhere with h | h; exact .inr h; exact .inl h)
      have hbx : ∀ i, ¬ i = 4 → w'.cell? ⟨b, i, none⟩ = w.cell? ⟨b, i, none⟩ := fun i hi => hx _ (fun e => hi (by injection e)) nb1 (.inl hbt)
      refine hput b1 b2 w' _ hs hAx ?_ (fun x _ h2 h3 => hx x (fun e => h2 (by rw [e]; simp [Tree.blocks])) (fun e => h2 (by simp [Tree.blocks, e])) h3) hfz
      have e : (Tree.node b k has l r).ins b1 b2 p = .node b k has (l.ins b1 b2 p) r := by
        conv => lhs; unfold Tree.ins
        rw [if_neg hne, if_pos hkp, if_neg hct]
      rw [e]
      refine ⟨rfl, by omega, a, v, ptr', p1, ha, hm, hbits, (hbx 0 (by decide)).trans c0, (hbx 1 (by decide)).trans c1, (hbx 2 (by decide)).trans c2, (hbx 3 (by decide)).trans c3, hA', (hbx 5 (by decide)).trans c5, fun i => (hfz _ hbt).trans (hf i), hT', ?_⟩
      exact hr.keep hs fun x hxl => ⟨hx x (fun e => nb2 (by rw [e] at hxl; exact hxl)) (fun e => ndis _ e _ hxl rfl) (.inl (hsub _ (by simp [Tree.blocks, hxl]))), hfz x (hsub _ (by simp [Tree.blocks, hxl]))⟩
end Go.Proofs.YtfbangojgjcbcaaGreatDoor
namespace Go.Proofs.YtfbangojgjcbcaaGreatDoor
open Go.RowKit Pl
set_option maxHeartbeats 400000 in
theorem tmask_any (n : Int) (w : World) (h0 : 0 ≤ n) (h1 : n ≤ 32) :
    Calls Tryz.prog 170 #[.int .i64 n] w fun e w' => e = .returned (.int .u32 (4294967296 - blk n)) ∧ w = w' := by
  have H := Lib.hid (mask_num n h0 h1)
  go_enter Tryz.func170, Tryz.ntmps170
  go_wp2
  go_ret
  exact ⟨ret_int H.out, rfl⟩
set_option maxHeartbeats 400000 in
theorem tmay_any (a n : Int) (w : World) (ha : IsAddr a) :
    Calls Tryz.prog 163 #[.agg #[.int .u32 a, .int .i64 n]] w fun e w' => e = .returned (.bool (mayP a n)) ∧ Below w.heap.size w w' := by
  obtain ⟨ha0, ha1⟩ := ha
  by_cases h0 : 0 ≤ n
  · by_cases h1 : n ≤ 32
    · have HM := Lib.hid (mayP_in a n h0 h1)
      have hbn := andNot_mask a n ha0 ha1
      go_enter Tryz.func163, Tryz.ntmps163
      go_wp2
      go_quiet ((go_at_call 170; exact Calls.quiet_of_same (quiet_sym (tmask_any n _ h0 h1))))
      go_wp2
      go_ret
      exact ⟨by rw [HM.out]; rfl, Go.below_drewN ((Below.refl _ _).alloc (Nat.le_refl _) _) _⟩
    · have HM := Lib.hid (mayP_out a n (by omega))
      have d : decide (n ≤ 32) = false := by simpa using h1
      go_enter Tryz.func163, Tryz.ntmps163
      go_wp2
      go_quiet (fail)
      go_wp2
      go_ret
      exact ⟨by rw [HM.out]; rfl, Go.below_drewN ((Below.refl _ _).alloc (Nat.le_refl _) _) _⟩
  · have HM := Lib.hid (mayP_out a n (by omega))
    have d : decide (0 ≤ n) = false := by simpa using h0
    go_enter Tryz.func163, Tryz.ntmps163
    go_wp2
    go_quiet (fail)
    go_wp2
    go_ret
    exact ⟨by rw [HM.out]; rfl, Go.below_drewN ((Below.refl _ _).alloc (Nat.le_refl _) _) _⟩
theorem bitLen_eq : ∀ x : Nat, x < 4294967296 → Lib.bitLen x = bitlen x := by
  intro x
  induction x using Nat.strongRecOn with
  | _ x ih =>
    intro h
    by_cases h0 : x = 0
    · subst h0; rfl
    · rw [Lib.bitLen_half x h0 (by omega), ih (x / 2) (by omega) (by omega)]
      unfold bitlen
      rw [if_neg h0]
      by_cases h1 : x / 2 = 0
      · rw [if_pos h1]
        have : x = 1 := by omega
        subst this; rfl
      · rw [if_neg h1, Nat.log2_def x, if_pos (by omega)]; omega
/-- The bit of an address behind the first n. -/
def bitN (a n : Nat) : Int := if a.testBit (31 - n) = true then 1 else 0
theorem bitN_le (a n : Nat) : 0 ≤ bitN a n ∧ bitN a n ≤ 1 := by unfold bitN; split <;> omega
theorem bit_num (a n : Nat) (ha : a < 4294967296) : bits .and .u32 ((a : Int) / 2 ^ (31 - n)) 1 = bitN a n := by
  have e : (a : Int) / 2 ^ (31 - n) = ((a / 2 ^ (31 - n) : Nat) : Int) := by simp
  have hlt : a / 2 ^ (31 - n) < 4294967296 := Nat.lt_of_le_of_lt (Nat.div_le_self _ _) ha
  unfold bitN
  rw [e, Nat.testBit_eq_decide_div_mod_eq]
  generalize a / 2 ^ (31 - n) = q at hlt
  rw [u32_and _ _ (by omega) (by omega) (by omega) (by omega), Int.toNat_natCast, show (1 : Int).toNat = 2 ^ 1 - 1 from rfl, Nat.and_two_pow_sub_one_eq_mod]
  by_cases h : q % 2 = 1
  · simp [h]
  · have : q % 2 = 0 := by omega
    simp [this]
set_option maxHeartbeats 400000 in
theorem tbit_any (a n : Nat) (w : World) (ha : a < 4294967296) (hn : n < 32) :
    Calls Tryz.prog 166 #[.int .u32 (a : Int), .int .i64 (n : Int)] w fun e w' => e = .returned (.int .i64 (bitN a n)) ∧ w = w' := by
  have hneg : decide ((31 : Int) - (n : Int) < 0) = false := by simp; omega
  have hb := bit_num a n ha
  have hl := bitN_le a n
  go_enter Tryz.func166, Tryz.ntmps166
  go_wp2
  go_ret
  exact ⟨rfl, rfl⟩
/-! ### common -/
def comA (a n b m : Nat) : Nat := a / 2 ^ (32 - comLen a n b m) * 2 ^ (32 - comLen a n b m)
theorem comLen_le (a n b m : Nat) : comLen a n b m ≤ n ∧ comLen a n b m ≤ m := by unfold comLen; omega
theorem comA_lt {a n b m : Nat} (ha : a < 4294967296) : comA a n b m < 4294967296 := first_lt a _ ha
theorem comA_may {a n b m : Nat} (hn : n ≤ 32) : mayP (comA a n b m) (comLen a n b m) = true := first_may a _ (by have := (comLen_le a n b m).1; omega)
theorem comA_bits {a n b m : Nat} (ha : a < 4294967296) (hb : b < 4294967296) (hn : n ≤ 32) (hm : m ≤ 32) : bitsP (comA a n b m) (comLen a n b m) = lcp (bitsP a n) (bitsP b m) := by
  unfold comA
  rw [first_bits a _ (by have := (comLen_le a n b m).1; omega), com_bits ha hb hn hm]
theorem bel_setge {w W : World} (h : Below w.heap.size w W) {b : Nat} (hb : w.heap.size ≤ b) (i : Nat) (u : Value) : Below w.heap.size w (W.setCell ⟨b, i, none⟩ u) := h.setCell hb u
theorem xor_num (a b : Nat) (ha : a < 4294967296) (hb : b < 4294967296) : bits .xor .u32 (a : Int) (b : Int) = ((a ^^^ b : Nat) : Int) := u32_xor_nat a b ha hb
set_option maxRecDepth 100000 in
set_option maxHeartbeats 1000000 in
theorem tcommon_any (a n b m : Nat) (w : World) (ha : a < 4294967296) (hb : b < 4294967296) (hn : n ≤ 32) (hm : m ≤ 32) :
    Calls Tryz.prog 165 #[.agg #[.int .u32 (a : Int), .int .i64 (n : Int)], .agg #[.int .u32 (b : Int), .int .i64 (m : Int)]] w fun e w' => e = .returned (.agg #[.int .u32 (comA a n b m : Int), .int .i64 (comLen a n b m : Int)]) ∧ Below w.heap.size w w' := by
  have hx := xor_num a b ha hb
  have hxl : a ^^^ b < 4294967296 := Nat.xor_lt_two_pow (n := 32) ha hb
  have hbl := bitlen_le hxl
  have HLZ : Hid (∀ W, Calls Tryz.prog 191 #[.int .u32 ((a ^^^ b : Nat) : Int)] W fun e w' => e = .returned (.int .i64 (32 - (bitlen (a ^^^ b) : Int))) ∧ w' = W) := Lib.hid (fun W => by
    have := Tryz.bits_LeadingZeros32 ((a ^^^ b : Nat) : Int) W (by omega) (by omega)
    rwa [Int.toNat_natCast, bitLen_eq _ hxl] at this)
  have hA : ∀ X : Int, X = (comLen a n b m : Int) → bits .and .u32 (a : Int) (4294967296 - blk X) = (comA a n b m : Int) := fun X hX => by
    rw [hX, and_maskI _ _ (by omega) (by omega), first_nat]; rfl
  have HA := Lib.hid hA
  have hcl := comLen_le a n b m
  clear hA
  obtain ⟨L, hL⟩ : ∃ L, bitlen (a ^^^ b) = L := ⟨_, rfl⟩
  have hcase : (n ≤ m ∧ n + L ≤ 32 ∧ comLen a n b m = n) ∨ (m < n ∧ m + L ≤ 32 ∧ comLen a n b m = m) ∨ (32 < n + L ∧ 32 < m + L ∧ comLen a n b m + L = 32) := by unfold comLen; rw [hL]; omega
  rw [hL] at hbl HLZ
  clear hL
  generalize comLen a n b m = k at *
  generalize comA a n b m = C at *
  rcases hcase with ⟨k1, k2, k3⟩ | ⟨k1, k2, k3⟩ | ⟨k1, k2, k3⟩
  · subst k3
    have hA1 := HA.out (k : Int) rfl
    have t1 : (k : Int) ≤ (m : Int) := by omega
    have t2 : (k : Int) ≤ 32 - (L : Int) := by omega
    go_enter Tryz.func165, Tryz.ntmps165
    go_wp2
    go_quiet ((go_at_call 191; exact Calls.quiet_of_same (HLZ.out _)))
    go_wp2
    go_region_with (go_at_call 170; refine (tmask_any _ _ (by omega) (by omega)).mono ?_; rintro e w' ⟨rfl, rfl⟩)
    all_goals
      go_wp2
      exact bodyPost_ret (v := .agg #[.int .u32 (C : Int), .int .i64 (k : Int)]) (by simp [results, Tryz.results165, go_sem]) rfl ⟨rfl, (by repeat (first | assumption | exact Below.refl _ _ | apply Below.drew | apply Go.below_drewN | apply bel_alloc | apply Ext.lift | refine bel_setge ?_ (by omega) _ _))⟩
  · subst k3
    have hA1 := HA.out (k : Int) rfl
    have t1 : (k : Int) < (n : Int) := by omega
    have t2 : (k : Int) ≤ 32 - (L : Int) := by omega
    go_enter Tryz.func165, Tryz.ntmps165
    go_wp2
    go_quiet ((go_at_call 191; exact Calls.quiet_of_same (HLZ.out _)))
    go_wp2
    go_region_with (go_at_call 170; refine (tmask_any _ _ (by omega) (by omega)).mono ?_; rintro e w' ⟨rfl, rfl⟩)
    all_goals
      go_wp2
      exact bodyPost_ret (v := .agg #[.int .u32 (C : Int), .int .i64 (k : Int)]) (by simp [results, Tryz.results165, go_sem]) rfl ⟨rfl, (by repeat (first | assumption | exact Below.refl _ _ | apply Below.drew | apply Go.below_drewN | apply bel_alloc | apply Ext.lift | refine bel_setge ?_ (by omega) _ _))⟩
  · have hA1 := HA.out (32 - (L : Int)) (by omega)
    have t1 : 32 - (L : Int) < (n : Int) := by omega
    have t2 : 32 - (L : Int) < (m : Int) := by omega
    have hkL : (k : Int) = 32 - (L : Int) := by omega
    rw [hkL]
    clear k3 hkL
    go_enter Tryz.func165, Tryz.ntmps165
    go_wp2
    go_quiet ((go_at_call 191; exact Calls.quiet_of_same (HLZ.out _)))
    go_wp2
    go_region_with (go_at_call 170; refine (tmask_any _ _ (by omega) (by omega)).mono ?_; rintro e w' ⟨rfl, rfl⟩)
    all_goals
      go_wp2
      exact bodyPost_ret (v := .agg #[.int .u32 (C : Int), .int .i64 (32 - (L : Int))]) (by simp [results, Tryz.results165, go_sem]) rfl ⟨rfl, (by repeat (first | assumption | exact Below.refl _ _ | apply Below.drew | apply Go.below_drewN | apply bel_alloc | apply Ext.lift | refine bel_setge ?_ (by omega) _ _))⟩
end Go.Proofs.YtfbangojgjcbcaaGreatDoor
namespace Go.Proofs.YtfbangojgjcbcaaGreatDoor
open Go.RowKit Pl
def Tree.size : Tree → Nat
  | .nil => 0
  | .node _ _ _ l r => 1 + Tree.size l + Tree.size r
theorem Tree.kid_size (c : Bool) (b : Nat) (k : List Bool) (has : Bool) (l r : Tree) : Tree.size (Tree.kid c l r) < Tree.size (.node b k has l r) := by
  unfold Tree.kid; simp only [Tree.size]; split <;> omega
def Stop (p : List Bool) : Tree → Prop
  | .nil => True
  | .node _ k _ _ _ => k = p ∨ ¬ k <+: p
theorem com_self {a n b m : Nat} (ha : a < 4294967296) (hb : b < 4294967296) (h1 : mayP a n = true) (h2 : mayP b m = true) (hp : bitsP a n <+: bitsP b m) : comA a n b m = a ∧ comLen a n b m = n := by
  have hn := (may_mod h1).1
  have hm := (may_mod h2).1
  have e := comA_bits ha hb hn hm
  rw [(lcp_eq_left_iff _ _).2 hp] at e
  exact bitsP_inj (comA_lt ha) ha (comA_may hn) h1 e
theorem com_less {a n b m : Nat} (ha : a < 4294967296) (hb : b < 4294967296) (hn : n ≤ 32) (hm : m ≤ 32) (hp : ¬ bitsP a n <+: bitsP b m) : comLen a n b m < n := by
  have e := comA_bits ha hb hn hm
  have hl : comLen a n b m = (lcp (bitsP a n) (bitsP b m)).length := by rw [← e, bitsP_length]
  have hle := (comLen_le a n b m).1
  rcases Nat.lt_or_ge (comLen a n b m) n with h | h
  · exact h
  · exfalso
    apply hp
    rw [← lcp_eq_left_iff]
    exact (lcp_left _ _).eq_of_length (by rw [← hl, bitsP_length]; omega)
theorem kidptr {w : World} {q : Option Addr} {b : Nat} {k : List Bool} {has : Bool} {l r : Tree} (h : Tr w q (.node b k has l r)) :
    (∃ q0, w.cell? ⟨b, 4 + 0, none⟩ = some (.pointer q0) ∧ Tr w q0 (Tree.kid false l r)) ∧ (∃ q1, w.cell? ⟨b, 4 + 1, none⟩ = some (.pointer q1) ∧ Tr w q1 (Tree.kid true l r)) := by
  obtain ⟨rfl, hnb, a', v', q0, q1, ha', hm', hbits, c0, c1, c2, c3, c4, c5, hf, hl, hr⟩ := h
  exact ⟨⟨q0, c4, hl⟩, ⟨q1, c5, hr⟩⟩
set_option maxRecDepth 100000 in
set_option maxHeartbeats 2000000 in
theorem place_any (T a n : Nat) (root : Option Addr) (t : Tree) (w : World) (ha : a < 4294967296) (hm : mayP a n = true) (hT : T < w.heap.size) (hroot : w.cell? ⟨T, 0, none⟩ = some (.pointer root)) (htr : Tr w root t) (hinv : t.Inv) (hnd : t.blocks.Nodup) (hout : T ∉ t.blocks) :
    Calls Tryz.prog 164 #[.pointer (some ⟨T, 0, none⟩), .agg #[.int .u32 (a : Int), .int .i64 (n : Int)]] w fun e w' => (∃ (A : Addr) (s : Tree) (q : Option Addr), e = .returned (.pointer (some A)) ∧ A.spot = none ∧ A.block < w.heap.size ∧ w.cell? A = some (.pointer q) ∧ Tr w q s ∧ Hole w ⟨T, 0, none⟩ A t s (bitsP a n) ∧ Stop (bitsP a n) s) ∧ Below w.heap.size w w' := by
  have HH := Lib.hid (Hole.start (w := w) (A0 := ⟨T, 0, none⟩) (p := bitsP a n) hinv hnd hout)
  have HT := Lib.hid htr
  have HR := Lib.hid hroot
  obtain ⟨hn, _⟩ := may_mod hm
  have HM := Lib.hid hm
  clear htr hinv hnd hout hm
  go_enter Tryz.func164, Tryz.ntmps164
  go_wp2
  go_step3
  go_wp2
  go_step3
  go_wp2
  go_loopg [5] (Tree.size t) (fun g v wr => ∃ (b o : Nat) (s : Tree) (q : Option Addr), g = Tree.size s ∧ v = .pointer (some ⟨b, o, none⟩) ∧ b < w.heap.size ∧ Hid (w.cell? ⟨b, o, none⟩ = some (.pointer q)) ∧ Hid (Tr w q s) ∧ Hid (Hole w ⟨T, 0, none⟩ ⟨b, o, none⟩ t s (bitsP a n)) ∧ wr.cell? ⟨w.heap.size, 0, none⟩ = some (.int .u32 (a : Int)) ∧ wr.cell? ⟨w.heap.size, 1, none⟩ = some (.int .i64 (n : Int)) ∧ w.heap.size < wr.heap.size ∧ Below w.heap.size w wr)
  case atStart => exact ⟨T, 0, t, root, rfl, rfl, hT, HR, HT, HH, by simp, by simp, by simp, (by repeat (first | assumption | exact Below.refl _ _ | apply Below.drew | apply Go.below_drewN | apply bel_alloc | apply Ext.lift | refine bel_setge ?_ (by omega) _ _))⟩
  case round =>
    obtain ⟨b, o, s, q, hg, rfl, hb, HC, HTr, HHo, p0, p1, hsz, hbel⟩ := hrel
    have HG := Lib.hid hg
    clear hg
    have cA := (hbel.cell (p := ⟨b, o, none⟩) hb).trans HC.out
    cases s with
    | nil =>
      obtain rfl : q = none := HTr.out
      go_wp2
      try rw [Exit.noGoto_ret]
      go_ret
      exact ⟨⟨_, .nil, none, rfl, rfl, hb, HC.out, rfl, HHo.out, trivial⟩, hbel⟩
    | node nb k has l r =>
      have htr := HTr.out
      obtain ⟨rfl, hnb, a', v', q0, q1, ha', hm', hbits, c0, c1, c2, c3, c4, c5, hf, hl, hr⟩ := HTr.out
      have d0 := (hbel.cell (p := ⟨nb, 0, none⟩) hnb).trans c0
      have d1 := (hbel.cell (p := ⟨nb, 1, none⟩) hnb).trans c1
      obtain ⟨m, hkm⟩ : ∃ m, k.length = m := ⟨_, rfl⟩
      rw [hkm] at d1 hm' hbits
      have hm32 := (may_mod hm').1
      clear c0 c1 c2 c3 c4 c5 hf hl hr
      by_cases hkp : k = bitsP a n
      · have he : a' = a ∧ m = n := bitsP_inj ha' ha hm' HM.out (by rw [hbits, hkp])
        obtain ⟨rfl, rfl⟩ := he
        have HKP := Lib.hid hkp
        have HTR := Lib.hid htr
        clear htr hkp hbits hkm hm'
        have z0 : nb < wr.heap.size := by have := hbel.size; omega
        go_wp2
        refine wp_region_ext (by kernel_rfl) (by kernel_rfl) ?_
        repeat (go_big_quiet_step (first | (go_at_call 165; exact Ext.call (tcommon_any _ _ _ _ _ ha' ha hm32 hn))))
        refine wpQuiet_nil ?_
        rintro _ ⟨z3, rfl⟩
        go_wp2
        try rw [Exit.noGoto_ret]
        go_ret
        exact ⟨⟨_, _, _, rfl, rfl, hb, HC.out, HTR.out, HHo.out, .inl HKP.out⟩, Ext.lift z3 hbel⟩
      · have hne : ¬ (a' = a ∧ m = n) := fun e => hkp (by rw [← hbits, e.1, e.2])
        have z0 : nb < wr.heap.size := by have := hbel.size; omega
        have HBI := Lib.hid hbits
        have HKM := Lib.hid hkm
        have HTR := Lib.hid htr
        have HKP := Lib.hid hkp
        by_cases hpre : k <+: bitsP a n
        · obtain ⟨e1, e2⟩ := com_self ha' ha hm' HM.out (by rw [hbits]; exact hpre)
          have HPRE := Lib.hid hpre
          have hlen : m ≤ n := by have := hpre.length_le; rw [bitsP_length, hkm] at this; exact this
          have hmn : m < n := by
            rcases Nat.lt_or_ge m n with h | h
            · exact h
            · exact absurd (hpre.eq_of_length (by rw [bitsP_length]; omega)) hkp
          have t2 : ((m : Int) == (n : Int)) = false := beq_eq_false_iff_ne.2 (by omega)
          have hat : (bitsP a n)[k.length]? = some (a.testBit (31 - m)) := by rw [hkm]; exact bitsP_at a n m hmn
          have HHS := fun c (hc : a.testBit (31 - m) = c) => Hole.step HHo.out HC.out htr hkp hpre (by rw [hat, hc])
          have HQ1 := kidptr htr
          clear htr hkp hbits hkm hm' hpre hat hne
          cases hc : a.testBit (31 - m) with
          | true =>
            have HHN := Lib.hid (HHS true hc)
            obtain ⟨qq, HQ2⟩ := HQ1.2
            have HQ := Lib.hid HQ2
            clear HQ2
            clear HHS HQ1
            have HB : Hid (∀ W, Calls Tryz.prog 166 #[.int .u32 (a : Int), .int .i64 (m : Int)] W fun e w' => e = .returned (.int .i64 1) ∧ W = w') := Lib.hid (fun W => by
              have := tbit_any a m W ha (by omega)
              unfold bitN at this; rw [hc] at this; exact this)
            clear hc
            go_wp2
            refine wp_region_ext (by kernel_rfl) (by kernel_rfl) ?_
            repeat (go_big_quiet_step (first | (go_at_call 165; exact Ext.call (tcommon_any _ _ _ _ _ ha' ha hm32 hn))))
            refine wpQuiet_nil ?_
            rintro _ ⟨z3, rfl⟩
            go_wp2
            have hz3 := z3.below.size
            have g0 : w.heap.size < z3.w.heap.size := by omega
            have g1 : nb < z3.w.heap.size := by omega
            refine wp_region_ext (by kernel_rfl) (by kernel_rfl) ?_
            repeat (go_big_quiet_step (first | (go_at_call 166; exact Ext.callq (HB.out _))))
            refine wpQuiet_nil ?_
            rintro _ ⟨z4, rfl⟩
            go_wp2
            go_roundg (Tree.size (Tree.kid true l r))
            case measure => rw [HG.out]; exact Tree.kid_size _ _ _ _ _ _
            case rel => exact ⟨nb, 4 + 1, _, _, rfl, rfl, hnb, Lib.hid HQ.out.1, Lib.hid HQ.out.2, HHN, by simpa using (z4.cell _ (by simpa using g0)).trans ((z3.cell _ (by simpa using hsz)).trans p0), by simpa using (z4.cell _ (by simpa using g0)).trans ((z3.cell _ (by simpa using hsz)).trans p1), by have := z4.below.size; omega, Ext.lift z4 (Ext.lift z3 hbel)⟩
          | false =>
            have HHN := Lib.hid (HHS false hc)
            obtain ⟨qq, HQ2⟩ := HQ1.1
            have HQ := Lib.hid HQ2
            clear HQ2
            clear HHS HQ1
            have HB : Hid (∀ W, Calls Tryz.prog 166 #[.int .u32 (a : Int), .int .i64 (m : Int)] W fun e w' => e = .returned (.int .i64 0) ∧ W = w') := Lib.hid (fun W => by
              have := tbit_any a m W ha (by omega)
              unfold bitN at this; rw [hc] at this; exact this)
            clear hc
            go_wp2
            refine wp_region_ext (by kernel_rfl) (by kernel_rfl) ?_
            repeat (go_big_quiet_step (first | (go_at_call 165; exact Ext.call (tcommon_any _ _ _ _ _ ha' ha hm32 hn))))
            refine wpQuiet_nil ?_
            rintro _ ⟨z3, rfl⟩
            go_wp2
            have hz3 := z3.below.size
            have g0 : w.heap.size < z3.w.heap.size := by omega
            have g1 : nb < z3.w.heap.size := by omega
            refine wp_region_ext (by kernel_rfl) (by kernel_rfl) ?_
            repeat (go_big_quiet_step (first | (go_at_call 166; exact Ext.callq (HB.out _))))
            refine wpQuiet_nil ?_
            rintro _ ⟨z4, rfl⟩
            go_wp2
            go_roundg (Tree.size (Tree.kid false l r))
            case measure => rw [HG.out]; exact Tree.kid_size _ _ _ _ _ _
            case rel => exact ⟨nb, 4 + 0, _, _, rfl, rfl, hnb, Lib.hid HQ.out.1, Lib.hid HQ.out.2, HHN, by simpa using (z4.cell _ (by simpa using g0)).trans ((z3.cell _ (by simpa using hsz)).trans p0), by simpa using (z4.cell _ (by simpa using g0)).trans ((z3.cell _ (by simpa using hsz)).trans p1), by have := z4.below.size; omega, Ext.lift z4 (Ext.lift z3 hbel)⟩
        · have hls := com_less ha' ha hm32 hn (by rw [hbits]; exact hpre)
          have HPRE := Lib.hid hpre
          clear htr hkp hbits hkm hm' hpre
          have t3 : ((comLen a' m a n : Int) == (m : Int)) = false := beq_eq_false_iff_ne.2 (by omega)
          by_cases hmn : m = n
          · have t1 : ((a' : Int) == (a : Int)) = false := beq_eq_false_iff_ne.2 (by omega)
            clear hne hmn
            go_wp2
            refine wp_region_ext (by kernel_rfl) (by kernel_rfl) ?_
            repeat (go_big_quiet_step (first | (go_at_call 165; exact Ext.call (tcommon_any _ _ _ _ _ ha' ha hm32 hn))))
            refine wpQuiet_nil ?_
            rintro _ ⟨z3, rfl⟩
            go_wp2
            try rw [Exit.noGoto_ret]
            go_ret
            exact ⟨⟨_, _, _, rfl, rfl, hb, HC.out, HTR.out, HHo.out, .inr HPRE.out⟩, Ext.lift z3 hbel⟩
          · have t1 : ((m : Int) == (n : Int)) = false := beq_eq_false_iff_ne.2 (by omega)
            clear hne hmn
            go_wp2
            refine wp_region_ext (by kernel_rfl) (by kernel_rfl) ?_
            repeat (go_big_quiet_step (first | (go_at_call 165; exact Ext.call (tcommon_any _ _ _ _ _ ha' ha hm32 hn))))
            refine wpQuiet_nil ?_
            rintro _ ⟨z3, rfl⟩
            go_wp2
            try rw [Exit.noGoto_ret]
            go_ret
            exact ⟨⟨_, _, _, rfl, rfl, hb, HC.out, HTR.out, HHo.out, .inr HPRE.out⟩, Ext.lift z3 hbel⟩
end Go.Proofs.YtfbangojgjcbcaaGreatDoor
namespace Go.Proofs.YtfbangojgjcbcaaGreatDoor
open Go.RowKit Pl
/-- The trie at block T holds the tree t; all of it lies at base or behind. -/
structure TrieAt (w : World) (base T : Nat) (t : Tree) : Prop where
  lt : T < w.heap.size
  ge : base ≤ T
  root : ∃ q, w.cell? ⟨T, 0, none⟩ = some (.pointer q) ∧ Tr w q t
  limit : w.cell? ⟨T, 1, none⟩ = some (.int .i64 8)
  n : w.cell? ⟨T, 2, none⟩ = some (.int .i64 (t.keys.length : Int))
  is : w.cell? ⟨T, 3, none⟩ = some (.bool true)
  free : ∀ i, w.frozen? ⟨T, i, none⟩ = false
  inv : t.Inv
  nodup : t.blocks.Nodup
  out : T ∉ t.blocks
  blocks : ∀ b ∈ t.blocks, base ≤ b
theorem TrieAt.below {w w' : World} {base T : Nat} {t : Tree} (h : TrieAt w base T t) (hb : Below w.heap.size w w') : TrieAt w' base T t := by
  obtain ⟨h1, h2, ⟨q, h3, h4⟩, h5, h6, h7, h8, h9, h10, h11, h12⟩ := h
  exact ⟨Nat.lt_of_lt_of_le h1 hb.size, h2, ⟨q, (hb.cell (show T < _ from h1)).trans h3, h4.below hb⟩, (hb.cell (show T < _ from h1)).trans h5, (hb.cell (show T < _ from h1)).trans h6, (hb.cell (show T < _ from h1)).trans h7, fun i => (hb.frozen (show T < _ from h1)).trans (h8 i), h9, h10, h11, h12⟩
theorem TrieAt.blt {w : World} {base T : Nat} {t : Tree} (h : TrieAt w base T t) : ∀ b ∈ t.blocks, b < w.heap.size := by
  obtain ⟨q, _, h4⟩ := h.root
  exact h4.lt
theorem sc_other {X : World} {a b : Addr} {v : Value} (h : a ≠ b) : (X.setCell a v).cell? b = X.cell? b := by apply World.cell?_setCell_other; exact h
theorem sc_frozen {X : World} {a b : Addr} {v : Value} : (X.setCell a v).frozen? b = X.frozen? b := by simp
/-- All that is not the trie's lies as it lay. -/
def Kept (w w' : World) (T : Nat) (t : Tree) : Prop := ∀ x : Addr, x.block < w.heap.size → x.block ≠ T → x.block ∉ t.blocks → w'.cell? x = w.cell? x ∧ w'.frozen? x = w.frozen? x
theorem Hole.later {W W2 : World} {A0 A : Addr} {t s : Tree} {p : List Bool} (h : Hole W A0 A t s p) (hb : Below W.heap.size W W2) (hlt : ∀ b ∈ t.blocks, b < W.heap.size) (h0 : A0.block < W.heap.size) : Hole W2 A0 A t s p := by
  obtain ⟨h1, h2, h3, h4, h5, h6, h7⟩ := h
  refine ⟨h1, h2, h3, h4, h5, h6, fun b1 b2 w' ptr' hs hA hT hx hf => h7 b1 b2 w' ptr' (Nat.le_trans hb.size hs) hA hT (fun x n1 n2 n3 => ?_) (fun x hx => (hf x hx).trans (hb.frozen (hlt _ hx)))⟩
  refine (hx x n1 n2 n3).trans (hb.cell ?_)
  rcases n3 with n3 | rfl
  · exact hlt _ n3
  · exact h0
set_option maxRecDepth 100000 in
theorem there_any (T : Nat) (w : World) (h : w.cell? ⟨T, 3, none⟩ = some (.bool true)) :
    Calls Tryz.prog 162 #[.pointer (some ⟨T, 0, none⟩)] w fun e w' => e = .returned (.bool true) ∧ w = w' := by
  go_enter Tryz.func162, Tryz.ntmps162
  go_wp2
  go_ret
  exact ⟨rfl, rfl⟩
set_option maxRecDepth 100000 in
set_option maxHeartbeats 1000000 in
theorem insert_bad (T : Nat) (a n : Int) (v : Bool) (w : World) (hT : T < w.heap.size) (h : w.cell? ⟨T, 3, none⟩ = some (.bool true)) (ha : IsAddr a) (hm : mayP a n = false) :
    Calls Tryz.prog 129 #[.pointer (some ⟨T, 0, none⟩), .agg #[.int .u32 a, .int .i64 n], .bool v] w fun e w' => e = .returned (.int .i64 2) ∧ Below w.heap.size w w' := by
  have HI := Lib.hid (show (w.alloc (.cells #[.int .u32 a, .int .i64 n] 86)).cell? ⟨T, 3, none⟩ = some (.bool true) from (World.cell?_alloc_lt _ _ _ hT).trans h)
  have HM := Lib.hid hm
  clear hm
  go_enter Tryz.func129, Tryz.ntmps129
  go_wp2_with (first
    | (go_at_call 162; refine (there_any _ _ HI.out).mono ?_; rintro e w' ⟨rfl, rfl⟩)
    | (go_at_call 163; refine (ext_of (tmay_any _ _ _ ha)).mono ?_; rw [HM.out]; rintro e w' ⟨rfl, y, rfl⟩))
  go_ret
  exact ⟨rfl, (by repeat (first | assumption | exact Below.refl _ _ | apply Below.drew | apply Go.below_drewN | apply bel_alloc | apply Ext.lift | refine bel_setge ?_ (by omega) _ _))⟩
set_option maxRecDepth 100000 in
set_option maxHeartbeats 2000000 in
theorem insert_found (T a n base : Nat) (v : Bool) (t : Tree) (w : World) (ha : a < 4294967296) (hm : mayP a n = true) (h : TrieAt w base T t) (hbase : base ≤ w.heap.size) (hf : t.find (bitsP a n) = true) :
    Calls Tryz.prog 129 #[.pointer (some ⟨T, 0, none⟩), .agg #[.int .u32 (a : Int), .int .i64 (n : Int)], .bool v] w fun e w' => e = .returned (.int .i64 0) ∧ Kept w w' T t ∧ Below base w w' := by
  have hT := h.lt
  have HI := Lib.hid (show (w.alloc (.cells #[.int .u32 (a : Int), .int .i64 (n : Int)] 86)).cell? ⟨T, 3, none⟩ = some (.bool true) from (World.cell?_alloc_lt _ _ _ hT).trans h.is)
  have HM := Lib.hid hm
  have HF := Lib.hid hf
  have HT := Lib.hid h
  have hia : IsAddr (a : Int) := ⟨by omega, by omega⟩
  clear hm hf h
  go_enter Tryz.func129, Tryz.ntmps129
  go_wp2_with (first
    | (go_at_call 162; refine (there_any _ _ HI.out).mono ?_; rintro e w' ⟨rfl, rfl⟩)
    | (go_at_call 163; refine (ext_of (tmay_any _ _ _ hia)).mono ?_; rw [HM.out]; rintro e w' ⟨rfl, y, rfl⟩))
  have TY : TrieAt y.w base T t := HT.out.below (Ext.lift y (bel_alloc (Below.refl _ _) _))
  have hz := y.below.size
  simp only [World.size_alloc] at hz
  have p0 : y.w.cell? ⟨w.heap.size, 0, none⟩ = some (.int .u32 (a : Int)) := (y.cell _ (by simp)).trans (by simp)
  have p1 : y.w.cell? ⟨w.heap.size, 1, none⟩ = some (.int .i64 (n : Int)) := (y.cell _ (by simp)).trans (by simp)
  obtain ⟨root, hr, htr⟩ := TY.root
  refine (place_any T a n root t _ ha HM.out TY.lt hr htr TY.inv TY.nodup TY.out).mono ?_
  rintro e W ⟨⟨A, s, q, rfl, hsp, hAb, hAc, hTs, hH, hS⟩, hb⟩
  clear hr htr TY
  obtain ⟨Ab, Ao, sp⟩ := A
  obtain rfl : sp = none := hsp
  have hbw : Below w.heap.size w W := (Ext.lift y (bel_alloc (Below.refl _ _) _)).trans (hb.mono (by omega))
  have HBW := Lib.hid hbw
  clear hbw
  have hby : Below base w W := ((Ext.lift y (bel_alloc (Below.refl _ _) _)).mono hbase).trans (hb.mono (by omega))
  have r0 := (hb.cell (p := ⟨w.heap.size, 0, none⟩) (by simp; omega)).trans p0
  have r1 := (hb.cell (p := ⟨w.heap.size, 1, none⟩) (by simp; omega)).trans p1
  have rA := (hb.cell (p := ⟨Ab, Ao, none⟩) hAb).trans hAc
  have hTW := hTs.below hb
  have hsf := hH.find.trans HF.out
  have hsub := hH.sub
  clear p0 p1 hAc hTs hH
  cases s with
  | nil => simp [Tree.find] at hsf
  | node nb k has l r =>
    have hkp : k = bitsP a n := by
      rcases hS with h | h
      · exact h
      · exfalso
        unfold Tree.find at hsf
        rw [if_neg (fun e => h (by rw [e]; exact List.prefix_refl _)), if_neg h] at hsf
        cases hsf
    subst hkp
    obtain rfl : has = true := by unfold Tree.find at hsf; rwa [if_pos rfl] at hsf
    obtain ⟨rfl, hnb, a', v', q0, q1, ha', hm', hbits, c0, c1, c2, c3, c4, c5, hfz, hl, hr⟩ := hTW
    have hlen : (bitsP a n).length = n := bitsP_length a n
    rw [hlen] at hm' hbits c1
    obtain ⟨rfl, _⟩ := bitsP_inj ha' ha hm' HM.out hbits
    have hge : base ≤ nb := HT.out.blocks nb (hsub nb (by simp [Tree.blocks]))
    have HB := Lib.hid hby
    have HNB := Lib.hid (hsub nb (by simp [Tree.blocks]))
    have hf2 := hfz 1
    have hf0 := hfz 2
    clear hlen hm' hbits c4 c5 hl hr hsf hsub hby hS hfz
    go_wp2
    go_quiet (fail)
    go_wp2
    go_ret
    refine ⟨rfl, fun x h1 h2 h3 => ⟨(sc_other (fun e => h3 (by rw [← e]; exact HNB.out))).trans (HBW.out.cell h1), sc_frozen.trans (HBW.out.frozen h1)⟩, (Go.below_drewN HB.out _).setCell (p := ⟨nb, 2, none⟩) hge _⟩
set_option maxRecDepth 100000 in
set_option maxHeartbeats 2000000 in
theorem insert_full (T a n base : Nat) (v : Bool) (t : Tree) (w : World) (ha : a < 4294967296) (hm : mayP a n = true) (h : TrieAt w base T t) (hf : t.find (bitsP a n) = false) (h8 : 8 ≤ t.keys.length) :
    Calls Tryz.prog 129 #[.pointer (some ⟨T, 0, none⟩), .agg #[.int .u32 (a : Int), .int .i64 (n : Int)], .bool v] w fun e w' => e = .returned (.int .i64 5) ∧ Below w.heap.size w w' := by
  have hT := h.lt
  have HI := Lib.hid (show (w.alloc (.cells #[.int .u32 (a : Int), .int .i64 (n : Int)] 86)).cell? ⟨T, 3, none⟩ = some (.bool true) from (World.cell?_alloc_lt _ _ _ hT).trans h.is)
  have HM := Lib.hid hm
  have HF := Lib.hid hf
  have HT := Lib.hid h
  have hia : IsAddr (a : Int) := ⟨by omega, by omega⟩
  clear hm hf h
  go_enter Tryz.func129, Tryz.ntmps129
  go_wp2_with (first
    | (go_at_call 162; refine (there_any _ _ HI.out).mono ?_; rintro e w' ⟨rfl, rfl⟩)
    | (go_at_call 163; refine (ext_of (tmay_any _ _ _ hia)).mono ?_; rw [HM.out]; rintro e w' ⟨rfl, y, rfl⟩))
  have TY : TrieAt y.w base T t := HT.out.below (Ext.lift y (bel_alloc (Below.refl _ _) _))
  have hz := y.below.size
  simp only [World.size_alloc] at hz
  have p0 : y.w.cell? ⟨w.heap.size, 0, none⟩ = some (.int .u32 (a : Int)) := (y.cell _ (by simp)).trans (by simp)
  have p1 : y.w.cell? ⟨w.heap.size, 1, none⟩ = some (.int .i64 (n : Int)) := (y.cell _ (by simp)).trans (by simp)
  obtain ⟨root, hr, htr⟩ := TY.root
  refine (place_any T a n root t _ ha HM.out TY.lt hr htr TY.inv TY.nodup TY.out).mono ?_
  rintro e W ⟨⟨A, s, q, rfl, hsp, hAb, hAc, hTs, hH, hS⟩, hb⟩
  clear hr htr TY
  obtain ⟨Ab, Ao, sp⟩ := A
  obtain rfl : sp = none := hsp
  have hby : Below w.heap.size w W := (Ext.lift y (bel_alloc (Below.refl _ _) _)).trans (hb.mono (by omega))
  have r0 := (hb.cell (p := ⟨w.heap.size, 0, none⟩) (by simp; omega)).trans p0
  have r1 := (hb.cell (p := ⟨w.heap.size, 1, none⟩) (by simp; omega)).trans p1
  have rA := (hb.cell (p := ⟨Ab, Ao, none⟩) hAb).trans hAc
  have hTW := hTs.below hb
  have hsf := hH.find.trans HF.out
  have hsub := hH.sub
  clear p0 p1 hAc hTs hH
  have TW : TrieAt W base T t := (HT.out.below (Ext.lift y (bel_alloc (Below.refl _ _) _))).below hb
  have t1 := TW.limit
  have t2 := TW.n
  have d8 : (8 : Int) ≤ (t.keys.length : Int) := by omega
  generalize t.keys.length = K at *
  have HB := Lib.hid hby
  cases s with
  | nil =>
    obtain rfl : q = none := hTW
    clear hS hsub hsf hby TW
    go_wp2
    go_quiet (fail)
    go_wp2
    go_quiet (fail)
    go_wp2
    go_ret
    exact ⟨rfl, Go.below_drewN (Go.below_drewN HB.out _) _⟩
  | node nb k has l r =>
    obtain ⟨rfl, hnb, a', v', q0, q1, ha', hm', hbits, c0, c1, c2, c3, c4, c5, hfz, hl, hr⟩ := hTW
    obtain ⟨m, hkm⟩ : ∃ m, k.length = m := ⟨_, rfl⟩
    rw [hkm] at c1 hm' hbits
    by_cases hkp : k = bitsP a n
    · obtain rfl : has = false := by unfold Tree.find at hsf; rwa [if_pos hkp] at hsf
      obtain ⟨rfl, rfl⟩ := bitsP_inj ha' ha hm' HM.out (hbits.trans hkp)
      clear hS hsub hsf hby TW c4 c5 hl hr hfz hkp hkm hbits hm'
      go_wp2
      go_quiet (fail)
      go_wp2
      go_quiet (fail)
      go_wp2
      go_ret
      exact ⟨rfl, Go.below_drewN (Go.below_drewN HB.out _) _⟩
    · by_cases he : a' = a
      · have hmn : ¬ m = n := fun e => hkp (by rw [← hbits, he, e])
        have t3 : ((m : Int) == (n : Int)) = false := beq_eq_false_iff_ne.2 (by omega)
        clear hS hsub hsf hby TW c4 c5 hl hr hfz hkp hkm hbits hm'
        subst he
        clear hmn
        go_wp2
        go_quiet (fail)
        go_wp2
        go_quiet (fail)
        go_wp2
        go_ret
        exact ⟨rfl, Go.below_drewN (Go.below_drewN HB.out _) _⟩
      · have t3 : ((a' : Int) == (a : Int)) = false := beq_eq_false_iff_ne.2 (by omega)
        clear hS hsub hsf hby TW c4 c5 hl hr hfz hkp hkm hbits hm' he
        go_wp2
        go_quiet (fail)
        go_wp2
        go_quiet (fail)
        go_wp2
        go_ret
        exact ⟨rfl, Go.below_drewN (Go.below_drewN HB.out _) _⟩
end Go.Proofs.YtfbangojgjcbcaaGreatDoor
namespace Go.Proofs.YtfbangojgjcbcaaGreatDoor
open Go.RowKit Pl
theorem Tr.free {w : World} : ∀ {t : Tree} {p : Option Addr}, Tr w p t → ∀ b ∈ t.blocks, ∀ i, w.frozen? ⟨b, i, none⟩ = false
  | .nil, _, _, b, hb => by simp [Tree.blocks] at hb
  | .node b k has l r, p, h, x, hx => by
    obtain ⟨rfl, hb, a, v, p0, p1, ha, hm, hbits, c0, c1, c2, c3, c4, c5, hf, hl, hr⟩ := h
    simp only [Tree.blocks, List.mem_cons, List.mem_append] at hx
    rcases hx with rfl | hx | hx
    · exact hf
    · exact Tr.free hl x hx
    · exact Tr.free hr x hx
theorem TrieAt.grow {W w' : World} {base T : Nat} {t s : Tree} {A : Addr} {p : List Bool} (h : TrieAt W base T t) (hH : Hole W ⟨T, 0, none⟩ A t s p) (b1 b2 : Nat) (ptr' : Option Addr)
    (hs : W.heap.size ≤ w'.heap.size) (hA : w'.cell? A = some (.pointer ptr')) (hT : Tr w' ptr' (s.ins b1 b2 p))
    (hx : ∀ x : Addr, x ≠ A → x.block ∉ s.blocks → (x.block ∈ t.blocks ∨ x = ⟨T, 0, none⟩) → w'.cell? x = W.cell? x) (hfz : ∀ x : Addr, x.block ∈ t.blocks → w'.frozen? x = W.frozen? x)
    (h1 : w'.cell? ⟨T, 1, none⟩ = some (.int .i64 8)) (h2 : w'.cell? ⟨T, 2, none⟩ = some (.int .i64 ((t.ins b1 b2 p).keys.length : Int))) (h3 : w'.cell? ⟨T, 3, none⟩ = some (.bool true)) (hfT : ∀ i, w'.frozen? ⟨T, i, none⟩ = false)
    (hp : p.length ≤ 32) (hb1 : W.heap.size ≤ b1) (hb2 : W.heap.size ≤ b2) (h12 : b1 ≠ b2) (hbase : base ≤ W.heap.size) : TrieAt w' base T (t.ins b1 b2 p) := by
  obtain ⟨root, hr, htr⟩ := hH.put b1 b2 w' ptr' hs hA hT hx hfz
  have hlt := h.lt
  have hbl := h.blt
  refine ⟨by omega, h.ge, ⟨root, hr, htr⟩, h1, h2, h3, hfT, Tree.ins_inv hp h.inv, Tree.ins_nodup h12 h.nodup (fun e => ?_) (fun e => ?_), fun e => ?_, fun b hb => ?_⟩
  · have := hbl _ e; omega
  · have := hbl _ e; omega
  · rcases Tree.ins_blocks e with e | e | e
    · omega
    · omega
    · exact h.out e
  · rcases Tree.ins_blocks hb with e | e | e
    · omega
    · omega
    · exact h.blocks b e
/-- What came about since W: the trie's number, the cell A, the blocks L, and new ones. -/
structure Put (W X : World) (T : Nat) (A : Addr) (L : List Nat) (k : Int) : Prop where
  size : W.heap.size ≤ X.heap.size
  cell : ∀ x : Addr, x.block < W.heap.size → x.block ∉ L → x ≠ ⟨T, 2, none⟩ → x ≠ A → X.cell? x = W.cell? x
  frozen : ∀ x : Addr, x.block < W.heap.size → X.frozen? x = W.frozen? x
  n : X.cell? ⟨T, 2, none⟩ = some (.int .i64 k)
  here : (X.cell? A).isSome = true
  tlt : T < W.heap.size
  alt : A.block < W.heap.size
theorem size_setCell (X : World) (a : Addr) (v : Value) : (X.setCell a v).heap.size = X.heap.size := by simp [World.setCell]
theorem sc_some {X : World} {a b : Addr} {v : Value} (h : (X.cell? b).isSome = true) : ((X.setCell a v).cell? b).isSome = true := by
  by_cases e : a = b
  · subst e; rw [World.cell?_setCell_same' _ _ _ h]; rfl
  · rw [sc_other e]; exact h
theorem Put.start {W : World} {T : Nat} {A : Addr} {L : List Nat} {k : Int} {v u : Value} (i : Nat) (h : W.cell? ⟨T, 2, none⟩ = some v) (hA : W.cell? A = some u) (hT : T < W.heap.size) (hAl : A.block < W.heap.size) : Put W ((W.drewN i).setCell ⟨T, 2, none⟩ (.int .i64 k)) T A L k :=
  ⟨by rw [size_setCell]; exact Nat.le_refl _, fun x _ _ h2 _ => (sc_other (Ne.symm h2)).trans rfl, fun x _ => sc_frozen, World.cell?_setCell_same' _ _ _ (by show ((W.drewN i).cell? _).isSome = true; rw [World.cell?_drewN, h]; rfl), sc_some (by rw [World.cell?_drewN, hA]; rfl), hT, hAl⟩
section
variable {W X : World} {T : Nat} {A : Addr} {L : List Nat} {k : Int}
theorem Put.drewN (h : Put W X T A L k) (j : Nat) : Put W (X.drewN j) T A L k := ⟨h.size, h.cell, h.frozen, h.n, h.here, h.tlt, h.alt⟩
theorem Put.drew (h : Put W X T A L k) : Put W X.drew T A L k := ⟨h.size, h.cell, h.frozen, h.n, h.here, h.tlt, h.alt⟩
theorem Put.below (h : Put W X T A L k) {Z : World} (hb : Below X.heap.size X Z) : Put W Z T A L k :=
  ⟨Nat.le_trans h.size hb.size, fun x h1 h2 h3 h4 => (hb.cell (Nat.lt_of_lt_of_le h1 h.size)).trans (h.cell x h1 h2 h3 h4), fun x h1 => (hb.frozen (Nat.lt_of_lt_of_le h1 h.size)).trans (h.frozen x h1), (hb.cell (Nat.lt_of_lt_of_le (show T < _ from h.tlt) h.size)).trans h.n,
    by rw [hb.cell (Nat.lt_of_lt_of_le h.alt h.size)]; exact h.here, h.tlt, h.alt⟩
theorem Put.alloc (h : Put W X T A L k) (o : Obj) : Put W (X.alloc o) T A L k := h.below ((Below.refl _ _).alloc (Nat.le_refl _) o)
theorem Put.setA (h : Put W X T A L k) (hA : A ≠ ⟨T, 2, none⟩) (v : Value) : Put W (X.setCell A v) T A L k :=
  ⟨by rw [size_setCell]; exact h.size, fun x h1 h2 h3 h4 => (sc_other (Ne.symm h4)).trans (h.cell x h1 h2 h3 h4), fun x h1 => sc_frozen.trans (h.frozen x h1), (sc_other hA).trans h.n, sc_some h.here, h.tlt, h.alt⟩
theorem Put.gotA (h : Put W X T A L k) (v : Value) : (X.setCell A v).cell? A = some v := World.cell?_setCell_same' _ _ _ h.here
theorem Put.setL (h : Put W X T A L k) {b : Nat} (i : Nat) (hb : b ∈ L) (hT : T ∉ L) (v : Value) : Put W (X.setCell ⟨b, i, none⟩ v) T A L k :=
  ⟨by rw [size_setCell]; exact h.size, fun x h1 h2 h3 h4 => (sc_other (fun e => h2 (by rw [← e]; exact hb))).trans (h.cell x h1 h2 h3 h4), fun x h1 => sc_frozen.trans (h.frozen x h1),
    (sc_other (fun e => hT (by injection e with e1; rw [← e1]; exact hb))).trans h.n, sc_some h.here, h.tlt, h.alt⟩
theorem Put.setNew (h : Put W X T A L k) {b : Nat} (i : Nat) (hb : W.heap.size ≤ b) (v : Value) : Put W (X.setCell ⟨b, i, none⟩ v) T A L k :=
  ⟨by rw [size_setCell]; exact h.size, fun x h1 h2 h3 h4 => (sc_other (fun e => by rw [← e] at h1; exact absurd h1 (by show ¬ b < _; omega))).trans (h.cell x h1 h2 h3 h4), fun x h1 => sc_frozen.trans (h.frozen x h1),
    (sc_other (fun e => by injection e with e1; have := h.tlt; omega)).trans h.n, sc_some h.here, h.tlt, h.alt⟩
end
theorem TrieAt.put {w W X : World} (hbw : Below w.heap.size w W) {base T : Nat} {t s : Tree} {A : Addr} {p : List Bool} {L : List Nat} {K : Int} (h : TrieAt W base T t) (hH : Hole W ⟨T, 0, none⟩ A t s p) (P : Put W X T A L K) (hL : ∀ b ∈ L, b ∈ s.blocks)
    {b1 b2 : Nat} {ptr' : Option Addr} (hA : X.cell? A = some (.pointer ptr')) (hT : Tr X ptr' (s.ins b1 b2 p)) (hK : K = ((t.ins b1 b2 p).keys.length : Int))
    (hp : p.length ≤ 32) (hb1 : W.heap.size ≤ b1) (hb2 : W.heap.size ≤ b2) (h12 : b1 ≠ b2) (hbase : base ≤ W.heap.size) : TrieAt X base T (t.ins b1 b2 p) ∧ Kept w X T t := by
  have hTl : T ∉ L := fun e => h.out (hH.sub _ (hL _ e))
  have hT0 : ∀ i, i ≠ 0 → (⟨T, i, none⟩ : Addr) ≠ A := fun i hi e => by
    rcases hH.here with e' | e'
    · rw [e'] at e; injection e with _ e2; exact hi e2
    · exact h.out (by rw [← e] at e'; exact e')
  have hkept : Kept w X T t := fun x h1 h2 h3 => by
    have hx : x.block < W.heap.size := Nat.lt_of_lt_of_le h1 hbw.size
    refine ⟨(P.cell x hx (fun e => h3 (hH.sub _ (hL _ e))) (fun e => h2 (by rw [e])) (fun e => ?_)).trans (hbw.cell h1), (P.frozen x hx).trans (hbw.frozen h1)⟩
    rcases hH.here with e' | e'
    · exact h2 (by rw [e, e'])
    · exact h3 (by rw [e]; exact e')
  refine ⟨?_, hkept⟩
  refine h.grow hH b1 b2 ptr' P.size hA hT (fun x h1 h2 h3 => P.cell x ?_ (fun e => h2 (hL _ e)) ?_ h1) (fun x hx => P.frozen x (h.blt _ hx)) ?_ (by rw [← hK]; exact P.n) ?_ (fun i => (P.frozen _ h.lt).trans (h.free i)) hp hb1 hb2 h12 hbase
  · rcases h3 with h3 | rfl
    · exact h.blt _ h3
    · exact h.lt
  · rcases h3 with h3 | rfl
    · intro e; rw [e] at h3; exact h.out h3
    · intro e; injection e with _ e2; omega
  · exact (P.cell _ h.lt hTl (fun e => by injection e with _ e2; omega) (hT0 1 (by decide))).trans h.limit
  · exact (P.cell _ h.lt hTl (fun e => by injection e with _ e2; omega) (hT0 3 (by decide))).trans h.is
/-- What lay there still lies there. -/
theorem Put.tree {W X : World} {base T : Nat} {t s : Tree} {A : Addr} {p : List Bool} {K : Int} (h : TrieAt W base T t) (hH : Hole W ⟨T, 0, none⟩ A t s p) (P : Put W X T A [] K) {q : Option Addr} {u : Tree} (hu : ∀ b ∈ u.blocks, b ∈ s.blocks) (hT : Tr W q u) : Tr X q u :=
  hT.keep P.size fun x hx => ⟨P.cell x (h.blt _ (hH.sub _ (hu _ hx))) (by simp) (fun e => by rw [e] at hx; exact h.out (hH.sub _ (hu _ hx))) (fun e => hH.out (by rw [← e]; exact hu _ hx)), P.frozen x (h.blt _ (hH.sub _ (hu _ hx)))⟩
theorem wp_world {P : Program} {c : Code} {Q : Exit → Act → World → Prop} {a : Act} {w : World} (h : ∀ X, X = w → c.wp P Q a X) : c.wp P Q a w := h w rfl
theorem new_kept {X w1 : World} {cs : Array Value} {t : TypeId} (hb : Below (X.alloc (.cells cs t)).drew.heap.size (X.alloc (.cells cs t)).drew w1) (i : Nat) : w1.cell? ⟨X.heap.size, i, none⟩ = cs[i]? ∧ w1.frozen? ⟨X.heap.size, i, none⟩ = false := by
  have hlt : X.heap.size < (X.alloc (.cells cs t)).drew.heap.size := by simp
  exact ⟨(hb.cell (p := ⟨X.heap.size, i, none⟩) hlt).trans (World.cell?_alloc_at (w := X) _ _ _ _ rfl), (hb.frozen (p := ⟨X.heap.size, i, none⟩) hlt).trans (World.frozen?_alloc_at (w := X) _ _ _ _ rfl)⟩
theorem sc2_other {X : World} {b c : Nat} {v1 v2 : Value} (i : Nat) (h : c < b) : ((X.setCell ⟨b, 0, none⟩ v1).setCell ⟨b, 1, none⟩ v2).cell? ⟨c, i, none⟩ = X.cell? ⟨c, i, none⟩ := by
  rw [sc_other (fun e => by injection e with e1; omega), sc_other (fun e => by injection e with e1; omega)]
def CRel (X : World) (cA cL : Nat) (c : Value) (wx : World) : Prop :=
  ∃ C : Nat, c = .pointer (some ⟨C, 0, none⟩) ∧ X.heap.size ≤ C ∧ C < wx.heap.size ∧ wx.cell? ⟨C, 0, none⟩ = some (.int .u32 (cA : Int)) ∧ wx.cell? ⟨C, 1, none⟩ = some (.int .i64 (cL : Int)) ∧ Below X.heap.size X wx
theorem CRel.one {X w1 : World} {cA cL : Nat} {t : TypeId} (hb : Below X.drew.heap.size X.drew w1) : CRel X cA cL (.pointer (some ⟨w1.heap.size, 0, none⟩)) (w1.alloc (.cells #[.int .u32 (cA : Int), .int .i64 (cL : Int)] t)) :=
  have hs : X.heap.size ≤ w1.heap.size := hb.size
  ⟨w1.heap.size, rfl, hs, by simp, World.cell?_alloc_at _ _ _ _ rfl, World.cell?_alloc_at _ _ _ _ rfl, (below_undrew hb).alloc hs _⟩
theorem CRel.two {X w1 : World} {cA cL : Nat} {t : TypeId} {cs : Array Value} (h2 : cs.size = 2) (hb : Below (X.alloc (.cells cs t)).drew.heap.size (X.alloc (.cells cs t)).drew w1) :
    CRel X cA cL (.pointer (some ⟨X.heap.size, 0, none⟩)) ((w1.setCell ⟨X.heap.size, 0, none⟩ (.int .u32 (cA : Int))).setCell ⟨X.heap.size, 1, none⟩ (.int .i64 (cL : Int))) := by
  have hs : X.heap.size + 1 ≤ w1.heap.size := by have := hb.size; simp at this; omega
  have g0 := (new_kept hb 0).1
  have g1 := (new_kept hb 1).1
  have s0 : (w1.cell? ⟨X.heap.size, 0, none⟩).isSome = true := by rw [g0]; simp [h2]
  have s1 : (w1.cell? ⟨X.heap.size, 1, none⟩).isSome = true := by rw [g1]; simp [h2]
  refine ⟨X.heap.size, rfl, Nat.le_refl _, by rw [size_setCell, size_setCell]; omega, ?_, World.cell?_setCell_same' _ _ _ (sc_some s1), ?_⟩
  · rw [sc_other (fun e => by injection e with _ e2; omega)]; exact World.cell?_setCell_same' _ _ _ s0
  · have h0 : Below X.heap.size X w1 := (((Below.refl _ _).alloc (Nat.le_refl _) _).drew).trans (hb.mono (by simp))
    exact (h0.setCell (p := ⟨X.heap.size, 0, none⟩) (Nat.le_refl _) _).setCell (p := ⟨X.heap.size, 1, none⟩) (Nat.le_refl _) _
def NewRes (w : World) (base T : Nat) (t : Tree) (p : List Bool) (e : Ending) (w' : World) : Prop := e = .returned (.int .i64 0) ∧ ∃ b1 b2, TrieAt w' base T (t.ins b1 b2 p) ∧ Kept w w' T t
set_option maxRecDepth 100000 in
set_option maxHeartbeats 8000000 in
theorem insert_new (T a n base : Nat) (v : Bool) (t : Tree) (w : World) (ha : a < 4294967296) (hm : mayP a n = true) (h : TrieAt w base T t) (hbase : base ≤ w.heap.size) (hf : t.find (bitsP a n) = false) (h8 : t.keys.length < 8) :
    Calls Tryz.prog 129 #[.pointer (some ⟨T, 0, none⟩), .agg #[.int .u32 (a : Int), .int .i64 (n : Int)], .bool v] w fun e w' => NewRes w base T t (bitsP a n) e w' ∧ Below base w w' := by
  have hT := h.lt
  have HI := Lib.hid (show (w.alloc (.cells #[.int .u32 (a : Int), .int .i64 (n : Int)] 86)).cell? ⟨T, 3, none⟩ = some (.bool true) from (World.cell?_alloc_lt _ _ _ hT).trans h.is)
  have HM := Lib.hid hm
  have HF := Lib.hid hf
  have HT := Lib.hid h
  have hia : IsAddr (a : Int) := ⟨by omega, by omega⟩
  clear hm hf h
  go_enter Tryz.func129, Tryz.ntmps129
  go_wp2_with (first
    | (go_at_call 162; refine (there_any _ _ HI.out).mono ?_; rintro e w' ⟨rfl, rfl⟩)
    | (go_at_call 163; refine (ext_of (tmay_any _ _ _ hia)).mono ?_; rw [HM.out]; rintro e w' ⟨rfl, y, rfl⟩))
  have TY : TrieAt y.w base T t := HT.out.below (Ext.lift y (bel_alloc (Below.refl _ _) _))
  have hz := y.below.size
  simp only [World.size_alloc] at hz
  have p0 : y.w.cell? ⟨w.heap.size, 0, none⟩ = some (.int .u32 (a : Int)) := (y.cell _ (by simp)).trans (by simp)
  have p1 : y.w.cell? ⟨w.heap.size, 1, none⟩ = some (.int .i64 (n : Int)) := (y.cell _ (by simp)).trans (by simp)
  obtain ⟨root, hr, htr⟩ := TY.root
  refine (place_any T a n root t _ ha HM.out TY.lt hr htr TY.inv TY.nodup TY.out).mono ?_
  rintro e W ⟨⟨A, s, q, rfl, hsp, hAb, hAc, hTs, hH, hS⟩, hb⟩
  clear hr htr TY
  obtain ⟨Ab, Ao, sp⟩ := A
  obtain rfl : sp = none := hsp
  have hbw : Below w.heap.size w W := (Ext.lift y (bel_alloc (Below.refl _ _) _)).trans (hb.mono (by omega))
  have HBW := Lib.hid hbw
  clear hbw
  have hby : Below base w W := ((Ext.lift y (bel_alloc (Below.refl _ _) _)).mono hbase).trans (hb.mono (by omega))
  have r0 := (hb.cell (p := ⟨w.heap.size, 0, none⟩) (by simp; omega)).trans p0
  have r1 := (hb.cell (p := ⟨w.heap.size, 1, none⟩) (by simp; omega)).trans p1
  have rA := (hb.cell (p := ⟨Ab, Ao, none⟩) hAb).trans hAc
  have hTW := hTs.below hb
  have hsf := hH.find.trans HF.out
  have hsub := hH.sub
  have hlater := hH.later hb (fun b hb' => (HT.out.below (Ext.lift y (bel_alloc (Below.refl _ _) _))).blt b hb') (show T < _ by omega)
  have hAt := hH.out
  have hAh := hH.here
  clear p0 p1 hAc hTs hH
  have TW : TrieAt W base T t := (HT.out.below (Ext.lift y (bel_alloc (Below.refl _ _) _))).below hb
  have HTW := Lib.hid TW
  have HL := Lib.hid hlater
  have t1 := TW.limit
  have t2 := TW.n
  have f2 := TW.free 2
  have hTlt := TW.lt
  have hbz := hb.size
  have hKf : Hid (∀ b1 b2, (t.ins b1 b2 (bitsP a n)).keys.length = t.keys.length + 1) := Lib.hid (fun b1 b2 => by rw [Tree.ins_length, HF.out]; simp)
  have HK := Lib.hid (show t.keys.length = t.keys.length from rfl)
  have hTA : ¬ (T = Ab ∧ Ao = 2) := fun e => by
    rcases hAh with e' | e'
    · injection e' with _ e2; omega
    · exact TW.out (by rw [e.1]; exact e')
  have fA : W.frozen? ⟨Ab, Ao, none⟩ = false := by
    rcases hAh with e' | e'
    · injection e' with e1 e2; rw [e1]; exact TW.free Ao
    · obtain ⟨_, _, htr⟩ := TW.root
      exact htr.free _ e' _
  have hAlt : Ab < W.heap.size := Nat.lt_of_lt_of_le (show Ab < y.w.heap.size from hAb) hbz
  obtain ⟨K, hK⟩ : ∃ K, t.keys.length = K := ⟨_, rfl⟩
  rw [hK] at t2 h8
  have hKh := Lib.hid hK
  clear hK HK hlater
  have HB := Lib.hid hby
  have d8 : (K : Int) < (8 : Int) := by omega
  have r0' : W.frozen? ⟨w.heap.size, 0, none⟩ = W.frozen? ⟨w.heap.size, 0, none⟩ := rfl
  clear r0'
  have hA2 : (⟨Ab, Ao, none⟩ : Addr) ≠ ⟨T, 2, none⟩ := fun e => by injection e with e1 e2; exact hTA ⟨e1.symm, e2⟩
  have HA2 := Lib.hid hA2
  have HKK : Hid (∀ b1 b2, ((K : Int) + 1) = ((t.ins b1 b2 (bitsP a n)).keys.length : Int)) := Lib.hid (fun b1 b2 => by rw [hKf.out, hKh.out]; simp)
  have hgA : base ≤ Ab := by
    rcases hAh with e' | e'
    · injection e' with e1; rw [e1]; exact TW.ge
    · exact TW.blocks _ e'
  have hgT := TW.ge
  have hAw : Ab < w.heap.size := by
    rcases hAh with e' | e'
    · injection e' with e1; rw [e1]; exact hT
    · exact HT.out.blt _ e'
  have hbW : base ≤ W.heap.size := by omega
  have hpl : (bitsP a n).length ≤ 32 := by rw [bitsP_length]; exact (may_mod HM.out).1
  clear hTA hA2 hAt
  cases s with
  | nil =>
    obtain rfl : q = none := hTW
    clear hS hsub hsf hby TW
    have fin : ∀ X, Put W X T ⟨Ab, Ao, none⟩ [] ((K : Int) + 1) → X.cell? ⟨Ab, Ao, none⟩ = some (.pointer (some ⟨W.heap.size, 0, none⟩)) → X.heap.size = W.heap.size →
        TrieAt (X.alloc (.cells #[.int .u32 (a : Int), .int .i64 (n : Int), .bool v, .bool true, .pointer none, .pointer none] 218)) base T (t.ins W.heap.size (W.heap.size + 1) (bitsP a n)) ∧ Kept w (X.alloc (.cells #[.int .u32 (a : Int), .int .i64 (n : Int), .bool v, .bool true, .pointer none, .pointer none] 218)) T t := fun X P hXA hXs =>
      HTW.out.put HBW.out HL.out (P.alloc _) (by simp) ((World.cell?_alloc_lt _ _ _ (by rw [hXs]; exact hAlt)).trans hXA) ⟨rfl, by simp [hXs], a, v, none, none, ha, by rw [bitsP_length]; exact HM.out, by rw [bitsP_length], by rw [World.cell?_alloc_at _ _ _ _ hXs.symm]; rfl, by rw [World.cell?_alloc_at _ _ _ _ hXs.symm, bitsP_length]; rfl, by rw [World.cell?_alloc_at _ _ _ _ hXs.symm]; rfl, by rw [World.cell?_alloc_at _ _ _ _ hXs.symm]; rfl, by rw [World.cell?_alloc_at _ _ _ _ hXs.symm]; rfl, by rw [World.cell?_alloc_at _ _ _ _ hXs.symm]; rfl, fun i => World.frozen?_alloc_at _ _ _ _ hXs.symm, rfl, rfl⟩ (HKK.out _ _) hpl (Nat.le_refl _) (by omega) (by omega) hbW
    have HFIN := Lib.hid fin
    clear fin
    rcases hAh with e' | e'
    · injection e' with e1 e2
      have e1' := e1.symm
      have e2' := e2.symm
      subst e1' e2'
      clear e1 e2
      go_wp2
      go_quiet (fail)
      go_wp2
      go_quiet (fail)
      go_wp2
      go_quiet (fail)
      go_wp2
      go_ret
      exact ⟨⟨rfl, _, _, HFIN.out _ (((Put.start _ t2 rA hTlt hAlt).drewN _).setA HA2.out _) (((Put.start (L := []) (k := (K : Int) + 1) _ t2 rA hTlt hAlt).drewN _).gotA _) (by simp)⟩, ((Go.below_drewN ((Go.below_drewN HB.out _).setCell (p := ⟨T, 2, none⟩) hgT _) _).setCell (p := ⟨T, 0, none⟩) hgA _).alloc (by simp; omega) _⟩
    · have hne : ¬ T = Ab := fun e => HTW.out.out (by rw [e]; exact e')
      have hne' : ¬ Ab = T := fun e => hne e.symm
      clear e'
      go_wp2
      go_quiet (fail)
      go_wp2
      go_quiet (fail)
      go_wp2
      go_quiet (fail)
      go_wp2
      go_ret
      exact ⟨⟨rfl, _, _, HFIN.out _ (((Put.start _ t2 rA hTlt hAlt).drewN _).setA HA2.out _) (((Put.start (L := []) (k := (K : Int) + 1) _ t2 rA hTlt hAlt).drewN _).gotA _) (by simp)⟩, ((Go.below_drewN ((Go.below_drewN HB.out _).setCell (p := ⟨T, 2, none⟩) hgT _) _).setCell (p := ⟨Ab, Ao, none⟩) hgA _).alloc (by simp; omega) _⟩
  | node nb k has l r =>
    have HTWS := Lib.hid hTW
    obtain ⟨rfl, hnb, a', v', q0, q1, ha', hm', hbits, c0, c1, c2, c3, c4, c5, hfz, hl, hr⟩ := hTW
    obtain ⟨m, hkm⟩ : ∃ m, k.length = m := ⟨_, rfl⟩
    rw [hkm] at c1 hm' hbits
    have hbt : nb ∈ t.blocks := hsub nb (by simp [Tree.blocks])
    have hnT : ¬ T = nb := fun e => TW.out (by rw [e]; exact hbt)
    have hnT' : ¬ nb = T := fun e => hnT e.symm
    have hge : base ≤ nb := TW.blocks nb hbt
    by_cases hkp : k = bitsP a n
    · obtain rfl : has = false := by unfold Tree.find at hsf; rwa [if_pos hkp] at hsf
      obtain ⟨rfl, rfl⟩ := bitsP_inj ha' ha hm' HM.out (hbits.trans hkp)
      have fin : ∀ X, Put W X T ⟨Ab, Ao, none⟩ [nb] ((K : Int) + 1) → X.cell? ⟨Ab, Ao, none⟩ = W.cell? ⟨Ab, Ao, none⟩ → (∀ i, i ≠ 2 → i ≠ 3 → X.cell? ⟨nb, i, none⟩ = W.cell? ⟨nb, i, none⟩) → X.cell? ⟨nb, 2, none⟩ = some (.bool v) → X.cell? ⟨nb, 3, none⟩ = some (.bool true) →
          TrieAt X base T (t.ins W.heap.size (W.heap.size + 1) (bitsP a' m)) ∧ Kept w X T t := fun X P hXA hXc x2 x3 => by
        obtain ⟨_, _, _, hnd, hout, _, _⟩ := HL.out
        simp only [Tree.blocks, List.nodup_cons, List.mem_append, List.mem_cons, not_or] at hnd hout
        have kk : ∀ u : Tree, (∀ b ∈ u.blocks, b ∈ l.blocks ∨ b ∈ r.blocks) → ∀ x : Addr, x.block ∈ u.blocks → X.cell? x = W.cell? x ∧ X.frozen? x = W.frozen? x := fun u hu x hx => by
          have hxt : x.block ∈ t.blocks := hsub _ (by simp only [Tree.blocks, List.mem_cons, List.mem_append]; exact .inr (hu _ hx))
          refine ⟨P.cell x (TW.blt _ hxt) ?_ (fun e => TW.out (by rw [e] at hxt; exact hxt)) ?_, P.frozen x (TW.blt _ hxt)⟩
          · simp only [List.mem_singleton]
            intro e
            rw [e] at hx
            rcases hu _ hx with h | h
            · exact hnd.1.1 h
            · exact hnd.1.2 h
          · intro e
            rw [e] at hx
            rcases hu _ hx with h | h
            · exact hout.2.1 h
            · exact hout.2.2 h
        refine TW.put HBW.out HL.out P (by simp [Tree.blocks]) (hXA.trans rA) ?_ (HKK.out _ _) hpl (Nat.le_refl _) (by omega) (by omega) hbW
        rw [show (Tree.node nb k false l r).ins W.heap.size (W.heap.size + 1) (bitsP a' m) = .node nb k true l r by unfold Tree.ins; rw [if_pos hkp]]
        exact ⟨rfl, Nat.lt_of_lt_of_le hnb P.size, a', v, q0, q1, ha', by rw [hkm]; exact hm', by rw [hkm]; exact hbits, (hXc 0 (by decide) (by decide)).trans c0, by rw [hkm]; exact (hXc 1 (by decide) (by decide)).trans c1, x2, x3, (hXc 4 (by decide) (by decide)).trans c4, (hXc 5 (by decide) (by decide)).trans c5, fun i => (P.frozen _ hnb).trans (hfz i), hl.keep P.size (kk l (fun b hb => .inl hb)), hr.keep P.size (kk r (fun b hb => .inr hb))⟩
      have HFIN := Lib.hid fin
      have hnA : (⟨Ab, Ao, none⟩ : Addr).block ≠ nb := fun e => HL.out.out (by simp only [Tree.blocks, List.mem_cons]; exact .inl e)
      have HNA := Lib.hid hnA
      have hfz2 := hfz 2
      have hfz3 := hfz 3
      clear fin hS hsub hsf hby TW c4 c5 hl hr hfz hkp hkm hbits hm' hnA
      go_wp2
      go_quiet (fail)
      go_wp2
      go_quiet (fail)
      go_wp2
      go_quiet (fail)
      go_wp2
      go_ret
      refine ⟨⟨rfl, _, _, HFIN.out _ ((((Put.start _ t2 rA hTlt hAlt).drewN _).setL _ (by simp) (by simpa using hnT) _).setL _ (by simp) (by simpa using hnT) _) ?_ ?_ ?_ ?_⟩, ?_⟩
      · rw [sc_other (fun e => HNA.out (by injection e with e1; exact e1.symm)), sc_other (fun e => HNA.out (by injection e with e1; exact e1.symm)), World.cell?_drewN, sc_other (Ne.symm HA2.out), World.cell?_drewN]
      · intro i h2 h3
        rw [sc_other (fun e => h3 (by injection e with _ e2; exact e2.symm)), sc_other (fun e => h2 (by injection e with _ e2; exact e2.symm)), World.cell?_drewN, sc_other (fun e => hnT (by injection e)), World.cell?_drewN]
      · rw [sc_other (fun e => by injection e with _ e2; omega)]
        exact World.cell?_setCell_same' _ _ _ (by rw [World.cell?_drewN, sc_other (fun e => hnT (by injection e)), World.cell?_drewN, c2]; rfl)
      · exact World.cell?_setCell_same' _ _ _ (by rw [sc_other (fun e => by injection e with _ e2; omega), World.cell?_drewN, sc_other (fun e => hnT (by injection e)), World.cell?_drewN, c3]; rfl)
      · exact ((Go.below_drewN ((Go.below_drewN HB.out _).setCell (p := ⟨T, 2, none⟩) hgT _) _).setCell (p := ⟨nb, 2, none⟩) hge _).setCell (p := ⟨nb, 3, none⟩) hge _
    · have hnp : ¬ k <+: bitsP a n := by
        rcases hS with h | h
        · exact absurd h hkp
        · exact h
      have HNP := Lib.hid hnp
      have HTR := Lib.hid hl
      have HTR2 := Lib.hid hr
      have HKM := Lib.hid hkm
      have HM2 := Lib.hid hm'
      have HBI := Lib.hid hbits
      have HC := Lib.hid (And.intro c2 (And.intro c3 (And.intro c4 c5)))
      have HFZ := Lib.hid hfz
      have hnm : ¬ (a' = a ∧ m = n) := fun e => hkp (by rw [← hbits, e.1, e.2])
      have hm32 := (may_mod hm').1
      have hn32 := (may_mod HM.out).1
      have hcl : comLen a' m a n < m := com_less ha' ha hm32 hn32 (by rw [hbits]; exact hnp)
      have t3 : (((a' : Int) == (a : Int)) = false) ∨ (a' = a ∧ ((m : Int) == (n : Int)) = false) := by
        by_cases e : a' = a
        · right; exact ⟨e, beq_eq_false_iff_ne.2 (fun e2 => hnm ⟨e, by omega⟩)⟩
        · left; exact beq_eq_false_iff_ne.2 (by omega)
      have HT3 := Lib.hid t3
      clear hS hsub hsf hby TW c2 c3 c4 c5 hl hr hfz hkp hkm hbits hm' hnp hnm t3
      go_upto_region 7 with fail
      go_cut [41] from 26 (fun s wx => s = .bool false ∧ ∃ i, wx = W.drewN i)
      case first =>
        rcases HT3.out with t3 | ⟨e3, t3⟩
        · go_quiet (fail)
          go_wp2_with fail
          go_meet
          exact ⟨rfl, _, rfl⟩
        · subst e3
          go_quiet (fail)
          go_wp2_with fail
          go_meet
          exact ⟨rfl, _, rfl⟩
      case rest =>
        obtain ⟨rfl, i0, rfl⟩ := hcut
        go_wp2
        go_quiet (fail)
        go_upto_region 13 with fail
        go_cut [71] from 62 (fun s wx => s = .bool false ∧ ∃ i j, wx = ((W.drewN i).setCell ⟨T, 2, none⟩ (.int .i64 ((K : Int) + 1))).drewN j)
        case first =>
          rcases HT3.out with t3 | ⟨e3, t3⟩
          · go_quiet (fail)
            go_wp2_with fail
            go_meet
            exact ⟨rfl, _, _, rfl⟩
          · subst e3
            go_quiet (fail)
            go_wp2_with fail
            go_meet
            exact ⟨rfl, _, _, rfl⟩
        case rest =>
          obtain ⟨rfl, i1, i2, rfl⟩ := hcut
          go_wp2
          have hwW : w.heap.size < W.heap.size := by omega
          have hnA : ¬ Ab = nb := fun e => HL.out.out (by simp only [Tree.blocks, List.mem_cons]; exact .inl e)
          refine wp_world (fun X hX => ?_)
          have P : Put W X T ⟨Ab, Ao, none⟩ [] ((K : Int) + 1) := by rw [hX]; exact ((Put.start _ t2 rA hTlt hAlt).drewN _).alloc _
          have xs : X.heap.size = W.heap.size + 1 := by rw [hX]; simp
          have xF : ∀ i u, (#[.int .u32 (a : Int), .int .i64 (n : Int), .bool v, .bool true, .pointer none, .pointer none] : Array Value)[i]? = some u → X.cell? ⟨W.heap.size, i, none⟩ = some u := by
            intro i u hu; rw [hX, World.cell?_alloc_at _ _ _ _ (by simp)]; exact hu
          have xfz : ∀ i, X.frozen? ⟨W.heap.size, i, none⟩ = false := by intro i; rw [hX]; exact World.frozen?_alloc_at _ _ _ _ (by simp)
          have xb : Below base w X := by rw [hX]; exact (Go.below_drewN ((Go.below_drewN HB.out _).setCell (p := ⟨T, 2, none⟩) hgT _) _).alloc (by simp; omega) _
          have x0 : X.cell? ⟨w.heap.size, 0, none⟩ = some (.int .u32 (a : Int)) := (P.cell _ hwW (by simp) (fun e => by injection e with e1 _; omega) (fun e => by injection e with e1 _; omega)).trans r0
          have x1 : X.cell? ⟨w.heap.size, 1, none⟩ = some (.int .i64 (n : Int)) := (P.cell _ hwW (by simp) (fun e => by injection e with e1 _; omega) (fun e => by injection e with e1 _; omega)).trans r1
          have n0 : X.cell? ⟨nb, 0, none⟩ = some (.int .u32 (a' : Int)) := (P.cell _ hnb (by simp) (fun e => by injection e with e1 _; omega) (fun e => by injection e with e1 _; omega)).trans c0
          have n1 : X.cell? ⟨nb, 1, none⟩ = some (.int .i64 (m : Int)) := (P.cell _ hnb (by simp) (fun e => by injection e with e1 _; omega) (fun e => by injection e with e1 _; omega)).trans c1
          have xA : X.cell? ⟨Ab, Ao, none⟩ = some (.pointer (some ⟨nb, 0, none⟩)) := by
            rw [hX, World.cell?_alloc_lt _ _ _ (by simp; omega), World.cell?_drewN, sc_other (Ne.symm HA2.out), World.cell?_drewN]; exact rA
          have xAf : X.frozen? ⟨Ab, Ao, none⟩ = false := (P.frozen _ hAlt).trans fA
          have HP := Lib.hid P
          have HXF := Lib.hid xF
          have HXFZ := Lib.hid xfz
          have HXB := Lib.hid xb
          have hsz0 : w.heap.size < X.heap.size := by omega
          have hsz1 : nb < X.heap.size := by omega
          have hsz2 : Ab < X.heap.size := by omega
          have HXS := Lib.hid xs
          have hFX : W.heap.size < X.heap.size := by omega
          clear hX P xs xF xfz xb r0 r1 rA c0 c1 t1 t2 f2 fA
          go_cut [10] from 88 (fun c wx => CRel X (comA a' m a n) (comLen a' m a n) c wx)
          case first =>
            go_region_held3 (fun w' => w'.cell? ⟨nb, 0, none⟩ = some (.int .u32 (a' : Int)) ∧ w'.cell? ⟨nb, 1, none⟩ = some (.int .i64 (m : Int)) ∧ w'.cell? ⟨w.heap.size, 0, none⟩ = some (.int .u32 (a : Int)) ∧ w'.cell? ⟨w.heap.size, 1, none⟩ = some (.int .i64 (n : Int)))
              (first
                | go_keep
                | (refine ⟨?_, ?_, ?_, ?_⟩ <;> (rw [hb1.cell (by simp; omega)]; first | assumption | (simp [*]; done)))
                | (refine ⟨?_, ?_, ?_, ?_⟩ <;> (rw [World.cell?_alloc_lt _ _ _ (by have := hb1.size; simp at this ⊢; omega)]; first | assumption | (rw [hb1.cell (by simp; omega)]; first | assumption | (simp [*]; done))))
                | (refine ⟨?_, ?_, ?_, ?_⟩ <;> (rw [sc2_other _ (by assumption), hb1.cell (by simp; omega)]; first | assumption | (rw [World.cell?_drew, World.cell?_alloc_lt _ _ _ (by assumption)]; assumption) | (simp [*]; done)))
                | (refine ⟨?_, ?_, ?_, ?_⟩ <;> (rw [sc2_other _ (by assumption), hb1.cell (by simp; omega)]); trace_state; fail))
              (first
                | (go_at_call 165; (with_reducible refine (tcommon_any _ _ _ _ ((X.alloc (.cells #[.int .u32 0, .int .i64 0] 86)).drew) ha' ha hm32 hn32).mono ?_); rintro e w1 ⟨rfl, hb1⟩; have g0 : w1.cell? ⟨X.heap.size, 0, none⟩ = some (.int .u32 0) := (new_kept hb1 0).1; have g1 : w1.cell? ⟨X.heap.size, 1, none⟩ = some (.int .i64 0) := (new_kept hb1 1).1; have g2 := (new_kept hb1 0).2; have g3 := (new_kept hb1 1).2; have g4 : X.heap.size < w1.heap.size := (by have := hb1.size; simp at this; omega))
                | (go_at_call 165; (with_reducible refine (tcommon_any _ _ _ _ _ ha' ha hm32 hn32).mono ?_); rintro e w1 ⟨rfl, hb1⟩))
            all_goals
              go_wp2_with fail
              go_meet
              first
                | exact CRel.one (by assumption)
                | exact CRel.two (cs := #[.int .u32 0, .int .i64 0]) rfl (by assumption)
          case rest =>
            obtain ⟨C, rfl, hC1, hC2, k0, k1, hbc⟩ := hcut
            have y0 := (hbc.cell (p := ⟨w.heap.size, 0, none⟩) hsz0).trans x0
            have y1 := (hbc.cell (p := ⟨w.heap.size, 1, none⟩) hsz0).trans x1
            have m0 := (hbc.cell (p := ⟨nb, 0, none⟩) hsz1).trans n0
            have m1 := (hbc.cell (p := ⟨nb, 1, none⟩) hsz1).trans n1
            have yA := (hbc.cell (p := ⟨Ab, Ao, none⟩) hsz2).trans xA
            have yAf := (hbc.frozen (p := ⟨Ab, Ao, none⟩) hsz2).trans xAf
            clear x0 x1 n0 n1 xA xAf
            have hbcs := hbc.size
            have hFc : W.heap.size < wc.heap.size := by omega
            have F4 : wc.cell? ⟨W.heap.size, 4, none⟩ = some (.pointer none) := (hbc.cell (p := ⟨W.heap.size, 4, none⟩) hFX).trans (HXF.out 4 _ rfl)
            have F5 : wc.cell? ⟨W.heap.size, 5, none⟩ = some (.pointer none) := (hbc.cell (p := ⟨W.heap.size, 5, none⟩) hFX).trans (HXF.out 5 _ rfl)
            have Ff : ∀ i, wc.frozen? ⟨W.heap.size, i, none⟩ = false := fun i => (hbc.frozen (p := ⟨W.heap.size, i, none⟩) hFX).trans (HXFZ.out i)
            have PW := HP.out.below hbc
            have HPW := Lib.hid PW
            have HF03 : Hid (∀ i u, (#[.int .u32 (a : Int), .int .i64 (n : Int), .bool v, .bool true, .pointer none, .pointer none] : Array Value)[i]? = some u → wc.cell? ⟨W.heap.size, i, none⟩ = some u) := Lib.hid (fun i u hu => (hbc.cell (p := ⟨W.heap.size, i, none⟩) hFX).trans (HXF.out i u hu))
            have HBC : Hid (Below base w wc) := Lib.hid (HXB.out.trans (hbc.mono (by omega)))
            have HFf := Lib.hid Ff
            have hsz0c : w.heap.size < wc.heap.size := by omega
            have hsz1c : nb < wc.heap.size := by omega
            have hsz2c : Ab < wc.heap.size := by omega
            by_cases hpk : bitsP a n <+: k
            · have hcc : comA a' m a n = a ∧ comLen a' m a n = n := by
                have e := comA_bits ha' ha hm32 hn32
                rw [HBI.out, (lcp_eq_right_iff _ _).2 hpk] at e
                exact bitsP_inj (comA_lt ha') ha (comA_may hm32) HM.out e
              rw [hcc.1] at k0
              rw [hcc.2] at k1
              clear hcc PW hbc Ff
              have hkn : ¬ bitsP a n = k := fun e => HNP.out (by rw [e]; exact List.prefix_refl _)
              have hlt : n < m := by
                have h1 := hpk.length_le
                rw [bitsP_length, HKM.out] at h1
                rcases Nat.lt_or_ge n m with h | h
                · exact h
                · exact absurd (hpk.eq_of_length (by rw [bitsP_length, HKM.out]; omega)) hkn
              have hkat : k[(bitsP a n).length]? = some (a'.testBit (31 - n)) := by rw [bitsP_length, ← HBI.out]; exact bitsP_at a' m n hlt
              have fin : ∀ (Z : World) (p0 p1 : Option Addr), Put W Z T ⟨Ab, Ao, none⟩ [] ((K : Int) + 1) → Z.cell? ⟨Ab, Ao, none⟩ = some (.pointer (some ⟨W.heap.size, 0, none⟩)) → W.heap.size < Z.heap.size → (∀ i, i < 4 → Z.cell? ⟨W.heap.size, i, none⟩ = wc.cell? ⟨W.heap.size, i, none⟩) → Z.cell? ⟨W.heap.size, 4, none⟩ = some (.pointer p0) → Z.cell? ⟨W.heap.size, 5, none⟩ = some (.pointer p1) → (∀ i, Z.frozen? ⟨W.heap.size, i, none⟩ = false) →
                  (if a'.testBit (31 - n) = true then p0 = none ∧ p1 = some ⟨nb, 0, none⟩ else p0 = some ⟨nb, 0, none⟩ ∧ p1 = none) → TrieAt Z base T (t.ins W.heap.size (W.heap.size + 1) (bitsP a n)) ∧ Kept w Z T t := fun Z p0 p1 P hZA hZs hZ03 z4 z5 zf hp => by
                refine HTW.out.put HBW.out HL.out P (by simp) hZA ?_ (HKK.out _ _) hpl (Nat.le_refl _) (by omega) (by omega) hbW
                have hold := P.tree HTW.out HL.out (fun b hb => hb) HTWS.out
                have head : ∀ l' r' : Tree, Tr Z p0 l' → Tr Z p1 r' → Tr Z (some ⟨W.heap.size, 0, none⟩) (.node W.heap.size (bitsP a n) true l' r') := fun l' r' hl' hr' =>
                  ⟨rfl, hZs, a, v, p0, p1, ha, by rw [bitsP_length]; exact HM.out, by rw [bitsP_length], (hZ03 0 (by omega)).trans (HF03.out 0 _ rfl), by rw [bitsP_length]; exact (hZ03 1 (by omega)).trans (HF03.out 1 _ rfl), (hZ03 2 (by omega)).trans (HF03.out 2 _ rfl), (hZ03 3 (by omega)).trans (HF03.out 3 _ rfl), z4, z5, zf, hl', hr'⟩
                unfold Tree.ins
                rw [if_neg (fun e => hkn e.symm), if_neg HNP.out, if_pos hpk, hkat]
                cases hbt2 : a'.testBit (31 - n) with
                | true =>
                  rw [hbt2, if_pos rfl] at hp
                  rw [if_pos rfl]
                  exact head _ _ hp.1 (by rw [hp.2]; exact hold)
                | false =>
                  rw [hbt2, if_neg (by decide)] at hp
                  rw [if_neg (by simp)]
                  exact head _ _ (by rw [hp.1]; exact hold) hp.2
              have HFIN := Lib.hid fin
              have f4 := HFf.out 4
              have f5 := HFf.out 5
              have hAF : ¬ Ab = W.heap.size := by omega
              have hn31 : n < 32 := by omega
              clear fin hkn hkat hlt hpk
              cases hbit : a'.testBit (31 - n) with
              | true =>
                have HB1 : Hid (∀ W', Calls Tryz.prog 166 #[.int .u32 (a' : Int), .int .i64 (n : Int)] W' fun e w' => e = .returned (.int .i64 1) ∧ W' = w') := Lib.hid (fun W' => by
                  have := tbit_any a' n W' ha' (by omega)
                  unfold bitN at this; rw [hbit] at this; exact this)
                have HBT := Lib.hid hbit
                clear hbit
                go_wp2
                refine wp_region_ext_tail 13 (by kernel_rfl) (by kernel_rfl) ?_
                simp only [List.take_succ_cons, List.take_zero, List.drop_succ_cons, List.drop_zero]
                repeat (go_big_quiet_step (first | (go_at_call 166; exact Ext.callq (HB1.out _))))
                refine wpQuiet_nil ?_
                rintro _ ⟨z, rfl⟩
                go_wp2
                go_ret
                have hAF' : (⟨Ab, Ao, none⟩ : Addr).block ≠ W.heap.size := hAF
                refine ⟨⟨rfl, _, _, HFIN.out _ none (some ⟨nb, 0, none⟩) (((HPW.out.below z.below).setNew 5 (Nat.le_refl _) _).setA HA2.out _) (((HPW.out.below z.below).setNew 5 (Nat.le_refl _) _).gotA _) ?_ (fun i hi => ?_) ?_ ?_ (fun i => ?_) ?_⟩, ?_⟩
                · rw [size_setCell, size_setCell]; exact Nat.lt_of_lt_of_le hFc z.below.size
                · rw [sc_other (fun e => hAF (by injection e)), sc_other (fun e => by injection e with _ e2; omega)]; exact z.below.cell (p := ⟨W.heap.size, i, none⟩) hFc
                · rw [sc_other (fun e => hAF (by injection e))]; rw [sc_other (fun e => by injection e with _ e2; omega)]; exact (z.below.cell (p := ⟨W.heap.size, 4, none⟩) hFc).trans F4
                · rw [sc_other (fun e => hAF (by injection e))]; exact World.cell?_setCell_same' _ _ _ (by rw [z.below.cell (p := ⟨W.heap.size, 5, none⟩) hFc, F5]; rfl)
                · exact sc_frozen.trans (sc_frozen.trans ((z.below.frozen (p := ⟨W.heap.size, i, none⟩) hFc).trans (HFf.out i)))
                · rw [HBT.out]; exact ⟨rfl, rfl⟩
                · exact ((HBC.out.trans (z.below.mono (by omega))).setCell (p := ⟨W.heap.size, 5, none⟩) hbW _).setCell (p := ⟨Ab, Ao, none⟩) hgA _
              | false =>
                have HB1 : Hid (∀ W', Calls Tryz.prog 166 #[.int .u32 (a' : Int), .int .i64 (n : Int)] W' fun e w' => e = .returned (.int .i64 0) ∧ W' = w') := Lib.hid (fun W' => by
                  have := tbit_any a' n W' ha' (by omega)
                  unfold bitN at this; rw [hbit] at this; exact this)
                have HBT := Lib.hid hbit
                clear hbit
                go_wp2
                refine wp_region_ext_tail 13 (by kernel_rfl) (by kernel_rfl) ?_
                simp only [List.take_succ_cons, List.take_zero, List.drop_succ_cons, List.drop_zero]
                repeat (go_big_quiet_step (first | (go_at_call 166; exact Ext.callq (HB1.out _))))
                refine wpQuiet_nil ?_
                rintro _ ⟨z, rfl⟩
                go_wp2
                go_ret
                have hAF' : (⟨Ab, Ao, none⟩ : Addr).block ≠ W.heap.size := hAF
                refine ⟨⟨rfl, _, _, HFIN.out _ (some ⟨nb, 0, none⟩) none (((HPW.out.below z.below).setNew 4 (Nat.le_refl _) _).setA HA2.out _) (((HPW.out.below z.below).setNew 4 (Nat.le_refl _) _).gotA _) ?_ (fun i hi => ?_) ?_ ?_ (fun i => ?_) ?_⟩, ?_⟩
                · rw [size_setCell, size_setCell]; exact Nat.lt_of_lt_of_le hFc z.below.size
                · rw [sc_other (fun e => hAF (by injection e)), sc_other (fun e => by injection e with _ e2; omega)]; exact z.below.cell (p := ⟨W.heap.size, i, none⟩) hFc
                · rw [sc_other (fun e => hAF (by injection e))]; exact World.cell?_setCell_same' _ _ _ (by rw [z.below.cell (p := ⟨W.heap.size, 4, none⟩) hFc, F4]; rfl)
                · rw [sc_other (fun e => hAF (by injection e))]; rw [sc_other (fun e => by injection e with _ e2; omega)]; exact (z.below.cell (p := ⟨W.heap.size, 5, none⟩) hFc).trans F5
                · exact sc_frozen.trans (sc_frozen.trans ((z.below.frozen (p := ⟨W.heap.size, i, none⟩) hFc).trans (HFf.out i)))
                · rw [HBT.out]; exact ⟨rfl, rfl⟩
                · exact ((HBC.out.trans (z.below.mono (by omega))).setCell (p := ⟨W.heap.size, 4, none⟩) hbW _).setCell (p := ⟨Ab, Ao, none⟩) hgA _
            · have hlen : (lcp k (bitsP a n)).length = comLen a' m a n := by
                rw [← HBI.out, ← comA_bits ha' ha hm32 hn32, bitsP_length]
              have hln : comLen a' m a n < n := by
                have h1 := (lcp_right k (bitsP a n)).length_le
                rw [hlen, bitsP_length] at h1
                rcases Nat.lt_or_ge (comLen a' m a n) n with h | h
                · exact h
                · exact absurd ((lcp_eq_right_iff k (bitsP a n)).1 ((lcp_right k (bitsP a n)).eq_of_length (by rw [hlen, bitsP_length]; omega))) hpk
              have hpat : (bitsP a n)[(lcp k (bitsP a n)).length]? = some (a.testBit (31 - comLen a' m a n)) := by rw [hlen]; exact bitsP_at a n _ hln
              have hkat : k[(lcp k (bitsP a n)).length]? = some (a'.testBit (31 - comLen a' m a n)) := by rw [hlen, ← HBI.out]; exact bitsP_at a' m _ hcl
              have hdiff : a'.testBit (31 - comLen a' m a n) = !a.testBit (31 - comLen a' m a n) := by
                obtain ⟨c, ⟨u1, e1⟩, ⟨u2, e2⟩⟩ := lcp_parts k (bitsP a n) HNP.out hpk
                have hx : ∀ (L u : List Bool) (d : Bool), (L ++ [d] ++ u)[L.length]? = some d := fun L u d => by simp
                have g1 := hx (lcp k (bitsP a n)) u1 c
                have g2 := hx (lcp k (bitsP a n)) u2 (!c)
                rw [e1] at g1
                rw [e2] at g2
                rw [hkat] at g1
                rw [hpat] at g2
                injection g1 with g1
                injection g2 with g2
                rw [g1, g2]; simp
              have hne5 : ((comLen a' m a n : Int) == (n : Int)) = false := beq_eq_false_iff_ne.2 (by omega)
              have fin : ∀ (Z : World) (p0 p1 : Option Addr), Put W Z T ⟨Ab, Ao, none⟩ [] ((K : Int) + 1) → Z.cell? ⟨Ab, Ao, none⟩ = some (.pointer (some ⟨wc.heap.size, 0, none⟩)) → wc.heap.size < Z.heap.size → (∀ i, Z.cell? ⟨W.heap.size, i, none⟩ = wc.cell? ⟨W.heap.size, i, none⟩ ∧ Z.frozen? ⟨W.heap.size, i, none⟩ = false) →
                  Z.cell? ⟨wc.heap.size, 0, none⟩ = some (.int .u32 (comA a' m a n : Int)) → Z.cell? ⟨wc.heap.size, 1, none⟩ = some (.int .i64 (comLen a' m a n : Int)) → Z.cell? ⟨wc.heap.size, 2, none⟩ = some (.bool false) → Z.cell? ⟨wc.heap.size, 3, none⟩ = some (.bool false) → Z.cell? ⟨wc.heap.size, 4, none⟩ = some (.pointer p0) → Z.cell? ⟨wc.heap.size, 5, none⟩ = some (.pointer p1) → (∀ i, Z.frozen? ⟨wc.heap.size, i, none⟩ = false) →
                  (if a.testBit (31 - comLen a' m a n) = true then p0 = some ⟨nb, 0, none⟩ ∧ p1 = some ⟨W.heap.size, 0, none⟩ else p0 = some ⟨W.heap.size, 0, none⟩ ∧ p1 = some ⟨nb, 0, none⟩) → TrieAt Z base T (t.ins W.heap.size wc.heap.size (bitsP a n)) ∧ Kept w Z T t := fun Z p0 p1 P hZA hZs hZF z0 z1 z2 z3 z4 z5 zf hp => by
                refine HTW.out.put HBW.out HL.out P (by simp) hZA ?_ (HKK.out _ _) hpl (Nat.le_refl _) (by omega) (by omega) hbW
                have hold := P.tree HTW.out HL.out (fun b hb => hb) HTWS.out
                have hnew : Tr Z (some ⟨W.heap.size, 0, none⟩) (.node W.heap.size (bitsP a n) true .nil .nil) :=
                  ⟨rfl, by omega, a, v, none, none, ha, by rw [bitsP_length]; exact HM.out, by rw [bitsP_length], (hZF 0).1.trans (HF03.out 0 _ rfl), by rw [bitsP_length]; exact (hZF 1).1.trans (HF03.out 1 _ rfl), (hZF 2).1.trans (HF03.out 2 _ rfl), (hZF 3).1.trans (HF03.out 3 _ rfl), (hZF 4).1.trans (HF03.out 4 _ rfl), (hZF 5).1.trans (HF03.out 5 _ rfl), fun i => (hZF i).2, rfl, rfl⟩
                have head : ∀ l' r' : Tree, Tr Z p0 l' → Tr Z p1 r' → Tr Z (some ⟨wc.heap.size, 0, none⟩) (.node wc.heap.size (lcp k (bitsP a n)) false l' r') := fun l' r' hl' hr' =>
                  ⟨rfl, hZs, comA a' m a n, false, p0, p1, comA_lt ha', by rw [hlen]; exact comA_may hm32, by rw [hlen, comA_bits ha' ha hm32 hn32, HBI.out], z0, by rw [hlen]; exact z1, z2, z3, z4, z5, zf, hl', hr'⟩
                unfold Tree.ins
                rw [if_neg (fun e => HNP.out (by rw [e]; exact List.prefix_refl _)), if_neg HNP.out, if_neg hpk, hpat]
                cases hbt2 : a.testBit (31 - comLen a' m a n) with
                | true =>
                  rw [hbt2, if_pos rfl] at hp
                  rw [if_pos rfl]
                  exact head _ _ (by rw [hp.1]; exact hold) (by rw [hp.2]; exact hnew)
                | false =>
                  rw [hbt2, if_neg (by decide)] at hp
                  rw [if_neg (by simp)]
                  exact head _ _ (by rw [hp.1]; exact hnew) (by rw [hp.2]; exact hold)
              have HFIN := Lib.hid fin
              have HDF := Lib.hid hdiff
              have hAF : ¬ Ab = W.heap.size := by omega
              have hc32 : comLen a' m a n < 32 := by omega
              have hCG : C < wc.heap.size := hC2
              clear fin hlen hpat hkat hdiff hpk hln hcl PW hbc Ff
              generalize comA a' m a n = cA at *
              generalize comLen a' m a n = cL at *
              cases hbit : a.testBit (31 - cL) with
              | true =>
                have hbit' : a'.testBit (31 - cL) = false := by rw [HDF.out, hbit]; rfl
                have HB1 : Hid (∀ W', Calls Tryz.prog 166 #[.int .u32 (a : Int), .int .i64 (cL : Int)] W' fun e w' => e = .returned (.int .i64 1) ∧ W' = w') := Lib.hid (fun W' => by
                  have := tbit_any a cL W' ha (by omega)
                  unfold bitN at this; rw [hbit] at this; exact this)
                have HB2 : Hid (∀ W', Calls Tryz.prog 166 #[.int .u32 (a' : Int), .int .i64 (cL : Int)] W' fun e w' => e = .returned (.int .i64 0) ∧ W' = w') := Lib.hid (fun W' => by
                  have := tbit_any a' cL W' ha' (by omega)
                  unfold bitN at this; rw [hbit'] at this; exact this)
                have HBT := Lib.hid hbit
                clear hbit hbit'
                go_wp2
                go_region_held3 (fun w' => w'.cell? ⟨w.heap.size, 0, none⟩ = some (.int .u32 (a : Int)) ∧ w'.cell? ⟨C, 1, none⟩ = some (.int .i64 (cL : Int)) ∧ w'.cell? ⟨nb, 0, none⟩ = some (.int .u32 (a' : Int))) (first | go_keep | (refine ⟨?_, ?_, ?_⟩ <;> (rw [World.cell?_drew, World.cell?_alloc_lt _ _ _ (by assumption)]; assumption)) | (trace_state; fail))
                  (first
                    | (go_at_call 166; (with_reducible refine (HB1.out _).mono ?_); rintro e w' ⟨rfl, rfl⟩)
                    | (go_at_call 166; (with_reducible refine (HB2.out _).mono ?_); rintro e w' ⟨rfl, rfl⟩))
                all_goals
                  go_wp2
                  go_ret
                  refine ⟨⟨rfl, W.heap.size, wc.heap.size, HFIN.out _ (some ⟨nb, 0, none⟩) (some ⟨W.heap.size, 0, none⟩) ((HPW.out.setA HA2.out _).alloc _).drew ?_ ?_ (fun i => ?_) ?_ ?_ ?_ ?_ ?_ ?_ (fun i => ?_) ?_⟩, ?_⟩
                  · exact (World.cell?_alloc_lt _ _ _ (by rw [size_setCell]; exact hsz2c)).trans (HPW.out.gotA _)
                  · show _ < (World.alloc _ _).heap.size; simp
                  · exact ⟨(World.cell?_alloc_lt _ _ _ (by rw [size_setCell]; exact hFc)).trans (sc_other (fun e => hAF (by injection e))), (((Below.refl _ _).alloc (Nat.le_refl _) _).frozen (p := ⟨W.heap.size, i, none⟩) (by rw [size_setCell]; exact hFc)).trans (sc_frozen.trans (HFf.out i))⟩
                  · exact World.cell?_alloc_at _ _ _ _ (by rw [size_setCell])
                  · exact World.cell?_alloc_at _ _ _ _ (by rw [size_setCell])
                  · exact World.cell?_alloc_at _ _ _ _ (by rw [size_setCell])
                  · exact World.cell?_alloc_at _ _ _ _ (by rw [size_setCell])
                  · exact World.cell?_alloc_at _ _ _ _ (by rw [size_setCell])
                  · exact World.cell?_alloc_at _ _ _ _ (by rw [size_setCell])
                  · exact World.frozen?_alloc_at _ _ _ _ (by rw [size_setCell])
                  · rw [HBT.out]; exact ⟨rfl, rfl⟩
                  · exact ((HBC.out.setCell (p := ⟨Ab, Ao, none⟩) hgA _).alloc (by rw [size_setCell]; omega) _).drew
              | false =>
                have hbit' : a'.testBit (31 - cL) = true := by rw [HDF.out, hbit]; rfl
                have HB1 : Hid (∀ W', Calls Tryz.prog 166 #[.int .u32 (a : Int), .int .i64 (cL : Int)] W' fun e w' => e = .returned (.int .i64 0) ∧ W' = w') := Lib.hid (fun W' => by
                  have := tbit_any a cL W' ha (by omega)
                  unfold bitN at this; rw [hbit] at this; exact this)
                have HB2 : Hid (∀ W', Calls Tryz.prog 166 #[.int .u32 (a' : Int), .int .i64 (cL : Int)] W' fun e w' => e = .returned (.int .i64 1) ∧ W' = w') := Lib.hid (fun W' => by
                  have := tbit_any a' cL W' ha' (by omega)
                  unfold bitN at this; rw [hbit'] at this; exact this)
                have HBT := Lib.hid hbit
                clear hbit hbit'
                go_wp2
                go_region_held3 (fun w' => w'.cell? ⟨w.heap.size, 0, none⟩ = some (.int .u32 (a : Int)) ∧ w'.cell? ⟨C, 1, none⟩ = some (.int .i64 (cL : Int)) ∧ w'.cell? ⟨nb, 0, none⟩ = some (.int .u32 (a' : Int))) (first | go_keep | (refine ⟨?_, ?_, ?_⟩ <;> (rw [World.cell?_drew, World.cell?_alloc_lt _ _ _ (by assumption)]; assumption)) | (trace_state; fail))
                  (first
                    | (go_at_call 166; (with_reducible refine (HB1.out _).mono ?_); rintro e w' ⟨rfl, rfl⟩)
                    | (go_at_call 166; (with_reducible refine (HB2.out _).mono ?_); rintro e w' ⟨rfl, rfl⟩))
                all_goals
                  go_wp2
                  go_ret
                  refine ⟨⟨rfl, W.heap.size, wc.heap.size, HFIN.out _ (some ⟨W.heap.size, 0, none⟩) (some ⟨nb, 0, none⟩) ((HPW.out.setA HA2.out _).alloc _).drew ?_ ?_ (fun i => ?_) ?_ ?_ ?_ ?_ ?_ ?_ (fun i => ?_) ?_⟩, ?_⟩
                  · exact (World.cell?_alloc_lt _ _ _ (by rw [size_setCell]; exact hsz2c)).trans (HPW.out.gotA _)
                  · show _ < (World.alloc _ _).heap.size; simp
                  · exact ⟨(World.cell?_alloc_lt _ _ _ (by rw [size_setCell]; exact hFc)).trans (sc_other (fun e => hAF (by injection e))), (((Below.refl _ _).alloc (Nat.le_refl _) _).frozen (p := ⟨W.heap.size, i, none⟩) (by rw [size_setCell]; exact hFc)).trans (sc_frozen.trans (HFf.out i))⟩
                  · exact World.cell?_alloc_at _ _ _ _ (by rw [size_setCell])
                  · exact World.cell?_alloc_at _ _ _ _ (by rw [size_setCell])
                  · exact World.cell?_alloc_at _ _ _ _ (by rw [size_setCell])
                  · exact World.cell?_alloc_at _ _ _ _ (by rw [size_setCell])
                  · exact World.cell?_alloc_at _ _ _ _ (by rw [size_setCell])
                  · exact World.cell?_alloc_at _ _ _ _ (by rw [size_setCell])
                  · exact World.frozen?_alloc_at _ _ _ _ (by rw [size_setCell])
                  · rw [HBT.out]; exact ⟨rfl, rfl⟩
                  · exact ((HBC.out.setCell (p := ⟨Ab, Ao, none⟩) hgA _).alloc (by rw [size_setCell]; omega) _).drew
end Go.Proofs.YtfbangojgjcbcaaGreatDoor
