/- Trees of prefixes in memory. -/
/- Contracts of the trie's small functions: mask, may, bit, common, there, New. -/
/- Contract of the trie's place. -/
/- Contract of the trie's Insert: refused prefixes, prefixes that are there, full tries. -/
import Derived.Test.YtfbangojgjcbcaaGreatDoorPlainQ
import Derived.Test.YtfbangojgjcbcaaGreatDoorBase
import Derived.Test.YtfbangojgjcbcaaGreatDoorPreR
import Derived.Test.YtfbangojgjcbcaaGreatDoorShelf3
import Derived.Test.YtfbangojgjcbcaaGreatDoorLoadF
import Derived.WalkMore
import Derived.Deep.LoopGhost
import Derived.Test.YtfbangojgjcbcaaGreatDoorPlainK
namespace Go.Proofs.YtfbangojgjcbcaaGreatDoor
open Go.RowKit Pl

/-- The pointer p reads as the tree t in world w. -/
def Tr (w : World) : Option Addr → Tree → Prop
  | p, .nil => p = none
  | p, .node b k has l r => p = some ⟨b, 0, none⟩ ∧ b < w.heap.size ∧ ∃ (a : Nat) (v : Bool) (p0 p1 : Option Addr), a < 4294967296 ∧ mayP a k.length = true ∧ bitsP a k.length = k ∧
      w.cell? ⟨b, 0, none⟩ = some (.int .u32 (a : Int)) ∧ w.cell? ⟨b, 1, none⟩ = some (.int .i64 (k.length : Int)) ∧ w.cell? ⟨b, 2, none⟩ = some (.bool v) ∧ w.cell? ⟨b, 3, none⟩ = some (.bool has) ∧
      w.cell? ⟨b, 4, none⟩ = some (.pointer p0) ∧ w.cell? ⟨b, 5, none⟩ = some (.pointer p1) ∧ (∀ i, w.frozen? ⟨b, i, none⟩ = false) ∧ Tr w p0 l ∧ Tr w p1 r
theorem Tr.keep {w w' : World} (hs : w.heap.size ≤ w'.heap.size) : ∀ {t : Tree} {p : Option Addr}, Tr w p t → (∀ x : Addr, x.block ∈ t.blocks → w'.cell? x = w.cell? x ∧ w'.frozen? x = w.frozen? x) → Tr w' p t
  | .nil, _, h, _ => h
  | .node b k has l r, p, h, hk => by
    obtain ⟨rfl, hb, a, v, p0, p1, ha, hm, hbits, c0, c1, c2, c3, c4, c5, hf, hl, hr⟩ := h
    have hb' : ∀ i, w'.cell? ⟨b, i, none⟩ = w.cell? ⟨b, i, none⟩ ∧ w'.frozen? ⟨b, i, none⟩ = w.frozen? ⟨b, i, none⟩ := fun i => hk _ (by simp [Tree.blocks])
    exact ⟨rfl, by omega, a, v, p0, p1, ha, hm, hbits, (hb' 0).1.trans c0, (hb' 1).1.trans c1, (hb' 2).1.trans c2, (hb' 3).1.trans c3, (hb' 4).1.trans c4, (hb' 5).1.trans c5, fun i => (hb' i).2.trans (hf i),
      Tr.keep hs hl fun x hx => hk x (by simp [Tree.blocks, hx]), Tr.keep hs hr fun x hx => hk x (by simp [Tree.blocks, hx])⟩
theorem Tr.lt {w : World} : ∀ {t : Tree} {p : Option Addr}, Tr w p t → ∀ b ∈ t.blocks, b < w.heap.size
  | .nil, _, _, b, hb => by simp [Tree.blocks] at hb
  | .node b k has l r, p, h, x, hx => by
    obtain ⟨rfl, hb, a, v, p0, p1, ha, hm, hbits, c0, c1, c2, c3, c4, c5, hf, hl, hr⟩ := h
    simp only [Tree.blocks, List.mem_cons, List.mem_append] at hx
    rcases hx with rfl | hx | hx
    · exact hb
    · exact Tr.lt hl x hx
    · exact Tr.lt hr x hx
theorem Tr.below {w w' : World} {t : Tree} {p : Option Addr} (h : Tr w p t) (hb : Below w.heap.size w w') : Tr w' p t :=
  h.keep hb.size fun _ hx => ⟨hb.cell (h.lt _ hx), hb.frozen (h.lt _ hx)⟩

/-- The place A, on the way down to a prefix from A0: what lies there is s; what is put in there is put into the whole. -/
structure Hole (w : World) (A0 A : Addr) (t s : Tree) (p : List Bool) : Prop where
  find : s.find p = t.find p
  inv : s.Inv
  sub : ∀ b ∈ s.blocks, b ∈ t.blocks
  nodup : s.blocks.Nodup
  out : A.block ∉ s.blocks
  here : A = A0 ∨ A.block ∈ t.blocks
  put : ∀ (b1 b2 : Nat) (w' : World) (ptr' : Option Addr), w.heap.size ≤ w'.heap.size → w'.cell? A = some (.pointer ptr') → Tr w' ptr' (s.ins b1 b2 p) →
    (∀ x : Addr, x ≠ A → x.block ∉ s.blocks → (x.block ∈ t.blocks ∨ x = A0) → w'.cell? x = w.cell? x) → (∀ x : Addr, x.block ∈ t.blocks → w'.frozen? x = w.frozen? x) → ∃ root, w'.cell? A0 = some (.pointer root) ∧ Tr w' root (t.ins b1 b2 p)
theorem Hole.start {w : World} {A0 : Addr} {t : Tree} {p : List Bool} (hi : t.Inv) (hn : t.blocks.Nodup) (ho : A0.block ∉ t.blocks) : Hole w A0 A0 t t p :=
  ⟨rfl, hi, fun _ h => h, hn, ho, .inl rfl, fun _ _ _ ptr' _ h1 h2 _ _ => ⟨ptr', h1, h2⟩⟩
def Tree.kid (c : Bool) (l r : Tree) : Tree := if c = true then r else l
theorem Hole.step {w : World} {A0 A : Addr} {t : Tree} {p : List Bool} {b : Nat} {k : List Bool} {has : Bool} {l r : Tree} {q : Option Addr} {c : Bool} (h : Hole w A0 A t (.node b k has l r) p) (hA : w.cell? A = some (.pointer q)) (hT : Tr w q (.node b k has l r))
    (hne : ¬ k = p) (hkp : k <+: p) (hc : p[k.length]? = some c) : Hole w A0 ⟨b, 4 + (if c = true then 1 else 0), none⟩ t (Tree.kid c l r) p := by
  obtain ⟨hfind, ⟨hk, i1, i2, i3, i4⟩, hsub, hnd, hout, hhere, hput⟩ := h
  obtain ⟨rfl, hb, a, v, p0, p1, ha, hm, hbits, c0, c1, c2, c3, c4, c5, hf, hl, hr⟩ := hT
  simp only [Tree.blocks, List.nodup_cons, List.nodup_append, List.mem_append, not_or] at hnd
  obtain ⟨⟨nb1, nb2⟩, nl, nr, ndis⟩ := hnd
  have hbt : b ∈ t.blocks := hsub b (by simp [Tree.blocks])
  have hAb : ¬ A.block = b := fun e => hout (by simp [Tree.blocks, e])
  cases c with
  | true =>
    simp only [Tree.kid, if_true]
    refine ⟨?_, i4, fun x hx => hsub x (by simp [Tree.blocks, hx]), nr, nb2, .inr hbt, ?_⟩
    · rw [← hfind]
      conv => rhs; unfold Tree.find
      rw [if_neg hne, if_pos hkp, if_pos hc]
    · intro b1 b2 w' ptr' hs hA' hT' hx hfz
      have hAx : w'.cell? A = some (.pointer (some ⟨b, 0, none⟩)) := by
        rw [← hA]
        exact hx A (fun e => hAb (by rw [e])) (fun e => hout (by simp [Tree.blocks, e])) (by rcases hhere with h | h; exact .inr h; exact .inl h)
      have hbx : ∀ i, ¬ i = 5 → w'.cell? ⟨b, i, none⟩ = w.cell? ⟨b, i, none⟩ := fun i hi => hx _ (fun e => hi (by injection e)) nb2 (.inl hbt)
      refine hput b1 b2 w' _ hs hAx ?_ (fun x _ h2 h3 => hx x (fun e => h2 (by rw [e]; simp [Tree.blocks])) (fun e => h2 (by simp [Tree.blocks, e])) h3) hfz
      have e : (Tree.node b k has l r).ins b1 b2 p = .node b k has l (r.ins b1 b2 p) := by
        conv => lhs; unfold Tree.ins
        rw [if_neg hne, if_pos hkp, if_pos hc]
      rw [e]
      refine ⟨rfl, by omega, a, v, p0, ptr', ha, hm, hbits, (hbx 0 (by decide)).trans c0, (hbx 1 (by decide)).trans c1, (hbx 2 (by decide)).trans c2, (hbx 3 (by decide)).trans c3, (hbx 4 (by decide)).trans c4, hA', fun i => (hfz _ hbt).trans (hf i), ?_, hT'⟩
      exact hl.keep hs fun x hxl => ⟨hx x (fun e => nb1 (by rw [e] at hxl; exact hxl)) (fun e => ndis _ hxl _ e rfl) (.inl (hsub _ (by simp [Tree.blocks, hxl]))), hfz x (hsub _ (by simp [Tree.blocks, hxl]))⟩
  | false =>
    simp only [Tree.kid, Bool.false_eq_true, if_false]
    have hct : ¬ p[k.length]? = some true := by rw [hc]; decide
    refine ⟨?_, i3, fun x hx => hsub x (by simp [Tree.blocks, hx]), nl, nb1, .inr hbt, ?_⟩
    · rw [← hfind]
      conv => rhs; unfold Tree.find
      rw [if_neg hne, if_pos hkp, if_neg hct]
    · intro b1 b2 w' ptr' hs hA' hT' hx hfz
      have hAx : w'.cell? A = some (.pointer (some ⟨b, 0, none⟩)) := by
        rw [← hA]
        exact hx A (fun e => hAb (by rw [e])) (fun e => hout (by simp [Tree.blocks, e])) (by rcases hhere with h | h; exact .inr h; exact .inl h)
      have hbx : ∀ i, ¬ i = 4 → w'.cell? ⟨b, i, none⟩ = w.cell? ⟨b, i, none⟩ := fun i hi => hx _ (fun e => hi (by injection e)) nb1 (.inl hbt)
      refine hput b1 b2 w' _ hs hAx ?_ (fun x _ h2 h3 => hx x (fun e => h2 (by rw [e]; simp [Tree.blocks])) (fun e => h2 (by simp [Tree.blocks, e])) h3) hfz
      have e : (Tree.node b k has l r).ins b1 b2 p = .node b k has (l.ins b1 b2 p) r := by
        conv => lhs; unfold Tree.ins
        rw [if_neg hne, if_pos hkp, if_neg hct]
      rw [e]
      refine ⟨rfl, by omega, a, v, ptr', p1, ha, hm, hbits, (hbx 0 (by decide)).trans c0, (hbx 1 (by decide)).trans c1, (hbx 2 (by decide)).trans c2, (hbx 3 (by decide)).trans c3, hA', (hbx 5 (by decide)).trans c5, fun i => (hfz _ hbt).trans (hf i), hT', ?_⟩
      exact hr.keep hs fun x hxl => ⟨hx x (fun e => nb2 (by rw [e] at hxl; exact hxl)) (fun e => ndis _ e _ hxl rfl) (.inl (hsub _ (by simp [Tree.blocks, hxl]))), hfz x (hsub _ (by simp [Tree.blocks, hxl]))⟩
end Go.Proofs.YtfbangojgjcbcaaGreatDoor
namespace Go.Proofs.YtfbangojgjcbcaaGreatDoor
open Go.RowKit Pl

set_option maxHeartbeats 400000 in
theorem tmask_any (n : Int) (w : World) (h0 : 0 ≤ n) (h1 : n ≤ 32) :
    Calls Tryz.prog 170 #[.int .i64 n] w fun e w' => e = .returned (.int .u32 (4294967296 - blk n)) ∧ w = w' := by
  have H := Lib.hid (mask_num n h0 h1)
  go_enter Tryz.func170, Tryz.ntmps170
  go_wp2
  go_ret
  exact ⟨ret_int H.out, rfl⟩

set_option maxHeartbeats 400000 in
theorem tmay_any (a n : Int) (w : World) (ha : IsAddr a) :
    Calls Tryz.prog 163 #[.agg #[.int .u32 a, .int .i64 n]] w fun e w' => e = .returned (.bool (mayP a n)) ∧ Below w.heap.size w w' := by
  obtain ⟨ha0, ha1⟩ := ha
  by_cases h0 : 0 ≤ n
  · by_cases h1 : n ≤ 32
    · have HM := Lib.hid (mayP_in a n h0 h1)
      have hbn := andNot_mask a n ha0 ha1
      go_enter Tryz.func163, Tryz.ntmps163
      go_wp2
      go_quiet ((go_at_call 170; exact Calls.quiet_of_same (quiet_sym (tmask_any n _ h0 h1))))
      go_wp2
      go_ret
      exact ⟨by rw [HM.out]; rfl, below_drewN ((Below.refl _ _).alloc (Nat.le_refl _) _) _⟩
    · have HM := Lib.hid (mayP_out a n (by omega))
      have d : decide (n ≤ 32) = false := by simpa using h1
      go_enter Tryz.func163, Tryz.ntmps163
      go_wp2
      go_quiet (fail)
      go_wp2
      go_ret
      exact ⟨by rw [HM.out]; rfl, below_drewN ((Below.refl _ _).alloc (Nat.le_refl _) _) _⟩
  · have HM := Lib.hid (mayP_out a n (by omega))
    have d : decide (0 ≤ n) = false := by simpa using h0
    go_enter Tryz.func163, Tryz.ntmps163
    go_wp2
    go_quiet (fail)
    go_wp2
    go_ret
    exact ⟨by rw [HM.out]; rfl, below_drewN ((Below.refl _ _).alloc (Nat.le_refl _) _) _⟩


theorem bitLen_eq : ∀ x : Nat, x < 4294967296 → Lib.bitLen x = bitlen x := by
  intro x
  induction x using Nat.strongRecOn with
  | _ x ih =>
    intro h
    by_cases h0 : x = 0
    · subst h0; rfl
    · rw [Lib.bitLen_half x h0 (by omega), ih (x / 2) (by omega) (by omega)]
      unfold bitlen
      rw [if_neg h0]
      by_cases h1 : x / 2 = 0
      · rw [if_pos h1]
        have : x = 1 := by omega
        subst this; rfl
      · rw [if_neg h1, Nat.log2_def x, if_pos (by omega)]; omega
/-- The bit of an address behind the first n. -/
def bitN (a n : Nat) : Int := if a.testBit (31 - n) = true then 1 else 0
theorem bitN_le (a n : Nat) : 0 ≤ bitN a n ∧ bitN a n ≤ 1 := by unfold bitN; split <;> omega
theorem bit_num (a n : Nat) (ha : a < 4294967296) : bits .and .u32 ((a : Int) / 2 ^ (31 - n)) 1 = bitN a n := by
  have e : (a : Int) / 2 ^ (31 - n) = ((a / 2 ^ (31 - n) : Nat) : Int) := by simp
  have hlt : a / 2 ^ (31 - n) < 4294967296 := Nat.lt_of_le_of_lt (Nat.div_le_self _ _) ha
  unfold bitN
  rw [e, Nat.testBit_eq_decide_div_mod_eq]
  generalize a / 2 ^ (31 - n) = q at hlt
  rw [u32_and _ _ (by omega) (by omega) (by omega) (by omega), Int.toNat_natCast, show (1 : Int).toNat = 2 ^ 1 - 1 from rfl, Nat.and_two_pow_sub_one_eq_mod]
  by_cases h : q % 2 = 1
  · simp [h]
  · have : q % 2 = 0 := by omega
    simp [this]
set_option maxHeartbeats 400000 in
theorem tbit_any (a n : Nat) (w : World) (ha : a < 4294967296) (hn : n < 32) :
    Calls Tryz.prog 166 #[.int .u32 (a : Int), .int .i64 (n : Int)] w fun e w' => e = .returned (.int .i64 (bitN a n)) ∧ w = w' := by
  have hneg : decide ((31 : Int) - (n : Int) < 0) = false := by simp; omega
  have hb := bit_num a n ha
  have hl := bitN_le a n
  go_enter Tryz.func166, Tryz.ntmps166
  go_wp2
  go_ret
  exact ⟨rfl, rfl⟩

/-! ### common -/
def comA (a n b m : Nat) : Nat := a / 2 ^ (32 - comLen a n b m) * 2 ^ (32 - comLen a n b m)
theorem comLen_le (a n b m : Nat) : comLen a n b m ≤ n ∧ comLen a n b m ≤ m := by unfold comLen; omega
theorem comA_lt {a n b m : Nat} (ha : a < 4294967296) : comA a n b m < 4294967296 := first_lt a _ ha
theorem comA_may {a n b m : Nat} (hn : n ≤ 32) : mayP (comA a n b m) (comLen a n b m) = true := first_may a _ (by have := (comLen_le a n b m).1; omega)
theorem comA_bits {a n b m : Nat} (ha : a < 4294967296) (hb : b < 4294967296) (hn : n ≤ 32) (hm : m ≤ 32) : bitsP (comA a n b m) (comLen a n b m) = lcp (bitsP a n) (bitsP b m) := by
  unfold comA
  rw [first_bits a _ (by have := (comLen_le a n b m).1; omega), com_bits ha hb hn hm]
theorem bel_setge {w W : World} (h : Below w.heap.size w W) {b : Nat} (hb : w.heap.size ≤ b) (i : Nat) (u : Value) : Below w.heap.size w (W.setCell ⟨b, i, none⟩ u) := h.setCell hb u
theorem xor_num (a b : Nat) (ha : a < 4294967296) (hb : b < 4294967296) : bits .xor .u32 (a : Int) (b : Int) = ((a ^^^ b : Nat) : Int) := u32_xor_nat a b ha hb
set_option maxRecDepth 100000 in
set_option maxHeartbeats 1000000 in
theorem tcommon_any (a n b m : Nat) (w : World) (ha : a < 4294967296) (hb : b < 4294967296) (hn : n ≤ 32) (hm : m ≤ 32) :
    Calls Tryz.prog 165 #[.agg #[.int .u32 (a : Int), .int .i64 (n : Int)], .agg #[.int .u32 (b : Int), .int .i64 (m : Int)]] w fun e w' => e = .returned (.agg #[.int .u32 (comA a n b m : Int), .int .i64 (comLen a n b m : Int)]) ∧ Below w.heap.size w w' := by
  have hx := xor_num a b ha hb
  have hxl : a ^^^ b < 4294967296 := Nat.xor_lt_two_pow (n := 32) ha hb
  have hbl := bitlen_le hxl
  have HLZ : Hid (∀ W, Calls Tryz.prog 191 #[.int .u32 ((a ^^^ b : Nat) : Int)] W fun e w' => e = .returned (.int .i64 (32 - (bitlen (a ^^^ b) : Int))) ∧ w' = W) := Lib.hid (fun W => by
    have := Tryz.bits_LeadingZeros32 ((a ^^^ b : Nat) : Int) W (by omega) (by omega)
    rwa [Int.toNat_natCast, bitLen_eq _ hxl] at this)
  have hA : ∀ X : Int, X = (comLen a n b m : Int) → bits .and .u32 (a : Int) (4294967296 - blk X) = (comA a n b m : Int) := fun X hX => by
    rw [hX, and_maskI _ _ (by omega) (by omega), first_nat]; rfl
  have HA := Lib.hid hA
  have hcl := comLen_le a n b m
  clear hA
  obtain ⟨L, hL⟩ : ∃ L, bitlen (a ^^^ b) = L := ⟨_, rfl⟩
  have hcase : (n ≤ m ∧ n + L ≤ 32 ∧ comLen a n b m = n) ∨ (m < n ∧ m + L ≤ 32 ∧ comLen a n b m = m) ∨ (32 < n + L ∧ 32 < m + L ∧ comLen a n b m + L = 32) := by unfold comLen; rw [hL]; omega
  rw [hL] at hbl HLZ
  clear hL
  generalize comLen a n b m = k at *
  generalize comA a n b m = C at *
  rcases hcase with ⟨k1, k2, k3⟩ | ⟨k1, k2, k3⟩ | ⟨k1, k2, k3⟩
  · subst k3
    have hA1 := HA.out (k : Int) rfl
    have t1 : (k : Int) ≤ (m : Int) := by omega
    have t2 : (k : Int) ≤ 32 - (L : Int) := by omega
    go_enter Tryz.func165, Tryz.ntmps165
    go_wp2
    go_quiet ((go_at_call 191; exact Calls.quiet_of_same (HLZ.out _)))
    go_wp2
    go_region_with (go_at_call 170; refine (tmask_any _ _ (by omega) (by omega)).mono ?_; rintro e w' ⟨rfl, rfl⟩)
    all_goals
      go_wp2
      exact bodyPost_ret (v := .agg #[.int .u32 (C : Int), .int .i64 (k : Int)]) (by simp [results, Tryz.results165, go_sem]) rfl ⟨rfl, (by repeat (first | assumption | exact Below.refl _ _ | apply Below.drew | apply below_drewN | apply bel_alloc | apply Ext.lift | refine bel_setge ?_ (by omega) _ _))⟩
  · subst k3
    have hA1 := HA.out (k : Int) rfl
    have t1 : (k : Int) < (n : Int) := by omega
    have t2 : (k : Int) ≤ 32 - (L : Int) := by omega
    go_enter Tryz.func165, Tryz.ntmps165
    go_wp2
    go_quiet ((go_at_call 191; exact Calls.quiet_of_same (HLZ.out _)))
    go_wp2
    go_region_with (go_at_call 170; refine (tmask_any _ _ (by omega) (by omega)).mono ?_; rintro e w' ⟨rfl, rfl⟩)
    all_goals
      go_wp2
      exact bodyPost_ret (v := .agg #[.int .u32 (C : Int), .int .i64 (k : Int)]) (by simp [results, Tryz.results165, go_sem]) rfl ⟨rfl, (by repeat (first | assumption | exact Below.refl _ _ | apply Below.drew | apply below_drewN | apply bel_alloc | apply Ext.lift | refine bel_setge ?_ (by omega) _ _))⟩
  · have hA1 := HA.out (32 - (L : Int)) (by omega)
    have t1 : 32 - (L : Int) < (n : Int) := by omega
    have t2 : 32 - (L : Int) < (m : Int) := by omega
    have hkL : (k : Int) = 32 - (L : Int) := by omega
    rw [hkL]
    clear k3 hkL
    go_enter Tryz.func165, Tryz.ntmps165
    go_wp2
    go_quiet ((go_at_call 191; exact Calls.quiet_of_same (HLZ.out _)))
    go_wp2
    go_region_with (go_at_call 170; refine (tmask_any _ _ (by omega) (by omega)).mono ?_; rintro e w' ⟨rfl, rfl⟩)
    all_goals
      go_wp2
      exact bodyPost_ret (v := .agg #[.int .u32 (C : Int), .int .i64 (32 - (L : Int))]) (by simp [results, Tryz.results165, go_sem]) rfl ⟨rfl, (by repeat (first | assumption | exact Below.refl _ _ | apply Below.drew | apply below_drewN | apply bel_alloc | apply Ext.lift | refine bel_setge ?_ (by omega) _ _))⟩
end Go.Proofs.YtfbangojgjcbcaaGreatDoor
namespace Go.Proofs.YtfbangojgjcbcaaGreatDoor
open Go.RowKit Pl

def Tree.size : Tree → Nat
  | .nil => 0
  | .node _ _ _ l r => 1 + Tree.size l + Tree.size r
theorem Tree.kid_size (c : Bool) (b : Nat) (k : List Bool) (has : Bool) (l r : Tree) : Tree.size (Tree.kid c l r) < Tree.size (.node b k has l r) := by
  unfold Tree.kid; simp only [Tree.size]; split <;> omega
def Stop (p : List Bool) : Tree → Prop
  | .nil => True
  | .node _ k _ _ _ => k = p ∨ ¬ k <+: p
theorem com_self {a n b m : Nat} (ha : a < 4294967296) (hb : b < 4294967296) (h1 : mayP a n = true) (h2 : mayP b m = true) (hp : bitsP a n <+: bitsP b m) : comA a n b m = a ∧ comLen a n b m = n := by
  have hn := (may_mod h1).1
  have hm := (may_mod h2).1
  have e := comA_bits ha hb hn hm
  rw [(lcp_eq_left_iff _ _).2 hp] at e
  exact bitsP_inj (comA_lt ha) ha (comA_may hn) h1 e
theorem com_less {a n b m : Nat} (ha : a < 4294967296) (hb : b < 4294967296) (hn : n ≤ 32) (hm : m ≤ 32) (hp : ¬ bitsP a n <+: bitsP b m) : comLen a n b m < n := by
  have e := comA_bits ha hb hn hm
  have hl : comLen a n b m = (lcp (bitsP a n) (bitsP b m)).length := by rw [← e, bitsP_length]
  have hle := (comLen_le a n b m).1
  rcases Nat.lt_or_ge (comLen a n b m) n with h | h
  · exact h
  · exfalso
    apply hp
    rw [← lcp_eq_left_iff]
    exact (lcp_left _ _).eq_of_length (by rw [← hl, bitsP_length]; omega)

theorem kidptr {w : World} {q : Option Addr} {b : Nat} {k : List Bool} {has : Bool} {l r : Tree} (h : Tr w q (.node b k has l r)) :
    (∃ q0, w.cell? ⟨b, 4 + 0, none⟩ = some (.pointer q0) ∧ Tr w q0 (Tree.kid false l r)) ∧ (∃ q1, w.cell? ⟨b, 4 + 1, none⟩ = some (.pointer q1) ∧ Tr w q1 (Tree.kid true l r)) := by
  obtain ⟨rfl, hnb, a', v', q0, q1, ha', hm', hbits, c0, c1, c2, c3, c4, c5, hf, hl, hr⟩ := h
  exact ⟨⟨q0, c4, hl⟩, ⟨q1, c5, hr⟩⟩

set_option maxRecDepth 100000 in
set_option maxHeartbeats 2000000 in
theorem place_any (T a n : Nat) (root : Option Addr) (t : Tree) (w : World) (ha : a < 4294967296) (hm : mayP a n = true) (hT : T < w.heap.size) (hroot : w.cell? ⟨T, 0, none⟩ = some (.pointer root)) (htr : Tr w root t) (hinv : t.Inv) (hnd : t.blocks.Nodup) (hout : T ∉ t.blocks) :
    Calls Tryz.prog 164 #[.pointer (some ⟨T, 0, none⟩), .agg #[.int .u32 (a : Int), .int .i64 (n : Int)]] w fun e w' => (∃ (A : Addr) (s : Tree) (q : Option Addr), e = .returned (.pointer (some A)) ∧ A.spot = none ∧ A.block < w.heap.size ∧ w.cell? A = some (.pointer q) ∧ Tr w q s ∧ Hole w ⟨T, 0, none⟩ A t s (bitsP a n) ∧ Stop (bitsP a n) s) ∧ Below w.heap.size w w' := by
  have HH := Lib.hid (Hole.start (w := w) (A0 := ⟨T, 0, none⟩) (p := bitsP a n) hinv hnd hout)
  have HT := Lib.hid htr
  have HR := Lib.hid hroot
  obtain ⟨hn, _⟩ := may_mod hm
  have HM := Lib.hid hm
  clear htr hinv hnd hout hm
  go_enter Tryz.func164, Tryz.ntmps164
  go_wp2
  go_step3
  go_wp2
  go_step3
  go_wp2
  go_loopg [5] (Tree.size t) (fun g v wr => ∃ (b o : Nat) (s : Tree) (q : Option Addr), g = Tree.size s ∧ v = .pointer (some ⟨b, o, none⟩) ∧ b < w.heap.size ∧ Hid (w.cell? ⟨b, o, none⟩ = some (.pointer q)) ∧ Hid (Tr w q s) ∧ Hid (Hole w ⟨T, 0, none⟩ ⟨b, o, none⟩ t s (bitsP a n)) ∧ wr.cell? ⟨w.heap.size, 0, none⟩ = some (.int .u32 (a : Int)) ∧ wr.cell? ⟨w.heap.size, 1, none⟩ = some (.int .i64 (n : Int)) ∧ w.heap.size < wr.heap.size ∧ Below w.heap.size w wr)
  case atStart => exact ⟨T, 0, t, root, rfl, rfl, hT, HR, HT, HH, by simp, by simp, by simp, (by repeat (first | assumption | exact Below.refl _ _ | apply Below.drew | apply below_drewN | apply bel_alloc | apply Ext.lift | refine bel_setge ?_ (by omega) _ _))⟩
  case round =>
    obtain ⟨b, o, s, q, hg, rfl, hb, HC, HTr, HHo, p0, p1, hsz, hbel⟩ := hrel
    have HG := Lib.hid hg
    clear hg
    have cA := (hbel.cell (p := ⟨b, o, none⟩) hb).trans HC.out
    cases s with
    | nil =>
      obtain rfl : q = none := HTr.out
      go_wp2
      try rw [Exit.noGoto_ret]
      go_ret
      exact ⟨⟨_, .nil, none, rfl, rfl, hb, HC.out, rfl, HHo.out, trivial⟩, hbel⟩
    | node nb k has l r =>
      have htr := HTr.out
      obtain ⟨rfl, hnb, a', v', q0, q1, ha', hm', hbits, c0, c1, c2, c3, c4, c5, hf, hl, hr⟩ := HTr.out
      have d0 := (hbel.cell (p := ⟨nb, 0, none⟩) hnb).trans c0
      have d1 := (hbel.cell (p := ⟨nb, 1, none⟩) hnb).trans c1
      obtain ⟨m, hkm⟩ : ∃ m, k.length = m := ⟨_, rfl⟩
      rw [hkm] at d1 hm' hbits
      have hm32 := (may_mod hm').1
      clear c0 c1 c2 c3 c4 c5 hf hl hr
      by_cases hkp : k = bitsP a n
      · have he : a' = a ∧ m = n := bitsP_inj ha' ha hm' HM.out (by rw [hbits, hkp])
        obtain ⟨rfl, rfl⟩ := he
        have HKP := Lib.hid hkp
        have HTR := Lib.hid htr
        clear htr hkp hbits hkm hm'
        have z0 : nb < wr.heap.size := by have := hbel.size; omega
        go_wp2
        refine wp_region_ext (by kernel_rfl) (by kernel_rfl) ?_
        repeat (go_big_quiet_step (first | (go_at_call 165; exact Ext.call (tcommon_any _ _ _ _ _ ha' ha hm32 hn))))
        refine wpQuiet_nil ?_
        rintro _ ⟨z3, rfl⟩
        go_wp2
        try rw [Exit.noGoto_ret]
        go_ret
        exact ⟨⟨_, _, _, rfl, rfl, hb, HC.out, HTR.out, HHo.out, .inl HKP.out⟩, Ext.lift z3 hbel⟩
      · have hne : ¬ (a' = a ∧ m = n) := fun e => hkp (by rw [← hbits, e.1, e.2])
        have z0 : nb < wr.heap.size := by have := hbel.size; omega
        have HBI := Lib.hid hbits
        have HKM := Lib.hid hkm
        have HTR := Lib.hid htr
        have HKP := Lib.hid hkp
        by_cases hpre : k <+: bitsP a n
        · obtain ⟨e1, e2⟩ := com_self ha' ha hm' HM.out (by rw [hbits]; exact hpre)
          have HPRE := Lib.hid hpre
          have hlen : m ≤ n := by have := hpre.length_le; rw [bitsP_length, hkm] at this; exact this
          have hmn : m < n := by
            rcases Nat.lt_or_ge m n with h | h
            · exact h
            · exact absurd (hpre.eq_of_length (by rw [bitsP_length]; omega)) hkp
          have t2 : ((m : Int) == (n : Int)) = false := beq_eq_false_iff_ne.2 (by omega)
          have hat : (bitsP a n)[k.length]? = some (a.testBit (31 - m)) := by rw [hkm]; exact bitsP_at a n m hmn
          have HHS := fun c (hc : a.testBit (31 - m) = c) => Hole.step HHo.out HC.out htr hkp hpre (by rw [hat, hc])
          have HQ1 := kidptr htr
          clear htr hkp hbits hkm hm' hpre hat hne
          cases hc : a.testBit (31 - m) with
          | true =>
            have HHN := Lib.hid (HHS true hc)
            obtain ⟨qq, HQ2⟩ := HQ1.2
            have HQ := Lib.hid HQ2
            clear HQ2
            clear HHS HQ1
            have HB : Hid (∀ W, Calls Tryz.prog 166 #[.int .u32 (a : Int), .int .i64 (m : Int)] W fun e w' => e = .returned (.int .i64 1) ∧ W = w') := Lib.hid (fun W => by
              have := tbit_any a m W ha (by omega)
              unfold bitN at this; rw [hc] at this; exact this)
            clear hc
            go_wp2
            refine wp_region_ext (by kernel_rfl) (by kernel_rfl) ?_
            repeat (go_big_quiet_step (first | (go_at_call 165; exact Ext.call (tcommon_any _ _ _ _ _ ha' ha hm32 hn))))
            refine wpQuiet_nil ?_
            rintro _ ⟨z3, rfl⟩
            go_wp2
            have hz3 := z3.below.size
            have g0 : w.heap.size < z3.w.heap.size := by omega
            have g1 : nb < z3.w.heap.size := by omega
            refine wp_region_ext (by kernel_rfl) (by kernel_rfl) ?_
            repeat (go_big_quiet_step (first | (go_at_call 166; exact Ext.callq (HB.out _))))
            refine wpQuiet_nil ?_
            rintro _ ⟨z4, rfl⟩
            go_wp2
            go_roundg (Tree.size (Tree.kid true l r))
            case measure => rw [HG.out]; exact Tree.kid_size _ _ _ _ _ _
            case rel => exact ⟨nb, 4 + 1, _, _, rfl, rfl, hnb, Lib.hid HQ.out.1, Lib.hid HQ.out.2, HHN, by simpa using (z4.cell _ (by simpa using g0)).trans ((z3.cell _ (by simpa using hsz)).trans p0), by simpa using (z4.cell _ (by simpa using g0)).trans ((z3.cell _ (by simpa using hsz)).trans p1), by have := z4.below.size; omega, Ext.lift z4 (Ext.lift z3 hbel)⟩
          | false =>
            have HHN := Lib.hid (HHS false hc)
            obtain ⟨qq, HQ2⟩ := HQ1.1
            have HQ := Lib.hid HQ2
            clear HQ2
            clear HHS HQ1
            have HB : Hid (∀ W, Calls Tryz.prog 166 #[.int .u32 (a : Int), .int .i64 (m : Int)] W fun e w' => e = .returned (.int .i64 0) ∧ W = w') := Lib.hid (fun W => by
              have := tbit_any a m W ha (by omega)
              unfold bitN at this; rw [hc] at this; exact this)
            clear hc
            go_wp2
            refine wp_region_ext (by kernel_rfl) (by kernel_rfl) ?_
            repeat (go_big_quiet_step (first | (go_at_call 165; exact Ext.call (tcommon_any _ _ _ _ _ ha' ha hm32 hn))))
            refine wpQuiet_nil ?_
            rintro _ ⟨z3, rfl⟩
            go_wp2
            have hz3 := z3.below.size
            have g0 : w.heap.size < z3.w.heap.size := by omega
            have g1 : nb < z3.w.heap.size := by omega
            refine wp_region_ext (by kernel_rfl) (by kernel_rfl) ?_
            repeat (go_big_quiet_step (first | (go_at_call 166; exact Ext.callq (HB.out _))))
            refine wpQuiet_nil ?_
            rintro _ ⟨z4, rfl⟩
            go_wp2
            go_roundg (Tree.size (Tree.kid false l r))
            case measure => rw [HG.out]; exact Tree.kid_size _ _ _ _ _ _
            case rel => exact ⟨nb, 4 + 0, _, _, rfl, rfl, hnb, Lib.hid HQ.out.1, Lib.hid HQ.out.2, HHN, by simpa using (z4.cell _ (by simpa using g0)).trans ((z3.cell _ (by simpa using hsz)).trans p0), by simpa using (z4.cell _ (by simpa using g0)).trans ((z3.cell _ (by simpa using hsz)).trans p1), by have := z4.below.size; omega, Ext.lift z4 (Ext.lift z3 hbel)⟩
        · have hls := com_less ha' ha hm32 hn (by rw [hbits]; exact hpre)
          have HPRE := Lib.hid hpre
          clear htr hkp hbits hkm hm' hpre
          have t3 : ((comLen a' m a n : Int) == (m : Int)) = false := beq_eq_false_iff_ne.2 (by omega)
          by_cases hmn : m = n
          · have t1 : ((a' : Int) == (a : Int)) = false := beq_eq_false_iff_ne.2 (by omega)
            clear hne hmn
            go_wp2
            refine wp_region_ext (by kernel_rfl) (by kernel_rfl) ?_
            repeat (go_big_quiet_step (first | (go_at_call 165; exact Ext.call (tcommon_any _ _ _ _ _ ha' ha hm32 hn))))
            refine wpQuiet_nil ?_
            rintro _ ⟨z3, rfl⟩
            go_wp2
            try rw [Exit.noGoto_ret]
            go_ret
            exact ⟨⟨_, _, _, rfl, rfl, hb, HC.out, HTR.out, HHo.out, .inr HPRE.out⟩, Ext.lift z3 hbel⟩
          · have t1 : ((m : Int) == (n : Int)) = false := beq_eq_false_iff_ne.2 (by omega)
            clear hne hmn
            go_wp2
            refine wp_region_ext (by kernel_rfl) (by kernel_rfl) ?_
            repeat (go_big_quiet_step (first | (go_at_call 165; exact Ext.call (tcommon_any _ _ _ _ _ ha' ha hm32 hn))))
            refine wpQuiet_nil ?_
            rintro _ ⟨z3, rfl⟩
            go_wp2
            try rw [Exit.noGoto_ret]
            go_ret
            exact ⟨⟨_, _, _, rfl, rfl, hb, HC.out, HTR.out, HHo.out, .inr HPRE.out⟩, Ext.lift z3 hbel⟩
end Go.Proofs.YtfbangojgjcbcaaGreatDoor
namespace Go.Proofs.YtfbangojgjcbcaaGreatDoor
open Go.RowKit Pl

/-- The trie at block T holds the tree t; all of it lies at base or behind. -/
structure TrieAt (w : World) (base T : Nat) (t : Tree) : Prop where
  lt : T < w.heap.size
  ge : base ≤ T
  root : ∃ q, w.cell? ⟨T, 0, none⟩ = some (.pointer q) ∧ Tr w q t
  limit : w.cell? ⟨T, 1, none⟩ = some (.int .i64 8)
  n : w.cell? ⟨T, 2, none⟩ = some (.int .i64 (t.keys.length : Int))
  is : w.cell? ⟨T, 3, none⟩ = some (.bool true)
  free : ∀ i, w.frozen? ⟨T, i, none⟩ = false
  inv : t.Inv
  nodup : t.blocks.Nodup
  out : T ∉ t.blocks
  blocks : ∀ b ∈ t.blocks, base ≤ b
theorem TrieAt.below {w w' : World} {base T : Nat} {t : Tree} (h : TrieAt w base T t) (hb : Below w.heap.size w w') : TrieAt w' base T t := by
  obtain ⟨h1, h2, ⟨q, h3, h4⟩, h5, h6, h7, h8, h9, h10, h11, h12⟩ := h
  exact ⟨Nat.lt_of_lt_of_le h1 hb.size, h2, ⟨q, (hb.cell (show T < _ from h1)).trans h3, h4.below hb⟩, (hb.cell (show T < _ from h1)).trans h5, (hb.cell (show T < _ from h1)).trans h6, (hb.cell (show T < _ from h1)).trans h7, fun i => (hb.frozen (show T < _ from h1)).trans (h8 i), h9, h10, h11, h12⟩
theorem TrieAt.blt {w : World} {base T : Nat} {t : Tree} (h : TrieAt w base T t) : ∀ b ∈ t.blocks, b < w.heap.size := by
  obtain ⟨q, _, h4⟩ := h.root
  exact h4.lt
theorem sc_other {X : World} {a b : Addr} {v : Value} (h : a ≠ b) : (X.setCell a v).cell? b = X.cell? b := by apply World.cell?_setCell_other; exact h
theorem sc_frozen {X : World} {a b : Addr} {v : Value} : (X.setCell a v).frozen? b = X.frozen? b := by simp
/-- All that is not the trie's lies as it lay. -/
def Kept (w w' : World) (T : Nat) (t : Tree) : Prop := ∀ x : Addr, x.block < w.heap.size → x.block ≠ T → x.block ∉ t.blocks → w'.cell? x = w.cell? x ∧ w'.frozen? x = w.frozen? x
theorem Hole.later {W W2 : World} {A0 A : Addr} {t s : Tree} {p : List Bool} (h : Hole W A0 A t s p) (hb : Below W.heap.size W W2) (hlt : ∀ b ∈ t.blocks, b < W.heap.size) (h0 : A0.block < W.heap.size) : Hole W2 A0 A t s p := by
  obtain ⟨h1, h2, h3, h4, h5, h6, h7⟩ := h
  refine ⟨h1, h2, h3, h4, h5, h6, fun b1 b2 w' ptr' hs hA hT hx hf => h7 b1 b2 w' ptr' (Nat.le_trans hb.size hs) hA hT (fun x n1 n2 n3 => ?_) (fun x hx => (hf x hx).trans (hb.frozen (hlt _ hx)))⟩
  refine (hx x n1 n2 n3).trans (hb.cell ?_)
  rcases n3 with n3 | rfl
  · exact hlt _ n3
  · exact h0

set_option maxRecDepth 100000 in
theorem there_any (T : Nat) (w : World) (h : w.cell? ⟨T, 3, none⟩ = some (.bool true)) :
    Calls Tryz.prog 162 #[.pointer (some ⟨T, 0, none⟩)] w fun e w' => e = .returned (.bool true) ∧ w = w' := by
  go_enter Tryz.func162, Tryz.ntmps162
  go_wp2
  go_ret
  exact ⟨rfl, rfl⟩

set_option maxRecDepth 100000 in
set_option maxHeartbeats 1000000 in
theorem insert_bad (T : Nat) (a n : Int) (v : Bool) (w : World) (hT : T < w.heap.size) (h : w.cell? ⟨T, 3, none⟩ = some (.bool true)) (ha : IsAddr a) (hm : mayP a n = false) :
    Calls Tryz.prog 129 #[.pointer (some ⟨T, 0, none⟩), .agg #[.int .u32 a, .int .i64 n], .bool v] w fun e w' => e = .returned (.int .i64 2) ∧ Below w.heap.size w w' := by
  have HI := Lib.hid (show (w.alloc (.cells #[.int .u32 a, .int .i64 n] 86)).cell? ⟨T, 3, none⟩ = some (.bool true) from (World.cell?_alloc_lt _ _ _ hT).trans h)
  have HM := Lib.hid hm
  clear hm
  go_enter Tryz.func129, Tryz.ntmps129
  go_wp2_with (first
    | (go_at_call 162; refine (there_any _ _ HI.out).mono ?_; rintro e w' ⟨rfl, rfl⟩)
    | (go_at_call 163; refine (ext_of (tmay_any _ _ _ ha)).mono ?_; rw [HM.out]; rintro e w' ⟨rfl, y, rfl⟩))
  go_ret
  exact ⟨rfl, (by repeat (first | assumption | exact Below.refl _ _ | apply Below.drew | apply below_drewN | apply bel_alloc | apply Ext.lift | refine bel_setge ?_ (by omega) _ _))⟩

set_option maxRecDepth 100000 in
set_option maxHeartbeats 2000000 in
theorem insert_found (T a n base : Nat) (v : Bool) (t : Tree) (w : World) (ha : a < 4294967296) (hm : mayP a n = true) (h : TrieAt w base T t) (hbase : base ≤ w.heap.size) (hf : t.find (bitsP a n) = true) :
    Calls Tryz.prog 129 #[.pointer (some ⟨T, 0, none⟩), .agg #[.int .u32 (a : Int), .int .i64 (n : Int)], .bool v] w fun e w' => e = .returned (.int .i64 0) ∧ Kept w w' T t ∧ Below base w w' := by
  have hT := h.lt
  have HI := Lib.hid (show (w.alloc (.cells #[.int .u32 (a : Int), .int .i64 (n : Int)] 86)).cell? ⟨T, 3, none⟩ = some (.bool true) from (World.cell?_alloc_lt _ _ _ hT).trans h.is)
  have HM := Lib.hid hm
  have HF := Lib.hid hf
  have HT := Lib.hid h
  have hia : IsAddr (a : Int) := ⟨by omega, by omega⟩
  clear hm hf h
  go_enter Tryz.func129, Tryz.ntmps129
  go_wp2_with (first
    | (go_at_call 162; refine (there_any _ _ HI.out).mono ?_; rintro e w' ⟨rfl, rfl⟩)
    | (go_at_call 163; refine (ext_of (tmay_any _ _ _ hia)).mono ?_; rw [HM.out]; rintro e w' ⟨rfl, y, rfl⟩))
  have TY : TrieAt y.w base T t := HT.out.below (Ext.lift y (bel_alloc (Below.refl _ _) _))
  have hz := y.below.size
  simp only [World.size_alloc] at hz
  have p0 : y.w.cell? ⟨w.heap.size, 0, none⟩ = some (.int .u32 (a : Int)) := (y.cell _ (by simp)).trans (by simp)
  have p1 : y.w.cell? ⟨w.heap.size, 1, none⟩ = some (.int .i64 (n : Int)) := (y.cell _ (by simp)).trans (by simp)
  obtain ⟨root, hr, htr⟩ := TY.root
  refine (place_any T a n root t _ ha HM.out TY.lt hr htr TY.inv TY.nodup TY.out).mono ?_
  rintro e W ⟨⟨A, s, q, rfl, hsp, hAb, hAc, hTs, hH, hS⟩, hb⟩
  clear hr htr TY
  obtain ⟨Ab, Ao, sp⟩ := A
  obtain rfl : sp = none := hsp
  have hbw : Below w.heap.size w W := (Ext.lift y (bel_alloc (Below.refl _ _) _)).trans (hb.mono (by omega))
  have HBW := Lib.hid hbw
  clear hbw
  have hby : Below base w W := ((Ext.lift y (bel_alloc (Below.refl _ _) _)).mono hbase).trans (hb.mono (by omega))
  have r0 := (hb.cell (p := ⟨w.heap.size, 0, none⟩) (by simp; omega)).trans p0
  have r1 := (hb.cell (p := ⟨w.heap.size, 1, none⟩) (by simp; omega)).trans p1
  have rA := (hb.cell (p := ⟨Ab, Ao, none⟩) hAb).trans hAc
  have hTW := hTs.below hb
  have hsf := hH.find.trans HF.out
  have hsub := hH.sub
  clear p0 p1 hAc hTs hH
  cases s with
  | nil => simp [Tree.find] at hsf
  | node nb k has l r =>
    have hkp : k = bitsP a n := by
      rcases hS with h | h
      · exact h
      · exfalso
        unfold Tree.find at hsf
        rw [if_neg (fun e => h (by rw [e]; exact List.prefix_refl _)), if_neg h] at hsf
        cases hsf
    subst hkp
    obtain rfl : has = true := by unfold Tree.find at hsf; rwa [if_pos rfl] at hsf
    obtain ⟨rfl, hnb, a', v', q0, q1, ha', hm', hbits, c0, c1, c2, c3, c4, c5, hfz, hl, hr⟩ := hTW
    have hlen : (bitsP a n).length = n := bitsP_length a n
    rw [hlen] at hm' hbits c1
    obtain ⟨rfl, _⟩ := bitsP_inj ha' ha hm' HM.out hbits
    have hge : base ≤ nb := HT.out.blocks nb (hsub nb (by simp [Tree.blocks]))
    have HB := Lib.hid hby
    have HNB := Lib.hid (hsub nb (by simp [Tree.blocks]))
    have hf2 := hfz 1
    have hf0 := hfz 2
    clear hlen hm' hbits c4 c5 hl hr hsf hsub hby hS hfz
    go_wp2
    go_quiet (fail)
    go_wp2
    go_ret
    refine ⟨rfl, fun x h1 h2 h3 => ⟨(sc_other (fun e => h3 (by rw [← e]; exact HNB.out))).trans (HBW.out.cell h1), sc_frozen.trans (HBW.out.frozen h1)⟩, (below_drewN HB.out _).setCell (p := ⟨nb, 2, none⟩) hge _⟩

set_option maxRecDepth 100000 in
set_option maxHeartbeats 2000000 in
theorem insert_full (T a n base : Nat) (v : Bool) (t : Tree) (w : World) (ha : a < 4294967296) (hm : mayP a n = true) (h : TrieAt w base T t) (hf : t.find (bitsP a n) = false) (h8 : 8 ≤ t.keys.length) :
    Calls Tryz.prog 129 #[.pointer (some ⟨T, 0, none⟩), .agg #[.int .u32 (a : Int), .int .i64 (n : Int)], .bool v] w fun e w' => e = .returned (.int .i64 5) ∧ Below w.heap.size w w' := by
  have hT := h.lt
  have HI := Lib.hid (show (w.alloc (.cells #[.int .u32 (a : Int), .int .i64 (n : Int)] 86)).cell? ⟨T, 3, none⟩ = some (.bool true) from (World.cell?_alloc_lt _ _ _ hT).trans h.is)
  have HM := Lib.hid hm
  have HF := Lib.hid hf
  have HT := Lib.hid h
  have hia : IsAddr (a : Int) := ⟨by omega, by omega⟩
  clear hm hf h
  go_enter Tryz.func129, Tryz.ntmps129
  go_wp2_with (first
    | (go_at_call 162; refine (there_any _ _ HI.out).mono ?_; rintro e w' ⟨rfl, rfl⟩)
    | (go_at_call 163; refine (ext_of (tmay_any _ _ _ hia)).mono ?_; rw [HM.out]; rintro e w' ⟨rfl, y, rfl⟩))
  have TY : TrieAt y.w base T t := HT.out.below (Ext.lift y (bel_alloc (Below.refl _ _) _))
  have hz := y.below.size
  simp only [World.size_alloc] at hz
  have p0 : y.w.cell? ⟨w.heap.size, 0, none⟩ = some (.int .u32 (a : Int)) := (y.cell _ (by simp)).trans (by simp)
  have p1 : y.w.cell? ⟨w.heap.size, 1, none⟩ = some (.int .i64 (n : Int)) := (y.cell _ (by simp)).trans (by simp)
  obtain ⟨root, hr, htr⟩ := TY.root
  refine (place_any T a n root t _ ha HM.out TY.lt hr htr TY.inv TY.nodup TY.out).mono ?_
  rintro e W ⟨⟨A, s, q, rfl, hsp, hAb, hAc, hTs, hH, hS⟩, hb⟩
  clear hr htr TY
  obtain ⟨Ab, Ao, sp⟩ := A
  obtain rfl : sp = none := hsp
  have hby : Below w.heap.size w W := (Ext.lift y (bel_alloc (Below.refl _ _) _)).trans (hb.mono (by omega))
  have r0 := (hb.cell (p := ⟨w.heap.size, 0, none⟩) (by simp; omega)).trans p0
  have r1 := (hb.cell (p := ⟨w.heap.size, 1, none⟩) (by simp; omega)).trans p1
  have rA := (hb.cell (p := ⟨Ab, Ao, none⟩) hAb).trans hAc
  have hTW := hTs.below hb
  have hsf := hH.find.trans HF.out
  have hsub := hH.sub
  clear p0 p1 hAc hTs hH
  have TW : TrieAt W base T t := (HT.out.below (Ext.lift y (bel_alloc (Below.refl _ _) _))).below hb
  have t1 := TW.limit
  have t2 := TW.n
  have d8 : (8 : Int) ≤ (t.keys.length : Int) := by omega
  generalize t.keys.length = K at *
  have HB := Lib.hid hby
  cases s with
  | nil =>
    obtain rfl : q = none := hTW
    clear hS hsub hsf hby TW
    go_wp2
    go_quiet (fail)
    go_wp2
    go_quiet (fail)
    go_wp2
    go_ret
    exact ⟨rfl, below_drewN (below_drewN HB.out _) _⟩
  | node nb k has l r =>
    obtain ⟨rfl, hnb, a', v', q0, q1, ha', hm', hbits, c0, c1, c2, c3, c4, c5, hfz, hl, hr⟩ := hTW
    obtain ⟨m, hkm⟩ : ∃ m, k.length = m := ⟨_, rfl⟩
    rw [hkm] at c1 hm' hbits
    by_cases hkp : k = bitsP a n
    · obtain rfl : has = false := by unfold Tree.find at hsf; rwa [if_pos hkp] at hsf
      obtain ⟨rfl, rfl⟩ := bitsP_inj ha' ha hm' HM.out (hbits.trans hkp)
      clear hS hsub hsf hby TW c4 c5 hl hr hfz hkp hkm hbits hm'
      go_wp2
      go_quiet (fail)
      go_wp2
      go_quiet (fail)
      go_wp2
      go_ret
      exact ⟨rfl, below_drewN (below_drewN HB.out _) _⟩
    · by_cases he : a' = a
      · have hmn : ¬ m = n := fun e => hkp (by rw [← hbits, he, e])
        have t3 : ((m : Int) == (n : Int)) = false := beq_eq_false_iff_ne.2 (by omega)
        clear hS hsub hsf hby TW c4 c5 hl hr hfz hkp hkm hbits hm'
        subst he
        clear hmn
        go_wp2
        go_quiet (fail)
        go_wp2
        go_quiet (fail)
        go_wp2
        go_ret
        exact ⟨rfl, below_drewN (below_drewN HB.out _) _⟩
      · have t3 : ((a' : Int) == (a : Int)) = false := beq_eq_false_iff_ne.2 (by omega)
        clear hS hsub hsf hby TW c4 c5 hl hr hfz hkp hkm hbits hm' he
        go_wp2
        go_quiet (fail)
        go_wp2
        go_quiet (fail)
        go_wp2
        go_ret
        exact ⟨rfl, below_drewN (below_drewN HB.out _) _⟩
end Go.Proofs.YtfbangojgjcbcaaGreatDoor
