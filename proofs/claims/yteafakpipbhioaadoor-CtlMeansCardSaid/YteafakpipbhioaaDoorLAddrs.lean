/- The walk of the law WireAddrs: whatever the address, the prefix and the text, it answers true. -/
import Derived.Test.YteafakpipbhioaaDoorKnown
import Derived.Test.YteafakpipbhioaaDoorAddrR
namespace Go.Proofs.YteafakpipbhioaaDoor
open Go.RowKit Pl

def AddrFact (l : List UInt8) (c : Nat) (e : Int) (ok : Bool) : Prop :=
  (∀ w, Env w → Calls Tryd.prog 23 #[.string (str l)] w fun r w' => r = .returned (.tuple #[.int .u32 c, .int .i64 e]) ∧ Below w.heap.size w w') ∧
  (∀ w, Calls Tryd.prog 24 #[.string (str l)] w fun r w' => r = .returned (.tuple #[.int .u32 c, .bool ok]) ∧ Below w.heap.size w w')
theorem addr_fact (l : List UInt8) (hl : l.length ≤ 1000000) : ∃ c e ok, AddrFact l c e ok ∧ ((ok = true ∧ e = 0) ∨ (ok = false ∧ e = 4 ∧ c = 0)) := by
  cases h : addrOf l with
  | some a => exact ⟨a, 0, true, ⟨fun w E => addrOf_ok l a w hl E h, fun w => raddr_ok l a w hl h⟩, .inl ⟨rfl, rfl⟩⟩
  | none => exact ⟨0, 4, false, ⟨fun w E => addrOf_no l w hl E h, fun w => raddr_no l w hl h⟩, .inr ⟨rfl, rfl, rfl⟩⟩
def PrefFact (l : List UInt8) (a n : Nat) (e : Int) (ok : Bool) : Prop :=
  (∀ w, Env w → Calls Tryd.prog 25 #[.string (str l)] w fun r w' => r = .returned (.tuple #[.agg #[.int .u32 a, .int .i64 n], .int .i64 e]) ∧ Below w.heap.size w w') ∧
  (∀ w, Calls Tryd.prog 26 #[.string (str l)] w fun r w' => r = .returned (.tuple #[.agg #[.int .u32 a, .int .i64 n], .bool ok]) ∧ Below w.heap.size w w')
theorem pref_fact (l : List UInt8) (hl : l.length ≤ 1000000) : ∃ a n e ok, PrefFact l a n e ok ∧ ((ok = true ∧ e = 0) ∨ (ok = false ∧ e = 4)) := by
  have h1 := fun w E => prefixOf_any l w hl E
  have h2 := fun w => rprefixOf l w hl
  unfold prefixRes at h1
  unfold rprefixRes at h2
  cases h : prefixOf l with
  | some an => rw [h] at h1 h2; exact ⟨an.1, an.2, 0, true, ⟨h1, h2⟩, .inl ⟨rfl, rfl⟩⟩
  | none => rw [h] at h1 h2; exact ⟨0, 0, 4, false, ⟨h1, h2⟩, .inr ⟨rfl, rfl⟩⟩

set_option maxRecDepth 100000 in
set_option maxHeartbeats 4000000 in
theorem wireAddrs_walk (x a n : Int) (l : List UInt8) (w : World) (hx : IsAddr x) (ha : IsAddr a) (_ : l.length ≤ maxLen) (E : Env w) :
    Calls Tryd.prog 4 #[.int .u32 x, .agg #[.int .u32 a, .int .i64 n], .string (str l)] w fun e w' => e = .returned (.bool true) ∧ Below w.heap.size w w' := by
  have hsz : (str l).size = l.length := str_size l
  have E0 := E.alloc (.cells #[.int .u32 a, .int .i64 n] 38)
  by_cases hl : 9000 < l.length
  · have hl' : 9000 < (l.length : Int) := by omega
    go_enter Tryd.func4, Tryd.ntmps4
    go_wp2_with (go_at_call 16; refine (ext_of (known_any _ E0)).mono ?_; rintro e w' ⟨rfl, y, rfl⟩)
    go_ret
    exact ⟨rfl, (by repeat (first | exact Below.refl _ _ | apply Below.drew | apply below_drewN | apply bel_alloc | apply Ext.lift | apply bel_set0 | apply bel_set))⟩
  have dl : decide (9000 < (l.length : Int)) = false := by simp; omega
  obtain ⟨c, eA, okA, HA, hcA⟩ := addr_fact l (by omega)
  obtain ⟨aP, nP, eP, okP, HP, hcP⟩ := pref_fact l (by omega)
  obtain ⟨hx0, hx1⟩ := hx
  obtain ⟨X, rfl⟩ := Int.eq_ofNat_of_zero_le hx0
  have hX : X < 4294967296 := by omega
  have ha' := ha
  obtain ⟨ha0, ha1⟩ := ha'
  obtain ⟨A, rfl⟩ := Int.eq_ofNat_of_zero_le ha0
  have hA : A < 4294967296 := by omega
  clear hl hx0 hx1 ha0 ha1
  have HA1 := Lib.hid HA.1
  have HA2 := Lib.hid HA.2
  have HP1 := Lib.hid HP.1
  have HP2 := Lib.hid HP.2
  clear HA HP
  by_cases hm : mayP A n = true
  · obtain ⟨hn0, hn1⟩ := mayP_len hm
    obtain ⟨N, rfl⟩ := Int.eq_ofNat_of_zero_le hn0
    have HM := Lib.hid hm
    have hN : N ≤ 32 := by omega
    clear hm hn0 hn1
    rcases hcA with ⟨rfl, rfl⟩ | ⟨rfl, rfl, rfl⟩ <;> rcases hcP with ⟨rfl, rfl⟩ | ⟨rfl, rfl⟩
    all_goals
      go_enter Tryd.func4, Tryd.ntmps4
      go_wp2_with (first
        | (go_at_call 23; refine (ext_of (HA1.out _ E0)).mono ?_; rintro e w' ⟨rfl, y0, rfl⟩)
        | (go_at_call 24; refine (Ext.call (HA2.out _)).mono ?_; rintro e w' ⟨rfl, y1, rfl⟩)
        | (go_at_call 25; refine (Ext.call (HP1.out _ (Ext.env _ E0))).mono ?_; rintro e w' ⟨rfl, z1, rfl⟩; have hz1 : w.heap.size < z1.w.heap.size := (by have := z1.below.size; simp only [World.size_alloc] at this; omega); have hz1' : w.heap.size < z1.w.heap.size + 1 := (by omega); have E1 := (z1.env E0).alloc (.cells #[.int .u32 aP, .int .i64 nP] 38))
        | (go_at_call 26; refine (ext_of (HP2.out _)).mono ?_; rintro e w' ⟨rfl, z2, rfl⟩; have hz2 : z1.w.heap.size < z2.w.heap.size := (by have := z2.below.size; simp only [World.size_alloc] at this; omega); have hz2' : z1.w.heap.size < z2.w.heap.size + 1 := (by omega); have hz3 : w.heap.size < z2.w.heap.size := (by omega); have hz3' : w.heap.size < z2.w.heap.size + 1 := (by omega); have E2 := (z2.env E1).alloc (.cells #[.int .u32 aP, .int .i64 nP] 38))
        | (go_at_call 27; refine (ext_of (prefixText_ok A N _ hA HM.out E2)).mono ?_; rintro e w' ⟨rfl, z3, rfl⟩)
        | (go_at_call 28; refine (Ext.call (addrText_any X _ hX (Ext.env _ E2))).mono ?_; rintro e w' ⟨rfl, z4, rfl⟩)
        | (go_at_call 29; refine (Ext.call (raddrText X _ hX (Ext.env _ E2))).mono ?_; rintro e w' ⟨rfl, z5, rfl⟩)
        | (go_at_call 20; refine (num_any _ _).mono ?_; rintro e w' ⟨rfl, rfl⟩)
        | (go_at_call 30; refine (Ext.call (rmay_at A N true _ ha HM.out)).mono ?_; rintro e w' ⟨rfl, z6, rfl⟩)
        | (go_at_call 31; refine (Ext.call (rprefixText A N _ hA hN (Ext.env _ E2))).mono ?_; rintro e w' ⟨rfl, z7, rfl⟩)
        | (go_at_call 16; refine (Ext.call (known_any _ (Ext.env _ E2))).mono ?_; rintro e w' ⟨rfl, z8, rfl⟩))
      go_ret
      exact ⟨rfl, (by repeat (first | exact Below.refl _ _ | apply Below.drew | apply below_drewN | apply bel_alloc | apply Ext.lift | apply bel_set0 | apply bel_set))⟩
  · have HM := Lib.hid (show mayP A n = false by simpa using hm)
    clear hm
    rcases hcA with ⟨rfl, rfl⟩ | ⟨rfl, rfl, rfl⟩ <;> rcases hcP with ⟨rfl, rfl⟩ | ⟨rfl, rfl⟩
    all_goals
      go_enter Tryd.func4, Tryd.ntmps4
      go_wp2_with (first
        | (go_at_call 23; refine (ext_of (HA1.out _ E0)).mono ?_; rintro e w' ⟨rfl, y0, rfl⟩)
        | (go_at_call 24; refine (Ext.call (HA2.out _)).mono ?_; rintro e w' ⟨rfl, y1, rfl⟩)
        | (go_at_call 25; refine (Ext.call (HP1.out _ (Ext.env _ E0))).mono ?_; rintro e w' ⟨rfl, z1, rfl⟩; have hz1 : w.heap.size < z1.w.heap.size := (by have := z1.below.size; simp only [World.size_alloc] at this; omega); have hz1' : w.heap.size < z1.w.heap.size + 1 := (by omega); have E1 := (z1.env E0).alloc (.cells #[.int .u32 aP, .int .i64 nP] 38))
        | (go_at_call 26; refine (ext_of (HP2.out _)).mono ?_; rintro e w' ⟨rfl, z2, rfl⟩; have hz2 : z1.w.heap.size < z2.w.heap.size := (by have := z2.below.size; simp only [World.size_alloc] at this; omega); have hz2' : z1.w.heap.size < z2.w.heap.size + 1 := (by omega); have hz3 : w.heap.size < z2.w.heap.size := (by omega); have hz3' : w.heap.size < z2.w.heap.size + 1 := (by omega); have E2 := (z2.env E1).alloc (.cells #[.int .u32 aP, .int .i64 nP] 38))
        | (go_at_call 27; refine (ext_of (prefixText_err A n _ ha HM.out)).mono ?_; rintro e w' ⟨rfl, z3, rfl⟩)
        | (go_at_call 28; refine (Ext.call (addrText_any X _ hX (Ext.env _ E2))).mono ?_; rintro e w' ⟨rfl, z4, rfl⟩)
        | (go_at_call 29; refine (Ext.call (raddrText X _ hX (Ext.env _ E2))).mono ?_; rintro e w' ⟨rfl, z5, rfl⟩)
        | (go_at_call 20; refine (num_any _ _).mono ?_; rintro e w' ⟨rfl, rfl⟩)
        | (go_at_call 30; refine (Ext.call (rmay_at A n false _ ha HM.out)).mono ?_; rintro e w' ⟨rfl, z6, rfl⟩)
        | (go_at_call 16; refine (Ext.call (known_any _ (Ext.env _ E2))).mono ?_; rintro e w' ⟨rfl, z8, rfl⟩))
      go_ret
      exact ⟨rfl, (by repeat (first | exact Below.refl _ _ | apply Below.drew | apply below_drewN | apply bel_alloc | apply Ext.lift | apply bel_set0 | apply bel_set))⟩
end Go.Proofs.YteafakpipbhioaaDoor
