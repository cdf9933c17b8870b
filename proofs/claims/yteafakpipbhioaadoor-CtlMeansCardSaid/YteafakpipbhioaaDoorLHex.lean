/- The walk of the law WireHex: whatever the bytes and the text, it answers true. -/
import Derived.Test.YteafakpipbhioaaDoorKnown
import Derived.Test.YteafakpipbhioaaDoorUnhexR
namespace Go.Proofs.YteafakpipbhioaaDoor
open Go.RowKit Pl

theorem unhex_fact (l : List UInt8) (hl : l.length ≤ 1000000) : ∃ (m : List UInt8) (e : Int) (ok : Bool),
    ((∀ w : World, Calls Tryd.prog 32 #[.string (str l)] w fun r w' => ∃ v, r = .returned (.tuple #[v, .int .i64 e]) ∧ Bs w' v m ∧ Below w.heap.size w w') ∧
     (∀ w : World, Calls Tryd.prog 33 #[.string (str l)] w fun r w' => ∃ v, r = .returned (.tuple #[v, .bool ok]) ∧ Bs w' v m ∧ Below w.heap.size w w')) ∧
    ((e = 0 ∧ ok = true) ∨ (e = 4 ∧ ok = false)) := by
  cases h : unhex l with
  | some m =>
    refine ⟨m, 0, true, ⟨fun w => (unhex_any l w hl).mono ?_, fun w => (runhex_any l w hl).mono ?_⟩, .inl ⟨rfl, rfl⟩⟩
    · rintro r w' ⟨⟨m', v, h1, h2, h3⟩ | ⟨h1, _⟩, hb⟩
      · rw [h] at h1; injection h1 with h1; subst h1; exact ⟨v, h2, Bs.own h3, hb⟩
      · rw [h] at h1; cases h1
    · rintro r w' ⟨⟨m', v, h1, h2, h3⟩ | ⟨h1, _⟩, hb⟩
      · rw [h] at h1; injection h1 with h1; subst h1; exact ⟨v, h2, Bs.own h3, hb⟩
      · rw [h] at h1; cases h1
  | none =>
    refine ⟨[], 4, false, ⟨fun w => (unhex_any l w hl).mono ?_, fun w => (runhex_any l w hl).mono ?_⟩, .inr ⟨rfl, rfl⟩⟩
    · rintro r w' ⟨⟨m', v, h1, _⟩ | ⟨_, h2⟩, hb⟩
      · rw [h] at h1; cases h1
      · exact ⟨_, h2, Bs.nil _, hb⟩
    · rintro r w' ⟨⟨m', v, h1, _⟩ | ⟨_, h2⟩, hb⟩
      · rw [h] at h1; cases h1
      · exact ⟨_, h2, Bs.nil _, hb⟩

set_option maxRecDepth 100000 in
set_option maxHeartbeats 4000000 in
theorem wireHex_walk (v : Value) (l s : List UInt8) (w : World) (hb : Bs w v l) (_ : s.length ≤ maxLen) (E : Env w) :
    Calls Tryd.prog 5 #[v, .string (str s)] w fun e w' => e = .returned (.bool true) ∧ Below w.heap.size w w' := by
  have HB := Lib.hid hb
  obtain ⟨A, c, rfl, hc, _, _⟩ := hb
  have hsz : (str s).size = s.length := str_size s
  by_cases hl : 9000 < l.length
  · have hl' : 9000 < (l.length : Int) := by omega
    go_enter Tryd.func5, Tryd.ntmps5
    go_wp2_with (go_at_call 16; refine (ext_of (known_any _ E)).mono ?_; rintro e w' ⟨rfl, y, rfl⟩)
    go_ret
    exact ⟨rfl, (by repeat (first | exact Below.refl _ _ | apply Below.drew | apply below_drewN | apply bel_alloc | apply Ext.lift | apply bel_set0 | apply bel_set))⟩
  have dl : decide (9000 < (l.length : Int)) = false := by simp; omega
  by_cases hs : 9000 < s.length
  · have hs' : 9000 < (s.length : Int) := by omega
    clear hl
    go_enter Tryd.func5, Tryd.ntmps5
    go_wp2_with (go_at_call 16; refine (ext_of (known_any _ E)).mono ?_; rintro e w' ⟨rfl, y, rfl⟩)
    go_ret
    exact ⟨rfl, (by repeat (first | exact Below.refl _ _ | apply Below.drew | apply below_drewN | apply bel_alloc | apply Ext.lift | apply bel_set0 | apply bel_set))⟩
  have ds : decide (9000 < (s.length : Int)) = false := by simp; omega
  have hll : l.length ≤ 1000000 := by omega
  obtain ⟨m, e, ok, HU, hc⟩ := unhex_fact s (by omega)
  have H1 := Lib.hid HU.1
  have H2 := Lib.hid HU.2
  clear HU hl hs
  rcases hc with ⟨rfl, rfl⟩ | ⟨rfl, rfl⟩
  all_goals
    go_enter Tryd.func5, Tryd.ntmps5
    go_wp2_with (first
      | (go_at_call 32; refine (H1.out _).mono ?_; rintro e w1 ⟨x, rfl, hx, hb1⟩; obtain ⟨y, rfl⟩ : ∃ y : Ext w, w1 = y.w := ⟨⟨_, hb1⟩, rfl⟩; have HX := Lib.hid hx; clear hx hb1)
      | (go_at_call 33; refine (H2.out _).mono ?_; rintro e w1 ⟨x2, rfl, hx, hb1⟩; obtain ⟨y2, rfl⟩ : ∃ y2 : Ext y.w, w1 = y2.w := ⟨⟨_, hb1⟩, rfl⟩; have HX2 := Lib.hid hx; clear hx hb1)
      | (go_at_call 34; refine (ext_of (hex_any _ l _ ((HB.out.ext y).ext y2) hll)).mono ?_; rintro e w' ⟨rfl, y3, rfl⟩)
      | (go_at_call 35; refine (ext_of (rhex _ l _ (((HB.out.ext y).ext y2).ext y3) hll)).mono ?_; rintro e w' ⟨rfl, y4, rfl⟩; have hcv1 := (((HX.out.ext y2).ext y3).ext y4).conv; have hcv2 := ((HX2.out.ext y3).ext y4).conv)
      | (go_at_call 20; refine (num_any _ _).mono ?_; rintro e w' ⟨rfl, rfl⟩)
      | (go_at_call 16; refine (ext_of (known_any _ (Ext.env _ (Ext.env _ (Ext.env _ (Ext.env _ E)))))).mono ?_; rintro e w' ⟨rfl, z8, rfl⟩))
    go_ret
    exact ⟨rfl, (by repeat (first | exact Below.refl _ _ | apply Below.drew | apply below_drewN | apply bel_alloc | apply Ext.lift | apply bel_set0 | apply bel_set))⟩
end Go.Proofs.YteafakpipbhioaaDoor
