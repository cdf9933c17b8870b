/- Contract of the reference's Unhex. -/
import Derived.Test.YteafakpipbhioaaDoorUnhex
namespace Go.Proofs.YteafakpipbhioaaDoor
open Go.RowKit Pl

/-- The inner loop: t digits read. -/
def UnPart (a b : UInt8) (t X : Nat) : Prop := (t = 0 ∧ X = 0) ∨ (t = 1 ∧ dig a = some X) ∨ (t = 2 ∧ ∃ p q, dig a = some p ∧ dig b = some q ∧ X = 16 * p + q)
theorem UnPart.small {a b : UInt8} {t X : Nat} (h : UnPart a b t X) (ht : t < 2) : X < 16 := by
  rcases h with ⟨_, h⟩ | ⟨_, h⟩ | ⟨h, _⟩
  · omega
  · exact dig_lt h
  · omega
theorem UnPart.le {a b : UInt8} {t X : Nat} (h : UnPart a b t X) : X < 256 := by
  rcases h with ⟨_, h⟩ | ⟨_, h⟩ | ⟨_, p, q, h1, h2, h⟩
  · omega
  · have := dig_lt h; omega
  · have := dig_lt h1; have := dig_lt h2; omega
theorem UnPart.step {a b c : UInt8} {t X d : Nat} (h : UnPart a b t X) (ht : t < 2) (hc : c = if t = 0 then a else b) (hd : dig c = some d) : UnPart a b (t + 1) (16 * X + d) := by
  rcases h with ⟨h0, h⟩ | ⟨h0, h⟩ | ⟨h0, _⟩
  · subst h0 h; simp at hc; subst hc; exact .inr (.inl ⟨rfl, by simpa using hd⟩)
  · subst h0; simp at hc; subst hc; exact .inr (.inr ⟨rfl, X, d, h, hd, rfl⟩)
  · omega
theorem dig_num {c : UInt8} (h0 : 48 ≤ c.toNat) (h1 : c.toNat ≤ 57) : dig c = some (c.toNat - 48) := by simp [dig, h0, h1]
theorem dig_let {c : UInt8} (h0 : 97 ≤ c.toNat) (h1 : c.toNat ≤ 102) : dig c = some (c.toNat - 87) := by
  unfold dig; rw [if_neg (by omega), if_pos ⟨h0, h1⟩]
theorem dig_not {c : UInt8} (h0 : ¬ (48 ≤ c.toNat ∧ c.toNat ≤ 57)) (h1 : ¬ (97 ≤ c.toNat ∧ c.toNat ≤ 102)) : dig c = none := by
  unfold dig; rw [if_neg h0, if_neg h1]

def RUnRes (l : List UInt8) (base : Nat) (e : Ending) (w' : World) : Prop :=
  (∃ m v, unhex l = some m ∧ e = .returned (.tuple #[v, .bool true]) ∧ w'.ownsRow base 5 1 v m.length (cellsB m)) ∨
  (unhex l = none ∧ e = .returned (.tuple #[.slice none 0 0, .bool false]))

set_option maxRecDepth 100000 in
set_option maxHeartbeats 1000000 in
theorem runhex_any (l : List UInt8) (w : World) (hl : l.length ≤ 1000000) :
    Calls Tryd.prog 33 #[.string (str l)] w fun e w' => RUnRes l w.heap.size e w' ∧ Below w.heap.size w w' := by
  have hsz : (str l).size = l.length := str_size l
  by_cases hev : l.length % 2 = 0
  · have dev : (((l.length : Int) % 2) != 0) = false := by simp; omega
    go_enter Tryd.func33, Tryd.ntmps33
    go_wp2
    go_loopw [4, 5] (fun v i wr => ∃ (j : Nat) (acc : List UInt8), 2 * j ≤ l.length ∧ acc.length = j ∧ Hid (UnInv l (2 * j) acc) ∧ i = .int .i64 ((2 * j : Nat) : Int) ∧ wr.ownsRow w.heap.size 5 1 v acc.length (cellsB acc) ∧ Below w.heap.size w wr) (fun _ i _ => l.length - (intOf i).toNat)
    case atStart => exact ⟨0, [], by omega, rfl, Lib.hid (UnInv.start l), rfl, World.ownsRow_nil _ _ _ _, Below.refl _ _⟩
    case round =>
      obtain ⟨j, acc, hj, hacc, HI, rfl, hown, hb⟩ := hrel
      have hbs := hb.size
      obtain ⟨i, hi⟩ : ∃ i, i = 2 * j := ⟨_, rfl⟩
      rw [← hi] at hj HI ⊢
      by_cases hlt : i < l.length
      · have hlt1 : i + 1 < l.length := by omega
        obtain ⟨a, ha⟩ : ∃ a, l[i]'hlt = a := ⟨_, rfl⟩
        obtain ⟨b, hb1⟩ : ∃ b, l[i + 1]'hlt1 = b := ⟨_, rfl⟩
        have HG := Lib.hid (fun p q => UnInv.good HI.out hlt1 ha hb1 (p := p) (q := q))
        have HN := Lib.hid (UnInv.bad HI.out hlt1 ha hb1)
        have HC : Hid (∀ t, t < 2 → ∃ (s : i + t < (str l).size), (str l)[i + t]'s = if t = 0 then a else b) := Lib.hid (by
          intro t ht
          have : t = 0 ∨ t = 1 := by omega
          rcases this with rfl | rfl
          · exact ⟨str_lt hlt, ha⟩
          · exact ⟨str_lt hlt1, hb1⟩)
        have d0 : (i : Int) < (l.length : Int) := by omega
        have hjl : acc.length ≤ 1000000 := by omega
        have HJ := Lib.hid hi
        clear ha hb1 HI hi
        go_wp2
        go_loop [6, 7] (fun x k => ∃ t X : Nat, t ≤ 2 ∧ k = .int .i64 ((i + t : Nat) : Int) ∧ x = .int .i64 (X : Int) ∧ UnPart a b t X) (fun _ k => i + 2 - (intOf k).toNat)
        case atStart => exact ⟨0, 0, by omega, rfl, rfl, .inl ⟨rfl, rfl⟩⟩
        case round =>
          obtain ⟨t, X, ht, rfl, rfl, HP⟩ := hrel
          by_cases ht2 : t < 2
          · obtain ⟨s, ec⟩ := HC.out t ht2
            obtain ⟨c, hc⟩ : ∃ c : UInt8, c = if t = 0 then a else b := ⟨_, rfl⟩
            rw [← hc] at ec
            have hX := HP.small ht2
            have hlt2 : ((i : Int) + (t : Int)) < (l.length : Int) := by omega
            have hcl : (c.toNat : Int) < 256 := by have := c.toNat_lt; omega
            by_cases hn : 48 ≤ c.toNat ∧ c.toNat ≤ 57
            · have HS := Lib.hid (HP.step ht2 hc (dig_num hn.1 hn.2))
              have e1 : (48 : Int) ≤ (c.toNat : Int) := by omega
              have e2 : (c.toNat : Int) ≤ 57 := by omega
              clear HP hc hn
              go_wp2
              exact ⟨⟨t + 1, 16 * X + (c.toNat - 48), by omega, by go_num, congrArg (Value.int .i64) (by omega), HS.out⟩, by simp [intOf]; omega⟩
            · by_cases hn2 : 97 ≤ c.toNat ∧ c.toNat ≤ 102
              · have HS := Lib.hid (HP.step ht2 hc (dig_let hn2.1 hn2.2))
                have e1 : (48 : Int) ≤ (c.toNat : Int) := by omega
                have e2 : decide ((c.toNat : Int) ≤ 57) = false := by simp; omega
                have e3 : (97 : Int) ≤ (c.toNat : Int) := by omega
                have e4 : (c.toNat : Int) ≤ 102 := by omega
                clear HP hc hn hn2
                go_wp2
                exact ⟨⟨t + 1, 16 * X + (c.toNat - 87), by omega, by go_num, congrArg (Value.int .i64) (by omega), HS.out⟩, by simp [intOf]; omega⟩
              · have HZ : Hid (unhex l = none) := Lib.hid (HN.out (by
                  have hd := dig_not hn hn2
                  rw [hc] at hd
                  by_cases h0 : t = 0
                  · rw [if_pos h0] at hd; exact .inl hd
                  · rw [if_neg h0] at hd; exact .inr hd))
                clear HP hc
                by_cases k1 : c.toNat < 48
                · have e1 : decide ((48 : Int) ≤ (c.toNat : Int)) = false := by simp; omega
                  have e3 : decide ((97 : Int) ≤ (c.toNat : Int)) = false := by simp; omega
                  clear hn hn2 k1
                  go_wp2
                  go_ret2
                  exact ⟨.inr ⟨HZ.out, rfl⟩, hb⟩
                · have e1 : (48 : Int) ≤ (c.toNat : Int) := by omega
                  have e2 : decide ((c.toNat : Int) ≤ 57) = false := by simp; omega
                  by_cases k2 : c.toNat < 97
                  · have e3 : decide ((97 : Int) ≤ (c.toNat : Int)) = false := by simp; omega
                    clear hn hn2 k1 k2
                    go_wp2
                    go_ret2
                    exact ⟨.inr ⟨HZ.out, rfl⟩, hb⟩
                  · have e3 : (97 : Int) ≤ (c.toNat : Int) := by omega
                    have e4 : decide ((c.toNat : Int) ≤ 102) = false := by simp; omega
                    clear hn hn2 k1 k2
                    go_wp2
                    go_ret2
                    exact ⟨.inr ⟨HZ.out, rfl⟩, hb⟩
          · obtain rfl : t = 2 := by omega
            have hX := HP.le
            obtain ⟨p, q, hp, hq, rfl⟩ : ∃ p q, dig a = some p ∧ dig b = some q ∧ X = 16 * p + q := by
              rcases HP with ⟨h, _⟩ | ⟨h, _⟩ | ⟨_, h⟩
              · omega
              · omega
              · exact h
            have HI2 := Lib.hid (HG.out p q hp hq)
            have hp1 := dig_lt hp
            have hq1 := dig_lt hq
            have e0 : decide (((i + 2 : Nat) : Int) < (i : Int) + 2) = false := by simp
            clear HP HG HN HC hp hq
            go_wp2_with (at_builtin; refine wpList_push rfl _ _ 23 rfl w.heap.size 5 info_u8 rfl (by decide) Tryd.underlying23 _ _ _ rfl hown rfl rfl (by omega) hbs ?_)
            intro v' w1 hown' hg
            rw [← hacc, show (16 * (p : Int) + (q : Int)) = ((UInt8.ofNat (16 * p + q)).toNat : Int) from by simp; omega] at hown'
            have R := unhex_rel hb hown hown' hg
            have HR := Lib.hid R.1
            have HR2 := Lib.hid R.2
            clear hown hown' hg hb R
            go_wp2
            go_roundw
            case rel => exact ⟨j + 1, _, by have := HJ.out; omega, by simp [hacc], Lib.hid (by have := HI2.out; rw [HJ.out] at this; exact this), by have := HJ.out; go_num, HR.out, HR2.out⟩
            case measure => simp [intOf]; omega
      · have hi' : i = l.length := by omega
        have HZ : Hid (unhex l = some acc) := Lib.hid (by have := HI.out; rw [hi'] at this; exact this.done)
        have d0 : decide ((i : Int) < (l.length : Int)) = false := by simp; omega
        clear HI hi
        go_wp2
        go_ret2
        exact ⟨.inl ⟨acc, _, HZ.out, rfl, hown⟩, hb⟩
  · have dev : (((l.length : Int) % 2) != 0) = true := by simp; omega
    have HZ := Lib.hid (unhex_odd l (by omega))
    go_enter Tryd.func33, Tryd.ntmps33
    go_wp2
    go_ret2
    exact ⟨.inr ⟨HZ.out, rfl⟩, Below.refl _ _⟩
end Go.Proofs.YteafakpipbhioaaDoor
