/- Contracts of Hex of both. -/
import Derived.Test.YteafakpipbhioaaDoorPlainH
import Derived.Test.YteafakpipbhioaaDoorText
import Derived.Test.YteafakpipbhioaaDoorTail
import Derived.Test.YteafakpipbhioaaDoorBuilder
import Derived.Test.YteafakpipbhioaaDoorShelf2
namespace Go.Proofs.YteafakpipbhioaaDoor
open Go.RowKit Pl

theorem hx_ba (n : Nat) (h : n < (ByteArray.mk #[48, 49, 50, 51, 52, 53, 54, 55, 56, 57, 97, 98, 99, 100, 101, 102]).size) :
    (ByteArray.mk #[48, 49, 50, 51, 52, 53, 54, 55, 56, 57, 97, 98, 99, 100, 101, 102])[n] = hx n := by
  have k : ∀ m : Fin 16, (ByteArray.mk #[48, 49, 50, 51, 52, 53, 54, 55, 56, 57, 97, 98, 99, 100, 101, 102])[m.1]'m.2 = hx m.1 := by decide +kernel
  exact k ⟨n, h⟩
theorem and15 (x : UInt8) : bits .and .u8 (x.toNat : Int) 15 = ((x.toNat % 16 : Nat) : Int) := by
  have k : ∀ m : Fin 256, bits .and .u8 (m.1 : Int) 15 = ((m.1 % 16 : Nat) : Int) := by decide +kernel
  exact k ⟨x.toNat, x.toNat_lt⟩
theorem hex_two (l m : List UInt8) (x : UInt8) (h : m = l ++ hex1 x) : cellsB (l ++ [hx (x.toNat / 16)] ++ [hx (x.toNat % 16)]) = cellsB m := by
  subst h; simp [hex1]

set_option maxRecDepth 100000 in
set_option maxHeartbeats 1000000 in
theorem hex_any (v : Value) (l : List UInt8) (w : World) (hb : Bs w v l) (hl : l.length ≤ 1000000) :
    Calls Tryd.prog 34 #[v] w fun e w' => e = .returned (.string (str (hexText l))) ∧ Below w.heap.size w w' := by
  have HB := Lib.hid hb
  obtain ⟨A, c, rfl, hc, _, _⟩ := hb
  go_enter Tryd.func34, Tryd.ntmps34
  go_wp2
  go_loopw [8] (fun i wr => ∃ j : Nat, j ≤ l.length ∧ i = .int .i64 j ∧ Lib.IsBuilder 122 5 w.heap.size w.heap.size (cellsB (hexText (l.take j))) wr ∧ Below w.heap.size w wr) (fun i _ => l.length - (intOf i).toNat)
  case atStart =>
    exact ⟨0, Nat.zero_le _, rfl, Lib.fresh_isBuilder 122 5 w, bel_alloc (Below.refl _ _) _⟩
  case round =>
    obtain ⟨j, hj, rfl, hbu, hb⟩ := hrel
    by_cases hlt : j < l.length
    · obtain ⟨A', c', hv, _, _, hA⟩ := HB.out.below hb
      injection hv with hv1 hv2 hv3
      subst hv1 hv3
      obtain ⟨b, off, rfl, hbs, hcell⟩ := hA (by omega)
      have hcj : wr.cell? ⟨b, off + j, none⟩ = some (.int .u8 (l[j].toNat : Int)) := hcell j _ (by simp [cellsB, hlt])
      clear hcell hA
      have hlen : (hexText (l.take j)).length ≤ 2000000 := by rw [hexText_length, List.length_take]; omega
      have ht := hexText_take l j hlt
      obtain ⟨x, hx⟩ : ∃ x, l[j] = x := ⟨_, rfl⟩
      rw [hx] at hcj ht
      clear hx
      have hxl : (x.toNat : Int) < 256 := by have := x.toNat_lt; omega
      have hand := and15 x
      have HW := Lib.hid hbu
      clear hbu
      have hbz := hb.size
      go_wp2_with (go_at_call 77; rw [hx_ba]; refine (writeByte_any _ _ _ _ _ HW.out (by omega) hbz).mono ?_)
      rintro e w1 ⟨rfl, hw1, hb1⟩
      have hbz1 := hb1.size
      have HW1 := Lib.hid hw1
      clear hw1
      go_wp2_with (go_at_call 77; rw [hx_ba]; refine (writeByte_any _ _ _ _ _ HW1.out (by simp; omega) (by omega)).mono ?_)
      rintro e w2 ⟨rfl, hw2, hb2⟩
      rw [hex_two _ _ _ ht] at hw2
      have HW2 := Lib.hid hw2
      clear hw2
      go_wp2
      go_roundw
      case rel => exact ⟨j + 1, by omega, by go_num, HW2.out, hb.trans (hb1.trans hb2)⟩
      case measure => simp [intOf]; omega
    · obtain rfl : j = l.length := by omega
      rw [List.take_length] at hbu
      have hbz := hb.size
      have HW := Lib.hid hbu
      clear hbu
      go_wp2_with (go_at_call 78; refine (Tryd.Builder_String_any _ _ (hexText l) _ HW.out hbz).mono ?_)
      rintro e w1 ⟨rfl, hb1⟩
      go_wp2
      go_ret
      exact ⟨rfl, hb.trans hb1⟩
end Go.Proofs.YteafakpipbhioaaDoor
