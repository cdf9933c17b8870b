/- Contracts of the reference's Hex. -/
import Derived.Test.YteafakpipbhioaaDoorHex
namespace Go.Proofs.YteafakpipbhioaaDoor
open Go.RowKit Pl

theorem u8_wrap (p : Nat) (h : p < 256) : IntKind.u8.wrap (p : Int) = p := by
  have k : ∀ m : Fin 256, IntKind.u8.wrap (m.1 : Int) = m.1 := by decide +kernel
  exact k ⟨p, h⟩
theorem own_ne {w : World} {base b : Nat} {e : TypeId} {size n : Nat} {v : Value} {xs : List Value} (h : w.ownsRow base e size v n xs) (hb : b < base) : v.ownBlock ≠ some b := fun k => by have := (h.lt b k).1; omega

set_option maxRecDepth 100000 in
set_option maxHeartbeats 1000000 in
theorem rhex (v : Value) (l : List UInt8) (w : World) (hb : Bs w v l) (hl : l.length ≤ 1000000) :
    Calls Tryd.prog 35 #[v] w fun e w' => e = .returned (.string (str (hexText l))) ∧ Below w.heap.size w w' := by
  have HB := Lib.hid hb
  obtain ⟨A, c, rfl, hc, _, _⟩ := hb
  go_enter Tryd.func35, Tryd.ntmps35
  go_wp2
  go_loopw [4, 5] (fun o i wr => ∃ j : Nat, j ≤ l.length ∧ i = .int .i64 j ∧ wr.ownsRow w.heap.size 5 1 o (2 * j) (cellsB (hexText (l.take j))) ∧ Below w.heap.size w wr) (fun _ i _ => l.length - (intOf i).toNat)
  case atStart => exact ⟨0, Nat.zero_le _, rfl, World.ownsRow_nil _ _ _ _, Below.refl _ _⟩
  case round =>
    obtain ⟨j, hj, rfl, hown, hb⟩ := hrel
    by_cases hlt : j < l.length
    · obtain ⟨A', c', hv, _, _, hA⟩ := HB.out
      injection hv with hv1 hv2 hv3
      subst hv1 hv3
      obtain ⟨b, off, rfl, hbs, hcell⟩ := hA (by omega)
      have hcj : wr.cell? ⟨b, off + j, none⟩ = some (.int .u8 (l[j].toNat : Int)) := (hb.cell (show b < w.heap.size from hbs)).trans (hcell j _ (by simp [cellsB, hlt]))
      clear hcell hA
      have ht := hexText_take l j hlt
      obtain ⟨x, hx⟩ : ∃ x, l[j] = x := ⟨_, rfl⟩
      rw [hx] at hcj ht
      clear hx
      have hxl : (x.toNat : Int) < 256 := by have := x.toNat_lt; omega
      have hbz := hb.size
      have hbw : b < wr.heap.size := by omega
      have hne := own_ne hown hbs
      obtain ⟨p, hp⟩ : ∃ p, p = x.toNat / 16 := ⟨_, rfl⟩
      obtain ⟨q, hq⟩ : ∃ q, q = x.toNat % 16 := ⟨_, rfl⟩
      have hw1 : IntKind.u8.wrap ((x.toNat : Int) / 16) = (p : Int) := by
        have e : (x.toNat : Int) / 16 = (p : Int) := by omega
        rw [e]; exact u8_wrap p (by omega)
      have hw2 : Int.tmod (x.toNat : Int) 16 = (q : Int) := by rw [Int.tmod_eq_emod_of_nonneg (by omega)]; omega
      have hp1 : (p : Int) < 16 := by omega
      have hq1 : (q : Int) < 16 := by omega
      have HP := Lib.hid hp
      have HQ := Lib.hid hq
      clear hp hq
      obtain ⟨i0, hi0, hz0, hz1, hz2⟩ := info_parts info_u8
      go_wp2_with fail
      go_region_held3 (fun w' => w'.cell? ⟨b, off + j, none⟩ = some (.int .u8 (x.toNat : Int)))
        (first
          | go_keep
          | (rw [hgrow.cell_far _ (by simp; omega) (Ne.symm hne)]; assumption))
        ((refine step_append_lies _ (by rfl) _ _ _ (by rfl) w.heap.size 5 i0 _ 1 1 Tryd.underlying23 hi0 hz0 hz1 hz2 rfl (by omega) _ (2 * j) _ (by rfl) ((hown.alloc _).drew)
            ⟨wr.heap.size, 0, none⟩ 2 2 [_, _] (by rfl) (by rfl) (World.news_of_block (cs := #[_, _]) (t := 5) (fr := (0, 0)) (heap_alloc_new wr _)) (by simp [Value.oneCell'])
            (by omega) (by unfold maxLen; omega) (by omega) (by simp; omega) (wr.heap.size + 1) (by simp) ?_; intro gg cap w1 hown1 hgrow hat hlt1))
      all_goals
        rw [hx_ba, hx_ba, HP.out, HQ.out] at hown1
        rw [show cellsB (hexText (l.take j)) ++ [Value.int .u8 ((hx (x.toNat / 16)).toNat : Int), Value.int .u8 ((hx (x.toNat % 16)).toNat : Int)] = cellsB (hexText (l.take (j + 1))) from by rw [ht, cellsB_append]; rfl] at hown1
        have hbel := hb.grown (grownBy_alloc (grownBy_drew hgrow)) hbz fun g hg => (hown.lt g hg).1
        have HO1 := Lib.hid hown1
        clear hown1 hgrow hown
        go_wp2
        go_roundw
        case rel => exact ⟨j + 1, by omega, by go_num, HO1.out, hbel⟩
        case measure => simp [intOf]; omega
    · obtain rfl : j = l.length := by omega
      rw [List.take_length] at hown
      have hcv := (Bs.own hown).conv
      clear hown
      go_wp2
      go_ret
      exact ⟨rfl, hb⟩
end Go.Proofs.YteafakpipbhioaaDoor
