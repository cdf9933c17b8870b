/- The walk of the law ConfBounds: it answers true. -/
import Derived.Test.YtfbangojgjcbcaaGreatDoorConfP
namespace Go.Proofs.YtfbangojgjcbcaaGreatDoor
open Go.RowKit Pl

theorem parse_long (n : Nat) (w : World) (E : Env w) (h : n = 4097) : Calls Tryz.prog 14 #[.string ⟨Array.replicate n 0⟩] w fun en w' => (∃ c, ParseAt 0 3 c en w') ∧ Below w.heap.size w w' := by
  subst h
  have e : (⟨Array.replicate 4097 0⟩ : ByteArray) = str (List.replicate 4097 0) := by unfold str; rw [List.toArray_replicate]
  rw [e]
  refine parse_ne _ 0 3 w (by rw [List.length_replicate]; decide) E ?_
  unfold parseC
  rw [if_pos (by rw [List.length_replicate]; decide)]
def okP (l : List UInt8) (n : Nat) (e : Int) : Bool := decide ((parseC l).2.1 = n) && decide ((parseC l).2.2 = e) && decide (l.length ≤ 1000000)
theorem parse_str (s : ByteArray) (n e : Int) (w : World) (E : Env w) (hn : 0 ≤ n) (h : okP s.data.toList n.toNat e = true) :
    Calls Tryz.prog 14 #[.string s] w fun en w' => (∃ c, ParseAt n e c en w') ∧ Below w.heap.size w w' := by
  simp only [okP, Bool.and_eq_true, decide_eq_true_eq] at h
  have := parse_ne s.data.toList n.toNat e w (Nat.le_trans h.2 (by decide)) E (Prod.ext h.1.1 h.1.2)
  rw [Int.toNat_of_nonneg hn] at this
  have e : str s.data.toList = s := by cases s; simp [str]
  rw [e] at this; exact this
theorem made_bytes {w : World} {base n N : Nat} {v : Value} (hN : N = n) (h : w.ownsRow base 5 1 v n (madeCells (Value.int .u8 0).cells (n * 1)).toList) : Bs w v (List.replicate N 0) := by
  subst hN
  refine Bs.own (n := N) (base := base) ?_
  rw [Nat.mul_one] at h
  have e : (madeCells (Value.int .u8 0).cells N).toList = cellsB (List.replicate N 0) := by
    show (madeCells #[Value.int .u8 0] N).toList = _
    rw [toList_madeCells_one]; simp [cellsB]
  rw [e] at h; exact h

set_option maxRecDepth 100000 in
set_option maxHeartbeats 8000000 in
theorem confBounds_walk (w : World) (E : Env w) :
    Calls Tryz.prog 4 #[] w fun e w' => e = .returned (.bool true) ∧ Below w.heap.size w w' := by
  obtain ⟨N, hN⟩ : ∃ N, N = 4097 := ⟨_, rfl⟩
  have HN := Lib.hid hN
  clear hN
  obtain ⟨i0, hi0, hz0, hz1, hz2⟩ := info_parts info_u8
  have hb0 : i0.bytes * 4097 ≤ 281474976710656 := by rw [hz2]; decide
  go_enter Tryz.func4, Tryz.ntmps4
  go_wp2_with (at_make; refine wpList_make_full _ rfl _ _ 37 rfl w.heap.size 5 i0 _ 1 Tryz.underlying37 hi0 hz0 hz1 _ _ _ _ 4097 rfl rfl (by decide) (by decide) hb0 (by decide) (Nat.le_refl _) ?_; intro w1 hown hgrow; have HB := Lib.hid (made_bytes HN.out hown); have hcv := HB.out.conv; have HG := Lib.hid hgrow; clear hown hgrow)
  have HB1 := Lib.hid (show Below w.heap.size w w1 from (Below.refl _ _).grown HG.out (Nat.le_refl _) (fun g h => by cases h))
  refine (parse_long N w1 (E.here HB1.out) HN.out).mono ?_
  rintro e w2 ⟨⟨c2, A1, k1, A2, k2, he, _, _⟩, hb2⟩
  have HB2 := Lib.hid (HB1.out.trans (hb2.mono HB1.out.size))
  unfold cfgV at he
  subst he
  clear hb2 hcv HB HG HB1 hi0 hz0 hz1 hz2 hb0
  go_wp2_with fail
  refine (parse_str _ 0 0 _ ((E.here HB2.out).alloc _) (by decide) (by decide +kernel)).mono ?_
  rintro e w3 ⟨⟨c3, B1, l1, B2, l2, he, _, _⟩, hb3⟩
  have HB3 := Lib.hid (HB2.out.trans (((Below.refl _ w2).alloc (Nat.le_refl _) _).trans (hb3.mono (by simp)) |>.mono HB2.out.size))
  unfold cfgV at he
  subst he
  clear hb3
  go_wp2_with fail
  refine (parse_str _ 0 0 _ ((E.here HB3.out).alloc _) (by decide) (by decide +kernel)).mono ?_
  rintro e w4 ⟨⟨c4, D1, m1, D2, m2, he, _, _⟩, hb4⟩
  have HB4 := Lib.hid (HB3.out.trans (((Below.refl _ w3).alloc (Nat.le_refl _) _).trans (hb4.mono (by simp)) |>.mono HB3.out.size))
  unfold cfgV at he
  subst he
  clear hb4
  go_upto_region 8 with fail
  have hx := HB4.out.alloc HB4.out.size (.cells #[.int .i64 c4.node, .int .u32 c4.addr, .slice D1 c4.own.length m1, .slice D2 c4.ports.length m2, .int .i64 c4.hello, .int .i64 c4.dead, .int .i64 c4.again, .int .i64 c4.room, .int .i64 c4.queue, .int .i64 c4.tokens, .int .i64 c4.refill] 28)
  generalize w4.alloc (.cells #[.int .i64 c4.node, .int .u32 c4.addr, .slice D1 c4.own.length m1, .slice D2 c4.ports.length m2, .int .i64 c4.hello, .int .i64 c4.dead, .int .i64 c4.again, .int .i64 c4.room, .int .i64 c4.queue, .int .i64 c4.tokens, .int .i64 c4.refill] 28) = W8 at *
  obtain ⟨x, rfl⟩ : ∃ x : Ext w, W8 = x.w := ⟨⟨_, hx⟩, rfl⟩
  clear hx
  go_wp2_with (first
    | (go_at_call 18; refine (Ext.call (wrong_str _ _ _ (Ext.env _ E) (by decide) (by decide +kernel))).mono ?_; rintro e w' ⟨rfl, z, rfl⟩)
    | (go_at_call 17; refine (num19_any _ _).mono ?_; rintro e w' ⟨rfl, rfl⟩)
    | (go_at_call 13; refine (Ext.call (known19_any _ (Ext.env _ E))).mono ?_; rintro e w' ⟨rfl, z, rfl⟩))
  go_ret
  exact ⟨by rfl, z.below⟩
end Go.Proofs.YtfbangojgjcbcaaGreatDoor
