/- Part 11 of the proof: ActN, HexR, ActO, RoundR, ActQ, TextS, MuchR, PlainS2, OpenU2. -/
import Derived.OrdersIn
import Derived.OwnWalkIn
import Derived.RangeFuncCalls
import Derived.Test.YtfbangojgjcbcaaGreatDoorST01
import Derived.Test.YtfbangojgjcbcaaGreatDoorST03
import Derived.Test.YtfbangojgjcbcaaGreatDoorST07
import Derived.Test.YtfbangojgjcbcaaGreatDoorST08
import Derived.Test.YtfbangojgjcbcaaGreatDoorST09
import Derived.Test.YtfbangojgjcbcaaGreatDoorST10
namespace Go.Proofs.YtfbangojgjcbcaaGreatDoor
open Go.RowKit Pl
theorem beqd (a b : List UInt8) : (a == b) = decide (a = b) := by
  by_cases h : a = b
  · rw [decide_eq_true h]; exact beq_iff_eq.2 h
  · rw [decide_eq_false h]; exact beq_eq_false_iff_ne.2 h
set_option maxRecDepth 100000 in
set_option maxHeartbeats 4000000 in
theorem rsameAct_any (a b : ActP) (va vb : Value) (w : World) (h : Bs w va a.bytes) (h' : Bs w vb b.bytes) :
    Calls Tryz.prog 38 #[actV a va, actV b vb] w fun e w' => e = .returned (.bool (sameA a b)) ∧ Below w.heap.size w w' := by
  have HA := Lib.hid h
  have HB := Lib.hid h'
  obtain ⟨A, c, rfl, -⟩ := h
  obtain ⟨B, c', rfl, -⟩ := h'
  obtain ⟨k, node, port, cost, n, up, by_, unread, bytes⟩ := a
  obtain ⟨k', node', port', cost', n', up', by_', unread', bytes'⟩ := b
  simp only at HA HB ⊢
  obtain ⟨W0, hW0⟩ : ∃ W0, (w.alloc (.cells #[.int .i64 k, .int .i64 node, .int .i64 port, .int .i64 cost, .int .i64 n, .bool up, .int .u8 (by_.toNat : Int), .bool unread, .slice A bytes.length c] 51)).alloc (.cells #[.int .i64 k', .int .i64 node', .int .i64 port', .int .i64 cost', .int .i64 n', .bool up', .int .u8 (by_'.toNat : Int), .bool unread', .slice B bytes'.length c'] 51) = W0 := ⟨_, rfl⟩
  have HB0 : Hid (Below w.heap.size w W0) := Lib.hid (by rw [← hW0]; exact ((Below.refl _ _).alloc (Nat.le_refl _) _).alloc (by simp) _)
  have HX1 : Whole W0 w.heap.size 51 #[.int .i64 k, .int .i64 node, .int .i64 port, .int .i64 cost, .int .i64 n, .bool up, .int .u8 (by_.toNat : Int), .bool unread, .slice A bytes.length c] := by rw [← hW0]; exact (Whole.new w _ _).alloc _
  have HX2 : Whole W0 (w.heap.size + 1) 51 #[.int .i64 k', .int .i64 node', .int .i64 port', .int .i64 cost', .int .i64 n', .bool up', .int .u8 (by_'.toNat : Int), .bool unread', .slice B bytes'.length c'] := by
    rw [← hW0]
    have := Whole.new (w.alloc (.cells #[.int .i64 k, .int .i64 node, .int .i64 port, .int .i64 cost, .int .i64 n, .bool up, .int .u8 (by_.toNat : Int), .bool unread, .slice A bytes.length c] 51)) 51 #[.int .i64 k', .int .i64 node', .int .i64 port', .int .i64 cost', .int .i64 n', .bool up', .int .u8 (by_'.toNat : Int), .bool unread', .slice B bytes'.length c']
    simpa using this
  have hlt1 := HX1.lt
  have hlt2 := HX2.lt
  have y0 : W0.cell? ⟨w.heap.size, 0, none⟩ = some (.int .i64 k) := HX1.cell 0
  have z0 : W0.cell? ⟨w.heap.size + 1, 0, none⟩ = some (.int .i64 k') := HX2.cell 0
  have y1 : W0.cell? ⟨w.heap.size, 1, none⟩ = some (.int .i64 node) := HX1.cell 1
  have z1 : W0.cell? ⟨w.heap.size + 1, 1, none⟩ = some (.int .i64 node') := HX2.cell 1
  have y2 : W0.cell? ⟨w.heap.size, 2, none⟩ = some (.int .i64 port) := HX1.cell 2
  have z2 : W0.cell? ⟨w.heap.size + 1, 2, none⟩ = some (.int .i64 port') := HX2.cell 2
  have y3 : W0.cell? ⟨w.heap.size, 3, none⟩ = some (.int .i64 cost) := HX1.cell 3
  have z3 : W0.cell? ⟨w.heap.size + 1, 3, none⟩ = some (.int .i64 cost') := HX2.cell 3
  have y4 : W0.cell? ⟨w.heap.size, 4, none⟩ = some (.int .i64 n) := HX1.cell 4
  have z4 : W0.cell? ⟨w.heap.size + 1, 4, none⟩ = some (.int .i64 n') := HX2.cell 4
  have y5 : W0.cell? ⟨w.heap.size, 5, none⟩ = some (.bool up) := HX1.cell 5
  have z5 : W0.cell? ⟨w.heap.size + 1, 5, none⟩ = some (.bool up') := HX2.cell 5
  have y6 : W0.cell? ⟨w.heap.size, 6, none⟩ = some (.int .u8 (by_.toNat : Int)) := HX1.cell 6
  have z6 : W0.cell? ⟨w.heap.size + 1, 6, none⟩ = some (.int .u8 (by_'.toNat : Int)) := HX2.cell 6
  have y7 : W0.cell? ⟨w.heap.size, 7, none⟩ = some (.bool unread) := HX1.cell 7
  have z7 : W0.cell? ⟨w.heap.size + 1, 7, none⟩ = some (.bool unread') := HX2.cell 7
  have y8 : W0.cell? ⟨w.heap.size, 8, none⟩ = some (.slice A bytes.length c) := HX1.cell 8
  have z8 : W0.cell? ⟨w.heap.size + 1, 8, none⟩ = some (.slice B bytes'.length c') := HX2.cell 8
  have hcv1 := (HA.out.below HB0.out).conv
  have hcv2 := (HB.out.below HB0.out).conv
  have HW0 := Lib.hid hW0
  clear hW0 HX1 HX2
  by_cases e0 : k = k'
  · subst e0
    by_cases e1 : node = node'
    · subst e1
      by_cases e2 : port = port'
      · subst e2
        by_cases e3 : cost = cost'
        · subst e3
          by_cases e4 : n = n'
          · subst e4
            by_cases e5 : up = up'
            · subst e5
              by_cases e6 : by_ = by_'
              · subst e6
                by_cases e7 : unread = unread'
                · subst e7
                  go_enter Tryz.func38, Tryz.ntmps38
                  go_upto_region 1 with fail
                  rw [HW0.out]
                  have HS : Hid (sameA ⟨k, node, port, cost, n, up, by_, unread, bytes⟩ ⟨k, node, port, cost, n, up, by_, unread, bytes'⟩ = decide (bytes = bytes')) := Lib.hid (by simp [sameA])
                  go_wp2
                  go_ret
                  have dq := beqd bytes bytes'
                  exact ⟨by rw [HS.out]; exact congrArg (fun b => Ending.returned (Value.bool b)) dq, HB0.out⟩
                · have d : (unread == unread') = false := by simpa using e7
                  have HS : Hid (sameA ⟨k, node, port, cost, n, up, by_, unread, bytes⟩ ⟨k, node, port, cost, n, up, by_, unread', bytes'⟩ = false) := Lib.hid (by simp [sameA, e7])
                  clear e7
                  go_enter Tryz.func38, Tryz.ntmps38
                  go_upto_region 1 with fail
                  rw [HW0.out]
                  go_wp2
                  go_ret
                  exact ⟨by rw [HS.out]; rfl, HB0.out⟩
              · have d : ((by_.toNat : Int) == (by_'.toNat : Int)) = false := by
                  rw [beq_eq_false_iff_ne]
                  intro h
                  exact e6 (UInt8.toNat_inj.1 (by omega))
                have HS : Hid (sameA ⟨k, node, port, cost, n, up, by_, unread, bytes⟩ ⟨k, node, port, cost, n, up, by_', unread', bytes'⟩ = false) := Lib.hid (by simp [sameA, e6])
                clear e6
                go_enter Tryz.func38, Tryz.ntmps38
                go_upto_region 1 with fail
                rw [HW0.out]
                go_wp2
                go_ret
                exact ⟨by rw [HS.out]; rfl, HB0.out⟩
            · have d : (up == up') = false := by simpa using e5
              have HS : Hid (sameA ⟨k, node, port, cost, n, up, by_, unread, bytes⟩ ⟨k, node, port, cost, n, up', by_', unread', bytes'⟩ = false) := Lib.hid (by simp [sameA, e5])
              clear e5
              go_enter Tryz.func38, Tryz.ntmps38
              go_upto_region 1 with fail
              rw [HW0.out]
              go_wp2
              go_ret
              exact ⟨by rw [HS.out]; rfl, HB0.out⟩
          · have d : (n == n') = false := by simpa using e4
            have HS : Hid (sameA ⟨k, node, port, cost, n, up, by_, unread, bytes⟩ ⟨k, node, port, cost, n', up', by_', unread', bytes'⟩ = false) := Lib.hid (by simp [sameA, e4])
            clear e4
            go_enter Tryz.func38, Tryz.ntmps38
            go_upto_region 1 with fail
            rw [HW0.out]
            go_wp2
            go_ret
            exact ⟨by rw [HS.out]; rfl, HB0.out⟩
        · have d : (cost == cost') = false := by simpa using e3
          have HS : Hid (sameA ⟨k, node, port, cost, n, up, by_, unread, bytes⟩ ⟨k, node, port, cost', n', up', by_', unread', bytes'⟩ = false) := Lib.hid (by simp [sameA, e3])
          clear e3
          go_enter Tryz.func38, Tryz.ntmps38
          go_upto_region 1 with fail
          rw [HW0.out]
          go_wp2
          go_ret
          exact ⟨by rw [HS.out]; rfl, HB0.out⟩
      · have d : (port == port') = false := by simpa using e2
        have HS : Hid (sameA ⟨k, node, port, cost, n, up, by_, unread, bytes⟩ ⟨k, node, port', cost', n', up', by_', unread', bytes'⟩ = false) := Lib.hid (by simp [sameA, e2])
        clear e2
        go_enter Tryz.func38, Tryz.ntmps38
        go_upto_region 1 with fail
        rw [HW0.out]
        go_wp2
        go_ret
        exact ⟨by rw [HS.out]; rfl, HB0.out⟩
    · have d : (node == node') = false := by simpa using e1
      have HS : Hid (sameA ⟨k, node, port, cost, n, up, by_, unread, bytes⟩ ⟨k, node', port', cost', n', up', by_', unread', bytes'⟩ = false) := Lib.hid (by simp [sameA, e1])
      clear e1
      go_enter Tryz.func38, Tryz.ntmps38
      go_upto_region 1 with fail
      rw [HW0.out]
      go_wp2
      go_ret
      exact ⟨by rw [HS.out]; rfl, HB0.out⟩
  · have d : (k == k') = false := by simpa using e0
    have HS : Hid (sameA ⟨k, node, port, cost, n, up, by_, unread, bytes⟩ ⟨k', node', port', cost', n', up', by_', unread', bytes'⟩ = false) := Lib.hid (by simp [sameA, e0])
    clear e0
    go_enter Tryz.func38, Tryz.ntmps38
    go_upto_region 1 with fail
    rw [HW0.out]
    go_wp2
    go_ret
    exact ⟨by rw [HS.out]; rfl, HB0.out⟩
end Go.Proofs.YtfbangojgjcbcaaGreatDoor
namespace Go.Proofs.YtfbangojgjcbcaaGreatDoor
open Go.RowKit Pl
theorem u8_wrap (p : Nat) (h : p < 256) : IntKind.u8.wrap (p : Int) = p := by
  have k : ∀ m : Fin 256, IntKind.u8.wrap (m.1 : Int) = m.1 := by decide +kernel
  exact k ⟨p, h⟩
theorem own_ne {w : World} {base b : Nat} {e : TypeId} {size n : Nat} {v : Value} {xs : List Value} (h : w.ownsRow base e size v n xs) (hb : b < base) : v.ownBlock ≠ some b := fun k => by have := (h.lt b k).1; omega
set_option maxRecDepth 100000 in
set_option maxHeartbeats 1000000 in
theorem rhex (v : Value) (l : List UInt8) (w : World) (hb : Bs w v l) (hl : l.length ≤ 1000000) :
    Calls Tryz.prog 142 #[v] w fun e w' => e = .returned (.string (str (hexText l))) ∧ Below w.heap.size w w' := by
  have HB := Lib.hid hb
  obtain ⟨A, c, rfl, hc, _, _⟩ := hb
  go_enter Tryz.func142, Tryz.ntmps142
  go_wp2
  go_loopw [4, 5] (fun o i wr => ∃ j : Nat, j ≤ l.length ∧ i = .int .i64 j ∧ wr.ownsRow w.heap.size 5 1 o (2 * j) (cellsB (hexText (l.take j))) ∧ Below w.heap.size w wr) (fun _ i _ => l.length - (intOf i).toNat)
  case atStart => exact ⟨0, Nat.zero_le _, rfl, World.ownsRow_nil _ _ _ _, Below.refl _ _⟩
  case round =>
    obtain ⟨j, hj, rfl, hown, hb⟩ := hrel
    by_cases hlt : j < l.length
    · obtain ⟨A', c', hv, _, _, hA⟩ := HB.out
      injection hv with hv1 hv2 hv3
      subst hv1 hv3
      obtain ⟨b, off, rfl, hbs, hcell⟩ := hA (by omega)
      have hcj : wr.cell? ⟨b, off + j, none⟩ = some (.int .u8 (l[j].toNat : Int)) := (hb.cell (show b < w.heap.size from hbs)).trans (hcell j _ (by simp [cellsB, hlt]))
      clear hcell hA
      have ht := hexText_take l j hlt
      obtain ⟨x, hx⟩ : ∃ x, l[j] = x := ⟨_, rfl⟩
      rw [hx] at hcj ht
      clear hx
      have hxl : (x.toNat : Int) < 256 := by have := x.toNat_lt; omega
      have hbz := hb.size
      have hbw : b < wr.heap.size := by omega
      have hne := own_ne hown hbs
      obtain ⟨p, hp⟩ : ∃ p, p = x.toNat / 16 := ⟨_, rfl⟩
      obtain ⟨q, hq⟩ : ∃ q, q = x.toNat % 16 := ⟨_, rfl⟩
      have hw1 : IntKind.u8.wrap ((x.toNat : Int) / 16) = (p : Int) := by
        have e : (x.toNat : Int) / 16 = (p : Int) := by omega
        rw [e]; exact u8_wrap p (by omega)
      have hw2 : Int.tmod (x.toNat : Int) 16 = (q : Int) := by rw [Int.tmod_eq_emod_of_nonneg (by omega)]; omega
      have hp1 : (p : Int) < 16 := by omega
      have hq1 : (q : Int) < 16 := by omega
      have HP := Lib.hid hp
      have HQ := Lib.hid hq
      clear hp hq
      obtain ⟨i0, hi0, hz0, hz1, hz2⟩ := info_parts info_u8
      go_wp2_with fail
      go_region_held3 (fun w' => w'.cell? ⟨b, off + j, none⟩ = some (.int .u8 (x.toNat : Int)))
        (first
          | go_keep
          | (rw [hgrow.cell_far _ (by simp; omega) (Ne.symm hne)]; assumption))
        ((refine step_append_lies _ (by rfl) _ _ _ (by rfl) w.heap.size 5 i0 _ 1 1 Tryz.underlying37 hi0 hz0 hz1 hz2 rfl (by omega) _ (2 * j) _ (by rfl) ((hown.alloc _).drew)
            ⟨wr.heap.size, 0, none⟩ 2 2 [_, _] (by rfl) (by rfl) (World.news_of_block (cs := #[_, _]) (t := 5) (fr := (0, 0)) (heap_alloc_new wr _)) (by simp [Value.oneCell'])
            (by omega) (by unfold maxLen; omega) (by omega) (by simp; omega) (wr.heap.size + 1) (by simp) ?_; intro gg cap w1 hown1 hgrow hat hlt1))
      all_goals
        rw [hx_ba, hx_ba, HP.out, HQ.out] at hown1
        rw [show cellsB (hexText (l.take j)) ++ [Value.int .u8 ((hx (x.toNat / 16)).toNat : Int), Value.int .u8 ((hx (x.toNat % 16)).toNat : Int)] = cellsB (hexText (l.take (j + 1))) from by rw [ht, cellsB_append]; rfl] at hown1
        have hbel := hb.grown (grownBy_alloc (grownBy_drew hgrow)) hbz fun g hg => (hown.lt g hg).1
        have HO1 := Lib.hid hown1
        clear hown1 hgrow hown
        go_wp2
        go_roundw
        case rel => exact ⟨j + 1, by omega, by go_num, HO1.out, hbel⟩
        case measure => simp [intOf]; omega
    · obtain rfl : j = l.length := by omega
      rw [List.take_length] at hown
      have hcv := (Bs.own hown).conv
      clear hown
      go_wp2
      go_ret
      exact ⟨rfl, hb⟩
end Go.Proofs.YtfbangojgjcbcaaGreatDoor
namespace Go.Proofs.YtfbangojgjcbcaaGreatDoor
open Go.RowKit Pl
set_option maxRecDepth 100000 in
theorem rtold_n (a : ActP) (bv : Value) (w : World) (h : Bs w bv a.bytes) (hi : InA a) (_hl : a.bytes.length ≤ 1000000) (E : Env w) :
    Calls Tryz.prog 82 #[actV a bv, .int .u8 110] w fun e w' => e = .returned (.string (str (told a .n))) ∧ Below w.heap.size w w' := by
  have HV := Lib.hid h
  obtain ⟨A, c, rfl, -⟩ := h
  obtain ⟨W0, hW0⟩ : ∃ W0, w.alloc (.cells #[.int .i64 a.kind, .int .i64 a.node, .int .i64 a.port, .int .i64 a.cost, .int .i64 a.n, .bool a.up, .int .u8 (a.by_.toNat : Int), .bool a.unread, .slice A a.bytes.length c] 51) = W0 := ⟨_, rfl⟩
  have HB0 : Hid (Below w.heap.size w W0) := Lib.hid (by rw [← hW0]; exact (Below.refl _ _).alloc (Nat.le_refl _) _)
  have HX : Whole W0 w.heap.size 51 #[.int .i64 a.kind, .int .i64 a.node, .int .i64 a.port, .int .i64 a.cost, .int .i64 a.n, .bool a.up, .int .u8 (a.by_.toNat : Int), .bool a.unread, .slice A a.bytes.length c] := by rw [← hW0]; exact Whole.new w _ _
  have hlt1 := HX.lt
  have y1 : W0.cell? ⟨w.heap.size, 1, none⟩ = some (.int .i64 a.node) := HX.cell 1
  have E0 : Env W0 := by rw [← hW0]; exact E.alloc _
  have EE := Lib.hid E0
  have HW0 := Lib.hid hW0
  clear hW0 HX E0
  have HI : Hid (In64 a.node) := Lib.hid (hi.2.1)
  go_enter Tryz.func82, Tryz.ntmps82
  go_upto_region 1 with fail
  rw [HW0.out]
  go_wp2_with (go_at_call 58; refine (itoa_all a.node _ HI.out.1 HI.out.2 EE.out).mono ?_; rintro e w1 ⟨rfl, hb1⟩)
  have HB1 := Lib.hid (HB0.out.trans (hb1.mono HB0.out.size))
  go_ret
  exact ⟨rfl, HB1.out⟩
set_option maxRecDepth 100000 in
theorem rtold_p (a : ActP) (bv : Value) (w : World) (h : Bs w bv a.bytes) (hi : InA a) (_hl : a.bytes.length ≤ 1000000) (E : Env w) :
    Calls Tryz.prog 82 #[actV a bv, .int .u8 112] w fun e w' => e = .returned (.string (str (told a .p))) ∧ Below w.heap.size w w' := by
  have HV := Lib.hid h
  obtain ⟨A, c, rfl, -⟩ := h
  obtain ⟨W0, hW0⟩ : ∃ W0, w.alloc (.cells #[.int .i64 a.kind, .int .i64 a.node, .int .i64 a.port, .int .i64 a.cost, .int .i64 a.n, .bool a.up, .int .u8 (a.by_.toNat : Int), .bool a.unread, .slice A a.bytes.length c] 51) = W0 := ⟨_, rfl⟩
  have HB0 : Hid (Below w.heap.size w W0) := Lib.hid (by rw [← hW0]; exact (Below.refl _ _).alloc (Nat.le_refl _) _)
  have HX : Whole W0 w.heap.size 51 #[.int .i64 a.kind, .int .i64 a.node, .int .i64 a.port, .int .i64 a.cost, .int .i64 a.n, .bool a.up, .int .u8 (a.by_.toNat : Int), .bool a.unread, .slice A a.bytes.length c] := by rw [← hW0]; exact Whole.new w _ _
  have hlt1 := HX.lt
  have y2 : W0.cell? ⟨w.heap.size, 2, none⟩ = some (.int .i64 a.port) := HX.cell 2
  have E0 : Env W0 := by rw [← hW0]; exact E.alloc _
  have EE := Lib.hid E0
  have HW0 := Lib.hid hW0
  clear hW0 HX E0
  have HI : Hid (In64 a.port) := Lib.hid (hi.2.2.1)
  go_enter Tryz.func82, Tryz.ntmps82
  go_upto_region 1 with fail
  rw [HW0.out]
  go_wp2_with (go_at_call 58; refine (itoa_all a.port _ HI.out.1 HI.out.2 EE.out).mono ?_; rintro e w1 ⟨rfl, hb1⟩)
  have HB1 := Lib.hid (HB0.out.trans (hb1.mono HB0.out.size))
  go_ret
  exact ⟨rfl, HB1.out⟩
set_option maxRecDepth 100000 in
theorem rtold_c (a : ActP) (bv : Value) (w : World) (h : Bs w bv a.bytes) (hi : InA a) (_hl : a.bytes.length ≤ 1000000) (E : Env w) :
    Calls Tryz.prog 82 #[actV a bv, .int .u8 99] w fun e w' => e = .returned (.string (str (told a .c))) ∧ Below w.heap.size w w' := by
  have HV := Lib.hid h
  obtain ⟨A, c, rfl, -⟩ := h
  obtain ⟨W0, hW0⟩ : ∃ W0, w.alloc (.cells #[.int .i64 a.kind, .int .i64 a.node, .int .i64 a.port, .int .i64 a.cost, .int .i64 a.n, .bool a.up, .int .u8 (a.by_.toNat : Int), .bool a.unread, .slice A a.bytes.length c] 51) = W0 := ⟨_, rfl⟩
  have HB0 : Hid (Below w.heap.size w W0) := Lib.hid (by rw [← hW0]; exact (Below.refl _ _).alloc (Nat.le_refl _) _)
  have HX : Whole W0 w.heap.size 51 #[.int .i64 a.kind, .int .i64 a.node, .int .i64 a.port, .int .i64 a.cost, .int .i64 a.n, .bool a.up, .int .u8 (a.by_.toNat : Int), .bool a.unread, .slice A a.bytes.length c] := by rw [← hW0]; exact Whole.new w _ _
  have hlt1 := HX.lt
  have y3 : W0.cell? ⟨w.heap.size, 3, none⟩ = some (.int .i64 a.cost) := HX.cell 3
  have E0 : Env W0 := by rw [← hW0]; exact E.alloc _
  have EE := Lib.hid E0
  have HW0 := Lib.hid hW0
  clear hW0 HX E0
  have HI : Hid (In64 a.cost) := Lib.hid (hi.2.2.2.1)
  go_enter Tryz.func82, Tryz.ntmps82
  go_upto_region 1 with fail
  rw [HW0.out]
  go_wp2_with (go_at_call 58; refine (itoa_all a.cost _ HI.out.1 HI.out.2 EE.out).mono ?_; rintro e w1 ⟨rfl, hb1⟩)
  have HB1 := Lib.hid (HB0.out.trans (hb1.mono HB0.out.size))
  go_ret
  exact ⟨rfl, HB1.out⟩
set_option maxRecDepth 100000 in
theorem rtold_i (a : ActP) (bv : Value) (w : World) (h : Bs w bv a.bytes) (hi : InA a) (_hl : a.bytes.length ≤ 1000000) (E : Env w) :
    Calls Tryz.prog 82 #[actV a bv, .int .u8 105] w fun e w' => e = .returned (.string (str (told a .i))) ∧ Below w.heap.size w w' := by
  have HV := Lib.hid h
  obtain ⟨A, c, rfl, -⟩ := h
  obtain ⟨W0, hW0⟩ : ∃ W0, w.alloc (.cells #[.int .i64 a.kind, .int .i64 a.node, .int .i64 a.port, .int .i64 a.cost, .int .i64 a.n, .bool a.up, .int .u8 (a.by_.toNat : Int), .bool a.unread, .slice A a.bytes.length c] 51) = W0 := ⟨_, rfl⟩
  have HB0 : Hid (Below w.heap.size w W0) := Lib.hid (by rw [← hW0]; exact (Below.refl _ _).alloc (Nat.le_refl _) _)
  have HX : Whole W0 w.heap.size 51 #[.int .i64 a.kind, .int .i64 a.node, .int .i64 a.port, .int .i64 a.cost, .int .i64 a.n, .bool a.up, .int .u8 (a.by_.toNat : Int), .bool a.unread, .slice A a.bytes.length c] := by rw [← hW0]; exact Whole.new w _ _
  have hlt1 := HX.lt
  have y4 : W0.cell? ⟨w.heap.size, 4, none⟩ = some (.int .i64 a.n) := HX.cell 4
  have E0 : Env W0 := by rw [← hW0]; exact E.alloc _
  have EE := Lib.hid E0
  have HW0 := Lib.hid hW0
  clear hW0 HX E0
  have HI : Hid (In64 a.n) := Lib.hid (hi.2.2.2.2)
  go_enter Tryz.func82, Tryz.ntmps82
  go_upto_region 1 with fail
  rw [HW0.out]
  go_wp2_with (go_at_call 58; refine (itoa_all a.n _ HI.out.1 HI.out.2 EE.out).mono ?_; rintro e w1 ⟨rfl, hb1⟩)
  have HB1 := Lib.hid (HB0.out.trans (hb1.mono HB0.out.size))
  go_ret
  exact ⟨rfl, HB1.out⟩
set_option maxRecDepth 100000 in
theorem rtold_b (a : ActP) (bv : Value) (w : World) (h : Bs w bv a.bytes) (_hi : InA a) (_hl : a.bytes.length ≤ 1000000) (E : Env w) :
    Calls Tryz.prog 82 #[actV a bv, .int .u8 98] w fun e w' => e = .returned (.string (str (told a .b))) ∧ Below w.heap.size w w' := by
  have HV := Lib.hid h
  obtain ⟨A, c, rfl, -⟩ := h
  obtain ⟨W0, hW0⟩ : ∃ W0, w.alloc (.cells #[.int .i64 a.kind, .int .i64 a.node, .int .i64 a.port, .int .i64 a.cost, .int .i64 a.n, .bool a.up, .int .u8 (a.by_.toNat : Int), .bool a.unread, .slice A a.bytes.length c] 51) = W0 := ⟨_, rfl⟩
  have HB0 : Hid (Below w.heap.size w W0) := Lib.hid (by rw [← hW0]; exact (Below.refl _ _).alloc (Nat.le_refl _) _)
  have HX : Whole W0 w.heap.size 51 #[.int .i64 a.kind, .int .i64 a.node, .int .i64 a.port, .int .i64 a.cost, .int .i64 a.n, .bool a.up, .int .u8 (a.by_.toNat : Int), .bool a.unread, .slice A a.bytes.length c] := by rw [← hW0]; exact Whole.new w _ _
  have hlt1 := HX.lt
  have y6 : W0.cell? ⟨w.heap.size, 6, none⟩ = some (.int .u8 (a.by_.toNat : Int)) := HX.cell 6
  have E0 : Env W0 := by rw [← hW0]; exact E.alloc _
  have EE := Lib.hid E0
  have HW0 := Lib.hid hW0
  clear hW0 HX E0
  have HI : Hid (In64 (a.by_.toNat : Int)) := Lib.hid (in_byte a.by_)
  have hwr : wrap64 (a.by_.toNat : Int) = (a.by_.toNat : Int) := by have h1 := HI.out.1; have h2 := HI.out.2; unfold wrap64; omega
  go_enter Tryz.func82, Tryz.ntmps82
  go_upto_region 1 with fail
  rw [HW0.out]
  go_wp2_with (go_at_call 58; rw [hwr]; refine (itoa_all (a.by_.toNat : Int) _ HI.out.1 HI.out.2 EE.out).mono ?_; rintro e w1 ⟨rfl, hb1⟩)
  have HB1 := Lib.hid (HB0.out.trans (hb1.mono HB0.out.size))
  go_ret
  exact ⟨rfl, HB1.out⟩
set_option maxRecDepth 100000 in
theorem rtold_u (a : ActP) (bv : Value) (w : World) (h : Bs w bv a.bytes) (_hi : InA a) (_hl : a.bytes.length ≤ 1000000) (E : Env w) :
    Calls Tryz.prog 82 #[actV a bv, .int .u8 117] w fun e w' => e = .returned (.string (str (told a .u))) ∧ Below w.heap.size w w' := by
  have HV := Lib.hid h
  obtain ⟨A, c, rfl, -⟩ := h
  obtain ⟨W0, hW0⟩ : ∃ W0, w.alloc (.cells #[.int .i64 a.kind, .int .i64 a.node, .int .i64 a.port, .int .i64 a.cost, .int .i64 a.n, .bool a.up, .int .u8 (a.by_.toNat : Int), .bool a.unread, .slice A a.bytes.length c] 51) = W0 := ⟨_, rfl⟩
  have HB0 : Hid (Below w.heap.size w W0) := Lib.hid (by rw [← hW0]; exact (Below.refl _ _).alloc (Nat.le_refl _) _)
  have HX : Whole W0 w.heap.size 51 #[.int .i64 a.kind, .int .i64 a.node, .int .i64 a.port, .int .i64 a.cost, .int .i64 a.n, .bool a.up, .int .u8 (a.by_.toNat : Int), .bool a.unread, .slice A a.bytes.length c] := by rw [← hW0]; exact Whole.new w _ _
  have hlt1 := HX.lt
  have y5 : W0.cell? ⟨w.heap.size, 5, none⟩ = some (.bool a.up) := HX.cell 5
  have E0 : Env W0 := by rw [← hW0]; exact E.alloc _
  have EE := Lib.hid E0
  have HW0 := Lib.hid hW0
  clear hW0 HX E0
  cases hf : a.up
  all_goals
    rw [hf] at y5
    have HF := Lib.hid hf
    clear hf
    go_enter Tryz.func82, Tryz.ntmps82
    go_upto_region 1 with fail
    rw [HW0.out]
    go_wp2
    go_ret
    exact ⟨by unfold told; rw [HF.out]; rfl, HB0.out⟩
set_option maxRecDepth 100000 in
theorem rtold_r (a : ActP) (bv : Value) (w : World) (h : Bs w bv a.bytes) (_hi : InA a) (_hl : a.bytes.length ≤ 1000000) (E : Env w) :
    Calls Tryz.prog 82 #[actV a bv, .int .u8 114] w fun e w' => e = .returned (.string (str (told a .r))) ∧ Below w.heap.size w w' := by
  have HV := Lib.hid h
  obtain ⟨A, c, rfl, -⟩ := h
  obtain ⟨W0, hW0⟩ : ∃ W0, w.alloc (.cells #[.int .i64 a.kind, .int .i64 a.node, .int .i64 a.port, .int .i64 a.cost, .int .i64 a.n, .bool a.up, .int .u8 (a.by_.toNat : Int), .bool a.unread, .slice A a.bytes.length c] 51) = W0 := ⟨_, rfl⟩
  have HB0 : Hid (Below w.heap.size w W0) := Lib.hid (by rw [← hW0]; exact (Below.refl _ _).alloc (Nat.le_refl _) _)
  have HX : Whole W0 w.heap.size 51 #[.int .i64 a.kind, .int .i64 a.node, .int .i64 a.port, .int .i64 a.cost, .int .i64 a.n, .bool a.up, .int .u8 (a.by_.toNat : Int), .bool a.unread, .slice A a.bytes.length c] := by rw [← hW0]; exact Whole.new w _ _
  have hlt1 := HX.lt
  have y7 : W0.cell? ⟨w.heap.size, 7, none⟩ = some (.bool a.unread) := HX.cell 7
  have E0 : Env W0 := by rw [← hW0]; exact E.alloc _
  have EE := Lib.hid E0
  have HW0 := Lib.hid hW0
  clear hW0 HX E0
  cases hf : a.unread
  all_goals
    rw [hf] at y7
    have HF := Lib.hid hf
    clear hf
    go_enter Tryz.func82, Tryz.ntmps82
    go_upto_region 1 with fail
    rw [HW0.out]
    go_wp2
    go_ret
    exact ⟨by unfold told; rw [HF.out]; rfl, HB0.out⟩
set_option maxRecDepth 100000 in
theorem rtold_x (a : ActP) (bv : Value) (w : World) (h : Bs w bv a.bytes) (_hi : InA a) (hl : a.bytes.length ≤ 1000000) (E : Env w) :
    Calls Tryz.prog 82 #[actV a bv, .int .u8 120] w fun e w' => e = .returned (.string (str (told a .x))) ∧ Below w.heap.size w w' := by
  have HV := Lib.hid h
  obtain ⟨A, c, rfl, -⟩ := h
  obtain ⟨W0, hW0⟩ : ∃ W0, w.alloc (.cells #[.int .i64 a.kind, .int .i64 a.node, .int .i64 a.port, .int .i64 a.cost, .int .i64 a.n, .bool a.up, .int .u8 (a.by_.toNat : Int), .bool a.unread, .slice A a.bytes.length c] 51) = W0 := ⟨_, rfl⟩
  have HB0 : Hid (Below w.heap.size w W0) := Lib.hid (by rw [← hW0]; exact (Below.refl _ _).alloc (Nat.le_refl _) _)
  have HX : Whole W0 w.heap.size 51 #[.int .i64 a.kind, .int .i64 a.node, .int .i64 a.port, .int .i64 a.cost, .int .i64 a.n, .bool a.up, .int .u8 (a.by_.toNat : Int), .bool a.unread, .slice A a.bytes.length c] := by rw [← hW0]; exact Whole.new w _ _
  have hlt1 := HX.lt
  have y8 : W0.cell? ⟨w.heap.size, 8, none⟩ = some (.slice A a.bytes.length c) := HX.cell 8
  have E0 : Env W0 := by rw [← hW0]; exact E.alloc _
  have EE := Lib.hid E0
  have HW0 := Lib.hid hW0
  clear hW0 HX E0
  by_cases h0 : a.bytes = []
  · have d1 : ((a.bytes.length : Int) == 0) = true := by rw [h0]; rfl
    have HF := Lib.hid h0
    clear h0
    go_enter Tryz.func82, Tryz.ntmps82
    go_upto_region 1 with fail
    rw [HW0.out]
    go_wp2
    go_ret
    exact ⟨by unfold told hexD; rw [if_pos HF.out]; rfl, HB0.out⟩
  · have d1 : ((a.bytes.length : Int) == 0) = false := by
      rw [beq_eq_false_iff_ne]; intro h; exact h0 (List.eq_nil_of_length_eq_zero (by omega))
    have HF := Lib.hid h0
    clear h0
    go_enter Tryz.func82, Tryz.ntmps82
    go_upto_region 1 with fail
    rw [HW0.out]
    go_wp2_with (go_at_call 142; refine (rhex _ a.bytes _ (HV.out.below HB0.out) (by omega)).mono ?_; rintro e w1 ⟨rfl, hb1⟩)
    have HB1 := Lib.hid (HB0.out.trans (hb1.mono HB0.out.size))
    go_ret
    exact ⟨by unfold told hexD; rw [if_neg HF.out]; rfl, HB1.out⟩
theorem rtold_any (a : ActP) (bv : Value) (q : Pt) (w : World) (h : Bs w bv a.bytes) (hi : InA a) (hl : a.bytes.length ≤ 1000000) (E : Env w) :
    Calls Tryz.prog 82 #[actV a bv, .int .u8 ((letter q).toNat : Int)] w fun e w' => e = .returned (.string (str (told a q))) ∧ Below w.heap.size w w' := by
  cases q
  · exact rtold_n a bv w h hi hl E
  · exact rtold_p a bv w h hi hl E
  · exact rtold_c a bv w h hi hl E
  · exact rtold_i a bv w h hi hl E
  · exact rtold_u a bv w h hi hl E
  · exact rtold_b a bv w h hi hl E
  · exact rtold_r a bv w h hi hl E
  · exact rtold_x a bv w h hi hl E
end Go.Proofs.YtfbangojgjcbcaaGreatDoor
namespace Go.Proofs.YtfbangojgjcbcaaGreatDoor
open Go.RowKit Pl
section
variable {P : Program} {ops : Array Oper} {md : Region.Mode} {l n : Nat} {Q : Exit → Act → World → Prop}
theorem rowsIn_of {row : String} {args : Array Value} {w : World} {R : Value → World → Prop} (h : Rows P row args w R) : RowsIn (Fence.wide.inRound l) n P row args w R := by
  intro c cs _
  obtain ⟨v, w', r, s⟩ := h c cs
  exact ⟨v, w', r, stepsIn_wide.2 s⟩
theorem opIn_of {i : Nat} {K : Act → World → Prop} {a : Act} {w : World} (hdf : ∀ (j : Nat) (o : Oper), ops[j]? = some o → ∀ c, o.op ≠ .defer c) (hQ : ¬ LetsOut Q)
    (h : wpOp P ops Q i K a w) : wpOpIn (Fence.wide.inRound l) n P ops Q i K a w := by
  unfold wpOp at h
  unfold wpOpIn
  split
  · rename_i ho; simp only [ho] at h; exact h
  · rename_i o ho
    simp only [ho] at h
    split
    · rename_i hw
      rw [if_pos hw] at h
      have h := h.resolve_right (fun h => hQ h.2)
      unfold Oper.wp at h
      unfold Oper.wpIn
      refine ⟨fun _ _ => trivial, ?_⟩
      rw [Oper.semAt_plain _ _ _ (hdf i o ho)]
      generalize (execOp a.eval o).run P w = r at *
      cases r with
      | ok x w' =>
        cases x <;> simp only [Oper.upon] at h <;> simp only [Oper.uponIn]
        case enter f args =>
          refine ⟨fun hd => by simp [Fence.wide] at hd, CallsIn.inRound l ((callsIn_wide.2 h).mono fun e w'' he => ?_)⟩
          cases e <;> exact he
        case row row args => exact ⟨fun hd => by simp [Fence.wide] at hd, (rowsIn_of h).mono fun _ _ he => he⟩
        all_goals exact h
      | halt x w' => cases x <;> simp only [Oper.upon] at h <;> simp only [Oper.uponIn] <;> exact h
    · rename_i hw
      rw [if_neg hw] at h
      exact ⟨fun _ _ => trivial, h⟩
theorem anyIn_of (hdf : ∀ (j : Nat) (o : Oper), ops[j]? = some o → ∀ c, o.op ≠ .defer c) (hQ : ¬ LetsOut Q) :
    ∀ (f : Nat) (listed : Array Bool) (a : Act) (w : World), wpAny P md ops Q f listed a w → wpAnyIn (Fence.wide.inRound l) n P md ops Q f listed a w
  | 0, _, _, _, h => h
  | f + 1, _, _, _, h => ⟨h.1, fun i hi => wpOpIn_mono (fun a w h => anyIn_of hdf hQ f _ a w h) (opIn_of hdf hQ (h.2 i hi))⟩
def noDefer (ops : Array Oper) : Bool := ops.all fun o => match o.op with
  | .defer _ => false
  | _ => true
theorem noDefer_spec (h : noDefer ops = true) (j : Nat) (o : Oper) (ho : ops[j]? = some o) (c : Call) : o.op ≠ .defer c := by
  intro he
  have hm := Array.mem_of_getElem? ho
  have := (Array.all_eq_true'.1 h) o hm
  rw [he] at this
  cases this
theorem wpIn_region_ext {id : Nat} {a : Act} {W : World} {ls : List Oper} (hm : P.follows .mixedOrders = true) (hB : Region.lexB .any ls.toArray = true) (hd : noDefer ls.toArray = true)
    (h : wpQuiet P ls.toArray (fun w' => ∃ x : Ext W, w' = x.w) (fun a' => ∀ w', (∃ x : Ext W, w' = x.w) → Q .normal a' w') ls a) : (Code.region id ls.toArray true).wpIn (Fence.wide.inRound l) n P Q a W := by
  have h2 : (Code.region id ls.toArray true).wpIn (Fence.wide.inRound l) n P (Exit.then (fun a w => Q .normal a w) (fun _ _ _ => False)) a W := by
    refine wpIn_region_any hm (anyIn_of (noDefer_spec hd) (fun ⟨_, _, h⟩ => h) _ _ _ _ ?_)
    simp only [Region.lexB, Bool.and_eq_true] at hB
    refine wpAny_of_quiet (C := fun w' => ∃ x : Ext W, w' = x.w) (Q := fun a' => ∀ w', (∃ x : Ext W, w' = x.w) → Q .normal a' w') (Q' := Exit.then (fun a w => Q .normal a w) (fun _ _ _ => False)) (fun _ w' hw' h => h w' hw') _ _ _ { W with drawn := W.drawn + 1 } ⟨⟨_, (Below.refl _ W).drew⟩, rfl⟩ ?_
    have := wpAnyQ_lex (C := fun w' => ∃ x : Ext W, w' = x.w) (md := .any) hB.1 ls 0 (Array.replicate ls.toArray.size false) a (by simp) (by simpa using hB.2) h
    simpa using this
  exact wpIn_mono h2 fun e _ _ h => by cases e <;> first | exact h | exact h.elim
end
end Go.Proofs.YtfbangojgjcbcaaGreatDoor
namespace Go.Proofs.YtfbangojgjcbcaaGreatDoor
open Go.RowKit Pl
theorem join_snoc (c : UInt8) (z : List UInt8) : ∀ l : List (List UInt8), l ≠ [] → Lib.join (l ++ [z]) [c] = Lib.join l [c] ++ c :: z
  | [], h => absurd rfl h
  | [x], _ => by simp [Lib.join]
  | x :: y :: r, _ => by
    rw [List.cons_append, List.cons_append, join_two, join_two, ← List.cons_append, join_snoc c z (y :: r) (by simp)]
    simp
/-- The first words of an act's text. -/
def firstA (a : ActP) (j : Nat) : List UInt8 := Lib.join (nameA a.kind.toNat :: ((partsA a.kind.toNat).take j).map (told a)) [32]
theorem firstA_next {a : ActP} {j : Nat} {q : Pt} (h : (partsA a.kind.toNat)[j]? = some q) : firstA a (j + 1) = firstA a j ++ 32 :: told a q := by
  unfold firstA
  rw [List.take_add_one, h]
  rw [List.map_append, ← List.cons_append]
  exact join_snoc 32 _ _ (by simp)
theorem firstA_all (a : ActP) : firstA a (partsA a.kind.toNat).length = actText a := by
  unfold firstA actText actWords
  rw [List.take_length]
theorem told_len {a : ActP} (hi : InA a) (hl : a.bytes.length ≤ 2048) (q : Pt) : (told a q).length ≤ 4100 := by
  have e := fun n (h : In64 n) => itoa_len20 h
  cases q
  · have := e _ hi.2.1; unfold told; simp only; omega
  · have := e _ hi.2.2.1; unfold told; simp only; omega
  · have := e _ hi.2.2.2.1; unfold told; simp only; omega
  · have := e _ hi.2.2.2.2; unfold told; simp only; omega
  · unfold told; simp only; split <;> decide
  · have := e _ (in_byte a.by_); unfold told; simp only; omega
  · unfold told; simp only; split <;> decide
  · have := hexD_len a.bytes; unfold told; simp only; omega
theorem firstA_len {a : ActP} (hi : InA a) (hl : a.bytes.length ≤ 2048) (j : Nat) : (firstA a j).length ≤ 4101 * (1 + (partsA a.kind.toNat).length) := by
  have h := join_len 32 4100 (nameA a.kind.toNat :: ((partsA a.kind.toNat).take j).map (told a)) (by
    intro l hl'
    rcases List.mem_cons.1 hl' with rfl | h
    · have := name_len a.kind.toNat; omega
    · obtain ⟨q, _, rfl⟩ := List.mem_map.1 h
      exact told_len hi hl q)
  have h2 : (nameA a.kind.toNat :: ((partsA a.kind.toNat).take j).map (told a)).length ≤ 1 + (partsA a.kind.toNat).length := by
    simp only [List.length_cons, List.length_map, List.length_take]; omega
  exact Nat.le_trans h (Nat.mul_le_mul_left _ h2)
theorem partsA_len : ∀ k : Nat, (partsA k).length ≤ 4
  | 0 | 1 | 2 | 3 | 4 | 5 | 6 | 7 | 8 | 9 => by decide
  | _ + 10 => by simp [partsA]
set_option maxRecDepth 100000 in
set_option maxHeartbeats 4000000 in
theorem ractText_any (a : ActP) (bv : Value) (w : World) (hk : K9 a) (h : Bs w bv a.bytes) (hi : InA a) (hl : a.bytes.length ≤ 2048) (E : Env w) :
    Calls Tryz.prog 34 #[actV a bv] w fun e w' => e = .returned (.string (str (actText a))) ∧ Below w.heap.size w w' := by
  have HV := Lib.hid h
  have HTL := fun q => told_len hi hl q
  have HFL := fun j => Nat.le_trans (firstA_len hi hl j) (Nat.mul_le_mul_left 4101 (Nat.add_le_add_left (partsA_len a.kind.toNat) 1))
  obtain ⟨A, c, rfl, -⟩ := h
  obtain ⟨W0, hW0⟩ : ∃ W0, w.alloc (.cells #[.int .i64 a.kind, .int .i64 a.node, .int .i64 a.port, .int .i64 a.cost, .int .i64 a.n, .bool a.up, .int .u8 (a.by_.toNat : Int), .bool a.unread, .slice A a.bytes.length c] 51) = W0 := ⟨_, rfl⟩
  have HB0 : Hid (Below w.heap.size w W0) := Lib.hid (by rw [← hW0]; exact (Below.refl _ _).alloc (Nat.le_refl _) _)
  have HX : Whole W0 w.heap.size 51 #[.int .i64 a.kind, .int .i64 a.node, .int .i64 a.port, .int .i64 a.cost, .int .i64 a.n, .bool a.up, .int .u8 (a.by_.toNat : Int), .bool a.unread, .slice A a.bytes.length c] := by rw [← hW0]; exact Whole.new w _ _
  have hlt1 := HX.lt
  have y0 : W0.cell? ⟨w.heap.size, 0, none⟩ = some (.int .i64 a.kind) := HX.cell 0
  have HXX := Lib.hid HX
  have EE := Lib.hid (E.here HB0.out)
  have HW0 := Lib.hid hW0
  have HN := Lib.hid (fun W => rname_in a.kind W hk.1 hk.2)
  have HP := Lib.hid (fun W => rparts_in a.kind W hk.1 hk.2)
  have hsp := str_size (lettersA a.kind.toNat)
  have hpl : (lettersA a.kind.toNat).length = (partsA a.kind.toNat).length := by unfold lettersA; simp
  have hp4 := partsA_len a.kind.toNat
  have HIA := Lib.hid hi
  clear hW0 HX
  go_enter Tryz.func34, Tryz.ntmps34
  go_upto_region 1 with fail
  rw [HW0.out]
  refine wp_region_ext (by kernel_rfl) (by kernel_rfl) ?_
  repeat (go_big_quiet_step (first | (go_at_call 81; exact Ext.call (HN.out _)) | (go_at_call 78; exact Ext.call (HP.out _))))
  refine wpQuiet_nil ?_
  rintro _ ⟨y, rfl⟩
  have HBy := Lib.hid (HB0.out.trans (y.below.mono HB0.out.size))
  go_wp2
  go_loopw [3, 5] (fun o i wr => ∃ j : Nat, j ≤ (partsA a.kind.toNat).length ∧ i = .int .i64 j ∧ o = .string (str (firstA a j)) ∧ Hid (Below W0.heap.size W0 wr)) (fun _ i _ => (partsA a.kind.toNat).length - (intOf i).toNat)
  case atStart => exact ⟨0, Nat.zero_le _, rfl, by unfold firstA; simp [Lib.join], Lib.hid y.below⟩
  case round =>
    obtain ⟨j, hj, rfl, rfl, HB⟩ := hrel
    by_cases hlt : j < (partsA a.kind.toNat).length
    · obtain ⟨q, hq⟩ : ∃ q, (partsA a.kind.toNat)[j]? = some q := ⟨_, List.getElem?_eq_getElem hlt⟩
      have hltL : j < (lettersA a.kind.toNat).length := by omega
      have hlt' := str_lt hltL
      have ej : (str (lettersA a.kind.toNat))[j]'hlt' = letter q := by
        rw [str_at _ j hltL]
        have : (lettersA a.kind.toNat)[j]? = some (letter q) := by unfold lettersA; rw [List.getElem?_map, hq]; rfl
        rw [List.getElem?_eq_getElem hltL] at this
        injection this
      have s1 := str_size (firstA a j)
      have s2 := HFL j
      have s3 := str_size (told a q)
      have s4 := HTL q
      have HNX := Lib.hid (firstA_next hq)
      have HWR := HXX.out.here HB.out
      have v0 : wr.cell? ⟨w.heap.size, 0, none⟩ = some (.int .i64 a.kind) := HWR.cell 0
      have v1 : wr.cell? ⟨w.heap.size, 1, none⟩ = some (.int .i64 a.node) := HWR.cell 1
      have v2 : wr.cell? ⟨w.heap.size, 2, none⟩ = some (.int .i64 a.port) := HWR.cell 2
      have v3 : wr.cell? ⟨w.heap.size, 3, none⟩ = some (.int .i64 a.cost) := HWR.cell 3
      have v4 : wr.cell? ⟨w.heap.size, 4, none⟩ = some (.int .i64 a.n) := HWR.cell 4
      have v5 : wr.cell? ⟨w.heap.size, 5, none⟩ = some (.bool a.up) := HWR.cell 5
      have v6 : wr.cell? ⟨w.heap.size, 6, none⟩ = some (.int .u8 (a.by_.toNat : Int)) := HWR.cell 6
      have v7 : wr.cell? ⟨w.heap.size, 7, none⟩ = some (.bool a.unread) := HWR.cell 7
      have v8 : wr.cell? ⟨w.heap.size, 8, none⟩ = some (.slice A a.bytes.length c) := HWR.cell 8
      have hltw := HWR.lt
      have HTO : Hid (∀ z : Ext wr, Calls Tryz.prog 82 #[.agg #[.int .i64 a.kind, .int .i64 a.node, .int .i64 a.port, .int .i64 a.cost, .int .i64 a.n, .bool a.up, .int .u8 (a.by_.toNat : Int), .bool a.unread, .slice A a.bytes.length c], .int .u8 (((str (lettersA a.kind.toNat))[j]'hlt').toNat : Int)] z.w fun e w' => e = .returned (.string (str (told a q))) ∧ Below z.w.heap.size z.w w') := Lib.hid (fun z => by
        rw [ej]
        exact rtold_any a _ q z.w (HV.out.below (HB0.out.trans ((HB.out.trans (z.below.mono HB.out.size)).mono HB0.out.size))) HIA.out (by omega) ((EE.out.here HB.out).here z.below))
      clear HWR ej hq
      go_wp2
      refine wp_region_ext (by kernel_rfl) (by kernel_rfl) ?_
      repeat (go_big_quiet_step (first | (go_at_call 82; exact Ext.call (HTO.out _))))
      refine wpQuiet_nil ?_
      rintro _ ⟨z, rfl⟩
      go_wp2
      go_roundw
      case rel => exact ⟨j + 1, by omega, by go_num, by rw [HNX.out]; show Value.string (str (firstA a j) ++ str [32] ++ str (told a q)) = _; rw [str_append, str_append, List.append_assoc]; rfl, Lib.hid (HB.out.trans (z.below.mono HB.out.size))⟩
      case measure => simp [intOf]; omega
    · obtain rfl : j = (partsA a.kind.toNat).length := by omega
      go_wp2
      go_ret
      exact ⟨by rw [firstA_all]; rfl, HB0.out.trans (HB.out.mono HB0.out.size)⟩
end Go.Proofs.YtfbangojgjcbcaaGreatDoor
namespace Go.Proofs.YtfbangojgjcbcaaGreatDoor
open Go.RowKit Pl
def linesL (ls : List Lk) : List UInt8 := ls.flatMap fun l => linkText l ++ [10]
def linesA (zs : List ActP) : List UInt8 := zs.flatMap fun a => actText a ++ [10]
def textS (cs : List Cfg) (ls : List Lk) (zs : List ActP) : List UInt8 := cs.flatMap textP ++ linesL ls ++ [114, 117, 110, 10] ++ linesA zs
def sText (cs : List Cfg) (ls : List Lk) (zs : List ActP) : List UInt8 × Int :=
  if maySet cs ls && zs.all mayA then (if 65536 < zs.length then ([], 3) else if 4194304 < (textS cs ls zs).length then ([], 3) else (textS cs ls zs, 0)) else ([], 2)
theorem flat_take {α : Type} (f : α → List UInt8) (xs : List α) (j : Nat) : ((xs.take j).flatMap f).length ≤ (xs.flatMap f).length := by
  have : (xs.flatMap f).length = ((xs.take j).flatMap f).length + ((xs.drop j).flatMap f).length := by
    rw [← List.length_append, ← List.flatMap_append, List.take_append_drop]
  omega
theorem flat_next {α : Type} (f : α → List UInt8) {xs : List α} {j : Nat} {x : α} (h : xs[j]? = some x) : (xs.take (j + 1)).flatMap f = (xs.take j).flatMap f ++ f x := by
  rw [take_at h, List.flatMap_append]
  simp
theorem flat_mem {α : Type} (f : α → List UInt8) {xs : List α} {x : α} (h : x ∈ xs) : (f x).length ≤ (xs.flatMap f).length := by
  obtain ⟨j, hj⟩ := List.getElem?_of_mem h
  have h1 := flat_take f xs (j + 1)
  rw [flat_next f hj, List.length_append] at h1
  omega
def TextRes (cs : List Cfg) (ls : List Lk) (zs : List ActP) (e : Ending) : Prop := e = .returned (.tuple #[.string (str (sText cs ls zs).1), .int .i64 (sText cs ls zs).2])
set_option maxRecDepth 100000 in
set_option maxHeartbeats 16000000 in
theorem stext_any (cv lv av : Value) (cs : List Cfg) (ls : List Lk) (zs : List ActP) (w : World) (h : ScrIs w cv lv av cs ls zs) (k : ScrOk cs ls zs) (E : Env w) (hlen : maySet cs ls = true → (∀ a ∈ zs, mayA a = true) → (textS cs ls zs).length ≤ 10000000) :
    Calls Tryz.prog 44 #[.agg #[cv, lv, av]] w fun e w' => TextRes cs ls zs e ∧ Below w.heap.size w w' := by
  have HS := Lib.hid h
  have HK := Lib.hid k
  have EE := Lib.hid E
  obtain ⟨A1, k1, rfl, -⟩ := h.confs
  obtain ⟨A2, k2, rfl, -⟩ := h.links
  obtain ⟨A3, k3, rfl, -⟩ := h.acts
  have hnc := k.nc
  have hnl := k.nl
  have hna := k.na
  have hNB := E.size
  have HLEN0 := Lib.hid hlen
  clear h k E hlen
  obtain ⟨W0, hW0⟩ : ∃ X, w.alloc (.cells #[.slice A1 cs.length k1, .slice A2 ls.length k2, .slice A3 zs.length k3] 76) = X := ⟨_, rfl⟩
  have hb0 : Below w.heap.size w W0 := by rw [← hW0]; exact (Below.refl _ _).alloc (Nat.le_refl _) _
  have HB0 := Lib.hid hb0
  have HX0 : Hid (Whole W0 w.heap.size 76 #[.slice A1 cs.length k1, .slice A2 ls.length k2, .slice A3 zs.length k3]) := Lib.hid (by rw [← hW0]; exact Whole.new w _ _)
  have HW0 := Lib.hid hW0
  have HMAY := Lib.hid (smay_any _ _ cs ls W0 (HS.out.confs.here hb0) (HS.out.links.here hb0) HK.out.addrs HK.out.confs HK.out.links hnc hnl)
  have HCON := Lib.hid (fun W (hb : Below w.heap.size w W) => containsA_any _ zs W (HS.out.acts.here hb) hna (fun a ha => by have := (HK.out.acts a ha).2; omega))
  clear hW0 hb0

  have x0 : W0.cell? ⟨w.heap.size, 0, none⟩ = some (.slice A1 cs.length k1) := HX0.out.cell 0
  have x1 : W0.cell? ⟨w.heap.size, 1, none⟩ = some (.slice A2 ls.length k2) := HX0.out.cell 1
  have x2 : W0.cell? ⟨w.heap.size, 2, none⟩ = some (.slice A3 zs.length k3) := HX0.out.cell 2
  have xl : w.heap.size < W0.heap.size := HX0.out.lt
  cases hm : maySet cs ls with
  | false =>
    have HT : Hid (sText cs ls zs = ([], 2)) := Lib.hid (by unfold sText; rw [hm]; rfl)
    rw [hm] at HMAY
    clear hm
    go_enter Tryz.func44, Tryz.ntmps44
    go_upto_region 1 with fail
    rw [HW0.out]
    go_wp2_with fail
    refine HMAY.out.mono ?_
    rintro e w1 ⟨rfl, hb⟩
    have HB1 := Lib.hid (HB0.out.trans (hb.mono HB0.out.size))
    have HX1 := Lib.hid (HX0.out.here hb)
    clear hb HMAY
    clear x0 x1 x2 xl
    go_wp2
    exact bodyPost_ret (v := .tuple #[.string ⟨#[]⟩, .int .i64 2]) (by simp [results, Tryz.results44, go_sem]) rfl ⟨by unfold TextRes; rw [HT.out]; rfl, HB1.out⟩
  | true =>
    have HM := Lib.hid hm
    rw [hm] at HMAY
    clear hm
    cases ha : zs.any fun a => !mayA a with
    | true =>
      have HT : Hid (sText cs ls zs = ([], 2)) := Lib.hid (by
        unfold sText
        have : zs.all mayA = false := by
          obtain ⟨a, h1, h2⟩ := List.any_eq_true.1 ha
          exact List.all_eq_false.2 ⟨a, h1, by simpa using h2⟩
        rw [this, Bool.and_false]
        rfl)
      rw [ha] at HCON
      clear ha
      go_enter Tryz.func44, Tryz.ntmps44
      go_upto_region 1 with fail
      rw [HW0.out]
      go_wp2_with fail
      refine HMAY.out.mono ?_
      rintro e w1 ⟨rfl, hb⟩
      have HB1 := Lib.hid (HB0.out.trans (hb.mono HB0.out.size))
      have HX1 := Lib.hid (HX0.out.here hb)
      clear hb HMAY
      clear x0 x1 x2 xl
      have x0 : w1.cell? ⟨w.heap.size, 0, none⟩ = some (.slice A1 cs.length k1) := HX1.out.cell 0
      have x1 : w1.cell? ⟨w.heap.size, 1, none⟩ = some (.slice A2 ls.length k2) := HX1.out.cell 1
      have x2 : w1.cell? ⟨w.heap.size, 2, none⟩ = some (.slice A3 zs.length k3) := HX1.out.cell 2
      have xl : w.heap.size < w1.heap.size := HX1.out.lt
      go_wp2_with fail
      refine (HCON.out _ HB1.out).mono ?_
      rintro e w2 ⟨rfl, hb⟩
      have HB2 := Lib.hid (HB1.out.trans (hb.mono HB1.out.size))
      clear hb
      go_wp2
      exact bodyPost_ret (v := .tuple #[.string ⟨#[]⟩, .int .i64 2]) (by simp [results, Tryz.results44, go_sem]) rfl ⟨by unfold TextRes; rw [HT.out]; rfl, HB2.out⟩
    | false =>
      have hall : zs.all mayA = true := by
        rw [List.all_eq_true]
        intro a h1
        have := (List.any_eq_false.1 ha) a h1
        simpa using this
      have HALL : Hid (∀ a ∈ zs, mayA a = true) := Lib.hid (List.all_eq_true.1 hall)
      have HT0 : Hid (sText cs ls zs = if 65536 < zs.length then ([], 3) else if 4194304 < (textS cs ls zs).length then ([], 3) else (textS cs ls zs, 0)) := Lib.hid (by unfold sText; rw [HM.out, hall]; rfl)
      rw [ha] at HCON
      clear ha hall
      by_cases h6 : 65536 < zs.length
      · have HT : Hid (sText cs ls zs = ([], 3)) := Lib.hid (by rw [HT0.out, if_pos h6])
        have d6 : decide ((65536 : Int) < (zs.length : Int)) = true := decide_eq_true (by omega)
        clear h6
        go_enter Tryz.func44, Tryz.ntmps44
        go_upto_region 1 with fail
        rw [HW0.out]
        go_wp2_with fail
        refine HMAY.out.mono ?_
        rintro e w1 ⟨rfl, hb⟩
        have HB1 := Lib.hid (HB0.out.trans (hb.mono HB0.out.size))
        have HX1 := Lib.hid (HX0.out.here hb)
        clear hb HMAY
        clear x0 x1 x2 xl
        have x0 : w1.cell? ⟨w.heap.size, 0, none⟩ = some (.slice A1 cs.length k1) := HX1.out.cell 0
        have x1 : w1.cell? ⟨w.heap.size, 1, none⟩ = some (.slice A2 ls.length k2) := HX1.out.cell 1
        have x2 : w1.cell? ⟨w.heap.size, 2, none⟩ = some (.slice A3 zs.length k3) := HX1.out.cell 2
        have xl : w.heap.size < w1.heap.size := HX1.out.lt
        go_wp2_with fail
        refine (HCON.out _ HB1.out).mono ?_
        rintro e w2 ⟨rfl, hb⟩
        have HB2 := Lib.hid (HB1.out.trans (hb.mono HB1.out.size))
        have HX2 := Lib.hid (HX1.out.here hb)
        clear hb HCON
        clear x0 x1 x2 xl
        have x0 : w2.cell? ⟨w.heap.size, 0, none⟩ = some (.slice A1 cs.length k1) := HX2.out.cell 0
        have x1 : w2.cell? ⟨w.heap.size, 1, none⟩ = some (.slice A2 ls.length k2) := HX2.out.cell 1
        have x2 : w2.cell? ⟨w.heap.size, 2, none⟩ = some (.slice A3 zs.length k3) := HX2.out.cell 2
        have xl : w.heap.size < w2.heap.size := HX2.out.lt
        go_wp2
        exact bodyPost_ret (v := .tuple #[.string ⟨#[]⟩, .int .i64 3]) (by simp [results, Tryz.results44, go_sem]) rfl ⟨by unfold TextRes; rw [HT.out]; rfl, HB2.out⟩
      · have HT1 : Hid (sText cs ls zs = if 4194304 < (textS cs ls zs).length then ([], 3) else (textS cs ls zs, 0)) := Lib.hid (by rw [HT0.out, if_neg h6])
        have d6 : decide ((65536 : Int) < (zs.length : Int)) = false := decide_eq_false (by omega)
        clear h6
        go_enter Tryz.func44, Tryz.ntmps44
        go_upto_region 1 with fail
        rw [HW0.out]
        go_wp2_with fail
        refine HMAY.out.mono ?_
        rintro e w1 ⟨rfl, hb⟩
        have HB1 := Lib.hid (HB0.out.trans (hb.mono HB0.out.size))
        have HX1 := Lib.hid (HX0.out.here hb)
        clear hb HMAY
        clear x0 x1 x2 xl
        have x0 : w1.cell? ⟨w.heap.size, 0, none⟩ = some (.slice A1 cs.length k1) := HX1.out.cell 0
        have x1 : w1.cell? ⟨w.heap.size, 1, none⟩ = some (.slice A2 ls.length k2) := HX1.out.cell 1
        have x2 : w1.cell? ⟨w.heap.size, 2, none⟩ = some (.slice A3 zs.length k3) := HX1.out.cell 2
        have xl : w.heap.size < w1.heap.size := HX1.out.lt
        go_wp2_with fail
        refine (HCON.out _ HB1.out).mono ?_
        rintro e w2 ⟨rfl, hb⟩
        have HB2 := Lib.hid (HB1.out.trans (hb.mono HB1.out.size))
        have HX2 := Lib.hid (HX1.out.here hb)
        clear hb HCON
        clear x0 x1 x2 xl
        have x0 : w2.cell? ⟨w.heap.size, 0, none⟩ = some (.slice A1 cs.length k1) := HX2.out.cell 0
        have x1 : w2.cell? ⟨w.heap.size, 1, none⟩ = some (.slice A2 ls.length k2) := HX2.out.cell 1
        have x2 : w2.cell? ⟨w.heap.size, 2, none⟩ = some (.slice A3 zs.length k3) := HX2.out.cell 2
        have xl : w.heap.size < w2.heap.size := HX2.out.lt
        have HMC : Hid (∀ c ∈ cs, mayC c = true) := Lib.hid (maySet_confs HM.out)
        have hlen := HLEN0.out HM.out HALL.out
        have hcl : (cs.flatMap textP).length ≤ 10000000 := by unfold textS at hlen; simp only [List.length_append] at hlen; omega
        have HLEN := Lib.hid hlen
        clear hlen
        obtain ⟨b, hb⟩ : ∃ b, w2.heap.size = b := ⟨_, rfl⟩
        obtain ⟨W3, hW3⟩ : ∃ X, w2.alloc (.cells #[.pointer none, .slice none 0 0] 111) = X := ⟨_, rfl⟩
        have HBA0 : Hid (BAt (b + 1) b [] W3) := Lib.hid (by rw [← hW3, ← hb]; exact BAt.fresh _ _)
        have HB3 : Hid (Below w.heap.size w W3) := Lib.hid (by rw [← hW3]; exact HB2.out.alloc HB2.out.size _)
        have HX3 : Hid (Whole W3 w.heap.size 76 #[.slice A1 cs.length k1, .slice A2 ls.length k2, .slice A3 zs.length k3]) := Lib.hid (by rw [← hW3]; exact HX2.out.alloc _)
        have HWB : Hid (w.heap.size < b) := Lib.hid (by rw [← hb]; exact xl)
        have HS3 : Hid (b + 1 ≤ W3.heap.size) := Lib.hid (by rw [← hW3, ← hb]; simp)
        have HW3 := Lib.hid hW3
        clear hW3 hcl
        go_upto_region 6 with fail
        rw [HW3.out]
        clear x0 x1 x2 xl
        clear d6 hb
        have x0 : W3.cell? ⟨w.heap.size, 0, none⟩ = some (.slice A1 cs.length k1) := HX3.out.cell 0
        have x1 : W3.cell? ⟨w.heap.size, 1, none⟩ = some (.slice A2 ls.length k2) := HX3.out.cell 1
        have x2 : W3.cell? ⟨w.heap.size, 2, none⟩ = some (.slice A3 zs.length k3) := HX3.out.cell 2
        have xl : w.heap.size < W3.heap.size := HX3.out.lt
        go_wp2
        go_loopw [6, 7, 8, 31] (fun _ _ _ i wr => ∃ j : Nat, j ≤ cs.length ∧ i = .int .i64 j ∧ Hid (BAt (b + 1) b ((cs.take j).flatMap textP) wr) ∧ Hid (Moves (b + 1) b W3 wr)) (fun _ _ _ i _ => cs.length - (intOf i).toNat)
        case atStart => exact ⟨0, Nat.zero_le _, rfl, HBA0, Lib.hid (Moves.refl _ _ _)⟩
        case round =>
          obtain ⟨j, hj, rfl, HBA, HMV⟩ := hrel
          have hwb := HWB.out
          have hs3 := HS3.out
          have hbw := HMV.out.below (B := w.heap.size) (by omega) (by omega) (by omega)
          have HBW := Lib.hid (HB3.out.trans hbw)
          have HBX := Lib.hid (HMV.out.below (B := w.heap.size + 1) (by omega) (by omega) (by omega))
          have HXR := Lib.hid (HX3.out.below HBX.out (by omega))
          have HSZ : Hid (b + 1 ≤ wr.heap.size) := Lib.hid (by have := HMV.out.size; omega)
          clear hbw
          try clear x0 x1 x2 xl
          have x0 : wr.cell? ⟨w.heap.size, 0, none⟩ = some (.slice A1 cs.length k1) := HXR.out.cell 0
          have x1 : wr.cell? ⟨w.heap.size, 1, none⟩ = some (.slice A2 ls.length k2) := HXR.out.cell 1
          have x2 : wr.cell? ⟨w.heap.size, 2, none⟩ = some (.slice A3 zs.length k3) := HXR.out.cell 2
          have xl : w.heap.size < wr.heap.size := HXR.out.lt
          by_cases hlt : j < cs.length
          · obtain ⟨x, hx⟩ : ∃ u, cs[j]? = some u := ⟨_, List.getElem?_eq_getElem hlt⟩
            obtain ⟨g, off, rfl, hg, hq⟩ := (HS.out.here HBW.out).confs.at hx
            obtain ⟨A4, k4, A5, k5, hcx, p0, p1, p2, p3, p4, p5, p6, p7, p8, p9, p10⟩ := hq.cfg
            have hmem := List.mem_of_getElem? hx
            obtain ⟨W4, hW4⟩ : ∃ X, wr.alloc (.cells #[.int .i64 x.node, .int .u32 x.addr, .slice A4 x.own.length k4, .slice A5 x.ports.length k5, .int .i64 x.hello, .int .i64 x.dead, .int .i64 x.again, .int .i64 x.room, .int .i64 x.queue, .int .i64 x.tokens, .int .i64 x.refill] 28) = X := ⟨_, rfl⟩
            have hb4 : Below wr.heap.size wr W4 := by rw [← hW4]; exact (Below.refl _ _).alloc (Nat.le_refl _) _
            have HX4 : Hid (Whole W4 wr.heap.size 28 #[.int .i64 x.node, .int .u32 x.addr, .slice A4 x.own.length k4, .slice A5 x.ports.length k5, .int .i64 x.hello, .int .i64 x.dead, .int .i64 x.again, .int .i64 x.room, .int .i64 x.queue, .int .i64 x.tokens, .int .i64 x.refill]) := Lib.hid (by rw [← hW4]; exact Whole.new wr _ _)
            have HB4 := Lib.hid hb4
            have HCT : Hid (Calls Tryz.prog 22 #[.agg #[.int .i64 x.node, .int .u32 x.addr, .slice A4 x.own.length k4, .slice A5 x.ports.length k5, .int .i64 x.hello, .int .i64 x.dead, .int .i64 x.again, .int .i64 x.room, .int .i64 x.queue, .int .i64 x.tokens, .int .i64 x.refill]] W4 fun e w' => e = .returned (.tuple #[.string (str (textP x)), .int .i64 0]) ∧ Below W4.heap.size W4 w') := Lib.hid (ctext_yes _ x W4 (hcx.below hb4) (HK.out.addrs x hmem) (HMC.out x hmem) (EE.out.here (HBW.out.trans (hb4.mono HBW.out.size))))
            have HNX := Lib.hid (flat_next textP hx)
            have HLN : Hid (((cs.take j).flatMap textP).length ≤ 10000000 ∧ (textP x).length ≤ 10000000) := Lib.hid (by
              have h1 := flat_take textP cs j
              have h2 := flat_mem textP hmem
              have h3 := HLEN.out
              unfold textS at h3
              simp only [List.length_append] at h3
              omega)
            have HW4 := Lib.hid hW4
            clear hx hq hcx hmem hW4 hb4
            go_upto_region 9 with fail
            rw [HW4.out]
            clear p0 p1 p2 p3 p4 p5 p6 p7 p8 p9 p10 hg x0 x1 x2 xl
            have p0 : W4.cell? ⟨wr.heap.size, 0, none⟩ = some (.int .i64 x.node) := HX4.out.cell 0
            have p1 : W4.cell? ⟨wr.heap.size, 1, none⟩ = some (.int .u32 x.addr) := HX4.out.cell 1
            have p2 : W4.cell? ⟨wr.heap.size, 2, none⟩ = some (.slice A4 x.own.length k4) := HX4.out.cell 2
            have p3 : W4.cell? ⟨wr.heap.size, 3, none⟩ = some (.slice A5 x.ports.length k5) := HX4.out.cell 3
            have p4 : W4.cell? ⟨wr.heap.size, 4, none⟩ = some (.int .i64 x.hello) := HX4.out.cell 4
            have p5 : W4.cell? ⟨wr.heap.size, 5, none⟩ = some (.int .i64 x.dead) := HX4.out.cell 5
            have p6 : W4.cell? ⟨wr.heap.size, 6, none⟩ = some (.int .i64 x.again) := HX4.out.cell 6
            have p7 : W4.cell? ⟨wr.heap.size, 7, none⟩ = some (.int .i64 x.room) := HX4.out.cell 7
            have p8 : W4.cell? ⟨wr.heap.size, 8, none⟩ = some (.int .i64 x.queue) := HX4.out.cell 8
            have p9 : W4.cell? ⟨wr.heap.size, 9, none⟩ = some (.int .i64 x.tokens) := HX4.out.cell 9
            have p10 : W4.cell? ⟨wr.heap.size, 10, none⟩ = some (.int .i64 x.refill) := HX4.out.cell 10
            have pl : wr.heap.size < W4.heap.size := HX4.out.lt
            go_wp2_with fail
            refine HCT.out.mono ?_
            rintro e w5 ⟨rfl, hb5⟩
            have HB5 := Lib.hid (HB4.out.trans (hb5.mono HB4.out.size))
            clear hb5 p0 p1 p2 p3 p4 p5 p6 p7 p8 p9 p10 pl
            go_wp2_with fail
            refine (writeString_any (b + 1) b _ (textP x) w5 (HBA.out.here HB5.out) (by have := HLN.out; omega) (by have := HLN.out; omega) (Nat.le_trans HSZ.out HB5.out.size)).mono ?_
            rintro e w6 ⟨rfl, hba, hmv⟩
            have HBA6 := Lib.hid hba
            have HMV6 := Lib.hid (HMV.out.trans ((Moves.of_below HB5.out).trans hmv))
            clear hba hmv
            go_wp2
            go_roundw
            case rel => exact ⟨j + 1, by omega, by go_num, Lib.hid (by rw [HNX.out]; exact HBA6.out), HMV6⟩
            case measure => simp [intOf]; omega
          · obtain rfl : j = cs.length := by omega
            have hba := HBA.out
            rw [List.take_length] at hba
            have HBAC := Lib.hid hba
            have HMVC := HMV
            clear hba hlt
            go_wp2
            go_loopw [11, 48] (fun _ i wz => ∃ j : Nat, j ≤ ls.length ∧ i = .int .i64 j ∧ Hid (BAt (b + 1) b (cs.flatMap textP ++ linesL (ls.take j)) wz) ∧ Hid (Moves (b + 1) b W3 wz)) (fun _ i _ => ls.length - (intOf i).toNat)
            case atStart => exact ⟨0, Nat.zero_le _, rfl, Lib.hid (by have := HBAC.out; simpa [linesL] using this), HMVC⟩
            case round =>
              obtain ⟨j, hj, rfl, HBA, HMV⟩ := hrel
              have hwb := HWB.out
              have hs3 := HS3.out
              have hbw := HMV.out.below (B := w.heap.size) (by omega) (by omega) (by omega)
              have HBW := Lib.hid (HB3.out.trans hbw)
              have HBX := Lib.hid (HMV.out.below (B := w.heap.size + 1) (by omega) (by omega) (by omega))
              have HXR := Lib.hid (HX3.out.below HBX.out (by omega))
              have HSZ : Hid (b + 1 ≤ wr.heap.size) := Lib.hid (by have := HMV.out.size; omega)
              clear hbw
              try clear x0 x1 x2 xl
              have x0 : wr.cell? ⟨w.heap.size, 0, none⟩ = some (.slice A1 cs.length k1) := HXR.out.cell 0
              have x1 : wr.cell? ⟨w.heap.size, 1, none⟩ = some (.slice A2 ls.length k2) := HXR.out.cell 1
              have x2 : wr.cell? ⟨w.heap.size, 2, none⟩ = some (.slice A3 zs.length k3) := HXR.out.cell 2
              have xl : w.heap.size < wr.heap.size := HXR.out.lt
              by_cases hlt : j < ls.length
              · obtain ⟨⟨n1, n2, n3, n4⟩, hx⟩ : ∃ u, ls[j]? = some u := ⟨_, List.getElem?_eq_getElem hlt⟩
                obtain ⟨g, off, rfl, hg, p0, p1, p2, p3⟩ := (HS.out.here HBW.out).links.at hx
                simp only at p0 p1 p2 p3
                have hmem := List.mem_of_getElem? hx
                obtain ⟨W4, hW4⟩ : ∃ X, wr.alloc (.cells #[.int .i64 n1, .int .i64 n2, .int .i64 n3, .int .i64 n4] 63) = X := ⟨_, rfl⟩
                have hb4 : Below wr.heap.size wr W4 := by rw [← hW4]; exact (Below.refl _ _).alloc (Nat.le_refl _) _
                have HX4 : Hid (Whole W4 wr.heap.size 63 #[.int .i64 n1, .int .i64 n2, .int .i64 n3, .int .i64 n4]) := Lib.hid (by rw [← hW4]; exact Whole.new wr _ _)
                have HB4 := Lib.hid hb4
                have HCT : Hid (Calls Tryz.prog 41 #[.agg #[.int .i64 n1, .int .i64 n2, .int .i64 n3, .int .i64 n4]] W4 fun e w' => e = .returned (.string (str (linkText (n1, n2, n3, n4)))) ∧ Below W4.heap.size W4 w') := Lib.hid (clinkText_any (n1, n2, n3, n4) W4 (HK.out.links _ hmem) (EE.out.here (HBW.out.trans (hb4.mono HBW.out.size))))
                have HNX : Hid (linesL (ls.take (j + 1)) = linesL (ls.take j) ++ (linkText (n1, n2, n3, n4) ++ [10])) := Lib.hid (flat_next _ hx)
                have HLN : Hid ((cs.flatMap textP ++ linesL (ls.take j)).length ≤ 10000000 ∧ (linkText (n1, n2, n3, n4)).length ≤ 10000000) := Lib.hid (by
                  have h1 : (linesL (ls.take j)).length ≤ (linesL ls).length := flat_take _ ls j
                  have h2 : (linkText (n1, n2, n3, n4) ++ [10]).length ≤ (linesL ls).length := flat_mem (fun l => linkText l ++ [10]) hmem
                  have h3 := HLEN.out
                  unfold textS at h3
                  simp only [List.length_append] at h3 h2 ⊢
                  omega)
                have HW4 := Lib.hid hW4
                clear hx hmem hW4 hb4
                go_upto_region 16 with fail
                rw [HW4.out]
                clear p0 p1 p2 p3 hg x0 x1 x2 xl
                have p0 : W4.cell? ⟨wr.heap.size, 0, none⟩ = some (.int .i64 n1) := HX4.out.cell 0
                have p1 : W4.cell? ⟨wr.heap.size, 1, none⟩ = some (.int .i64 n2) := HX4.out.cell 1
                have p2 : W4.cell? ⟨wr.heap.size, 2, none⟩ = some (.int .i64 n3) := HX4.out.cell 2
                have p3 : W4.cell? ⟨wr.heap.size, 3, none⟩ = some (.int .i64 n4) := HX4.out.cell 3
                have pl : wr.heap.size < W4.heap.size := HX4.out.lt
                go_wp2_with fail
                refine HCT.out.mono ?_
                rintro e w5 ⟨rfl, hb5⟩
                have HB5 := Lib.hid (HB4.out.trans (hb5.mono HB4.out.size))
                clear hb5 p0 p1 p2 p3 pl
                go_wp2_with fail
                refine (put2_any (b + 1) b _ (linkText (n1, n2, n3, n4)) w5 (HBA.out.here HB5.out) (by have := HLN.out; omega) (by have := HLN.out; omega) (Nat.le_trans HSZ.out HB5.out.size)).mono ?_
                rintro e w6 ⟨rfl, hba, hmv⟩
                have HBA6 := Lib.hid hba
                have HMV6 := Lib.hid (HMV.out.trans ((Moves.of_below HB5.out).trans hmv))
                clear hba hmv
                go_wp2
                go_roundw
                case rel => exact ⟨j + 1, by omega, by go_num, Lib.hid (by rw [HNX.out, ← List.append_assoc]; exact HBA6.out), HMV6⟩
                case measure => simp [intOf]; omega
              · obtain rfl : j = ls.length := by omega
                have hba := HBA.out
                rw [List.take_length] at hba
                have HBAL := Lib.hid hba
                have HLN : Hid ((cs.flatMap textP ++ linesL ls).length ≤ 10000000) := Lib.hid (by
                  have h3 := HLEN.out
                  unfold textS at h3
                  simp only [List.length_append] at h3 ⊢
                  omega)
                clear hba hlt
                go_wp2_with fail
                refine (put2_any (b + 1) b _ [114, 117, 110] wr HBAL.out (by have := HLN.out; omega) (by decide) HSZ.out).mono ?_
                rintro e w6 ⟨rfl, hba, hmv⟩
                have HBAR := Lib.hid hba
                have HMVR := Lib.hid (HMV.out.trans hmv)
                have HXS : Hid (Whole w6 w.heap.size 76 #[.slice A1 cs.length k1, .slice A2 ls.length k2, .slice A3 zs.length k3]) := Lib.hid (HX3.out.below (HMVR.out.below (B := w.heap.size + 1) (by omega) (by omega) (by omega)) (by omega))
                clear hba hmv x0 x1 x2 xl
                have x0 : w6.cell? ⟨w.heap.size, 0, none⟩ = some (.slice A1 cs.length k1) := HXS.out.cell 0
                have x1 : w6.cell? ⟨w.heap.size, 1, none⟩ = some (.slice A2 ls.length k2) := HXS.out.cell 1
                have x2 : w6.cell? ⟨w.heap.size, 2, none⟩ = some (.slice A3 zs.length k3) := HXS.out.cell 2
                have xl : w.heap.size < w6.heap.size := HXS.out.lt
                go_wp2
                go_loopw [13, 62] (fun _ i wz => ∃ j : Nat, j ≤ zs.length ∧ i = .int .i64 j ∧ Hid (BAt (b + 1) b (cs.flatMap textP ++ linesL ls ++ ([114, 117, 110] ++ [10]) ++ linesA (zs.take j)) wz) ∧ Hid (Moves (b + 1) b W3 wz)) (fun _ i _ => zs.length - (intOf i).toNat)
                case atStart => exact ⟨0, Nat.zero_le _, rfl, Lib.hid (by have := HBAR.out; simpa [linesA] using this), HMVR⟩
                case round =>
                  obtain ⟨j, hj, rfl, HBA, HMV⟩ := hrel
                  have hwb := HWB.out
                  have hs3 := HS3.out
                  have hbw := HMV.out.below (B := w.heap.size) (by omega) (by omega) (by omega)
                  have HBW := Lib.hid (HB3.out.trans hbw)
                  have HBX := Lib.hid (HMV.out.below (B := w.heap.size + 1) (by omega) (by omega) (by omega))
                  have HXR := Lib.hid (HX3.out.below HBX.out (by omega))
                  have HSZ : Hid (b + 1 ≤ wr.heap.size) := Lib.hid (by have := HMV.out.size; omega)
                  clear hbw
                  try clear x0 x1 x2 xl
                  have x0 : wr.cell? ⟨w.heap.size, 0, none⟩ = some (.slice A1 cs.length k1) := HXR.out.cell 0
                  have x1 : wr.cell? ⟨w.heap.size, 1, none⟩ = some (.slice A2 ls.length k2) := HXR.out.cell 1
                  have x2 : wr.cell? ⟨w.heap.size, 2, none⟩ = some (.slice A3 zs.length k3) := HXR.out.cell 2
                  have xl : w.heap.size < wr.heap.size := HXR.out.lt
                  by_cases hlt : j < zs.length
                  · obtain ⟨x, hx⟩ : ∃ u, zs[j]? = some u := ⟨_, List.getElem?_eq_getElem hlt⟩
                    obtain ⟨g, off, rfl, hg, bv, hbv, p0, p1, p2, p3, p4, p5, p6, p7, p8⟩ := (HS.out.here HBW.out).acts.at hx
                    obtain ⟨A4, k4, rfl, -⟩ := id hbv
                    have hmem := List.mem_of_getElem? hx
                    obtain ⟨W4, hW4⟩ : ∃ X, wr.alloc (.cells #[.int .i64 x.kind, .int .i64 x.node, .int .i64 x.port, .int .i64 x.cost, .int .i64 x.n, .bool x.up, .int .u8 (x.by_.toNat : Int), .bool x.unread, .slice A4 x.bytes.length k4] 51) = X := ⟨_, rfl⟩
                    have hb4 : Below wr.heap.size wr W4 := by rw [← hW4]; exact (Below.refl _ _).alloc (Nat.le_refl _) _
                    have HX4 : Hid (Whole W4 wr.heap.size 51 #[.int .i64 x.kind, .int .i64 x.node, .int .i64 x.port, .int .i64 x.cost, .int .i64 x.n, .bool x.up, .int .u8 (x.by_.toNat : Int), .bool x.unread, .slice A4 x.bytes.length k4]) := Lib.hid (by rw [← hW4]; exact Whole.new wr _ _)
                    have HB4 := Lib.hid hb4
                    have hmx := HALL.out x hmem
                    have HK9 : Hid (K9 x ∧ x.bytes.length ≤ 2048) := Lib.hid (by unfold mayA at hmx; simp only [Bool.and_eq_true, decide_eq_true_eq] at hmx; exact ⟨⟨hmx.1.1.1, hmx.1.1.2⟩, hmx.2⟩)
                    have HCT : Hid (Calls Tryz.prog 75 #[.agg #[.int .i64 x.kind, .int .i64 x.node, .int .i64 x.port, .int .i64 x.cost, .int .i64 x.n, .bool x.up, .int .u8 (x.by_.toNat : Int), .bool x.unread, .slice A4 x.bytes.length k4]] W4 fun e w' => e = .returned (.string (str (actText x))) ∧ Below W4.heap.size W4 w') := Lib.hid (cactText_any x _ W4 HK9.out.1 (hbv.below hb4) (HK.out.acts x hmem).1 (by have := HK9.out.2; omega) (EE.out.here (HBW.out.trans (hb4.mono HBW.out.size))))
                    have HNX : Hid (linesA (zs.take (j + 1)) = linesA (zs.take j) ++ (actText x ++ [10])) := Lib.hid (flat_next _ hx)
                    have HLN : Hid ((cs.flatMap textP ++ linesL ls ++ ([114, 117, 110] ++ [10]) ++ linesA (zs.take j)).length ≤ 10000000 ∧ (actText x).length ≤ 10000000) := Lib.hid (by
                      have h1 : (linesA (zs.take j)).length ≤ (linesA zs).length := flat_take _ zs j
                      have h2 : (actText x ++ [10]).length ≤ (linesA zs).length := flat_mem (fun a => actText a ++ [10]) hmem
                      have h3 := HLEN.out
                      unfold textS at h3
                      simp only [List.length_append, List.length_cons, List.length_nil] at h3 h2 ⊢
                      omega)
                    have HW4 := Lib.hid hW4
                    clear hx hmem hW4 hb4 hbv hmx
                    go_upto_region 22 with fail
                    rw [HW4.out]
                    clear p0 p1 p2 p3 p4 p5 p6 p7 p8 hg x0 x1 x2 xl
                    have p0 : W4.cell? ⟨wr.heap.size, 0, none⟩ = some (.int .i64 x.kind) := HX4.out.cell 0
                    have p1 : W4.cell? ⟨wr.heap.size, 1, none⟩ = some (.int .i64 x.node) := HX4.out.cell 1
                    have p2 : W4.cell? ⟨wr.heap.size, 2, none⟩ = some (.int .i64 x.port) := HX4.out.cell 2
                    have p3 : W4.cell? ⟨wr.heap.size, 3, none⟩ = some (.int .i64 x.cost) := HX4.out.cell 3
                    have p4 : W4.cell? ⟨wr.heap.size, 4, none⟩ = some (.int .i64 x.n) := HX4.out.cell 4
                    have p5 : W4.cell? ⟨wr.heap.size, 5, none⟩ = some (.bool x.up) := HX4.out.cell 5
                    have p6 : W4.cell? ⟨wr.heap.size, 6, none⟩ = some (.int .u8 (x.by_.toNat : Int)) := HX4.out.cell 6
                    have p7 : W4.cell? ⟨wr.heap.size, 7, none⟩ = some (.bool x.unread) := HX4.out.cell 7
                    have p8 : W4.cell? ⟨wr.heap.size, 8, none⟩ = some (.slice A4 x.bytes.length k4) := HX4.out.cell 8
                    have pl : wr.heap.size < W4.heap.size := HX4.out.lt
                    go_wp2_with fail
                    refine HCT.out.mono ?_
                    rintro e w5 ⟨rfl, hb5⟩
                    have HB5 := Lib.hid (HB4.out.trans (hb5.mono HB4.out.size))
                    clear hb5 p0 p1 p2 p3 p4 p5 p6 p7 p8 pl
                    go_wp2_with fail
                    refine (put2_any (b + 1) b _ (actText x) w5 (HBA.out.here HB5.out) (by have := HLN.out; omega) (by have := HLN.out; omega) (Nat.le_trans HSZ.out HB5.out.size)).mono ?_
                    rintro e w7 ⟨rfl, hba, hmv⟩
                    have HBA6 := Lib.hid hba
                    have HMV6 := Lib.hid (HMV.out.trans ((Moves.of_below HB5.out).trans hmv))
                    clear hba hmv
                    go_wp2
                    go_roundw
                    case rel => exact ⟨j + 1, by omega, by go_num, Lib.hid (by rw [HNX.out, ← List.append_assoc]; exact HBA6.out), HMV6⟩
                    case measure => simp [intOf]; omega
                  · obtain rfl : j = zs.length := by omega
                    have hba := HBA.out
                    rw [List.take_length, show cs.flatMap textP ++ linesL ls ++ ([114, 117, 110] ++ [10]) ++ linesA zs = textS cs ls zs from rfl] at hba
                    have HBAZ := Lib.hid hba
                    have hne : textS cs ls zs ≠ [] := by unfold textS; simp
                    have HLC : Hid (Calls Tryz.prog 96 #[.pointer (some ⟨b, 0, none⟩)] wr fun e w' => e = .returned (.int .i64 ((textS cs ls zs).length : Int)) ∧ w' = wr) := Lib.hid (by
                      have := Tryz.Builder_Len b b _ wr (hba.kit (by omega))
                      rw [cellsB_length] at this
                      exact this)
                    have HSC := Lib.hid (bString_any (b + 1) b _ wr hba hne)
                    clear hba hne hlt
                    by_cases h4 : 4194304 < (textS cs ls zs).length
                    · have HT : Hid (sText cs ls zs = ([], 3)) := Lib.hid (by rw [HT1.out, if_pos h4])
                      have d4 : decide ((4194304 : Int) < ((textS cs ls zs).length : Int)) = true := decide_eq_true (by omega)
                      clear h4
                      go_wp2_with fail
                      refine HLC.out.mono ?_
                      rintro e w7 ⟨rfl, rfl⟩
                      go_wp2
                      exact bodyPost_ret (v := .tuple #[.string ⟨#[]⟩, .int .i64 3]) (by simp [results, Tryz.results44, go_sem]) rfl ⟨by unfold TextRes; rw [HT.out]; rfl, HBW.out⟩
                    · have HT : Hid (sText cs ls zs = (textS cs ls zs, 0)) := Lib.hid (by rw [HT1.out, if_neg h4])
                      have d4 : decide ((4194304 : Int) < ((textS cs ls zs).length : Int)) = false := decide_eq_false (by omega)
                      clear h4
                      go_wp2_with fail
                      refine HLC.out.mono ?_
                      rintro e w7 ⟨rfl, rfl⟩
                      go_wp2_with fail
                      refine HSC.out.mono ?_
                      rintro e w8 ⟨rfl, hmv⟩
                      have HBZ := Lib.hid (HB3.out.trans ((HMV.out.trans hmv).below (B := w.heap.size) (by omega) (by omega) (by omega)))
                      go_wp2
                      exact bodyPost_ret (v := .tuple #[.string (str (textS cs ls zs)), .int .i64 0]) (by simp [results, Tryz.results44, go_sem]) rfl ⟨by unfold TextRes; rw [HT.out], HBZ.out⟩
end Go.Proofs.YtfbangojgjcbcaaGreatDoor
namespace Go.Proofs.YtfbangojgjcbcaaGreatDoor
open Go.RowKit Pl
structure SmallSet (cs : List Cfg) (ls : List Lk) : Prop where
  nc : cs.length ≤ 40
  nl : ls.length ≤ 300
  confs : ∀ c ∈ cs, c.own.length ≤ 300 ∧ c.ports.length ≤ 300
def GreatRes (cs : List Cfg) (ls : List Lk) (e : Ending) : Prop := ∃ b, e = .returned (.bool b) ∧ (b = false → SmallSet cs ls)
theorem all_next {α : Type} {P : α → Prop} {xs : List α} {j : Nat} {x : α} (hx : xs[j]? = some x) (h : ∀ y ∈ xs.take j, P y) (hp : P x) : ∀ y ∈ xs.take (j + 1), P y := fun y hy => by
  rw [take_at hx] at hy
  rcases List.mem_append.1 hy with h' | h'
  · exact h y h'
  · simp only [List.mem_singleton] at h'
    rw [h']; exact hp
set_option maxRecDepth 100000 in
set_option maxHeartbeats 2000000 in
theorem rgreat_any (cv lv : Value) (cs : List Cfg) (ls : List Lk) (w : World) (hc : Confs w cv cs) (hl : Links w lv ls) (hcl : cs.length ≤ 9223372036854775807) :
    Calls Tryz.prog 97 #[.agg #[cv, lv]] w fun e w' => GreatRes cs ls e ∧ Below w.heap.size w w' := by
  obtain ⟨A1, k1, rfl, -⟩ := id hc
  obtain ⟨A2, k2, rfl, -⟩ := id hl
  obtain ⟨W0, hW0⟩ : ∃ W0, w.alloc (.cells #[.slice A1 cs.length k1, .slice A2 ls.length k2] 73) = W0 := ⟨_, rfl⟩
  have hb0 : Below w.heap.size w W0 := by rw [← hW0]; exact (Below.refl _ _).alloc (Nat.le_refl _) _
  have HB0 := Lib.hid hb0
  have HC0 := Lib.hid (hc.here hb0)
  have HX0 : Hid (Whole W0 w.heap.size 73 #[.slice A1 cs.length k1, .slice A2 ls.length k2]) := Lib.hid (by rw [← hW0]; exact Whole.new w _ _)
  have HW0 := Lib.hid hW0
  have b0 : W0.cell? ⟨w.heap.size, 0, none⟩ = some (.slice A1 cs.length k1) := HX0.out.cell 0
  have b1 : W0.cell? ⟨w.heap.size, 1, none⟩ = some (.slice A2 ls.length k2) := HX0.out.cell 1
  have bl : w.heap.size < W0.heap.size := HX0.out.lt
  clear hW0 hc hb0 hl
  by_cases h40 : 40 < cs.length
  · have d1 : decide ((40 : Int) < (cs.length : Int)) = true := decide_eq_true (by omega)
    clear h40
    go_enter Tryz.func97, Tryz.ntmps97
    go_upto_region 1 with fail
    rw [HW0.out]
    go_wp2
    go_ret
    exact ⟨⟨true, rfl, fun h => by cases h⟩, HB0.out⟩
  · have d1 : decide ((40 : Int) < (cs.length : Int)) = false := decide_eq_false (by omega)
    by_cases h300 : 300 < ls.length
    · have d2 : decide ((300 : Int) < (ls.length : Int)) = true := decide_eq_true (by omega)
      clear h300 h40
      go_enter Tryz.func97, Tryz.ntmps97
      go_upto_region 1 with fail
      rw [HW0.out]
      go_wp2
      go_ret
      exact ⟨⟨true, rfl, fun h => by cases h⟩, HB0.out⟩
    · have d2 : decide ((300 : Int) < (ls.length : Int)) = false := decide_eq_false (by omega)
      have HN : Hid (cs.length ≤ 40 ∧ ls.length ≤ 300) := Lib.hid ⟨by omega, by omega⟩
      clear h300 h40
      go_enter Tryz.func97, Tryz.ntmps97
      go_upto_region 1 with fail
      rw [HW0.out]
      go_wp2
      go_loop [3] (fun i => ∃ j : Nat, j ≤ cs.length ∧ i = .int .i64 j ∧ Hid (∀ c ∈ cs.take j, c.own.length ≤ 300 ∧ c.ports.length ≤ 300)) (fun i => cs.length - (intOf i).toNat)
      case atStart => exact ⟨0, Nat.zero_le _, rfl, Lib.hid (fun c h => by simp at h)⟩
      case round =>
        obtain ⟨j, hj, rfl, HF⟩ := hrel
        by_cases hlt : j < cs.length
        · obtain ⟨c, hcj⟩ : ∃ c, cs[j]? = some c := ⟨_, List.getElem?_eq_getElem hlt⟩
          obtain ⟨b, off, rfl, hbl, hq⟩ := HC0.out.at hcj
          obtain ⟨A3, k3, A4, k4, -, c0, c1, c2, c3, c4, c5, c6, c7, c8, c9, c10⟩ := hq.cfg
          have HCJ := Lib.hid hcj
          clear hcj hq c0 c1 c4 c5 c6 c7 c8 c9 c10
          by_cases ho : 300 < c.own.length
          · have d3 : decide ((300 : Int) < (c.own.length : Int)) = true := decide_eq_true (by omega)
            clear ho
            go_wp2
            go_ret
            exact ⟨⟨true, rfl, fun h => by cases h⟩, HB0.out⟩
          · have d3 : decide ((300 : Int) < (c.own.length : Int)) = false := decide_eq_false (by omega)
            by_cases hp : 300 < c.ports.length
            · have d4 : decide ((300 : Int) < (c.ports.length : Int)) = true := decide_eq_true (by omega)
              clear hp ho
              go_wp2
              go_ret
              exact ⟨⟨true, rfl, fun h => by cases h⟩, HB0.out⟩
            · have d4 : decide ((300 : Int) < (c.ports.length : Int)) = false := decide_eq_false (by omega)
              have HN2 := Lib.hid (all_next HCJ.out HF.out ⟨by omega, by omega⟩)
              clear hp ho
              go_wp2
              go_round
              case rel => exact ⟨j + 1, by omega, by go_num, HN2⟩
              case measure => simp [intOf]; omega
        · obtain rfl : j = cs.length := by omega
          have HP : Hid (SmallSet cs ls) := Lib.hid ⟨HN.out.1, HN.out.2, by have := HF.out; rwa [List.take_length] at this⟩
          go_wp2
          go_ret
          exact ⟨⟨false, rfl, fun _ => HP.out⟩, HB0.out⟩
/-- How many bytes acts bear. -/
def bytesA (zs : List ActP) : Nat := (zs.map fun a => a.bytes.length).sum
structure SmallScr (cs : List Cfg) (ls : List Lk) (zs : List ActP) : Prop where
  set : SmallSet cs ls
  na : zs.length ≤ 200
  bytes : bytesA zs ≤ 60000
def MuchRes (cs : List Cfg) (ls : List Lk) (zs : List ActP) (e : Ending) : Prop := ∃ b, e = .returned (.bool b) ∧ (b = false → SmallScr cs ls zs)
theorem bytesA_step {zs : List ActP} {j : Nat} {a : ActP} (h : zs[j]? = some a) : bytesA (zs.take (j + 1)) = bytesA (zs.take j) + a.bytes.length := by
  unfold bytesA
  rw [take_at h, List.map_append, List.sum_append]
  simp
set_option maxRecDepth 100000 in
set_option maxHeartbeats 4000000 in
theorem rmuch_any (cv lv av : Value) (cs : List Cfg) (ls : List Lk) (zs : List ActP) (w : World) (h : ScrIs w cv lv av cs ls zs) (hcl : cs.length ≤ 9223372036854775807) (hal : zs.length ≤ 9223372036854775807) :
    Calls Tryz.prog 46 #[.agg #[cv, lv, av]] w fun e w' => MuchRes cs ls zs e ∧ Below w.heap.size w w' := by
  have HS := Lib.hid h
  obtain ⟨A1, k1, rfl, -⟩ := h.confs
  obtain ⟨A2, k2, rfl, -⟩ := h.links
  obtain ⟨A3, k3, rfl, -⟩ := h.acts
  obtain ⟨W0, hW0⟩ : ∃ W0, w.alloc (.cells #[.slice A1 cs.length k1, .slice A2 ls.length k2, .slice A3 zs.length k3] 76) = W0 := ⟨_, rfl⟩
  have hb0 : Below w.heap.size w W0 := by rw [← hW0]; exact (Below.refl _ _).alloc (Nat.le_refl _) _
  have HB0 := Lib.hid hb0
  have HX0 : Hid (Whole W0 w.heap.size 76 #[.slice A1 cs.length k1, .slice A2 ls.length k2, .slice A3 zs.length k3]) := Lib.hid (by rw [← hW0]; exact Whole.new w _ _)
  have HGR := Lib.hid (rgreat_any _ _ cs ls W0 (h.confs.here hb0) (h.links.here hb0) hcl)
  have HW0 := Lib.hid hW0
  have b0 : W0.cell? ⟨w.heap.size, 0, none⟩ = some (.slice A1 cs.length k1) := HX0.out.cell 0
  have b1 : W0.cell? ⟨w.heap.size, 1, none⟩ = some (.slice A2 ls.length k2) := HX0.out.cell 1
  have b2 : W0.cell? ⟨w.heap.size, 2, none⟩ = some (.slice A3 zs.length k3) := HX0.out.cell 2
  have bl : w.heap.size < W0.heap.size := HX0.out.lt
  clear hW0 hb0 h
  go_enter Tryz.func46, Tryz.ntmps46
  go_upto_region 1 with fail
  rw [HW0.out]
  go_wp2
  go_loop [3, 4] (fun n i => ∃ j : Nat, j ≤ zs.length ∧ j ≤ 201 ∧ i = .int .i64 j ∧ n = .int .i64 (bytesA (zs.take j) : Nat) ∧ bytesA (zs.take j) ≤ 60000) (fun _ i => zs.length - (intOf i).toNat)
  case atStart => exact ⟨0, Nat.zero_le _, by omega, rfl, rfl, by simp [bytesA]⟩
  case round =>
    obtain ⟨j, hj, hj2, rfl, rfl, hn⟩ := hrel
    by_cases hlt : j < zs.length
    · by_cases h201 : j < 201
      · have d1 : decide ((j : Int) < 201) = true := decide_eq_true (by omega)
        obtain ⟨a, haj⟩ : ∃ c, zs[j]? = some c := ⟨_, List.getElem?_eq_getElem hlt⟩
        obtain ⟨b, off, rfl, hbl, bv, hbv, c0, c1, c2, c3, c4, c5, c6, c7, c8⟩ := (HS.out.here HB0.out).acts.at haj
        obtain ⟨A4, k4, rfl, -⟩ := id hbv
        have HAJ := Lib.hid (bytesA_step haj)
        have hj200 : j ≤ 200 := by omega
        clear haj hbv c0 c1 c2 c3 c4 c5 c6 c7 h201
        by_cases hbig : 60000 < bytesA (zs.take j) + a.bytes.length
        · have d2 : decide ((60000 : Int) < (bytesA (zs.take j) : Int) + min (a.bytes.length : Int) 60001) = true := decide_eq_true (by omega)
          clear hbig
          go_wp2
          go_ret
          exact ⟨⟨true, rfl, fun h => by cases h⟩, HB0.out⟩
        · have d2 : decide ((60000 : Int) < (bytesA (zs.take j) : Int) + (a.bytes.length : Int)) = false := decide_eq_false (by omega)
          have d3 : min (a.bytes.length : Int) 60001 = (a.bytes.length : Int) := by omega
          have HN : Hid (bytesA (zs.take (j + 1)) ≤ 60000) := Lib.hid (by rw [HAJ.out]; omega)
          clear hbig
          go_wp2
          go_round
          case rel => exact ⟨j + 1, by omega, by omega, by go_num, by rw [HAJ.out]; go_num, HN.out⟩
          case measure => simp [intOf]; omega
      · have d1 : decide ((j : Int) < 201) = false := decide_eq_false (by omega)
        have d2 : decide ((200 : Int) < (zs.length : Int)) = true := decide_eq_true (by omega)
        clear h201
        go_wp2
        go_ret
        exact ⟨⟨true, rfl, fun h => by cases h⟩, HB0.out⟩
    · obtain rfl : j = zs.length := by omega
      by_cases h200 : 200 < zs.length
      · have d2 : decide ((200 : Int) < (zs.length : Int)) = true := decide_eq_true (by omega)
        clear h200
        go_wp2
        go_ret
        exact ⟨⟨true, rfl, fun h => by cases h⟩, HB0.out⟩
      · have d2 : decide ((200 : Int) < (zs.length : Int)) = false := decide_eq_false (by omega)
        rw [List.take_length] at hn
        have HNN : Hid (zs.length ≤ 200 ∧ bytesA zs ≤ 60000) := Lib.hid ⟨by omega, hn⟩
        clear h200 hn
        go_wp2_with fail
        refine HGR.out.mono ?_
        rintro e w1 ⟨⟨b, rfl, hb⟩, hB⟩
        have HB := Lib.hid hb
        have HBB := Lib.hid (HB0.out.trans (hB.mono HB0.out.size))
        clear hb hB
        go_wp2
        go_ret
        exact ⟨⟨b, rfl, fun h => ⟨HB.out h, HNN.out.1, HNN.out.2⟩⟩, HBB.out⟩
end Go.Proofs.YtfbangojgjcbcaaGreatDoor
namespace Go.Proofs.YtfbangojgjcbcaaGreatDoor
open Go.RowKit Pl
theorem flat_bound {α : Type} (f : α → List UInt8) (m : Nat) : ∀ xs : List α, (∀ x ∈ xs, (f x).length ≤ m) → (xs.flatMap f).length ≤ xs.length * m
  | [], _ => by simp
  | x :: xs, h => by
    have h1 := h x (List.mem_cons_self ..)
    have h2 := flat_bound f m xs (fun y hy => h y (List.mem_cons_of_mem _ hy))
    rw [List.flatMap_cons, List.length_append, List.length_cons, Nat.succ_mul]
    omega
theorem textP_len {c : Cfg} (h : mayC c = true) : (textP c).length ≤ 1025 := by
  obtain ⟨h1, h2⟩ := lines_len h
  have := flat_bound (fun l : List UInt8 => l ++ [10]) 41 (linesP c) (fun l hl => by have := h1 l hl; simp; omega)
  unfold textP
  have h3 : (linesP c).length * 41 ≤ 25 * 41 := Nat.mul_le_mul_right _ h2
  omega
theorem mayA_parts {a : ActP} (h : mayA a = true) : K9 a ∧ a.bytes.length ≤ 2048 := by
  unfold mayA at h
  simp only [Bool.and_eq_true, decide_eq_true_eq] at h
  exact ⟨⟨h.1.1.1, h.1.1.2⟩, h.2⟩
theorem actText_len {a : ActP} (h : mayA a = true) (hi : InA a) : (actText a).length ≤ 20505 := by
  have h1 := firstA_len hi (mayA_parts h).2 (partsA a.kind.toNat).length
  rw [firstA_all] at h1
  have h2 := partsA_len a.kind.toNat
  have h3 : 4101 * (1 + (partsA a.kind.toNat).length) ≤ 4101 * 5 := Nat.mul_le_mul_left _ (by omega)
  omega
theorem small_len {cs : List Cfg} {ls : List Lk} {zs : List ActP} (hs : SmallScr cs ls zs) (hI : ∀ l ∈ ls, In4 l) (hi : ∀ a ∈ zs, InA a) (hm : maySet cs ls = true) (ha : ∀ a ∈ zs, mayA a = true) : (textS cs ls zs).length ≤ 4194304 := by
  have h1 := flat_bound textP 1025 cs (fun c hc => textP_len (maySet_confs hm c hc))
  have h2 := flat_bound (fun l => linkText l ++ [10]) 101 ls (fun l hl => by have := linkText_len (hI l hl); simp; omega)
  have h3 := flat_bound (fun a => actText a ++ [10]) 20506 zs (fun a hz => by have := actText_len (ha a hz) (hi a hz); simp; omega)
  have n1 : cs.length * 1025 ≤ 16 * 1025 := Nat.mul_le_mul_right _ (maySet_len hm)
  have n2 : ls.length * 101 ≤ 300 * 101 := Nat.mul_le_mul_right _ hs.set.nl
  have n3 : zs.length * 20506 ≤ 200 * 20506 := Nat.mul_le_mul_right _ hs.na
  unfold textS linesL linesA
  simp only [List.length_append, List.length_cons, List.length_nil]
  omega
theorem bytesA_mem : ∀ {zs : List ActP} {a : ActP}, a ∈ zs → a.bytes.length ≤ bytesA zs
  | x :: zs, a, h => by
    have e : bytesA (x :: zs) = x.bytes.length + bytesA zs := by simp [bytesA]
    rw [e]
    rcases List.mem_cons.1 h with rfl | h'
    · omega
    · have := bytesA_mem h'
      omega
/-- What is known of any script. -/
structure ScrAny (cs : List Cfg) (ls : List Lk) (zs : List ActP) : Prop where
  confs : ∀ c ∈ cs, Addrs4 c ∧ In64 c.node
  links : ∀ l ∈ ls, In4 l
  acts : ∀ a ∈ zs, InA a
  nc : cs.length ≤ 9223372036854775807
  na : zs.length ≤ 9223372036854775807
theorem small_ok {cs : List Cfg} {ls : List Lk} {zs : List ActP} (hs : SmallScr cs ls zs) (hA : ∀ c ∈ cs, Addrs4 c ∧ In64 c.node) (hI : ∀ l ∈ ls, In4 l) (hi : ∀ a ∈ zs, InA a) : ScrOk cs ls zs where
  addrs c hc := (hA c hc).1
  confs c hc := by have := hs.set.confs c hc; exact ⟨by omega, by omega, (hA c hc).2⟩
  links := hI
  acts a ha := ⟨hi a ha, by have := bytesA_mem ha; have := hs.bytes; omega⟩
  nc := by have := hs.set.nc; omega
  nl := by have := hs.set.nl; omega
  na := by have := hs.na; omega
end Go.Proofs.YtfbangojgjcbcaaGreatDoor
namespace Go.Proofs.YtfbangojgjcbcaaGreatDoor
open Go.ChangeShapes Go.WideShapes Go.ChangeAt Go.RowKit Pl
theorem arrayT3 {cs : Array Value} (h : cs.size = 3) : ∃ c0 c1 c2, cs = #[c0, c1, c2] := by
  obtain ⟨l⟩ := cs
  match l, h with
  | [c0, c1, c2], _ => exact ⟨c0, c1, c2, rfl⟩
section
variable {H : Type} {enc : TypeId × Value → H} {W : World} {base b0 : Nat} {sp : Nat → Bool} {held : Bool} {r : Reach}
theorem tCellsC : Tryz.prog.cellsOf 70 = 1 := by kernel_rfl
theorem tCellsL : Tryz.prog.cellsOf 71 = 1 := by kernel_rfl
theorem tCellsA : Tryz.prog.cellsOf 74 = 1 := by kernel_rfl
theorem tCellsS : Tryz.prog.cellsOf 73 = 2 := by kernel_rfl
theorem tCellsX : Tryz.prog.cellsOf 76 = 3 := by kernel_rfl
set_option maxRecDepth 100000 in
theorem open_script {v : Value} {d : DataW H} {p : List MemPlace} (hv : Value.okWide Tryz.prog W r b0 76 v) (h : DataW.Trod enc Tryz.prog W base sp held 76 v d p) :
    ∃ cv lv av cs ls zs, v = .agg #[cv, lv, av] ∧ ScrIs W cv lv av cs ls zs ∧ ScrAny cs ls zs := by
  obtain ⟨cs, rfl, hsz⟩ := okWide_struct Tryz.underlying76 hv
  obtain ⟨c0, c1, c2, rfl⟩ := arrayT3 (hsz.trans tCellsX)
  obtain ⟨fuel, hf⟩ := h
  obtain ⟨y0, y1, m, _, _, h0, h1⟩ := trod_struct2 Tryz.underlying76 hf
  simp only [Value.cells, tCellsS, tCellsA, List.drop_zero, List.drop_succ_cons, List.take_succ_cons, List.take_zero] at h0 h1
  obtain ⟨z0, z1, m2, _, _, g0, g1⟩ := trod_struct2 Tryz.underlying73 h0
  simp only [tCellsC, tCellsL, List.drop_zero, List.drop_succ_cons, List.take_succ_cons, List.take_zero] at g0 g1
  obtain ⟨cs, hc, hcl, hcp⟩ := openT_confs g0
  obtain ⟨ls, hl, hll, hlp⟩ := openT_links g1
  obtain ⟨zs, ha, hal, hap⟩ := openT_acts h1
  refine ⟨c0, c1, c2, cs, ls, zs, rfl, ⟨hc, hl, ha⟩, ⟨hcp, hlp, hap, hcl, hal⟩⟩
end
end Go.Proofs.YtfbangojgjcbcaaGreatDoor
