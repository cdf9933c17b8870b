/- The walk of the law ConfTexts: it answers true. -/
import Derived.Test.YtfbangojgjcbcaaGreatDoorLConfCuts
import Derived.Test.YtfbangojgjcbcaaGreatDoorConfOo
namespace Go.Proofs.YtfbangojgjcbcaaGreatDoor
open Go.RowKit Pl

theorem text_len {c : Cfg} (hm : mayC c = true) : (textP c).length ≤ 4000 := by
  have h := lines_len hm
  have := joinNl_len (linesP c) h.1
  show (joinNl (linesP c)).length ≤ 4000
  omega
set_option maxRecDepth 100000 in
set_option maxHeartbeats 8000000 in
theorem confTexts_walk (v0 : Value) (c : Cfg) (v1 : Value) (d : Cfg) (a : Int) (leave : Int) (w : World) (h : CfgIs w v0 c) (hA : Addrs4 c) (h' : CfgIs w v1 d) (_hA' : Addrs4 d) (ha : IsAddr a) (E : Env w) :
    Calls Tryz.prog 6 #[v0, v1, .int .u32 a, .int .i64 leave] w fun e w' => e = .returned (.bool true) ∧ Below w.heap.size w w' := by
  have HC := Lib.hid h
  have HD := Lib.hid h'
  obtain ⟨own, ports, rfl, hO, hP⟩ := h.is
  obtain ⟨own', ports', rfl, hO', hP'⟩ := h'.is
  obtain ⟨A1, k1, rfl, -⟩ := hO
  obtain ⟨A2, k2, rfl, -⟩ := hP
  obtain ⟨B1, l1, rfl, -⟩ := hO'
  obtain ⟨B2, l2, rfl, -⟩ := hP'
  clear h h'
  unfold cfgV at HC HD ⊢
  obtain ⟨W0, hW0⟩ : ∃ W0, (w.alloc (.cells #[.int .i64 c.node, .int .u32 c.addr, .slice A1 c.own.length k1, .slice A2 c.ports.length k2, .int .i64 c.hello, .int .i64 c.dead, .int .i64 c.again, .int .i64 c.room, .int .i64 c.queue, .int .i64 c.tokens, .int .i64 c.refill] 28)).alloc (.cells #[.int .i64 d.node, .int .u32 d.addr, .slice B1 d.own.length l1, .slice B2 d.ports.length l2, .int .i64 d.hello, .int .i64 d.dead, .int .i64 d.again, .int .i64 d.room, .int .i64 d.queue, .int .i64 d.tokens, .int .i64 d.refill] 28) = W0 := ⟨_, rfl⟩
  have HB0 : Hid (Below w.heap.size w W0) := Lib.hid (by rw [← hW0]; exact ((Below.refl _ _).alloc (Nat.le_refl _) _).alloc (by simp) _)
  have HX1 : Hid (Whole W0 w.heap.size 28 #[.int .i64 c.node, .int .u32 c.addr, .slice A1 c.own.length k1, .slice A2 c.ports.length k2, .int .i64 c.hello, .int .i64 c.dead, .int .i64 c.again, .int .i64 c.room, .int .i64 c.queue, .int .i64 c.tokens, .int .i64 c.refill]) := Lib.hid (by rw [← hW0]; exact (Whole.new w _ _).alloc _)
  have HX2 : Hid (Whole W0 (w.heap.size + 1) 28 #[.int .i64 d.node, .int .u32 d.addr, .slice B1 d.own.length l1, .slice B2 d.ports.length l2, .int .i64 d.hello, .int .i64 d.dead, .int .i64 d.again, .int .i64 d.room, .int .i64 d.queue, .int .i64 d.tokens, .int .i64 d.refill]) := Lib.hid (by
    rw [← hW0]
    have := Whole.new (w.alloc (.cells #[.int .i64 c.node, .int .u32 c.addr, .slice A1 c.own.length k1, .slice A2 c.ports.length k2, .int .i64 c.hello, .int .i64 c.dead, .int .i64 c.again, .int .i64 c.room, .int .i64 c.queue, .int .i64 c.tokens, .int .i64 c.refill] 28)) 28 #[.int .i64 d.node, .int .u32 d.addr, .slice B1 d.own.length l1, .slice B2 d.ports.length l2, .int .i64 d.hello, .int .i64 d.dead, .int .i64 d.again, .int .i64 d.room, .int .i64 d.queue, .int .i64 d.tokens, .int .i64 d.refill]
    simpa using this)
  have hlt1 := HX1.out.lt
  have hlt2 := HX2.out.lt
  have HW0 := Lib.hid hW0
  have E0 := Lib.hid (E.here HB0.out)
  have HA := Lib.hid hA
  clear hW0 hA E
  have HFC : Hid (∀ y : Ext W0, Calls Tryz.prog 19 #[.agg #[.int .i64 c.node, .int .u32 c.addr, .slice A1 c.own.length k1, .slice A2 c.ports.length k2, .int .i64 c.hello, .int .i64 c.dead, .int .i64 c.again, .int .i64 c.room, .int .i64 c.queue, .int .i64 c.tokens, .int .i64 c.refill]] y.w fun e w' => e = .returned (.bool (decide (c.own.length ≤ 300) && decide (c.ports.length ≤ 300))) ∧ Below y.w.heap.size y.w w') := Lib.hid (fun y => few19_any _ c y.w ((HC.out.below HB0.out).below y.below))
  have HFD : Hid (∀ y : Ext W0, Calls Tryz.prog 19 #[.agg #[.int .i64 d.node, .int .u32 d.addr, .slice B1 d.own.length l1, .slice B2 d.ports.length l2, .int .i64 d.hello, .int .i64 d.dead, .int .i64 d.again, .int .i64 d.room, .int .i64 d.queue, .int .i64 d.tokens, .int .i64 d.refill]] y.w fun e w' => e = .returned (.bool (decide (d.own.length ≤ 300) && decide (d.ports.length ≤ 300))) ∧ Below y.w.heap.size y.w w') := Lib.hid (fun y => few19_any _ d y.w ((HD.out.below HB0.out).below y.below))
  have HK : Hid (∀ y : Ext W0, Calls Tryz.prog 13 #[] y.w fun e w' => e = .returned (.bool true) ∧ Below y.w.heap.size y.w w') := Lib.hid (fun y => known19_any y.w (E0.out.here y.below))
  have y0 : W0.cell? ⟨w.heap.size, 0, none⟩ = some (.int .i64 c.node) := HX1.out.cell 0
  have y0' : W0.cell? ⟨w.heap.size + 1, 0, none⟩ = some (.int .i64 d.node) := HX2.out.cell 0
  have y1 : W0.cell? ⟨w.heap.size, 1, none⟩ = some (.int .u32 c.addr) := HX1.out.cell 1
  have y1' : W0.cell? ⟨w.heap.size + 1, 1, none⟩ = some (.int .u32 d.addr) := HX2.out.cell 1
  have y2 : W0.cell? ⟨w.heap.size, 2, none⟩ = some (.slice A1 c.own.length k1) := HX1.out.cell 2
  have y2' : W0.cell? ⟨w.heap.size + 1, 2, none⟩ = some (.slice B1 d.own.length l1) := HX2.out.cell 2
  have y3 : W0.cell? ⟨w.heap.size, 3, none⟩ = some (.slice A2 c.ports.length k2) := HX1.out.cell 3
  have y3' : W0.cell? ⟨w.heap.size + 1, 3, none⟩ = some (.slice B2 d.ports.length l2) := HX2.out.cell 3
  have y4 : W0.cell? ⟨w.heap.size, 4, none⟩ = some (.int .i64 c.hello) := HX1.out.cell 4
  have y4' : W0.cell? ⟨w.heap.size + 1, 4, none⟩ = some (.int .i64 d.hello) := HX2.out.cell 4
  have y5 : W0.cell? ⟨w.heap.size, 5, none⟩ = some (.int .i64 c.dead) := HX1.out.cell 5
  have y5' : W0.cell? ⟨w.heap.size + 1, 5, none⟩ = some (.int .i64 d.dead) := HX2.out.cell 5
  have y6 : W0.cell? ⟨w.heap.size, 6, none⟩ = some (.int .i64 c.again) := HX1.out.cell 6
  have y6' : W0.cell? ⟨w.heap.size + 1, 6, none⟩ = some (.int .i64 d.again) := HX2.out.cell 6
  have y7 : W0.cell? ⟨w.heap.size, 7, none⟩ = some (.int .i64 c.room) := HX1.out.cell 7
  have y7' : W0.cell? ⟨w.heap.size + 1, 7, none⟩ = some (.int .i64 d.room) := HX2.out.cell 7
  have y8 : W0.cell? ⟨w.heap.size, 8, none⟩ = some (.int .i64 c.queue) := HX1.out.cell 8
  have y8' : W0.cell? ⟨w.heap.size + 1, 8, none⟩ = some (.int .i64 d.queue) := HX2.out.cell 8
  have y9 : W0.cell? ⟨w.heap.size, 9, none⟩ = some (.int .i64 c.tokens) := HX1.out.cell 9
  have y9' : W0.cell? ⟨w.heap.size + 1, 9, none⟩ = some (.int .i64 d.tokens) := HX2.out.cell 9
  have y10 : W0.cell? ⟨w.heap.size, 10, none⟩ = some (.int .i64 c.refill) := HX1.out.cell 10
  have y10' : W0.cell? ⟨w.heap.size + 1, 10, none⟩ = some (.int .i64 d.refill) := HX2.out.cell 10
  cases hf : (decide (c.own.length ≤ 300) && decide (c.ports.length ≤ 300)) with
  | false =>
    rw [hf] at HFC
    clear hf
    go_enter Tryz.func6, Tryz.ntmps6
    go_upto_region 1 with fail
    rw [HW0.out]
    go_wp2_with (first
      | (go_at_call 19; with_reducible refine (ext_of (HFC.out ⟨W0, Below.refl _ _⟩)).mono ?_; rintro e w' ⟨rfl, y, rfl⟩)
      | (go_at_call 13; refine (Ext.call (HK.out y)).mono ?_; rintro e w' ⟨rfl, z, rfl⟩))
    go_ret
    exact ⟨by rfl, HB0.out.trans (z.below.mono HB0.out.size)⟩
  | true =>
    rw [hf] at HFC
    simp only [Bool.and_eq_true, decide_eq_true_eq] at hf
    obtain ⟨hl, hp⟩ := hf
    cases hg : (decide (d.own.length ≤ 300) && decide (d.ports.length ≤ 300)) with
    | false =>
      rw [hg] at HFD
      clear hg
      go_enter Tryz.func6, Tryz.ntmps6
      go_upto_region 1 with fail
      rw [HW0.out]
      go_wp2_with fail
      refine (ext_of (HFC.out ⟨W0, Below.refl _ _⟩)).mono ?_
      rintro e w' ⟨rfl, y, rfl⟩
      go_wp2_with fail
      refine (Ext.call (HFD.out y)).mono ?_
      rintro e w' ⟨rfl, y2, rfl⟩
      go_wp2_with (go_at_call 13; refine (Ext.call (HK.out y2)).mono ?_; rintro e w' ⟨rfl, z, rfl⟩)
      go_ret
      exact ⟨by rfl, HB0.out.trans (z.below.mono HB0.out.size)⟩
    | true =>
      rw [hg] at HFD
      simp only [Bool.and_eq_true, decide_eq_true_eq] at hg
      obtain ⟨hl', hp'⟩ := hg
      obtain ⟨tx, te, ht, hrt⟩ : ∃ (tx : List UInt8) (te : Int), (∀ W, Below W0.heap.size W0 W → Calls Tryz.prog 22 #[.agg #[.int .i64 c.node, .int .u32 c.addr, .slice A1 c.own.length k1, .slice A2 c.ports.length k2, .int .i64 c.hello, .int .i64 c.dead, .int .i64 c.again, .int .i64 c.room, .int .i64 c.queue, .int .i64 c.tokens, .int .i64 c.refill]] W fun e w' => e = .returned (.tuple #[.string (str tx), .int .i64 te]) ∧ Below W.heap.size W w') ∧ ((mayC c = true ∧ tx = textP c ∧ te = 0) ∨ (mayC c = false ∧ tx = [] ∧ te = 2)) := by
        cases hm : mayC c with
        | true => exact ⟨textP c, 0, fun W hb => ctext_yes _ c W ((HC.out.below HB0.out).below hb) HA.out hm (E0.out.here hb), .inl ⟨rfl, rfl, rfl⟩⟩
        | false => exact ⟨[], 2, fun W hb => ctext_no _ c W ((HC.out.below HB0.out).below hb) HA.out (by omega) (by omega) hm, .inr ⟨rfl, rfl, rfl⟩⟩
      have HT := Lib.hid ht
      have HRT := Lib.hid hrt
      clear ht hrt
      go_enter Tryz.func6, Tryz.ntmps6
      go_upto_region 1 with fail
      rw [HW0.out]
      go_wp2_with fail
      refine (ext_of (HFC.out ⟨W0, Below.refl _ _⟩)).mono ?_
      rintro e w' ⟨rfl, y, rfl⟩
      go_wp2_with fail
      refine (Ext.call (HFD.out y)).mono ?_
      rintro e w' ⟨rfl, y2, rfl⟩
      go_wp2_with fail
      refine (Ext.call (HT.out y2.w y2.below)).mono ?_
      rintro e w' ⟨rfl, y3, rfl⟩
      obtain ⟨W3, hW3⟩ : ∃ W3, y3.w = W3 := ⟨_, rfl⟩
      have HB3 : Hid (Below W0.heap.size W0 W3) := Lib.hid (by rw [← hW3]; exact y3.below)
      rw [hW3]
      have HBW := Lib.hid (HB0.out.trans (HB3.out.mono HB0.out.size))
      have HC3 := Lib.hid ((HC.out.below HB0.out).below HB3.out)
      have HD3 := Lib.hid ((HD.out.below HB0.out).below HB3.out)
      have E3 := Lib.hid (E0.out.here HB3.out)
      have HZ1 := Lib.hid (HX1.out.here HB3.out)
      have HZ2 := Lib.hid (HX2.out.here HB3.out)
      have hz := HB3.out.size
      have hlt31 : w.heap.size < W3.heap.size := by omega
      have hlt32 : w.heap.size + 1 < W3.heap.size := by omega
      clear hW3 HFC HFD HT HK HC HD HX1 HX2 HW0 y0 y0' y1 y1' y2 y2' y3 y3' y4 y4' y5 y5' y6 y6' y7 y7' y8 y8' y9 y9' y10 y10'
      have y0 : W3.cell? ⟨w.heap.size, 0, none⟩ = some (.int .i64 c.node) := HZ1.out.cell 0
      have y0' : W3.cell? ⟨w.heap.size + 1, 0, none⟩ = some (.int .i64 d.node) := HZ2.out.cell 0
      have y1 : W3.cell? ⟨w.heap.size, 1, none⟩ = some (.int .u32 c.addr) := HZ1.out.cell 1
      have y1' : W3.cell? ⟨w.heap.size + 1, 1, none⟩ = some (.int .u32 d.addr) := HZ2.out.cell 1
      have y2 : W3.cell? ⟨w.heap.size, 2, none⟩ = some (.slice A1 c.own.length k1) := HZ1.out.cell 2
      have y2' : W3.cell? ⟨w.heap.size + 1, 2, none⟩ = some (.slice B1 d.own.length l1) := HZ2.out.cell 2
      have y3 : W3.cell? ⟨w.heap.size, 3, none⟩ = some (.slice A2 c.ports.length k2) := HZ1.out.cell 3
      have y3' : W3.cell? ⟨w.heap.size + 1, 3, none⟩ = some (.slice B2 d.ports.length l2) := HZ2.out.cell 3
      have y4 : W3.cell? ⟨w.heap.size, 4, none⟩ = some (.int .i64 c.hello) := HZ1.out.cell 4
      have y4' : W3.cell? ⟨w.heap.size + 1, 4, none⟩ = some (.int .i64 d.hello) := HZ2.out.cell 4
      have y5 : W3.cell? ⟨w.heap.size, 5, none⟩ = some (.int .i64 c.dead) := HZ1.out.cell 5
      have y5' : W3.cell? ⟨w.heap.size + 1, 5, none⟩ = some (.int .i64 d.dead) := HZ2.out.cell 5
      have y6 : W3.cell? ⟨w.heap.size, 6, none⟩ = some (.int .i64 c.again) := HZ1.out.cell 6
      have y6' : W3.cell? ⟨w.heap.size + 1, 6, none⟩ = some (.int .i64 d.again) := HZ2.out.cell 6
      have y7 : W3.cell? ⟨w.heap.size, 7, none⟩ = some (.int .i64 c.room) := HZ1.out.cell 7
      have y7' : W3.cell? ⟨w.heap.size + 1, 7, none⟩ = some (.int .i64 d.room) := HZ2.out.cell 7
      have y8 : W3.cell? ⟨w.heap.size, 8, none⟩ = some (.int .i64 c.queue) := HZ1.out.cell 8
      have y8' : W3.cell? ⟨w.heap.size + 1, 8, none⟩ = some (.int .i64 d.queue) := HZ2.out.cell 8
      have y9 : W3.cell? ⟨w.heap.size, 9, none⟩ = some (.int .i64 c.tokens) := HZ1.out.cell 9
      have y9' : W3.cell? ⟨w.heap.size + 1, 9, none⟩ = some (.int .i64 d.tokens) := HZ2.out.cell 9
      have y10 : W3.cell? ⟨w.heap.size, 10, none⟩ = some (.int .i64 c.refill) := HZ1.out.cell 10
      have y10' : W3.cell? ⟨w.heap.size + 1, 10, none⟩ = some (.int .i64 d.refill) := HZ2.out.cell 10
      have HK : Hid (∀ y : Ext W3, Calls Tryz.prog 13 #[] y.w fun e w' => e = .returned (.bool true) ∧ Below y.w.heap.size y.w w') := Lib.hid (fun y => known19_any y.w (E3.out.here y.below))
      have HM : Hid (∀ y : Ext W3, Calls Tryz.prog 23 #[.agg #[.int .i64 c.node, .int .u32 c.addr, .slice A1 c.own.length k1, .slice A2 c.ports.length k2, .int .i64 c.hello, .int .i64 c.dead, .int .i64 c.again, .int .i64 c.room, .int .i64 c.queue, .int .i64 c.tokens, .int .i64 c.refill]] y.w fun e w' => e = .returned (.bool (mayC c)) ∧ Below y.w.heap.size y.w w') := Lib.hid (fun y => may_any' _ c y.w (HC3.out.below y.below) HA.out (by omega) (by omega))
      have HRM : Hid (∀ y : Ext W3, Calls Tryz.prog 20 #[.agg #[.int .i64 c.node, .int .u32 c.addr, .slice A1 c.own.length k1, .slice A2 c.ports.length k2, .int .i64 c.hello, .int .i64 c.dead, .int .i64 c.again, .int .i64 c.room, .int .i64 c.queue, .int .i64 c.tokens, .int .i64 c.refill]] y.w fun e w' => e = .returned (.bool (mayC c)) ∧ Below y.w.heap.size y.w w') := Lib.hid (fun y => rmay19 _ c y.w (HC3.out.below y.below) HA.out (by omega) (by omega))
      have HO : Hid (∀ y : Ext W3, Calls Tryz.prog 24 #[.agg #[.int .i64 c.node, .int .u32 c.addr, .slice A1 c.own.length k1, .slice A2 c.ports.length k2, .int .i64 c.hello, .int .i64 c.dead, .int .i64 c.again, .int .i64 c.room, .int .i64 c.queue, .int .i64 c.tokens, .int .i64 c.refill], .int .u32 a] y.w fun e w' => e = .returned (.bool (mayC c && hasAny c.own a)) ∧ Below y.w.heap.size y.w w') := Lib.hid (fun y => owns_any _ c a y.w (HC3.out.below y.below) HA.out ha (by omega) (by omega))
      have HRO : Hid (∀ y : Ext W3, Calls Tryz.prog 25 #[.agg #[.int .i64 c.node, .int .u32 c.addr, .slice A1 c.own.length k1, .slice A2 c.ports.length k2, .int .i64 c.hello, .int .i64 c.dead, .int .i64 c.again, .int .i64 c.room, .int .i64 c.queue, .int .i64 c.tokens, .int .i64 c.refill], .int .u32 a] y.w fun e w' => e = .returned (.bool (mayC c && hasAny c.own a)) ∧ Below y.w.heap.size y.w w') := Lib.hid (fun y => rowns_any _ c a y.w (HC3.out.below y.below) HA.out ha (by omega) (by omega))
      have HS : Hid (∀ y : Ext W3, Calls Tryz.prog 26 #[.agg #[.int .i64 c.node, .int .u32 c.addr, .slice A1 c.own.length k1, .slice A2 c.ports.length k2, .int .i64 c.hello, .int .i64 c.dead, .int .i64 c.again, .int .i64 c.room, .int .i64 c.queue, .int .i64 c.tokens, .int .i64 c.refill], .agg #[.int .i64 d.node, .int .u32 d.addr, .slice B1 d.own.length l1, .slice B2 d.ports.length l2, .int .i64 d.hello, .int .i64 d.dead, .int .i64 d.again, .int .i64 d.room, .int .i64 d.queue, .int .i64 d.tokens, .int .i64 d.refill]] y.w fun e w' => e = .returned (.bool (sameC c d)) ∧ Below y.w.heap.size y.w w') := Lib.hid (fun y => csame_any _ _ c d y.w (HC3.out.below y.below) (HD3.out.below y.below) (by omega) (by omega) (by omega) (by omega))
      have HRS : Hid (∀ y : Ext W3, Calls Tryz.prog 16 #[.agg #[.int .i64 c.node, .int .u32 c.addr, .slice A1 c.own.length k1, .slice A2 c.ports.length k2, .int .i64 c.hello, .int .i64 c.dead, .int .i64 c.again, .int .i64 c.room, .int .i64 c.queue, .int .i64 c.tokens, .int .i64 c.refill], .agg #[.int .i64 d.node, .int .u32 d.addr, .slice B1 d.own.length l1, .slice B2 d.ports.length l2, .int .i64 d.hello, .int .i64 d.dead, .int .i64 d.again, .int .i64 d.room, .int .i64 d.queue, .int .i64 d.tokens, .int .i64 d.refill]] y.w fun e w' => e = .returned (.bool (sameC c d)) ∧ Below y.w.heap.size y.w w') := Lib.hid (fun y => rsame_any _ _ c d y.w (HC3.out.below y.below) (HD3.out.below y.below) (by omega) (by omega) (by omega) (by omega))
      have HSS : Hid (∀ y : Ext W3, Calls Tryz.prog 26 #[.agg #[.int .i64 c.node, .int .u32 c.addr, .slice A1 c.own.length k1, .slice A2 c.ports.length k2, .int .i64 c.hello, .int .i64 c.dead, .int .i64 c.again, .int .i64 c.room, .int .i64 c.queue, .int .i64 c.tokens, .int .i64 c.refill], .agg #[.int .i64 c.node, .int .u32 c.addr, .slice A1 c.own.length k1, .slice A2 c.ports.length k2, .int .i64 c.hello, .int .i64 c.dead, .int .i64 c.again, .int .i64 c.room, .int .i64 c.queue, .int .i64 c.tokens, .int .i64 c.refill]] y.w fun e w' => e = .returned (.bool true) ∧ Below y.w.heap.size y.w w') := Lib.hid (fun y => by
        have := csame_any _ _ c c y.w (HC3.out.below y.below) (HC3.out.below y.below) (by omega) (by omega) (by omega) (by omega)
        rw [sameC_self] at this
        exact this)
      have HON : Hid (∀ (y : Ext W3) (k : Int), Calls Tryz.prog 27 #[.agg #[.int .i64 c.node, .int .u32 c.addr, .slice A1 c.own.length k1, .slice A2 c.ports.length k2, .int .i64 c.hello, .int .i64 c.dead, .int .i64 c.again, .int .i64 c.room, .int .i64 c.queue, .int .i64 c.tokens, .int .i64 c.refill], .int .i64 k] y.w fun e w' => e = .returned (.bool true) ∧ Below y.w.heap.size y.w w') := Lib.hid (fun y k => once_any _ c k y.w (HC3.out.below y.below) HA.out (by omega) (by omega) (E3.out.here y.below))
      generalize hq1 : (mayC c && hasAny c.own a) = b1 at HO HRO
      generalize hq2 : sameC c d = b2 at HS HRS
      generalize hq3 : mayC c = b3 at HM HRM
      have HQ3 := Lib.hid hq3
      clear hq1 hq2 hq3
      have t1 : (b1 != b1) = false := by cases b1 <;> rfl
      have t2 : (b2 != b2) = false := by cases b2 <;> rfl
      have t3 : (b3 != b3) = false := by cases b3 <;> rfl
      go_upto_region 4 with fail
      refine wp_region_ext (by kernel_rfl) (by kernel_rfl) ?_
      repeat (go_big_quiet_step (first
        | (go_at_call 23; exact Ext.call (HM.out _))
        | (go_at_call 20; exact Ext.call (HRM.out _))
        | (go_at_call 24; exact Ext.call (HO.out _))
        | (go_at_call 25; exact Ext.call (HRO.out _))
        | (go_at_call 26; with_reducible exact Ext.call (HS.out _))
        | (go_at_call 26; with_reducible exact Ext.call (HSS.out _))
        | (go_at_call 16; exact Ext.call (HRS.out _))
        | (go_at_call 27; exact Ext.call (HON.out _ _))))
      refine wpQuiet_nil ?_
      rintro _ ⟨z, rfl⟩
      rcases HRT.out with ⟨hm, rfl, rfl⟩ | ⟨hm, rfl, rfl⟩
      · obtain rfl : b3 = true := by rw [← HQ3.out]; exact hm
        have HRX : Hid (∀ y : Ext W3, Calls Tryz.prog 28 #[.agg #[.int .i64 c.node, .int .u32 c.addr, .slice A1 c.own.length k1, .slice A2 c.ports.length k2, .int .i64 c.hello, .int .i64 c.dead, .int .i64 c.again, .int .i64 c.room, .int .i64 c.queue, .int .i64 c.tokens, .int .i64 c.refill]] y.w fun e w' => e = .returned (.string (str (textP c))) ∧ Below y.w.heap.size y.w w') := Lib.hid (fun y => rtext19 _ c y.w (HC3.out.below y.below) HA.out hm (E3.out.here y.below))
        clear hm HO HRO HS HRS HSS HON HM
        go_wp2_with (first
          | (go_at_call 20; refine (Ext.call (HRM.out z)).mono ?_; rintro e w' ⟨rfl, z2, rfl⟩)
          | (go_at_call 28; refine (Ext.call (HRX.out z2)).mono ?_; rintro e w' ⟨rfl, z3, rfl⟩)
          | (go_at_call 17; refine (num19_any _ _).mono ?_; rintro e w' ⟨rfl, rfl⟩)
          | (go_at_call 13; refine (Ext.call (HK.out z3)).mono ?_; rintro e w' ⟨rfl, z4, rfl⟩))
        go_ret
        exact ⟨by rfl, HBW.out.trans (z4.below.mono HBW.out.size)⟩
      · obtain rfl : b3 = false := by rw [← HQ3.out]; exact hm
        have s0 : (str ([] : List UInt8)).toList = [] := str_toList []
        have s1 : ((str ([] : List UInt8)).toList == []) = true := by rw [str_toList]; rfl
        have s2 : (str ([] : List UInt8)).toList.isEmpty = true := by rw [str_toList]; rfl
        clear hm HO HRO HS HRS HSS HON HM
        go_wp2_with (first
          | (go_at_call 20; refine (Ext.call (HRM.out z)).mono ?_; rintro e w' ⟨rfl, z2, rfl⟩)
          | (go_at_call 17; refine (num19_any _ _).mono ?_; rintro e w' ⟨rfl, rfl⟩)
          | (go_at_call 13; refine (Ext.call (HK.out z2)).mono ?_; rintro e w' ⟨rfl, z4, rfl⟩))
        go_ret
        exact ⟨by rfl, HBW.out.trans (z4.below.mono HBW.out.size)⟩
end Go.Proofs.YtfbangojgjcbcaaGreatDoor
