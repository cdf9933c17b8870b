/- ScriptActs answers true for any act, any text and any number, and leaves its arguments as they were. Conditions: those of the given card (the listed package-level variables hold what the program's text lays). -/
import Derived.Test.YtfbangojgjcbcaaGreatDoorSA03
import Derived.Test.YtfbangojgjcbcaaGreatDoorSA06
import Derived.Test.YtfbangojgjcbcaaGreatDoorSA08
namespace Go.Proofs.YtfbangojgjcbcaaGreatDoor
open Go.RowKit Pl
theorem sameA_self (a : ActP) : sameA a a = true := by unfold sameA; simp
theorem cActText_off (a : ActP) (bv : Value) (w : World) (h : Bs w bv a.bytes) (hm : mayA a = false) (hl : a.bytes.length ≤ 1000000000) :
    Calls Tryz.prog 30 #[actV a bv] w fun e w' => e = .returned (.tuple #[.string ⟨#[]⟩, .int .i64 2]) ∧ Below w.heap.size w w' := cActText_no a bv w h hm hl
def ActOfR' (r : Option ActP) (e : Ending) (w' : World) : Prop := match r with
  | some a => ∃ bv, e = .returned (.tuple #[actV a bv, .bool true]) ∧ Bs w' bv a.bytes
  | none => e = .returned (.tuple #[actV { kind := 0 } (.slice none 0 0), .bool false])
set_option maxRecDepth 100000 in
set_option maxHeartbeats 2000000 in
theorem scriptActs_long (a : ActP) (bv : Value) (s : List UInt8) (leave : Int) (w : World) (hb : Bs w bv a.bytes) (E : Env w) (h : 5000 < a.bytes.length ∨ 20000 < s.length) :
    Calls Tryz.prog 8 #[actV a bv, .string (str s), .int .i64 leave] w fun e w' => e = .returned (.bool true) ∧ Below w.heap.size w w' := by
  have hsz := str_size s
  obtain ⟨A, c, rfl, -⟩ := id hb
  obtain ⟨W0, hW0⟩ : ∃ W0, w.alloc (.cells #[.int .i64 a.kind, .int .i64 a.node, .int .i64 a.port, .int .i64 a.cost, .int .i64 a.n, .bool a.up, .int .u8 (a.by_.toNat : Int), .bool a.unread, .slice A a.bytes.length c] 51) = W0 := ⟨_, rfl⟩
  have HB0 : Hid (Below w.heap.size w W0) := Lib.hid (by rw [← hW0]; exact (Below.refl _ _).alloc (Nat.le_refl _) _)
  have HX0 : Hid (Whole W0 w.heap.size 51 #[.int .i64 a.kind, .int .i64 a.node, .int .i64 a.port, .int .i64 a.cost, .int .i64 a.n, .bool a.up, .int .u8 (a.by_.toNat : Int), .bool a.unread, .slice A a.bytes.length c]) := Lib.hid (by rw [← hW0]; exact Whole.new w _ _)
  have HW0 := Lib.hid hW0
  have E0 := Lib.hid (E.here HB0.out)
  have v8 : W0.cell? ⟨w.heap.size, 8, none⟩ = some (.slice A a.bytes.length c) := HX0.out.cell 8
  have vl : w.heap.size < W0.heap.size := HX0.out.lt
  clear hW0 E hb
  by_cases h5 : 5000 < a.bytes.length
  · have h5' : decide ((5000 : Int) < (a.bytes.length : Int)) = true := decide_eq_true (by omega)
    clear h5 h hsz
    go_enter Tryz.func8, Tryz.ntmps8
    go_upto_region 1 with fail
    rw [HW0.out]
    go_wp2_with fail
    refine (known25_any _ E0.out).mono ?_
    rintro e w' ⟨rfl, hb⟩
    go_wp2
    go_ret
    exact ⟨by rfl, HB0.out.trans (hb.mono HB0.out.size)⟩
  · have h5' : decide ((5000 : Int) < (a.bytes.length : Int)) = false := decide_eq_false (by omega)
    have h2' : decide ((20000 : Int) < ((str s).size : Int)) = true := decide_eq_true (by rw [hsz]; omega)
    clear h5 h hsz
    go_enter Tryz.func8, Tryz.ntmps8
    go_upto_region 1 with fail
    rw [HW0.out]
    go_wp2_with fail
    refine (known25_any _ E0.out).mono ?_
    rintro e w' ⟨rfl, hb⟩
    go_wp2
    go_ret
    exact ⟨by rfl, HB0.out.trans (hb.mono HB0.out.size)⟩
set_option maxRecDepth 100000 in
set_option maxHeartbeats 8000000 in
theorem scriptActs_yes_act (a : ActP) (bv : Value) (s : List UInt8) (leave : Int) (m : ActP) (w : World) (hb : Bs w bv a.bytes) (ia : InA a) (E : Env w) (hl : a.bytes.length ≤ 5000) (hs : s.length ≤ 20000) (hm : mayA a = true) (ha : actC s = some m) :
    Calls Tryz.prog 8 #[actV a bv, .string (str s), .int .i64 leave] w fun e w' => e = .returned (.bool true) ∧ Below w.heap.size w w' := by
  have hsz := str_size s
  obtain ⟨A, c, rfl, -⟩ := id hb
  obtain ⟨W0, hW0⟩ : ∃ W0, w.alloc (.cells #[.int .i64 a.kind, .int .i64 a.node, .int .i64 a.port, .int .i64 a.cost, .int .i64 a.n, .bool a.up, .int .u8 (a.by_.toNat : Int), .bool a.unread, .slice A a.bytes.length c] 51) = W0 := ⟨_, rfl⟩
  have HB0 : Hid (Below w.heap.size w W0) := Lib.hid (by rw [← hW0]; exact (Below.refl _ _).alloc (Nat.le_refl _) _)
  have HX0 : Hid (Whole W0 w.heap.size 51 #[.int .i64 a.kind, .int .i64 a.node, .int .i64 a.port, .int .i64 a.cost, .int .i64 a.n, .bool a.up, .int .u8 (a.by_.toNat : Int), .bool a.unread, .slice A a.bytes.length c]) := Lib.hid (by rw [← hW0]; exact Whole.new w _ _)
  have HW0 := Lib.hid hW0
  have E0 := Lib.hid (E.here HB0.out)
  have HBV : Hid (∀ W, Below w.heap.size w W → Bs W (.slice A a.bytes.length c) a.bytes) := Lib.hid (fun W h => hb.below h)
  have h5' : decide ((5000 : Int) < (a.bytes.length : Int)) = false := decide_eq_false (by omega)
  have h2' : decide ((20000 : Int) < ((str s).size : Int)) = false := decide_eq_false (by rw [hsz]; omega)
  have HCM := Lib.hid (fun W (h : Below w.heap.size w W) => cmayAct_any a _ W (HBV.out W h) (by omega))
  have HRM := Lib.hid (fun W (h : Below w.heap.size w W) => rmayAct_any a _ W (HBV.out W h))
  have HCO := Lib.hid (fun W (EW : Env W) => cactOf_any s W (by omega) EW)
  have HRO := Lib.hid (fun W (EW : Env W) => ractOf_any s W (by omega) EW)
  rw [ha] at HCO
  have hro : ∀ e w', ActOfR s e w' ↔ ActOfR' (actC s) e w' := fun e w' => by unfold ActOfR ActOfR'; rw [act_same s]; cases actC s <;> exact Iff.rfl
  simp only [hro, ha] at HRO
  rw [hm] at HCM HRM
  have hk : K9 a := by unfold mayA at hm; simp only [Bool.and_eq_true, decide_eq_true_eq] at hm; exact ⟨hm.1.1.1, hm.1.1.2⟩
  have hl8 : a.bytes.length ≤ 2048 := by unfold mayA at hm; simp only [Bool.and_eq_true, decide_eq_true_eq] at hm; exact hm.2
  have HCT := Lib.hid (cActText_yes a _ W0 (HBV.out W0 HB0.out) ia hm (by omega) E0.out)
  have HRT := Lib.hid (fun W (h : Below w.heap.size w W) (EW : Env W) => ractText_any a _ W hk (HBV.out W h) ia hl8 EW)
  clear hk hl8
  clear hW0 E hb ia hl hs hm ha hsz hro
  have v0 : W0.cell? ⟨w.heap.size, 0, none⟩ = some (.int .i64 a.kind) := HX0.out.cell 0
  have v1 : W0.cell? ⟨w.heap.size, 1, none⟩ = some (.int .i64 a.node) := HX0.out.cell 1
  have v2 : W0.cell? ⟨w.heap.size, 2, none⟩ = some (.int .i64 a.port) := HX0.out.cell 2
  have v3 : W0.cell? ⟨w.heap.size, 3, none⟩ = some (.int .i64 a.cost) := HX0.out.cell 3
  have v4 : W0.cell? ⟨w.heap.size, 4, none⟩ = some (.int .i64 a.n) := HX0.out.cell 4
  have v5 : W0.cell? ⟨w.heap.size, 5, none⟩ = some (.bool a.up) := HX0.out.cell 5
  have v6 : W0.cell? ⟨w.heap.size, 6, none⟩ = some (.int .u8 (a.by_.toNat : Int)) := HX0.out.cell 6
  have v7 : W0.cell? ⟨w.heap.size, 7, none⟩ = some (.bool a.unread) := HX0.out.cell 7
  have v8 : W0.cell? ⟨w.heap.size, 8, none⟩ = some (.slice A a.bytes.length c) := HX0.out.cell 8
  have vl : w.heap.size < W0.heap.size := HX0.out.lt
  go_enter Tryz.func8, Tryz.ntmps8
  go_upto_region 1 with fail
  rw [HW0.out]
  go_wp2_with fail
  refine HCT.out.mono ?_
  rintro e w1 ⟨rfl, hb1⟩
  have HB1 := Lib.hid (HB0.out.trans (hb1.mono HB0.out.size))
  have HX1 := Lib.hid (HX0.out.here hb1)
  have E1 := Lib.hid (E0.out.here hb1)
  clear hb1 HCT
  clear v0 v1 v2 v3 v4 v5 v6 v7 v8 vl
  have v0 : w1.cell? ⟨w.heap.size, 0, none⟩ = some (.int .i64 a.kind) := HX1.out.cell 0
  have v1 : w1.cell? ⟨w.heap.size, 1, none⟩ = some (.int .i64 a.node) := HX1.out.cell 1
  have v2 : w1.cell? ⟨w.heap.size, 2, none⟩ = some (.int .i64 a.port) := HX1.out.cell 2
  have v3 : w1.cell? ⟨w.heap.size, 3, none⟩ = some (.int .i64 a.cost) := HX1.out.cell 3
  have v4 : w1.cell? ⟨w.heap.size, 4, none⟩ = some (.int .i64 a.n) := HX1.out.cell 4
  have v5 : w1.cell? ⟨w.heap.size, 5, none⟩ = some (.bool a.up) := HX1.out.cell 5
  have v6 : w1.cell? ⟨w.heap.size, 6, none⟩ = some (.int .u8 (a.by_.toNat : Int)) := HX1.out.cell 6
  have v7 : w1.cell? ⟨w.heap.size, 7, none⟩ = some (.bool a.unread) := HX1.out.cell 7
  have v8 : w1.cell? ⟨w.heap.size, 8, none⟩ = some (.slice A a.bytes.length c) := HX1.out.cell 8
  have vl : w.heap.size < w1.heap.size := HX1.out.lt
  have HY1 : Hid (∀ y : Ext w1, Below w.heap.size w y.w) := Lib.hid (fun y => HB1.out.trans (y.below.mono HB1.out.size))
  go_wp2
  refine wp_region_ext (by kernel_rfl) (by kernel_rfl) ?_
  repeat (go_big_quiet_step (first | (go_at_call 31; exact Ext.call (HCM.out _ (HY1.out _))) | (go_at_call 32; exact Ext.call (HRM.out _ (HY1.out _))) | (go_at_call 33; exact Ext.call (pass_any _ _ (Ext.env _ E1.out)))))
  refine wpQuiet_nil ?_
  rintro _ ⟨y, rfl⟩
  have HB2 := Lib.hid (HY1.out y)
  have HX2 := Lib.hid (HX1.out.here y.below)
  have E2 := Lib.hid (E1.out.here y.below)
  obtain ⟨W2, hW2⟩ : ∃ W2, y.w = W2 := ⟨_, rfl⟩
  rw [hW2] at HB2 HX2 E2 ⊢
  clear hW2 y HY1
  clear v0 v1 v2 v3 v4 v5 v6 v7 v8 vl
  have v0 : W2.cell? ⟨w.heap.size, 0, none⟩ = some (.int .i64 a.kind) := HX2.out.cell 0
  have v1 : W2.cell? ⟨w.heap.size, 1, none⟩ = some (.int .i64 a.node) := HX2.out.cell 1
  have v2 : W2.cell? ⟨w.heap.size, 2, none⟩ = some (.int .i64 a.port) := HX2.out.cell 2
  have v3 : W2.cell? ⟨w.heap.size, 3, none⟩ = some (.int .i64 a.cost) := HX2.out.cell 3
  have v4 : W2.cell? ⟨w.heap.size, 4, none⟩ = some (.int .i64 a.n) := HX2.out.cell 4
  have v5 : W2.cell? ⟨w.heap.size, 5, none⟩ = some (.bool a.up) := HX2.out.cell 5
  have v6 : W2.cell? ⟨w.heap.size, 6, none⟩ = some (.int .u8 (a.by_.toNat : Int)) := HX2.out.cell 6
  have v7 : W2.cell? ⟨w.heap.size, 7, none⟩ = some (.bool a.unread) := HX2.out.cell 7
  have v8 : W2.cell? ⟨w.heap.size, 8, none⟩ = some (.slice A a.bytes.length c) := HX2.out.cell 8
  have vl : w.heap.size < W2.heap.size := HX2.out.lt
  go_wp2_with fail
  refine (HRM.out _ HB2.out).mono ?_
  rintro e w3 ⟨rfl, hb3⟩
  have HB3 := Lib.hid (HB2.out.trans (hb3.mono HB2.out.size))
  have HX3 := Lib.hid (HX2.out.here hb3)
  have E3 := Lib.hid (E2.out.here hb3)
  clear hb3
  clear v0 v1 v2 v3 v4 v5 v6 v7 v8 vl
  have v0 : w3.cell? ⟨w.heap.size, 0, none⟩ = some (.int .i64 a.kind) := HX3.out.cell 0
  have v1 : w3.cell? ⟨w.heap.size, 1, none⟩ = some (.int .i64 a.node) := HX3.out.cell 1
  have v2 : w3.cell? ⟨w.heap.size, 2, none⟩ = some (.int .i64 a.port) := HX3.out.cell 2
  have v3 : w3.cell? ⟨w.heap.size, 3, none⟩ = some (.int .i64 a.cost) := HX3.out.cell 3
  have v4 : w3.cell? ⟨w.heap.size, 4, none⟩ = some (.int .i64 a.n) := HX3.out.cell 4
  have v5 : w3.cell? ⟨w.heap.size, 5, none⟩ = some (.bool a.up) := HX3.out.cell 5
  have v6 : w3.cell? ⟨w.heap.size, 6, none⟩ = some (.int .u8 (a.by_.toNat : Int)) := HX3.out.cell 6
  have v7 : w3.cell? ⟨w.heap.size, 7, none⟩ = some (.bool a.unread) := HX3.out.cell 7
  have v8 : w3.cell? ⟨w.heap.size, 8, none⟩ = some (.slice A a.bytes.length c) := HX3.out.cell 8
  have vl : w.heap.size < w3.heap.size := HX3.out.lt
  go_wp2_with fail
  refine (HRT.out _ HB3.out E3.out).mono ?_
  rintro e w4 ⟨rfl, hb4⟩
  have HB4 := Lib.hid (HB3.out.trans (hb4.mono HB3.out.size))
  have E4 := Lib.hid (E3.out.here hb4)
  clear hb4
  clear v0 v1 v2 v3 v4 v5 v6 v7 v8 vl
  go_wp2_with (go_at_call 35; refine (num25_any _ _).mono ?_; rintro e w' ⟨rfl, rfl⟩)
  refine (HCO.out _ E4.out).mono ?_
  rintro e w5 ⟨⟨bx, rfl, hbx⟩, hb5⟩
  obtain ⟨A1, c1, rfl, -⟩ := id hbx
  have HBX := Lib.hid hbx
  clear hbx
  have HB5 := Lib.hid (HB4.out.trans (hb5.mono HB4.out.size))
  have E5 := Lib.hid (E4.out.here hb5)
  clear hb5
  obtain ⟨W5, hW5⟩ : ∃ W5, w5.alloc (.cells #[.int .i64 m.kind, .int .i64 m.node, .int .i64 m.port, .int .i64 m.cost, .int .i64 m.n, .bool m.up, .int .u8 (m.by_.toNat : Int), .bool m.unread, .slice A1 m.bytes.length c1] 51) = W5 := ⟨_, rfl⟩
  have HX5 : Hid (Whole W5 w5.heap.size 51 #[.int .i64 m.kind, .int .i64 m.node, .int .i64 m.port, .int .i64 m.cost, .int .i64 m.n, .bool m.up, .int .u8 (m.by_.toNat : Int), .bool m.unread, .slice A1 m.bytes.length c1]) := Lib.hid (by rw [← hW5]; exact Whole.new w5 _ _)
  have HB6 : Hid (Below w.heap.size w W5) := Lib.hid (by rw [← hW5]; exact HB5.out.alloc HB5.out.size _)
  have E6 : Hid (Env W5) := Lib.hid (by rw [← hW5]; exact E5.out.alloc _)
  have HBX6 : Hid (Bs W5 (.slice A1 m.bytes.length c1) m.bytes) := Lib.hid (by rw [← hW5]; exact HBX.out.alloc _)
  have HW5 := Lib.hid hW5
  clear hW5
  go_wp2_with fail
  rw [HW5.out]
  refine (HRO.out _ E6.out).mono ?_
  rintro e w6 ⟨⟨by_, rfl, hby⟩, hb6⟩
  obtain ⟨A2, c2, rfl, -⟩ := id hby
  have HBY := Lib.hid hby
  have HBX7 := Lib.hid (HBX6.out.below hb6)
  clear hby
  have HB7 := Lib.hid (HB6.out.trans (hb6.mono HB6.out.size))
  have E7 := Lib.hid (E6.out.here hb6)
  have HX7 := Lib.hid (HX5.out.here hb6)
  clear hb6
  obtain ⟨W7, hW7⟩ : ∃ W7, w6.alloc (.cells #[.int .i64 m.kind, .int .i64 m.node, .int .i64 m.port, .int .i64 m.cost, .int .i64 m.n, .bool m.up, .int .u8 (m.by_.toNat : Int), .bool m.unread, .slice A2 m.bytes.length c2] 51) = W7 := ⟨_, rfl⟩
  have HX8 : Hid (Whole W7 w5.heap.size 51 #[.int .i64 m.kind, .int .i64 m.node, .int .i64 m.port, .int .i64 m.cost, .int .i64 m.n, .bool m.up, .int .u8 (m.by_.toNat : Int), .bool m.unread, .slice A1 m.bytes.length c1]) := Lib.hid (by rw [← hW7]; exact HX7.out.alloc _)
  have HX9 : Hid (Whole W7 w6.heap.size 51 #[.int .i64 m.kind, .int .i64 m.node, .int .i64 m.port, .int .i64 m.cost, .int .i64 m.n, .bool m.up, .int .u8 (m.by_.toNat : Int), .bool m.unread, .slice A2 m.bytes.length c2]) := Lib.hid (by rw [← hW7]; exact Whole.new w6 _ _)
  have HB8 : Hid (Below w.heap.size w W7) := Lib.hid (by rw [← hW7]; exact HB7.out.alloc HB7.out.size _)
  have E8 : Hid (Env W7) := Lib.hid (by rw [← hW7]; exact E7.out.alloc _)
  have HSA : Hid (Calls Tryz.prog 38 #[.agg #[.int .i64 m.kind, .int .i64 m.node, .int .i64 m.port, .int .i64 m.cost, .int .i64 m.n, .bool m.up, .int .u8 (m.by_.toNat : Int), .bool m.unread, .slice A1 m.bytes.length c1], .agg #[.int .i64 m.kind, .int .i64 m.node, .int .i64 m.port, .int .i64 m.cost, .int .i64 m.n, .bool m.up, .int .u8 (m.by_.toNat : Int), .bool m.unread, .slice A2 m.bytes.length c2]] W7 fun e w' => e = .returned (.bool true) ∧ Below W7.heap.size W7 w') := Lib.hid (by
    have h1 : Bs W7 (.slice A1 m.bytes.length c1) m.bytes := by rw [← hW7]; exact HBX7.out.alloc _
    have h2 : Bs W7 (.slice A2 m.bytes.length c2) m.bytes := by rw [← hW7]; exact HBY.out.alloc _
    have := rsameAct_any m m _ _ W7 h1 h2
    rw [sameA_self] at this
    exact this)
  have HW7 := Lib.hid hW7
  clear hW7
  have p0 : W7.cell? ⟨w5.heap.size, 0, none⟩ = some (.int .i64 m.kind) := HX8.out.cell 0
  have p1 : W7.cell? ⟨w5.heap.size, 1, none⟩ = some (.int .i64 m.node) := HX8.out.cell 1
  have p2 : W7.cell? ⟨w5.heap.size, 2, none⟩ = some (.int .i64 m.port) := HX8.out.cell 2
  have p3 : W7.cell? ⟨w5.heap.size, 3, none⟩ = some (.int .i64 m.cost) := HX8.out.cell 3
  have p4 : W7.cell? ⟨w5.heap.size, 4, none⟩ = some (.int .i64 m.n) := HX8.out.cell 4
  have p5 : W7.cell? ⟨w5.heap.size, 5, none⟩ = some (.bool m.up) := HX8.out.cell 5
  have p6 : W7.cell? ⟨w5.heap.size, 6, none⟩ = some (.int .u8 (m.by_.toNat : Int)) := HX8.out.cell 6
  have p7 : W7.cell? ⟨w5.heap.size, 7, none⟩ = some (.bool m.unread) := HX8.out.cell 7
  have p8 : W7.cell? ⟨w5.heap.size, 8, none⟩ = some (.slice A1 m.bytes.length c1) := HX8.out.cell 8
  have pl : w5.heap.size < W7.heap.size := HX8.out.lt
  have q0 : W7.cell? ⟨w6.heap.size, 0, none⟩ = some (.int .i64 m.kind) := HX9.out.cell 0
  have q1 : W7.cell? ⟨w6.heap.size, 1, none⟩ = some (.int .i64 m.node) := HX9.out.cell 1
  have q2 : W7.cell? ⟨w6.heap.size, 2, none⟩ = some (.int .i64 m.port) := HX9.out.cell 2
  have q3 : W7.cell? ⟨w6.heap.size, 3, none⟩ = some (.int .i64 m.cost) := HX9.out.cell 3
  have q4 : W7.cell? ⟨w6.heap.size, 4, none⟩ = some (.int .i64 m.n) := HX9.out.cell 4
  have q5 : W7.cell? ⟨w6.heap.size, 5, none⟩ = some (.bool m.up) := HX9.out.cell 5
  have q6 : W7.cell? ⟨w6.heap.size, 6, none⟩ = some (.int .u8 (m.by_.toNat : Int)) := HX9.out.cell 6
  have q7 : W7.cell? ⟨w6.heap.size, 7, none⟩ = some (.bool m.unread) := HX9.out.cell 7
  have q8 : W7.cell? ⟨w6.heap.size, 8, none⟩ = some (.slice A2 m.bytes.length c2) := HX9.out.cell 8
  have ql : w6.heap.size < W7.heap.size := HX9.out.lt
  go_upto_region 13 with fail
  rw [HW7.out]
  go_wp2_with fail
  refine HSA.out.mono ?_
  rintro e w8 ⟨rfl, hb8⟩
  have HB9 := Lib.hid (HB8.out.trans (hb8.mono HB8.out.size))
  have E9 := Lib.hid (E8.out.here hb8)
  clear hb8
  clear p0 p1 p2 p3 p4 p5 p6 p7 p8 q0 q1 q2 q3 q4 q5 q6 q7 q8 pl ql
  go_wp2_with (first
    | (go_at_call 35; refine (num25_any _ _).mono ?_; rintro e w' ⟨rfl, rfl⟩)
    | (go_at_call 29; refine (known25_any _ E9.out).mono ?_; rintro e w9 ⟨rfl, hb9⟩))
  go_ret
  exact ⟨by rfl, HB9.out.trans (hb9.mono HB9.out.size)⟩
set_option maxRecDepth 100000 in
set_option maxHeartbeats 8000000 in
theorem scriptActs_yes_none (a : ActP) (bv : Value) (s : List UInt8) (leave : Int) (w : World) (hb : Bs w bv a.bytes) (ia : InA a) (E : Env w) (hl : a.bytes.length ≤ 5000) (hs : s.length ≤ 20000) (hm : mayA a = true) (ha : actC s = none) :
    Calls Tryz.prog 8 #[actV a bv, .string (str s), .int .i64 leave] w fun e w' => e = .returned (.bool true) ∧ Below w.heap.size w w' := by
  have hsz := str_size s
  obtain ⟨A, c, rfl, -⟩ := id hb
  obtain ⟨W0, hW0⟩ : ∃ W0, w.alloc (.cells #[.int .i64 a.kind, .int .i64 a.node, .int .i64 a.port, .int .i64 a.cost, .int .i64 a.n, .bool a.up, .int .u8 (a.by_.toNat : Int), .bool a.unread, .slice A a.bytes.length c] 51) = W0 := ⟨_, rfl⟩
  have HB0 : Hid (Below w.heap.size w W0) := Lib.hid (by rw [← hW0]; exact (Below.refl _ _).alloc (Nat.le_refl _) _)
  have HX0 : Hid (Whole W0 w.heap.size 51 #[.int .i64 a.kind, .int .i64 a.node, .int .i64 a.port, .int .i64 a.cost, .int .i64 a.n, .bool a.up, .int .u8 (a.by_.toNat : Int), .bool a.unread, .slice A a.bytes.length c]) := Lib.hid (by rw [← hW0]; exact Whole.new w _ _)
  have HW0 := Lib.hid hW0
  have E0 := Lib.hid (E.here HB0.out)
  have HBV : Hid (∀ W, Below w.heap.size w W → Bs W (.slice A a.bytes.length c) a.bytes) := Lib.hid (fun W h => hb.below h)
  have h5' : decide ((5000 : Int) < (a.bytes.length : Int)) = false := decide_eq_false (by omega)
  have h2' : decide ((20000 : Int) < ((str s).size : Int)) = false := decide_eq_false (by rw [hsz]; omega)
  have HCM := Lib.hid (fun W (h : Below w.heap.size w W) => cmayAct_any a _ W (HBV.out W h) (by omega))
  have HRM := Lib.hid (fun W (h : Below w.heap.size w W) => rmayAct_any a _ W (HBV.out W h))
  have HCO := Lib.hid (fun W (EW : Env W) => cactOf_any s W (by omega) EW)
  have HRO := Lib.hid (fun W (EW : Env W) => ractOf_any s W (by omega) EW)
  rw [ha] at HCO
  have hro : ∀ e w', ActOfR s e w' ↔ ActOfR' (actC s) e w' := fun e w' => by unfold ActOfR ActOfR'; rw [act_same s]; cases actC s <;> exact Iff.rfl
  simp only [hro, ha] at HRO
  rw [hm] at HCM HRM
  have hk : K9 a := by unfold mayA at hm; simp only [Bool.and_eq_true, decide_eq_true_eq] at hm; exact ⟨hm.1.1.1, hm.1.1.2⟩
  have hl8 : a.bytes.length ≤ 2048 := by unfold mayA at hm; simp only [Bool.and_eq_true, decide_eq_true_eq] at hm; exact hm.2
  have HCT := Lib.hid (cActText_yes a _ W0 (HBV.out W0 HB0.out) ia hm (by omega) E0.out)
  have HRT := Lib.hid (fun W (h : Below w.heap.size w W) (EW : Env W) => ractText_any a _ W hk (HBV.out W h) ia hl8 EW)
  clear hk hl8
  clear hW0 E hb ia hl hs hm ha hsz hro
  have v0 : W0.cell? ⟨w.heap.size, 0, none⟩ = some (.int .i64 a.kind) := HX0.out.cell 0
  have v1 : W0.cell? ⟨w.heap.size, 1, none⟩ = some (.int .i64 a.node) := HX0.out.cell 1
  have v2 : W0.cell? ⟨w.heap.size, 2, none⟩ = some (.int .i64 a.port) := HX0.out.cell 2
  have v3 : W0.cell? ⟨w.heap.size, 3, none⟩ = some (.int .i64 a.cost) := HX0.out.cell 3
  have v4 : W0.cell? ⟨w.heap.size, 4, none⟩ = some (.int .i64 a.n) := HX0.out.cell 4
  have v5 : W0.cell? ⟨w.heap.size, 5, none⟩ = some (.bool a.up) := HX0.out.cell 5
  have v6 : W0.cell? ⟨w.heap.size, 6, none⟩ = some (.int .u8 (a.by_.toNat : Int)) := HX0.out.cell 6
  have v7 : W0.cell? ⟨w.heap.size, 7, none⟩ = some (.bool a.unread) := HX0.out.cell 7
  have v8 : W0.cell? ⟨w.heap.size, 8, none⟩ = some (.slice A a.bytes.length c) := HX0.out.cell 8
  have vl : w.heap.size < W0.heap.size := HX0.out.lt
  go_enter Tryz.func8, Tryz.ntmps8
  go_upto_region 1 with fail
  rw [HW0.out]
  go_wp2_with fail
  refine HCT.out.mono ?_
  rintro e w1 ⟨rfl, hb1⟩
  have HB1 := Lib.hid (HB0.out.trans (hb1.mono HB0.out.size))
  have HX1 := Lib.hid (HX0.out.here hb1)
  have E1 := Lib.hid (E0.out.here hb1)
  clear hb1 HCT
  clear v0 v1 v2 v3 v4 v5 v6 v7 v8 vl
  have v0 : w1.cell? ⟨w.heap.size, 0, none⟩ = some (.int .i64 a.kind) := HX1.out.cell 0
  have v1 : w1.cell? ⟨w.heap.size, 1, none⟩ = some (.int .i64 a.node) := HX1.out.cell 1
  have v2 : w1.cell? ⟨w.heap.size, 2, none⟩ = some (.int .i64 a.port) := HX1.out.cell 2
  have v3 : w1.cell? ⟨w.heap.size, 3, none⟩ = some (.int .i64 a.cost) := HX1.out.cell 3
  have v4 : w1.cell? ⟨w.heap.size, 4, none⟩ = some (.int .i64 a.n) := HX1.out.cell 4
  have v5 : w1.cell? ⟨w.heap.size, 5, none⟩ = some (.bool a.up) := HX1.out.cell 5
  have v6 : w1.cell? ⟨w.heap.size, 6, none⟩ = some (.int .u8 (a.by_.toNat : Int)) := HX1.out.cell 6
  have v7 : w1.cell? ⟨w.heap.size, 7, none⟩ = some (.bool a.unread) := HX1.out.cell 7
  have v8 : w1.cell? ⟨w.heap.size, 8, none⟩ = some (.slice A a.bytes.length c) := HX1.out.cell 8
  have vl : w.heap.size < w1.heap.size := HX1.out.lt
  have HY1 : Hid (∀ y : Ext w1, Below w.heap.size w y.w) := Lib.hid (fun y => HB1.out.trans (y.below.mono HB1.out.size))
  go_wp2
  refine wp_region_ext (by kernel_rfl) (by kernel_rfl) ?_
  repeat (go_big_quiet_step (first | (go_at_call 31; exact Ext.call (HCM.out _ (HY1.out _))) | (go_at_call 32; exact Ext.call (HRM.out _ (HY1.out _))) | (go_at_call 33; exact Ext.call (pass_any _ _ (Ext.env _ E1.out)))))
  refine wpQuiet_nil ?_
  rintro _ ⟨y, rfl⟩
  have HB2 := Lib.hid (HY1.out y)
  have HX2 := Lib.hid (HX1.out.here y.below)
  have E2 := Lib.hid (E1.out.here y.below)
  obtain ⟨W2, hW2⟩ : ∃ W2, y.w = W2 := ⟨_, rfl⟩
  rw [hW2] at HB2 HX2 E2 ⊢
  clear hW2 y HY1
  clear v0 v1 v2 v3 v4 v5 v6 v7 v8 vl
  have v0 : W2.cell? ⟨w.heap.size, 0, none⟩ = some (.int .i64 a.kind) := HX2.out.cell 0
  have v1 : W2.cell? ⟨w.heap.size, 1, none⟩ = some (.int .i64 a.node) := HX2.out.cell 1
  have v2 : W2.cell? ⟨w.heap.size, 2, none⟩ = some (.int .i64 a.port) := HX2.out.cell 2
  have v3 : W2.cell? ⟨w.heap.size, 3, none⟩ = some (.int .i64 a.cost) := HX2.out.cell 3
  have v4 : W2.cell? ⟨w.heap.size, 4, none⟩ = some (.int .i64 a.n) := HX2.out.cell 4
  have v5 : W2.cell? ⟨w.heap.size, 5, none⟩ = some (.bool a.up) := HX2.out.cell 5
  have v6 : W2.cell? ⟨w.heap.size, 6, none⟩ = some (.int .u8 (a.by_.toNat : Int)) := HX2.out.cell 6
  have v7 : W2.cell? ⟨w.heap.size, 7, none⟩ = some (.bool a.unread) := HX2.out.cell 7
  have v8 : W2.cell? ⟨w.heap.size, 8, none⟩ = some (.slice A a.bytes.length c) := HX2.out.cell 8
  have vl : w.heap.size < W2.heap.size := HX2.out.lt
  go_wp2_with fail
  refine (HRM.out _ HB2.out).mono ?_
  rintro e w3 ⟨rfl, hb3⟩
  have HB3 := Lib.hid (HB2.out.trans (hb3.mono HB2.out.size))
  have HX3 := Lib.hid (HX2.out.here hb3)
  have E3 := Lib.hid (E2.out.here hb3)
  clear hb3
  clear v0 v1 v2 v3 v4 v5 v6 v7 v8 vl
  have v0 : w3.cell? ⟨w.heap.size, 0, none⟩ = some (.int .i64 a.kind) := HX3.out.cell 0
  have v1 : w3.cell? ⟨w.heap.size, 1, none⟩ = some (.int .i64 a.node) := HX3.out.cell 1
  have v2 : w3.cell? ⟨w.heap.size, 2, none⟩ = some (.int .i64 a.port) := HX3.out.cell 2
  have v3 : w3.cell? ⟨w.heap.size, 3, none⟩ = some (.int .i64 a.cost) := HX3.out.cell 3
  have v4 : w3.cell? ⟨w.heap.size, 4, none⟩ = some (.int .i64 a.n) := HX3.out.cell 4
  have v5 : w3.cell? ⟨w.heap.size, 5, none⟩ = some (.bool a.up) := HX3.out.cell 5
  have v6 : w3.cell? ⟨w.heap.size, 6, none⟩ = some (.int .u8 (a.by_.toNat : Int)) := HX3.out.cell 6
  have v7 : w3.cell? ⟨w.heap.size, 7, none⟩ = some (.bool a.unread) := HX3.out.cell 7
  have v8 : w3.cell? ⟨w.heap.size, 8, none⟩ = some (.slice A a.bytes.length c) := HX3.out.cell 8
  have vl : w.heap.size < w3.heap.size := HX3.out.lt
  go_wp2_with fail
  refine (HRT.out _ HB3.out E3.out).mono ?_
  rintro e w4 ⟨rfl, hb4⟩
  have HB4 := Lib.hid (HB3.out.trans (hb4.mono HB3.out.size))
  have E4 := Lib.hid (E3.out.here hb4)
  clear hb4
  clear v0 v1 v2 v3 v4 v5 v6 v7 v8 vl
  go_wp2_with (go_at_call 35; refine (num25_any _ _).mono ?_; rintro e w' ⟨rfl, rfl⟩)
  refine (HCO.out _ E4.out).mono ?_
  rintro e w5 ⟨rfl, hb5⟩
  have HB5 := Lib.hid (HB4.out.trans (hb5.mono HB4.out.size))
  have E5 := Lib.hid (E4.out.here hb5)
  clear hb5
  obtain ⟨W5, hW5⟩ : ∃ W5, w5.alloc (.cells #[.int .i64 0, .int .i64 0, .int .i64 0, .int .i64 0, .int .i64 0, .bool false, .int .u8 0, .bool false, .slice none 0 0] 51) = W5 := ⟨_, rfl⟩
  have HX5 : Hid (Whole W5 w5.heap.size 51 #[.int .i64 0, .int .i64 0, .int .i64 0, .int .i64 0, .int .i64 0, .bool false, .int .u8 0, .bool false, .slice none 0 0]) := Lib.hid (by rw [← hW5]; exact Whole.new w5 _ _)
  have HB6 : Hid (Below w.heap.size w W5) := Lib.hid (by rw [← hW5]; exact HB5.out.alloc HB5.out.size _)
  have E6 : Hid (Env W5) := Lib.hid (by rw [← hW5]; exact E5.out.alloc _)
  have HW5 := Lib.hid hW5
  clear hW5
  go_wp2_with fail
  rw [HW5.out]
  refine (HRO.out _ E6.out).mono ?_
  rintro e w6 ⟨rfl, hb6⟩
  have HB7 := Lib.hid (HB6.out.trans (hb6.mono HB6.out.size))
  have E7 := Lib.hid (E6.out.here hb6)
  have HX7 := Lib.hid (HX5.out.here hb6)
  clear hb6
  obtain ⟨W7, hW7⟩ : ∃ W7, w6.alloc (.cells #[.int .i64 0, .int .i64 0, .int .i64 0, .int .i64 0, .int .i64 0, .bool false, .int .u8 0, .bool false, .slice none 0 0] 51) = W7 := ⟨_, rfl⟩
  have HX8 : Hid (Whole W7 w5.heap.size 51 #[.int .i64 0, .int .i64 0, .int .i64 0, .int .i64 0, .int .i64 0, .bool false, .int .u8 0, .bool false, .slice none 0 0]) := Lib.hid (by rw [← hW7]; exact HX7.out.alloc _)
  have HX9 : Hid (Whole W7 w6.heap.size 51 #[.int .i64 0, .int .i64 0, .int .i64 0, .int .i64 0, .int .i64 0, .bool false, .int .u8 0, .bool false, .slice none 0 0]) := Lib.hid (by rw [← hW7]; exact Whole.new w6 _ _)
  have HB8 : Hid (Below w.heap.size w W7) := Lib.hid (by rw [← hW7]; exact HB7.out.alloc HB7.out.size _)
  have E8 : Hid (Env W7) := Lib.hid (by rw [← hW7]; exact E7.out.alloc _)
  have HSA : Hid (Calls Tryz.prog 38 #[.agg #[.int .i64 0, .int .i64 0, .int .i64 0, .int .i64 0, .int .i64 0, .bool false, .int .u8 0, .bool false, .slice none 0 0], .agg #[.int .i64 0, .int .i64 0, .int .i64 0, .int .i64 0, .int .i64 0, .bool false, .int .u8 0, .bool false, .slice none 0 0]] W7 fun e w' => e = .returned (.bool true) ∧ Below W7.heap.size W7 w') := Lib.hid (by
    have := rsameAct_any { kind := 0 } { kind := 0 } _ _ W7 (Bs.nil _) (Bs.nil _)
    rw [sameA_self] at this
    exact this)
  have HW7 := Lib.hid hW7
  clear hW7
  have p0 : W7.cell? ⟨w5.heap.size, 0, none⟩ = some (.int .i64 0) := HX8.out.cell 0
  have p1 : W7.cell? ⟨w5.heap.size, 1, none⟩ = some (.int .i64 0) := HX8.out.cell 1
  have p2 : W7.cell? ⟨w5.heap.size, 2, none⟩ = some (.int .i64 0) := HX8.out.cell 2
  have p3 : W7.cell? ⟨w5.heap.size, 3, none⟩ = some (.int .i64 0) := HX8.out.cell 3
  have p4 : W7.cell? ⟨w5.heap.size, 4, none⟩ = some (.int .i64 0) := HX8.out.cell 4
  have p5 : W7.cell? ⟨w5.heap.size, 5, none⟩ = some (.bool false) := HX8.out.cell 5
  have p6 : W7.cell? ⟨w5.heap.size, 6, none⟩ = some (.int .u8 0) := HX8.out.cell 6
  have p7 : W7.cell? ⟨w5.heap.size, 7, none⟩ = some (.bool false) := HX8.out.cell 7
  have p8 : W7.cell? ⟨w5.heap.size, 8, none⟩ = some (.slice none 0 0) := HX8.out.cell 8
  have pl : w5.heap.size < W7.heap.size := HX8.out.lt
  have q0 : W7.cell? ⟨w6.heap.size, 0, none⟩ = some (.int .i64 0) := HX9.out.cell 0
  have q1 : W7.cell? ⟨w6.heap.size, 1, none⟩ = some (.int .i64 0) := HX9.out.cell 1
  have q2 : W7.cell? ⟨w6.heap.size, 2, none⟩ = some (.int .i64 0) := HX9.out.cell 2
  have q3 : W7.cell? ⟨w6.heap.size, 3, none⟩ = some (.int .i64 0) := HX9.out.cell 3
  have q4 : W7.cell? ⟨w6.heap.size, 4, none⟩ = some (.int .i64 0) := HX9.out.cell 4
  have q5 : W7.cell? ⟨w6.heap.size, 5, none⟩ = some (.bool false) := HX9.out.cell 5
  have q6 : W7.cell? ⟨w6.heap.size, 6, none⟩ = some (.int .u8 0) := HX9.out.cell 6
  have q7 : W7.cell? ⟨w6.heap.size, 7, none⟩ = some (.bool false) := HX9.out.cell 7
  have q8 : W7.cell? ⟨w6.heap.size, 8, none⟩ = some (.slice none 0 0) := HX9.out.cell 8
  have ql : w6.heap.size < W7.heap.size := HX9.out.lt
  go_upto_region 13 with fail
  rw [HW7.out]
  go_wp2_with fail
  refine HSA.out.mono ?_
  rintro e w8 ⟨rfl, hb8⟩
  have HB9 := Lib.hid (HB8.out.trans (hb8.mono HB8.out.size))
  have E9 := Lib.hid (E8.out.here hb8)
  clear hb8
  clear p0 p1 p2 p3 p4 p5 p6 p7 p8 q0 q1 q2 q3 q4 q5 q6 q7 q8 pl ql
  go_wp2_with (first
    | (go_at_call 35; refine (num25_any _ _).mono ?_; rintro e w' ⟨rfl, rfl⟩)
    | (go_at_call 29; refine (known25_any _ E9.out).mono ?_; rintro e w9 ⟨rfl, hb9⟩))
  go_ret
  exact ⟨by rfl, HB9.out.trans (hb9.mono HB9.out.size)⟩
set_option maxRecDepth 100000 in
set_option maxHeartbeats 8000000 in
theorem scriptActs_no_act (a : ActP) (bv : Value) (s : List UInt8) (leave : Int) (m : ActP) (w : World) (hb : Bs w bv a.bytes) (_ia : InA a) (E : Env w) (hl : a.bytes.length ≤ 5000) (hs : s.length ≤ 20000) (hm : mayA a = false) (ha : actC s = some m) :
    Calls Tryz.prog 8 #[actV a bv, .string (str s), .int .i64 leave] w fun e w' => e = .returned (.bool true) ∧ Below w.heap.size w w' := by
  have hsz := str_size s
  obtain ⟨A, c, rfl, -⟩ := id hb
  obtain ⟨W0, hW0⟩ : ∃ W0, w.alloc (.cells #[.int .i64 a.kind, .int .i64 a.node, .int .i64 a.port, .int .i64 a.cost, .int .i64 a.n, .bool a.up, .int .u8 (a.by_.toNat : Int), .bool a.unread, .slice A a.bytes.length c] 51) = W0 := ⟨_, rfl⟩
  have HB0 : Hid (Below w.heap.size w W0) := Lib.hid (by rw [← hW0]; exact (Below.refl _ _).alloc (Nat.le_refl _) _)
  have HX0 : Hid (Whole W0 w.heap.size 51 #[.int .i64 a.kind, .int .i64 a.node, .int .i64 a.port, .int .i64 a.cost, .int .i64 a.n, .bool a.up, .int .u8 (a.by_.toNat : Int), .bool a.unread, .slice A a.bytes.length c]) := Lib.hid (by rw [← hW0]; exact Whole.new w _ _)
  have HW0 := Lib.hid hW0
  have E0 := Lib.hid (E.here HB0.out)
  have HBV : Hid (∀ W, Below w.heap.size w W → Bs W (.slice A a.bytes.length c) a.bytes) := Lib.hid (fun W h => hb.below h)
  have h5' : decide ((5000 : Int) < (a.bytes.length : Int)) = false := decide_eq_false (by omega)
  have h2' : decide ((20000 : Int) < ((str s).size : Int)) = false := decide_eq_false (by rw [hsz]; omega)
  have HCM := Lib.hid (fun W (h : Below w.heap.size w W) => cmayAct_any a _ W (HBV.out W h) (by omega))
  have HRM := Lib.hid (fun W (h : Below w.heap.size w W) => rmayAct_any a _ W (HBV.out W h))
  have HCO := Lib.hid (fun W (EW : Env W) => cactOf_any s W (by omega) EW)
  have HRO := Lib.hid (fun W (EW : Env W) => ractOf_any s W (by omega) EW)
  rw [ha] at HCO
  have hro : ∀ e w', ActOfR s e w' ↔ ActOfR' (actC s) e w' := fun e w' => by unfold ActOfR ActOfR'; rw [act_same s]; cases actC s <;> exact Iff.rfl
  simp only [hro, ha] at HRO
  rw [hm] at HCM HRM
  have HCT := Lib.hid (cActText_off a _ W0 (HBV.out W0 HB0.out) hm (by omega))
  clear hW0 E hb hl hs hm ha hsz hro
  have v0 : W0.cell? ⟨w.heap.size, 0, none⟩ = some (.int .i64 a.kind) := HX0.out.cell 0
  have v1 : W0.cell? ⟨w.heap.size, 1, none⟩ = some (.int .i64 a.node) := HX0.out.cell 1
  have v2 : W0.cell? ⟨w.heap.size, 2, none⟩ = some (.int .i64 a.port) := HX0.out.cell 2
  have v3 : W0.cell? ⟨w.heap.size, 3, none⟩ = some (.int .i64 a.cost) := HX0.out.cell 3
  have v4 : W0.cell? ⟨w.heap.size, 4, none⟩ = some (.int .i64 a.n) := HX0.out.cell 4
  have v5 : W0.cell? ⟨w.heap.size, 5, none⟩ = some (.bool a.up) := HX0.out.cell 5
  have v6 : W0.cell? ⟨w.heap.size, 6, none⟩ = some (.int .u8 (a.by_.toNat : Int)) := HX0.out.cell 6
  have v7 : W0.cell? ⟨w.heap.size, 7, none⟩ = some (.bool a.unread) := HX0.out.cell 7
  have v8 : W0.cell? ⟨w.heap.size, 8, none⟩ = some (.slice A a.bytes.length c) := HX0.out.cell 8
  have vl : w.heap.size < W0.heap.size := HX0.out.lt
  go_enter Tryz.func8, Tryz.ntmps8
  go_upto_region 1 with fail
  rw [HW0.out]
  go_wp2_with fail
  refine HCT.out.mono ?_
  rintro e w1 ⟨rfl, hb1⟩
  have HB1 := Lib.hid (HB0.out.trans (hb1.mono HB0.out.size))
  have HX1 := Lib.hid (HX0.out.here hb1)
  have E1 := Lib.hid (E0.out.here hb1)
  clear hb1 HCT
  clear v0 v1 v2 v3 v4 v5 v6 v7 v8 vl
  have v0 : w1.cell? ⟨w.heap.size, 0, none⟩ = some (.int .i64 a.kind) := HX1.out.cell 0
  have v1 : w1.cell? ⟨w.heap.size, 1, none⟩ = some (.int .i64 a.node) := HX1.out.cell 1
  have v2 : w1.cell? ⟨w.heap.size, 2, none⟩ = some (.int .i64 a.port) := HX1.out.cell 2
  have v3 : w1.cell? ⟨w.heap.size, 3, none⟩ = some (.int .i64 a.cost) := HX1.out.cell 3
  have v4 : w1.cell? ⟨w.heap.size, 4, none⟩ = some (.int .i64 a.n) := HX1.out.cell 4
  have v5 : w1.cell? ⟨w.heap.size, 5, none⟩ = some (.bool a.up) := HX1.out.cell 5
  have v6 : w1.cell? ⟨w.heap.size, 6, none⟩ = some (.int .u8 (a.by_.toNat : Int)) := HX1.out.cell 6
  have v7 : w1.cell? ⟨w.heap.size, 7, none⟩ = some (.bool a.unread) := HX1.out.cell 7
  have v8 : w1.cell? ⟨w.heap.size, 8, none⟩ = some (.slice A a.bytes.length c) := HX1.out.cell 8
  have vl : w.heap.size < w1.heap.size := HX1.out.lt
  have HY1 : Hid (∀ y : Ext w1, Below w.heap.size w y.w) := Lib.hid (fun y => HB1.out.trans (y.below.mono HB1.out.size))
  go_wp2
  refine wp_region_ext (by kernel_rfl) (by kernel_rfl) ?_
  repeat (go_big_quiet_step (first | (go_at_call 31; exact Ext.call (HCM.out _ (HY1.out _))) | (go_at_call 32; exact Ext.call (HRM.out _ (HY1.out _))) | (go_at_call 33; exact Ext.call (pass_any _ _ (Ext.env _ E1.out)))))
  refine wpQuiet_nil ?_
  rintro _ ⟨y, rfl⟩
  have HB2 := Lib.hid (HY1.out y)
  have HX2 := Lib.hid (HX1.out.here y.below)
  have E2 := Lib.hid (E1.out.here y.below)
  obtain ⟨W2, hW2⟩ : ∃ W2, y.w = W2 := ⟨_, rfl⟩
  rw [hW2] at HB2 HX2 E2 ⊢
  clear hW2 y HY1
  clear v0 v1 v2 v3 v4 v5 v6 v7 v8 vl
  have v0 : W2.cell? ⟨w.heap.size, 0, none⟩ = some (.int .i64 a.kind) := HX2.out.cell 0
  have v1 : W2.cell? ⟨w.heap.size, 1, none⟩ = some (.int .i64 a.node) := HX2.out.cell 1
  have v2 : W2.cell? ⟨w.heap.size, 2, none⟩ = some (.int .i64 a.port) := HX2.out.cell 2
  have v3 : W2.cell? ⟨w.heap.size, 3, none⟩ = some (.int .i64 a.cost) := HX2.out.cell 3
  have v4 : W2.cell? ⟨w.heap.size, 4, none⟩ = some (.int .i64 a.n) := HX2.out.cell 4
  have v5 : W2.cell? ⟨w.heap.size, 5, none⟩ = some (.bool a.up) := HX2.out.cell 5
  have v6 : W2.cell? ⟨w.heap.size, 6, none⟩ = some (.int .u8 (a.by_.toNat : Int)) := HX2.out.cell 6
  have v7 : W2.cell? ⟨w.heap.size, 7, none⟩ = some (.bool a.unread) := HX2.out.cell 7
  have v8 : W2.cell? ⟨w.heap.size, 8, none⟩ = some (.slice A a.bytes.length c) := HX2.out.cell 8
  have vl : w.heap.size < W2.heap.size := HX2.out.lt
  go_wp2_with fail
  refine (HRM.out _ HB2.out).mono ?_
  rintro e w3 ⟨rfl, hb3⟩
  have HB3 := Lib.hid (HB2.out.trans (hb3.mono HB2.out.size))
  have HX3 := Lib.hid (HX2.out.here hb3)
  have E3 := Lib.hid (E2.out.here hb3)
  clear hb3
  clear v0 v1 v2 v3 v4 v5 v6 v7 v8 vl
  have HB4 := HB3
  have E4 := E3
  go_wp2_with (go_at_call 35; refine (num25_any _ _).mono ?_; rintro e w' ⟨rfl, rfl⟩)
  refine (HCO.out _ E4.out).mono ?_
  rintro e w5 ⟨⟨bx, rfl, hbx⟩, hb5⟩
  obtain ⟨A1, c1, rfl, -⟩ := id hbx
  have HBX := Lib.hid hbx
  clear hbx
  have HB5 := Lib.hid (HB4.out.trans (hb5.mono HB4.out.size))
  have E5 := Lib.hid (E4.out.here hb5)
  clear hb5
  obtain ⟨W5, hW5⟩ : ∃ W5, w5.alloc (.cells #[.int .i64 m.kind, .int .i64 m.node, .int .i64 m.port, .int .i64 m.cost, .int .i64 m.n, .bool m.up, .int .u8 (m.by_.toNat : Int), .bool m.unread, .slice A1 m.bytes.length c1] 51) = W5 := ⟨_, rfl⟩
  have HX5 : Hid (Whole W5 w5.heap.size 51 #[.int .i64 m.kind, .int .i64 m.node, .int .i64 m.port, .int .i64 m.cost, .int .i64 m.n, .bool m.up, .int .u8 (m.by_.toNat : Int), .bool m.unread, .slice A1 m.bytes.length c1]) := Lib.hid (by rw [← hW5]; exact Whole.new w5 _ _)
  have HB6 : Hid (Below w.heap.size w W5) := Lib.hid (by rw [← hW5]; exact HB5.out.alloc HB5.out.size _)
  have E6 : Hid (Env W5) := Lib.hid (by rw [← hW5]; exact E5.out.alloc _)
  have HBX6 : Hid (Bs W5 (.slice A1 m.bytes.length c1) m.bytes) := Lib.hid (by rw [← hW5]; exact HBX.out.alloc _)
  have HW5 := Lib.hid hW5
  clear hW5
  go_wp2_with fail
  rw [HW5.out]
  refine (HRO.out _ E6.out).mono ?_
  rintro e w6 ⟨⟨by_, rfl, hby⟩, hb6⟩
  obtain ⟨A2, c2, rfl, -⟩ := id hby
  have HBY := Lib.hid hby
  have HBX7 := Lib.hid (HBX6.out.below hb6)
  clear hby
  have HB7 := Lib.hid (HB6.out.trans (hb6.mono HB6.out.size))
  have E7 := Lib.hid (E6.out.here hb6)
  have HX7 := Lib.hid (HX5.out.here hb6)
  clear hb6
  obtain ⟨W7, hW7⟩ : ∃ W7, w6.alloc (.cells #[.int .i64 m.kind, .int .i64 m.node, .int .i64 m.port, .int .i64 m.cost, .int .i64 m.n, .bool m.up, .int .u8 (m.by_.toNat : Int), .bool m.unread, .slice A2 m.bytes.length c2] 51) = W7 := ⟨_, rfl⟩
  have HX8 : Hid (Whole W7 w5.heap.size 51 #[.int .i64 m.kind, .int .i64 m.node, .int .i64 m.port, .int .i64 m.cost, .int .i64 m.n, .bool m.up, .int .u8 (m.by_.toNat : Int), .bool m.unread, .slice A1 m.bytes.length c1]) := Lib.hid (by rw [← hW7]; exact HX7.out.alloc _)
  have HX9 : Hid (Whole W7 w6.heap.size 51 #[.int .i64 m.kind, .int .i64 m.node, .int .i64 m.port, .int .i64 m.cost, .int .i64 m.n, .bool m.up, .int .u8 (m.by_.toNat : Int), .bool m.unread, .slice A2 m.bytes.length c2]) := Lib.hid (by rw [← hW7]; exact Whole.new w6 _ _)
  have HB8 : Hid (Below w.heap.size w W7) := Lib.hid (by rw [← hW7]; exact HB7.out.alloc HB7.out.size _)
  have E8 : Hid (Env W7) := Lib.hid (by rw [← hW7]; exact E7.out.alloc _)
  have HSA : Hid (Calls Tryz.prog 38 #[.agg #[.int .i64 m.kind, .int .i64 m.node, .int .i64 m.port, .int .i64 m.cost, .int .i64 m.n, .bool m.up, .int .u8 (m.by_.toNat : Int), .bool m.unread, .slice A1 m.bytes.length c1], .agg #[.int .i64 m.kind, .int .i64 m.node, .int .i64 m.port, .int .i64 m.cost, .int .i64 m.n, .bool m.up, .int .u8 (m.by_.toNat : Int), .bool m.unread, .slice A2 m.bytes.length c2]] W7 fun e w' => e = .returned (.bool true) ∧ Below W7.heap.size W7 w') := Lib.hid (by
    have h1 : Bs W7 (.slice A1 m.bytes.length c1) m.bytes := by rw [← hW7]; exact HBX7.out.alloc _
    have h2 : Bs W7 (.slice A2 m.bytes.length c2) m.bytes := by rw [← hW7]; exact HBY.out.alloc _
    have := rsameAct_any m m _ _ W7 h1 h2
    rw [sameA_self] at this
    exact this)
  have HW7 := Lib.hid hW7
  clear hW7
  have p0 : W7.cell? ⟨w5.heap.size, 0, none⟩ = some (.int .i64 m.kind) := HX8.out.cell 0
  have p1 : W7.cell? ⟨w5.heap.size, 1, none⟩ = some (.int .i64 m.node) := HX8.out.cell 1
  have p2 : W7.cell? ⟨w5.heap.size, 2, none⟩ = some (.int .i64 m.port) := HX8.out.cell 2
  have p3 : W7.cell? ⟨w5.heap.size, 3, none⟩ = some (.int .i64 m.cost) := HX8.out.cell 3
  have p4 : W7.cell? ⟨w5.heap.size, 4, none⟩ = some (.int .i64 m.n) := HX8.out.cell 4
  have p5 : W7.cell? ⟨w5.heap.size, 5, none⟩ = some (.bool m.up) := HX8.out.cell 5
  have p6 : W7.cell? ⟨w5.heap.size, 6, none⟩ = some (.int .u8 (m.by_.toNat : Int)) := HX8.out.cell 6
  have p7 : W7.cell? ⟨w5.heap.size, 7, none⟩ = some (.bool m.unread) := HX8.out.cell 7
  have p8 : W7.cell? ⟨w5.heap.size, 8, none⟩ = some (.slice A1 m.bytes.length c1) := HX8.out.cell 8
  have pl : w5.heap.size < W7.heap.size := HX8.out.lt
  have q0 : W7.cell? ⟨w6.heap.size, 0, none⟩ = some (.int .i64 m.kind) := HX9.out.cell 0
  have q1 : W7.cell? ⟨w6.heap.size, 1, none⟩ = some (.int .i64 m.node) := HX9.out.cell 1
  have q2 : W7.cell? ⟨w6.heap.size, 2, none⟩ = some (.int .i64 m.port) := HX9.out.cell 2
  have q3 : W7.cell? ⟨w6.heap.size, 3, none⟩ = some (.int .i64 m.cost) := HX9.out.cell 3
  have q4 : W7.cell? ⟨w6.heap.size, 4, none⟩ = some (.int .i64 m.n) := HX9.out.cell 4
  have q5 : W7.cell? ⟨w6.heap.size, 5, none⟩ = some (.bool m.up) := HX9.out.cell 5
  have q6 : W7.cell? ⟨w6.heap.size, 6, none⟩ = some (.int .u8 (m.by_.toNat : Int)) := HX9.out.cell 6
  have q7 : W7.cell? ⟨w6.heap.size, 7, none⟩ = some (.bool m.unread) := HX9.out.cell 7
  have q8 : W7.cell? ⟨w6.heap.size, 8, none⟩ = some (.slice A2 m.bytes.length c2) := HX9.out.cell 8
  have ql : w6.heap.size < W7.heap.size := HX9.out.lt
  go_upto_region 13 with fail
  rw [HW7.out]
  go_wp2_with fail
  refine HSA.out.mono ?_
  rintro e w8 ⟨rfl, hb8⟩
  have HB9 := Lib.hid (HB8.out.trans (hb8.mono HB8.out.size))
  have E9 := Lib.hid (E8.out.here hb8)
  clear hb8
  clear p0 p1 p2 p3 p4 p5 p6 p7 p8 q0 q1 q2 q3 q4 q5 q6 q7 q8 pl ql
  go_wp2_with (first
    | (go_at_call 35; refine (num25_any _ _).mono ?_; rintro e w' ⟨rfl, rfl⟩)
    | (go_at_call 29; refine (known25_any _ E9.out).mono ?_; rintro e w9 ⟨rfl, hb9⟩))
  go_ret
  exact ⟨by rfl, HB9.out.trans (hb9.mono HB9.out.size)⟩
set_option maxRecDepth 100000 in
set_option maxHeartbeats 8000000 in
theorem scriptActs_no_none (a : ActP) (bv : Value) (s : List UInt8) (leave : Int) (w : World) (hb : Bs w bv a.bytes) (_ia : InA a) (E : Env w) (hl : a.bytes.length ≤ 5000) (hs : s.length ≤ 20000) (hm : mayA a = false) (ha : actC s = none) :
    Calls Tryz.prog 8 #[actV a bv, .string (str s), .int .i64 leave] w fun e w' => e = .returned (.bool true) ∧ Below w.heap.size w w' := by
  have hsz := str_size s
  obtain ⟨A, c, rfl, -⟩ := id hb
  obtain ⟨W0, hW0⟩ : ∃ W0, w.alloc (.cells #[.int .i64 a.kind, .int .i64 a.node, .int .i64 a.port, .int .i64 a.cost, .int .i64 a.n, .bool a.up, .int .u8 (a.by_.toNat : Int), .bool a.unread, .slice A a.bytes.length c] 51) = W0 := ⟨_, rfl⟩
  have HB0 : Hid (Below w.heap.size w W0) := Lib.hid (by rw [← hW0]; exact (Below.refl _ _).alloc (Nat.le_refl _) _)
  have HX0 : Hid (Whole W0 w.heap.size 51 #[.int .i64 a.kind, .int .i64 a.node, .int .i64 a.port, .int .i64 a.cost, .int .i64 a.n, .bool a.up, .int .u8 (a.by_.toNat : Int), .bool a.unread, .slice A a.bytes.length c]) := Lib.hid (by rw [← hW0]; exact Whole.new w _ _)
  have HW0 := Lib.hid hW0
  have E0 := Lib.hid (E.here HB0.out)
  have HBV : Hid (∀ W, Below w.heap.size w W → Bs W (.slice A a.bytes.length c) a.bytes) := Lib.hid (fun W h => hb.below h)
  have h5' : decide ((5000 : Int) < (a.bytes.length : Int)) = false := decide_eq_false (by omega)
  have h2' : decide ((20000 : Int) < ((str s).size : Int)) = false := decide_eq_false (by rw [hsz]; omega)
  have HCM := Lib.hid (fun W (h : Below w.heap.size w W) => cmayAct_any a _ W (HBV.out W h) (by omega))
  have HRM := Lib.hid (fun W (h : Below w.heap.size w W) => rmayAct_any a _ W (HBV.out W h))
  have HCO := Lib.hid (fun W (EW : Env W) => cactOf_any s W (by omega) EW)
  have HRO := Lib.hid (fun W (EW : Env W) => ractOf_any s W (by omega) EW)
  rw [ha] at HCO
  have hro : ∀ e w', ActOfR s e w' ↔ ActOfR' (actC s) e w' := fun e w' => by unfold ActOfR ActOfR'; rw [act_same s]; cases actC s <;> exact Iff.rfl
  simp only [hro, ha] at HRO
  rw [hm] at HCM HRM
  have HCT := Lib.hid (cActText_off a _ W0 (HBV.out W0 HB0.out) hm (by omega))
  clear hW0 E hb hl hs hm ha hsz hro
  have v0 : W0.cell? ⟨w.heap.size, 0, none⟩ = some (.int .i64 a.kind) := HX0.out.cell 0
  have v1 : W0.cell? ⟨w.heap.size, 1, none⟩ = some (.int .i64 a.node) := HX0.out.cell 1
  have v2 : W0.cell? ⟨w.heap.size, 2, none⟩ = some (.int .i64 a.port) := HX0.out.cell 2
  have v3 : W0.cell? ⟨w.heap.size, 3, none⟩ = some (.int .i64 a.cost) := HX0.out.cell 3
  have v4 : W0.cell? ⟨w.heap.size, 4, none⟩ = some (.int .i64 a.n) := HX0.out.cell 4
  have v5 : W0.cell? ⟨w.heap.size, 5, none⟩ = some (.bool a.up) := HX0.out.cell 5
  have v6 : W0.cell? ⟨w.heap.size, 6, none⟩ = some (.int .u8 (a.by_.toNat : Int)) := HX0.out.cell 6
  have v7 : W0.cell? ⟨w.heap.size, 7, none⟩ = some (.bool a.unread) := HX0.out.cell 7
  have v8 : W0.cell? ⟨w.heap.size, 8, none⟩ = some (.slice A a.bytes.length c) := HX0.out.cell 8
  have vl : w.heap.size < W0.heap.size := HX0.out.lt
  go_enter Tryz.func8, Tryz.ntmps8
  go_upto_region 1 with fail
  rw [HW0.out]
  go_wp2_with fail
  refine HCT.out.mono ?_
  rintro e w1 ⟨rfl, hb1⟩
  have HB1 := Lib.hid (HB0.out.trans (hb1.mono HB0.out.size))
  have HX1 := Lib.hid (HX0.out.here hb1)
  have E1 := Lib.hid (E0.out.here hb1)
  clear hb1 HCT
  clear v0 v1 v2 v3 v4 v5 v6 v7 v8 vl
  have v0 : w1.cell? ⟨w.heap.size, 0, none⟩ = some (.int .i64 a.kind) := HX1.out.cell 0
  have v1 : w1.cell? ⟨w.heap.size, 1, none⟩ = some (.int .i64 a.node) := HX1.out.cell 1
  have v2 : w1.cell? ⟨w.heap.size, 2, none⟩ = some (.int .i64 a.port) := HX1.out.cell 2
  have v3 : w1.cell? ⟨w.heap.size, 3, none⟩ = some (.int .i64 a.cost) := HX1.out.cell 3
  have v4 : w1.cell? ⟨w.heap.size, 4, none⟩ = some (.int .i64 a.n) := HX1.out.cell 4
  have v5 : w1.cell? ⟨w.heap.size, 5, none⟩ = some (.bool a.up) := HX1.out.cell 5
  have v6 : w1.cell? ⟨w.heap.size, 6, none⟩ = some (.int .u8 (a.by_.toNat : Int)) := HX1.out.cell 6
  have v7 : w1.cell? ⟨w.heap.size, 7, none⟩ = some (.bool a.unread) := HX1.out.cell 7
  have v8 : w1.cell? ⟨w.heap.size, 8, none⟩ = some (.slice A a.bytes.length c) := HX1.out.cell 8
  have vl : w.heap.size < w1.heap.size := HX1.out.lt
  have HY1 : Hid (∀ y : Ext w1, Below w.heap.size w y.w) := Lib.hid (fun y => HB1.out.trans (y.below.mono HB1.out.size))
  go_wp2
  refine wp_region_ext (by kernel_rfl) (by kernel_rfl) ?_
  repeat (go_big_quiet_step (first | (go_at_call 31; exact Ext.call (HCM.out _ (HY1.out _))) | (go_at_call 32; exact Ext.call (HRM.out _ (HY1.out _))) | (go_at_call 33; exact Ext.call (pass_any _ _ (Ext.env _ E1.out)))))
  refine wpQuiet_nil ?_
  rintro _ ⟨y, rfl⟩
  have HB2 := Lib.hid (HY1.out y)
  have HX2 := Lib.hid (HX1.out.here y.below)
  have E2 := Lib.hid (E1.out.here y.below)
  obtain ⟨W2, hW2⟩ : ∃ W2, y.w = W2 := ⟨_, rfl⟩
  rw [hW2] at HB2 HX2 E2 ⊢
  clear hW2 y HY1
  clear v0 v1 v2 v3 v4 v5 v6 v7 v8 vl
  have v0 : W2.cell? ⟨w.heap.size, 0, none⟩ = some (.int .i64 a.kind) := HX2.out.cell 0
  have v1 : W2.cell? ⟨w.heap.size, 1, none⟩ = some (.int .i64 a.node) := HX2.out.cell 1
  have v2 : W2.cell? ⟨w.heap.size, 2, none⟩ = some (.int .i64 a.port) := HX2.out.cell 2
  have v3 : W2.cell? ⟨w.heap.size, 3, none⟩ = some (.int .i64 a.cost) := HX2.out.cell 3
  have v4 : W2.cell? ⟨w.heap.size, 4, none⟩ = some (.int .i64 a.n) := HX2.out.cell 4
  have v5 : W2.cell? ⟨w.heap.size, 5, none⟩ = some (.bool a.up) := HX2.out.cell 5
  have v6 : W2.cell? ⟨w.heap.size, 6, none⟩ = some (.int .u8 (a.by_.toNat : Int)) := HX2.out.cell 6
  have v7 : W2.cell? ⟨w.heap.size, 7, none⟩ = some (.bool a.unread) := HX2.out.cell 7
  have v8 : W2.cell? ⟨w.heap.size, 8, none⟩ = some (.slice A a.bytes.length c) := HX2.out.cell 8
  have vl : w.heap.size < W2.heap.size := HX2.out.lt
  go_wp2_with fail
  refine (HRM.out _ HB2.out).mono ?_
  rintro e w3 ⟨rfl, hb3⟩
  have HB3 := Lib.hid (HB2.out.trans (hb3.mono HB2.out.size))
  have HX3 := Lib.hid (HX2.out.here hb3)
  have E3 := Lib.hid (E2.out.here hb3)
  clear hb3
  clear v0 v1 v2 v3 v4 v5 v6 v7 v8 vl
  have HB4 := HB3
  have E4 := E3
  go_wp2_with (go_at_call 35; refine (num25_any _ _).mono ?_; rintro e w' ⟨rfl, rfl⟩)
  refine (HCO.out _ E4.out).mono ?_
  rintro e w5 ⟨rfl, hb5⟩
  have HB5 := Lib.hid (HB4.out.trans (hb5.mono HB4.out.size))
  have E5 := Lib.hid (E4.out.here hb5)
  clear hb5
  obtain ⟨W5, hW5⟩ : ∃ W5, w5.alloc (.cells #[.int .i64 0, .int .i64 0, .int .i64 0, .int .i64 0, .int .i64 0, .bool false, .int .u8 0, .bool false, .slice none 0 0] 51) = W5 := ⟨_, rfl⟩
  have HX5 : Hid (Whole W5 w5.heap.size 51 #[.int .i64 0, .int .i64 0, .int .i64 0, .int .i64 0, .int .i64 0, .bool false, .int .u8 0, .bool false, .slice none 0 0]) := Lib.hid (by rw [← hW5]; exact Whole.new w5 _ _)
  have HB6 : Hid (Below w.heap.size w W5) := Lib.hid (by rw [← hW5]; exact HB5.out.alloc HB5.out.size _)
  have E6 : Hid (Env W5) := Lib.hid (by rw [← hW5]; exact E5.out.alloc _)
  have HW5 := Lib.hid hW5
  clear hW5
  go_wp2_with fail
  rw [HW5.out]
  refine (HRO.out _ E6.out).mono ?_
  rintro e w6 ⟨rfl, hb6⟩
  have HB7 := Lib.hid (HB6.out.trans (hb6.mono HB6.out.size))
  have E7 := Lib.hid (E6.out.here hb6)
  have HX7 := Lib.hid (HX5.out.here hb6)
  clear hb6
  obtain ⟨W7, hW7⟩ : ∃ W7, w6.alloc (.cells #[.int .i64 0, .int .i64 0, .int .i64 0, .int .i64 0, .int .i64 0, .bool false, .int .u8 0, .bool false, .slice none 0 0] 51) = W7 := ⟨_, rfl⟩
  have HX8 : Hid (Whole W7 w5.heap.size 51 #[.int .i64 0, .int .i64 0, .int .i64 0, .int .i64 0, .int .i64 0, .bool false, .int .u8 0, .bool false, .slice none 0 0]) := Lib.hid (by rw [← hW7]; exact HX7.out.alloc _)
  have HX9 : Hid (Whole W7 w6.heap.size 51 #[.int .i64 0, .int .i64 0, .int .i64 0, .int .i64 0, .int .i64 0, .bool false, .int .u8 0, .bool false, .slice none 0 0]) := Lib.hid (by rw [← hW7]; exact Whole.new w6 _ _)
  have HB8 : Hid (Below w.heap.size w W7) := Lib.hid (by rw [← hW7]; exact HB7.out.alloc HB7.out.size _)
  have E8 : Hid (Env W7) := Lib.hid (by rw [← hW7]; exact E7.out.alloc _)
  have HSA : Hid (Calls Tryz.prog 38 #[.agg #[.int .i64 0, .int .i64 0, .int .i64 0, .int .i64 0, .int .i64 0, .bool false, .int .u8 0, .bool false, .slice none 0 0], .agg #[.int .i64 0, .int .i64 0, .int .i64 0, .int .i64 0, .int .i64 0, .bool false, .int .u8 0, .bool false, .slice none 0 0]] W7 fun e w' => e = .returned (.bool true) ∧ Below W7.heap.size W7 w') := Lib.hid (by
    have := rsameAct_any { kind := 0 } { kind := 0 } _ _ W7 (Bs.nil _) (Bs.nil _)
    rw [sameA_self] at this
    exact this)
  have HW7 := Lib.hid hW7
  clear hW7
  have p0 : W7.cell? ⟨w5.heap.size, 0, none⟩ = some (.int .i64 0) := HX8.out.cell 0
  have p1 : W7.cell? ⟨w5.heap.size, 1, none⟩ = some (.int .i64 0) := HX8.out.cell 1
  have p2 : W7.cell? ⟨w5.heap.size, 2, none⟩ = some (.int .i64 0) := HX8.out.cell 2
  have p3 : W7.cell? ⟨w5.heap.size, 3, none⟩ = some (.int .i64 0) := HX8.out.cell 3
  have p4 : W7.cell? ⟨w5.heap.size, 4, none⟩ = some (.int .i64 0) := HX8.out.cell 4
  have p5 : W7.cell? ⟨w5.heap.size, 5, none⟩ = some (.bool false) := HX8.out.cell 5
  have p6 : W7.cell? ⟨w5.heap.size, 6, none⟩ = some (.int .u8 0) := HX8.out.cell 6
  have p7 : W7.cell? ⟨w5.heap.size, 7, none⟩ = some (.bool false) := HX8.out.cell 7
  have p8 : W7.cell? ⟨w5.heap.size, 8, none⟩ = some (.slice none 0 0) := HX8.out.cell 8
  have pl : w5.heap.size < W7.heap.size := HX8.out.lt
  have q0 : W7.cell? ⟨w6.heap.size, 0, none⟩ = some (.int .i64 0) := HX9.out.cell 0
  have q1 : W7.cell? ⟨w6.heap.size, 1, none⟩ = some (.int .i64 0) := HX9.out.cell 1
  have q2 : W7.cell? ⟨w6.heap.size, 2, none⟩ = some (.int .i64 0) := HX9.out.cell 2
  have q3 : W7.cell? ⟨w6.heap.size, 3, none⟩ = some (.int .i64 0) := HX9.out.cell 3
  have q4 : W7.cell? ⟨w6.heap.size, 4, none⟩ = some (.int .i64 0) := HX9.out.cell 4
  have q5 : W7.cell? ⟨w6.heap.size, 5, none⟩ = some (.bool false) := HX9.out.cell 5
  have q6 : W7.cell? ⟨w6.heap.size, 6, none⟩ = some (.int .u8 0) := HX9.out.cell 6
  have q7 : W7.cell? ⟨w6.heap.size, 7, none⟩ = some (.bool false) := HX9.out.cell 7
  have q8 : W7.cell? ⟨w6.heap.size, 8, none⟩ = some (.slice none 0 0) := HX9.out.cell 8
  have ql : w6.heap.size < W7.heap.size := HX9.out.lt
  go_upto_region 13 with fail
  rw [HW7.out]
  go_wp2_with fail
  refine HSA.out.mono ?_
  rintro e w8 ⟨rfl, hb8⟩
  have HB9 := Lib.hid (HB8.out.trans (hb8.mono HB8.out.size))
  have E9 := Lib.hid (E8.out.here hb8)
  clear hb8
  clear p0 p1 p2 p3 p4 p5 p6 p7 p8 q0 q1 q2 q3 q4 q5 q6 q7 q8 pl ql
  go_wp2_with (first
    | (go_at_call 35; refine (num25_any _ _).mono ?_; rintro e w' ⟨rfl, rfl⟩)
    | (go_at_call 29; refine (known25_any _ E9.out).mono ?_; rintro e w9 ⟨rfl, hb9⟩))
  go_ret
  exact ⟨by rfl, HB9.out.trans (hb9.mono HB9.out.size)⟩
theorem scriptActs_walk (a : ActP) (bv : Value) (s : List UInt8) (leave : Int) (w : World) (hb : Bs w bv a.bytes) (ia : InA a) (_hl : s.length ≤ maxLen) (E : Env w) :
    Calls Tryz.prog 8 #[actV a bv, .string (str s), .int .i64 leave] w fun e w' => e = .returned (.bool true) ∧ Below w.heap.size w w' := by
  by_cases h : 5000 < a.bytes.length ∨ 20000 < s.length
  · exact scriptActs_long a bv s leave w hb E h
  · have hl : a.bytes.length ≤ 5000 := by omega
    have hs : s.length ≤ 20000 := by omega
    cases hm : mayA a with
    | true => cases ha : actC s with
      | some m => exact scriptActs_yes_act a bv s leave m w hb ia E hl hs hm ha
      | none => exact scriptActs_yes_none a bv s leave w hb ia E hl hs hm ha
    | false => cases ha : actC s with
      | some m => exact scriptActs_no_act a bv s leave m w hb ia E hl hs hm ha
      | none => exact scriptActs_no_none a bv s leave w hb ia E hl hs hm ha
end Go.Proofs.YtfbangojgjcbcaaGreatDoor
namespace Go.Proofs.YtfbangojgjcbcaaGreatDoor.scriptActs
open Go.ChangeShapes Go.WideShapes Go.ChangeAt Go.RowKit Go.Joins
set_option maxRecDepth 100000 in
theorem contract (H : Type) (enc : TypeId × Value → H) (W : World) (base : Nat) (args : Array Value) (ds gs : List (DataW H)) (before : List MemPlace)
    (hval : ∀ (j : Nat) t v, Tryz.f8.params[j]? = some t → args[j]? = some v → Value.okWide Tryz.prog W .any base t v)
    (hW : DataW.Whole enc Tryz.prog Tryz.f8.params.toList Rows.scriptActsSpec.vars false W args.toList ds gs before) (hL : laidMetH Tryz.prog Rows.scriptActsRow.laid W) (hsh : W.ShapedOpen Tryz.prog) :
    Calls Tryz.prog 8 args W fun e W' => ∃ v, e = .returned v ∧ Rows.scriptActsSpec.post enc Tryz.prog Tryz.f8 false true false false W args v W' := by
  have hW' := hW
  obtain ⟨p, q, hA0, hV, rfl, hfz, hnd⟩ := hW
  have hA : DataW.TrodAll enc Tryz.prog W 0 (fun _ => true) true Tryz.f8.params.toList args.toList ds p := hA0
  rw [Tryz.params8] at hA hval
  obtain ⟨v0, vs0, d0, ds0, p0, q0, hargs, rfl, rfl, h0, r0⟩ := trodAll_cons hA
  obtain ⟨v1, vs1, d1, ds1, p1, q1, rfl, rfl, rfl, h1, r1⟩ := trodAll_cons r0
  obtain ⟨v2, vs2, d2, ds2, p2, q2, rfl, rfl, rfl, h2, r2⟩ := trodAll_cons r1
  obtain ⟨rfl, rfl, rfl⟩ := trodAll_nil r2
  obtain rfl : args = #[v0, v1, v2] := by cases args; simp_all
  obtain ⟨rfl, rfl⟩ := trodVars_none hV
  have k0 := h0
  have lt0 : ∀ x ∈ p0, x.block < W.heap.size := by obtain ⟨m, hm⟩ := k0; exact DataW.trod_lt m _ _ _ hm
  have k1 := h1
  have lt1 : ∀ x ∈ p1, x.block < W.heap.size := by obtain ⟨m, hm⟩ := k1; exact DataW.trod_lt m _ _ _ hm
  have k2 := h2
  have lt2 : ∀ x ∈ p2, x.block < W.heap.size := by obtain ⟨m, hm⟩ := k2; exact DataW.trod_lt m _ _ _ hm
  obtain ⟨a0, bv0, rfl, hb0, ia0⟩ := open_act (hval 0 51 v0 rfl rfl) h0
  obtain ⟨l1, rfl, hb1⟩ := open_str (hval 1 9 v1 rfl rfl) h1
  obtain ⟨a2, rfl⟩ := open_i64 (hval 2 3 v2 rfl rfl) h2
  clear hA0
  refine (scriptActs_walk a0 bv0 l1 a2 W hb0 ia0 hb1 (env_of hL hsh)).mono fun e W' ⟨he, bel⟩ => ?_
  subst he
  exact ⟨_, rfl, _, _, _, [], _, [], hW', trodAll_mk1 (shut_bool Tryz.underlying4 _), (trodAll_cons_mk (Below.trod laidOut (by kernel_rfl) (of_decide_eq_true (by kernel_rfl)) k0 bel lt0) (trodAll_cons_mk (Below.trod laidOut (by kernel_rfl) (of_decide_eq_true (by kernel_rfl)) k1 bel lt1) (trodAll_cons_mk (Below.trod laidOut (by kernel_rfl) (of_decide_eq_true (by kernel_rfl)) k2 bel lt2) trodAll_mk0))), rfl, bel.frame _, fun h => by cases h⟩
theorem reads (os : Os) {H : Type} (enc : TypeId × Value → H) : ∃ places, DataW.whole enc Tryz.prog ((laidWorld os).forCall (fun _ _ => 0) ⟨#[], #[.agg #[.int .i64 0, .int .i64 0, .int .i64 0, .int .i64 0, .int .i64 0, .bool false, .int .u8 0, .bool false, .slice none 0 0], .string ⟨#[]⟩, .int .i64 0], []⟩).memory Tryz.f8.params.toList Rows.scriptActsSpec.vars false (#[.agg #[.int .i64 0, .int .i64 0, .int .i64 0, .int .i64 0, .int .i64 0, .bool false, .int .u8 0, .bool false, .slice none 0 0], .string ⟨#[]⟩, .int .i64 0] : Array Value).toList 8 = some ([.agg [.lit (.int .i64 0), .lit (.int .i64 0), .lit (.int .i64 0), .lit (.int .i64 0), .lit (.int .i64 0), .lit (.bool false), .lit (.int .u8 0), .lit (.bool false), .nil], .lit (.string []), .lit (.int .i64 0)], [], places) :=
  ⟨[], by kernel_rfl⟩
set_option maxRecDepth 100000 in
theorem lifted (os : Os) (started : os.Started) (H : Type) (enc : TypeId × Value → H) (F : Stop.Interp) :
    ReturnsInHanded {} Tryz.checked os 8 .any ((OpenSpec.ofChange Rows.scriptActsSpec).preRow enc Tryz.prog Tryz.f8 Rows.scriptActsRow.domain false Rows.scriptActsRow.laid) (((OpenSpec.ofChange Rows.scriptActsSpec).at F).post enc Tryz.prog Tryz.f8 false true false false) := by
  obtain ⟨places, hx⟩ := reads os enc
  refine returnsInHanded_of_row (C := Tryz.checked) (s := OpenSpec.ofChange Rows.scriptActsSpec) own started (by kernel_rfl) Tryz.func8
    (witness_row_atRef (enc := enc) (C := Tryz.checked) false (laidWorld os) #[.agg #[.int .i64 0, .int .i64 0, .int .i64 0, .int .i64 0, .int .i64 0, .bool false, .int .u8 0, .bool false, .slice none 0 0], .string ⟨#[]⟩, .int .i64 0] rfl (by kernel_rfl) (by kernel_rfl) (by kernel_rfl)
      (OpenSpec.preRow_of_cond 8 hx (by kernel_rfl) (fun k hk => by cases hk) (by kernel_rfl) (laid_met os _))) ?_
  intro W base args ds gs before hval hW _ _ _ hL hsh _
  exact contract H enc W base args ds gs before hval hW hL hsh
theorem said : Rows.ScriptActsSaid :=
  OpenClaim.holds_of_cond 8 Tryz.f8 rfl rfl rfl rfl rfl rfl rfl ⟨rfl, rfl, rfl, rfl, rfl⟩ rfl rfl rfl rfl rfl (by kernel_rfl) Tryz.func8 (by kernel_rfl)
    (of_decide_eq_true (by kernel_rfl)) (by unfold Func.isWrapper; first | (rw [if_pos (by decide +kernel)]; kernel_rfl) | (rw [if_neg (by decide +kernel)]; exact ⟨rfl, rfl⟩))
    (fun os started H enc _ F => by rw [OpenClaim.pre_eq_preRow]; exact lifted os started H enc F)
theorem plain (f : FuncId) (fn : Func) (hf : Tryz.pinned.checked.prog.funcNamed "guidepost/guidepostlaw25.ScriptActs" = some f) (hfn : Tryz.pinned.checked.prog.funcs[f]? = some fn) :
    true = Tryz.pinned.checked.prog.looks [] ∧ ∀ (j : Nat) t, fn.params[j]? = some t → Tryz.pinned.checked.prog.wantsStandIn t = false := by
  obtain rfl : f = 8 := Option.some.inj ((show Tryz.prog.funcNamed "guidepost/guidepostlaw25.ScriptActs" = some 8 by kernel_rfl).symm.trans hf) |>.symm
  obtain rfl : fn = Tryz.f8 := (Option.some.inj (Tryz.func8.symm.trans hfn)).symm
  refine ⟨by kernel_rfl, fun j t ht => ?_⟩
  rw [Tryz.params8] at ht
  have hm : t ∈ [51, 9, 3] := by have := Array.mem_of_getElem? ht; simp at this ⊢; omega
  simp only [List.mem_cons, List.not_mem_nil, or_false] at hm
  rcases hm with rfl | rfl | rfl
  · exact (show Tryz.prog.wantsStandIn 51 = false by kernel_rfl)
  · exact (show Tryz.prog.wantsStandIn 9 = false by kernel_rfl)
  · exact (show Tryz.prog.wantsStandIn 3 = false by kernel_rfl)
/-- The card. -/
theorem card : Rows.ScriptActsCardSaid :=
  Claim7.holds_tied_plain_at .later [] _ _ _ _ said (fun _ h => by cases h) (by kernel_rfl) (fun _ h => by cases h) scriptActs_row_tie rfl ⟨rfl, rfl⟩ (by kernel_rfl) rfl plain (by kernel_rfl)
#print axioms card
end Go.Proofs.YtfbangojgjcbcaaGreatDoor.scriptActs
