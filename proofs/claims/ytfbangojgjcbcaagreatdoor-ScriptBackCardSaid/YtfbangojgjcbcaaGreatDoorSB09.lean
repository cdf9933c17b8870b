/- Part 9 of the proof: ConfEr, ActB, ActC, SameS, SamS. -/
import Derived.Test.YtfbangojgjcbcaaGreatDoorSB02
import Derived.Test.YtfbangojgjcbcaaGreatDoorSB04
import Derived.Test.YtfbangojgjcbcaaGreatDoorSB08
namespace Go.Proofs.YtfbangojgjcbcaaGreatDoor
open Go.RowKit Pl
theorem take_ne {ps qs : List Pr} {j : Nat} {u v : Pr} (hu : ps[j]? = some u) (hv : qs[j]? = some v) (h : u ≠ v) : decide (ps = qs) = false :=
  decide_eq_false fun e => h (by subst e; rw [hu] at hv; injection hv)
theorem take_next {ps qs : List Pr} {j : Nat} {u : Pr} (hu : ps[j]? = some u) (hv : qs[j]? = some u) (h : ps.take j = qs.take j) : ps.take (j + 1) = qs.take (j + 1) := by
  rw [List.take_add_one, List.take_add_one, hu, hv, h]
theorem take_all {ps qs : List Pr} (hl : ps.length = qs.length) (h : ps.take ps.length = qs.take ps.length) : decide (ps = qs) = true := by
  rw [List.take_length] at h
  rw [hl, List.take_length] at h
  exact decide_eq_true h
set_option maxRecDepth 100000 in
set_option maxHeartbeats 2000000 in
theorem equalP_any (v v' : Value) (ps qs : List Pr) (w : World) (h : Rs .u32 w v ps) (h' : Rs .u32 w v' qs) (hl : ps.length ≤ 1000000) (_hl' : qs.length ≤ 1000000) :
    Calls Tryz.prog 73 #[v, v'] w fun e w' => e = .returned (.bool (decide (ps = qs))) ∧ Below w.heap.size w w' := by
  have HP := Lib.hid h
  have HQ := Lib.hid h'
  obtain ⟨A, k1, rfl, _⟩ := h
  obtain ⟨B, k2, rfl, _⟩ := h'
  by_cases hn : ps.length = qs.length
  · have HN := Lib.hid hn
    have d1 : ((ps.length : Int) != (qs.length : Int)) = false := by simp [hn]
    clear hn
    go_enter Tryz.func73, Tryz.ntmps73
    go_wp2
    go_loopw [13] (fun i wr => ∃ j : Nat, j ≤ ps.length ∧ i = .int .i64 j ∧ Hid (ps.take j = qs.take j) ∧ Hid (Below w.heap.size w wr)) (fun i _ => ps.length - (intOf i).toNat)
    case atStart => exact ⟨0, Nat.zero_le _, rfl, Lib.hid rfl, Lib.hid (Below.refl _ _)⟩
    case round =>
      obtain ⟨j, hj, rfl, HT, HB⟩ := hrel
      by_cases hlt : j < ps.length
      · have hlt' : j < qs.length := by have := HN.out; omega
        obtain ⟨⟨ua, un⟩, hu⟩ : ∃ u, ps[j]? = some u := ⟨_, List.getElem?_eq_getElem hlt⟩
        obtain ⟨⟨va, vn⟩, hv⟩ : ∃ u, qs[j]? = some u := ⟨_, List.getElem?_eq_getElem hlt'⟩
        obtain ⟨b1, o1, rfl, hb1, p0, p1⟩ := (HP.out.below HB.out).at hu
        obtain ⟨b2, o2, rfl, hb2, q0, q1⟩ := (HQ.out.below HB.out).at hv
        simp only at p0 p1 q0 q1
        have HU := Lib.hid hu
        have HV := Lib.hid hv
        clear hu hv
        by_cases e1 : ua = va
        · subst e1
          by_cases e2 : un = vn
          · subst e2
            have HT2 := Lib.hid (take_next HU.out HV.out HT.out)
            go_wp2
            go_region
            go_wp2
            go_roundw
            case rel => exact ⟨j + 1, by omega, by go_num, HT2, Lib.hid HB.out.drew⟩
            case measure => simp [intOf]; omega
          · have HF := Lib.hid (take_ne HU.out HV.out (fun e => e2 (by injection e)))
            have d2 : (un == vn) = false := by simpa using e2
            clear e2
            go_wp2
            go_region
            go_wp2
            go_ret
            exact ⟨by rw [HF.out]; rfl, HB.out.drew⟩
        · have HF := Lib.hid (take_ne HU.out HV.out (fun e => e1 (by injection e)))
          have d2 : (ua == va) = false := by simpa using e1
          clear e1
          go_wp2
          go_region
          go_wp2
          go_ret
          exact ⟨by rw [HF.out]; rfl, HB.out.drew⟩
      · obtain rfl : j = ps.length := by omega
        have HF := Lib.hid (take_all HN.out HT.out)
        go_wp2
        go_ret
        exact ⟨by rw [HF.out]; rfl, HB.out⟩
  · have d1 : ((ps.length : Int) != (qs.length : Int)) = true := by simp; omega
    have HF : Hid (decide (ps = qs) = false) := Lib.hid (decide_eq_false fun e => hn (by rw [e]))
    clear hn
    go_enter Tryz.func73, Tryz.ntmps73
    go_wp2
    go_ret
    exact ⟨by rw [HF.out]; rfl, Below.refl _ _⟩
set_option maxRecDepth 100000 in
set_option maxHeartbeats 2000000 in
theorem equalO_any (v v' : Value) (ps qs : List Pr) (w : World) (h : Rs .i64 w v ps) (h' : Rs .i64 w v' qs) (hl : ps.length ≤ 1000000) (_hl' : qs.length ≤ 1000000) :
    Calls Tryz.prog 74 #[v, v'] w fun e w' => e = .returned (.bool (decide (ps = qs))) ∧ Below w.heap.size w w' := by
  have HP := Lib.hid h
  have HQ := Lib.hid h'
  obtain ⟨A, k1, rfl, _⟩ := h
  obtain ⟨B, k2, rfl, _⟩ := h'
  by_cases hn : ps.length = qs.length
  · have HN := Lib.hid hn
    have d1 : ((ps.length : Int) != (qs.length : Int)) = false := by simp [hn]
    clear hn
    go_enter Tryz.func74, Tryz.ntmps74
    go_wp2
    go_loopw [13] (fun i wr => ∃ j : Nat, j ≤ ps.length ∧ i = .int .i64 j ∧ Hid (ps.take j = qs.take j) ∧ Hid (Below w.heap.size w wr)) (fun i _ => ps.length - (intOf i).toNat)
    case atStart => exact ⟨0, Nat.zero_le _, rfl, Lib.hid rfl, Lib.hid (Below.refl _ _)⟩
    case round =>
      obtain ⟨j, hj, rfl, HT, HB⟩ := hrel
      by_cases hlt : j < ps.length
      · have hlt' : j < qs.length := by have := HN.out; omega
        obtain ⟨⟨ua, un⟩, hu⟩ : ∃ u, ps[j]? = some u := ⟨_, List.getElem?_eq_getElem hlt⟩
        obtain ⟨⟨va, vn⟩, hv⟩ : ∃ u, qs[j]? = some u := ⟨_, List.getElem?_eq_getElem hlt'⟩
        obtain ⟨b1, o1, rfl, hb1, p0, p1⟩ := (HP.out.below HB.out).at hu
        obtain ⟨b2, o2, rfl, hb2, q0, q1⟩ := (HQ.out.below HB.out).at hv
        simp only at p0 p1 q0 q1
        have HU := Lib.hid hu
        have HV := Lib.hid hv
        clear hu hv
        by_cases e1 : ua = va
        · subst e1
          by_cases e2 : un = vn
          · subst e2
            have HT2 := Lib.hid (take_next HU.out HV.out HT.out)
            go_wp2
            go_region
            go_wp2
            go_roundw
            case rel => exact ⟨j + 1, by omega, by go_num, HT2, Lib.hid HB.out.drew⟩
            case measure => simp [intOf]; omega
          · have HF := Lib.hid (take_ne HU.out HV.out (fun e => e2 (by injection e)))
            have d2 : (un == vn) = false := by simpa using e2
            clear e2
            go_wp2
            go_region
            go_wp2
            go_ret
            exact ⟨by rw [HF.out]; rfl, HB.out.drew⟩
        · have HF := Lib.hid (take_ne HU.out HV.out (fun e => e1 (by injection e)))
          have d2 : (ua == va) = false := by simpa using e1
          clear e1
          go_wp2
          go_region
          go_wp2
          go_ret
          exact ⟨by rw [HF.out]; rfl, HB.out.drew⟩
      · obtain rfl : j = ps.length := by omega
        have HF := Lib.hid (take_all HN.out HT.out)
        go_wp2
        go_ret
        exact ⟨by rw [HF.out]; rfl, HB.out⟩
  · have d1 : ((ps.length : Int) != (qs.length : Int)) = true := by simp; omega
    have HF : Hid (decide (ps = qs) = false) := Lib.hid (decide_eq_false fun e => hn (by rw [e]))
    clear hn
    go_enter Tryz.func74, Tryz.ntmps74
    go_wp2
    go_ret
    exact ⟨by rw [HF.out]; rfl, Below.refl _ _⟩
def eqRest (c d : Cfg) : Bool := decide (c.hello = d.hello) && decide (c.dead = d.dead) && decide (c.again = d.again) && decide (c.room = d.room) && decide (c.queue = d.queue) && decide (c.tokens = d.tokens) && decide (c.refill = d.refill)
/-- Are two configurations the same? -/
def sameC (c d : Cfg) : Bool := decide (c.node = d.node) && decide (c.addr = d.addr) && decide (c.own = d.own) && decide (c.ports = d.ports) && eqRest c d
theorem sameC_self (c : Cfg) : sameC c c = true := by simp [sameC, eqRest]
theorem sameC_eq {c d : Cfg} (h : sameC c d = true) : c = d := by
  obtain ⟨c1, c2, c3, c4, c5, c6, c7, c8, c9, c10, c11⟩ := c
  obtain ⟨d1, d2, d3, d4, d5, d6, d7, d8, d9, d10, d11⟩ := d
  simp only [sameC, eqRest, Bool.and_eq_true, decide_eq_true_eq] at h
  simp only [Cfg.mk.injEq]
  obtain ⟨⟨⟨⟨h1, h2⟩, h3⟩, h4⟩, ⟨⟨⟨⟨⟨h5, h6⟩, h7⟩, h8⟩, h9⟩, h10⟩, h11⟩ := h
  exact ⟨h1, h2, h3, h4, h5, h6, h7, h8, h9, h10, h11⟩
set_option maxRecDepth 100000 in
set_option maxHeartbeats 8000000 in
theorem csame_any (v v' : Value) (c d : Cfg) (w : World) (h : CfgIs w v c) (h' : CfgIs w v' d) (hl : c.own.length ≤ 1000000) (hp : c.ports.length ≤ 1000000) (hl' : d.own.length ≤ 1000000) (hp' : d.ports.length ≤ 1000000) :
    Calls Tryz.prog 26 #[v, v'] w fun e w' => e = .returned (.bool (sameC c d)) ∧ Below w.heap.size w w' := by
  obtain ⟨own, ports, rfl, hO, hP⟩ := h.is
  obtain ⟨own', ports', rfl, hO', hP'⟩ := h'.is
  have HO := Lib.hid hO
  have HP := Lib.hid hP
  have HO' := Lib.hid hO'
  have HP' := Lib.hid hP'
  obtain ⟨A1, k1, rfl, -⟩ := hO
  obtain ⟨A2, k2, rfl, -⟩ := hP
  obtain ⟨B1, l1, rfl, -⟩ := hO'
  obtain ⟨B2, l2, rfl, -⟩ := hP'
  clear h h'
  unfold cfgV
  obtain ⟨W0, hW0⟩ : ∃ W0, (w.alloc (.cells #[.int .i64 c.node, .int .u32 c.addr, .slice A1 c.own.length k1, .slice A2 c.ports.length k2, .int .i64 c.hello, .int .i64 c.dead, .int .i64 c.again, .int .i64 c.room, .int .i64 c.queue, .int .i64 c.tokens, .int .i64 c.refill] 28)).alloc (.cells #[.int .i64 d.node, .int .u32 d.addr, .slice B1 d.own.length l1, .slice B2 d.ports.length l2, .int .i64 d.hello, .int .i64 d.dead, .int .i64 d.again, .int .i64 d.room, .int .i64 d.queue, .int .i64 d.tokens, .int .i64 d.refill] 28) = W0 := ⟨_, rfl⟩
  have HB0 : Hid (Below w.heap.size w W0) := Lib.hid (by rw [← hW0]; exact ((Below.refl _ _).alloc (Nat.le_refl _) _).alloc (by simp) _)
  have HX1 : Hid (Whole W0 w.heap.size 28 #[.int .i64 c.node, .int .u32 c.addr, .slice A1 c.own.length k1, .slice A2 c.ports.length k2, .int .i64 c.hello, .int .i64 c.dead, .int .i64 c.again, .int .i64 c.room, .int .i64 c.queue, .int .i64 c.tokens, .int .i64 c.refill]) := Lib.hid (by rw [← hW0]; exact (Whole.new w _ _).alloc _)
  have HX2 : Hid (Whole W0 (w.heap.size + 1) 28 #[.int .i64 d.node, .int .u32 d.addr, .slice B1 d.own.length l1, .slice B2 d.ports.length l2, .int .i64 d.hello, .int .i64 d.dead, .int .i64 d.again, .int .i64 d.room, .int .i64 d.queue, .int .i64 d.tokens, .int .i64 d.refill]) := Lib.hid (by
    rw [← hW0]
    have := Whole.new (w.alloc (.cells #[.int .i64 c.node, .int .u32 c.addr, .slice A1 c.own.length k1, .slice A2 c.ports.length k2, .int .i64 c.hello, .int .i64 c.dead, .int .i64 c.again, .int .i64 c.room, .int .i64 c.queue, .int .i64 c.tokens, .int .i64 c.refill] 28)) 28 #[.int .i64 d.node, .int .u32 d.addr, .slice B1 d.own.length l1, .slice B2 d.ports.length l2, .int .i64 d.hello, .int .i64 d.dead, .int .i64 d.again, .int .i64 d.room, .int .i64 d.queue, .int .i64 d.tokens, .int .i64 d.refill]
    simpa using this)
  have hlt1 := HX1.out.lt
  have hlt2 := HX2.out.lt
  have HW0 := Lib.hid hW0
  clear hW0
  have y0 : W0.cell? ⟨w.heap.size, 0, none⟩ = some (.int .i64 c.node) := HX1.out.cell 0
  have z0 : W0.cell? ⟨w.heap.size + 1, 0, none⟩ = some (.int .i64 d.node) := HX2.out.cell 0
  have y1 : W0.cell? ⟨w.heap.size, 1, none⟩ = some (.int .u32 c.addr) := HX1.out.cell 1
  have z1 : W0.cell? ⟨w.heap.size + 1, 1, none⟩ = some (.int .u32 d.addr) := HX2.out.cell 1
  have y2 : W0.cell? ⟨w.heap.size, 2, none⟩ = some (.slice A1 c.own.length k1) := HX1.out.cell 2
  have z2 : W0.cell? ⟨w.heap.size + 1, 2, none⟩ = some (.slice B1 d.own.length l1) := HX2.out.cell 2
  have y3 : W0.cell? ⟨w.heap.size, 3, none⟩ = some (.slice A2 c.ports.length k2) := HX1.out.cell 3
  have z3 : W0.cell? ⟨w.heap.size + 1, 3, none⟩ = some (.slice B2 d.ports.length l2) := HX2.out.cell 3
  have y4 : W0.cell? ⟨w.heap.size, 4, none⟩ = some (.int .i64 c.hello) := HX1.out.cell 4
  have z4 : W0.cell? ⟨w.heap.size + 1, 4, none⟩ = some (.int .i64 d.hello) := HX2.out.cell 4
  have y5 : W0.cell? ⟨w.heap.size, 5, none⟩ = some (.int .i64 c.dead) := HX1.out.cell 5
  have z5 : W0.cell? ⟨w.heap.size + 1, 5, none⟩ = some (.int .i64 d.dead) := HX2.out.cell 5
  have y6 : W0.cell? ⟨w.heap.size, 6, none⟩ = some (.int .i64 c.again) := HX1.out.cell 6
  have z6 : W0.cell? ⟨w.heap.size + 1, 6, none⟩ = some (.int .i64 d.again) := HX2.out.cell 6
  have y7 : W0.cell? ⟨w.heap.size, 7, none⟩ = some (.int .i64 c.room) := HX1.out.cell 7
  have z7 : W0.cell? ⟨w.heap.size + 1, 7, none⟩ = some (.int .i64 d.room) := HX2.out.cell 7
  have y8 : W0.cell? ⟨w.heap.size, 8, none⟩ = some (.int .i64 c.queue) := HX1.out.cell 8
  have z8 : W0.cell? ⟨w.heap.size + 1, 8, none⟩ = some (.int .i64 d.queue) := HX2.out.cell 8
  have y9 : W0.cell? ⟨w.heap.size, 9, none⟩ = some (.int .i64 c.tokens) := HX1.out.cell 9
  have z9 : W0.cell? ⟨w.heap.size + 1, 9, none⟩ = some (.int .i64 d.tokens) := HX2.out.cell 9
  have y10 : W0.cell? ⟨w.heap.size, 10, none⟩ = some (.int .i64 c.refill) := HX1.out.cell 10
  have z10 : W0.cell? ⟨w.heap.size + 1, 10, none⟩ = some (.int .i64 d.refill) := HX2.out.cell 10
  have HEP : Hid (Calls Tryz.prog 73 #[.slice A1 c.own.length k1, .slice B1 d.own.length l1] W0 fun e w' => e = .returned (.bool (decide (c.own = d.own))) ∧ Below W0.heap.size W0 w') := Lib.hid (equalP_any _ _ _ _ _ (HO.out.below HB0.out) (HO'.out.below HB0.out) hl hl')
  have HEO : Hid (∀ y : Ext W0, Calls Tryz.prog 74 #[.slice A2 c.ports.length k2, .slice B2 d.ports.length l2] y.w fun e w' => e = .returned (.bool (decide (c.ports = d.ports))) ∧ Below y.w.heap.size y.w w') := Lib.hid (fun y => equalO_any _ _ _ _ _ ((HP.out.below HB0.out).below y.below) ((HP'.out.below HB0.out).below y.below) hp hp')
  clear HX1 HX2
  go_enter Tryz.func26, Tryz.ntmps26
  go_upto_region 1 with fail
  rw [HW0.out]
  go_cut [5] (fun s wx => s = .bool (eqRest c d) ∧ wx = W0)
  case first =>
    by_cases e0 : c.hello = d.hello
    · have q0 : (c.hello == d.hello) = true := by simpa using e0
      have r0 : decide (c.hello = d.hello) = true := decide_eq_true e0
      by_cases e1 : c.dead = d.dead
      · have q1 : (c.dead == d.dead) = true := by simpa using e1
        have r1 : decide (c.dead = d.dead) = true := decide_eq_true e1
        by_cases e2 : c.again = d.again
        · have q2 : (c.again == d.again) = true := by simpa using e2
          have r2 : decide (c.again = d.again) = true := decide_eq_true e2
          by_cases e3 : c.room = d.room
          · have q3 : (c.room == d.room) = true := by simpa using e3
            have r3 : decide (c.room = d.room) = true := decide_eq_true e3
            by_cases e4 : c.queue = d.queue
            · have q4 : (c.queue == d.queue) = true := by simpa using e4
              have r4 : decide (c.queue = d.queue) = true := decide_eq_true e4
              by_cases e5 : c.tokens = d.tokens
              · have q5 : (c.tokens == d.tokens) = true := by simpa using e5
                have r5 : decide (c.tokens = d.tokens) = true := decide_eq_true e5
                by_cases e6 : c.refill = d.refill
                · have q6 : (c.refill == d.refill) = true := by simpa using e6
                  have r6 : decide (c.refill = d.refill) = true := decide_eq_true e6
                  have HR : Hid (eqRest c d = true) := Lib.hid (by unfold eqRest; rw [r0, r1, r2, r3, r4, r5, r6]; rfl)
                  clear e0 r0 e1 r1 e2 r2 e3 r3 e4 r4 e5 r5 e6 r6
                  go_wp2
                  go_meet
                  exact ⟨by rw [HR.out], rfl⟩
                · have q6 : (c.refill == d.refill) = false := by simpa using e6
                  have r6 : decide (c.refill = d.refill) = false := decide_eq_false e6
                  have HR : Hid (eqRest c d = false) := Lib.hid (by unfold eqRest; rw [r6]; simp)
                  clear e0 r0 e1 r1 e2 r2 e3 r3 e4 r4 e5 r5 e6 r6
                  go_wp2
                  go_meet
                  exact ⟨by rw [HR.out], rfl⟩
              · have q5 : (c.tokens == d.tokens) = false := by simpa using e5
                have r5 : decide (c.tokens = d.tokens) = false := decide_eq_false e5
                have HR : Hid (eqRest c d = false) := Lib.hid (by unfold eqRest; rw [r5]; simp)
                clear e0 r0 e1 r1 e2 r2 e3 r3 e4 r4 e5 r5
                go_wp2
                go_meet
                exact ⟨by rw [HR.out], rfl⟩
            · have q4 : (c.queue == d.queue) = false := by simpa using e4
              have r4 : decide (c.queue = d.queue) = false := decide_eq_false e4
              have HR : Hid (eqRest c d = false) := Lib.hid (by unfold eqRest; rw [r4]; simp)
              clear e0 r0 e1 r1 e2 r2 e3 r3 e4 r4
              go_wp2
              go_meet
              exact ⟨by rw [HR.out], rfl⟩
          · have q3 : (c.room == d.room) = false := by simpa using e3
            have r3 : decide (c.room = d.room) = false := decide_eq_false e3
            have HR : Hid (eqRest c d = false) := Lib.hid (by unfold eqRest; rw [r3]; simp)
            clear e0 r0 e1 r1 e2 r2 e3 r3
            go_wp2
            go_meet
            exact ⟨by rw [HR.out], rfl⟩
        · have q2 : (c.again == d.again) = false := by simpa using e2
          have r2 : decide (c.again = d.again) = false := decide_eq_false e2
          have HR : Hid (eqRest c d = false) := Lib.hid (by unfold eqRest; rw [r2]; simp)
          clear e0 r0 e1 r1 e2 r2
          go_wp2
          go_meet
          exact ⟨by rw [HR.out], rfl⟩
      · have q1 : (c.dead == d.dead) = false := by simpa using e1
        have r1 : decide (c.dead = d.dead) = false := decide_eq_false e1
        have HR : Hid (eqRest c d = false) := Lib.hid (by unfold eqRest; rw [r1]; simp)
        clear e0 r0 e1 r1
        go_wp2
        go_meet
        exact ⟨by rw [HR.out], rfl⟩
    · have q0 : (c.hello == d.hello) = false := by simpa using e0
      have r0 : decide (c.hello = d.hello) = false := decide_eq_false e0
      have HR : Hid (eqRest c d = false) := Lib.hid (by unfold eqRest; rw [r0]; simp)
      clear e0 r0
      go_wp2
      go_meet
      exact ⟨by rw [HR.out], rfl⟩
  case rest =>
    obtain ⟨rfl, rfl⟩ := hcut
    clear y4 z4 y5 z5 y6 z6 y7 z7 y8 z8 y9 z9 y10 z10
    have HS : Hid (sameC c d = (decide (c.node = d.node) && decide (c.addr = d.addr) && decide (c.own = d.own) && decide (c.ports = d.ports) && eqRest c d)) := Lib.hid rfl
    by_cases e0 : c.node = d.node
    · have q0 : (c.node == d.node) = true := by simpa using e0
      have r0 : decide (c.node = d.node) = true := decide_eq_true e0
      by_cases e1 : c.addr = d.addr
      · have q1 : (c.addr == d.addr) = true := by simpa using e1
        have r1 : decide (c.addr = d.addr) = true := decide_eq_true e1
        rw [r0, r1] at HS
        clear e0 e1 r0 r1
        cases ho : decide (c.own = d.own) with
        | true =>
          rw [ho] at HEP HS
          clear ho
          cases hq : decide (c.ports = d.ports) with
          | true =>
            rw [hq] at HEO HS
            clear hq
            go_wp2_with (first
              | (go_at_call 73; refine (ext_of HEP.out).mono ?_; rintro e w' ⟨rfl, y, rfl⟩)
              | (go_at_call 74; refine (ext_of (HEO.out y)).mono ?_; rintro e w' ⟨rfl, y2, rfl⟩))
            go_ret
            exact ⟨by rw [HS.out]; rfl, HB0.out.trans ((y.below.trans (y2.below.mono y.below.size)).mono HB0.out.size)⟩
          | false =>
            rw [hq] at HEO HS
            clear hq
            go_wp2_with (first
              | (go_at_call 73; refine (ext_of HEP.out).mono ?_; rintro e w' ⟨rfl, y, rfl⟩)
              | (go_at_call 74; refine (ext_of (HEO.out y)).mono ?_; rintro e w' ⟨rfl, y2, rfl⟩))
            go_ret
            exact ⟨by rw [HS.out]; rfl, HB0.out.trans ((y.below.trans (y2.below.mono y.below.size)).mono HB0.out.size)⟩
        | false =>
          rw [ho] at HEP HS
          clear ho
          go_wp2_with (first
            | (go_at_call 73; refine (ext_of HEP.out).mono ?_; rintro e w' ⟨rfl, y, rfl⟩))
          go_ret
          exact ⟨by rw [HS.out]; simp, HB0.out.trans (y.below.mono HB0.out.size)⟩
      · have q1 : (c.addr == d.addr) = false := by simpa using e1
        have r1 : decide (c.addr = d.addr) = false := decide_eq_false e1
        rw [r0, r1] at HS
        clear e0 e1 r0 r1
        go_wp2
        go_ret
        exact ⟨by rw [HS.out]; simp, HB0.out⟩
    · have q0 : (c.node == d.node) = false := by simpa using e0
      have r0 : decide (c.node = d.node) = false := decide_eq_false e0
      rw [r0] at HS
      clear e0 r0
      go_wp2
      go_ret
      exact ⟨by rw [HS.out]; simp, HB0.out⟩
end Go.Proofs.YtfbangojgjcbcaaGreatDoor
namespace Go.Proofs.YtfbangojgjcbcaaGreatDoor
open Go.RowKit Pl
theorem same_own {c d : Cfg} (h : decide (c.own = d.own) = false) : sameC c d = false := by unfold sameC; rw [h]; simp
theorem same_ports {c d : Cfg} (h : decide (c.ports = d.ports) = false) : sameC c d = false := by unfold sameC; rw [h]; simp
set_option maxRecDepth 100000 in
set_option maxHeartbeats 8000000 in
theorem rsame_any (v v' : Value) (c d : Cfg) (w : World) (h : CfgIs w v c) (h' : CfgIs w v' d) (hl : c.own.length ≤ 1000000) (hp : c.ports.length ≤ 1000000) (_hl' : d.own.length ≤ 1000000) (_hp' : d.ports.length ≤ 1000000) :
    Calls Tryz.prog 16 #[v, v'] w fun e w' => e = .returned (.bool (sameC c d)) ∧ Below w.heap.size w w' := by
  obtain ⟨own, ports, rfl, hO, hP⟩ := h.is
  obtain ⟨own', ports', rfl, hO', hP'⟩ := h'.is
  have HO := Lib.hid hO
  have HP := Lib.hid hP
  have HO' := Lib.hid hO'
  have HP' := Lib.hid hP'
  obtain ⟨A1, k1, rfl, -⟩ := hO
  obtain ⟨A2, k2, rfl, -⟩ := hP
  obtain ⟨B1, l1, rfl, -⟩ := hO'
  obtain ⟨B2, l2, rfl, -⟩ := hP'
  clear h h'
  unfold cfgV
  obtain ⟨W0, hW0⟩ : ∃ W0, (w.alloc (.cells #[.int .i64 c.node, .int .u32 c.addr, .slice A1 c.own.length k1, .slice A2 c.ports.length k2, .int .i64 c.hello, .int .i64 c.dead, .int .i64 c.again, .int .i64 c.room, .int .i64 c.queue, .int .i64 c.tokens, .int .i64 c.refill] 28)).alloc (.cells #[.int .i64 d.node, .int .u32 d.addr, .slice B1 d.own.length l1, .slice B2 d.ports.length l2, .int .i64 d.hello, .int .i64 d.dead, .int .i64 d.again, .int .i64 d.room, .int .i64 d.queue, .int .i64 d.tokens, .int .i64 d.refill] 28) = W0 := ⟨_, rfl⟩
  have HB0 : Hid (Below w.heap.size w W0) := Lib.hid (by rw [← hW0]; exact ((Below.refl _ _).alloc (Nat.le_refl _) _).alloc (by simp) _)
  have HX1 : Hid (Whole W0 w.heap.size 28 #[.int .i64 c.node, .int .u32 c.addr, .slice A1 c.own.length k1, .slice A2 c.ports.length k2, .int .i64 c.hello, .int .i64 c.dead, .int .i64 c.again, .int .i64 c.room, .int .i64 c.queue, .int .i64 c.tokens, .int .i64 c.refill]) := Lib.hid (by rw [← hW0]; exact (Whole.new w _ _).alloc _)
  have HX2 : Hid (Whole W0 (w.heap.size + 1) 28 #[.int .i64 d.node, .int .u32 d.addr, .slice B1 d.own.length l1, .slice B2 d.ports.length l2, .int .i64 d.hello, .int .i64 d.dead, .int .i64 d.again, .int .i64 d.room, .int .i64 d.queue, .int .i64 d.tokens, .int .i64 d.refill]) := Lib.hid (by
    rw [← hW0]
    have := Whole.new (w.alloc (.cells #[.int .i64 c.node, .int .u32 c.addr, .slice A1 c.own.length k1, .slice A2 c.ports.length k2, .int .i64 c.hello, .int .i64 c.dead, .int .i64 c.again, .int .i64 c.room, .int .i64 c.queue, .int .i64 c.tokens, .int .i64 c.refill] 28)) 28 #[.int .i64 d.node, .int .u32 d.addr, .slice B1 d.own.length l1, .slice B2 d.ports.length l2, .int .i64 d.hello, .int .i64 d.dead, .int .i64 d.again, .int .i64 d.room, .int .i64 d.queue, .int .i64 d.tokens, .int .i64 d.refill]
    simpa using this)
  have hlt1 := HX1.out.lt
  have hlt2 := HX2.out.lt
  have HW0 := Lib.hid hW0
  clear hW0
  have y2 : W0.cell? ⟨w.heap.size, 2, none⟩ = some (.slice A1 c.own.length k1) := HX1.out.cell 2
  have z2 : W0.cell? ⟨w.heap.size + 1, 2, none⟩ = some (.slice B1 d.own.length l1) := HX2.out.cell 2
  have y3 : W0.cell? ⟨w.heap.size, 3, none⟩ = some (.slice A2 c.ports.length k2) := HX1.out.cell 3
  have z3 : W0.cell? ⟨w.heap.size + 1, 3, none⟩ = some (.slice B2 d.ports.length l2) := HX2.out.cell 3
  by_cases hn : c.own.length = d.own.length
  · have d1 : ((c.own.length : Int) != (d.own.length : Int)) = false := by simp [hn]
    have HN := Lib.hid hn
    clear hn
    by_cases hq : c.ports.length = d.ports.length
    · have d2 : ((c.ports.length : Int) != (d.ports.length : Int)) = false := by simp [hq]
      have HQ := Lib.hid hq
      clear hq
      go_enter Tryz.func16, Tryz.ntmps16
      go_upto_region 1 with fail
      rw [HW0.out]
      go_wp2
      go_loopw [5] (fun i wr => ∃ j : Nat, j ≤ c.own.length ∧ i = .int .i64 j ∧ Hid (c.own.take j = d.own.take j) ∧ Hid (Below W0.heap.size W0 wr)) (fun i _ => c.own.length - (intOf i).toNat)
      case atStart => exact ⟨0, Nat.zero_le _, rfl, Lib.hid rfl, Lib.hid (Below.refl _ _)⟩
      case round =>
        obtain ⟨j, hj, rfl, HT, HB⟩ := hrel
        have x1 : wr.cell? ⟨w.heap.size, 2, none⟩ = some (.slice A1 c.own.length k1) := (HX1.out.below HB.out (by omega)).cell 2
        have x2 : wr.cell? ⟨w.heap.size + 1, 2, none⟩ = some (.slice B1 d.own.length l1) := (HX2.out.below HB.out (by omega)).cell 2
        have HBW := Lib.hid (HB0.out.trans (HB.out.mono HB0.out.size))
        by_cases hlt : j < c.own.length
        · have hlt' : j < d.own.length := by have := HN.out; omega
          obtain ⟨⟨ua, un⟩, hu⟩ : ∃ u, c.own[j]? = some u := ⟨_, List.getElem?_eq_getElem hlt⟩
          obtain ⟨⟨va, vn⟩, hv⟩ : ∃ u, d.own[j]? = some u := ⟨_, List.getElem?_eq_getElem hlt'⟩
          obtain ⟨b1, o1, rfl, hb1, p0, p1⟩ := (HO.out.below HBW.out).at hu
          obtain ⟨b2, o2, rfl, hb2, q0, q1⟩ := (HO'.out.below HBW.out).at hv
          simp only at p0 p1 q0 q1
          have HU := Lib.hid hu
          have HV := Lib.hid hv
          clear hu hv
          by_cases e1 : ua = va
          · subst e1
            by_cases e2 : un = vn
            · subst e2
              have HT2 := Lib.hid (take_next HU.out HV.out HT.out)
              go_wp2
              go_region
              go_wp2
              go_roundw
              case rel => exact ⟨j + 1, by omega, by go_num, HT2, Lib.hid HB.out.drew⟩
              case measure => simp [intOf]; omega
            · have HF := Lib.hid (same_own (take_ne HU.out HV.out (fun e => e2 (by injection e))))
              have d3 : (un == vn) = false := by simpa using e2
              clear e2
              go_wp2
              go_region
              go_wp2
              go_ret
              exact ⟨by rw [HF.out]; rfl, HBW.out.drew⟩
          · have HF := Lib.hid (same_own (take_ne HU.out HV.out (fun e => e1 (by injection e))))
            have d3 : (ua == va) = false := by simpa using e1
            clear e1
            go_wp2
            go_region
            go_wp2
            go_ret
            exact ⟨by rw [HF.out]; rfl, HBW.out.drew⟩
        · obtain rfl : j = c.own.length := by omega
          have HFO := Lib.hid (take_all HN.out HT.out)
          clear HT
          go_wp2
          go_loopw [6] (fun i wr => ∃ j : Nat, j ≤ c.ports.length ∧ i = .int .i64 j ∧ Hid (c.ports.take j = d.ports.take j) ∧ Hid (Below W0.heap.size W0 wr)) (fun i _ => c.ports.length - (intOf i).toNat)
          case atStart => exact ⟨0, Nat.zero_le _, rfl, Lib.hid rfl, HB⟩
          case round =>
            clear HB HBW x1 x2
            obtain ⟨j, hj, rfl, HT, HB⟩ := hrel
            have x1 : wr.cell? ⟨w.heap.size, 3, none⟩ = some (.slice A2 c.ports.length k2) := (HX1.out.below HB.out (by omega)).cell 3
            have x2 : wr.cell? ⟨w.heap.size + 1, 3, none⟩ = some (.slice B2 d.ports.length l2) := (HX2.out.below HB.out (by omega)).cell 3
            have HBW := Lib.hid (HB0.out.trans (HB.out.mono HB0.out.size))
            by_cases hlt : j < c.ports.length
            · have hlt' : j < d.ports.length := by have := HQ.out; omega
              obtain ⟨⟨ua, un⟩, hu⟩ : ∃ u, c.ports[j]? = some u := ⟨_, List.getElem?_eq_getElem hlt⟩
              obtain ⟨⟨va, vn⟩, hv⟩ : ∃ u, d.ports[j]? = some u := ⟨_, List.getElem?_eq_getElem hlt'⟩
              obtain ⟨b1, o1, rfl, hb1, p0, p1⟩ := (HP.out.below HBW.out).at hu
              obtain ⟨b2, o2, rfl, hb2, q0, q1⟩ := (HP'.out.below HBW.out).at hv
              simp only at p0 p1 q0 q1
              have HU := Lib.hid hu
              have HV := Lib.hid hv
              clear hu hv
              by_cases e1 : ua = va
              · subst e1
                by_cases e2 : un = vn
                · subst e2
                  have HT2 := Lib.hid (take_next HU.out HV.out HT.out)
                  go_wp2
                  go_region
                  go_wp2
                  go_roundw
                  case rel => exact ⟨j + 1, by omega, by go_num, HT2, Lib.hid HB.out.drew⟩
                  case measure => simp [intOf]; omega
                · have HF := Lib.hid (same_ports (take_ne HU.out HV.out (fun e => e2 (by injection e))))
                  have d3 : (un == vn) = false := by simpa using e2
                  clear e2
                  go_wp2
                  go_region
                  go_wp2
                  go_ret
                  exact ⟨by rw [HF.out]; rfl, HBW.out.drew⟩
              · have HF := Lib.hid (same_ports (take_ne HU.out HV.out (fun e => e1 (by injection e))))
                have d3 : (ua == va) = false := by simpa using e1
                clear e1
                go_wp2
                go_region
                go_wp2
                go_ret
                exact ⟨by rw [HF.out]; rfl, HBW.out.drew⟩
            · obtain rfl : j = c.ports.length := by omega
              have HFP := Lib.hid (take_all HQ.out HT.out)
              clear HT
              have p0 : wr.cell? ⟨w.heap.size, 0, none⟩ = some (.int .i64 c.node) := (HX1.out.below HB.out (by omega)).cell 0
              have t0 : wr.cell? ⟨w.heap.size + 1, 0, none⟩ = some (.int .i64 d.node) := (HX2.out.below HB.out (by omega)).cell 0
              have p1 : wr.cell? ⟨w.heap.size, 1, none⟩ = some (.int .u32 c.addr) := (HX1.out.below HB.out (by omega)).cell 1
              have t1 : wr.cell? ⟨w.heap.size + 1, 1, none⟩ = some (.int .u32 d.addr) := (HX2.out.below HB.out (by omega)).cell 1
              have p4 : wr.cell? ⟨w.heap.size, 4, none⟩ = some (.int .i64 c.hello) := (HX1.out.below HB.out (by omega)).cell 4
              have t4 : wr.cell? ⟨w.heap.size + 1, 4, none⟩ = some (.int .i64 d.hello) := (HX2.out.below HB.out (by omega)).cell 4
              have p5 : wr.cell? ⟨w.heap.size, 5, none⟩ = some (.int .i64 c.dead) := (HX1.out.below HB.out (by omega)).cell 5
              have t5 : wr.cell? ⟨w.heap.size + 1, 5, none⟩ = some (.int .i64 d.dead) := (HX2.out.below HB.out (by omega)).cell 5
              have p6 : wr.cell? ⟨w.heap.size, 6, none⟩ = some (.int .i64 c.again) := (HX1.out.below HB.out (by omega)).cell 6
              have t6 : wr.cell? ⟨w.heap.size + 1, 6, none⟩ = some (.int .i64 d.again) := (HX2.out.below HB.out (by omega)).cell 6
              have p7 : wr.cell? ⟨w.heap.size, 7, none⟩ = some (.int .i64 c.room) := (HX1.out.below HB.out (by omega)).cell 7
              have t7 : wr.cell? ⟨w.heap.size + 1, 7, none⟩ = some (.int .i64 d.room) := (HX2.out.below HB.out (by omega)).cell 7
              have p8 : wr.cell? ⟨w.heap.size, 8, none⟩ = some (.int .i64 c.queue) := (HX1.out.below HB.out (by omega)).cell 8
              have t8 : wr.cell? ⟨w.heap.size + 1, 8, none⟩ = some (.int .i64 d.queue) := (HX2.out.below HB.out (by omega)).cell 8
              have p9 : wr.cell? ⟨w.heap.size, 9, none⟩ = some (.int .i64 c.tokens) := (HX1.out.below HB.out (by omega)).cell 9
              have t9 : wr.cell? ⟨w.heap.size + 1, 9, none⟩ = some (.int .i64 d.tokens) := (HX2.out.below HB.out (by omega)).cell 9
              have p10 : wr.cell? ⟨w.heap.size, 10, none⟩ = some (.int .i64 c.refill) := (HX1.out.below HB.out (by omega)).cell 10
              have t10 : wr.cell? ⟨w.heap.size + 1, 10, none⟩ = some (.int .i64 d.refill) := (HX2.out.below HB.out (by omega)).cell 10
              by_cases e0 : c.node = d.node
              · have q0 : (c.node == d.node) = true := by simpa using e0
                have r0 : decide (c.node = d.node) = true := decide_eq_true e0
                by_cases e1 : c.addr = d.addr
                · have q1 : (c.addr == d.addr) = true := by simpa using e1
                  have r1 : decide (c.addr = d.addr) = true := decide_eq_true e1
                  by_cases e2 : c.hello = d.hello
                  · have q2 : (c.hello == d.hello) = true := by simpa using e2
                    have r2 : decide (c.hello = d.hello) = true := decide_eq_true e2
                    by_cases e3 : c.dead = d.dead
                    · have q3 : (c.dead == d.dead) = true := by simpa using e3
                      have r3 : decide (c.dead = d.dead) = true := decide_eq_true e3
                      by_cases e4 : c.again = d.again
                      · have q4 : (c.again == d.again) = true := by simpa using e4
                        have r4 : decide (c.again = d.again) = true := decide_eq_true e4
                        by_cases e5 : c.room = d.room
                        · have q5 : (c.room == d.room) = true := by simpa using e5
                          have r5 : decide (c.room = d.room) = true := decide_eq_true e5
                          by_cases e6 : c.queue = d.queue
                          · have q6 : (c.queue == d.queue) = true := by simpa using e6
                            have r6 : decide (c.queue = d.queue) = true := decide_eq_true e6
                            by_cases e7 : c.tokens = d.tokens
                            · have q7 : (c.tokens == d.tokens) = true := by simpa using e7
                              have r7 : decide (c.tokens = d.tokens) = true := decide_eq_true e7
                              by_cases e8 : c.refill = d.refill
                              · have q8 : (c.refill == d.refill) = true := by simpa using e8
                                have r8 : decide (c.refill = d.refill) = true := decide_eq_true e8
                                have HS : Hid (sameC c d = true) := Lib.hid (by unfold sameC eqRest; rw [r0, r1, r2, r3, r4, r5, r6, r7, r8, HFO.out, HFP.out]; rfl)
                                clear e0 r0 e1 r1 e2 r2 e3 r3 e4 r4 e5 r5 e6 r6 e7 r7 e8 r8
                                go_wp2
                                go_ret
                                exact ⟨by rw [HS.out]; rfl, HBW.out⟩
                              · have q8 : (c.refill == d.refill) = false := by simpa using e8
                                have r8 : decide (c.refill = d.refill) = false := decide_eq_false e8
                                have HS : Hid (sameC c d = false) := Lib.hid (by unfold sameC eqRest; rw [r8]; simp)
                                clear e0 r0 e1 r1 e2 r2 e3 r3 e4 r4 e5 r5 e6 r6 e7 r7 e8 r8
                                go_wp2
                                go_ret
                                exact ⟨by rw [HS.out]; rfl, HBW.out⟩
                            · have q7 : (c.tokens == d.tokens) = false := by simpa using e7
                              have r7 : decide (c.tokens = d.tokens) = false := decide_eq_false e7
                              have HS : Hid (sameC c d = false) := Lib.hid (by unfold sameC eqRest; rw [r7]; simp)
                              clear e0 r0 e1 r1 e2 r2 e3 r3 e4 r4 e5 r5 e6 r6 e7 r7
                              go_wp2
                              go_ret
                              exact ⟨by rw [HS.out]; rfl, HBW.out⟩
                          · have q6 : (c.queue == d.queue) = false := by simpa using e6
                            have r6 : decide (c.queue = d.queue) = false := decide_eq_false e6
                            have HS : Hid (sameC c d = false) := Lib.hid (by unfold sameC eqRest; rw [r6]; simp)
                            clear e0 r0 e1 r1 e2 r2 e3 r3 e4 r4 e5 r5 e6 r6
                            go_wp2
                            go_ret
                            exact ⟨by rw [HS.out]; rfl, HBW.out⟩
                        · have q5 : (c.room == d.room) = false := by simpa using e5
                          have r5 : decide (c.room = d.room) = false := decide_eq_false e5
                          have HS : Hid (sameC c d = false) := Lib.hid (by unfold sameC eqRest; rw [r5]; simp)
                          clear e0 r0 e1 r1 e2 r2 e3 r3 e4 r4 e5 r5
                          go_wp2
                          go_ret
                          exact ⟨by rw [HS.out]; rfl, HBW.out⟩
                      · have q4 : (c.again == d.again) = false := by simpa using e4
                        have r4 : decide (c.again = d.again) = false := decide_eq_false e4
                        have HS : Hid (sameC c d = false) := Lib.hid (by unfold sameC eqRest; rw [r4]; simp)
                        clear e0 r0 e1 r1 e2 r2 e3 r3 e4 r4
                        go_wp2
                        go_ret
                        exact ⟨by rw [HS.out]; rfl, HBW.out⟩
                    · have q3 : (c.dead == d.dead) = false := by simpa using e3
                      have r3 : decide (c.dead = d.dead) = false := decide_eq_false e3
                      have HS : Hid (sameC c d = false) := Lib.hid (by unfold sameC eqRest; rw [r3]; simp)
                      clear e0 r0 e1 r1 e2 r2 e3 r3
                      go_wp2
                      go_ret
                      exact ⟨by rw [HS.out]; rfl, HBW.out⟩
                  · have q2 : (c.hello == d.hello) = false := by simpa using e2
                    have r2 : decide (c.hello = d.hello) = false := decide_eq_false e2
                    have HS : Hid (sameC c d = false) := Lib.hid (by unfold sameC eqRest; rw [r2]; simp)
                    clear e0 r0 e1 r1 e2 r2
                    go_wp2
                    go_ret
                    exact ⟨by rw [HS.out]; rfl, HBW.out⟩
                · have q1 : (c.addr == d.addr) = false := by simpa using e1
                  have r1 : decide (c.addr = d.addr) = false := decide_eq_false e1
                  have HS : Hid (sameC c d = false) := Lib.hid (by unfold sameC eqRest; rw [r1]; simp)
                  clear e0 r0 e1 r1
                  go_wp2
                  go_ret
                  exact ⟨by rw [HS.out]; rfl, HBW.out⟩
              · have q0 : (c.node == d.node) = false := by simpa using e0
                have r0 : decide (c.node = d.node) = false := decide_eq_false e0
                have HS : Hid (sameC c d = false) := Lib.hid (by unfold sameC eqRest; rw [r0]; simp)
                clear e0 r0
                go_wp2
                go_ret
                exact ⟨by rw [HS.out]; rfl, HBW.out⟩
    · have d2 : ((c.ports.length : Int) != (d.ports.length : Int)) = true := by simp; omega
      have HS : Hid (sameC c d = false) := Lib.hid (same_ports (decide_eq_false fun e => hq (by rw [e])))
      clear hq
      go_enter Tryz.func16, Tryz.ntmps16
      go_upto_region 1 with fail
      rw [HW0.out]
      go_wp2
      go_ret
      exact ⟨by rw [HS.out]; rfl, HB0.out⟩
  · have d1 : ((c.own.length : Int) != (d.own.length : Int)) = true := by simp; omega
    have HS : Hid (sameC c d = false) := Lib.hid (same_own (decide_eq_false fun e => hn (by rw [e])))
    clear hn
    go_enter Tryz.func16, Tryz.ntmps16
    go_upto_region 1 with fail
    rw [HW0.out]
    go_wp2
    go_ret
    exact ⟨by rw [HS.out]; rfl, HB0.out⟩
end Go.Proofs.YtfbangojgjcbcaaGreatDoor
namespace Go.Proofs.YtfbangojgjcbcaaGreatDoor
open Go.RowKit Pl
theorem takeB_ne {ps qs : List UInt8} {j : Nat} {u v : UInt8} (hu : ps[j]? = some u) (hv : qs[j]? = some v) (h : u ≠ v) : decide (ps = qs) = false :=
  decide_eq_false fun e => h (by subst e; rw [hu] at hv; injection hv)
theorem takeB_next {ps qs : List UInt8} {j : Nat} {u : UInt8} (hu : ps[j]? = some u) (hv : qs[j]? = some u) (h : ps.take j = qs.take j) : ps.take (j + 1) = qs.take (j + 1) := by
  rw [List.take_add_one, List.take_add_one, hu, hv, h]
theorem takeB_all {ps qs : List UInt8} (hl : ps.length = qs.length) (h : ps.take ps.length = qs.take ps.length) : decide (ps = qs) = true := by
  rw [List.take_length] at h
  rw [hl, List.take_length] at h
  exact decide_eq_true h
theorem Bs.at {w : World} {A : Option Addr} {k : Nat} {l : List UInt8} (h : Bs w (.slice A l.length k) l) {j : Nat} {u : UInt8} (hu : l[j]? = some u) :
    ∃ b o, A = some ⟨b, o, none⟩ ∧ b < w.heap.size ∧ l.length ≤ k ∧ w.cell? ⟨b, o + j, none⟩ = some (.int .u8 (u.toNat : Int)) := by
  obtain ⟨A', c, hv, hc, _, hA⟩ := h
  injection hv with h1 h2 h3
  subst h1; subst h3
  have hj : j < l.length := (List.getElem?_eq_some_iff.1 hu).1
  obtain ⟨b, o, rfl, hb, hcell⟩ := hA (by omega)
  exact ⟨b, o, rfl, hb, hc, hcell j _ (by simp [cellsB, hu])⟩
set_option maxRecDepth 100000 in
set_option maxHeartbeats 2000000 in
theorem equalB_any (v v' : Value) (ps qs : List UInt8) (w : World) (h : Bs w v ps) (h' : Bs w v' qs) (hl : ps.length ≤ 1000000000) :
    Calls Tryz.prog 140 #[v, v'] w fun e w' => e = .returned (.bool (decide (ps = qs))) ∧ Below w.heap.size w w' := by
  have HP := Lib.hid h
  have HQ := Lib.hid h'
  obtain ⟨A, k1, rfl, _⟩ := h
  obtain ⟨B, k2, rfl, _⟩ := h'
  by_cases hn : ps.length = qs.length
  · have HN := Lib.hid hn
    have d1 : ((ps.length : Int) != (qs.length : Int)) = false := by simp [hn]
    clear hn
    go_enter Tryz.func140, Tryz.ntmps140
    go_wp2
    go_loopw [13] (fun i wr => ∃ j : Nat, j ≤ ps.length ∧ i = .int .i64 j ∧ Hid (ps.take j = qs.take j) ∧ Hid (Below w.heap.size w wr)) (fun i _ => ps.length - (intOf i).toNat)
    case atStart => exact ⟨0, Nat.zero_le _, rfl, Lib.hid rfl, Lib.hid (Below.refl _ _)⟩
    case round =>
      obtain ⟨j, hj, rfl, HT, HB⟩ := hrel
      by_cases hlt : j < ps.length
      · have hlt' : j < qs.length := by have := HN.out; omega
        obtain ⟨u, hu⟩ : ∃ u, ps[j]? = some u := ⟨_, List.getElem?_eq_getElem hlt⟩
        obtain ⟨v, hv⟩ : ∃ u, qs[j]? = some u := ⟨_, List.getElem?_eq_getElem hlt'⟩
        obtain ⟨b1, o1, rfl, hb1, -, p0⟩ := (HP.out.below HB.out).at hu
        obtain ⟨b2, o2, rfl, hb2, -, q0⟩ := (HQ.out.below HB.out).at hv
        have HU := Lib.hid hu
        have HV := Lib.hid hv
        clear hu hv
        by_cases e1 : u = v
        · subst e1
          have HT2 := Lib.hid (takeB_next HU.out HV.out HT.out)
          generalize (u.toNat : Int) = x at *
          go_wp2
          go_region
          go_wp2
          go_roundw
          case rel => exact ⟨j + 1, by omega, by go_num, HT2, Lib.hid HB.out.drew⟩
          case measure => simp [intOf]; omega
        · have HF := Lib.hid (takeB_ne HU.out HV.out e1)
          have d2 : ((u.toNat : Int) == (v.toNat : Int)) = false := by
            rw [beq_eq_false_iff_ne]
            intro h
            exact e1 (UInt8.toNat_inj.1 (by omega))
          generalize (u.toNat : Int) = x at *
          generalize (v.toNat : Int) = y at *
          clear e1
          go_wp2
          go_region
          go_wp2
          go_ret
          exact ⟨by rw [HF.out]; rfl, HB.out.drew⟩
      · obtain rfl : j = ps.length := by omega
        have HF := Lib.hid (takeB_all HN.out HT.out)
        go_wp2
        go_ret
        exact ⟨by rw [HF.out]; rfl, HB.out⟩
  · have d1 : ((ps.length : Int) != (qs.length : Int)) = true := by simp; omega
    have HF : Hid (decide (ps = qs) = false) := Lib.hid (decide_eq_false fun e => hn (by rw [e]))
    clear hn
    go_enter Tryz.func140, Tryz.ntmps140
    go_wp2
    go_ret
    exact ⟨by rw [HF.out]; rfl, Below.refl _ _⟩
-- printed by actb.py
/-- Are two acts the same? -/
def sameA (a b : ActP) : Bool := decide (a = b)
set_option maxRecDepth 100000 in
set_option maxHeartbeats 4000000 in
theorem csameAct_any (a b : ActP) (va vb : Value) (w : World) (h : Bs w va a.bytes) (h' : Bs w vb b.bytes) (hl : a.bytes.length ≤ 1000000000) :
    Calls Tryz.prog 76 #[actV a va, actV b vb] w fun e w' => e = .returned (.bool (sameA a b)) ∧ Below w.heap.size w w' := by
  have HEQ := Lib.hid (fun W (hb : Below w.heap.size w W) => equalB_any va vb a.bytes b.bytes W (h.below hb) (h'.below hb) hl)
  obtain ⟨A, c, rfl, -⟩ := h
  obtain ⟨B, c', rfl, -⟩ := h'
  obtain ⟨k, node, port, cost, n, up, by_, unread, bytes⟩ := a
  obtain ⟨k', node', port', cost', n', up', by_', unread', bytes'⟩ := b
  simp only at HEQ hl ⊢
  obtain ⟨W0, hW0⟩ : ∃ W0, (w.alloc (.cells #[.int .i64 k, .int .i64 node, .int .i64 port, .int .i64 cost, .int .i64 n, .bool up, .int .u8 (by_.toNat : Int), .bool unread, .slice A bytes.length c] 51)).alloc (.cells #[.int .i64 k', .int .i64 node', .int .i64 port', .int .i64 cost', .int .i64 n', .bool up', .int .u8 (by_'.toNat : Int), .bool unread', .slice B bytes'.length c'] 51) = W0 := ⟨_, rfl⟩
  have HB0 : Hid (Below w.heap.size w W0) := Lib.hid (by rw [← hW0]; exact ((Below.refl _ _).alloc (Nat.le_refl _) _).alloc (by simp) _)
  have HX1 : Whole W0 w.heap.size 51 #[.int .i64 k, .int .i64 node, .int .i64 port, .int .i64 cost, .int .i64 n, .bool up, .int .u8 (by_.toNat : Int), .bool unread, .slice A bytes.length c] := by rw [← hW0]; exact (Whole.new w _ _).alloc _
  have HX2 : Whole W0 (w.heap.size + 1) 51 #[.int .i64 k', .int .i64 node', .int .i64 port', .int .i64 cost', .int .i64 n', .bool up', .int .u8 (by_'.toNat : Int), .bool unread', .slice B bytes'.length c'] := by
    rw [← hW0]
    have := Whole.new (w.alloc (.cells #[.int .i64 k, .int .i64 node, .int .i64 port, .int .i64 cost, .int .i64 n, .bool up, .int .u8 (by_.toNat : Int), .bool unread, .slice A bytes.length c] 51)) 51 #[.int .i64 k', .int .i64 node', .int .i64 port', .int .i64 cost', .int .i64 n', .bool up', .int .u8 (by_'.toNat : Int), .bool unread', .slice B bytes'.length c']
    simpa using this
  have hlt1 := HX1.lt
  have hlt2 := HX2.lt
  have y0 : W0.cell? ⟨w.heap.size, 0, none⟩ = some (.int .i64 k) := HX1.cell 0
  have z0 : W0.cell? ⟨w.heap.size + 1, 0, none⟩ = some (.int .i64 k') := HX2.cell 0
  have y1 : W0.cell? ⟨w.heap.size, 1, none⟩ = some (.int .i64 node) := HX1.cell 1
  have z1 : W0.cell? ⟨w.heap.size + 1, 1, none⟩ = some (.int .i64 node') := HX2.cell 1
  have y2 : W0.cell? ⟨w.heap.size, 2, none⟩ = some (.int .i64 port) := HX1.cell 2
  have z2 : W0.cell? ⟨w.heap.size + 1, 2, none⟩ = some (.int .i64 port') := HX2.cell 2
  have y3 : W0.cell? ⟨w.heap.size, 3, none⟩ = some (.int .i64 cost) := HX1.cell 3
  have z3 : W0.cell? ⟨w.heap.size + 1, 3, none⟩ = some (.int .i64 cost') := HX2.cell 3
  have y4 : W0.cell? ⟨w.heap.size, 4, none⟩ = some (.int .i64 n) := HX1.cell 4
  have z4 : W0.cell? ⟨w.heap.size + 1, 4, none⟩ = some (.int .i64 n') := HX2.cell 4
  have y5 : W0.cell? ⟨w.heap.size, 5, none⟩ = some (.bool up) := HX1.cell 5
  have z5 : W0.cell? ⟨w.heap.size + 1, 5, none⟩ = some (.bool up') := HX2.cell 5
  have y6 : W0.cell? ⟨w.heap.size, 6, none⟩ = some (.int .u8 (by_.toNat : Int)) := HX1.cell 6
  have z6 : W0.cell? ⟨w.heap.size + 1, 6, none⟩ = some (.int .u8 (by_'.toNat : Int)) := HX2.cell 6
  have y7 : W0.cell? ⟨w.heap.size, 7, none⟩ = some (.bool unread) := HX1.cell 7
  have z7 : W0.cell? ⟨w.heap.size + 1, 7, none⟩ = some (.bool unread') := HX2.cell 7
  have y8 : W0.cell? ⟨w.heap.size, 8, none⟩ = some (.slice A bytes.length c) := HX1.cell 8
  have z8 : W0.cell? ⟨w.heap.size + 1, 8, none⟩ = some (.slice B bytes'.length c') := HX2.cell 8
  have HW0 := Lib.hid hW0
  clear hW0 HX1 HX2
  by_cases e0 : k = k'
  · subst e0
    by_cases e1 : node = node'
    · subst e1
      by_cases e2 : port = port'
      · subst e2
        by_cases e3 : cost = cost'
        · subst e3
          by_cases e4 : n = n'
          · subst e4
            by_cases e5 : up = up'
            · subst e5
              by_cases e6 : by_ = by_'
              · subst e6
                by_cases e7 : unread = unread'
                · subst e7
                  go_enter Tryz.func76, Tryz.ntmps76
                  go_upto_region 1 with fail
                  rw [HW0.out]
                  go_wp2_with fail
                  refine (HEQ.out W0 HB0.out).mono ?_
                  rintro e w' ⟨rfl, hb⟩
                  have HB1 := Lib.hid (HB0.out.trans (hb.mono HB0.out.size))
                  have HS : Hid (sameA ⟨k, node, port, cost, n, up, by_, unread, bytes⟩ ⟨k, node, port, cost, n, up, by_, unread, bytes'⟩ = decide (bytes = bytes')) := Lib.hid (by simp [sameA])
                  clear hb
                  go_wp2
                  go_ret
                  exact ⟨by rw [HS.out]; rfl, HB1.out⟩
                · have d : (unread == unread') = false := by simpa using e7
                  have HS : Hid (sameA ⟨k, node, port, cost, n, up, by_, unread, bytes⟩ ⟨k, node, port, cost, n, up, by_, unread', bytes'⟩ = false) := Lib.hid (by simp [sameA, e7])
                  clear e7
                  go_enter Tryz.func76, Tryz.ntmps76
                  go_upto_region 1 with fail
                  rw [HW0.out]
                  go_wp2
                  go_ret
                  exact ⟨by rw [HS.out]; rfl, HB0.out⟩
              · have d : ((by_.toNat : Int) == (by_'.toNat : Int)) = false := by
                  rw [beq_eq_false_iff_ne]
                  intro h
                  exact e6 (UInt8.toNat_inj.1 (by omega))
                have HS : Hid (sameA ⟨k, node, port, cost, n, up, by_, unread, bytes⟩ ⟨k, node, port, cost, n, up, by_', unread', bytes'⟩ = false) := Lib.hid (by simp [sameA, e6])
                clear e6
                go_enter Tryz.func76, Tryz.ntmps76
                go_upto_region 1 with fail
                rw [HW0.out]
                go_wp2
                go_ret
                exact ⟨by rw [HS.out]; rfl, HB0.out⟩
            · have d : (up == up') = false := by simpa using e5
              have HS : Hid (sameA ⟨k, node, port, cost, n, up, by_, unread, bytes⟩ ⟨k, node, port, cost, n, up', by_', unread', bytes'⟩ = false) := Lib.hid (by simp [sameA, e5])
              clear e5
              go_enter Tryz.func76, Tryz.ntmps76
              go_upto_region 1 with fail
              rw [HW0.out]
              go_wp2
              go_ret
              exact ⟨by rw [HS.out]; rfl, HB0.out⟩
          · have d : (n == n') = false := by simpa using e4
            have HS : Hid (sameA ⟨k, node, port, cost, n, up, by_, unread, bytes⟩ ⟨k, node, port, cost, n', up', by_', unread', bytes'⟩ = false) := Lib.hid (by simp [sameA, e4])
            clear e4
            go_enter Tryz.func76, Tryz.ntmps76
            go_upto_region 1 with fail
            rw [HW0.out]
            go_wp2
            go_ret
            exact ⟨by rw [HS.out]; rfl, HB0.out⟩
        · have d : (cost == cost') = false := by simpa using e3
          have HS : Hid (sameA ⟨k, node, port, cost, n, up, by_, unread, bytes⟩ ⟨k, node, port, cost', n', up', by_', unread', bytes'⟩ = false) := Lib.hid (by simp [sameA, e3])
          clear e3
          go_enter Tryz.func76, Tryz.ntmps76
          go_upto_region 1 with fail
          rw [HW0.out]
          go_wp2
          go_ret
          exact ⟨by rw [HS.out]; rfl, HB0.out⟩
      · have d : (port == port') = false := by simpa using e2
        have HS : Hid (sameA ⟨k, node, port, cost, n, up, by_, unread, bytes⟩ ⟨k, node, port', cost', n', up', by_', unread', bytes'⟩ = false) := Lib.hid (by simp [sameA, e2])
        clear e2
        go_enter Tryz.func76, Tryz.ntmps76
        go_upto_region 1 with fail
        rw [HW0.out]
        go_wp2
        go_ret
        exact ⟨by rw [HS.out]; rfl, HB0.out⟩
    · have d : (node == node') = false := by simpa using e1
      have HS : Hid (sameA ⟨k, node, port, cost, n, up, by_, unread, bytes⟩ ⟨k, node', port', cost', n', up', by_', unread', bytes'⟩ = false) := Lib.hid (by simp [sameA, e1])
      clear e1
      go_enter Tryz.func76, Tryz.ntmps76
      go_upto_region 1 with fail
      rw [HW0.out]
      go_wp2
      go_ret
      exact ⟨by rw [HS.out]; rfl, HB0.out⟩
  · have d : (k == k') = false := by simpa using e0
    have HS : Hid (sameA ⟨k, node, port, cost, n, up, by_, unread, bytes⟩ ⟨k', node', port', cost', n', up', by_', unread', bytes'⟩ = false) := Lib.hid (by simp [sameA, e0])
    clear e0
    go_enter Tryz.func76, Tryz.ntmps76
    go_upto_region 1 with fail
    rw [HW0.out]
    go_wp2
    go_ret
    exact ⟨by rw [HS.out]; rfl, HB0.out⟩
end Go.Proofs.YtfbangojgjcbcaaGreatDoor
namespace Go.Proofs.YtfbangojgjcbcaaGreatDoor
open Go.RowKit Pl
theorem same_bare {a : ActP} (hk : K9 a) : sameA a (bareA a) = bareOk a := by
  obtain ⟨k, node, port, cost, n, up, by_, unread, bytes⟩ := a
  rcases hk.cases with e | e | e | e | e | e | e | e | e <;> simp only at e <;> subst e <;> rw [Bool.eq_iff_iff] <;> simp [sameA, bareA, bareOk, partsA] <;> grind
set_option maxRecDepth 100000 in
set_option maxHeartbeats 4000000 in
theorem cmayAct_any (a : ActP) (bv : Value) (w : World) (h : Bs w bv a.bytes) (hl : a.bytes.length ≤ 1000000000) :
    Calls Tryz.prog 31 #[actV a bv] w fun e w' => e = .returned (.bool (mayA a)) ∧ Below w.heap.size w w' := by
  have HB := Lib.hid h
  have HBV := Lib.hid h
  obtain ⟨A, c, rfl, -⟩ := h
  obtain ⟨W0, hW0⟩ : ∃ W0, w.alloc (.cells #[.int .i64 a.kind, .int .i64 a.node, .int .i64 a.port, .int .i64 a.cost, .int .i64 a.n, .bool a.up, .int .u8 (a.by_.toNat : Int), .bool a.unread, .slice A a.bytes.length c] 51) = W0 := ⟨_, rfl⟩
  have HB0 : Hid (Below w.heap.size w W0) := Lib.hid (by rw [← hW0]; exact (Below.refl _ _).alloc (Nat.le_refl _) _)
  have HX : Whole W0 w.heap.size 51 #[.int .i64 a.kind, .int .i64 a.node, .int .i64 a.port, .int .i64 a.cost, .int .i64 a.n, .bool a.up, .int .u8 (a.by_.toNat : Int), .bool a.unread, .slice A a.bytes.length c] := by rw [← hW0]; exact Whole.new w _ _
  have hlt1 := HX.lt
  have y0 : W0.cell? ⟨w.heap.size, 0, none⟩ = some (.int .i64 a.kind) := HX.cell 0
  have y1 : W0.cell? ⟨w.heap.size, 1, none⟩ = some (.int .i64 a.node) := HX.cell 1
  have y2 : W0.cell? ⟨w.heap.size, 2, none⟩ = some (.int .i64 a.port) := HX.cell 2
  have y3 : W0.cell? ⟨w.heap.size, 3, none⟩ = some (.int .i64 a.cost) := HX.cell 3
  have y4 : W0.cell? ⟨w.heap.size, 4, none⟩ = some (.int .i64 a.n) := HX.cell 4
  have y5 : W0.cell? ⟨w.heap.size, 5, none⟩ = some (.bool a.up) := HX.cell 5
  have y6 : W0.cell? ⟨w.heap.size, 6, none⟩ = some (.int .u8 (a.by_.toNat : Int)) := HX.cell 6
  have y7 : W0.cell? ⟨w.heap.size, 7, none⟩ = some (.bool a.unread) := HX.cell 7
  have y8 : W0.cell? ⟨w.heap.size, 8, none⟩ = some (.slice A a.bytes.length c) := HX.cell 8
  have HW0 := Lib.hid hW0
  clear hW0 HX
  by_cases h1 : 1 ≤ a.kind
  · have q1 : decide (1 ≤ a.kind) = true := decide_eq_true h1
    by_cases h9 : a.kind ≤ 9
    · have q9 : decide (a.kind ≤ 9) = true := decide_eq_true h9
      have HK : Hid (K9 a) := Lib.hid ⟨h1, h9⟩
      have HBA : Hid (∀ y : Ext W0, Calls Tryz.prog 77 #[.agg #[.int .i64 a.kind, .int .i64 a.node, .int .i64 a.port, .int .i64 a.cost, .int .i64 a.n, .bool a.up, .int .u8 (a.by_.toNat : Int), .bool a.unread, .slice A a.bytes.length c]] y.w fun e w' => e = .returned (actV (bareA a) (bareV a (.slice A a.bytes.length c))) ∧ Below y.w.heap.size y.w w') :=
        Lib.hid (fun y => bare_any a _ y.w HK.out ((HBV.out.below HB0.out).below y.below))
      have HSA : Hid (∀ y : Ext W0, Calls Tryz.prog 76 #[.agg #[.int .i64 a.kind, .int .i64 a.node, .int .i64 a.port, .int .i64 a.cost, .int .i64 a.n, .bool a.up, .int .u8 (a.by_.toNat : Int), .bool a.unread, .slice A a.bytes.length c], actV (bareA a) (bareV a (.slice A a.bytes.length c))] y.w fun e w' => e = .returned (.bool (bareOk a)) ∧ Below y.w.heap.size y.w w') :=
        Lib.hid (fun y => by
          have hb := (HBV.out.below HB0.out).below y.below
          have := csameAct_any a (bareA a) _ _ y.w hb (hb.bare HK.out) hl
          rw [same_bare HK.out] at this
          exact this)
      have HM : Hid (mayA a = (bareOk a && decide (a.bytes.length ≤ 2048))) := Lib.hid (by unfold mayA; rw [q1, q9]; rfl)
      cases hb : bareOk a with
      | false =>
        rw [hb] at HSA HM
        clear h1 h9 hb
        go_enter Tryz.func31, Tryz.ntmps31
        go_upto_region 1 with fail
        rw [HW0.out]
        refine wp_region_ext (by kernel_rfl) (by kernel_rfl) ?_
        repeat (go_big_quiet_step (first
          | (go_at_call 77; exact Ext.call (HBA.out _))
          | (go_at_call 76; exact Ext.call (HSA.out _))))
        refine wpQuiet_nil ?_
        rintro _ ⟨y, rfl⟩
        go_wp2
        go_ret
        exact ⟨by rw [HM.out]; rfl, HB0.out.trans (y.below.mono HB0.out.size)⟩
      | true =>
        rw [hb] at HSA HM
        clear h1 h9 hb
        go_enter Tryz.func31, Tryz.ntmps31
        go_upto_region 1 with fail
        rw [HW0.out]
        refine wp_region_ext (by kernel_rfl) (by kernel_rfl) ?_
        repeat (go_big_quiet_step (first
          | (go_at_call 77; exact Ext.call (HBA.out _))
          | (go_at_call 76; exact Ext.call (HSA.out _))))
        refine wpQuiet_nil ?_
        rintro _ ⟨y, rfl⟩
        go_wp2
        go_ret
        refine ⟨?_, HB0.out.trans (y.below.mono HB0.out.size)⟩
        rw [HM.out]
        have hd : decide ((a.bytes.length : Int) ≤ 2048) = decide (a.bytes.length ≤ 2048) := decide_eq_decide.2 (by omega)
        show Ending.returned (.bool (decide ((a.bytes.length : Int) ≤ 2048))) = _
        rw [hd]
        rfl
    · have q9 : decide (a.kind ≤ 9) = false := decide_eq_false h9
      have HM : Hid (mayA a = false) := Lib.hid (by unfold mayA; rw [q9]; simp)
      clear h9
      go_enter Tryz.func31, Tryz.ntmps31
      go_upto_region 1 with fail
      rw [HW0.out]
      refine wp_region_ext (by kernel_rfl) (by kernel_rfl) ?_
      repeat (go_big_quiet_step (fail))
      refine wpQuiet_nil ?_
      rintro _ ⟨y, rfl⟩
      go_wp2
      go_ret
      exact ⟨by rw [HM.out]; rfl, HB0.out.trans (y.below.mono HB0.out.size)⟩
  · have q1 : decide (1 ≤ a.kind) = false := decide_eq_false h1
    have HM : Hid (mayA a = false) := Lib.hid (by unfold mayA; rw [q1]; simp)
    clear h1
    go_enter Tryz.func31, Tryz.ntmps31
    go_upto_region 1 with fail
    rw [HW0.out]
    refine wp_region_ext (by kernel_rfl) (by kernel_rfl) ?_
    repeat (go_big_quiet_step (fail))
    refine wpQuiet_nil ?_
    rintro _ ⟨y, rfl⟩
    go_wp2
    go_ret
    exact ⟨by rw [HM.out]; rfl, HB0.out.trans (y.below.mono HB0.out.size)⟩
end Go.Proofs.YtfbangojgjcbcaaGreatDoor
namespace Go.Proofs.YtfbangojgjcbcaaGreatDoor
open Go.RowKit Pl
theorem takeG_ne {α : Type} [DecidableEq α] {ps qs : List α} {j : Nat} {u v : α} (hu : ps[j]? = some u) (hv : qs[j]? = some v) (h : u ≠ v) : decide (ps = qs) = false :=
  decide_eq_false fun e => h (by rw [e, hv] at hu; injection hu with hu; exact hu.symm)
theorem takeG_next {α : Type} {ps qs : List α} {j : Nat} {u : α} (hu : ps[j]? = some u) (hv : qs[j]? = some u) (h : ps.take j = qs.take j) : ps.take (j + 1) = qs.take (j + 1) := by
  rw [List.take_add_one, List.take_add_one, hu, hv, h]
theorem takeG_all {α : Type} [DecidableEq α] {ps qs : List α} (hl : ps.length = qs.length) (h : ps.take ps.length = qs.take ps.length) : decide (ps = qs) = true := by
  rw [List.take_length, hl, List.take_length] at h
  exact decide_eq_true h
theorem sameA_eq {a b : ActP} (h : sameA a b = true) : a = b := of_decide_eq_true h
theorem sameA_refl (a : ActP) : sameA a a = true := by unfold sameA; simp
instance : DecidableEq Cfg := fun a b => decidable_of_iff (sameC a b = true) ⟨sameC_eq, fun h => by rw [h]; exact sameC_self b⟩
set_option maxRecDepth 100000 in
set_option maxHeartbeats 4000000 in
theorem equalL_any (v v' : Value) (ps qs : List Lk) (w : World) (h : Links w v ps) (h' : Links w v' qs) (hl : ps.length ≤ 1000000) :
    Calls Tryz.prog 99 #[v, v'] w fun e w' => e = .returned (.bool (decide (ps = qs))) ∧ Below w.heap.size w w' := by
  have HP := Lib.hid h
  have HQ := Lib.hid h'
  obtain ⟨A, k1, rfl, _⟩ := h
  obtain ⟨B, k2, rfl, _⟩ := h'
  by_cases hn : ps.length = qs.length
  · have HN := Lib.hid hn
    have d1 : ((ps.length : Int) != (qs.length : Int)) = false := by simp [hn]
    clear hn
    go_enter Tryz.func99, Tryz.ntmps99
    go_wp2
    go_loopw [13] (fun i wr => ∃ j : Nat, j ≤ ps.length ∧ i = .int .i64 j ∧ Hid (ps.take j = qs.take j) ∧ Hid (Below w.heap.size w wr)) (fun i _ => ps.length - (intOf i).toNat)
    case atStart => exact ⟨0, Nat.zero_le _, rfl, Lib.hid rfl, Lib.hid (Below.refl _ _)⟩
    case round =>
      obtain ⟨j, hj, rfl, HT, HB⟩ := hrel
      by_cases hlt : j < ps.length
      · have hlt' : j < qs.length := by have := HN.out; omega
        obtain ⟨⟨u1, u2, u3, u4⟩, hu⟩ : ∃ u, ps[j]? = some u := ⟨_, List.getElem?_eq_getElem hlt⟩
        obtain ⟨⟨v1, v2, v3, v4⟩, hv⟩ : ∃ u, qs[j]? = some u := ⟨_, List.getElem?_eq_getElem hlt'⟩
        obtain ⟨b1, o1, rfl, hb1, p0, p1, p2, p3⟩ := (HP.out.here HB.out).at hu
        obtain ⟨b2, o2, rfl, hb2, q0, q1, q2, q3⟩ := (HQ.out.here HB.out).at hv
        simp only at p0 p1 p2 p3 q0 q1 q2 q3
        have HU := Lib.hid hu
        have HV := Lib.hid hv
        clear hu hv
        by_cases e0 : u1 = v1
        · subst e0
          by_cases e1 : u2 = v2
          · subst e1
            by_cases e2 : u3 = v3
            · subst e2
              by_cases e3 : u4 = v4
              · subst e3
                have HT2 := Lib.hid (takeG_next HU.out HV.out HT.out)
                go_wp2
                go_region
                go_wp2
                go_roundw
                case rel => exact ⟨j + 1, by omega, by go_num, HT2, Lib.hid HB.out.drew⟩
                case measure => simp [intOf]; omega
              · have HF := Lib.hid (takeG_ne HU.out HV.out (fun e => e3 (by injections)))
                have d2 : (u4 == v4) = false := by simpa using e3
                clear e3
                go_wp2
                go_region
                go_wp2
                go_ret
                exact ⟨by rw [HF.out]; rfl, HB.out.drew⟩
            · have HF := Lib.hid (takeG_ne HU.out HV.out (fun e => e2 (by injections)))
              have d2 : (u3 == v3) = false := by simpa using e2
              clear e2
              go_wp2
              go_region
              go_wp2
              go_ret
              exact ⟨by rw [HF.out]; rfl, HB.out.drew⟩
          · have HF := Lib.hid (takeG_ne HU.out HV.out (fun e => e1 (by injections)))
            have d2 : (u2 == v2) = false := by simpa using e1
            clear e1
            go_wp2
            go_region
            go_wp2
            go_ret
            exact ⟨by rw [HF.out]; rfl, HB.out.drew⟩
        · have HF := Lib.hid (takeG_ne HU.out HV.out (fun e => e0 (by injections)))
          have d2 : (u1 == v1) = false := by simpa using e0
          clear e0
          go_wp2
          go_region
          go_wp2
          go_ret
          exact ⟨by rw [HF.out]; rfl, HB.out.drew⟩
      · obtain rfl : j = ps.length := by omega
        have HF := Lib.hid (takeG_all HN.out HT.out)
        go_wp2
        go_ret
        exact ⟨by rw [HF.out]; rfl, HB.out⟩
  · have d1 : ((ps.length : Int) != (qs.length : Int)) = true := by simp; omega
    have HF : Hid (decide (ps = qs) = false) := Lib.hid (decide_eq_false fun e => hn (by rw [e]))
    clear hn
    go_enter Tryz.func99, Tryz.ntmps99
    go_wp2
    go_ret
    exact ⟨by rw [HF.out]; rfl, Below.refl _ _⟩
set_option maxRecDepth 100000 in
set_option maxHeartbeats 4000000 in
theorem equalC_any (v v' : Value) (ps qs : List Cfg) (w : World) (h : Confs w v ps) (h' : Confs w v' qs) (hl : ps.length ≤ 1000000) (hs : ∀ c ∈ ps, c.own.length ≤ 1000000 ∧ c.ports.length ≤ 1000000) (hs' : ∀ c ∈ qs, c.own.length ≤ 1000000 ∧ c.ports.length ≤ 1000000) :
    Calls Tryz.prog 98 #[v, v', .func (.func 26) #[] #[]] w fun e w' => e = .returned (.bool (decide (ps = qs))) ∧ Below w.heap.size w w' := by
  have HP := Lib.hid h
  have HQ := Lib.hid h'
  obtain ⟨A, k1, rfl, _⟩ := h
  obtain ⟨B, k2, rfl, _⟩ := h'
  by_cases hn : ps.length = qs.length
  · have HN := Lib.hid hn
    have d1 : ((ps.length : Int) != (qs.length : Int)) = false := by simp [hn]
    clear hn
    go_enter Tryz.func98, Tryz.ntmps98
    go_wp2
    go_loopw [7, 8, 9, 17] (fun _ _ _ i wr => ∃ j : Nat, j ≤ ps.length ∧ i = .int .i64 j ∧ Hid (ps.take j = qs.take j) ∧ Hid (Below w.heap.size w wr)) (fun _ _ _ i _ => ps.length - (intOf i).toNat)
    case atStart => exact ⟨0, Nat.zero_le _, rfl, Lib.hid rfl, Lib.hid (Below.refl _ _)⟩
    case round =>
      obtain ⟨j, hj, rfl, HT, HB⟩ := hrel
      by_cases hlt : j < ps.length
      · have hlt' : j < qs.length := by have := HN.out; omega
        obtain ⟨x, hu⟩ : ∃ u, ps[j]? = some u := ⟨_, List.getElem?_eq_getElem hlt⟩
        obtain ⟨y, hv⟩ : ∃ u, qs[j]? = some u := ⟨_, List.getElem?_eq_getElem hlt'⟩
        obtain ⟨b1, o1, rfl, hb1, hq1⟩ := (HP.out.here HB.out).at hu
        obtain ⟨b2, o2, rfl, hb2, hq2⟩ := (HQ.out.here HB.out).at hv
        obtain ⟨A3, k3, A4, k4, hcx, p0, p1, p2, p3, p4, p5, p6, p7, p8, p9, p10⟩ := hq1.cfg
        obtain ⟨A5, k5, A6, k6, hcy, q0, q1, q2, q3, q4, q5, q6, q7, q8, q9, q10⟩ := hq2.cfg
        have HU := Lib.hid hu
        have HV := Lib.hid hv
        obtain ⟨W1, hW1⟩ : ∃ X, wr.alloc (.cells #[.int .i64 x.node, .int .u32 x.addr, .slice A3 x.own.length k3, .slice A4 x.ports.length k4, .int .i64 x.hello, .int .i64 x.dead, .int .i64 x.again, .int .i64 x.room, .int .i64 x.queue, .int .i64 x.tokens, .int .i64 x.refill] 28) = X := ⟨_, rfl⟩
        obtain ⟨W2, hW2⟩ : ∃ X, W1.alloc (.cells #[.int .i64 y.node, .int .u32 y.addr, .slice A5 y.own.length k5, .slice A6 y.ports.length k6, .int .i64 y.hello, .int .i64 y.dead, .int .i64 y.again, .int .i64 y.room, .int .i64 y.queue, .int .i64 y.tokens, .int .i64 y.refill] 28) = X := ⟨_, rfl⟩
        have hb12 : Below wr.heap.size wr W2 := by rw [← hW2, ← hW1]; exact ((Below.refl _ _).alloc (Nat.le_refl _) _).alloc (by simp) _
        have HBB := Lib.hid (HB.out.trans (hb12.mono HB.out.size))
        have HX1 : Hid (Whole W2 wr.heap.size 28 #[.int .i64 x.node, .int .u32 x.addr, .slice A3 x.own.length k3, .slice A4 x.ports.length k4, .int .i64 x.hello, .int .i64 x.dead, .int .i64 x.again, .int .i64 x.room, .int .i64 x.queue, .int .i64 x.tokens, .int .i64 x.refill]) := Lib.hid (by rw [← hW2, ← hW1]; exact (Whole.new wr _ _).alloc _)
        have HX2 : Hid (Whole W2 W1.heap.size 28 #[.int .i64 y.node, .int .u32 y.addr, .slice A5 y.own.length k5, .slice A6 y.ports.length k6, .int .i64 y.hello, .int .i64 y.dead, .int .i64 y.again, .int .i64 y.room, .int .i64 y.queue, .int .i64 y.tokens, .int .i64 y.refill]) := Lib.hid (by rw [← hW2]; exact Whole.new W1 _ _)
        have HCL : Hid (Calls Tryz.prog 26 #[cfgV x (.slice A3 x.own.length k3) (.slice A4 x.ports.length k4), cfgV y (.slice A5 y.own.length k5) (.slice A6 y.ports.length k6)] W2 fun e w' => e = .returned (.bool (sameC x y)) ∧ Below W2.heap.size W2 w') := Lib.hid (csame_any _ _ x y W2 (hcx.below hb12) (hcy.below hb12) (hs x (List.mem_of_getElem? hu)).1 (hs x (List.mem_of_getElem? hu)).2 (hs' y (List.mem_of_getElem? hv)).1 (hs' y (List.mem_of_getElem? hv)).2)
        unfold cfgV at HCL
        have HW1 := Lib.hid hW1
        have HW2 := Lib.hid hW2
        clear hu hv hW1 hW2 hb12
        go_upto_region 6 with fail
        rw [HW1.out]
        have hs1 : b2 < W1.heap.size := by rw [← HW1.out]; simp; omega
        have z0 : W1.cell? ⟨b2, o2 + j * 11, none⟩ = some (.int .i64 y.node) := by rw [← HW1.out]; exact (World.cell?_alloc_lt wr _ _ hb2).trans q0
        have z1 : W1.cell? ⟨b2, o2 + j * 11 + 1, none⟩ = some (.int .u32 y.addr) := by rw [← HW1.out]; exact (World.cell?_alloc_lt wr _ _ hb2).trans q1
        have z2 : W1.cell? ⟨b2, o2 + j * 11 + 2, none⟩ = some (.slice A5 y.own.length k5) := by rw [← HW1.out]; exact (World.cell?_alloc_lt wr _ _ hb2).trans q2
        have z3 : W1.cell? ⟨b2, o2 + j * 11 + 3, none⟩ = some (.slice A6 y.ports.length k6) := by rw [← HW1.out]; exact (World.cell?_alloc_lt wr _ _ hb2).trans q3
        have z4 : W1.cell? ⟨b2, o2 + j * 11 + 4, none⟩ = some (.int .i64 y.hello) := by rw [← HW1.out]; exact (World.cell?_alloc_lt wr _ _ hb2).trans q4
        have z5 : W1.cell? ⟨b2, o2 + j * 11 + 5, none⟩ = some (.int .i64 y.dead) := by rw [← HW1.out]; exact (World.cell?_alloc_lt wr _ _ hb2).trans q5
        have z6 : W1.cell? ⟨b2, o2 + j * 11 + 6, none⟩ = some (.int .i64 y.again) := by rw [← HW1.out]; exact (World.cell?_alloc_lt wr _ _ hb2).trans q6
        have z7 : W1.cell? ⟨b2, o2 + j * 11 + 7, none⟩ = some (.int .i64 y.room) := by rw [← HW1.out]; exact (World.cell?_alloc_lt wr _ _ hb2).trans q7
        have z8 : W1.cell? ⟨b2, o2 + j * 11 + 8, none⟩ = some (.int .i64 y.queue) := by rw [← HW1.out]; exact (World.cell?_alloc_lt wr _ _ hb2).trans q8
        have z9 : W1.cell? ⟨b2, o2 + j * 11 + 9, none⟩ = some (.int .i64 y.tokens) := by rw [← HW1.out]; exact (World.cell?_alloc_lt wr _ _ hb2).trans q9
        have z10 : W1.cell? ⟨b2, o2 + j * 11 + 10, none⟩ = some (.int .i64 y.refill) := by rw [← HW1.out]; exact (World.cell?_alloc_lt wr _ _ hb2).trans q10
        clear p0 q0 p1 q1 p2 q2 p3 q3 p4 q4 p5 q5 p6 q6 p7 q7 p8 q8 p9 q9 p10 q10
        go_upto_region 7 with fail
        rw [HW2.out]
        clear z0 z1 z2 z3 z4 z5 z6 z7 z8 z9 z10
        have p0 : W2.cell? ⟨wr.heap.size, 0, none⟩ = some (.int .i64 x.node) := HX1.out.cell 0
        have q0 : W2.cell? ⟨W1.heap.size, 0, none⟩ = some (.int .i64 y.node) := HX2.out.cell 0
        have p1 : W2.cell? ⟨wr.heap.size, 1, none⟩ = some (.int .u32 x.addr) := HX1.out.cell 1
        have q1 : W2.cell? ⟨W1.heap.size, 1, none⟩ = some (.int .u32 y.addr) := HX2.out.cell 1
        have p2 : W2.cell? ⟨wr.heap.size, 2, none⟩ = some (.slice A3 x.own.length k3) := HX1.out.cell 2
        have q2 : W2.cell? ⟨W1.heap.size, 2, none⟩ = some (.slice A5 y.own.length k5) := HX2.out.cell 2
        have p3 : W2.cell? ⟨wr.heap.size, 3, none⟩ = some (.slice A4 x.ports.length k4) := HX1.out.cell 3
        have q3 : W2.cell? ⟨W1.heap.size, 3, none⟩ = some (.slice A6 y.ports.length k6) := HX2.out.cell 3
        have p4 : W2.cell? ⟨wr.heap.size, 4, none⟩ = some (.int .i64 x.hello) := HX1.out.cell 4
        have q4 : W2.cell? ⟨W1.heap.size, 4, none⟩ = some (.int .i64 y.hello) := HX2.out.cell 4
        have p5 : W2.cell? ⟨wr.heap.size, 5, none⟩ = some (.int .i64 x.dead) := HX1.out.cell 5
        have q5 : W2.cell? ⟨W1.heap.size, 5, none⟩ = some (.int .i64 y.dead) := HX2.out.cell 5
        have p6 : W2.cell? ⟨wr.heap.size, 6, none⟩ = some (.int .i64 x.again) := HX1.out.cell 6
        have q6 : W2.cell? ⟨W1.heap.size, 6, none⟩ = some (.int .i64 y.again) := HX2.out.cell 6
        have p7 : W2.cell? ⟨wr.heap.size, 7, none⟩ = some (.int .i64 x.room) := HX1.out.cell 7
        have q7 : W2.cell? ⟨W1.heap.size, 7, none⟩ = some (.int .i64 y.room) := HX2.out.cell 7
        have p8 : W2.cell? ⟨wr.heap.size, 8, none⟩ = some (.int .i64 x.queue) := HX1.out.cell 8
        have q8 : W2.cell? ⟨W1.heap.size, 8, none⟩ = some (.int .i64 y.queue) := HX2.out.cell 8
        have p9 : W2.cell? ⟨wr.heap.size, 9, none⟩ = some (.int .i64 x.tokens) := HX1.out.cell 9
        have q9 : W2.cell? ⟨W1.heap.size, 9, none⟩ = some (.int .i64 y.tokens) := HX2.out.cell 9
        have p10 : W2.cell? ⟨wr.heap.size, 10, none⟩ = some (.int .i64 x.refill) := HX1.out.cell 10
        have q10 : W2.cell? ⟨W1.heap.size, 10, none⟩ = some (.int .i64 y.refill) := HX2.out.cell 10
        have pl : wr.heap.size < W2.heap.size := HX1.out.lt
        have ql : W1.heap.size < W2.heap.size := HX2.out.lt
        by_cases hxy : x = y
        · have HT2 : Hid (ps.take (j + 1) = qs.take (j + 1)) := Lib.hid (takeG_next HU.out (by rw [hxy]; exact HV.out) HT.out)
          have HCL2 := Lib.hid (HCL.out.mono (fun e w' h => h))
          rw [show sameC x y = true by rw [hxy]; exact sameC_self y] at HCL2
          clear hxy
          go_wp2_with (go_at_call 26; refine (ext_of HCL2.out).mono ?_; rintro e w' ⟨rfl, z, rfl⟩)
          go_roundw
          case rel => exact ⟨j + 1, by omega, by go_num, HT2, Lib.hid (HBB.out.trans (z.below.mono HBB.out.size))⟩
          case measure => simp [intOf]; omega
        · have HF := Lib.hid (takeG_ne HU.out HV.out hxy)
          have hne : sameC x y = false := by
            cases hs : sameC x y with
            | true => exact absurd (sameC_eq hs) hxy
            | false => rfl
          have HCL2 := Lib.hid (HCL.out.mono (fun e w' h => h))
          rw [hne] at HCL2
          clear hxy hne
          go_wp2_with (go_at_call 26; refine (ext_of HCL2.out).mono ?_; rintro e w' ⟨rfl, z, rfl⟩)
          go_ret
          exact ⟨by rw [HF.out]; rfl, HBB.out.trans (z.below.mono HBB.out.size)⟩
      · obtain rfl : j = ps.length := by omega
        have HF := Lib.hid (takeG_all HN.out HT.out)
        go_wp2
        go_ret
        exact ⟨by rw [HF.out]; rfl, HB.out⟩
  · have d1 : ((ps.length : Int) != (qs.length : Int)) = true := by simp; omega
    have HF : Hid (decide (ps = qs) = false) := Lib.hid (decide_eq_false fun e => hn (by rw [e]))
    clear hn
    go_enter Tryz.func98, Tryz.ntmps98
    go_wp2
    go_ret
    exact ⟨by rw [HF.out]; rfl, Below.refl _ _⟩
set_option maxRecDepth 100000 in
set_option maxHeartbeats 4000000 in
theorem equalA_any (v v' : Value) (ps qs : List ActP) (w : World) (h : Acts w v ps) (h' : Acts w v' qs) (hl : ps.length ≤ 1000000) (hs : ∀ a ∈ ps, a.bytes.length ≤ 1000000000) :
    Calls Tryz.prog 100 #[v, v', .func (.func 76) #[] #[]] w fun e w' => e = .returned (.bool (decide (ps = qs))) ∧ Below w.heap.size w w' := by
  have HP := Lib.hid h
  have HQ := Lib.hid h'
  obtain ⟨A, k1, rfl, _⟩ := h
  obtain ⟨B, k2, rfl, _⟩ := h'
  by_cases hn : ps.length = qs.length
  · have HN := Lib.hid hn
    have d1 : ((ps.length : Int) != (qs.length : Int)) = false := by simp [hn]
    clear hn
    go_enter Tryz.func100, Tryz.ntmps100
    go_wp2
    go_loopw [7, 8, 9, 17] (fun _ _ _ i wr => ∃ j : Nat, j ≤ ps.length ∧ i = .int .i64 j ∧ Hid (ps.take j = qs.take j) ∧ Hid (Below w.heap.size w wr)) (fun _ _ _ i _ => ps.length - (intOf i).toNat)
    case atStart => exact ⟨0, Nat.zero_le _, rfl, Lib.hid rfl, Lib.hid (Below.refl _ _)⟩
    case round =>
      obtain ⟨j, hj, rfl, HT, HB⟩ := hrel
      by_cases hlt : j < ps.length
      · have hlt' : j < qs.length := by have := HN.out; omega
        obtain ⟨x, hu⟩ : ∃ u, ps[j]? = some u := ⟨_, List.getElem?_eq_getElem hlt⟩
        obtain ⟨y, hv⟩ : ∃ u, qs[j]? = some u := ⟨_, List.getElem?_eq_getElem hlt'⟩
        obtain ⟨b1, o1, rfl, hb1, hq1⟩ := (HP.out.here HB.out).at hu
        obtain ⟨b2, o2, rfl, hb2, hq2⟩ := (HQ.out.here HB.out).at hv
        obtain ⟨bvx, hbx, p0, p1, p2, p3, p4, p5, p6, p7, p8⟩ := hq1
        obtain ⟨A3, k3, rfl, -⟩ := id hbx
        obtain ⟨bvy, hby, q0, q1, q2, q3, q4, q5, q6, q7, q8⟩ := hq2
        obtain ⟨A5, k5, rfl, -⟩ := id hby
        have HU := Lib.hid hu
        have HV := Lib.hid hv
        obtain ⟨W1, hW1⟩ : ∃ X, wr.alloc (.cells #[.int .i64 x.kind, .int .i64 x.node, .int .i64 x.port, .int .i64 x.cost, .int .i64 x.n, .bool x.up, .int .u8 (x.by_.toNat : Int), .bool x.unread, .slice A3 x.bytes.length k3] 51) = X := ⟨_, rfl⟩
        obtain ⟨W2, hW2⟩ : ∃ X, W1.alloc (.cells #[.int .i64 y.kind, .int .i64 y.node, .int .i64 y.port, .int .i64 y.cost, .int .i64 y.n, .bool y.up, .int .u8 (y.by_.toNat : Int), .bool y.unread, .slice A5 y.bytes.length k5] 51) = X := ⟨_, rfl⟩
        have hb12 : Below wr.heap.size wr W2 := by rw [← hW2, ← hW1]; exact ((Below.refl _ _).alloc (Nat.le_refl _) _).alloc (by simp) _
        have HBB := Lib.hid (HB.out.trans (hb12.mono HB.out.size))
        have HX1 : Hid (Whole W2 wr.heap.size 51 #[.int .i64 x.kind, .int .i64 x.node, .int .i64 x.port, .int .i64 x.cost, .int .i64 x.n, .bool x.up, .int .u8 (x.by_.toNat : Int), .bool x.unread, .slice A3 x.bytes.length k3]) := Lib.hid (by rw [← hW2, ← hW1]; exact (Whole.new wr _ _).alloc _)
        have HX2 : Hid (Whole W2 W1.heap.size 51 #[.int .i64 y.kind, .int .i64 y.node, .int .i64 y.port, .int .i64 y.cost, .int .i64 y.n, .bool y.up, .int .u8 (y.by_.toNat : Int), .bool y.unread, .slice A5 y.bytes.length k5]) := Lib.hid (by rw [← hW2]; exact Whole.new W1 _ _)
        have HCL : Hid (Calls Tryz.prog 76 #[actV x (.slice A3 x.bytes.length k3), actV y (.slice A5 y.bytes.length k5)] W2 fun e w' => e = .returned (.bool (sameA x y)) ∧ Below W2.heap.size W2 w') := Lib.hid (csameAct_any x y _ _ W2 (hbx.below hb12) (hby.below hb12) (hs x (List.mem_of_getElem? hu)))
        have HW1 := Lib.hid hW1
        have HW2 := Lib.hid hW2
        clear hu hv hW1 hW2 hb12
        go_upto_region 6 with fail
        rw [HW1.out]
        have hs1 : b2 < W1.heap.size := by rw [← HW1.out]; simp; omega
        have z0 : W1.cell? ⟨b2, o2 + j * 9, none⟩ = some (.int .i64 y.kind) := by rw [← HW1.out]; exact (World.cell?_alloc_lt wr _ _ hb2).trans q0
        have z1 : W1.cell? ⟨b2, o2 + j * 9 + 1, none⟩ = some (.int .i64 y.node) := by rw [← HW1.out]; exact (World.cell?_alloc_lt wr _ _ hb2).trans q1
        have z2 : W1.cell? ⟨b2, o2 + j * 9 + 2, none⟩ = some (.int .i64 y.port) := by rw [← HW1.out]; exact (World.cell?_alloc_lt wr _ _ hb2).trans q2
        have z3 : W1.cell? ⟨b2, o2 + j * 9 + 3, none⟩ = some (.int .i64 y.cost) := by rw [← HW1.out]; exact (World.cell?_alloc_lt wr _ _ hb2).trans q3
        have z4 : W1.cell? ⟨b2, o2 + j * 9 + 4, none⟩ = some (.int .i64 y.n) := by rw [← HW1.out]; exact (World.cell?_alloc_lt wr _ _ hb2).trans q4
        have z5 : W1.cell? ⟨b2, o2 + j * 9 + 5, none⟩ = some (.bool y.up) := by rw [← HW1.out]; exact (World.cell?_alloc_lt wr _ _ hb2).trans q5
        have z6 : W1.cell? ⟨b2, o2 + j * 9 + 6, none⟩ = some (.int .u8 (y.by_.toNat : Int)) := by rw [← HW1.out]; exact (World.cell?_alloc_lt wr _ _ hb2).trans q6
        have z7 : W1.cell? ⟨b2, o2 + j * 9 + 7, none⟩ = some (.bool y.unread) := by rw [← HW1.out]; exact (World.cell?_alloc_lt wr _ _ hb2).trans q7
        have z8 : W1.cell? ⟨b2, o2 + j * 9 + 8, none⟩ = some (.slice A5 y.bytes.length k5) := by rw [← HW1.out]; exact (World.cell?_alloc_lt wr _ _ hb2).trans q8
        clear p0 q0 p1 q1 p2 q2 p3 q3 p4 q4 p5 q5 p6 q6 p7 q7 p8 q8
        go_upto_region 7 with fail
        rw [HW2.out]
        clear z0 z1 z2 z3 z4 z5 z6 z7 z8
        have p0 : W2.cell? ⟨wr.heap.size, 0, none⟩ = some (.int .i64 x.kind) := HX1.out.cell 0
        have q0 : W2.cell? ⟨W1.heap.size, 0, none⟩ = some (.int .i64 y.kind) := HX2.out.cell 0
        have p1 : W2.cell? ⟨wr.heap.size, 1, none⟩ = some (.int .i64 x.node) := HX1.out.cell 1
        have q1 : W2.cell? ⟨W1.heap.size, 1, none⟩ = some (.int .i64 y.node) := HX2.out.cell 1
        have p2 : W2.cell? ⟨wr.heap.size, 2, none⟩ = some (.int .i64 x.port) := HX1.out.cell 2
        have q2 : W2.cell? ⟨W1.heap.size, 2, none⟩ = some (.int .i64 y.port) := HX2.out.cell 2
        have p3 : W2.cell? ⟨wr.heap.size, 3, none⟩ = some (.int .i64 x.cost) := HX1.out.cell 3
        have q3 : W2.cell? ⟨W1.heap.size, 3, none⟩ = some (.int .i64 y.cost) := HX2.out.cell 3
        have p4 : W2.cell? ⟨wr.heap.size, 4, none⟩ = some (.int .i64 x.n) := HX1.out.cell 4
        have q4 : W2.cell? ⟨W1.heap.size, 4, none⟩ = some (.int .i64 y.n) := HX2.out.cell 4
        have p5 : W2.cell? ⟨wr.heap.size, 5, none⟩ = some (.bool x.up) := HX1.out.cell 5
        have q5 : W2.cell? ⟨W1.heap.size, 5, none⟩ = some (.bool y.up) := HX2.out.cell 5
        have p6 : W2.cell? ⟨wr.heap.size, 6, none⟩ = some (.int .u8 (x.by_.toNat : Int)) := HX1.out.cell 6
        have q6 : W2.cell? ⟨W1.heap.size, 6, none⟩ = some (.int .u8 (y.by_.toNat : Int)) := HX2.out.cell 6
        have p7 : W2.cell? ⟨wr.heap.size, 7, none⟩ = some (.bool x.unread) := HX1.out.cell 7
        have q7 : W2.cell? ⟨W1.heap.size, 7, none⟩ = some (.bool y.unread) := HX2.out.cell 7
        have p8 : W2.cell? ⟨wr.heap.size, 8, none⟩ = some (.slice A3 x.bytes.length k3) := HX1.out.cell 8
        have q8 : W2.cell? ⟨W1.heap.size, 8, none⟩ = some (.slice A5 y.bytes.length k5) := HX2.out.cell 8
        have pl : wr.heap.size < W2.heap.size := HX1.out.lt
        have ql : W1.heap.size < W2.heap.size := HX2.out.lt
        by_cases hxy : x = y
        · have HT2 : Hid (ps.take (j + 1) = qs.take (j + 1)) := Lib.hid (takeG_next HU.out (by rw [hxy]; exact HV.out) HT.out)
          have HCL2 := Lib.hid (HCL.out.mono (fun e w' h => h))
          rw [show sameA x y = true by rw [hxy]; exact sameA_refl y] at HCL2
          clear hxy
          go_wp2_with (go_at_call 76; refine (ext_of HCL2.out).mono ?_; rintro e w' ⟨rfl, z, rfl⟩)
          go_roundw
          case rel => exact ⟨j + 1, by omega, by go_num, HT2, Lib.hid (HBB.out.trans (z.below.mono HBB.out.size))⟩
          case measure => simp [intOf]; omega
        · have HF := Lib.hid (takeG_ne HU.out HV.out hxy)
          have hne : sameA x y = false := by
            cases hs : sameA x y with
            | true => exact absurd (sameA_eq hs) hxy
            | false => rfl
          have HCL2 := Lib.hid (HCL.out.mono (fun e w' h => h))
          rw [hne] at HCL2
          clear hxy hne
          go_wp2_with (go_at_call 76; refine (ext_of HCL2.out).mono ?_; rintro e w' ⟨rfl, z, rfl⟩)
          go_ret
          exact ⟨by rw [HF.out]; rfl, HBB.out.trans (z.below.mono HBB.out.size)⟩
      · obtain rfl : j = ps.length := by omega
        have HF := Lib.hid (takeG_all HN.out HT.out)
        go_wp2
        go_ret
        exact ⟨by rw [HF.out]; rfl, HB.out⟩
  · have d1 : ((ps.length : Int) != (qs.length : Int)) = true := by simp; omega
    have HF : Hid (decide (ps = qs) = false) := Lib.hid (decide_eq_false fun e => hn (by rw [e]))
    clear hn
    go_enter Tryz.func100, Tryz.ntmps100
    go_wp2
    go_ret
    exact ⟨by rw [HF.out]; rfl, Below.refl _ _⟩
end Go.Proofs.YtfbangojgjcbcaaGreatDoor
namespace Go.Proofs.YtfbangojgjcbcaaGreatDoor
open Go.RowKit Pl
/-- What a script in memory must be for what follows. -/
structure ScrIs (w : World) (cv lv av : Value) (cs : List Cfg) (ls : List Lk) (zs : List ActP) : Prop where
  confs : Confs w cv cs
  links : Links w lv ls
  acts : Acts w av zs
theorem ScrIs.here {w w' : World} {cv lv av : Value} {cs : List Cfg} {ls : List Lk} {zs : List ActP} (h : ScrIs w cv lv av cs ls zs) (hb : Below w.heap.size w w') : ScrIs w' cv lv av cs ls zs := ⟨h.confs.here hb, h.links.here hb, h.acts.here hb⟩
/-- .. and how much there may be. -/
structure ScrOk (cs : List Cfg) (ls : List Lk) (zs : List ActP) : Prop where
  addrs : ∀ c ∈ cs, Addrs4 c
  confs : ∀ c ∈ cs, c.own.length ≤ 1000000 ∧ c.ports.length ≤ 1000000 ∧ In64 c.node
  links : ∀ l ∈ ls, In4 l
  acts : ∀ a ∈ zs, InA a ∧ a.bytes.length ≤ 1000000
  nc : cs.length ≤ 1000000
  nl : ls.length ≤ 1000000
  na : zs.length ≤ 1000000
def sameS (cs cs' : List Cfg) (ls ls' : List Lk) (zs zs' : List ActP) : Bool := decide (cs = cs') && decide (ls = ls') && decide (zs = zs')
set_option maxRecDepth 100000 in
set_option maxHeartbeats 4000000 in
theorem ssame_any (cv lv av cv' lv' av' : Value) (cs cs' : List Cfg) (ls ls' : List Lk) (zs zs' : List ActP) (w : World) (h : ScrIs w cv lv av cs ls zs) (h' : ScrIs w cv' lv' av' cs' ls' zs') (k : ScrOk cs ls zs) (k' : ScrOk cs' ls' zs') :
    Calls Tryz.prog 47 #[.agg #[cv, lv, av], .agg #[cv', lv', av']] w fun e w' => e = .returned (.bool (sameS cs cs' ls ls' zs zs')) ∧ Below w.heap.size w w' := by
  obtain ⟨W0, hW0⟩ : ∃ X, (w.alloc (.cells #[cv, lv, av] 76)).alloc (.cells #[cv', lv', av'] 76) = X := ⟨_, rfl⟩
  have hb0 : Below w.heap.size w W0 := by rw [← hW0]; exact ((Below.refl _ _).alloc (Nat.le_refl _) _).alloc (by simp) _
  have HB0 := Lib.hid hb0
  have HX0 : Hid (Whole W0 w.heap.size 76 #[cv, lv, av]) := Lib.hid (by rw [← hW0]; exact (Whole.new w _ _).alloc _)
  have HY0 : Hid (Whole W0 (w.heap.size + 1) 76 #[cv', lv', av']) := Lib.hid (by
    rw [← hW0]
    have := Whole.new (w.alloc (.cells #[cv, lv, av] 76)) 76 #[cv', lv', av']
    rw [World.size_alloc] at this
    exact this)
  have HC := Lib.hid (equalC_any cv cv' cs cs' W0 (h.confs.here hb0) (h'.confs.here hb0) k.nc (fun c hc => ⟨(k.confs c hc).1, (k.confs c hc).2.1⟩) (fun c hc => ⟨(k'.confs c hc).1, (k'.confs c hc).2.1⟩))
  have HL := Lib.hid (fun W (hb : Below w.heap.size w W) => equalL_any lv lv' ls ls' W (h.links.here hb) (h'.links.here hb) k.nl)
  have HA := Lib.hid (fun W (hb : Below w.heap.size w W) => equalA_any av av' zs zs' W (h.acts.here hb) (h'.acts.here hb) k.na (fun a ha => by have := (k.acts a ha).2; omega))
  have HW0 := Lib.hid hW0
  clear hW0 hb0 h h' k k'
  have x0 : W0.cell? ⟨w.heap.size, 0, none⟩ = some cv := HX0.out.cell 0
  have xq0 : W0.cell? ⟨w.heap.size + 1, 0, none⟩ = some cv' := HY0.out.cell 0
  have x1 : W0.cell? ⟨w.heap.size, 1, none⟩ = some lv := HX0.out.cell 1
  have xq1 : W0.cell? ⟨w.heap.size + 1, 1, none⟩ = some lv' := HY0.out.cell 1
  have x2 : W0.cell? ⟨w.heap.size, 2, none⟩ = some av := HX0.out.cell 2
  have xq2 : W0.cell? ⟨w.heap.size + 1, 2, none⟩ = some av' := HY0.out.cell 2
  have xl : w.heap.size < W0.heap.size := HX0.out.lt
  have xm : w.heap.size + 1 < W0.heap.size := HY0.out.lt
  cases e1 : decide (cs = cs') with
  | false =>
    have E1 := Lib.hid e1
    rw [e1] at HC
    clear e1
    go_enter Tryz.func47, Tryz.ntmps47
    go_upto_region 1 with fail
    rw [HW0.out]
    go_wp2_with fail
    refine HC.out.mono ?_
    rintro e w1 ⟨rfl, hb⟩
    have HB1 := Lib.hid (HB0.out.trans (hb.mono HB0.out.size))
    have HX1 := Lib.hid (HX0.out.here hb)
    have HY1 := Lib.hid (HY0.out.here hb)
    clear hb
    go_wp2
    go_ret
    exact ⟨by unfold sameS; simp [E1.out], HB1.out⟩
  | true =>
    have E1 := Lib.hid e1
    rw [e1] at HC
    clear e1
    go_enter Tryz.func47, Tryz.ntmps47
    go_upto_region 1 with fail
    rw [HW0.out]
    go_wp2_with fail
    refine HC.out.mono ?_
    rintro e w1 ⟨rfl, hb⟩
    have HB1 := Lib.hid (HB0.out.trans (hb.mono HB0.out.size))
    have HX1 := Lib.hid (HX0.out.here hb)
    have HY1 := Lib.hid (HY0.out.here hb)
    clear hb
    clear x0 xq0 x1 xq1 x2 xq2 xl xm
    have x0 : w1.cell? ⟨w.heap.size, 0, none⟩ = some cv := HX1.out.cell 0
    have xq0 : w1.cell? ⟨w.heap.size + 1, 0, none⟩ = some cv' := HY1.out.cell 0
    have x1 : w1.cell? ⟨w.heap.size, 1, none⟩ = some lv := HX1.out.cell 1
    have xq1 : w1.cell? ⟨w.heap.size + 1, 1, none⟩ = some lv' := HY1.out.cell 1
    have x2 : w1.cell? ⟨w.heap.size, 2, none⟩ = some av := HX1.out.cell 2
    have xq2 : w1.cell? ⟨w.heap.size + 1, 2, none⟩ = some av' := HY1.out.cell 2
    have xl : w.heap.size < w1.heap.size := HX1.out.lt
    have xm : w.heap.size + 1 < w1.heap.size := HY1.out.lt
    have HL1 := Lib.hid (HL.out _ HB1.out)
    cases e2 : decide (ls = ls') with
    | false =>
      have E2 := Lib.hid e2
      rw [e2] at HL1
      clear e2
      go_wp2_with fail
      refine HL1.out.mono ?_
      rintro e w2 ⟨rfl, hb⟩
      have HB2 := Lib.hid (HB1.out.trans (hb.mono HB1.out.size))
      have HX2 := Lib.hid (HX1.out.here hb)
      have HY2 := Lib.hid (HY1.out.here hb)
      clear hb
      go_wp2
      go_ret
      exact ⟨by unfold sameS; simp [E1.out, E2.out], HB2.out⟩
    | true =>
      have E2 := Lib.hid e2
      rw [e2] at HL1
      clear e2
      go_wp2_with fail
      refine HL1.out.mono ?_
      rintro e w2 ⟨rfl, hb⟩
      have HB2 := Lib.hid (HB1.out.trans (hb.mono HB1.out.size))
      have HX2 := Lib.hid (HX1.out.here hb)
      have HY2 := Lib.hid (HY1.out.here hb)
      clear hb
      clear x0 xq0 x1 xq1 x2 xq2 xl xm
      have x0 : w2.cell? ⟨w.heap.size, 0, none⟩ = some cv := HX2.out.cell 0
      have xq0 : w2.cell? ⟨w.heap.size + 1, 0, none⟩ = some cv' := HY2.out.cell 0
      have x1 : w2.cell? ⟨w.heap.size, 1, none⟩ = some lv := HX2.out.cell 1
      have xq1 : w2.cell? ⟨w.heap.size + 1, 1, none⟩ = some lv' := HY2.out.cell 1
      have x2 : w2.cell? ⟨w.heap.size, 2, none⟩ = some av := HX2.out.cell 2
      have xq2 : w2.cell? ⟨w.heap.size + 1, 2, none⟩ = some av' := HY2.out.cell 2
      have xl : w.heap.size < w2.heap.size := HX2.out.lt
      have xm : w.heap.size + 1 < w2.heap.size := HY2.out.lt
      have HA2 := Lib.hid (HA.out _ HB2.out)
      cases e3 : decide (zs = zs') with
      | false =>
        have E3 := Lib.hid e3
        rw [e3] at HA2
        clear e3
        go_wp2_with fail
        refine HA2.out.mono ?_
        rintro e w3 ⟨rfl, hb⟩
        have HB3 := Lib.hid (HB2.out.trans (hb.mono HB2.out.size))
        have HX3 := Lib.hid (HX2.out.here hb)
        have HY3 := Lib.hid (HY2.out.here hb)
        clear hb
        go_wp2
        go_ret
        exact ⟨by unfold sameS; simp [E1.out, E2.out, E3.out], HB3.out⟩
      | true =>
        have E3 := Lib.hid e3
        rw [e3] at HA2
        clear e3
        go_wp2_with fail
        refine HA2.out.mono ?_
        rintro e w3 ⟨rfl, hb⟩
        have HB3 := Lib.hid (HB2.out.trans (hb.mono HB2.out.size))
        have HX3 := Lib.hid (HX2.out.here hb)
        have HY3 := Lib.hid (HY2.out.here hb)
        clear hb
        go_wp2
        go_ret
        exact ⟨by unfold sameS; simp [E1.out, E2.out, E3.out], HB3.out⟩
end Go.Proofs.YtfbangojgjcbcaaGreatDoor
