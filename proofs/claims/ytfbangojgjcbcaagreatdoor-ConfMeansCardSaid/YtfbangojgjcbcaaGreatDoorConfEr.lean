/- slices.Equal over prefixes and ports; whether two configurations are the same, in the code and in the document. -/
/- The document's Same, Owns and Text of configurations. -/
import Derived.Test.YtfbangojgjcbcaaGreatDoorConfP
import Derived.Test.YtfbangojgjcbcaaGreatDoorOpenC
import Derived.Test.YtfbangojgjcbcaaGreatDoorConfS
namespace Go.Proofs.YtfbangojgjcbcaaGreatDoor
open Go.RowKit Pl

theorem take_ne {ps qs : List Pr} {j : Nat} {u v : Pr} (hu : ps[j]? = some u) (hv : qs[j]? = some v) (h : u ≠ v) : decide (ps = qs) = false :=
  decide_eq_false fun e => h (by subst e; rw [hu] at hv; injection hv)
theorem take_next {ps qs : List Pr} {j : Nat} {u : Pr} (hu : ps[j]? = some u) (hv : qs[j]? = some u) (h : ps.take j = qs.take j) : ps.take (j + 1) = qs.take (j + 1) := by
  rw [List.take_add_one, List.take_add_one, hu, hv, h]
theorem take_all {ps qs : List Pr} (hl : ps.length = qs.length) (h : ps.take ps.length = qs.take ps.length) : decide (ps = qs) = true := by
  rw [List.take_length] at h
  rw [hl, List.take_length] at h
  exact decide_eq_true h

set_option maxRecDepth 100000 in
set_option maxHeartbeats 2000000 in
theorem equalP_any (v v' : Value) (ps qs : List Pr) (w : World) (h : Rs .u32 w v ps) (h' : Rs .u32 w v' qs) (hl : ps.length ≤ 1000000) (_hl' : qs.length ≤ 1000000) :
    Calls Tryz.prog 73 #[v, v'] w fun e w' => e = .returned (.bool (decide (ps = qs))) ∧ Below w.heap.size w w' := by
  have HP := Lib.hid h
  have HQ := Lib.hid h'
  obtain ⟨A, k1, rfl, _⟩ := h
  obtain ⟨B, k2, rfl, _⟩ := h'
  by_cases hn : ps.length = qs.length
  · have HN := Lib.hid hn
    have d1 : ((ps.length : Int) != (qs.length : Int)) = false := by simp [hn]
    clear hn
    go_enter Tryz.func73, Tryz.ntmps73
    go_wp2
    go_loopw [13] (fun i wr => ∃ j : Nat, j ≤ ps.length ∧ i = .int .i64 j ∧ Hid (ps.take j = qs.take j) ∧ Hid (Below w.heap.size w wr)) (fun i _ => ps.length - (intOf i).toNat)
    case atStart => exact ⟨0, Nat.zero_le _, rfl, Lib.hid rfl, Lib.hid (Below.refl _ _)⟩
    case round =>
      obtain ⟨j, hj, rfl, HT, HB⟩ := hrel
      by_cases hlt : j < ps.length
      · have hlt' : j < qs.length := by have := HN.out; omega
        obtain ⟨⟨ua, un⟩, hu⟩ : ∃ u, ps[j]? = some u := ⟨_, List.getElem?_eq_getElem hlt⟩
        obtain ⟨⟨va, vn⟩, hv⟩ : ∃ u, qs[j]? = some u := ⟨_, List.getElem?_eq_getElem hlt'⟩
        obtain ⟨b1, o1, rfl, hb1, p0, p1⟩ := (HP.out.below HB.out).at hu
        obtain ⟨b2, o2, rfl, hb2, q0, q1⟩ := (HQ.out.below HB.out).at hv
        simp only at p0 p1 q0 q1
        have HU := Lib.hid hu
        have HV := Lib.hid hv
        clear hu hv
        by_cases e1 : ua = va
        · subst e1
          by_cases e2 : un = vn
          · subst e2
            have HT2 := Lib.hid (take_next HU.out HV.out HT.out)
            go_wp2
            go_region
            go_wp2
            go_roundw
            case rel => exact ⟨j + 1, by omega, by go_num, HT2, Lib.hid HB.out.drew⟩
            case measure => simp [intOf]; omega
          · have HF := Lib.hid (take_ne HU.out HV.out (fun e => e2 (by injection e)))
            have d2 : (un == vn) = false := by simpa using e2
            clear e2
            go_wp2
            go_region
            go_wp2
            go_ret
            exact ⟨by rw [HF.out]; rfl, HB.out.drew⟩
        · have HF := Lib.hid (take_ne HU.out HV.out (fun e => e1 (by injection e)))
          have d2 : (ua == va) = false := by simpa using e1
          clear e1
          go_wp2
          go_region
          go_wp2
          go_ret
          exact ⟨by rw [HF.out]; rfl, HB.out.drew⟩
      · obtain rfl : j = ps.length := by omega
        have HF := Lib.hid (take_all HN.out HT.out)
        go_wp2
        go_ret
        exact ⟨by rw [HF.out]; rfl, HB.out⟩
  · have d1 : ((ps.length : Int) != (qs.length : Int)) = true := by simp; omega
    have HF : Hid (decide (ps = qs) = false) := Lib.hid (decide_eq_false fun e => hn (by rw [e]))
    clear hn
    go_enter Tryz.func73, Tryz.ntmps73
    go_wp2
    go_ret
    exact ⟨by rw [HF.out]; rfl, Below.refl _ _⟩

set_option maxRecDepth 100000 in
set_option maxHeartbeats 2000000 in
theorem equalO_any (v v' : Value) (ps qs : List Pr) (w : World) (h : Rs .i64 w v ps) (h' : Rs .i64 w v' qs) (hl : ps.length ≤ 1000000) (_hl' : qs.length ≤ 1000000) :
    Calls Tryz.prog 74 #[v, v'] w fun e w' => e = .returned (.bool (decide (ps = qs))) ∧ Below w.heap.size w w' := by
  have HP := Lib.hid h
  have HQ := Lib.hid h'
  obtain ⟨A, k1, rfl, _⟩ := h
  obtain ⟨B, k2, rfl, _⟩ := h'
  by_cases hn : ps.length = qs.length
  · have HN := Lib.hid hn
    have d1 : ((ps.length : Int) != (qs.length : Int)) = false := by simp [hn]
    clear hn
    go_enter Tryz.func74, Tryz.ntmps74
    go_wp2
    go_loopw [13] (fun i wr => ∃ j : Nat, j ≤ ps.length ∧ i = .int .i64 j ∧ Hid (ps.take j = qs.take j) ∧ Hid (Below w.heap.size w wr)) (fun i _ => ps.length - (intOf i).toNat)
    case atStart => exact ⟨0, Nat.zero_le _, rfl, Lib.hid rfl, Lib.hid (Below.refl _ _)⟩
    case round =>
      obtain ⟨j, hj, rfl, HT, HB⟩ := hrel
      by_cases hlt : j < ps.length
      · have hlt' : j < qs.length := by have := HN.out; omega
        obtain ⟨⟨ua, un⟩, hu⟩ : ∃ u, ps[j]? = some u := ⟨_, List.getElem?_eq_getElem hlt⟩
        obtain ⟨⟨va, vn⟩, hv⟩ : ∃ u, qs[j]? = some u := ⟨_, List.getElem?_eq_getElem hlt'⟩
        obtain ⟨b1, o1, rfl, hb1, p0, p1⟩ := (HP.out.below HB.out).at hu
        obtain ⟨b2, o2, rfl, hb2, q0, q1⟩ := (HQ.out.below HB.out).at hv
        simp only at p0 p1 q0 q1
        have HU := Lib.hid hu
        have HV := Lib.hid hv
        clear hu hv
        by_cases e1 : ua = va
        · subst e1
          by_cases e2 : un = vn
          · subst e2
            have HT2 := Lib.hid (take_next HU.out HV.out HT.out)
            go_wp2
            go_region
            go_wp2
            go_roundw
            case rel => exact ⟨j + 1, by omega, by go_num, HT2, Lib.hid HB.out.drew⟩
            case measure => simp [intOf]; omega
          · have HF := Lib.hid (take_ne HU.out HV.out (fun e => e2 (by injection e)))
            have d2 : (un == vn) = false := by simpa using e2
            clear e2
            go_wp2
            go_region
            go_wp2
            go_ret
            exact ⟨by rw [HF.out]; rfl, HB.out.drew⟩
        · have HF := Lib.hid (take_ne HU.out HV.out (fun e => e1 (by injection e)))
          have d2 : (ua == va) = false := by simpa using e1
          clear e1
          go_wp2
          go_region
          go_wp2
          go_ret
          exact ⟨by rw [HF.out]; rfl, HB.out.drew⟩
      · obtain rfl : j = ps.length := by omega
        have HF := Lib.hid (take_all HN.out HT.out)
        go_wp2
        go_ret
        exact ⟨by rw [HF.out]; rfl, HB.out⟩
  · have d1 : ((ps.length : Int) != (qs.length : Int)) = true := by simp; omega
    have HF : Hid (decide (ps = qs) = false) := Lib.hid (decide_eq_false fun e => hn (by rw [e]))
    clear hn
    go_enter Tryz.func74, Tryz.ntmps74
    go_wp2
    go_ret
    exact ⟨by rw [HF.out]; rfl, Below.refl _ _⟩

def eqRest (c d : Cfg) : Bool := decide (c.hello = d.hello) && decide (c.dead = d.dead) && decide (c.again = d.again) && decide (c.room = d.room) && decide (c.queue = d.queue) && decide (c.tokens = d.tokens) && decide (c.refill = d.refill)
/-- Are two configurations the same? -/
def sameC (c d : Cfg) : Bool := decide (c.node = d.node) && decide (c.addr = d.addr) && decide (c.own = d.own) && decide (c.ports = d.ports) && eqRest c d
theorem sameC_self (c : Cfg) : sameC c c = true := by simp [sameC, eqRest]
theorem sameC_eq {c d : Cfg} (h : sameC c d = true) : c = d := by
  obtain ⟨c1, c2, c3, c4, c5, c6, c7, c8, c9, c10, c11⟩ := c
  obtain ⟨d1, d2, d3, d4, d5, d6, d7, d8, d9, d10, d11⟩ := d
  simp only [sameC, eqRest, Bool.and_eq_true, decide_eq_true_eq] at h
  simp only [Cfg.mk.injEq]
  obtain ⟨⟨⟨⟨h1, h2⟩, h3⟩, h4⟩, ⟨⟨⟨⟨⟨h5, h6⟩, h7⟩, h8⟩, h9⟩, h10⟩, h11⟩ := h
  exact ⟨h1, h2, h3, h4, h5, h6, h7, h8, h9, h10, h11⟩

set_option maxRecDepth 100000 in
set_option maxHeartbeats 8000000 in
theorem csame_any (v v' : Value) (c d : Cfg) (w : World) (h : CfgIs w v c) (h' : CfgIs w v' d) (hl : c.own.length ≤ 1000000) (hp : c.ports.length ≤ 1000000) (hl' : d.own.length ≤ 1000000) (hp' : d.ports.length ≤ 1000000) :
    Calls Tryz.prog 26 #[v, v'] w fun e w' => e = .returned (.bool (sameC c d)) ∧ Below w.heap.size w w' := by
  obtain ⟨own, ports, rfl, hO, hP⟩ := h.is
  obtain ⟨own', ports', rfl, hO', hP'⟩ := h'.is
  have HO := Lib.hid hO
  have HP := Lib.hid hP
  have HO' := Lib.hid hO'
  have HP' := Lib.hid hP'
  obtain ⟨A1, k1, rfl, -⟩ := hO
  obtain ⟨A2, k2, rfl, -⟩ := hP
  obtain ⟨B1, l1, rfl, -⟩ := hO'
  obtain ⟨B2, l2, rfl, -⟩ := hP'
  clear h h'
  unfold cfgV
  obtain ⟨W0, hW0⟩ : ∃ W0, (w.alloc (.cells #[.int .i64 c.node, .int .u32 c.addr, .slice A1 c.own.length k1, .slice A2 c.ports.length k2, .int .i64 c.hello, .int .i64 c.dead, .int .i64 c.again, .int .i64 c.room, .int .i64 c.queue, .int .i64 c.tokens, .int .i64 c.refill] 28)).alloc (.cells #[.int .i64 d.node, .int .u32 d.addr, .slice B1 d.own.length l1, .slice B2 d.ports.length l2, .int .i64 d.hello, .int .i64 d.dead, .int .i64 d.again, .int .i64 d.room, .int .i64 d.queue, .int .i64 d.tokens, .int .i64 d.refill] 28) = W0 := ⟨_, rfl⟩
  have HB0 : Hid (Below w.heap.size w W0) := Lib.hid (by rw [← hW0]; exact ((Below.refl _ _).alloc (Nat.le_refl _) _).alloc (by simp) _)
  have HX1 : Hid (Whole W0 w.heap.size 28 #[.int .i64 c.node, .int .u32 c.addr, .slice A1 c.own.length k1, .slice A2 c.ports.length k2, .int .i64 c.hello, .int .i64 c.dead, .int .i64 c.again, .int .i64 c.room, .int .i64 c.queue, .int .i64 c.tokens, .int .i64 c.refill]) := Lib.hid (by rw [← hW0]; exact (Whole.new w _ _).alloc _)
  have HX2 : Hid (Whole W0 (w.heap.size + 1) 28 #[.int .i64 d.node, .int .u32 d.addr, .slice B1 d.own.length l1, .slice B2 d.ports.length l2, .int .i64 d.hello, .int .i64 d.dead, .int .i64 d.again, .int .i64 d.room, .int .i64 d.queue, .int .i64 d.tokens, .int .i64 d.refill]) := Lib.hid (by
    rw [← hW0]
    have := Whole.new (w.alloc (.cells #[.int .i64 c.node, .int .u32 c.addr, .slice A1 c.own.length k1, .slice A2 c.ports.length k2, .int .i64 c.hello, .int .i64 c.dead, .int .i64 c.again, .int .i64 c.room, .int .i64 c.queue, .int .i64 c.tokens, .int .i64 c.refill] 28)) 28 #[.int .i64 d.node, .int .u32 d.addr, .slice B1 d.own.length l1, .slice B2 d.ports.length l2, .int .i64 d.hello, .int .i64 d.dead, .int .i64 d.again, .int .i64 d.room, .int .i64 d.queue, .int .i64 d.tokens, .int .i64 d.refill]
    simpa using this)
  have hlt1 := HX1.out.lt
  have hlt2 := HX2.out.lt
  have HW0 := Lib.hid hW0
  clear hW0
  have y0 : W0.cell? ⟨w.heap.size, 0, none⟩ = some (.int .i64 c.node) := HX1.out.cell 0
  have z0 : W0.cell? ⟨w.heap.size + 1, 0, none⟩ = some (.int .i64 d.node) := HX2.out.cell 0
  have y1 : W0.cell? ⟨w.heap.size, 1, none⟩ = some (.int .u32 c.addr) := HX1.out.cell 1
  have z1 : W0.cell? ⟨w.heap.size + 1, 1, none⟩ = some (.int .u32 d.addr) := HX2.out.cell 1
  have y2 : W0.cell? ⟨w.heap.size, 2, none⟩ = some (.slice A1 c.own.length k1) := HX1.out.cell 2
  have z2 : W0.cell? ⟨w.heap.size + 1, 2, none⟩ = some (.slice B1 d.own.length l1) := HX2.out.cell 2
  have y3 : W0.cell? ⟨w.heap.size, 3, none⟩ = some (.slice A2 c.ports.length k2) := HX1.out.cell 3
  have z3 : W0.cell? ⟨w.heap.size + 1, 3, none⟩ = some (.slice B2 d.ports.length l2) := HX2.out.cell 3
  have y4 : W0.cell? ⟨w.heap.size, 4, none⟩ = some (.int .i64 c.hello) := HX1.out.cell 4
  have z4 : W0.cell? ⟨w.heap.size + 1, 4, none⟩ = some (.int .i64 d.hello) := HX2.out.cell 4
  have y5 : W0.cell? ⟨w.heap.size, 5, none⟩ = some (.int .i64 c.dead) := HX1.out.cell 5
  have z5 : W0.cell? ⟨w.heap.size + 1, 5, none⟩ = some (.int .i64 d.dead) := HX2.out.cell 5
  have y6 : W0.cell? ⟨w.heap.size, 6, none⟩ = some (.int .i64 c.again) := HX1.out.cell 6
  have z6 : W0.cell? ⟨w.heap.size + 1, 6, none⟩ = some (.int .i64 d.again) := HX2.out.cell 6
  have y7 : W0.cell? ⟨w.heap.size, 7, none⟩ = some (.int .i64 c.room) := HX1.out.cell 7
  have z7 : W0.cell? ⟨w.heap.size + 1, 7, none⟩ = some (.int .i64 d.room) := HX2.out.cell 7
  have y8 : W0.cell? ⟨w.heap.size, 8, none⟩ = some (.int .i64 c.queue) := HX1.out.cell 8
  have z8 : W0.cell? ⟨w.heap.size + 1, 8, none⟩ = some (.int .i64 d.queue) := HX2.out.cell 8
  have y9 : W0.cell? ⟨w.heap.size, 9, none⟩ = some (.int .i64 c.tokens) := HX1.out.cell 9
  have z9 : W0.cell? ⟨w.heap.size + 1, 9, none⟩ = some (.int .i64 d.tokens) := HX2.out.cell 9
  have y10 : W0.cell? ⟨w.heap.size, 10, none⟩ = some (.int .i64 c.refill) := HX1.out.cell 10
  have z10 : W0.cell? ⟨w.heap.size + 1, 10, none⟩ = some (.int .i64 d.refill) := HX2.out.cell 10
  have HEP : Hid (Calls Tryz.prog 73 #[.slice A1 c.own.length k1, .slice B1 d.own.length l1] W0 fun e w' => e = .returned (.bool (decide (c.own = d.own))) ∧ Below W0.heap.size W0 w') := Lib.hid (equalP_any _ _ _ _ _ (HO.out.below HB0.out) (HO'.out.below HB0.out) hl hl')
  have HEO : Hid (∀ y : Ext W0, Calls Tryz.prog 74 #[.slice A2 c.ports.length k2, .slice B2 d.ports.length l2] y.w fun e w' => e = .returned (.bool (decide (c.ports = d.ports))) ∧ Below y.w.heap.size y.w w') := Lib.hid (fun y => equalO_any _ _ _ _ _ ((HP.out.below HB0.out).below y.below) ((HP'.out.below HB0.out).below y.below) hp hp')
  clear HX1 HX2
  go_enter Tryz.func26, Tryz.ntmps26
  go_upto_region 1 with fail
  rw [HW0.out]
  go_cut [5] (fun s wx => s = .bool (eqRest c d) ∧ wx = W0)
  case first =>
    by_cases e0 : c.hello = d.hello
    · have q0 : (c.hello == d.hello) = true := by simpa using e0
      have r0 : decide (c.hello = d.hello) = true := decide_eq_true e0
      by_cases e1 : c.dead = d.dead
      · have q1 : (c.dead == d.dead) = true := by simpa using e1
        have r1 : decide (c.dead = d.dead) = true := decide_eq_true e1
        by_cases e2 : c.again = d.again
        · have q2 : (c.again == d.again) = true := by simpa using e2
          have r2 : decide (c.again = d.again) = true := decide_eq_true e2
          by_cases e3 : c.room = d.room
          · have q3 : (c.room == d.room) = true := by simpa using e3
            have r3 : decide (c.room = d.room) = true := decide_eq_true e3
            by_cases e4 : c.queue = d.queue
            · have q4 : (c.queue == d.queue) = true := by simpa using e4
              have r4 : decide (c.queue = d.queue) = true := decide_eq_true e4
              by_cases e5 : c.tokens = d.tokens
              · have q5 : (c.tokens == d.tokens) = true := by simpa using e5
                have r5 : decide (c.tokens = d.tokens) = true := decide_eq_true e5
                by_cases e6 : c.refill = d.refill
                · have q6 : (c.refill == d.refill) = true := by simpa using e6
                  have r6 : decide (c.refill = d.refill) = true := decide_eq_true e6
                  have HR : Hid (eqRest c d = true) := Lib.hid (by unfold eqRest; rw [r0, r1, r2, r3, r4, r5, r6]; rfl)
                  clear e0 r0 e1 r1 e2 r2 e3 r3 e4 r4 e5 r5 e6 r6
                  go_wp2
                  go_meet
                  exact ⟨by rw [HR.out], rfl⟩
                · have q6 : (c.refill == d.refill) = false := by simpa using e6
                  have r6 : decide (c.refill = d.refill) = false := decide_eq_false e6
                  have HR : Hid (eqRest c d = false) := Lib.hid (by unfold eqRest; rw [r6]; simp)
                  clear e0 r0 e1 r1 e2 r2 e3 r3 e4 r4 e5 r5 e6 r6
                  go_wp2
                  go_meet
                  exact ⟨by rw [HR.out], rfl⟩
              · have q5 : (c.tokens == d.tokens) = false := by simpa using e5
                have r5 : decide (c.tokens = d.tokens) = false := decide_eq_false e5
                have HR : Hid (eqRest c d = false) := Lib.hid (by unfold eqRest; rw [r5]; simp)
                clear e0 r0 e1 r1 e2 r2 e3 r3 e4 r4 e5 r5
                go_wp2
                go_meet
                exact ⟨by rw [HR.out], rfl⟩
            · have q4 : (c.queue == d.queue) = false := by simpa using e4
              have r4 : decide (c.queue = d.queue) = false := decide_eq_false e4
              have HR : Hid (eqRest c d = false) := Lib.hid (by unfold eqRest; rw [r4]; simp)
              clear e0 r0 e1 r1 e2 r2 e3 r3 e4 r4
              go_wp2
              go_meet
              exact ⟨by rw [HR.out], rfl⟩
          · have q3 : (c.room == d.room) = false := by simpa using e3
            have r3 : decide (c.room = d.room) = false := decide_eq_false e3
            have HR : Hid (eqRest c d = false) := Lib.hid (by unfold eqRest; rw [r3]; simp)
            clear e0 r0 e1 r1 e2 r2 e3 r3
            go_wp2
            go_meet
            exact ⟨by rw [HR.out], rfl⟩
        · have q2 : (c.again == d.again) = false := by simpa using e2
          have r2 : decide (c.again = d.again) = false := decide_eq_false e2
          have HR : Hid (eqRest c d = false) := Lib.hid (by unfold eqRest; rw [r2]; simp)
          clear e0 r0 e1 r1 e2 r2
          go_wp2
          go_meet
          exact ⟨by rw [HR.out], rfl⟩
      · have q1 : (c.dead == d.dead) = false := by simpa using e1
        have r1 : decide (c.dead = d.dead) = false := decide_eq_false e1
        have HR : Hid (eqRest c d = false) := Lib.hid (by unfold eqRest; rw [r1]; simp)
        clear e0 r0 e1 r1
        go_wp2
        go_meet
        exact ⟨by rw [HR.out], rfl⟩
    · have q0 : (c.hello == d.hello) = false := by simpa using e0
      have r0 : decide (c.hello = d.hello) = false := decide_eq_false e0
      have HR : Hid (eqRest c d = false) := Lib.hid (by unfold eqRest; rw [r0]; simp)
      clear e0 r0
      go_wp2
      go_meet
      exact ⟨by rw [HR.out], rfl⟩
  case rest =>
    obtain ⟨rfl, rfl⟩ := hcut
    clear y4 z4 y5 z5 y6 z6 y7 z7 y8 z8 y9 z9 y10 z10
    have HS : Hid (sameC c d = (decide (c.node = d.node) && decide (c.addr = d.addr) && decide (c.own = d.own) && decide (c.ports = d.ports) && eqRest c d)) := Lib.hid rfl
    by_cases e0 : c.node = d.node
    · have q0 : (c.node == d.node) = true := by simpa using e0
      have r0 : decide (c.node = d.node) = true := decide_eq_true e0
      by_cases e1 : c.addr = d.addr
      · have q1 : (c.addr == d.addr) = true := by simpa using e1
        have r1 : decide (c.addr = d.addr) = true := decide_eq_true e1
        rw [r0, r1] at HS
        clear e0 e1 r0 r1
        cases ho : decide (c.own = d.own) with
        | true =>
          rw [ho] at HEP HS
          clear ho
          cases hq : decide (c.ports = d.ports) with
          | true =>
            rw [hq] at HEO HS
            clear hq
            go_wp2_with (first
              | (go_at_call 73; refine (ext_of HEP.out).mono ?_; rintro e w' ⟨rfl, y, rfl⟩)
              | (go_at_call 74; refine (ext_of (HEO.out y)).mono ?_; rintro e w' ⟨rfl, y2, rfl⟩))
            go_ret
            exact ⟨by rw [HS.out]; rfl, HB0.out.trans ((y.below.trans (y2.below.mono y.below.size)).mono HB0.out.size)⟩
          | false =>
            rw [hq] at HEO HS
            clear hq
            go_wp2_with (first
              | (go_at_call 73; refine (ext_of HEP.out).mono ?_; rintro e w' ⟨rfl, y, rfl⟩)
              | (go_at_call 74; refine (ext_of (HEO.out y)).mono ?_; rintro e w' ⟨rfl, y2, rfl⟩))
            go_ret
            exact ⟨by rw [HS.out]; rfl, HB0.out.trans ((y.below.trans (y2.below.mono y.below.size)).mono HB0.out.size)⟩
        | false =>
          rw [ho] at HEP HS
          clear ho
          go_wp2_with (first
            | (go_at_call 73; refine (ext_of HEP.out).mono ?_; rintro e w' ⟨rfl, y, rfl⟩))
          go_ret
          exact ⟨by rw [HS.out]; simp, HB0.out.trans (y.below.mono HB0.out.size)⟩
      · have q1 : (c.addr == d.addr) = false := by simpa using e1
        have r1 : decide (c.addr = d.addr) = false := decide_eq_false e1
        rw [r0, r1] at HS
        clear e0 e1 r0 r1
        go_wp2
        go_ret
        exact ⟨by rw [HS.out]; simp, HB0.out⟩
    · have q0 : (c.node == d.node) = false := by simpa using e0
      have r0 : decide (c.node = d.node) = false := decide_eq_false e0
      rw [r0] at HS
      clear e0 r0
      go_wp2
      go_ret
      exact ⟨by rw [HS.out]; simp, HB0.out⟩
end Go.Proofs.YtfbangojgjcbcaaGreatDoor
namespace Go.Proofs.YtfbangojgjcbcaaGreatDoor
open Go.RowKit Pl

theorem same_own {c d : Cfg} (h : decide (c.own = d.own) = false) : sameC c d = false := by unfold sameC; rw [h]; simp
theorem same_ports {c d : Cfg} (h : decide (c.ports = d.ports) = false) : sameC c d = false := by unfold sameC; rw [h]; simp
set_option maxRecDepth 100000 in
set_option maxHeartbeats 8000000 in
theorem rsame_any (v v' : Value) (c d : Cfg) (w : World) (h : CfgIs w v c) (h' : CfgIs w v' d) (hl : c.own.length ≤ 1000000) (hp : c.ports.length ≤ 1000000) (_hl' : d.own.length ≤ 1000000) (_hp' : d.ports.length ≤ 1000000) :
    Calls Tryz.prog 16 #[v, v'] w fun e w' => e = .returned (.bool (sameC c d)) ∧ Below w.heap.size w w' := by
  obtain ⟨own, ports, rfl, hO, hP⟩ := h.is
  obtain ⟨own', ports', rfl, hO', hP'⟩ := h'.is
  have HO := Lib.hid hO
  have HP := Lib.hid hP
  have HO' := Lib.hid hO'
  have HP' := Lib.hid hP'
  obtain ⟨A1, k1, rfl, -⟩ := hO
  obtain ⟨A2, k2, rfl, -⟩ := hP
  obtain ⟨B1, l1, rfl, -⟩ := hO'
  obtain ⟨B2, l2, rfl, -⟩ := hP'
  clear h h'
  unfold cfgV
  obtain ⟨W0, hW0⟩ : ∃ W0, (w.alloc (.cells #[.int .i64 c.node, .int .u32 c.addr, .slice A1 c.own.length k1, .slice A2 c.ports.length k2, .int .i64 c.hello, .int .i64 c.dead, .int .i64 c.again, .int .i64 c.room, .int .i64 c.queue, .int .i64 c.tokens, .int .i64 c.refill] 28)).alloc (.cells #[.int .i64 d.node, .int .u32 d.addr, .slice B1 d.own.length l1, .slice B2 d.ports.length l2, .int .i64 d.hello, .int .i64 d.dead, .int .i64 d.again, .int .i64 d.room, .int .i64 d.queue, .int .i64 d.tokens, .int .i64 d.refill] 28) = W0 := ⟨_, rfl⟩
  have HB0 : Hid (Below w.heap.size w W0) := Lib.hid (by rw [← hW0]; exact ((Below.refl _ _).alloc (Nat.le_refl _) _).alloc (by simp) _)
  have HX1 : Hid (Whole W0 w.heap.size 28 #[.int .i64 c.node, .int .u32 c.addr, .slice A1 c.own.length k1, .slice A2 c.ports.length k2, .int .i64 c.hello, .int .i64 c.dead, .int .i64 c.again, .int .i64 c.room, .int .i64 c.queue, .int .i64 c.tokens, .int .i64 c.refill]) := Lib.hid (by rw [← hW0]; exact (Whole.new w _ _).alloc _)
  have HX2 : Hid (Whole W0 (w.heap.size + 1) 28 #[.int .i64 d.node, .int .u32 d.addr, .slice B1 d.own.length l1, .slice B2 d.ports.length l2, .int .i64 d.hello, .int .i64 d.dead, .int .i64 d.again, .int .i64 d.room, .int .i64 d.queue, .int .i64 d.tokens, .int .i64 d.refill]) := Lib.hid (by
    rw [← hW0]
    have := Whole.new (w.alloc (.cells #[.int .i64 c.node, .int .u32 c.addr, .slice A1 c.own.length k1, .slice A2 c.ports.length k2, .int .i64 c.hello, .int .i64 c.dead, .int .i64 c.again, .int .i64 c.room, .int .i64 c.queue, .int .i64 c.tokens, .int .i64 c.refill] 28)) 28 #[.int .i64 d.node, .int .u32 d.addr, .slice B1 d.own.length l1, .slice B2 d.ports.length l2, .int .i64 d.hello, .int .i64 d.dead, .int .i64 d.again, .int .i64 d.room, .int .i64 d.queue, .int .i64 d.tokens, .int .i64 d.refill]
    simpa using this)
  have hlt1 := HX1.out.lt
  have hlt2 := HX2.out.lt
  have HW0 := Lib.hid hW0
  clear hW0
  have y2 : W0.cell? ⟨w.heap.size, 2, none⟩ = some (.slice A1 c.own.length k1) := HX1.out.cell 2
  have z2 : W0.cell? ⟨w.heap.size + 1, 2, none⟩ = some (.slice B1 d.own.length l1) := HX2.out.cell 2
  have y3 : W0.cell? ⟨w.heap.size, 3, none⟩ = some (.slice A2 c.ports.length k2) := HX1.out.cell 3
  have z3 : W0.cell? ⟨w.heap.size + 1, 3, none⟩ = some (.slice B2 d.ports.length l2) := HX2.out.cell 3
  by_cases hn : c.own.length = d.own.length
  · have d1 : ((c.own.length : Int) != (d.own.length : Int)) = false := by simp [hn]
    have HN := Lib.hid hn
    clear hn
    by_cases hq : c.ports.length = d.ports.length
    · have d2 : ((c.ports.length : Int) != (d.ports.length : Int)) = false := by simp [hq]
      have HQ := Lib.hid hq
      clear hq
      go_enter Tryz.func16, Tryz.ntmps16
      go_upto_region 1 with fail
      rw [HW0.out]
      go_wp2
      go_loopw [5] (fun i wr => ∃ j : Nat, j ≤ c.own.length ∧ i = .int .i64 j ∧ Hid (c.own.take j = d.own.take j) ∧ Hid (Below W0.heap.size W0 wr)) (fun i _ => c.own.length - (intOf i).toNat)
      case atStart => exact ⟨0, Nat.zero_le _, rfl, Lib.hid rfl, Lib.hid (Below.refl _ _)⟩
      case round =>
        obtain ⟨j, hj, rfl, HT, HB⟩ := hrel
        have x1 : wr.cell? ⟨w.heap.size, 2, none⟩ = some (.slice A1 c.own.length k1) := (HX1.out.below HB.out (by omega)).cell 2
        have x2 : wr.cell? ⟨w.heap.size + 1, 2, none⟩ = some (.slice B1 d.own.length l1) := (HX2.out.below HB.out (by omega)).cell 2
        have HBW := Lib.hid (HB0.out.trans (HB.out.mono HB0.out.size))
        by_cases hlt : j < c.own.length
        · have hlt' : j < d.own.length := by have := HN.out; omega
          obtain ⟨⟨ua, un⟩, hu⟩ : ∃ u, c.own[j]? = some u := ⟨_, List.getElem?_eq_getElem hlt⟩
          obtain ⟨⟨va, vn⟩, hv⟩ : ∃ u, d.own[j]? = some u := ⟨_, List.getElem?_eq_getElem hlt'⟩
          obtain ⟨b1, o1, rfl, hb1, p0, p1⟩ := (HO.out.below HBW.out).at hu
          obtain ⟨b2, o2, rfl, hb2, q0, q1⟩ := (HO'.out.below HBW.out).at hv
          simp only at p0 p1 q0 q1
          have HU := Lib.hid hu
          have HV := Lib.hid hv
          clear hu hv
          by_cases e1 : ua = va
          · subst e1
            by_cases e2 : un = vn
            · subst e2
              have HT2 := Lib.hid (take_next HU.out HV.out HT.out)
              go_wp2
              go_region
              go_wp2
              go_roundw
              case rel => exact ⟨j + 1, by omega, by go_num, HT2, Lib.hid HB.out.drew⟩
              case measure => simp [intOf]; omega
            · have HF := Lib.hid (same_own (take_ne HU.out HV.out (fun e => e2 (by injection e))))
              have d3 : (un == vn) = false := by simpa using e2
              clear e2
              go_wp2
              go_region
              go_wp2
              go_ret
              exact ⟨by rw [HF.out]; rfl, HBW.out.drew⟩
          · have HF := Lib.hid (same_own (take_ne HU.out HV.out (fun e => e1 (by injection e))))
            have d3 : (ua == va) = false := by simpa using e1
            clear e1
            go_wp2
            go_region
            go_wp2
            go_ret
            exact ⟨by rw [HF.out]; rfl, HBW.out.drew⟩
        · obtain rfl : j = c.own.length := by omega
          have HFO := Lib.hid (take_all HN.out HT.out)
          clear HT
          go_wp2
          go_loopw [6] (fun i wr => ∃ j : Nat, j ≤ c.ports.length ∧ i = .int .i64 j ∧ Hid (c.ports.take j = d.ports.take j) ∧ Hid (Below W0.heap.size W0 wr)) (fun i _ => c.ports.length - (intOf i).toNat)
          case atStart => exact ⟨0, Nat.zero_le _, rfl, Lib.hid rfl, HB⟩
          case round =>
            clear HB HBW x1 x2
            obtain ⟨j, hj, rfl, HT, HB⟩ := hrel
            have x1 : wr.cell? ⟨w.heap.size, 3, none⟩ = some (.slice A2 c.ports.length k2) := (HX1.out.below HB.out (by omega)).cell 3
            have x2 : wr.cell? ⟨w.heap.size + 1, 3, none⟩ = some (.slice B2 d.ports.length l2) := (HX2.out.below HB.out (by omega)).cell 3
            have HBW := Lib.hid (HB0.out.trans (HB.out.mono HB0.out.size))
            by_cases hlt : j < c.ports.length
            · have hlt' : j < d.ports.length := by have := HQ.out; omega
              obtain ⟨⟨ua, un⟩, hu⟩ : ∃ u, c.ports[j]? = some u := ⟨_, List.getElem?_eq_getElem hlt⟩
              obtain ⟨⟨va, vn⟩, hv⟩ : ∃ u, d.ports[j]? = some u := ⟨_, List.getElem?_eq_getElem hlt'⟩
              obtain ⟨b1, o1, rfl, hb1, p0, p1⟩ := (HP.out.below HBW.out).at hu
              obtain ⟨b2, o2, rfl, hb2, q0, q1⟩ := (HP'.out.below HBW.out).at hv
              simp only at p0 p1 q0 q1
              have HU := Lib.hid hu
              have HV := Lib.hid hv
              clear hu hv
              by_cases e1 : ua = va
              · subst e1
                by_cases e2 : un = vn
                · subst e2
                  have HT2 := Lib.hid (take_next HU.out HV.out HT.out)
                  go_wp2
                  go_region
                  go_wp2
                  go_roundw
                  case rel => exact ⟨j + 1, by omega, by go_num, HT2, Lib.hid HB.out.drew⟩
                  case measure => simp [intOf]; omega
                · have HF := Lib.hid (same_ports (take_ne HU.out HV.out (fun e => e2 (by injection e))))
                  have d3 : (un == vn) = false := by simpa using e2
                  clear e2
                  go_wp2
                  go_region
                  go_wp2
                  go_ret
                  exact ⟨by rw [HF.out]; rfl, HBW.out.drew⟩
              · have HF := Lib.hid (same_ports (take_ne HU.out HV.out (fun e => e1 (by injection e))))
                have d3 : (ua == va) = false := by simpa using e1
                clear e1
                go_wp2
                go_region
                go_wp2
                go_ret
                exact ⟨by rw [HF.out]; rfl, HBW.out.drew⟩
            · obtain rfl : j = c.ports.length := by omega
              have HFP := Lib.hid (take_all HQ.out HT.out)
              clear HT
              have p0 : wr.cell? ⟨w.heap.size, 0, none⟩ = some (.int .i64 c.node) := (HX1.out.below HB.out (by omega)).cell 0
              have t0 : wr.cell? ⟨w.heap.size + 1, 0, none⟩ = some (.int .i64 d.node) := (HX2.out.below HB.out (by omega)).cell 0
              have p1 : wr.cell? ⟨w.heap.size, 1, none⟩ = some (.int .u32 c.addr) := (HX1.out.below HB.out (by omega)).cell 1
              have t1 : wr.cell? ⟨w.heap.size + 1, 1, none⟩ = some (.int .u32 d.addr) := (HX2.out.below HB.out (by omega)).cell 1
              have p4 : wr.cell? ⟨w.heap.size, 4, none⟩ = some (.int .i64 c.hello) := (HX1.out.below HB.out (by omega)).cell 4
              have t4 : wr.cell? ⟨w.heap.size + 1, 4, none⟩ = some (.int .i64 d.hello) := (HX2.out.below HB.out (by omega)).cell 4
              have p5 : wr.cell? ⟨w.heap.size, 5, none⟩ = some (.int .i64 c.dead) := (HX1.out.below HB.out (by omega)).cell 5
              have t5 : wr.cell? ⟨w.heap.size + 1, 5, none⟩ = some (.int .i64 d.dead) := (HX2.out.below HB.out (by omega)).cell 5
              have p6 : wr.cell? ⟨w.heap.size, 6, none⟩ = some (.int .i64 c.again) := (HX1.out.below HB.out (by omega)).cell 6
              have t6 : wr.cell? ⟨w.heap.size + 1, 6, none⟩ = some (.int .i64 d.again) := (HX2.out.below HB.out (by omega)).cell 6
              have p7 : wr.cell? ⟨w.heap.size, 7, none⟩ = some (.int .i64 c.room) := (HX1.out.below HB.out (by omega)).cell 7
              have t7 : wr.cell? ⟨w.heap.size + 1, 7, none⟩ = some (.int .i64 d.room) := (HX2.out.below HB.out (by omega)).cell 7
              have p8 : wr.cell? ⟨w.heap.size, 8, none⟩ = some (.int .i64 c.queue) := (HX1.out.below HB.out (by omega)).cell 8
              have t8 : wr.cell? ⟨w.heap.size + 1, 8, none⟩ = some (.int .i64 d.queue) := (HX2.out.below HB.out (by omega)).cell 8
              have p9 : wr.cell? ⟨w.heap.size, 9, none⟩ = some (.int .i64 c.tokens) := (HX1.out.below HB.out (by omega)).cell 9
              have t9 : wr.cell? ⟨w.heap.size + 1, 9, none⟩ = some (.int .i64 d.tokens) := (HX2.out.below HB.out (by omega)).cell 9
              have p10 : wr.cell? ⟨w.heap.size, 10, none⟩ = some (.int .i64 c.refill) := (HX1.out.below HB.out (by omega)).cell 10
              have t10 : wr.cell? ⟨w.heap.size + 1, 10, none⟩ = some (.int .i64 d.refill) := (HX2.out.below HB.out (by omega)).cell 10
              by_cases e0 : c.node = d.node
              · have q0 : (c.node == d.node) = true := by simpa using e0
                have r0 : decide (c.node = d.node) = true := decide_eq_true e0
                by_cases e1 : c.addr = d.addr
                · have q1 : (c.addr == d.addr) = true := by simpa using e1
                  have r1 : decide (c.addr = d.addr) = true := decide_eq_true e1
                  by_cases e2 : c.hello = d.hello
                  · have q2 : (c.hello == d.hello) = true := by simpa using e2
                    have r2 : decide (c.hello = d.hello) = true := decide_eq_true e2
                    by_cases e3 : c.dead = d.dead
                    · have q3 : (c.dead == d.dead) = true := by simpa using e3
                      have r3 : decide (c.dead = d.dead) = true := decide_eq_true e3
                      by_cases e4 : c.again = d.again
                      · have q4 : (c.again == d.again) = true := by simpa using e4
                        have r4 : decide (c.again = d.again) = true := decide_eq_true e4
                        by_cases e5 : c.room = d.room
                        · have q5 : (c.room == d.room) = true := by simpa using e5
                          have r5 : decide (c.room = d.room) = true := decide_eq_true e5
                          by_cases e6 : c.queue = d.queue
                          · have q6 : (c.queue == d.queue) = true := by simpa using e6
                            have r6 : decide (c.queue = d.queue) = true := decide_eq_true e6
                            by_cases e7 : c.tokens = d.tokens
                            · have q7 : (c.tokens == d.tokens) = true := by simpa using e7
                              have r7 : decide (c.tokens = d.tokens) = true := decide_eq_true e7
                              by_cases e8 : c.refill = d.refill
                              · have q8 : (c.refill == d.refill) = true := by simpa using e8
                                have r8 : decide (c.refill = d.refill) = true := decide_eq_true e8
                                have HS : Hid (sameC c d = true) := Lib.hid (by unfold sameC eqRest; rw [r0, r1, r2, r3, r4, r5, r6, r7, r8, HFO.out, HFP.out]; rfl)
                                clear e0 r0 e1 r1 e2 r2 e3 r3 e4 r4 e5 r5 e6 r6 e7 r7 e8 r8
                                go_wp2
                                go_ret
                                exact ⟨by rw [HS.out]; rfl, HBW.out⟩
                              · have q8 : (c.refill == d.refill) = false := by simpa using e8
                                have r8 : decide (c.refill = d.refill) = false := decide_eq_false e8
                                have HS : Hid (sameC c d = false) := Lib.hid (by unfold sameC eqRest; rw [r8]; simp)
                                clear e0 r0 e1 r1 e2 r2 e3 r3 e4 r4 e5 r5 e6 r6 e7 r7 e8 r8
                                go_wp2
                                go_ret
                                exact ⟨by rw [HS.out]; rfl, HBW.out⟩
                            · have q7 : (c.tokens == d.tokens) = false := by simpa using e7
                              have r7 : decide (c.tokens = d.tokens) = false := decide_eq_false e7
                              have HS : Hid (sameC c d = false) := Lib.hid (by unfold sameC eqRest; rw [r7]; simp)
                              clear e0 r0 e1 r1 e2 r2 e3 r3 e4 r4 e5 r5 e6 r6 e7 r7
                              go_wp2
                              go_ret
                              exact ⟨by rw [HS.out]; rfl, HBW.out⟩
                          · have q6 : (c.queue == d.queue) = false := by simpa using e6
                            have r6 : decide (c.queue = d.queue) = false := decide_eq_false e6
                            have HS : Hid (sameC c d = false) := Lib.hid (by unfold sameC eqRest; rw [r6]; simp)
                            clear e0 r0 e1 r1 e2 r2 e3 r3 e4 r4 e5 r5 e6 r6
                            go_wp2
                            go_ret
                            exact ⟨by rw [HS.out]; rfl, HBW.out⟩
                        · have q5 : (c.room == d.room) = false := by simpa using e5
                          have r5 : decide (c.room = d.room) = false := decide_eq_false e5
                          have HS : Hid (sameC c d = false) := Lib.hid (by unfold sameC eqRest; rw [r5]; simp)
                          clear e0 r0 e1 r1 e2 r2 e3 r3 e4 r4 e5 r5
                          go_wp2
                          go_ret
                          exact ⟨by rw [HS.out]; rfl, HBW.out⟩
                      · have q4 : (c.again == d.again) = false := by simpa using e4
                        have r4 : decide (c.again = d.again) = false := decide_eq_false e4
                        have HS : Hid (sameC c d = false) := Lib.hid (by unfold sameC eqRest; rw [r4]; simp)
                        clear e0 r0 e1 r1 e2 r2 e3 r3 e4 r4
                        go_wp2
                        go_ret
                        exact ⟨by rw [HS.out]; rfl, HBW.out⟩
                    · have q3 : (c.dead == d.dead) = false := by simpa using e3
                      have r3 : decide (c.dead = d.dead) = false := decide_eq_false e3
                      have HS : Hid (sameC c d = false) := Lib.hid (by unfold sameC eqRest; rw [r3]; simp)
                      clear e0 r0 e1 r1 e2 r2 e3 r3
                      go_wp2
                      go_ret
                      exact ⟨by rw [HS.out]; rfl, HBW.out⟩
                  · have q2 : (c.hello == d.hello) = false := by simpa using e2
                    have r2 : decide (c.hello = d.hello) = false := decide_eq_false e2
                    have HS : Hid (sameC c d = false) := Lib.hid (by unfold sameC eqRest; rw [r2]; simp)
                    clear e0 r0 e1 r1 e2 r2
                    go_wp2
                    go_ret
                    exact ⟨by rw [HS.out]; rfl, HBW.out⟩
                · have q1 : (c.addr == d.addr) = false := by simpa using e1
                  have r1 : decide (c.addr = d.addr) = false := decide_eq_false e1
                  have HS : Hid (sameC c d = false) := Lib.hid (by unfold sameC eqRest; rw [r1]; simp)
                  clear e0 r0 e1 r1
                  go_wp2
                  go_ret
                  exact ⟨by rw [HS.out]; rfl, HBW.out⟩
              · have q0 : (c.node == d.node) = false := by simpa using e0
                have r0 : decide (c.node = d.node) = false := decide_eq_false e0
                have HS : Hid (sameC c d = false) := Lib.hid (by unfold sameC eqRest; rw [r0]; simp)
                clear e0 r0
                go_wp2
                go_ret
                exact ⟨by rw [HS.out]; rfl, HBW.out⟩
    · have d2 : ((c.ports.length : Int) != (d.ports.length : Int)) = true := by simp; omega
      have HS : Hid (sameC c d = false) := Lib.hid (same_ports (decide_eq_false fun e => hq (by rw [e])))
      clear hq
      go_enter Tryz.func16, Tryz.ntmps16
      go_upto_region 1 with fail
      rw [HW0.out]
      go_wp2
      go_ret
      exact ⟨by rw [HS.out]; rfl, HB0.out⟩
  · have d1 : ((c.own.length : Int) != (d.own.length : Int)) = true := by simp; omega
    have HS : Hid (sameC c d = false) := Lib.hid (same_own (decide_eq_false fun e => hn (by rw [e])))
    clear hn
    go_enter Tryz.func16, Tryz.ntmps16
    go_upto_region 1 with fail
    rw [HW0.out]
    go_wp2
    go_ret
    exact ⟨by rw [HS.out]; rfl, HB0.out⟩

set_option maxRecDepth 100000 in
set_option maxHeartbeats 2000000 in
theorem rowns_any (v : Value) (c : Cfg) (x : Int) (w : World) (h : CfgIs w v c) (hA : Addrs4 c) (hx : IsAddr x) (hl : c.own.length ≤ 1000000) (hp : c.ports.length ≤ 1000000) :
    Calls Tryz.prog 25 #[v, .int .u32 x] w fun e w' => e = .returned (.bool (mayC c && hasAny c.own x)) ∧ Below w.heap.size w w' := by
  have HC := Lib.hid h
  obtain ⟨own, ports, rfl, hO, hP⟩ := h.is
  have HO := Lib.hid hO
  obtain ⟨A1, k1, rfl, _⟩ := hO
  obtain ⟨A2, k2, rfl, _⟩ := hP
  clear h
  obtain ⟨W0, hW0⟩ : ∃ W0, w.alloc (.cells #[.int .i64 c.node, .int .u32 c.addr, .slice A1 c.own.length k1, .slice A2 c.ports.length k2, .int .i64 c.hello, .int .i64 c.dead, .int .i64 c.again, .int .i64 c.room, .int .i64 c.queue, .int .i64 c.tokens, .int .i64 c.refill] 28) = W0 := ⟨_, rfl⟩
  have HB0 : Hid (Below w.heap.size w W0) := Lib.hid (by rw [← hW0]; exact (Below.refl _ _).alloc (Nat.le_refl _) _)
  have HX1 : Hid (Whole W0 w.heap.size 28 #[.int .i64 c.node, .int .u32 c.addr, .slice A1 c.own.length k1, .slice A2 c.ports.length k2, .int .i64 c.hello, .int .i64 c.dead, .int .i64 c.again, .int .i64 c.room, .int .i64 c.queue, .int .i64 c.tokens, .int .i64 c.refill]) := Lib.hid (by rw [← hW0]; exact Whole.new w _ _)
  have HW0 := Lib.hid hW0
  have hlt1 := HX1.out.lt
  clear hW0
  have HM : Hid (Calls Tryz.prog 20 #[.agg #[.int .i64 c.node, .int .u32 c.addr, .slice A1 c.own.length k1, .slice A2 c.ports.length k2, .int .i64 c.hello, .int .i64 c.dead, .int .i64 c.again, .int .i64 c.room, .int .i64 c.queue, .int .i64 c.tokens, .int .i64 c.refill]] W0 fun e w' => e = .returned (.bool (mayC c)) ∧ Below W0.heap.size W0 w') := Lib.hid (rmay19 _ c W0 (HC.out.below HB0.out) hA hl hp)
  have HH : Hid (∀ y : Ext W0, Calls Tryz.prog 56 #[.slice A1 c.own.length k1, .int .u32 x] y.w fun e w' => e = .returned (.bool (hasAny c.own x)) ∧ Below y.w.heap.size y.w w') := Lib.hid (fun y => rhas19 _ _ _ _ ((HO.out.below HB0.out).below y.below) hl hA.2 hx)
  unfold cfgV
  have y0 : W0.cell? ⟨w.heap.size, 0, none⟩ = some (.int .i64 c.node) := HX1.out.cell 0
  have y1 : W0.cell? ⟨w.heap.size, 1, none⟩ = some (.int .u32 c.addr) := HX1.out.cell 1
  have y2 : W0.cell? ⟨w.heap.size, 2, none⟩ = some (.slice A1 c.own.length k1) := HX1.out.cell 2
  have y3 : W0.cell? ⟨w.heap.size, 3, none⟩ = some (.slice A2 c.ports.length k2) := HX1.out.cell 3
  have y4 : W0.cell? ⟨w.heap.size, 4, none⟩ = some (.int .i64 c.hello) := HX1.out.cell 4
  have y5 : W0.cell? ⟨w.heap.size, 5, none⟩ = some (.int .i64 c.dead) := HX1.out.cell 5
  have y6 : W0.cell? ⟨w.heap.size, 6, none⟩ = some (.int .i64 c.again) := HX1.out.cell 6
  have y7 : W0.cell? ⟨w.heap.size, 7, none⟩ = some (.int .i64 c.room) := HX1.out.cell 7
  have y8 : W0.cell? ⟨w.heap.size, 8, none⟩ = some (.int .i64 c.queue) := HX1.out.cell 8
  have y9 : W0.cell? ⟨w.heap.size, 9, none⟩ = some (.int .i64 c.tokens) := HX1.out.cell 9
  have y10 : W0.cell? ⟨w.heap.size, 10, none⟩ = some (.int .i64 c.refill) := HX1.out.cell 10
  cases hm : mayC c with
  | true =>
    rw [hm] at HM
    clear hm hA
    go_enter Tryz.func25, Tryz.ntmps25
    go_upto_region 1 with fail
    rw [HW0.out]
    go_wp2_with (first
      | (go_at_call 20; refine (ext_of HM.out).mono ?_; rintro e w' ⟨rfl, y, rfl⟩)
      | (go_at_call 56; refine (ext_of (HH.out y)).mono ?_; rintro e w' ⟨rfl, y2, rfl⟩))
    go_ret
    exact ⟨by rfl, HB0.out.trans ((y.below.trans (y2.below.mono y.below.size)).mono HB0.out.size)⟩
  | false =>
    rw [hm] at HM
    clear hm hA
    go_enter Tryz.func25, Tryz.ntmps25
    go_upto_region 1 with fail
    rw [HW0.out]
    go_wp2_with (first
      | (go_at_call 20; refine (ext_of HM.out).mono ?_; rintro e w' ⟨rfl, y, rfl⟩))
    go_ret
    exact ⟨by rfl, HB0.out.trans (y.below.mono HB0.out.size)⟩
end Go.Proofs.YtfbangojgjcbcaaGreatDoor
