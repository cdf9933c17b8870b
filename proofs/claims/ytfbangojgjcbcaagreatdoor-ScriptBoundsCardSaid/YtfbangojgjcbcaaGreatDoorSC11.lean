/- Part 11 of the proof: SetA, OpenC, ConfEr, SameS, SamS, RdrB, RdrC, PlainU, Unhex, ActG. -/
import Derived.Deep.Slices
import Derived.WalkMore
import Derived.Test.YtfbangojgjcbcaaGreatDoorSC01
import Derived.Test.YtfbangojgjcbcaaGreatDoorSC02
import Derived.Test.YtfbangojgjcbcaaGreatDoorSC03
import Derived.Test.YtfbangojgjcbcaaGreatDoorSC04
import Derived.Test.YtfbangojgjcbcaaGreatDoorSC08
import Derived.Test.YtfbangojgjcbcaaGreatDoorSC09
import Derived.Test.YtfbangojgjcbcaaGreatDoorSC10
namespace Go.Proofs.YtfbangojgjcbcaaGreatDoor
open Go.RowKit Pl
/-- A slice whose elements, of z cells each, are as Q says. -/
def Seqs {α : Type} (z : Nat) (Q : World → Nat → Nat → α → Prop) (w : World) (v : Value) (xs : List α) : Prop :=
  ∃ (A : Option Addr) (c : Nat), v = .slice A xs.length c ∧ xs.length ≤ c ∧ (A = none → c = 0) ∧
    (0 < xs.length → ∃ b off, A = some ⟨b, off, none⟩ ∧ b < w.heap.size ∧ ∀ j x, xs[j]? = some x → Q w b (off + j * z) x)
def confQ (w : World) (b o : Nat) (c : Cfg) : Prop := ∃ own ports, Rs .u32 w own c.own ∧ Rs .i64 w ports c.ports ∧ w.cell? ⟨b, o, none⟩ = some (.int .i64 c.node) ∧ w.cell? ⟨b, o + 1, none⟩ = some (.int .u32 c.addr) ∧ w.cell? ⟨b, o + 2, none⟩ = some own ∧ w.cell? ⟨b, o + 3, none⟩ = some ports ∧ w.cell? ⟨b, o + 4, none⟩ = some (.int .i64 c.hello) ∧ w.cell? ⟨b, o + 5, none⟩ = some (.int .i64 c.dead) ∧ w.cell? ⟨b, o + 6, none⟩ = some (.int .i64 c.again) ∧ w.cell? ⟨b, o + 7, none⟩ = some (.int .i64 c.room) ∧ w.cell? ⟨b, o + 8, none⟩ = some (.int .i64 c.queue) ∧ w.cell? ⟨b, o + 9, none⟩ = some (.int .i64 c.tokens) ∧ w.cell? ⟨b, o + 10, none⟩ = some (.int .i64 c.refill)
def linkQ (w : World) (b o : Nat) (l : Lk) : Prop := w.cell? ⟨b, o, none⟩ = some (.int .i64 l.1) ∧ w.cell? ⟨b, o + 1, none⟩ = some (.int .i64 l.2.1) ∧ w.cell? ⟨b, o + 2, none⟩ = some (.int .i64 l.2.2.1) ∧ w.cell? ⟨b, o + 3, none⟩ = some (.int .i64 l.2.2.2)
def actQ (w : World) (b o : Nat) (a : ActP) : Prop := ∃ bv, Bs w bv a.bytes ∧ w.cell? ⟨b, o, none⟩ = some (.int .i64 a.kind) ∧ w.cell? ⟨b, o + 1, none⟩ = some (.int .i64 a.node) ∧ w.cell? ⟨b, o + 2, none⟩ = some (.int .i64 a.port) ∧ w.cell? ⟨b, o + 3, none⟩ = some (.int .i64 a.cost) ∧ w.cell? ⟨b, o + 4, none⟩ = some (.int .i64 a.n) ∧ w.cell? ⟨b, o + 5, none⟩ = some (.bool a.up) ∧ w.cell? ⟨b, o + 6, none⟩ = some (.int .u8 (a.by_.toNat : Int)) ∧ w.cell? ⟨b, o + 7, none⟩ = some (.bool a.unread) ∧ w.cell? ⟨b, o + 8, none⟩ = some bv
theorem Seqs.below {α : Type} {z : Nat} {Q : World → Nat → Nat → α → Prop} {w w' : World} {v : Value} {xs : List α} (h : Seqs z Q w v xs) (hb : Below w.heap.size w w')
    (hQ : ∀ b o x, b < w.heap.size → Q w b o x → Q w' b o x) : Seqs z Q w' v xs := by
  obtain ⟨A, c, rfl, hc, hn, hA⟩ := h
  refine ⟨A, c, rfl, hc, hn, fun hp => ?_⟩
  obtain ⟨b, off, rfl, hlt, hcell⟩ := hA hp
  exact ⟨b, off, rfl, Nat.lt_of_lt_of_le hlt hb.size, fun j x hx => hQ _ _ _ hlt (hcell j x hx)⟩
theorem Seqs.nil {α : Type} (z : Nat) (Q : World → Nat → Nat → α → Prop) (w : World) : Seqs z Q w (.slice none 0 0) [] := ⟨none, 0, rfl, Nat.le_refl _, fun _ => rfl, fun h => absurd h (by simp)⟩
theorem Seqs.len {α : Type} {z : Nat} {Q : World → Nat → Nat → α → Prop} {w : World} {A : Option Addr} {n c : Nat} {xs : List α} (h : Seqs z Q w (.slice A n c) xs) : n = xs.length ∧ xs.length ≤ c := by
  obtain ⟨A', c', hv, hc, _, _⟩ := h
  injection hv with h1 h2 h3
  exact ⟨h2, by omega⟩
theorem Seqs.at {α : Type} {z : Nat} {Q : World → Nat → Nat → α → Prop} {w : World} {A : Option Addr} {n c : Nat} {xs : List α} (h : Seqs z Q w (.slice A n c) xs) {j : Nat} {x : α} (hx : xs[j]? = some x) :
    ∃ b off, A = some ⟨b, off, none⟩ ∧ b < w.heap.size ∧ Q w b (off + j * z) x := by
  obtain ⟨A', c', hv, hc, _, hA⟩ := h
  injection hv with h1 h2 h3
  subst h1
  obtain ⟨b, off, rfl, hlt, hcell⟩ := hA (by have := (List.getElem?_eq_some_iff.1 hx).1; omega)
  exact ⟨b, off, rfl, hlt, hcell j x hx⟩
theorem confQ.below {w w' : World} {b o : Nat} {c : Cfg} (hlt : b < w.heap.size) (h : confQ w b o c) (hb : Below w.heap.size w w') : confQ w' b o c := by
  obtain ⟨own, ports, h1, h2, c0, c1, c2, c3, c4, c5, c6, c7, c8, c9, c10⟩ := h
  exact ⟨own, ports, h1.below hb, h2.below hb, (hb.cell hlt).trans c0, (hb.cell hlt).trans c1, (hb.cell hlt).trans c2, (hb.cell hlt).trans c3, (hb.cell hlt).trans c4, (hb.cell hlt).trans c5, (hb.cell hlt).trans c6, (hb.cell hlt).trans c7, (hb.cell hlt).trans c8, (hb.cell hlt).trans c9, (hb.cell hlt).trans c10⟩
theorem linkQ.below {w w' : World} {b o : Nat} {l : Lk} (hlt : b < w.heap.size) (h : linkQ w b o l) (hb : Below w.heap.size w w') : linkQ w' b o l := by
  obtain ⟨c0, c1, c2, c3⟩ := h
  exact ⟨(hb.cell hlt).trans c0, (hb.cell hlt).trans c1, (hb.cell hlt).trans c2, (hb.cell hlt).trans c3⟩
theorem actQ.below {w w' : World} {b o : Nat} {a : ActP} (hlt : b < w.heap.size) (h : actQ w b o a) (hb : Below w.heap.size w w') : actQ w' b o a := by
  obtain ⟨bv, h1, c0, c1, c2, c3, c4, c5, c6, c7, c8⟩ := h
  exact ⟨bv, h1.below hb, (hb.cell hlt).trans c0, (hb.cell hlt).trans c1, (hb.cell hlt).trans c2, (hb.cell hlt).trans c3, (hb.cell hlt).trans c4, (hb.cell hlt).trans c5, (hb.cell hlt).trans c6, (hb.cell hlt).trans c7, (hb.cell hlt).trans c8⟩
abbrev Confs := Seqs 11 confQ
abbrev Links := Seqs 4 linkQ
abbrev Acts := Seqs 9 actQ
theorem Confs.here {w w' : World} {v : Value} {cs : List Cfg} (h : Confs w v cs) (hb : Below w.heap.size w w') : Confs w' v cs := h.below hb fun _ _ _ hlt hq => hq.below hlt hb
theorem Links.here {w w' : World} {v : Value} {ls : List Lk} (h : Links w v ls) (hb : Below w.heap.size w w') : Links w' v ls := h.below hb fun _ _ _ hlt hq => hq.below hlt hb
theorem Acts.here {w w' : World} {v : Value} {l : List ActP} (h : Acts w v l) (hb : Below w.heap.size w w') : Acts w' v l := h.below hb fun _ _ _ hlt hq => hq.below hlt hb
/-- A configuration's row is a configuration. -/
theorem confQ.cfg {w : World} {b o : Nat} {c : Cfg} (h : confQ w b o c) : ∃ A1 k1 A2 k2, CfgIs w (cfgV c (.slice A1 c.own.length k1) (.slice A2 c.ports.length k2)) c ∧
    w.cell? ⟨b, o, none⟩ = some (.int .i64 c.node) ∧ w.cell? ⟨b, o + 1, none⟩ = some (.int .u32 c.addr) ∧ w.cell? ⟨b, o + 2, none⟩ = some (.slice A1 c.own.length k1) ∧ w.cell? ⟨b, o + 3, none⟩ = some (.slice A2 c.ports.length k2) ∧ w.cell? ⟨b, o + 4, none⟩ = some (.int .i64 c.hello) ∧ w.cell? ⟨b, o + 5, none⟩ = some (.int .i64 c.dead) ∧ w.cell? ⟨b, o + 6, none⟩ = some (.int .i64 c.again) ∧ w.cell? ⟨b, o + 7, none⟩ = some (.int .i64 c.room) ∧ w.cell? ⟨b, o + 8, none⟩ = some (.int .i64 c.queue) ∧ w.cell? ⟨b, o + 9, none⟩ = some (.int .i64 c.tokens) ∧ w.cell? ⟨b, o + 10, none⟩ = some (.int .i64 c.refill) := by
  obtain ⟨own, ports, h1, h2, hc⟩ := h
  obtain ⟨A1, k1, rfl, -⟩ := id h1
  obtain ⟨A2, k2, rfl, -⟩ := id h2
  exact ⟨A1, k1, A2, k2, ⟨⟨_, _, rfl, h1, h2⟩⟩, hc⟩
end Go.Proofs.YtfbangojgjcbcaaGreatDoor
namespace Go.Proofs.YtfbangojgjcbcaaGreatDoor
open Go.ChangeShapes Go.WideShapes Go.ChangeAt Go.RowKit Pl
theorem addC (b off j : Nat) : ((⟨b, off, none⟩ : Addr).add j) = ⟨b, off + j, none⟩ := by unfold Addr.add; by_cases hj : j = 0 <;> simp [hj]
section
variable {H : Type} {enc : TypeId × Value → H} {W : World} {base b0 : Nat} {sp : Nat → Bool} {held : Bool} {r : Reach}
end
end Go.Proofs.YtfbangojgjcbcaaGreatDoor
namespace Go.Proofs.YtfbangojgjcbcaaGreatDoor
open Go.RowKit Pl
theorem take_ne {ps qs : List Pr} {j : Nat} {u v : Pr} (hu : ps[j]? = some u) (hv : qs[j]? = some v) (h : u ≠ v) : decide (ps = qs) = false :=
  decide_eq_false fun e => h (by subst e; rw [hu] at hv; injection hv)
theorem take_next {ps qs : List Pr} {j : Nat} {u : Pr} (hu : ps[j]? = some u) (hv : qs[j]? = some u) (h : ps.take j = qs.take j) : ps.take (j + 1) = qs.take (j + 1) := by
  rw [List.take_add_one, List.take_add_one, hu, hv, h]
theorem take_all {ps qs : List Pr} (hl : ps.length = qs.length) (h : ps.take ps.length = qs.take ps.length) : decide (ps = qs) = true := by
  rw [List.take_length] at h
  rw [hl, List.take_length] at h
  exact decide_eq_true h
def eqRest (c d : Cfg) : Bool := decide (c.hello = d.hello) && decide (c.dead = d.dead) && decide (c.again = d.again) && decide (c.room = d.room) && decide (c.queue = d.queue) && decide (c.tokens = d.tokens) && decide (c.refill = d.refill)
/-- Are two configurations the same? -/
def sameC (c d : Cfg) : Bool := decide (c.node = d.node) && decide (c.addr = d.addr) && decide (c.own = d.own) && decide (c.ports = d.ports) && eqRest c d
theorem sameC_self (c : Cfg) : sameC c c = true := by simp [sameC, eqRest]
theorem sameC_eq {c d : Cfg} (h : sameC c d = true) : c = d := by
  obtain ⟨c1, c2, c3, c4, c5, c6, c7, c8, c9, c10, c11⟩ := c
  obtain ⟨d1, d2, d3, d4, d5, d6, d7, d8, d9, d10, d11⟩ := d
  simp only [sameC, eqRest, Bool.and_eq_true, decide_eq_true_eq] at h
  simp only [Cfg.mk.injEq]
  obtain ⟨⟨⟨⟨h1, h2⟩, h3⟩, h4⟩, ⟨⟨⟨⟨⟨h5, h6⟩, h7⟩, h8⟩, h9⟩, h10⟩, h11⟩ := h
  exact ⟨h1, h2, h3, h4, h5, h6, h7, h8, h9, h10, h11⟩
end Go.Proofs.YtfbangojgjcbcaaGreatDoor
namespace Go.Proofs.YtfbangojgjcbcaaGreatDoor
open Go.RowKit Pl
theorem same_own {c d : Cfg} (h : decide (c.own = d.own) = false) : sameC c d = false := by unfold sameC; rw [h]; simp
theorem same_ports {c d : Cfg} (h : decide (c.ports = d.ports) = false) : sameC c d = false := by unfold sameC; rw [h]; simp
set_option maxRecDepth 100000 in
set_option maxHeartbeats 8000000 in
theorem rsame_any (v v' : Value) (c d : Cfg) (w : World) (h : CfgIs w v c) (h' : CfgIs w v' d) (hl : c.own.length ≤ 1000000) (hp : c.ports.length ≤ 1000000) (_hl' : d.own.length ≤ 1000000) (_hp' : d.ports.length ≤ 1000000) :
    Calls Tryz.prog 16 #[v, v'] w fun e w' => e = .returned (.bool (sameC c d)) ∧ Below w.heap.size w w' := by
  obtain ⟨own, ports, rfl, hO, hP⟩ := h.is
  obtain ⟨own', ports', rfl, hO', hP'⟩ := h'.is
  have HO := Lib.hid hO
  have HP := Lib.hid hP
  have HO' := Lib.hid hO'
  have HP' := Lib.hid hP'
  obtain ⟨A1, k1, rfl, -⟩ := hO
  obtain ⟨A2, k2, rfl, -⟩ := hP
  obtain ⟨B1, l1, rfl, -⟩ := hO'
  obtain ⟨B2, l2, rfl, -⟩ := hP'
  clear h h'
  unfold cfgV
  obtain ⟨W0, hW0⟩ : ∃ W0, (w.alloc (.cells #[.int .i64 c.node, .int .u32 c.addr, .slice A1 c.own.length k1, .slice A2 c.ports.length k2, .int .i64 c.hello, .int .i64 c.dead, .int .i64 c.again, .int .i64 c.room, .int .i64 c.queue, .int .i64 c.tokens, .int .i64 c.refill] 28)).alloc (.cells #[.int .i64 d.node, .int .u32 d.addr, .slice B1 d.own.length l1, .slice B2 d.ports.length l2, .int .i64 d.hello, .int .i64 d.dead, .int .i64 d.again, .int .i64 d.room, .int .i64 d.queue, .int .i64 d.tokens, .int .i64 d.refill] 28) = W0 := ⟨_, rfl⟩
  have HB0 : Hid (Below w.heap.size w W0) := Lib.hid (by rw [← hW0]; exact ((Below.refl _ _).alloc (Nat.le_refl _) _).alloc (by simp) _)
  have HX1 : Hid (Whole W0 w.heap.size 28 #[.int .i64 c.node, .int .u32 c.addr, .slice A1 c.own.length k1, .slice A2 c.ports.length k2, .int .i64 c.hello, .int .i64 c.dead, .int .i64 c.again, .int .i64 c.room, .int .i64 c.queue, .int .i64 c.tokens, .int .i64 c.refill]) := Lib.hid (by rw [← hW0]; exact (Whole.new w _ _).alloc _)
  have HX2 : Hid (Whole W0 (w.heap.size + 1) 28 #[.int .i64 d.node, .int .u32 d.addr, .slice B1 d.own.length l1, .slice B2 d.ports.length l2, .int .i64 d.hello, .int .i64 d.dead, .int .i64 d.again, .int .i64 d.room, .int .i64 d.queue, .int .i64 d.tokens, .int .i64 d.refill]) := Lib.hid (by
    rw [← hW0]
    have := Whole.new (w.alloc (.cells #[.int .i64 c.node, .int .u32 c.addr, .slice A1 c.own.length k1, .slice A2 c.ports.length k2, .int .i64 c.hello, .int .i64 c.dead, .int .i64 c.again, .int .i64 c.room, .int .i64 c.queue, .int .i64 c.tokens, .int .i64 c.refill] 28)) 28 #[.int .i64 d.node, .int .u32 d.addr, .slice B1 d.own.length l1, .slice B2 d.ports.length l2, .int .i64 d.hello, .int .i64 d.dead, .int .i64 d.again, .int .i64 d.room, .int .i64 d.queue, .int .i64 d.tokens, .int .i64 d.refill]
    simpa using this)
  have hlt1 := HX1.out.lt
  have hlt2 := HX2.out.lt
  have HW0 := Lib.hid hW0
  clear hW0
  have y2 : W0.cell? ⟨w.heap.size, 2, none⟩ = some (.slice A1 c.own.length k1) := HX1.out.cell 2
  have z2 : W0.cell? ⟨w.heap.size + 1, 2, none⟩ = some (.slice B1 d.own.length l1) := HX2.out.cell 2
  have y3 : W0.cell? ⟨w.heap.size, 3, none⟩ = some (.slice A2 c.ports.length k2) := HX1.out.cell 3
  have z3 : W0.cell? ⟨w.heap.size + 1, 3, none⟩ = some (.slice B2 d.ports.length l2) := HX2.out.cell 3
  by_cases hn : c.own.length = d.own.length
  · have d1 : ((c.own.length : Int) != (d.own.length : Int)) = false := by simp [hn]
    have HN := Lib.hid hn
    clear hn
    by_cases hq : c.ports.length = d.ports.length
    · have d2 : ((c.ports.length : Int) != (d.ports.length : Int)) = false := by simp [hq]
      have HQ := Lib.hid hq
      clear hq
      go_enter Tryz.func16, Tryz.ntmps16
      go_upto_region 1 with fail
      rw [HW0.out]
      go_wp2
      go_loopw [5] (fun i wr => ∃ j : Nat, j ≤ c.own.length ∧ i = .int .i64 j ∧ Hid (c.own.take j = d.own.take j) ∧ Hid (Below W0.heap.size W0 wr)) (fun i _ => c.own.length - (intOf i).toNat)
      case atStart => exact ⟨0, Nat.zero_le _, rfl, Lib.hid rfl, Lib.hid (Below.refl _ _)⟩
      case round =>
        obtain ⟨j, hj, rfl, HT, HB⟩ := hrel
        have x1 : wr.cell? ⟨w.heap.size, 2, none⟩ = some (.slice A1 c.own.length k1) := (HX1.out.below HB.out (by omega)).cell 2
        have x2 : wr.cell? ⟨w.heap.size + 1, 2, none⟩ = some (.slice B1 d.own.length l1) := (HX2.out.below HB.out (by omega)).cell 2
        have HBW := Lib.hid (HB0.out.trans (HB.out.mono HB0.out.size))
        by_cases hlt : j < c.own.length
        · have hlt' : j < d.own.length := by have := HN.out; omega
          obtain ⟨⟨ua, un⟩, hu⟩ : ∃ u, c.own[j]? = some u := ⟨_, List.getElem?_eq_getElem hlt⟩
          obtain ⟨⟨va, vn⟩, hv⟩ : ∃ u, d.own[j]? = some u := ⟨_, List.getElem?_eq_getElem hlt'⟩
          obtain ⟨b1, o1, rfl, hb1, p0, p1⟩ := (HO.out.below HBW.out).at hu
          obtain ⟨b2, o2, rfl, hb2, q0, q1⟩ := (HO'.out.below HBW.out).at hv
          simp only at p0 p1 q0 q1
          have HU := Lib.hid hu
          have HV := Lib.hid hv
          clear hu hv
          by_cases e1 : ua = va
          · subst e1
            by_cases e2 : un = vn
            · subst e2
              have HT2 := Lib.hid (take_next HU.out HV.out HT.out)
              go_wp2
              go_region
              go_wp2
              go_roundw
              case rel => exact ⟨j + 1, by omega, by go_num, HT2, Lib.hid HB.out.drew⟩
              case measure => simp [intOf]; omega
            · have HF := Lib.hid (same_own (take_ne HU.out HV.out (fun e => e2 (by injection e))))
              have d3 : (un == vn) = false := by simpa using e2
              clear e2
              go_wp2
              go_region
              go_wp2
              go_ret
              exact ⟨by rw [HF.out]; rfl, HBW.out.drew⟩
          · have HF := Lib.hid (same_own (take_ne HU.out HV.out (fun e => e1 (by injection e))))
            have d3 : (ua == va) = false := by simpa using e1
            clear e1
            go_wp2
            go_region
            go_wp2
            go_ret
            exact ⟨by rw [HF.out]; rfl, HBW.out.drew⟩
        · obtain rfl : j = c.own.length := by omega
          have HFO := Lib.hid (take_all HN.out HT.out)
          clear HT
          go_wp2
          go_loopw [6] (fun i wr => ∃ j : Nat, j ≤ c.ports.length ∧ i = .int .i64 j ∧ Hid (c.ports.take j = d.ports.take j) ∧ Hid (Below W0.heap.size W0 wr)) (fun i _ => c.ports.length - (intOf i).toNat)
          case atStart => exact ⟨0, Nat.zero_le _, rfl, Lib.hid rfl, HB⟩
          case round =>
            clear HB HBW x1 x2
            obtain ⟨j, hj, rfl, HT, HB⟩ := hrel
            have x1 : wr.cell? ⟨w.heap.size, 3, none⟩ = some (.slice A2 c.ports.length k2) := (HX1.out.below HB.out (by omega)).cell 3
            have x2 : wr.cell? ⟨w.heap.size + 1, 3, none⟩ = some (.slice B2 d.ports.length l2) := (HX2.out.below HB.out (by omega)).cell 3
            have HBW := Lib.hid (HB0.out.trans (HB.out.mono HB0.out.size))
            by_cases hlt : j < c.ports.length
            · have hlt' : j < d.ports.length := by have := HQ.out; omega
              obtain ⟨⟨ua, un⟩, hu⟩ : ∃ u, c.ports[j]? = some u := ⟨_, List.getElem?_eq_getElem hlt⟩
              obtain ⟨⟨va, vn⟩, hv⟩ : ∃ u, d.ports[j]? = some u := ⟨_, List.getElem?_eq_getElem hlt'⟩
              obtain ⟨b1, o1, rfl, hb1, p0, p1⟩ := (HP.out.below HBW.out).at hu
              obtain ⟨b2, o2, rfl, hb2, q0, q1⟩ := (HP'.out.below HBW.out).at hv
              simp only at p0 p1 q0 q1
              have HU := Lib.hid hu
              have HV := Lib.hid hv
              clear hu hv
              by_cases e1 : ua = va
              · subst e1
                by_cases e2 : un = vn
                · subst e2
                  have HT2 := Lib.hid (take_next HU.out HV.out HT.out)
                  go_wp2
                  go_region
                  go_wp2
                  go_roundw
                  case rel => exact ⟨j + 1, by omega, by go_num, HT2, Lib.hid HB.out.drew⟩
                  case measure => simp [intOf]; omega
                · have HF := Lib.hid (same_ports (take_ne HU.out HV.out (fun e => e2 (by injection e))))
                  have d3 : (un == vn) = false := by simpa using e2
                  clear e2
                  go_wp2
                  go_region
                  go_wp2
                  go_ret
                  exact ⟨by rw [HF.out]; rfl, HBW.out.drew⟩
              · have HF := Lib.hid (same_ports (take_ne HU.out HV.out (fun e => e1 (by injection e))))
                have d3 : (ua == va) = false := by simpa using e1
                clear e1
                go_wp2
                go_region
                go_wp2
                go_ret
                exact ⟨by rw [HF.out]; rfl, HBW.out.drew⟩
            · obtain rfl : j = c.ports.length := by omega
              have HFP := Lib.hid (take_all HQ.out HT.out)
              clear HT
              have p0 : wr.cell? ⟨w.heap.size, 0, none⟩ = some (.int .i64 c.node) := (HX1.out.below HB.out (by omega)).cell 0
              have t0 : wr.cell? ⟨w.heap.size + 1, 0, none⟩ = some (.int .i64 d.node) := (HX2.out.below HB.out (by omega)).cell 0
              have p1 : wr.cell? ⟨w.heap.size, 1, none⟩ = some (.int .u32 c.addr) := (HX1.out.below HB.out (by omega)).cell 1
              have t1 : wr.cell? ⟨w.heap.size + 1, 1, none⟩ = some (.int .u32 d.addr) := (HX2.out.below HB.out (by omega)).cell 1
              have p4 : wr.cell? ⟨w.heap.size, 4, none⟩ = some (.int .i64 c.hello) := (HX1.out.below HB.out (by omega)).cell 4
              have t4 : wr.cell? ⟨w.heap.size + 1, 4, none⟩ = some (.int .i64 d.hello) := (HX2.out.below HB.out (by omega)).cell 4
              have p5 : wr.cell? ⟨w.heap.size, 5, none⟩ = some (.int .i64 c.dead) := (HX1.out.below HB.out (by omega)).cell 5
              have t5 : wr.cell? ⟨w.heap.size + 1, 5, none⟩ = some (.int .i64 d.dead) := (HX2.out.below HB.out (by omega)).cell 5
              have p6 : wr.cell? ⟨w.heap.size, 6, none⟩ = some (.int .i64 c.again) := (HX1.out.below HB.out (by omega)).cell 6
              have t6 : wr.cell? ⟨w.heap.size + 1, 6, none⟩ = some (.int .i64 d.again) := (HX2.out.below HB.out (by omega)).cell 6
              have p7 : wr.cell? ⟨w.heap.size, 7, none⟩ = some (.int .i64 c.room) := (HX1.out.below HB.out (by omega)).cell 7
              have t7 : wr.cell? ⟨w.heap.size + 1, 7, none⟩ = some (.int .i64 d.room) := (HX2.out.below HB.out (by omega)).cell 7
              have p8 : wr.cell? ⟨w.heap.size, 8, none⟩ = some (.int .i64 c.queue) := (HX1.out.below HB.out (by omega)).cell 8
              have t8 : wr.cell? ⟨w.heap.size + 1, 8, none⟩ = some (.int .i64 d.queue) := (HX2.out.below HB.out (by omega)).cell 8
              have p9 : wr.cell? ⟨w.heap.size, 9, none⟩ = some (.int .i64 c.tokens) := (HX1.out.below HB.out (by omega)).cell 9
              have t9 : wr.cell? ⟨w.heap.size + 1, 9, none⟩ = some (.int .i64 d.tokens) := (HX2.out.below HB.out (by omega)).cell 9
              have p10 : wr.cell? ⟨w.heap.size, 10, none⟩ = some (.int .i64 c.refill) := (HX1.out.below HB.out (by omega)).cell 10
              have t10 : wr.cell? ⟨w.heap.size + 1, 10, none⟩ = some (.int .i64 d.refill) := (HX2.out.below HB.out (by omega)).cell 10
              by_cases e0 : c.node = d.node
              · have q0 : (c.node == d.node) = true := by simpa using e0
                have r0 : decide (c.node = d.node) = true := decide_eq_true e0
                by_cases e1 : c.addr = d.addr
                · have q1 : (c.addr == d.addr) = true := by simpa using e1
                  have r1 : decide (c.addr = d.addr) = true := decide_eq_true e1
                  by_cases e2 : c.hello = d.hello
                  · have q2 : (c.hello == d.hello) = true := by simpa using e2
                    have r2 : decide (c.hello = d.hello) = true := decide_eq_true e2
                    by_cases e3 : c.dead = d.dead
                    · have q3 : (c.dead == d.dead) = true := by simpa using e3
                      have r3 : decide (c.dead = d.dead) = true := decide_eq_true e3
                      by_cases e4 : c.again = d.again
                      · have q4 : (c.again == d.again) = true := by simpa using e4
                        have r4 : decide (c.again = d.again) = true := decide_eq_true e4
                        by_cases e5 : c.room = d.room
                        · have q5 : (c.room == d.room) = true := by simpa using e5
                          have r5 : decide (c.room = d.room) = true := decide_eq_true e5
                          by_cases e6 : c.queue = d.queue
                          · have q6 : (c.queue == d.queue) = true := by simpa using e6
                            have r6 : decide (c.queue = d.queue) = true := decide_eq_true e6
                            by_cases e7 : c.tokens = d.tokens
                            · have q7 : (c.tokens == d.tokens) = true := by simpa using e7
                              have r7 : decide (c.tokens = d.tokens) = true := decide_eq_true e7
                              by_cases e8 : c.refill = d.refill
                              · have q8 : (c.refill == d.refill) = true := by simpa using e8
                                have r8 : decide (c.refill = d.refill) = true := decide_eq_true e8
                                have HS : Hid (sameC c d = true) := Lib.hid (by unfold sameC eqRest; rw [r0, r1, r2, r3, r4, r5, r6, r7, r8, HFO.out, HFP.out]; rfl)
                                clear e0 r0 e1 r1 e2 r2 e3 r3 e4 r4 e5 r5 e6 r6 e7 r7 e8 r8
                                go_wp2
                                go_ret
                                exact ⟨by rw [HS.out]; rfl, HBW.out⟩
                              · have q8 : (c.refill == d.refill) = false := by simpa using e8
                                have r8 : decide (c.refill = d.refill) = false := decide_eq_false e8
                                have HS : Hid (sameC c d = false) := Lib.hid (by unfold sameC eqRest; rw [r8]; simp)
                                clear e0 r0 e1 r1 e2 r2 e3 r3 e4 r4 e5 r5 e6 r6 e7 r7 e8 r8
                                go_wp2
                                go_ret
                                exact ⟨by rw [HS.out]; rfl, HBW.out⟩
                            · have q7 : (c.tokens == d.tokens) = false := by simpa using e7
                              have r7 : decide (c.tokens = d.tokens) = false := decide_eq_false e7
                              have HS : Hid (sameC c d = false) := Lib.hid (by unfold sameC eqRest; rw [r7]; simp)
                              clear e0 r0 e1 r1 e2 r2 e3 r3 e4 r4 e5 r5 e6 r6 e7 r7
                              go_wp2
                              go_ret
                              exact ⟨by rw [HS.out]; rfl, HBW.out⟩
                          · have q6 : (c.queue == d.queue) = false := by simpa using e6
                            have r6 : decide (c.queue = d.queue) = false := decide_eq_false e6
                            have HS : Hid (sameC c d = false) := Lib.hid (by unfold sameC eqRest; rw [r6]; simp)
                            clear e0 r0 e1 r1 e2 r2 e3 r3 e4 r4 e5 r5 e6 r6
                            go_wp2
                            go_ret
                            exact ⟨by rw [HS.out]; rfl, HBW.out⟩
                        · have q5 : (c.room == d.room) = false := by simpa using e5
                          have r5 : decide (c.room = d.room) = false := decide_eq_false e5
                          have HS : Hid (sameC c d = false) := Lib.hid (by unfold sameC eqRest; rw [r5]; simp)
                          clear e0 r0 e1 r1 e2 r2 e3 r3 e4 r4 e5 r5
                          go_wp2
                          go_ret
                          exact ⟨by rw [HS.out]; rfl, HBW.out⟩
                      · have q4 : (c.again == d.again) = false := by simpa using e4
                        have r4 : decide (c.again = d.again) = false := decide_eq_false e4
                        have HS : Hid (sameC c d = false) := Lib.hid (by unfold sameC eqRest; rw [r4]; simp)
                        clear e0 r0 e1 r1 e2 r2 e3 r3 e4 r4
                        go_wp2
                        go_ret
                        exact ⟨by rw [HS.out]; rfl, HBW.out⟩
                    · have q3 : (c.dead == d.dead) = false := by simpa using e3
                      have r3 : decide (c.dead = d.dead) = false := decide_eq_false e3
                      have HS : Hid (sameC c d = false) := Lib.hid (by unfold sameC eqRest; rw [r3]; simp)
                      clear e0 r0 e1 r1 e2 r2 e3 r3
                      go_wp2
                      go_ret
                      exact ⟨by rw [HS.out]; rfl, HBW.out⟩
                  · have q2 : (c.hello == d.hello) = false := by simpa using e2
                    have r2 : decide (c.hello = d.hello) = false := decide_eq_false e2
                    have HS : Hid (sameC c d = false) := Lib.hid (by unfold sameC eqRest; rw [r2]; simp)
                    clear e0 r0 e1 r1 e2 r2
                    go_wp2
                    go_ret
                    exact ⟨by rw [HS.out]; rfl, HBW.out⟩
                · have q1 : (c.addr == d.addr) = false := by simpa using e1
                  have r1 : decide (c.addr = d.addr) = false := decide_eq_false e1
                  have HS : Hid (sameC c d = false) := Lib.hid (by unfold sameC eqRest; rw [r1]; simp)
                  clear e0 r0 e1 r1
                  go_wp2
                  go_ret
                  exact ⟨by rw [HS.out]; rfl, HBW.out⟩
              · have q0 : (c.node == d.node) = false := by simpa using e0
                have r0 : decide (c.node = d.node) = false := decide_eq_false e0
                have HS : Hid (sameC c d = false) := Lib.hid (by unfold sameC eqRest; rw [r0]; simp)
                clear e0 r0
                go_wp2
                go_ret
                exact ⟨by rw [HS.out]; rfl, HBW.out⟩
    · have d2 : ((c.ports.length : Int) != (d.ports.length : Int)) = true := by simp; omega
      have HS : Hid (sameC c d = false) := Lib.hid (same_ports (decide_eq_false fun e => hq (by rw [e])))
      clear hq
      go_enter Tryz.func16, Tryz.ntmps16
      go_upto_region 1 with fail
      rw [HW0.out]
      go_wp2
      go_ret
      exact ⟨by rw [HS.out]; rfl, HB0.out⟩
  · have d1 : ((c.own.length : Int) != (d.own.length : Int)) = true := by simp; omega
    have HS : Hid (sameC c d = false) := Lib.hid (same_own (decide_eq_false fun e => hn (by rw [e])))
    clear hn
    go_enter Tryz.func16, Tryz.ntmps16
    go_upto_region 1 with fail
    rw [HW0.out]
    go_wp2
    go_ret
    exact ⟨by rw [HS.out]; rfl, HB0.out⟩
end Go.Proofs.YtfbangojgjcbcaaGreatDoor
namespace Go.Proofs.YtfbangojgjcbcaaGreatDoor
open Go.RowKit Pl
theorem takeG_ne {α : Type} [DecidableEq α] {ps qs : List α} {j : Nat} {u v : α} (hu : ps[j]? = some u) (hv : qs[j]? = some v) (h : u ≠ v) : decide (ps = qs) = false :=
  decide_eq_false fun e => h (by rw [e, hv] at hu; injection hu with hu; exact hu.symm)
theorem takeG_next {α : Type} {ps qs : List α} {j : Nat} {u : α} (hu : ps[j]? = some u) (hv : qs[j]? = some u) (h : ps.take j = qs.take j) : ps.take (j + 1) = qs.take (j + 1) := by
  rw [List.take_add_one, List.take_add_one, hu, hv, h]
theorem takeG_all {α : Type} [DecidableEq α] {ps qs : List α} (hl : ps.length = qs.length) (h : ps.take ps.length = qs.take ps.length) : decide (ps = qs) = true := by
  rw [List.take_length, hl, List.take_length] at h
  exact decide_eq_true h
theorem sameA_eq {a b : ActP} (h : sameA a b = true) : a = b := of_decide_eq_true h
theorem sameA_refl (a : ActP) : sameA a a = true := by unfold sameA; simp
instance : DecidableEq Cfg := fun a b => decidable_of_iff (sameC a b = true) ⟨sameC_eq, fun h => by rw [h]; exact sameC_self b⟩
end Go.Proofs.YtfbangojgjcbcaaGreatDoor
namespace Go.Proofs.YtfbangojgjcbcaaGreatDoor
open Go.RowKit Pl
/-- What a script in memory must be for what follows. -/
structure ScrIs (w : World) (cv lv av : Value) (cs : List Cfg) (ls : List Lk) (zs : List ActP) : Prop where
  confs : Confs w cv cs
  links : Links w lv ls
  acts : Acts w av zs
theorem ScrIs.here {w w' : World} {cv lv av : Value} {cs : List Cfg} {ls : List Lk} {zs : List ActP} (h : ScrIs w cv lv av cs ls zs) (hb : Below w.heap.size w w') : ScrIs w' cv lv av cs ls zs := ⟨h.confs.here hb, h.links.here hb, h.acts.here hb⟩
/-- .. and how much there may be. -/
structure ScrOk (cs : List Cfg) (ls : List Lk) (zs : List ActP) : Prop where
  addrs : ∀ c ∈ cs, Addrs4 c
  confs : ∀ c ∈ cs, c.own.length ≤ 1000000 ∧ c.ports.length ≤ 1000000 ∧ In64 c.node
  links : ∀ l ∈ ls, In4 l
  acts : ∀ a ∈ zs, InA a ∧ a.bytes.length ≤ 1000000
  nc : cs.length ≤ 1000000
  nl : ls.length ≤ 1000000
  na : zs.length ≤ 1000000
def sameS (cs cs' : List Cfg) (ls ls' : List Lk) (zs zs' : List ActP) : Bool := decide (cs = cs') && decide (ls = ls') && decide (zs = zs')
end Go.Proofs.YtfbangojgjcbcaaGreatDoor
namespace Go.Proofs.YtfbangojgjcbcaaGreatDoor
open Go.RowKit Pl
structure CRow where
  c : Cfg
  own : Value
  ports : Value
structure ARow where
  a : ActP
  bv : Value
def cells11 (x : CRow) : List Value := [.int .i64 x.c.node, .int .u32 x.c.addr, x.own, x.ports, .int .i64 x.c.hello, .int .i64 x.c.dead, .int .i64 x.c.again, .int .i64 x.c.room, .int .i64 x.c.queue, .int .i64 x.c.tokens, .int .i64 x.c.refill]
def cells4 (l : Lk) : List Value := [.int .i64 l.1, .int .i64 l.2.1, .int .i64 l.2.2.1, .int .i64 l.2.2.2]
def cells9 (y : ARow) : List Value := [.int .i64 y.a.kind, .int .i64 y.a.node, .int .i64 y.a.port, .int .i64 y.a.cost, .int .i64 y.a.n, .bool y.a.up, .int .u8 (y.a.by_.toNat : Int), .bool y.a.unread, y.bv]
theorem flat_at {α : Type} (f : α → List Value) (z : Nat) (hf : ∀ x, (f x).length = z) : ∀ (xs : List α) (j : Nat) (x : α) (i : Nat) (u : Value), xs[j]? = some x → (f x)[i]? = some u → (xs.flatMap f)[j * z + i]? = some u
  | [], j, x, i, u, h, _ => by simp at h
  | y :: ys, 0, x, i, u, h, hu => by
    simp at h
    subst h
    rw [List.flatMap_cons, Nat.zero_mul, Nat.zero_add, List.getElem?_append_left (List.getElem?_eq_some_iff.1 hu).1, hu]
  | y :: ys, j + 1, x, i, u, h, hu => by
    rw [List.getElem?_cons_succ] at h
    rw [List.flatMap_cons, List.getElem?_append_right (by rw [hf, Nat.succ_mul]; omega), hf, show (j + 1) * z + i - z = j * z + i by rw [Nat.succ_mul]; omega]
    exact flat_at f z hf ys j x i u h hu
theorem own_at {w : World} {base z n : Nat} {e : TypeId} {v : Value} {xs : List Value} (h : w.ownsRow base e z v n xs) :
    (v = .slice none 0 0 ∧ n = 0) ∨ ∃ g cap, v = .slice (some ⟨g, 0, none⟩) n cap ∧ n ≤ cap ∧ g < w.heap.size ∧ ∀ i u, xs[i]? = some u → w.cell? ⟨g, 0 + i, none⟩ = some u := by
  rcases h.2 with h0 | ⟨g, cap, cur, rfl, hg, hh, hnc, _⟩
  · exact .inl h0
  · refine .inr ⟨g, cap, rfl, hnc, (h.lt g rfl).2, fun i u hu => ?_⟩
    have := h.cells (g := g) rfl i u hu
    rw [show ((⟨g, 0, none⟩ : Addr).add i) = ⟨g, 0 + i, none⟩ from by unfold Addr.add; by_cases hj : i = 0 <;> simp [hj]] at this
    exact this
theorem Seqs.own {α β : Type} {w : World} {base z : Nat} {e : TypeId} {v : Value} {Q : World → Nat → Nat → β → Prop} {xs : List α} (f : α → List Value) (m : α → β) (hf : ∀ x, (f x).length = z)
    (h : w.ownsRow base e z v xs.length (xs.flatMap f)) (hQ : ∀ g o x, x ∈ xs → (∀ i u, (f x)[i]? = some u → w.cell? ⟨g, o + i, none⟩ = some u) → Q w g o (m x)) : Seqs z Q w v (xs.map m) := by
  rcases own_at h with ⟨rfl, h0⟩ | ⟨g, cap, rfl, hnc, hlt, hc⟩
  · have : xs = [] := List.length_eq_zero_iff.1 h0
    subst this
    exact Seqs.nil _ _ _
  · refine ⟨some ⟨g, 0, none⟩, cap, by rw [List.length_map], by rw [List.length_map]; exact hnc, (fun h => by cases h), fun _ => ⟨g, 0, rfl, hlt, fun j x hx => ?_⟩⟩
    rw [List.getElem?_map, Option.map_eq_some_iff] at hx
    obtain ⟨a, ha, rfl⟩ := hx
    refine hQ g (0 + j * z) a (List.mem_of_getElem? ha) fun i u hu => ?_
    have := hc (j * z + i) u (flat_at f z hf xs j a i u ha hu)
    rw [Nat.add_assoc]; exact this
/-- Its cells lie in none of these blocks. -/
def Inn (w : World) (B R : Nat) (bad : List Value) (u : Value) : Prop := ∀ b o n c, u = .slice (some ⟨b, o, none⟩) n c → 0 < n → (B ≤ b ∧ b < w.heap.size) ∧ b ≠ R ∧ ∀ v ∈ bad, v.ownBlock ≠ some b
/-- Its block is as it was. -/
def Stays (w w' : World) (u : Value) : Prop := ∀ b o n c, u = .slice (some ⟨b, o, none⟩) n c → 0 < n → w'.heap[b]? = w.heap[b]?
theorem cell_same {w w' : World} {b : Nat} (h : w'.heap[b]? = w.heap[b]?) (i : Nat) : w'.cell? ⟨b, i, none⟩ = w.cell? ⟨b, i, none⟩ := by simp [World.cell?, h]
theorem lt_same {w w' : World} {b : Nat} (h : w'.heap[b]? = w.heap[b]?) (hb : b < w.heap.size) : b < w'.heap.size := by
  rw [Array.getElem?_eq_getElem hb] at h
  exact (Array.getElem?_eq_some_iff.1 h).1
theorem Rs.stay {k : IntKind} {w w' : World} {v : Value} {ps : List Pr} (h : Rs k w v ps) (hs : Stays w w' v) : Rs k w' v ps := by
  obtain ⟨A, c, rfl, hc, hn, hA⟩ := h
  refine ⟨A, c, rfl, hc, hn, fun hp => ?_⟩
  obtain ⟨b, off, rfl, hlt, hcell⟩ := hA hp
  have hb := hs b off _ _ rfl hp
  refine ⟨b, off, rfl, lt_same hb hlt, fun j u hu => ?_⟩
  obtain ⟨h1, h2⟩ := hcell j u hu
  exact ⟨(cell_same hb _).trans h1, (cell_same hb _).trans h2⟩
theorem Bs.stay {w w' : World} {v : Value} {l : List UInt8} (h : Bs w v l) (hs : Stays w w' v) : Bs w' v l := by
  obtain ⟨A, c, rfl, hc, hn, hA⟩ := h
  refine ⟨A, c, rfl, hc, hn, fun hp => ?_⟩
  obtain ⟨b, off, rfl, hlt, hcell⟩ := hA hp
  have hb := hs b off _ _ rfl hp
  exact ⟨b, off, rfl, lt_same hb hlt, fun j u hu => (cell_same hb _).trans (hcell j u hu)⟩
theorem Inn.stays {w w' : World} {B R : Nat} {bad : List Value} {u v : Value} (h : Inn w B R bad u) (hv : v ∈ bad) (hg : w.grownBy w' v.ownBlock) : Stays w w' u := fun b o n c e hp => by
  obtain ⟨h1, _, h3⟩ := h b o n c e hp
  exact hg.block b h1.2 (Ne.symm (h3 v hv))
theorem Inn.setR {w : World} {B R : Nat} {bad : List Value} {u : Value} (h : Inn w B R bad u) (i : Nat) (x : Value) : Stays w (w.setCell ⟨R, i, none⟩ x) u := fun b o n c e hp => by
  obtain ⟨_, h2, _⟩ := h b o n c e hp
  exact Below.heap_setCell w ⟨R, i, none⟩ x b h2
theorem Inn.below {w w' : World} {B R : Nat} {bad : List Value} {u : Value} (h : Inn w B R bad u) (hb : w.heap.size ≤ w'.heap.size) : Inn w' B R bad u := fun b o n c e hp => by
  obtain ⟨h1, h2, h3⟩ := h b o n c e hp
  exact ⟨by omega, h2, h3⟩
theorem Inn.here {w w' : World} {B R : Nat} {bad : List Value} {u : Value} (h : Inn w B R bad u) (hb : Below w.heap.size w w') : Stays w w' u := fun b o n c e hp => hb.block b (h b o n c e hp).1.2
theorem Stays.trans {a b c : World} {u : Value} (h : Stays a b u) (h' : Stays b c u) : Stays a c u := fun g o n k e hp => (h' g o n k e hp).trans (h g o n k e hp)
/-- One of the rows has moved: to a block behind all that was. -/
theorem Inn.moved {w w' : World} {B R g : Nat} {bad bad' : List Value} {u : Value} (h : Inn w B R bad u) (hb : w.heap.size ≤ w'.heap.size) (hm : ∀ v ∈ bad', v ∈ bad ∨ (∃ x ∈ bad, v.ownBlock = x.ownBlock) ∨ (v.ownBlock = some g ∧ w.heap.size ≤ g)) : Inn w' B R bad' u := fun b o n c e hp => by
  obtain ⟨h1, h2, h3⟩ := h b o n c e hp
  refine ⟨by omega, h2, fun v hv => ?_⟩
  rcases hm v hv with h4 | ⟨x, h5, h6⟩ | ⟨h5, h6⟩
  · exact h3 v h4
  · rw [h6]; exact h3 x h5
  · rw [h5]; intro he; injection he with he; omega
/-- A script's reader. -/
structure RdX (w : World) (B R : Nat) (st : St) (cv lv av : Value) (xs : List CRow) (ys : List ARow) : Prop where
  whole : Whole w R 146 #[cv, lv, av, .bool st.run]
  cs : st.cs = xs.map (·.c)
  zs : st.zs = ys.map (·.a)
  rc : w.ownsRow B 28 11 cv xs.length (xs.flatMap cells11)
  rl : w.ownsRow B 63 4 lv st.ls.length (st.ls.flatMap cells4)
  ra : w.ownsRow B 51 9 av ys.length (ys.flatMap cells9)
  ic : ∀ x ∈ xs, Rs .u32 w x.own x.c.own ∧ Rs .i64 w x.ports x.c.ports ∧ Inn w B R [cv, lv, av] x.own ∧ Inn w B R [cv, lv, av] x.ports
  ia : ∀ y ∈ ys, Bs w y.bv y.a.bytes ∧ Inn w B R [cv, lv, av] y.bv
theorem RdX.here {w w' : World} {B R : Nat} {st : St} {cv lv av : Value} {xs : List CRow} {ys : List ARow} (h : RdX w B R st cv lv av xs ys) (hb : Below w.heap.size w w') : RdX w' B R st cv lv av xs ys where
  whole := h.whole.here hb
  cs := h.cs
  zs := h.zs
  rc := own_below h.rc hb
  rl := own_below h.rl hb
  ra := own_below h.ra hb
  ic := fun x hx => by
    obtain ⟨h1, h2, h3, h4⟩ := h.ic x hx
    exact ⟨h1.stay (h3.here hb), h2.stay (h4.here hb), h3.below hb.size, h4.below hb.size⟩
  ia := fun y hy => by
    obtain ⟨h1, h2⟩ := h.ia y hy
    exact ⟨h1.stay (h2.here hb), h2.below hb.size⟩
theorem RdX.scr {w : World} {B R : Nat} {st : St} {cv lv av : Value} {xs : List CRow} {ys : List ARow} (h : RdX w B R st cv lv av xs ys) : ScrIs w cv lv av st.cs st.ls st.zs where
  confs := by
    rw [h.cs]
    refine Seqs.own cells11 (·.c) (fun _ => rfl) h.rc fun g o x hx hc => ?_
    obtain ⟨h1, h2, _, _⟩ := h.ic x hx
    exact ⟨x.own, x.ports, h1, h2, hc 0 _ rfl, hc 1 _ rfl, hc 2 _ rfl, hc 3 _ rfl, hc 4 _ rfl, hc 5 _ rfl, hc 6 _ rfl, hc 7 _ rfl, hc 8 _ rfl, hc 9 _ rfl, hc 10 _ rfl⟩
  links := by
    have := Seqs.own (β := Lk) (Q := linkQ) cells4 id (fun _ => rfl) h.rl fun g o x _ hc => ⟨hc 0 _ rfl, hc 1 _ rfl, hc 2 _ rfl, hc 3 _ rfl⟩
    rwa [List.map_id] at this
  acts := by
    rw [h.zs]
    refine Seqs.own cells9 (·.a) (fun _ => rfl) h.ra fun g o y hy hc => ?_
    obtain ⟨h1, _⟩ := h.ia y hy
    exact ⟨y.bv, h1, hc 0 _ rfl, hc 1 _ rfl, hc 2 _ rfl, hc 3 _ rfl, hc 4 _ rfl, hc 5 _ rfl, hc 6 _ rfl, hc 7 _ rfl, hc 8 _ rfl⟩
/-- Where a row has moved to. -/
def Went (w : World) (v : Value) (g : Nat) : Prop := v.ownBlock = some g ∨ w.heap.size ≤ g
theorem Went.of {w : World} {v : Value} {g H : Nat} (h : v.ownBlock = some g ∨ g = H) (hH : w.heap.size ≤ H) : Went w v g := h.elim .inl fun e => .inr (by omega)
section
variable {w w2 : World} {B R g n cap : Nat} {st : St} {cv lv av : Value} {xs : List CRow} {ys : List ARow}
theorem inn_c {u : Value} (h : Inn w B R [cv, lv, av] u) (hs : w.heap.size ≤ w2.heap.size) (hw : Went w cv g) : Inn w2 B R [.slice (some ⟨g, 0, none⟩) n cap, lv, av] u :=
  h.moved (g := g) hs fun v hv => by
    rcases List.mem_cons.1 hv with rfl | hv
    · rcases hw with hw | hw
      · exact .inr (.inl ⟨cv, by simp, hw.symm⟩)
      · exact .inr (.inr ⟨rfl, hw⟩)
    · exact .inl (List.mem_cons_of_mem _ hv)
theorem inn_l {u : Value} (h : Inn w B R [cv, lv, av] u) (hs : w.heap.size ≤ w2.heap.size) (hw : Went w lv g) : Inn w2 B R [cv, .slice (some ⟨g, 0, none⟩) n cap, av] u :=
  h.moved (g := g) hs fun v hv => by
    simp only [List.mem_cons, List.not_mem_nil, or_false] at hv
    rcases hv with rfl | rfl | rfl
    · exact .inl (by simp)
    · rcases hw with hw | hw
      · exact .inr (.inl ⟨lv, by simp, hw.symm⟩)
      · exact .inr (.inr ⟨rfl, hw⟩)
    · exact .inl (by simp)
theorem inn_a {u : Value} (h : Inn w B R [cv, lv, av] u) (hs : w.heap.size ≤ w2.heap.size) (hw : Went w av g) : Inn w2 B R [cv, lv, .slice (some ⟨g, 0, none⟩) n cap] u :=
  h.moved (g := g) hs fun v hv => by
    simp only [List.mem_cons, List.not_mem_nil, or_false] at hv
    rcases hv with rfl | rfl | rfl
    · exact .inl (by simp)
    · exact .inl (by simp)
    · rcases hw with hw | hw
      · exact .inr (.inl ⟨av, by simp, hw.symm⟩)
      · exact .inr (.inr ⟨rfl, hw⟩)
theorem RdX.pushC (h : RdX w B R st cv lv av xs ys) (hg : w.grownBy w2 cv.ownBlock) (x : CRow) (hn : n = xs.length + 1) (ho : w2.ownsRow B 28 11 (.slice (some ⟨g, 0, none⟩) n cap) n (xs.flatMap cells11 ++ cells11 x)) (hw : Went w cv g)
    (hx : Rs .u32 w x.own x.c.own ∧ Rs .i64 w x.ports x.c.ports ∧ Inn w B R [cv, lv, av] x.own ∧ Inn w B R [cv, lv, av] x.ports) :
    RdX (w2.setCell ⟨R, 0, none⟩ (.slice (some ⟨g, 0, none⟩) n cap)) B R { st with cs := st.cs ++ [x.c] } (.slice (some ⟨g, 0, none⟩) n cap) lv av (xs ++ [x]) ys := by
  subst hn
  have hno := h.whole.notRow h.rc (by decide)
  have hW2 := h.whole.kept hg (Ne.symm hno)
  have hgs := grown_set w2 R 0 (.slice (some ⟨g, 0, none⟩) (xs.length + 1) cap)
  have hsz : w.heap.size ≤ (w2.setCell ⟨R, 0, none⟩ (.slice (some ⟨g, 0, none⟩) (xs.length + 1) cap)).heap.size := Nat.le_trans hg.size hgs.size
  exact {
    whole := hW2.set 0 _
    cs := by simp [h.cs]
    zs := h.zs
    rc := by rw [List.flatMap_append, List.length_append]; simpa using own_grown hW2 ho (by decide) hgs
    rl := own_grown hW2 (h.rl.kept hg (rows_apart h.rc h.rl (by decide))) (by decide) hgs
    ra := own_grown hW2 (h.ra.kept hg (rows_apart h.rc h.ra (by decide))) (by decide) hgs
    ic := fun y hy => by
      have hy' : Rs .u32 w y.own y.c.own ∧ Rs .i64 w y.ports y.c.ports ∧ Inn w B R [cv, lv, av] y.own ∧ Inn w B R [cv, lv, av] y.ports := by
        rcases List.mem_append.1 hy with hy | hy
        · exact h.ic y hy
        · have : y = x := by simpa using hy
          subst this; exact hx
      obtain ⟨h1, h2, h3, h4⟩ := hy'
      exact ⟨h1.stay ((h3.stays (by simp) hg).trans ((h3.below hg.size).setR _ _)), h2.stay ((h4.stays (by simp) hg).trans ((h4.below hg.size).setR _ _)), inn_c h3 hsz hw, inn_c h4 hsz hw⟩
    ia := fun y hy => by
      obtain ⟨h1, h3⟩ := h.ia y hy
      exact ⟨h1.stay ((h3.stays (by simp) hg).trans ((h3.below hg.size).setR _ _)), inn_c h3 hsz hw⟩ }
theorem RdX.pushL (h : RdX w B R st cv lv av xs ys) (hg : w.grownBy w2 lv.ownBlock) (x : Lk) (hn : n = st.ls.length + 1) (ho : w2.ownsRow B 63 4 (.slice (some ⟨g, 0, none⟩) n cap) n (st.ls.flatMap cells4 ++ cells4 x)) (hw : Went w lv g) :
    RdX (w2.setCell ⟨R, 1, none⟩ (.slice (some ⟨g, 0, none⟩) n cap)) B R { st with ls := st.ls ++ [x] } cv (.slice (some ⟨g, 0, none⟩) n cap) av xs ys := by
  subst hn
  have hno := h.whole.notRow h.rl (by decide)
  have hW2 := h.whole.kept hg (Ne.symm hno)
  have hgs := grown_set w2 R 1 (.slice (some ⟨g, 0, none⟩) (st.ls.length + 1) cap)
  have hsz : w.heap.size ≤ (w2.setCell ⟨R, 1, none⟩ (.slice (some ⟨g, 0, none⟩) (st.ls.length + 1) cap)).heap.size := Nat.le_trans hg.size hgs.size
  exact {
    whole := hW2.set 1 _
    cs := h.cs
    zs := h.zs
    rl := by
      show World.ownsRow _ _ _ _ _ (st.ls ++ [x]).length ((st.ls ++ [x]).flatMap cells4)
      rw [List.flatMap_append, List.length_append]; simpa using own_grown hW2 ho (by decide) hgs
    rc := own_grown hW2 (h.rc.kept hg (rows_apart h.rl h.rc (by decide))) (by decide) hgs
    ra := own_grown hW2 (h.ra.kept hg (rows_apart h.rl h.ra (by decide))) (by decide) hgs
    ic := fun y hy => by
      obtain ⟨h1, h2, h3, h4⟩ := h.ic y hy
      exact ⟨h1.stay ((h3.stays (by simp) hg).trans ((h3.below hg.size).setR _ _)), h2.stay ((h4.stays (by simp) hg).trans ((h4.below hg.size).setR _ _)), inn_l h3 hsz hw, inn_l h4 hsz hw⟩
    ia := fun y hy => by
      obtain ⟨h1, h3⟩ := h.ia y hy
      exact ⟨h1.stay ((h3.stays (by simp) hg).trans ((h3.below hg.size).setR _ _)), inn_l h3 hsz hw⟩ }
theorem RdX.pushA (h : RdX w B R st cv lv av xs ys) (hg : w.grownBy w2 av.ownBlock) (x : ARow) (hn : n = ys.length + 1) (ho : w2.ownsRow B 51 9 (.slice (some ⟨g, 0, none⟩) n cap) n (ys.flatMap cells9 ++ cells9 x)) (hw : Went w av g)
    (hx : Bs w x.bv x.a.bytes ∧ Inn w B R [cv, lv, av] x.bv) :
    RdX (w2.setCell ⟨R, 2, none⟩ (.slice (some ⟨g, 0, none⟩) n cap)) B R { st with zs := st.zs ++ [x.a] } cv lv (.slice (some ⟨g, 0, none⟩) n cap) xs (ys ++ [x]) := by
  subst hn
  have hno := h.whole.notRow h.ra (by decide)
  have hW2 := h.whole.kept hg (Ne.symm hno)
  have hgs := grown_set w2 R 2 (.slice (some ⟨g, 0, none⟩) (ys.length + 1) cap)
  have hsz : w.heap.size ≤ (w2.setCell ⟨R, 2, none⟩ (.slice (some ⟨g, 0, none⟩) (ys.length + 1) cap)).heap.size := Nat.le_trans hg.size hgs.size
  exact {
    whole := hW2.set 2 _
    cs := h.cs
    zs := by simp [h.zs]
    ra := by rw [List.flatMap_append, List.length_append]; simpa using own_grown hW2 ho (by decide) hgs
    rc := own_grown hW2 (h.rc.kept hg (rows_apart h.ra h.rc (by decide))) (by decide) hgs
    rl := own_grown hW2 (h.rl.kept hg (rows_apart h.ra h.rl (by decide))) (by decide) hgs
    ic := fun y hy => by
      obtain ⟨h1, h2, h3, h4⟩ := h.ic y hy
      exact ⟨h1.stay ((h3.stays (by simp) hg).trans ((h3.below hg.size).setR _ _)), h2.stay ((h4.stays (by simp) hg).trans ((h4.below hg.size).setR _ _)), inn_a h3 hsz hw, inn_a h4 hsz hw⟩
    ia := fun y hy => by
      have hy' : Bs w y.bv y.a.bytes ∧ Inn w B R [cv, lv, av] y.bv := by
        rcases List.mem_append.1 hy with hy | hy
        · exact h.ia y hy
        · have : y = x := by simpa using hy
          subst this; exact hx
      obtain ⟨h1, h3⟩ := hy'
      exact ⟨h1.stay ((h3.stays (by simp) hg).trans ((h3.below hg.size).setR _ _)), inn_a h3 hsz hw⟩ }
/-- What lies in memory made behind a moment is in none of the blocks of that moment. -/
theorem own_afar {w w' : World} {base z n : Nat} {e : TypeId} {v : Value} {xs : List Value} (h : w.ownsRow base e z v n xs) (hs : w.heap.size ≤ w'.heap.size) (hb : ∀ b, base ≤ b → b < w.heap.size → w'.heap[b]? = w.heap[b]?) : w'.ownsRow base e z v n xs := by
  refine ⟨h.1, ?_⟩
  rcases h.2 with h0 | ⟨g, cap, cur, rfl, hg, hh, hnc, hr⟩
  · exact .inl h0
  · have hlt := h.lt g rfl
    exact .inr ⟨g, cap, cur, rfl, hg, (hb g hlt.1 hlt.2).trans hh, hnc, hr⟩
theorem RdX.fresh (h : RdX w B R st cv lv av xs ys) {w1 : World} {u : Value} (hB : B ≤ w.heap.size) (hf : RowFrom w.heap.size u) (hlt : ∀ b o n c, u = .slice (some ⟨b, o, none⟩) n c → 0 < n → b < w1.heap.size) : Inn w1 B R [cv, lv, av] u := fun b o n c e hp => by
  have hb := hf b o n c e
  refine ⟨⟨Nat.le_trans hB hb, hlt b o n c e hp⟩, by have := h.whole.lt; omega, fun v hv he => ?_⟩
  simp only [List.mem_cons, List.not_mem_nil, or_false] at hv
  rcases hv with rfl | rfl | rfl
  · have := (h.rc.lt b he).2; omega
  · have := (h.rl.lt b he).2; omega
  · have := (h.ra.lt b he).2; omega
end
/-- Only a block ahead of B has changed, and not the reader's. -/
theorem RdX.far {w w' : World} {B R : Nat} {st : St} {cv lv av : Value} {xs : List CRow} {ys : List ARow} (h : RdX w B R st cv lv av xs ys) (hs : w.heap.size ≤ w'.heap.size) (hb : ∀ b, B ≤ b → b < w.heap.size → w'.heap[b]? = w.heap[b]?) : ScrIs w' cv lv av st.cs st.ls st.zs where
  confs := by
    rw [h.cs]
    refine Seqs.own cells11 (·.c) (fun _ => rfl) (own_afar h.rc hs hb) fun g o x hx hc => ?_
    obtain ⟨h1, h2, h3, h4⟩ := h.ic x hx
    exact ⟨x.own, x.ports, h1.stay (fun b o n c e hp => hb b (h3 b o n c e hp).1.1 (h3 b o n c e hp).1.2), h2.stay (fun b o n c e hp => hb b (h4 b o n c e hp).1.1 (h4 b o n c e hp).1.2), hc 0 _ rfl, hc 1 _ rfl, hc 2 _ rfl, hc 3 _ rfl, hc 4 _ rfl, hc 5 _ rfl, hc 6 _ rfl, hc 7 _ rfl, hc 8 _ rfl, hc 9 _ rfl, hc 10 _ rfl⟩
  links := by
    have := Seqs.own (β := Lk) (Q := linkQ) cells4 id (fun _ => rfl) (own_afar h.rl hs hb) fun g o x _ hc => ⟨hc 0 _ rfl, hc 1 _ rfl, hc 2 _ rfl, hc 3 _ rfl⟩
    rwa [List.map_id] at this
  acts := by
    rw [h.zs]
    refine Seqs.own cells9 (·.a) (fun _ => rfl) (own_afar h.ra hs hb) fun g o y hy hc => ?_
    obtain ⟨h1, h3⟩ := h.ia y hy
    exact ⟨y.bv, h1.stay (fun b o n c e hp => hb b (h3 b o n c e hp).1.1 (h3 b o n c e hp).1.2), hc 0 _ rfl, hc 1 _ rfl, hc 2 _ rfl, hc 3 _ rfl, hc 4 _ rfl, hc 5 _ rfl, hc 6 _ rfl, hc 7 _ rfl, hc 8 _ rfl⟩
def RdS (w : World) (B R : Nat) (st : St) : Prop := ∃ cv lv av xs ys, RdX w B R st cv lv av xs ys
theorem RdS.here {w w' : World} {B R : Nat} {st : St} (h : RdS w B R st) (hb : Below w.heap.size w w') : RdS w' B R st := by
  obtain ⟨cv, lv, av, xs, ys, hx⟩ := h
  exact ⟨cv, lv, av, xs, ys, hx.here hb⟩
theorem Rs.lt_of {k : IntKind} {w : World} {v : Value} {ps : List Pr} (h : Rs k w v ps) : ∀ b o n c, v = .slice (some ⟨b, o, none⟩) n c → 0 < n → b < w.heap.size := fun b o n c e hp => by
  obtain ⟨A, c', hv, _, _, hA⟩ := h
  rw [hv] at e
  injection e with e1 e2 e3
  obtain ⟨b', o', hA', hlt, _⟩ := hA (by omega)
  rw [hA'] at e1
  injection e1 with e1
  injection e1 with e1
  omega
theorem Bs.lt_of {w : World} {v : Value} {l : List UInt8} (h : Bs w v l) : ∀ b o n c, v = .slice (some ⟨b, o, none⟩) n c → 0 < n → b < w.heap.size := fun b o n c e hp => by
  obtain ⟨A, c', hv, _, _, hA⟩ := h
  rw [hv] at e
  injection e with e1 e2 e3
  obtain ⟨b', o', hA', hlt, _⟩ := hA (by omega)
  rw [hA'] at e1
  injection e1 with e1
  injection e1 with e1
  omega
end Go.Proofs.YtfbangojgjcbcaaGreatDoor
namespace Go.Proofs.YtfbangojgjcbcaaGreatDoor
open Go.RowKit Pl
theorem firstLn_hit {L : List Ln} {j : Nat} (h : ¬ (parseC (L.take (j + 1)).flatten).2.2 = 3) : firstLn L (j + 1) = (parseC (L.take (j + 1)).flatten).2.1 := by rw [firstLn, if_neg h]
theorem firstLn_miss {L : List Ln} {j : Nat} (h : (parseC (L.take (j + 1)).flatten).2.2 = 3) : firstLn L (j + 1) = firstLn L j := by rw [firstLn, if_pos h]
theorem take_flat (L : List Ln) (k : Nat) : (L.take k).flatten.length ≤ L.flatten.length := by
  have := congrArg (fun l : List Ln => l.flatten.length) (List.take_append_drop k L)
  simp only [List.flatten_append, List.length_append] at this
  omega
def FirstRes (L : List Ln) (e : Ending) : Prop := ∃ c A1 k1 A2 k2, e = .returned (.tuple #[cfgV c (.slice A1 c.own.length k1) (.slice A2 c.ports.length k2), .int .i64 (firstLn L L.length : Int), .int .i64 4])
set_option maxRecDepth 100000 in
set_option maxHeartbeats 4000000 in
theorem first_any (b off c n : Nat) (L : List Ln) (w : World) (h : StrRow w b off L) (hn : n = L.length) (hc : L.length ≤ c) (hl : L.length ≤ 100000000) (hx : L.flatten.length ≤ 100000000) (E : Env w) :
    Calls Tryz.prog 149 #[.slice (some ⟨b, off, none⟩) n c] w fun e w' => FirstRes L e ∧ Below w.heap.size w w' := by
  obtain ⟨W0, hW0⟩ : ∃ W0, w.alloc (.cells #[.int .i64 0, .int .u32 0, .slice none 0 0, .slice none 0 0, .int .i64 0, .int .i64 0, .int .i64 0, .int .i64 0, .int .i64 0, .int .i64 0, .int .i64 0] 28) = W0 := ⟨_, rfl⟩
  have HB0 : Hid (Below w.heap.size w W0) := Lib.hid (by rw [← hW0]; exact (Below.refl _ _).alloc (Nat.le_refl _) _)
  have HX0 : Hid (Whole W0 w.heap.size 28 #[.int .i64 0, .int .u32 0, .slice none 0 0, .slice none 0 0, .int .i64 0, .int .i64 0, .int .i64 0, .int .i64 0, .int .i64 0, .int .i64 0, .int .i64 0]) := Lib.hid (by rw [← hW0]; exact Whole.new w _ _)
  have HW0 := Lib.hid hW0
  have E0 := Lib.hid (E.here HB0.out)
  have HS := Lib.hid (h.here HB0.out)
  have HN := Lib.hid hn
  have HXX := Lib.hid hx
  have hnc : n ≤ c := by omega
  have hn9 : n ≤ 100000000 := by omega
  clear hW0 h E hx hn hc hl
  go_enter Tryz.func149, Tryz.ntmps149
  go_wp2
  rw [HW0.out]
  go_loopw [5] (fun i wr => ∃ j : Nat, j ≤ n ∧ i = .int .i64 j ∧ Hid (firstLn L L.length = firstLn L j) ∧ Hid (Below W0.heap.size W0 wr)) (fun i _ => (intOf i).toNat)
  case atStart => exact ⟨n, Nat.le_refl _, rfl, Lib.hid (by rw [HN.out]), Lib.hid (Below.refl _ _)⟩
  case round =>
    obtain ⟨j, hj, rfl, HF, HB⟩ := hrel
    have HX1 := Lib.hid (HX0.out.here HB.out)
    have HB1 := Lib.hid (HB0.out.trans (HB.out.mono HB0.out.size))
    by_cases h0 : j = 0
    · subst h0
      have RES : FirstRes L (.returned (.tuple #[cfg0, .int .i64 0, .int .i64 4])) := ⟨{}, none, 0, none, 0, by rw [HF.out]; rfl⟩
      have b0 : wr.cell? ⟨w.heap.size, 0, none⟩ = some (.int .i64 0) := HX1.out.cell 0
      have f0 := HX1.out.frozen 0
      have b1 : wr.cell? ⟨w.heap.size, 1, none⟩ = some (.int .u32 0) := HX1.out.cell 1
      have f1 := HX1.out.frozen 1
      have b2 : wr.cell? ⟨w.heap.size, 2, none⟩ = some (.slice none 0 0) := HX1.out.cell 2
      have f2 := HX1.out.frozen 2
      have b3 : wr.cell? ⟨w.heap.size, 3, none⟩ = some (.slice none 0 0) := HX1.out.cell 3
      have f3 := HX1.out.frozen 3
      have b4 : wr.cell? ⟨w.heap.size, 4, none⟩ = some (.int .i64 0) := HX1.out.cell 4
      have f4 := HX1.out.frozen 4
      have b5 : wr.cell? ⟨w.heap.size, 5, none⟩ = some (.int .i64 0) := HX1.out.cell 5
      have f5 := HX1.out.frozen 5
      have b6 : wr.cell? ⟨w.heap.size, 6, none⟩ = some (.int .i64 0) := HX1.out.cell 6
      have f6 := HX1.out.frozen 6
      have b7 : wr.cell? ⟨w.heap.size, 7, none⟩ = some (.int .i64 0) := HX1.out.cell 7
      have f7 := HX1.out.frozen 7
      have b8 : wr.cell? ⟨w.heap.size, 8, none⟩ = some (.int .i64 0) := HX1.out.cell 8
      have f8 := HX1.out.frozen 8
      have b9 : wr.cell? ⟨w.heap.size, 9, none⟩ = some (.int .i64 0) := HX1.out.cell 9
      have f9 := HX1.out.frozen 9
      have b10 : wr.cell? ⟨w.heap.size, 10, none⟩ = some (.int .i64 0) := HX1.out.cell 10
      have f10 := HX1.out.frozen 10
      go_wp2
      try rw [Exit.noGoto_ret]
      have hq := box_end (.int .i64 0) (.int .u32 0) (.slice none 0 0) (.slice none 0 0) (.int .i64 0) (.int .i64 0) (.int .i64 0) (.int .i64 0) (.int .i64 0) (.int .i64 0) (.int .i64 0) HX1.out
      have hbq := box_below (.int .i64 0) (.int .u32 0) (.slice none 0 0) (.slice none 0 0) (.int .i64 0) (.int .i64 0) (.int .i64 0) (.int .i64 0) (.int .i64 0) (.int .i64 0) (.int .i64 0) HB1.out (Nat.le_refl _)
      have q0 := hq.cell 0
      have q1 := hq.cell 1
      have q2 := hq.cell 2
      have q3 := hq.cell 3
      have q4 := hq.cell 4
      have q5 := hq.cell 5
      have q6 := hq.cell 6
      have q7 := hq.cell 7
      have q8 := hq.cell 8
      have q9 := hq.cell 9
      have q10 := hq.cell 10
      simp at q0 q1 q2 q3 q4 q5 q6 q7 q8 q9 q10
      exact bodyPost_ret (v := .tuple #[cfg0, .int .i64 0, .int .i64 4]) (by simp [results, Tryz.results149, go_sem, cfgV, cfg0, q0, q1, q2, q3, q4, q5, q6, q7, q8, q9, q10]) rfl ⟨RES, hbq⟩
    · obtain ⟨k, rfl⟩ : ∃ k, j = k + 1 := ⟨j - 1, by omega⟩
      have HS1 := Lib.hid ((HS.out.here HB.out).take (k + 1))
      have hlk : (L.take (k + 1)).length = k + 1 := by rw [List.length_take]; have := HN.out; omega
      have hfl := Nat.le_trans (take_flat L (k + 1)) HXX.out
      have HJ := Lib.hid (joinE_any b off c (k + 1) (L.take (k + 1)) wr HS1.out hlk.symm (by omega) (by omega) (by omega))
      have E1 := Lib.hid (E0.out.here HB.out)
      have hgt : (0 : Int) < ((k + 1 : Nat) : Int) := by omega
      have HFL := Lib.hid hfl
      clear hlk hfl h0
      go_wp2_with fail
      refine HJ.out.mono ?_
      rintro e w2 ⟨rfl, hb2⟩
      have E2 := E1.out.here hb2
      have HB2 := Lib.hid (HB.out.trans (hb2.mono HB.out.size))
      clear hb2
      go_wp2_with fail
      refine (parse_from _ w2 (by have := HFL.out; omega) E2).mono ?_
      rintro e w3 ⟨⟨v, rfl, hcf, -⟩, hb3⟩
      have HB3 := Lib.hid (HB2.out.trans (hb3.mono HB2.out.size))
      obtain ⟨P, hP⟩ : ∃ P, parseC (L.take (k + 1)).flatten = P := ⟨_, rfl⟩
      rw [hP] at hcf ⊢
      obtain ⟨q, m, ec⟩ := P
      obtain ⟨⟨own, ports, rfl, ho, hp⟩⟩ := hcf
      obtain ⟨A1, k1, rfl, -⟩ := ho
      obtain ⟨A2, k2, rfl, -⟩ := hp
      have HP := Lib.hid hP
      clear hP hb3 E2
      unfold cfgV
      by_cases h3 : ec = 3
      · subst h3
        have HF2 : Hid (firstLn L L.length = firstLn L k) := Lib.hid (by rw [HF.out]; exact firstLn_miss (by rw [HP.out]))
        go_wp2
        go_roundw
        case rel => exact ⟨k, by omega, by go_num, HF2, Lib.hid (HB3.out.alloc HB3.out.size _)⟩
        case measure => simp [intOf]
      · have h3' : (ec == 3) = false := by simpa using h3
        have h3'' : (ec != 3) = true := by simpa using h3
        have RES0 : Hid (FirstRes L (.returned (.tuple #[cfgV q (.slice A1 q.own.length k1) (.slice A2 q.ports.length k2), .int .i64 (m : Int), .int .i64 4]))) := Lib.hid ⟨q, A1, k1, A2, k2, by rw [HF.out, firstLn_hit (by rw [HP.out]; exact h3), HP.out]⟩
        clear h3
        obtain ⟨W4, hW4⟩ : ∃ X, w3.alloc (.cells #[.int .i64 q.node, .int .u32 q.addr, .slice A1 q.own.length k1, .slice A2 q.ports.length k2, .int .i64 q.hello, .int .i64 q.dead, .int .i64 q.again, .int .i64 q.room, .int .i64 q.queue, .int .i64 q.tokens, .int .i64 q.refill] 28) = X := ⟨_, rfl⟩
        have HB4 : Hid (Below W0.heap.size W0 W4) := Lib.hid (by rw [← hW4]; exact HB3.out.alloc HB3.out.size _)
        have hy : Whole W4 w3.heap.size 28 #[.int .i64 q.node, .int .u32 q.addr, .slice A1 q.own.length k1, .slice A2 q.ports.length k2, .int .i64 q.hello, .int .i64 q.dead, .int .i64 q.again, .int .i64 q.room, .int .i64 q.queue, .int .i64 q.tokens, .int .i64 q.refill] := by rw [← hW4]; exact Whole.new w3 _ _
        have y0 : W4.cell? ⟨w3.heap.size, 0, none⟩ = some (.int .i64 q.node) := hy.cell 0
        have y1 : W4.cell? ⟨w3.heap.size, 1, none⟩ = some (.int .u32 q.addr) := hy.cell 1
        have y2 : W4.cell? ⟨w3.heap.size, 2, none⟩ = some (.slice A1 q.own.length k1) := hy.cell 2
        have y3 : W4.cell? ⟨w3.heap.size, 3, none⟩ = some (.slice A2 q.ports.length k2) := hy.cell 3
        have y4 : W4.cell? ⟨w3.heap.size, 4, none⟩ = some (.int .i64 q.hello) := hy.cell 4
        have y5 : W4.cell? ⟨w3.heap.size, 5, none⟩ = some (.int .i64 q.dead) := hy.cell 5
        have y6 : W4.cell? ⟨w3.heap.size, 6, none⟩ = some (.int .i64 q.again) := hy.cell 6
        have y7 : W4.cell? ⟨w3.heap.size, 7, none⟩ = some (.int .i64 q.room) := hy.cell 7
        have y8 : W4.cell? ⟨w3.heap.size, 8, none⟩ = some (.int .i64 q.queue) := hy.cell 8
        have y9 : W4.cell? ⟨w3.heap.size, 9, none⟩ = some (.int .i64 q.tokens) := hy.cell 9
        have y10 : W4.cell? ⟨w3.heap.size, 10, none⟩ = some (.int .i64 q.refill) := hy.cell 10
        have HX4 := Lib.hid (HX0.out.here HB4.out)
        have HB5 := Lib.hid (HB0.out.trans (HB4.out.mono HB0.out.size))
        have b0 : W4.cell? ⟨w.heap.size, 0, none⟩ = some (.int .i64 0) := HX4.out.cell 0
        have f0 := HX4.out.frozen 0
        have b1 : W4.cell? ⟨w.heap.size, 1, none⟩ = some (.int .u32 0) := HX4.out.cell 1
        have f1 := HX4.out.frozen 1
        have b2 : W4.cell? ⟨w.heap.size, 2, none⟩ = some (.slice none 0 0) := HX4.out.cell 2
        have f2 := HX4.out.frozen 2
        have b3 : W4.cell? ⟨w.heap.size, 3, none⟩ = some (.slice none 0 0) := HX4.out.cell 3
        have f3 := HX4.out.frozen 3
        have b4 : W4.cell? ⟨w.heap.size, 4, none⟩ = some (.int .i64 0) := HX4.out.cell 4
        have f4 := HX4.out.frozen 4
        have b5 : W4.cell? ⟨w.heap.size, 5, none⟩ = some (.int .i64 0) := HX4.out.cell 5
        have f5 := HX4.out.frozen 5
        have b6 : W4.cell? ⟨w.heap.size, 6, none⟩ = some (.int .i64 0) := HX4.out.cell 6
        have f6 := HX4.out.frozen 6
        have b7 : W4.cell? ⟨w.heap.size, 7, none⟩ = some (.int .i64 0) := HX4.out.cell 7
        have f7 := HX4.out.frozen 7
        have b8 : W4.cell? ⟨w.heap.size, 8, none⟩ = some (.int .i64 0) := HX4.out.cell 8
        have f8 := HX4.out.frozen 8
        have b9 : W4.cell? ⟨w.heap.size, 9, none⟩ = some (.int .i64 0) := HX4.out.cell 9
        have f9 := HX4.out.frozen 9
        have b10 : W4.cell? ⟨w.heap.size, 10, none⟩ = some (.int .i64 0) := HX4.out.cell 10
        have f10 := HX4.out.frozen 10
        have HW4 := Lib.hid hW4
        clear hy hW4
        go_upto_region 5 with fail
        rw [HW4.out]
        have RES := RES0.out
        go_wp2
        try rw [Exit.noGoto_ret]
        have hq := box_end (.int .i64 q.node) (.int .u32 q.addr) (.slice A1 q.own.length k1) (.slice A2 q.ports.length k2) (.int .i64 q.hello) (.int .i64 q.dead) (.int .i64 q.again) (.int .i64 q.room) (.int .i64 q.queue) (.int .i64 q.tokens) (.int .i64 q.refill) HX4.out
        have hbq := box_below (.int .i64 q.node) (.int .u32 q.addr) (.slice A1 q.own.length k1) (.slice A2 q.ports.length k2) (.int .i64 q.hello) (.int .i64 q.dead) (.int .i64 q.again) (.int .i64 q.room) (.int .i64 q.queue) (.int .i64 q.tokens) (.int .i64 q.refill) HB5.out (Nat.le_refl _)
        have q0 := hq.cell 0
        have q1 := hq.cell 1
        have q2 := hq.cell 2
        have q3 := hq.cell 3
        have q4 := hq.cell 4
        have q5 := hq.cell 5
        have q6 := hq.cell 6
        have q7 := hq.cell 7
        have q8 := hq.cell 8
        have q9 := hq.cell 9
        have q10 := hq.cell 10
        simp at q0 q1 q2 q3 q4 q5 q6 q7 q8 q9 q10
        exact bodyPost_ret (v := .tuple #[cfgV q (.slice A1 q.own.length k1) (.slice A2 q.ports.length k2), .int .i64 (m : Int), .int .i64 4]) (by simp [results, Tryz.results149, go_sem, cfgV, cfg0, q0, q1, q2, q3, q4, q5, q6, q7, q8, q9, q10]) rfl ⟨RES, hbq⟩
end Go.Proofs.YtfbangojgjcbcaaGreatDoor
namespace Go.Proofs.YtfbangojgjcbcaaGreatDoor.Pl
/-- Ahead of the byte i, acc read. -/
def UnInv (l : List UInt8) (i : Nat) (acc : List UInt8) : Prop := unhex l = (unhex (l.drop i)).map fun r => acc ++ r
theorem UnInv.start (l : List UInt8) : UnInv l 0 [] := by simp [UnInv]
theorem UnInv.done {l : List UInt8} {acc : List UInt8} (h : UnInv l l.length acc) : unhex l = some acc := by
  unfold UnInv at h; rw [h, List.drop_length]; simp [unhex]
theorem UnInv.good {l : List UInt8} {i : Nat} {acc : List UInt8} (h : UnInv l i acc) (hi : i + 1 < l.length) {a b : UInt8} (ha : l[i] = a) (hb : l[i + 1] = b) {p q : Nat} (hp : dig a = some p) (hq : dig b = some q) :
    UnInv l (i + 2) (acc ++ [UInt8.ofNat (16 * p + q)]) := by
  unfold UnInv at h ⊢
  rw [h, unhex_step l i hi, ha, hb, hp, hq]
  cases unhex (l.drop (i + 2)) <;> simp
theorem UnInv.bad {l : List UInt8} {i : Nat} {acc : List UInt8} (h : UnInv l i acc) (hi : i + 1 < l.length) {a b : UInt8} (ha : l[i] = a) (hb : l[i + 1] = b) (hn : dig a = none ∨ dig b = none) : unhex l = none := by
  unfold UnInv at h
  rw [h, unhex_step l i hi, ha, hb]
  rcases hn with hn | hn
  · rw [hn]; rfl
  · rw [hn]; cases dig a <;> rfl
end Go.Proofs.YtfbangojgjcbcaaGreatDoor.Pl
namespace Go.Proofs.YtfbangojgjcbcaaGreatDoor
open Go.RowKit Pl
theorem index_some (b : UInt8) (p : Nat) (w : World) (h : dig b = some p) :
    Calls Tryz.prog 177 #[.string ⟨#[48, 49, 50, 51, 52, 53, 54, 55, 56, 57, 97, 98, 99, 100, 101, 102]⟩, .int .u8 (b.toNat : Int)] w fun e w' => e = .returned (.int .i64 (p : Int)) ∧ w = w' := by
  have key := Tryz.strings_IndexByte ⟨#[48, 49, 50, 51, 52, 53, 54, 55, 56, 57, 97, 98, 99, 100, 101, 102]⟩ (b.toNat : Int) w
  have e := indexByte_dig b
  rw [h] at e
  refine key.mono fun e' w' ⟨h1, h2⟩ => ⟨?_, h2.symm⟩
  rw [h1, show ((b.toNat : Int).toNat.toUInt8) = b from by simp]
  exact congrArg (fun z => Ending.returned (.int .i64 z)) e
theorem index_none (b : UInt8) (w : World) (h : dig b = none) :
    Calls Tryz.prog 177 #[.string ⟨#[48, 49, 50, 51, 52, 53, 54, 55, 56, 57, 97, 98, 99, 100, 101, 102]⟩, .int .u8 (b.toNat : Int)] w fun e w' => e = .returned (.int .i64 (-1)) ∧ w = w' := by
  have key := Tryz.strings_IndexByte ⟨#[48, 49, 50, 51, 52, 53, 54, 55, 56, 57, 97, 98, 99, 100, 101, 102]⟩ (b.toNat : Int) w
  have e := indexByte_dig b
  rw [h] at e
  refine key.mono fun e' w' ⟨h1, h2⟩ => ⟨?_, h2.symm⟩
  rw [h1, show ((b.toNat : Int).toNat.toUInt8) = b from by simp]
  exact congrArg (fun z => Ending.returned (.int .i64 z)) e
/-- What IndexByte of the digits gives. -/
def digI (b : UInt8) : Int := match dig b with | some p => p | none => -1
theorem index_any (b : UInt8) (w : World) :
    Calls Tryz.prog 177 #[.string ⟨#[48, 49, 50, 51, 52, 53, 54, 55, 56, 57, 97, 98, 99, 100, 101, 102]⟩, .int .u8 (b.toNat : Int)] w fun e w' => e = .returned (.int .i64 (digI b)) ∧ w = w' := by
  unfold digI
  cases h : dig b with
  | some p => exact index_some b p w h
  | none => exact index_none b w h
def UnRes (l : List UInt8) (base : Nat) (e : Ending) (w' : World) : Prop :=
  (∃ m v, unhex l = some m ∧ e = .returned (.tuple #[v, .int .i64 0]) ∧ w'.ownsRow base 5 1 v m.length (cellsB m)) ∨
  (unhex l = none ∧ e = .returned (.tuple #[.slice none 0 0, .int .i64 4]))
theorem index_at (a : UInt8) (d : Int) (w : World) (h : digI a = d) :
    Calls Tryz.prog 177 #[.string ⟨#[48, 49, 50, 51, 52, 53, 54, 55, 56, 57, 97, 98, 99, 100, 101, 102]⟩, .int .u8 (a.toNat : Int)] w fun e w' => e = .returned (.int .i64 d) ∧ w = w' := h ▸ index_any a w
theorem digI_some {a : UInt8} {p : Nat} (h : dig a = some p) : digI a = p := by unfold digI; rw [h]
theorem digI_none {a : UInt8} (h : dig a = none) : digI a = -1 := by unfold digI; rw [h]
theorem or16 (p q : Nat) (hp : p < 16) (hq : q < 16) : bits .or .i64 ((p : Int) * 16) (q : Int) % 256 = ((UInt8.ofNat (16 * p + q)).toNat : Int) := by
  have k : ∀ p q : Fin 16, bits .or .i64 ((p.1 : Int) * 16) (q.1 : Int) % 256 = ((UInt8.ofNat (16 * p.1 + q.1)).toNat : Int) := by decide +kernel
  exact k ⟨p, hp⟩ ⟨q, hq⟩
theorem unhex_rel {w wr w1 : World} {acc : List UInt8} {v v' : Value} {x : UInt8} (hb : Below w.heap.size w wr) (hown : wr.ownsRow w.heap.size 5 1 v acc.length (cellsB acc))
    (hown' : w1.ownsRow w.heap.size 5 1 v' (acc.length + 1) (cellsB acc ++ [.int .u8 (x.toNat : Int)])) (hg : wr.grownBy w1 v.ownBlock) :
    w1.ownsRow w.heap.size 5 1 v' (acc ++ [x]).length (cellsB (acc ++ [x])) ∧ Below w.heap.size w w1 := by
  refine ⟨?_, hb.grown hg hb.size fun g hg => (hown.lt g hg).1⟩
  rw [cellsB_append, List.length_append]; exact hown'
set_option maxRecDepth 100000 in
set_option maxHeartbeats 1000000 in
theorem unhex_any (l : List UInt8) (w : World) (hl : l.length ≤ 1000000) :
    Calls Tryz.prog 145 #[.string (str l)] w fun e w' => UnRes l w.heap.size e w' ∧ Below w.heap.size w w' := by
  have hsz : (str l).size = l.length := str_size l
  by_cases hev : l.length % 2 = 0
  · have dev : (((l.length : Int) % 2) == 0) = true := by simp; omega
    go_enter Tryz.func145, Tryz.ntmps145
    go_wp2
    go_step3
    go_wp2
    go_step3
    go_wp2
    go_loopw [4, 5, 6] (fun v g i wr => ∃ (j : Nat) (acc : List UInt8), 2 * j ≤ l.length ∧ acc.length = j ∧ Hid (UnInv l (2 * j) acc) ∧ g = .bool true ∧ i = .int .i64 ((2 * j : Nat) : Int) ∧ wr.ownsRow w.heap.size 5 1 v acc.length (cellsB acc) ∧ Below w.heap.size w wr) (fun _ _ i _ => l.length - (intOf i).toNat)
    case atStart => exact ⟨0, [], by omega, rfl, Lib.hid (UnInv.start l), by first | rfl | (simp; done) | (simp; omega), rfl, World.ownsRow_nil _ _ _ _, Below.refl _ _⟩
    case round =>
      obtain ⟨j, acc, hj, hacc, HI, rfl, rfl, hown, hb⟩ := hrel
      have hbs := hb.size
      obtain ⟨i, hi⟩ : ∃ i, i = 2 * j := ⟨_, rfl⟩
      rw [← hi] at hj HI ⊢
      by_cases hlt : i < l.length
      · have hlt1 : i + 1 < l.length := by omega
        obtain ⟨a, ha⟩ : ∃ a, l[i]'hlt = a := ⟨_, rfl⟩
        obtain ⟨b, hb1⟩ : ∃ b, l[i + 1]'hlt1 = b := ⟨_, rfl⟩
        have HG := Lib.hid (fun p q => UnInv.good HI.out hlt1 ha hb1 (p := p) (q := q))
        have HN := Lib.hid (UnInv.bad HI.out hlt1 ha hb1)
        have s0 := str_lt hlt
        have s1 := str_lt hlt1
        have ea : (str l)[i]'s0 = a := ha
        have eb : (str l)[i + 1]'s1 = b := hb1
        have d0 : (i : Int) < (l.length : Int) := by omega
        have d1 : (i : Int) + 1 < (l.length : Int) := by omega
        have hjl : acc.length ≤ 1000000 := by omega
        have HJ := Lib.hid hi
        clear ha hb1 HI hi
        cases hda : dig a with
        | none =>
          have HD := Lib.hid (digI_none hda)
          have HZ := Lib.hid (HN.out (.inl hda))
          obtain ⟨db, hdb⟩ : ∃ d, digI b = d := ⟨_, rfl⟩
          have HD2 := Lib.hid hdb
          clear hda HG HN hdb
          go_wp2_with fail
          refine wp_region_ext (by kernel_rfl) (by kernel_rfl) ?_
          repeat (go_big_quiet_step (first | (go_at_call 177; exact Ext.callq (index_at a _ _ HD.out)) | (go_at_call 177; exact Ext.callq (index_at b _ _ HD2.out))))
          refine wpQuiet_nil ?_
          rintro _ ⟨y, rfl⟩
          go_wp2
          try rw [Exit.noGoto_ret]
          go_ret2
          exact ⟨.inr ⟨HZ.out, rfl⟩, Ext.lift y hb⟩
        | some p =>
          cases hdb : dig b with
          | none =>
            have HD := Lib.hid (digI_some hda)
            have HD2 := Lib.hid (digI_none hdb)
            have HZ := Lib.hid (HN.out (.inr hdb))
            clear hda HG HN hdb
            go_wp2_with fail
            refine wp_region_ext (by kernel_rfl) (by kernel_rfl) ?_
            repeat (go_big_quiet_step (first | (go_at_call 177; exact Ext.callq (index_at a _ _ HD.out)) | (go_at_call 177; exact Ext.callq (index_at b _ _ HD2.out))))
            refine wpQuiet_nil ?_
            rintro _ ⟨y, rfl⟩
            go_wp2
            try rw [Exit.noGoto_ret]
            go_ret2
            exact ⟨.inr ⟨HZ.out, rfl⟩, Ext.lift y hb⟩
          | some q =>
            have HD := Lib.hid (digI_some hda)
            have HD2 := Lib.hid (digI_some hdb)
            have HI2 := Lib.hid (HG.out p q hda hdb)
            have hp := dig_lt hda
            have hq := dig_lt hdb
            clear hda HG HN hdb
            go_wp2_with fail
            refine wp_region_ext (by kernel_rfl) (by kernel_rfl) ?_
            repeat (go_big_quiet_step (first | (go_at_call 177; exact Ext.callq (index_at a _ _ HD.out)) | (go_at_call 177; exact Ext.callq (index_at b _ _ HD2.out))))
            refine wpQuiet_nil ?_
            rintro _ ⟨y, rfl⟩
            have hown1 := own_below hown y.below
            have hb1 := Ext.lift y hb
            have hbs1 := hb1.size
            clear hown hb
            have hor := or16 p q hp hq
            go_wp2_with (at_builtin; refine wpList_push rfl _ _ 37 rfl w.heap.size 5 info_u8 rfl (by decide) Tryz.underlying37 _ _ _ rfl hown1 rfl rfl (by omega) hbs1 ?_)
            intro v' w1 hown' hg
            rw [← hacc, show ((16 * (p : Int) + (q : Int)) % 256) = ((UInt8.ofNat (16 * p + q)).toNat : Int) from by simp] at hown'
            have R := unhex_rel hb1 hown1 hown' hg
            have HR := Lib.hid R.1
            have HR2 := Lib.hid R.2
            clear hown1 hown' hg hb1 R
            go_wp2
            go_roundw
            case rel => exact ⟨j + 1, _, by have := HJ.out; omega, by simp [hacc], Lib.hid (by have := HI2.out; rw [HJ.out] at this; exact this), rfl, by have := HJ.out; go_num, HR.out, HR2.out⟩
            case measure => simp [intOf]; omega
      · have hi' : i = l.length := by omega
        have HZ : Hid (unhex l = some acc) := Lib.hid (by have := HI.out; rw [hi'] at this; exact this.done)
        have d0 : decide ((i : Int) < (l.length : Int)) = false := by simp; omega
        clear HI hi
        go_wp2
        try rw [Exit.noGoto_ret]
        go_ret2
        exact ⟨.inl ⟨acc, _, HZ.out, rfl, hown⟩, hb⟩
  · have dev : (((l.length : Int) % 2) == 0) = false := by simp; omega
    have HZ := Lib.hid (unhex_odd l (by omega))
    go_enter Tryz.func145, Tryz.ntmps145
    go_wp2
    go_step3
    go_wp2
    go_step3
    go_wp2
    go_loopw [4, 5, 6] (fun v g i wr => g = .bool false ∧ wr = w) (fun _ _ i _ => l.length - (intOf i).toNat)
    case atStart => exact ⟨by first | rfl | simp [dev], rfl⟩
    case round =>
      obtain ⟨rfl, rfl⟩ := hrel
      go_wp2
      try rw [Exit.noGoto_ret]
      go_ret2
      exact ⟨.inr ⟨HZ.out, rfl⟩, Below.refl _ _⟩
end Go.Proofs.YtfbangojgjcbcaaGreatDoor
namespace Go.Proofs.YtfbangojgjcbcaaGreatDoor
open Go.RowKit Pl
theorem cActText_yes (a : ActP) (bv : Value) (w : World) (h : Bs w bv a.bytes) (hi : InA a) (hm : mayA a = true) (hl : a.bytes.length ≤ 100000) (E : Env w) :
    Calls Tryz.prog 30 #[actV a bv] w fun e w' => e = .returned (.tuple #[.string (str (actText a)), .int .i64 0]) ∧ Below w.heap.size w w' := by
  have hk : K9 a := by unfold mayA at hm; simp only [Bool.and_eq_true, decide_eq_true_eq] at hm; exact ⟨hm.1.1.1, hm.1.1.2⟩
  have HM := Lib.hid (fun W (hb : Below w.heap.size w W) => cmayAct_any a bv W (h.below hb) (by omega))
  rw [hm] at HM
  have HT := Lib.hid (fun W (hb : Below w.heap.size w W) => cactText_any a bv W hk (h.below hb) hi hl (E.here hb))
  obtain ⟨A, c, rfl, -⟩ := h
  obtain ⟨W0, hW0⟩ : ∃ W0, w.alloc (.cells #[.int .i64 a.kind, .int .i64 a.node, .int .i64 a.port, .int .i64 a.cost, .int .i64 a.n, .bool a.up, .int .u8 (a.by_.toNat : Int), .bool a.unread, .slice A a.bytes.length c] 51) = W0 := ⟨_, rfl⟩
  have HB0 : Hid (Below w.heap.size w W0) := Lib.hid (by rw [← hW0]; exact (Below.refl _ _).alloc (Nat.le_refl _) _)
  have HX : Whole W0 w.heap.size 51 #[.int .i64 a.kind, .int .i64 a.node, .int .i64 a.port, .int .i64 a.cost, .int .i64 a.n, .bool a.up, .int .u8 (a.by_.toNat : Int), .bool a.unread, .slice A a.bytes.length c] := by rw [← hW0]; exact Whole.new w _ _
  have hlt1 := HX.lt
  have y0 : W0.cell? ⟨w.heap.size, 0, none⟩ = some (.int .i64 a.kind) := HX.cell 0
  have y1 : W0.cell? ⟨w.heap.size, 1, none⟩ = some (.int .i64 a.node) := HX.cell 1
  have y2 : W0.cell? ⟨w.heap.size, 2, none⟩ = some (.int .i64 a.port) := HX.cell 2
  have y3 : W0.cell? ⟨w.heap.size, 3, none⟩ = some (.int .i64 a.cost) := HX.cell 3
  have y4 : W0.cell? ⟨w.heap.size, 4, none⟩ = some (.int .i64 a.n) := HX.cell 4
  have y5 : W0.cell? ⟨w.heap.size, 5, none⟩ = some (.bool a.up) := HX.cell 5
  have y6 : W0.cell? ⟨w.heap.size, 6, none⟩ = some (.int .u8 (a.by_.toNat : Int)) := HX.cell 6
  have y7 : W0.cell? ⟨w.heap.size, 7, none⟩ = some (.bool a.unread) := HX.cell 7
  have y8 : W0.cell? ⟨w.heap.size, 8, none⟩ = some (.slice A a.bytes.length c) := HX.cell 8
  have HW0 := Lib.hid hW0
  clear hW0 HX hk hm hi E
  go_enter Tryz.func30, Tryz.ntmps30
  go_upto_region 1 with fail
  rw [HW0.out]
  go_wp2_with fail
  refine (ext_of (HM.out W0 HB0.out)).mono ?_
  rintro e w' ⟨rfl, x, rfl⟩
  go_wp2_with fail
  refine (Ext.call (HT.out x.w (HB0.out.trans (x.below.mono HB0.out.size)))).mono ?_
  rintro e w' ⟨rfl, y, rfl⟩
  go_wp2
  go_ret2
  exact ⟨rfl, HB0.out.trans (y.below.mono HB0.out.size)⟩
theorem cActText_no (a : ActP) (bv : Value) (w : World) (h : Bs w bv a.bytes) (hm : mayA a = false) (hl : a.bytes.length ≤ 1000000000) :
    Calls Tryz.prog 30 #[actV a bv] w fun e w' => e = .returned (.tuple #[.string (str []), .int .i64 2]) ∧ Below w.heap.size w w' := by
  have HM := Lib.hid (fun W (hb : Below w.heap.size w W) => cmayAct_any a bv W (h.below hb) hl)
  rw [hm] at HM
  obtain ⟨A, c, rfl, -⟩ := h
  clear hm
  go_enter Tryz.func30, Tryz.ntmps30
  go_wp2_with fail
  refine (HM.out _ ((Below.refl _ _).alloc (Nat.le_refl _) _)).mono ?_
  rintro e w' ⟨rfl, hb⟩
  have HB := Lib.hid hb
  clear hb
  go_wp2
  go_ret2
  exact ⟨rfl, ((Below.refl _ _).alloc (Nat.le_refl _) _).trans (HB.out.mono (by simp))⟩
/-- A slice of words. -/
structure Wds (w : World) (g n c : Nat) (ws : List (List UInt8)) : Prop where
  len : n = ws.length
  cap : ws.length ≤ c
  lt : g < w.heap.size
  at_ : ∀ j x, ws[j]? = some x → w.cell? ⟨g, j, none⟩ = some (.string (str x))
theorem Wds.here {w w' : World} {g n c : Nat} {ws : List (List UInt8)} (h : Wds w g n c ws) (hb : Below w.heap.size w w') : Wds w' g n c ws :=
  ⟨h.len, h.cap, Nat.lt_of_lt_of_le h.lt hb.size, fun j x hx => (hb.cell h.lt).trans (h.at_ j x hx)⟩
theorem guess1_any (i : Nat) (R g n c : Nat) (ws : List (List UInt8)) (w : World) (h : Wds w g n c ws) (hR : w.cell? ⟨R, 0, none⟩ = some (.slice (some ⟨g, 0, none⟩) n c)) (hi : i < ws.length) (hlen : ∀ x ∈ ws, x.length ≤ 1000000) (_hn : n ≤ 1000000000) (E : Env w) :
    Calls Tryz.prog 144 #[.int .i64 i, .pointer (some ⟨R, 0, none⟩)] w fun e w' => e = .returned (.int .i64 (numC (wd ws i))) ∧ Below w.heap.size w w' := by
  obtain ⟨x, hx⟩ : ∃ x, ws[i]? = some x := ⟨_, List.getElem?_eq_getElem hi⟩
  have hc := h.at_ i x hx
  have hwd : wd ws i = x := by unfold wd; rw [List.getD_eq_getElem?_getD, hx]; rfl
  rw [hwd]
  have HC := Lib.hid (cnum_any x w (hlen x (List.mem_of_getElem? hx)) E)
  have hin : i < n := by have := h.len; omega
  have hcap : n ≤ c := by have := h.cap; have := h.len; omega
  clear hx hwd hi h E
  go_enter Tryz.func144, Tryz.ntmps144
  go_wp2_with fail
  refine HC.out.mono ?_
  rintro e w' ⟨rfl, hb⟩
  have HB := Lib.hid hb
  clear hb
  go_wp2
  go_ret
  exact ⟨rfl, HB.out⟩
end Go.Proofs.YtfbangojgjcbcaaGreatDoor
