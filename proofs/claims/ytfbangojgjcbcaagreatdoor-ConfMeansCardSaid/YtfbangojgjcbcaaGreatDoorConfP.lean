/- Contracts: conf.Owns; num; the chapter's rows (known). -/
/- Contract of ref19.Same where the two are the same. -/
/- Contract of law19.wrong. -/
import Derived.Test.YtfbangojgjcbcaaGreatDoorConfM
namespace Go.Proofs.YtfbangojgjcbcaaGreatDoor
open Go.RowKit Pl

theorem num19_any (n : Int) (w : World) : Calls Tryz.prog 17 #[.int .i64 n] w fun e w' => e = .returned (.int .i64 n) ∧ w = w' := by
  go_enter Tryz.func17, Tryz.ntmps17
  go_wp2
  go_ret
  exact ⟨rfl, rfl⟩

set_option maxRecDepth 100000 in
set_option maxHeartbeats 1000000 in
theorem owns_any (v : Value) (c : Cfg) (x : Int) (w : World) (h : CfgIs w v c) (hA : Addrs4 c) (hx : IsAddr x) (hl : c.own.length ≤ 1000000) (hp : c.ports.length ≤ 1000000) :
    Calls Tryz.prog 24 #[v, .int .u32 x] w fun e w' => e = .returned (.bool (mayC c && hasAny c.own x)) ∧ Below w.heap.size w w' := by
  have HC := Lib.hid h
  obtain ⟨own, ports, rfl, hO, hP⟩ := h.is
  have HO := Lib.hid hO
  obtain ⟨A1, k1, rfl, _⟩ := hO
  obtain ⟨A2, k2, rfl, _⟩ := hP
  clear h
  obtain ⟨W1, hW1⟩ : ∃ W1, (w.alloc (.cells #[.int .i64 c.node, .int .u32 c.addr, .slice A1 c.own.length k1, .slice A2 c.ports.length k2, .int .i64 c.hello, .int .i64 c.dead, .int .i64 c.again, .int .i64 c.room, .int .i64 c.queue, .int .i64 c.tokens, .int .i64 c.refill] 28)).alloc (.cells #[.int .u32 x] 24) = W1 := ⟨_, rfl⟩
  have hb1 : Below w.heap.size w W1 := by rw [← hW1]; exact ((Below.refl _ _).alloc (Nat.le_refl _) _).alloc (by simp) _
  have hx1 : Whole W1 (w.heap.size + 1) 24 #[.int .u32 x] := by
    rw [← hW1]
    have := Whole.new (w.alloc (.cells #[.int .i64 c.node, .int .u32 c.addr, .slice A1 c.own.length k1, .slice A2 c.ports.length k2, .int .i64 c.hello, .int .i64 c.dead, .int .i64 c.again, .int .i64 c.room, .int .i64 c.queue, .int .i64 c.tokens, .int .i64 c.refill] 28)) 24 #[.int .u32 x]
    simpa using this
  have HW := Lib.hid hW1
  have HMAY := Lib.hid (may_any' _ c W1 (HC.out.below hb1) hA hl hp)
  have hs1 : W1.heap.size = w.heap.size + 2 := by rw [← hW1]; simp
  have HCO : Hid (∀ W, Below W1.heap.size W1 W → Calls Tryz.prog 70 #[.slice A1 c.own.length k1, .func (.func 71) #[] #[.pointer (some ⟨w.heap.size + 1, 0, none⟩)]] W fun e w' => e = .returned (.bool (hasAny c.own x)) ∧ Below W.heap.size W w') := Lib.hid (fun W hb => by
    have hbb := hb1.trans (hb.mono hb1.size)
    refine containsP_any _ (fun p => hasP p.1 p.2 x) _ c.own W (HO.out.below hbb) hl ⟨_, _, rfl, enters_of Tryz.func71 (by kernel_rfl) rfl, fun u hu W' hb' => ?_⟩
    have hx2 := (hx1.here hb).here hb'
    exact owns1_any u.1 u.2 x (w.heap.size + 1) W' (hA.2 u hu) hx (hx2.cell 0) hx2.lt)
  have hlt : w.heap.size < W1.heap.size := by omega
  have HB1 := Lib.hid hb1
  clear hW1 hb1 hx1 hs1
  unfold cfgV
  cases hm : mayC c with
  | false =>
    have HM := Lib.hid hm
    rw [hm] at HMAY
    go_enter Tryz.func24, Tryz.ntmps24
    go_wp2_with fail
    rw [HW.out]
    refine HMAY.out.mono ?_
    rintro e w2 ⟨rfl, hb2⟩
    have HB2 := Lib.hid hb2
    clear hb2
    go_wp2
    go_ret
    exact ⟨by rfl, HB1.out.trans (HB2.out.mono HB1.out.size)⟩
  | true =>
    have HM := Lib.hid hm
    rw [hm] at HMAY
    go_enter Tryz.func24, Tryz.ntmps24
    go_wp2_with fail
    rw [HW.out]
    refine HMAY.out.mono ?_
    rintro e w2 ⟨rfl, hb2⟩
    have HB2 := Lib.hid hb2
    have c2 : w2.cell? ⟨w.heap.size, 2, none⟩ = some (.slice A1 c.own.length k1) := (hb2.cell (p := ⟨w.heap.size, 2, none⟩) hlt).trans (by rw [← HW.out]; simp)
    clear hb2
    go_wp2_with fail
    refine (HCO.out _ HB2.out).mono ?_
    rintro e w3 ⟨rfl, hb3⟩
    have HB3 := Lib.hid hb3
    clear hb3
    go_wp2
    go_ret
    exact ⟨by rfl, (HB1.out.trans (HB2.out.mono HB1.out.size)).trans (HB3.out.mono (Nat.le_trans HB1.out.size HB2.out.size))⟩

/-- Parse, the configuration's shape laid open. -/
def ParseAt (n e : Int) (c : Cfg) (en : Ending) (w' : World) : Prop :=
  ∃ A1 k1 A2 k2, en = .returned (.tuple #[cfgV c (.slice A1 c.own.length k1) (.slice A2 c.ports.length k2), .int .i64 n, .int .i64 e]) ∧ Rs .u32 w' (.slice A1 c.own.length k1) c.own ∧ Rs .i64 w' (.slice A2 c.ports.length k2) c.ports
theorem parse_at (text : List UInt8) (c : Cfg) (n : Nat) (e : Int) (w : World) (hl : text.length ≤ 1000000000) (E : Env w) (h : parseC text = (c, n, e)) :
    Calls Tryz.prog 14 #[.string (str text)] w fun en w' => ParseAt n e c en w' ∧ Below w.heap.size w w' := by
  refine (parse_any text w hl E).mono fun en w' ⟨⟨v, he, hc⟩, hb⟩ => ⟨?_, hb⟩
  rw [h] at he hc
  obtain ⟨own, ports, rfl, hO, hP⟩ := hc.is
  have hO' := hO
  have hP' := hP
  obtain ⟨A1, k1, rfl, _⟩ := hO
  obtain ⟨A2, k2, rfl, _⟩ := hP
  exact ⟨A1, k1, A2, k2, he, hO', hP'⟩
theorem parse_ne (text : List UInt8) (n : Nat) (e : Int) (w : World) (hl : text.length ≤ 1000000000) (E : Env w) (h : (parseC text).2 = (n, e)) :
    Calls Tryz.prog 14 #[.string (str text)] w fun en w' => (∃ c, ParseAt n e c en w') ∧ Below w.heap.size w w' :=
  (parse_at text (parseC text).1 n e w hl E (by rw [← h])).mono fun _ _ ⟨he, hb⟩ => ⟨⟨_, he⟩, hb⟩
theorem kp1 (w : World) (E : Env w) : Calls Tryz.prog 14 #[.string ⟨#[110, 111, 100, 101, 32, 48, 10]⟩] w fun en w' => (∃ c, ParseAt 0 4 c en w') ∧ Below w.heap.size w w' := parse_ne [110, 111, 100, 101, 32, 48, 10] 0 4 w (by decide) E (by decide +kernel)
theorem kp2 (w : World) (E : Env w) : Calls Tryz.prog 14 #[.string ⟨#[]⟩] w fun en w' => (∃ c, ParseAt 0 4 c en w') ∧ Below w.heap.size w w' := parse_ne [] 0 4 w (by decide) E (by decide +kernel)
theorem kp3 (w : World) (E : Env w) : Calls Tryz.prog 14 #[.string ⟨#[110, 111, 100, 101, 32, 51, 10, 97, 100, 100, 114, 101, 115, 115, 32, 49, 48, 46, 48, 46, 48, 46, 49, 10]⟩] w fun en w' => (∃ c, ParseAt 2 4 c en w') ∧ Below w.heap.size w w' := parse_ne [110, 111, 100, 101, 32, 51, 10, 97, 100, 100, 114, 101, 115, 115, 32, 49, 48, 46, 48, 46, 48, 46, 49, 10] 2 4 w (by decide) E (by decide +kernel)
/-- The chapter's configuration. -/
def cfgK : Cfg := { node := 1, addr := 167772160, own := [(167772160, 8)], hello := 1, dead := 2, again := 1, queue := 1, refill := 1 }
theorem kowns (w : World) (b : Nat) (h0 : w.cell? ⟨b, 0, none⟩ = some (.int .u32 167772160)) (h1 : w.cell? ⟨b, 1, none⟩ = some (.int .i64 8)) (hb : b < w.heap.size) :
    Calls Tryz.prog 24 #[.agg #[.int .i64 1, .int .u32 167772160, .slice (some ⟨b, 0, none⟩) 1 1, .slice none 0 0, .int .i64 1, .int .i64 2, .int .i64 1, .int .i64 0, .int .i64 1, .int .i64 0, .int .i64 1], .int .u32 167837953] w fun e w' => e = .returned (.bool true) ∧ Below w.heap.size w w' := by
  have := owns_any _ cfgK 167837953 w ⟨⟨.slice (some ⟨b, 0, none⟩) 1 1, .slice none 0 0, rfl, ⟨_, 1, rfl, Nat.le_refl _, (fun h => by cases h), fun _ => ⟨b, 0, rfl, hb, fun j u hu => by
    match j, hu with
    | 0, hu => simp [cfgK] at hu; subst hu; exact ⟨by simpa using h0, by simpa using h1⟩⟩⟩, Rs.nil _ _⟩⟩ ⟨⟨by decide, by decide⟩, by simp [cfgK]⟩ ⟨by decide, by decide⟩ (by decide) (by decide)
  rw [show (mayC cfgK && hasAny cfgK.own 167837953) = true by decide +kernel] at this
  exact this

set_option maxRecDepth 100000 in
set_option maxHeartbeats 4000000 in
theorem known19_any (w : World) (E : Env w) : Calls Tryz.prog 13 #[] w fun e w' => e = .returned (.bool true) ∧ Below w.heap.size w w' := by
  go_enter Tryz.func13, Tryz.ntmps13
  go_wp2_with fail
  refine (kp1 w E).mono ?_
  rintro e w1 ⟨⟨c1, A1, k1, A2, k2, he, _, _⟩, hb1⟩
  unfold cfgV at he
  subst he
  go_wp2_with fail
  refine (kp2 _ ((E.here hb1).alloc _)).mono ?_
  rintro e w2 ⟨⟨c2, B1, l1, B2, l2, he, _, _⟩, hb2⟩
  have E2 := ((E.here hb1).alloc _).here hb2
  have HB2 := Lib.hid (hb1.trans (((Below.refl _ w1).alloc (Nat.le_refl _) _).trans (hb2.mono (by simp)) |>.mono hb1.size))
  unfold cfgV at he
  subst he
  clear hb1 hb2
  go_wp2_with fail
  refine (kp3 _ (E2.alloc _)).mono ?_
  rintro e w3 ⟨⟨c3, D1, m1, D2, m2, he, _, _⟩, hb3⟩
  have E3 := (E2.alloc _).here hb3
  have HB3 := Lib.hid (HB2.out.trans (((Below.refl _ w2).alloc (Nat.le_refl _) _).trans (hb3.mono (by simp)) |>.mono HB2.out.size))
  unfold cfgV at he
  subst he
  clear hb3
  go_wp2_with (first
    | (go_at_call 17; refine (num19_any _ _).mono ?_; rintro e w' ⟨rfl, rfl⟩)
    | fail)
  have hwb : ∀ X Y, Whole (((w3.alloc X).alloc (.cells #[.int .u32 167772160, .int .i64 8] 86)).alloc Y) (w3.heap.size + 1) 86 #[.int .u32 167772160, .int .i64 8] := fun X Y => by
    have := (Whole.new (w3.alloc X) 86 #[.int .u32 167772160, .int .i64 8]).alloc Y
    simpa using this
  refine (kowns _ (w3.heap.size + 1) ((hwb _ _).cell 0) ((hwb _ _).cell 1) (hwb _ _).lt).mono ?_
  rintro e w4 ⟨rfl, hb4⟩
  have HB4 := Lib.hid hb4
  clear hb4 hwb
  go_wp2
  go_ret
  refine ⟨by rfl, HB3.out.trans (Below.mono (B := w3.heap.size) ?_ HB3.out.size)⟩
  exact ((((Below.refl _ w3).alloc (Nat.le_refl _) _).alloc (by simp) _).alloc (by simp; omega) _).trans (HB4.out.mono (by simp; omega))
end Go.Proofs.YtfbangojgjcbcaaGreatDoor
namespace Go.Proofs.YtfbangojgjcbcaaGreatDoor
open Go.RowKit Pl

set_option maxRecDepth 100000 in
set_option maxHeartbeats 4000000 in
theorem rsame_true (v v' : Value) (c : Cfg) (w : World) (h : CfgIs w v c) (h' : CfgIs w v' c) (hl : c.own.length ≤ 1000000) (hp : c.ports.length ≤ 1000000) :
    Calls Tryz.prog 16 #[v, v'] w fun e w' => e = .returned (.bool true) ∧ Below w.heap.size w w' := by
  obtain ⟨own, ports, rfl, hO, hP⟩ := h.is
  obtain ⟨own', ports', rfl, hO', hP'⟩ := h'.is
  have HO := Lib.hid hO
  have HP := Lib.hid hP
  have HO' := Lib.hid hO'
  have HP' := Lib.hid hP'
  obtain ⟨A1, k1, rfl, -⟩ := hO
  obtain ⟨A2, k2, rfl, -⟩ := hP
  obtain ⟨B1, l1, rfl, -⟩ := hO'
  obtain ⟨B2, l2, rfl, -⟩ := hP'
  clear h h'
  unfold cfgV
  have HB0 : Hid (Below w.heap.size w ((w.alloc (.cells #[.int .i64 c.node, .int .u32 c.addr, .slice A1 c.own.length k1, .slice A2 c.ports.length k2, .int .i64 c.hello, .int .i64 c.dead, .int .i64 c.again, .int .i64 c.room, .int .i64 c.queue, .int .i64 c.tokens, .int .i64 c.refill] 28)).alloc (.cells #[.int .i64 c.node, .int .u32 c.addr, .slice B1 c.own.length l1, .slice B2 c.ports.length l2, .int .i64 c.hello, .int .i64 c.dead, .int .i64 c.again, .int .i64 c.room, .int .i64 c.queue, .int .i64 c.tokens, .int .i64 c.refill] 28))) := Lib.hid (((Below.refl _ _).alloc (Nat.le_refl _) _).alloc (by simp) _)
  have HX1 : Hid (Whole ((w.alloc (.cells #[.int .i64 c.node, .int .u32 c.addr, .slice A1 c.own.length k1, .slice A2 c.ports.length k2, .int .i64 c.hello, .int .i64 c.dead, .int .i64 c.again, .int .i64 c.room, .int .i64 c.queue, .int .i64 c.tokens, .int .i64 c.refill] 28)).alloc (.cells #[.int .i64 c.node, .int .u32 c.addr, .slice B1 c.own.length l1, .slice B2 c.ports.length l2, .int .i64 c.hello, .int .i64 c.dead, .int .i64 c.again, .int .i64 c.room, .int .i64 c.queue, .int .i64 c.tokens, .int .i64 c.refill] 28)) w.heap.size 28 #[.int .i64 c.node, .int .u32 c.addr, .slice A1 c.own.length k1, .slice A2 c.ports.length k2, .int .i64 c.hello, .int .i64 c.dead, .int .i64 c.again, .int .i64 c.room, .int .i64 c.queue, .int .i64 c.tokens, .int .i64 c.refill]) := Lib.hid ((Whole.new w _ _).alloc _)
  have HX2 : Hid (Whole ((w.alloc (.cells #[.int .i64 c.node, .int .u32 c.addr, .slice A1 c.own.length k1, .slice A2 c.ports.length k2, .int .i64 c.hello, .int .i64 c.dead, .int .i64 c.again, .int .i64 c.room, .int .i64 c.queue, .int .i64 c.tokens, .int .i64 c.refill] 28)).alloc (.cells #[.int .i64 c.node, .int .u32 c.addr, .slice B1 c.own.length l1, .slice B2 c.ports.length l2, .int .i64 c.hello, .int .i64 c.dead, .int .i64 c.again, .int .i64 c.room, .int .i64 c.queue, .int .i64 c.tokens, .int .i64 c.refill] 28)) (w.heap.size + 1) 28 #[.int .i64 c.node, .int .u32 c.addr, .slice B1 c.own.length l1, .slice B2 c.ports.length l2, .int .i64 c.hello, .int .i64 c.dead, .int .i64 c.again, .int .i64 c.room, .int .i64 c.queue, .int .i64 c.tokens, .int .i64 c.refill]) := Lib.hid (by
    have := Whole.new (w.alloc (.cells #[.int .i64 c.node, .int .u32 c.addr, .slice A1 c.own.length k1, .slice A2 c.ports.length k2, .int .i64 c.hello, .int .i64 c.dead, .int .i64 c.again, .int .i64 c.room, .int .i64 c.queue, .int .i64 c.tokens, .int .i64 c.refill] 28)) 28 #[.int .i64 c.node, .int .u32 c.addr, .slice B1 c.own.length l1, .slice B2 c.ports.length l2, .int .i64 c.hello, .int .i64 c.dead, .int .i64 c.again, .int .i64 c.room, .int .i64 c.queue, .int .i64 c.tokens, .int .i64 c.refill]
    simpa using this)
  have hs0 : w.heap.size + 2 ≤ ((w.alloc (.cells #[.int .i64 c.node, .int .u32 c.addr, .slice A1 c.own.length k1, .slice A2 c.ports.length k2, .int .i64 c.hello, .int .i64 c.dead, .int .i64 c.again, .int .i64 c.room, .int .i64 c.queue, .int .i64 c.tokens, .int .i64 c.refill] 28)).alloc (.cells #[.int .i64 c.node, .int .u32 c.addr, .slice B1 c.own.length l1, .slice B2 c.ports.length l2, .int .i64 c.hello, .int .i64 c.dead, .int .i64 c.again, .int .i64 c.room, .int .i64 c.queue, .int .i64 c.tokens, .int .i64 c.refill] 28)).heap.size := by simp
  go_enter Tryz.func16, Tryz.ntmps16
  go_wp2
  generalize (w.alloc (.cells #[.int .i64 c.node, .int .u32 c.addr, .slice A1 c.own.length k1, .slice A2 c.ports.length k2, .int .i64 c.hello, .int .i64 c.dead, .int .i64 c.again, .int .i64 c.room, .int .i64 c.queue, .int .i64 c.tokens, .int .i64 c.refill] 28)).alloc (.cells #[.int .i64 c.node, .int .u32 c.addr, .slice B1 c.own.length l1, .slice B2 c.ports.length l2, .int .i64 c.hello, .int .i64 c.dead, .int .i64 c.again, .int .i64 c.room, .int .i64 c.queue, .int .i64 c.tokens, .int .i64 c.refill] 28) = W0 at *
  go_loopw [5] (fun i wr => ∃ j : Nat, j ≤ c.own.length ∧ i = .int .i64 j ∧ Hid (Below (w.heap.size + 2) W0 wr)) (fun i _ => c.own.length - (intOf i).toNat)
  case atStart => exact ⟨0, Nat.zero_le _, rfl, Lib.hid (Below.refl _ _)⟩
  case round =>
    obtain ⟨j, hj, rfl, HB⟩ := hrel
    have x1 : wr.cell? ⟨w.heap.size, 2, none⟩ = some (.slice A1 c.own.length k1) := (HX1.out.below HB.out (by omega)).cell 2
    have x2 : wr.cell? ⟨w.heap.size + 1, 2, none⟩ = some (.slice B1 c.own.length l1) := (HX2.out.below HB.out (by omega)).cell 2
    by_cases hlt : j < c.own.length
    · obtain ⟨⟨ua, un⟩, hu⟩ : ∃ u, c.own[j]? = some u := ⟨_, List.getElem?_eq_getElem hlt⟩
      have hww := HB0.out.trans (HB.out.mono (Nat.le_add_right _ 2))
      obtain ⟨b1, o1, rfl, hb1, p0, p1⟩ := (HO.out.below hww).at hu
      obtain ⟨b2, o2, rfl, hb2, q0, q1⟩ := (HO'.out.below hww).at hu
      simp only at p0 p1 q0 q1
      clear hu
      go_wp2
      go_region
      go_wp2
      go_roundw
      case rel => exact ⟨j + 1, by omega, by go_num, Lib.hid (by repeat (first | exact HB.out | apply Below.drew | apply below_drewN))⟩
      case measure => simp [intOf]; omega
    · obtain rfl : j = c.own.length := by omega
      go_wp2
      go_loopw [6] (fun i wr => ∃ j : Nat, j ≤ c.ports.length ∧ i = .int .i64 j ∧ Hid (Below (w.heap.size + 2) W0 wr)) (fun i _ => c.ports.length - (intOf i).toNat)
      case atStart => exact ⟨0, Nat.zero_le _, rfl, HB⟩
      case round =>
        obtain ⟨j, hj, rfl, HB⟩ := hrel
        have x1 : wr.cell? ⟨w.heap.size, 3, none⟩ = some (.slice A2 c.ports.length k2) := (HX1.out.below HB.out (by omega)).cell 3
        have x2 : wr.cell? ⟨w.heap.size + 1, 3, none⟩ = some (.slice B2 c.ports.length l2) := (HX2.out.below HB.out (by omega)).cell 3
        by_cases hlt : j < c.ports.length
        · obtain ⟨⟨ua, un⟩, hu⟩ : ∃ u, c.ports[j]? = some u := ⟨_, List.getElem?_eq_getElem hlt⟩
          have hww := HB0.out.trans (HB.out.mono (Nat.le_add_right _ 2))
          obtain ⟨b1, o1, rfl, hb1, p0, p1⟩ := (HP.out.below hww).at hu
          obtain ⟨b2, o2, rfl, hb2, q0, q1⟩ := (HP'.out.below hww).at hu
          simp only at p0 p1 q0 q1
          clear hu
          go_wp2
          go_region
          go_wp2
          go_roundw
          case rel => exact ⟨j + 1, by omega, by go_num, Lib.hid (by repeat (first | exact HB.out | apply Below.drew | apply below_drewN))⟩
          case measure => simp [intOf]; omega
        · obtain rfl : j = c.ports.length := by omega

          have y0 : wr.cell? ⟨w.heap.size, 0, none⟩ = some (.int .i64 c.node) := (HX1.out.below HB.out (by omega)).cell 0
          have z0 : wr.cell? ⟨w.heap.size + 1, 0, none⟩ = some (.int .i64 c.node) := (HX2.out.below HB.out (by omega)).cell 0
          have y1 : wr.cell? ⟨w.heap.size, 1, none⟩ = some (.int .u32 c.addr) := (HX1.out.below HB.out (by omega)).cell 1
          have z1 : wr.cell? ⟨w.heap.size + 1, 1, none⟩ = some (.int .u32 c.addr) := (HX2.out.below HB.out (by omega)).cell 1
          have y4 : wr.cell? ⟨w.heap.size, 4, none⟩ = some (.int .i64 c.hello) := (HX1.out.below HB.out (by omega)).cell 4
          have z4 : wr.cell? ⟨w.heap.size + 1, 4, none⟩ = some (.int .i64 c.hello) := (HX2.out.below HB.out (by omega)).cell 4
          have y5 : wr.cell? ⟨w.heap.size, 5, none⟩ = some (.int .i64 c.dead) := (HX1.out.below HB.out (by omega)).cell 5
          have z5 : wr.cell? ⟨w.heap.size + 1, 5, none⟩ = some (.int .i64 c.dead) := (HX2.out.below HB.out (by omega)).cell 5
          have y6 : wr.cell? ⟨w.heap.size, 6, none⟩ = some (.int .i64 c.again) := (HX1.out.below HB.out (by omega)).cell 6
          have z6 : wr.cell? ⟨w.heap.size + 1, 6, none⟩ = some (.int .i64 c.again) := (HX2.out.below HB.out (by omega)).cell 6
          have y7 : wr.cell? ⟨w.heap.size, 7, none⟩ = some (.int .i64 c.room) := (HX1.out.below HB.out (by omega)).cell 7
          have z7 : wr.cell? ⟨w.heap.size + 1, 7, none⟩ = some (.int .i64 c.room) := (HX2.out.below HB.out (by omega)).cell 7
          have y8 : wr.cell? ⟨w.heap.size, 8, none⟩ = some (.int .i64 c.queue) := (HX1.out.below HB.out (by omega)).cell 8
          have z8 : wr.cell? ⟨w.heap.size + 1, 8, none⟩ = some (.int .i64 c.queue) := (HX2.out.below HB.out (by omega)).cell 8
          have y9 : wr.cell? ⟨w.heap.size, 9, none⟩ = some (.int .i64 c.tokens) := (HX1.out.below HB.out (by omega)).cell 9
          have z9 : wr.cell? ⟨w.heap.size + 1, 9, none⟩ = some (.int .i64 c.tokens) := (HX2.out.below HB.out (by omega)).cell 9
          have y10 : wr.cell? ⟨w.heap.size, 10, none⟩ = some (.int .i64 c.refill) := (HX1.out.below HB.out (by omega)).cell 10
          have z10 : wr.cell? ⟨w.heap.size + 1, 10, none⟩ = some (.int .i64 c.refill) := (HX2.out.below HB.out (by omega)).cell 10
          go_wp2
          go_ret
          exact ⟨by rfl, HB0.out.trans (HB.out.mono (Nat.le_add_right _ 2))⟩
end Go.Proofs.YtfbangojgjcbcaaGreatDoor
namespace Go.Proofs.YtfbangojgjcbcaaGreatDoor
open Go.RowKit Pl

/-- Is a text wrong at a line? -/
def wrongB (l : List UInt8) (n : Nat) : Bool := match parseC l with
  | (c, k, e) => decide (k = n) && decide (e = 4) && decide (c.node = 0) && decide (c.addr = 0) && c.own.isEmpty && c.ports.isEmpty && decide (c.hello = 0) && decide (c.dead = 0) && decide (c.again = 0) && decide (c.room = 0) && decide (c.queue = 0) && decide (c.tokens = 0) && decide (c.refill = 0)
theorem wrongB_eq {l : List UInt8} {n : Nat} (h : wrongB l n = true) : parseC l = ({}, n, 4) := by
  unfold wrongB at h
  obtain ⟨q, hp⟩ : ∃ q, parseC l = q := ⟨_, rfl⟩
  obtain ⟨c, k, e⟩ := q
  rw [hp] at h
  obtain ⟨c1, c2, c3, c4, c5, c6, c7, c8, c9, c10, c11⟩ := c
  simp only [Bool.and_eq_true, decide_eq_true_eq, List.isEmpty_iff] at h
  obtain ⟨⟨⟨⟨⟨⟨⟨⟨⟨⟨⟨⟨rfl, rfl⟩, rfl⟩, rfl⟩, rfl⟩, rfl⟩, rfl⟩, rfl⟩, rfl⟩, rfl⟩, rfl⟩, rfl⟩, rfl⟩ := h
  exact hp
set_option maxRecDepth 100000 in
set_option maxHeartbeats 1000000 in
theorem wrong_any (l : List UInt8) (n : Nat) (w : World) (hl : l.length ≤ 1000000000) (E : Env w) (h : parseC l = ({}, n, 4)) :
    Calls Tryz.prog 18 #[.string (str l), .int .i64 (n : Int)] w fun e w' => e = .returned (.bool true) ∧ Below w.heap.size w w' := by
  have HP := Lib.hid (parse_at l {} n 4 w hl E h)
  clear h
  go_enter Tryz.func18, Tryz.ntmps18
  go_wp2_with fail
  refine HP.out.mono ?_
  rintro e w1 ⟨⟨A1, k1, A2, k2, he, hO, hP⟩, hb1⟩
  have HB1 := Lib.hid hb1
  unfold cfgV at he
  subst he
  have HSAME := Lib.hid (fun W (hb : Below w1.heap.size w1 W) => rsame_true (cfgV {} (.slice A1 ({} : Cfg).own.length k1) (.slice A2 ({} : Cfg).ports.length k2)) cfg0 {} W ⟨⟨_, _, rfl, hO.below hb, hP.below hb⟩⟩ (CfgIs.zero W) (by decide) (by decide))
  unfold cfgV cfg0 at HSAME
  clear hb1 hO hP
  go_wp2_with fail
  refine (HSAME.out _ ((Below.refl _ _).alloc (Nat.le_refl _) _)).mono ?_
  rintro e w2 ⟨rfl, hb2⟩
  have HB2 := Lib.hid hb2
  clear hb2 HSAME
  go_wp2_with (go_at_call 17; refine (num19_any _ _).mono ?_; rintro e w' ⟨rfl, rfl⟩)
  go_ret
  exact ⟨by rfl, HB1.out.trans ((((Below.refl _ w1).alloc (Nat.le_refl _) _).trans (HB2.out.mono (by simp))).mono HB1.out.size)⟩
theorem wrong_str (s : ByteArray) (n : Int) (w : World) (E : Env w) (hn : 0 ≤ n) (h : (wrongB s.data.toList n.toNat && decide (s.data.toList.length ≤ 1000000)) = true) :
    Calls Tryz.prog 18 #[.string s, .int .i64 n] w fun e w' => e = .returned (.bool true) ∧ Below w.heap.size w w' := by
  simp only [Bool.and_eq_true, decide_eq_true_eq] at h
  have := wrong_any s.data.toList n.toNat w (Nat.le_trans h.2 (by decide)) E (wrongB_eq h.1)
  rw [Int.toNat_of_nonneg hn] at this
  have e : str s.data.toList = s := by cases s; simp [str]
  rw [e] at this; exact this
end Go.Proofs.YtfbangojgjcbcaaGreatDoor
