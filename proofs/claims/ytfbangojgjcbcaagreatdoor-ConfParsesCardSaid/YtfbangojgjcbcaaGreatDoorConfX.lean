/- Contract of ref19.Parse: parseR. -/
import Derived.Test.YtfbangojgjcbcaaGreatDoorConfW
namespace Go.Proofs.YtfbangojgjcbcaaGreatDoor.Pl
theorem stepR_keep {c c' : Cfg} {st i t t' : Nat} {w s : List UInt8} (hg : Goes c st i t) (hI : CInv c) (h : stepR c i t w s = some (c', t')) : ∃ st', Goes c' st' (i + 1) t' ∧ CInv c' := by
  have hs := step_same hg w s
  unfold Step at hs
  rw [h] at hs
  cases hC : stepC c st w s with
  | none => rw [hC] at hs; exact hs.elim
  | some p =>
    obtain ⟨c1, st1⟩ := p
    rw [hC] at hs
    obtain ⟨rfl, hG⟩ := hs
    exact ⟨st1, hG, stepC_inv hI hC⟩
theorem Goes.le {c : Cfg} {st i t : Nat} (h : Goes c st i t) : t ≤ 7 := by
  rcases h with ⟨rfl, _⟩ | ⟨_, _, _, h, _⟩ <;> omega
theorem cut_at {l : List UInt8} {m : Nat} (h1 : (32 : UInt8) ∉ l.take m) (h2 : l[m]? = some 32) : 32 ∈ l ∧ cutA 32 l = l.take m ∧ cutB 32 l = l.drop (m + 1) := by
  have hm : m < l.length := (List.getElem?_eq_some_iff.1 h2).1
  have e : l = l.take m ++ 32 :: l.drop (m + 1) := by
    have h3 : l.drop m = 32 :: l.drop (m + 1) := by
      rw [List.drop_eq_getElem_cons hm]
      have := (List.getElem?_eq_some_iff.1 h2).2
      rw [this]
    rw [← h3, List.take_append_drop]
  obtain ⟨a, b⟩ := cut_app 32 (l.take m) (l.drop (m + 1)) h1
  refine ⟨List.mem_of_getElem? h2, ?_, ?_⟩
  · rw [← e] at a; exact a
  · rw [← e] at b; exact b
end Go.Proofs.YtfbangojgjcbcaaGreatDoor.Pl
namespace Go.Proofs.YtfbangojgjcbcaaGreatDoor
open Go.RowKit Pl

set_option maxRecDepth 100000 in
set_option maxHeartbeats 4000000 in
theorem rparse19 (text : List UInt8) (w : World) (hl : text.length ≤ 1000000000) (E : Env w) :
    Calls Tryz.prog 15 #[.string (str text)] w fun e w' => ParseRes (parseR text) e w' ∧ Below w.heap.size w w' := by
  have hsz : (str text).size = text.length := str_size text
  by_cases h4 : 4096 < text.length
  · have HR : Hid (parseR text = ({}, 0, 3)) := Lib.hid (by unfold parseR; rw [if_pos h4])
    have h4' : (4096 : Int) < ((str text).size : Int) := by rw [hsz]; omega
    have HSZ := Lib.hid hsz
    clear hsz
    go_enter Tryz.func15, Tryz.ntmps15
    go_wp2
    have HX0 := Lib.hid (Whole.new w 28 #[.int .i64 0, .int .u32 0, .slice none 0 0, .slice none 0 0, .int .i64 0, .int .i64 0, .int .i64 0, .int .i64 0, .int .i64 0, .int .i64 0, .int .i64 0])
    have HB0 := Lib.hid ((Below.refl w.heap.size w).alloc (Nat.le_refl _) (.cells #[.int .i64 0, .int .u32 0, .slice none 0 0, .slice none 0 0, .int .i64 0, .int .i64 0, .int .i64 0, .int .i64 0, .int .i64 0, .int .i64 0, .int .i64 0] 28))
    generalize w.alloc (.cells #[.int .i64 0, .int .u32 0, .slice none 0 0, .slice none 0 0, .int .i64 0, .int .i64 0, .int .i64 0, .int .i64 0, .int .i64 0, .int .i64 0, .int .i64 0] 28) = W0 at *
    have hq := HX0.out
    have hbq := HB0.out
    have q0 := hq.cell 0
    have q1 := hq.cell 1
    have q2 := hq.cell 2
    have q3 := hq.cell 3
    have q4 := hq.cell 4
    have q5 := hq.cell 5
    have q6 := hq.cell 6
    have q7 := hq.cell 7
    have q8 := hq.cell 8
    have q9 := hq.cell 9
    have q10 := hq.cell 10
    simp at q0 q1 q2 q3 q4 q5 q6 q7 q8 q9 q10
    exact bodyPost_ret (v := .tuple #[cfg0, .int .i64 0, .int .i64 3]) (by simp [results, Tryz.results15, go_sem, cfg0, q0, q1, q2, q3, q4, q5, q6, q7, q8, q9, q10]) rfl ⟨⟨cfg0, by rw [HR.out]; rfl, by rw [HR.out]; exact CfgIs.zero _⟩, hbq⟩
  · have HR : Hid (parseR text = runR (splitOn 10 text) {} 0 0) := Lib.hid (by unfold parseR; rw [if_neg h4])
    obtain ⟨RES, hRES⟩ : ∃ R, parseR text = R := ⟨_, rfl⟩
    rw [hRES] at HR ⊢
    clear hRES
    have h4' : decide ((4096 : Int) < ((str text).size : Int)) = false := decide_eq_false (by rw [hsz]; omega)
    have HSZ := Lib.hid hsz
    clear hsz
    have HSP : Hid (∀ W, Calls Tryz.prog 53 #[.string (str text), .int .u8 10] W fun e w' => (∃ g cap, e = .returned (.slice (some ⟨g, 0, none⟩) (splitOn 10 text).length cap) ∧ g < w'.heap.size ∧ ∀ j x, (splitOn 10 text)[j]? = some x → w'.cell? ⟨g, j, none⟩ = some (.string (str x))) ∧ Below W.heap.size W w') := Lib.hid (fun W => (rsplit 10 text W (by omega)).mono (by
      rintro e w' ⟨v, rfl, hown, hb⟩
      have hn : 0 < (splitOn 10 text).length := List.length_pos_iff.2 (splitOn_ne 10 text)
      obtain ⟨g, cap, rfl, hg1, hg2⟩ := hown.form hn
      refine ⟨⟨g, cap, rfl, (hown.lt g rfl).2, fun j x hj => ?_⟩, hb⟩
      have hjl : j < (splitOn 10 text).length := (List.getElem?_eq_some_iff.1 hj).1
      rw [hown.cellAt j (by omega), List.getElem?_map, hj]; rfl))
    obtain ⟨ps, hps⟩ : ∃ ps, splitOn 10 text = ps := ⟨_, rfl⟩
    rw [hps] at HSP HR
    have hlen : ∀ (j : Nat) (x : List UInt8), ps[j]? = some x → x.length ≤ 4096 := fun j x hj => by
      have := (splitOn_len 10 text).2 x (by rw [hps]; exact List.mem_of_getElem? hj)
      exact Nat.le_trans this (by omega)
    have HLEN := Lib.hid hlen
    have hpos : 0 < ps.length := by rw [← hps]; exact List.length_pos_iff.2 (splitOn_ne 10 text)
    have hpsl : ps.length ≤ 5000 := by rw [← hps]; have := (splitOn_len 10 text).1; omega
    clear hps hlen h4
    go_enter Tryz.func15, Tryz.ntmps15
    go_wp2_with fail
    refine (HSP.out _).mono ?_
    rintro e w1 ⟨⟨g, cap, rfl, hg, hcell⟩, hb1⟩
    have HC1 := Lib.hid hcell
    have HB1 := Lib.hid hb1
    clear hcell hb1
    go_wp2
    have hbx : Below w.heap.size w (w.alloc (.cells #[.int .i64 0, .int .u32 0, .slice none 0 0, .slice none 0 0, .int .i64 0, .int .i64 0, .int .i64 0, .int .i64 0, .int .i64 0, .int .i64 0, .int .i64 0] 28)) := (Below.refl _ _).alloc (Nat.le_refl _) _
    have hx1 : Whole w1 w.heap.size 28 #[.int .i64 0, .int .u32 0, .slice none 0 0, .slice none 0 0, .int .i64 0, .int .i64 0, .int .i64 0, .int .i64 0, .int .i64 0, .int .i64 0, .int .i64 0] := (Whole.new w _ _).here HB1.out
    obtain ⟨W2, hW2⟩ : ∃ W2, w1.alloc (.cells #[.int .i64 0, .int .u32 0, .slice none 0 0, .slice none 0 0, .int .i64 0, .int .i64 0, .int .i64 0, .int .i64 0, .int .i64 0, .int .i64 0, .int .i64 0, .int .i64 0] 98) = W2 := ⟨_, rfl⟩
    have HX2 : Hid (Whole W2 w.heap.size 28 #[.int .i64 0, .int .u32 0, .slice none 0 0, .slice none 0 0, .int .i64 0, .int .i64 0, .int .i64 0, .int .i64 0, .int .i64 0, .int .i64 0, .int .i64 0]) := Lib.hid (by rw [← hW2]; exact hx1.alloc _)
    have h1s := HB1.out.size
    have hw1 : w.heap.size < w1.heap.size := hx1.lt
    have HRD : Hid (Rd 98 W2 (w1.heap.size + 1) w1.heap.size {} ((0 : Nat) : Int)) := Lib.hid (by
      rw [← hW2]
      exact ⟨Nat.le_trans E.size (Nat.le_of_lt hw1), .slice none 0 0, .slice none 0 0, Whole.new w1 _ _, World.ownsRow_nil _ _ _ _, World.ownsRow_nil _ _ _ _⟩)
    have HB2 : Hid (Below w.heap.size w W2) := Lib.hid (by rw [← hW2]; have := hbx.trans (HB1.out.mono hbx.size); exact this.alloc this.size _)
    have HC2 : Hid (∀ (j : Nat) (x : List UInt8), ps[j]? = some x → W2.cell? ⟨g, j, none⟩ = some (.string (str x))) := Lib.hid (fun j x hj => by
      rw [← hW2, World.cell?_alloc_lt w1 _ ⟨g, j, none⟩ hg]; exact HC1.out j x hj)
    have hs2 : W2.heap.size = w1.heap.size + 1 := by rw [← hW2]; simp
    have HS2 := Lib.hid hs2
    rw [hW2]
    clear hW2 hx1 HB1 HC1 hbx h1s hs2
    obtain ⟨Rb, hRb⟩ : ∃ Rb, w1.heap.size = Rb := ⟨_, rfl⟩
    rw [hRb] at hg HRD HS2 hw1 ⊢
    clear hRb
    go_loopw [7] (fun i wr => ∃ (k : Nat) (c : Cfg) (st t : Nat), i = .int .i64 k ∧ k < ps.length ∧ Hid (runR (ps.drop k) c k t = RES) ∧ Hid (Rd 98 wr (Rb + 1) Rb c (t : Int)) ∧ Hid (CInv c) ∧ Hid (Goes c st k t) ∧ Hid (Kb (Rb + 1) Rb W2 wr)) (fun i _ => ps.length - (intOf i).toNat)
    case atStart => exact ⟨0, {}, 0, 0, rfl, hpos, Lib.hid (by rw [HR.out]; rfl), HRD, Lib.hid CInv.start, Lib.hid Goes.start, Lib.hid (Kb.refl _ _ _)⟩
    case round =>
      obtain ⟨k, c, st, t, rfl, hk, HRUN, HRd, HI, HG, HK⟩ := hrel
      have hszr := HK.out.size
      have hs2 := HS2.out
      have HX : Hid (Whole wr w.heap.size 28 #[.int .i64 0, .int .u32 0, .slice none 0 0, .slice none 0 0, .int .i64 0, .int .i64 0, .int .i64 0, .int .i64 0, .int .i64 0, .int .i64 0, .int .i64 0]) := Lib.hid ⟨(HK.out.block w.heap.size (by omega) (by omega)).trans HX2.out.is⟩
      have HBW : Hid (Below w.heap.size w wr) := Lib.hid (HB2.out.trans (HK.out.below (by omega) (by omega)))
      obtain ⟨l, hl⟩ : ∃ l, ps[k]? = some l := ⟨_, List.getElem?_eq_getElem hk⟩
      have cl : wr.cell? ⟨g, k, none⟩ = some (.string (str l)) := by
        rw [← HC2.out k l hl]; exact World.cell?_of_block (HK.out.block g (by omega) (by omega))
      have hgr : g < wr.heap.size := by omega
      have hll := HLEN.out k l hl
      have HL := Lib.hid hl
      clear hl hs2
      by_cases hlast : k + 1 = ps.length
      · have dk : ((k : Int) == (ps.length : Int) - 1) = true := by simp; omega
        have HRUN2 : Hid ((if l = [] ∧ t = 7 then (c, 0, 0) else ({}, k, 4)) = RES) := Lib.hid (by
          have := HRUN.out
          rw [List.drop_eq_getElem_cons hk, List.drop_eq_nil_of_le (by omega)] at this
          have e : ps[k] = l := by have := HL.out; rw [List.getElem?_eq_getElem hk] at this; exact Option.some.inj this
          rw [e] at this
          exact this)
        have b0 : wr.cell? ⟨w.heap.size, 0, none⟩ = some (.int .i64 0) := HX.out.cell 0
        have f0 : wr.frozen? ⟨w.heap.size, 0, none⟩ = false := HX.out.frozen 0
        have b1 : wr.cell? ⟨w.heap.size, 1, none⟩ = some (.int .u32 0) := HX.out.cell 1
        have f1 : wr.frozen? ⟨w.heap.size, 1, none⟩ = false := HX.out.frozen 1
        have b2 : wr.cell? ⟨w.heap.size, 2, none⟩ = some (.slice none 0 0) := HX.out.cell 2
        have f2 : wr.frozen? ⟨w.heap.size, 2, none⟩ = false := HX.out.frozen 2
        have b3 : wr.cell? ⟨w.heap.size, 3, none⟩ = some (.slice none 0 0) := HX.out.cell 3
        have f3 : wr.frozen? ⟨w.heap.size, 3, none⟩ = false := HX.out.frozen 3
        have b4 : wr.cell? ⟨w.heap.size, 4, none⟩ = some (.int .i64 0) := HX.out.cell 4
        have f4 : wr.frozen? ⟨w.heap.size, 4, none⟩ = false := HX.out.frozen 4
        have b5 : wr.cell? ⟨w.heap.size, 5, none⟩ = some (.int .i64 0) := HX.out.cell 5
        have f5 : wr.frozen? ⟨w.heap.size, 5, none⟩ = false := HX.out.frozen 5
        have b6 : wr.cell? ⟨w.heap.size, 6, none⟩ = some (.int .i64 0) := HX.out.cell 6
        have f6 : wr.frozen? ⟨w.heap.size, 6, none⟩ = false := HX.out.frozen 6
        have b7 : wr.cell? ⟨w.heap.size, 7, none⟩ = some (.int .i64 0) := HX.out.cell 7
        have f7 : wr.frozen? ⟨w.heap.size, 7, none⟩ = false := HX.out.frozen 7
        have b8 : wr.cell? ⟨w.heap.size, 8, none⟩ = some (.int .i64 0) := HX.out.cell 8
        have f8 : wr.frozen? ⟨w.heap.size, 8, none⟩ = false := HX.out.frozen 8
        have b9 : wr.cell? ⟨w.heap.size, 9, none⟩ = some (.int .i64 0) := HX.out.cell 9
        have f9 : wr.frozen? ⟨w.heap.size, 9, none⟩ = false := HX.out.frozen 9
        have b10 : wr.cell? ⟨w.heap.size, 10, none⟩ = some (.int .i64 0) := HX.out.cell 10
        have f10 : wr.frozen? ⟨w.heap.size, 10, none⟩ = false := HX.out.frozen 10
        by_cases hl0 : l = []
        · subst hl0
          have s0 : (str ([] : List UInt8)).toList = [] := str_toList []
          obtain ⟨own, ports, hRW, hRO, hRP⟩ := HRd.out.is
          obtain ⟨A1, k1, rfl⟩ := own_slice_n hRO
          obtain ⟨A2, k2, rfl⟩ := own_slice_n hRP
          have c11 : wr.cell? ⟨Rb, 11, none⟩ = some (.int .i64 (t : Int)) := hRW.cell 11
          have c0 : wr.cell? ⟨Rb, 0, none⟩ = some (.int .i64 c.node) := hRW.cell 0
          have c1 : wr.cell? ⟨Rb, 1, none⟩ = some (.int .u32 c.addr) := hRW.cell 1
          have c2 : wr.cell? ⟨Rb, 2, none⟩ = some (.slice A1 c.own.length k1) := hRW.cell 2
          have c3 : wr.cell? ⟨Rb, 3, none⟩ = some (.slice A2 c.ports.length k2) := hRW.cell 3
          have c4 : wr.cell? ⟨Rb, 4, none⟩ = some (.int .i64 c.hello) := hRW.cell 4
          have c5 : wr.cell? ⟨Rb, 5, none⟩ = some (.int .i64 c.dead) := hRW.cell 5
          have c6 : wr.cell? ⟨Rb, 6, none⟩ = some (.int .i64 c.again) := hRW.cell 6
          have c7 : wr.cell? ⟨Rb, 7, none⟩ = some (.int .i64 c.room) := hRW.cell 7
          have c8 : wr.cell? ⟨Rb, 8, none⟩ = some (.int .i64 c.queue) := hRW.cell 8
          have c9 : wr.cell? ⟨Rb, 9, none⟩ = some (.int .i64 c.tokens) := hRW.cell 9
          have c10 : wr.cell? ⟨Rb, 10, none⟩ = some (.int .i64 c.refill) := hRW.cell 10
          have HRW := Lib.hid hRW
          have HRO := Lib.hid hRO
          have HRP := Lib.hid hRP
          clear hRW hRO hRP
          by_cases ht : t = 7
          · have HRES : Hid ((c, 0, 0) = RES) := Lib.hid (by have := HRUN2.out; rw [if_pos ⟨rfl, ht⟩] at this; exact this)
            have d7 : ((t : Int) == 7) = true := by simp; omega
            clear ht
            go_wp2
            have hq := box_end (.int .i64 c.node) (.int .u32 c.addr) (.slice A1 c.own.length k1) (.slice A2 c.ports.length k2) (.int .i64 c.hello) (.int .i64 c.dead) (.int .i64 c.again) (.int .i64 c.room) (.int .i64 c.queue) (.int .i64 c.tokens) (.int .i64 c.refill) HX.out
            have hbq := box_below (.int .i64 c.node) (.int .u32 c.addr) (.slice A1 c.own.length k1) (.slice A2 c.ports.length k2) (.int .i64 c.hello) (.int .i64 c.dead) (.int .i64 c.again) (.int .i64 c.room) (.int .i64 c.queue) (.int .i64 c.tokens) (.int .i64 c.refill) HBW.out (Nat.le_refl _)
            have hgq := box_grown (W := wr) (g := w.heap.size) (.int .i64 c.node) (.int .u32 c.addr) (.slice A1 c.own.length k1) (.slice A2 c.ports.length k2) (.int .i64 c.hello) (.int .i64 c.dead) (.int .i64 c.again) (.int .i64 c.room) (.int .i64 c.queue) (.int .i64 c.tokens) (.int .i64 c.refill)
            have ho2 := own_grown HX.out HRO.out (by decide) hgq
            have hp2 := own_grown HX.out HRP.out (by decide) hgq
            have q0 := hq.cell 0
            have q1 := hq.cell 1
            have q2 := hq.cell 2
            have q3 := hq.cell 3
            have q4 := hq.cell 4
            have q5 := hq.cell 5
            have q6 := hq.cell 6
            have q7 := hq.cell 7
            have q8 := hq.cell 8
            have q9 := hq.cell 9
            have q10 := hq.cell 10
            simp at q0 q1 q2 q3 q4 q5 q6 q7 q8 q9 q10
            exact bodyPost_ret (v := .tuple #[cfgV c (.slice A1 c.own.length k1) (.slice A2 c.ports.length k2), .int .i64 0, .int .i64 0]) (by simp [results, Tryz.results15, go_sem, cfgV, q0, q1, q2, q3, q4, q5, q6, q7, q8, q9, q10]) rfl ⟨⟨cfgV c (.slice A1 c.own.length k1) (.slice A2 c.ports.length k2), by rw [← HRES.out]; rfl, by rw [← HRES.out]; exact ⟨⟨_, _, rfl, Rs.own rfl ho2, Rs.own rfl hp2⟩⟩⟩, hbq⟩
          · have HRES : Hid (({}, k, 4) = RES) := Lib.hid (by have := HRUN2.out; rw [if_neg (fun h => ht h.2)] at this; exact this)
            have d7 : ((t : Int) == 7) = false := by simp; omega
            go_wp2
            have hq := box_end (.int .i64 0) (.int .u32 0) (.slice none 0 0) (.slice none 0 0) (.int .i64 0) (.int .i64 0) (.int .i64 0) (.int .i64 0) (.int .i64 0) (.int .i64 0) (.int .i64 0) HX.out
            have hbq := box_below (.int .i64 0) (.int .u32 0) (.slice none 0 0) (.slice none 0 0) (.int .i64 0) (.int .i64 0) (.int .i64 0) (.int .i64 0) (.int .i64 0) (.int .i64 0) (.int .i64 0) HBW.out (Nat.le_refl _)
            have q0 := hq.cell 0
            have q1 := hq.cell 1
            have q2 := hq.cell 2
            have q3 := hq.cell 3
            have q4 := hq.cell 4
            have q5 := hq.cell 5
            have q6 := hq.cell 6
            have q7 := hq.cell 7
            have q8 := hq.cell 8
            have q9 := hq.cell 9
            have q10 := hq.cell 10
            simp at q0 q1 q2 q3 q4 q5 q6 q7 q8 q9 q10
            exact bodyPost_ret (v := .tuple #[cfg0, .int .i64 (k : Int), .int .i64 4]) (by simp [results, Tryz.results15, go_sem, cfg0, q0, q1, q2, q3, q4, q5, q6, q7, q8, q9, q10]) rfl ⟨⟨cfg0, by rw [← HRES.out], by rw [← HRES.out]; exact CfgIs.zero _⟩, hbq⟩
        · have HRES : Hid (({}, k, 4) = RES) := Lib.hid (by have := HRUN2.out; rw [if_neg (fun h => hl0 h.1)] at this; exact this)
          have s0 : ((str l).toList == []) = false := by rw [str_toList]; simpa using hl0
          have s1 : ¬ (str l).toList = [] := by rw [str_toList]; exact hl0
          clear hl0
          go_wp2
          have hq := box_end (.int .i64 0) (.int .u32 0) (.slice none 0 0) (.slice none 0 0) (.int .i64 0) (.int .i64 0) (.int .i64 0) (.int .i64 0) (.int .i64 0) (.int .i64 0) (.int .i64 0) HX.out
          have hbq := box_below (.int .i64 0) (.int .u32 0) (.slice none 0 0) (.slice none 0 0) (.int .i64 0) (.int .i64 0) (.int .i64 0) (.int .i64 0) (.int .i64 0) (.int .i64 0) (.int .i64 0) HBW.out (Nat.le_refl _)
          have q0 := hq.cell 0
          have q1 := hq.cell 1
          have q2 := hq.cell 2
          have q3 := hq.cell 3
          have q4 := hq.cell 4
          have q5 := hq.cell 5
          have q6 := hq.cell 6
          have q7 := hq.cell 7
          have q8 := hq.cell 8
          have q9 := hq.cell 9
          have q10 := hq.cell 10
          simp at q0 q1 q2 q3 q4 q5 q6 q7 q8 q9 q10
          exact bodyPost_ret (v := .tuple #[cfg0, .int .i64 (k : Int), .int .i64 4]) (by simp [results, Tryz.results15, go_sem, cfg0, q0, q1, q2, q3, q4, q5, q6, q7, q8, q9, q10]) rfl ⟨⟨cfg0, by rw [← HRES.out], by rw [← HRES.out]; exact CfgIs.zero _⟩, hbq⟩
      · have dk : ((k : Int) == (ps.length : Int) - 1) = false := by simp; omega
        have hk1 : k + 1 < ps.length := by omega
        have HRUN2 : Hid ((if 32 ∈ l then (match stepR c k t (cutA 32 l) (cutB 32 l) with | some (c', t') => runR (ps.drop (k + 1)) c' (k + 1) t' | none => ({}, k, 4)) else ({}, k, 4)) = RES) := Lib.hid (by
          have := HRUN.out
          have e : ps[k] = l := by have := HL.out; rw [List.getElem?_eq_getElem hk] at this; exact Option.some.inj this
          rw [List.drop_eq_getElem_cons hk, e] at this
          rw [List.drop_eq_getElem_cons hk1] at this ⊢
          exact this)
        have hsl : (str l).size = l.length := str_size l
        have hex := fun a b => str_cut l a b
        clear hlast
        go_wp2
        obtain ⟨wo, rfl⟩ : ∃ wo, wo = wr := ⟨wr, rfl⟩
        go_loopw [8] (fun m wx => ∃ m' : Nat, m' ≤ l.length ∧ m = .int .i64 m' ∧ Hid ((32 : UInt8) ∉ l.take m') ∧ wx = wo) (fun m _ => l.length - (intOf m).toNat)
        case atStart => exact ⟨0, Nat.zero_le _, rfl, Lib.hid (by simp), rfl⟩
        case round =>
          obtain ⟨m, hm, rfl, HT, rfl⟩ := hrel
          by_cases hml : m < l.length
          · obtain ⟨b, hb⟩ : ∃ b, l[m]'hml = b := ⟨_, rfl⟩
            have hlt' := str_lt hml
            have ej : (str l)[m]'hlt' = b := hb
            have HB := Lib.hid hb
            clear hb
            by_cases h32 : b = 32
            · have d2 : (((str l)[m].toNat : Int) == 32) = true := by rw [ej, h32]; rfl
              have d3 : ((m : Int) == (l.length : Int)) = false := by simp; omega
              go_upto_region 15 with fail
              refine wp_region_ext_tail 23 (by kernel_rfl) (by kernel_rfl) ?_
              simp only [List.take_succ_cons, List.take_zero, List.drop_succ_cons, List.drop_zero]
              repeat (go_big_quiet_step (fail))
              refine wpQuiet_nil ?_
              rintro _ ⟨y, rfl⟩
              go_wp2_with fail
              have hcut := cut_at HT.out (by rw [List.getElem?_eq_getElem hml, HB.out, h32])
              have HLN : Hid (Calls Tryz.prog 54 #[.pointer (some ⟨Rb, 0, none⟩), .int .i64 (k : Int), .string (str (List.take m l)), .string (str (List.take (l.length - (m + 1)) (List.drop (m + 1) l)))] y.w fun e w' => RgRes y.w (Rb + 1) Rb (stepR c k t (cutA 32 l) (cutB 32 l)) e w') := Lib.hid (by
                have := rline_any k (l.take m) (l.drop (m + 1)) c t (Rb + 1) Rb y.w (HRd.out.here y.below) (by have h1 := y.below.size; have h2 := HK.out.size; have h3 := HS2.out; omega) (by simp; omega) HG.out.le HI.out
                rw [List.take_of_length_le (l := List.drop (m + 1) l) (by simp), hcut.2.1, hcut.2.2]
                exact this)
              have HRUN3 : Hid ((match stepR c k t (cutA 32 l) (cutB 32 l) with | some (c', t') => runR (ps.drop (k + 1)) c' (k + 1) t' | none => ({}, k, 4)) = RES) := Lib.hid (by have := HRUN2.out; rw [if_pos hcut.1] at this; exact this)
              clear hcut hex
              refine HLN.out.mono ?_
              rintro e w5 ⟨hres, hk5⟩
              have HK5 : Hid (Kb (Rb + 1) Rb W2 w5) := Lib.hid ((HK.out.trans (Kb.of_below (y.below.mono (by have h2 := HK.out.size; have h3 := HS2.out; omega)))).trans hk5)
              cases hst : stepR c k t (cutA 32 l) (cutB 32 l) with
              | none =>
                have HRES : Hid (({}, k, 4) = RES) := Lib.hid (by have := HRUN3.out; rw [hst] at this; exact this)
                rw [hst] at hres
                obtain rfl : e = .returned (.bool false) := hres
                have HX5 : Hid (Whole w5 w.heap.size 28 #[.int .i64 0, .int .u32 0, .slice none 0 0, .slice none 0 0, .int .i64 0, .int .i64 0, .int .i64 0, .int .i64 0, .int .i64 0, .int .i64 0, .int .i64 0]) := Lib.hid ⟨(HK5.out.block w.heap.size (by omega) (by omega)).trans HX2.out.is⟩
                have HB5 : Hid (Below w.heap.size w w5) := Lib.hid (HB2.out.trans (HK5.out.below (by omega) (by omega)))
                clear hst hk5
                have b0 : w5.cell? ⟨w.heap.size, 0, none⟩ = some (.int .i64 0) := HX5.out.cell 0
                have f0 : w5.frozen? ⟨w.heap.size, 0, none⟩ = false := HX5.out.frozen 0
                have b1 : w5.cell? ⟨w.heap.size, 1, none⟩ = some (.int .u32 0) := HX5.out.cell 1
                have f1 : w5.frozen? ⟨w.heap.size, 1, none⟩ = false := HX5.out.frozen 1
                have b2 : w5.cell? ⟨w.heap.size, 2, none⟩ = some (.slice none 0 0) := HX5.out.cell 2
                have f2 : w5.frozen? ⟨w.heap.size, 2, none⟩ = false := HX5.out.frozen 2
                have b3 : w5.cell? ⟨w.heap.size, 3, none⟩ = some (.slice none 0 0) := HX5.out.cell 3
                have f3 : w5.frozen? ⟨w.heap.size, 3, none⟩ = false := HX5.out.frozen 3
                have b4 : w5.cell? ⟨w.heap.size, 4, none⟩ = some (.int .i64 0) := HX5.out.cell 4
                have f4 : w5.frozen? ⟨w.heap.size, 4, none⟩ = false := HX5.out.frozen 4
                have b5 : w5.cell? ⟨w.heap.size, 5, none⟩ = some (.int .i64 0) := HX5.out.cell 5
                have f5 : w5.frozen? ⟨w.heap.size, 5, none⟩ = false := HX5.out.frozen 5
                have b6 : w5.cell? ⟨w.heap.size, 6, none⟩ = some (.int .i64 0) := HX5.out.cell 6
                have f6 : w5.frozen? ⟨w.heap.size, 6, none⟩ = false := HX5.out.frozen 6
                have b7 : w5.cell? ⟨w.heap.size, 7, none⟩ = some (.int .i64 0) := HX5.out.cell 7
                have f7 : w5.frozen? ⟨w.heap.size, 7, none⟩ = false := HX5.out.frozen 7
                have b8 : w5.cell? ⟨w.heap.size, 8, none⟩ = some (.int .i64 0) := HX5.out.cell 8
                have f8 : w5.frozen? ⟨w.heap.size, 8, none⟩ = false := HX5.out.frozen 8
                have b9 : w5.cell? ⟨w.heap.size, 9, none⟩ = some (.int .i64 0) := HX5.out.cell 9
                have f9 : w5.frozen? ⟨w.heap.size, 9, none⟩ = false := HX5.out.frozen 9
                have b10 : w5.cell? ⟨w.heap.size, 10, none⟩ = some (.int .i64 0) := HX5.out.cell 10
                have f10 : w5.frozen? ⟨w.heap.size, 10, none⟩ = false := HX5.out.frozen 10
                go_wp2
                have hq := box_end (.int .i64 0) (.int .u32 0) (.slice none 0 0) (.slice none 0 0) (.int .i64 0) (.int .i64 0) (.int .i64 0) (.int .i64 0) (.int .i64 0) (.int .i64 0) (.int .i64 0) HX5.out
                have hbq := box_below (.int .i64 0) (.int .u32 0) (.slice none 0 0) (.slice none 0 0) (.int .i64 0) (.int .i64 0) (.int .i64 0) (.int .i64 0) (.int .i64 0) (.int .i64 0) (.int .i64 0) HB5.out (Nat.le_refl _)
                have q0 := hq.cell 0
                have q1 := hq.cell 1
                have q2 := hq.cell 2
                have q3 := hq.cell 3
                have q4 := hq.cell 4
                have q5 := hq.cell 5
                have q6 := hq.cell 6
                have q7 := hq.cell 7
                have q8 := hq.cell 8
                have q9 := hq.cell 9
                have q10 := hq.cell 10
                simp at q0 q1 q2 q3 q4 q5 q6 q7 q8 q9 q10
                exact bodyPost_ret (v := .tuple #[cfg0, .int .i64 (k : Int), .int .i64 4]) (by simp [results, Tryz.results15, go_sem, cfg0, q0, q1, q2, q3, q4, q5, q6, q7, q8, q9, q10]) rfl ⟨⟨cfg0, by rw [← HRES.out], by rw [← HRES.out]; exact CfgIs.zero _⟩, hbq⟩
              | some p =>
                obtain ⟨c', t'⟩ := p
                rw [hst] at hres
                obtain ⟨rfl, hr5⟩ : e = .returned (.bool true) ∧ Rd 98 w5 (Rb + 1) Rb c' (t' : Int) := hres
                obtain ⟨st', hG', hI'⟩ := stepR_keep HG.out HI.out hst
                have HRUN5 : Hid (runR (ps.drop (k + 1)) c' (k + 1) t' = RES) := Lib.hid (by have := HRUN3.out; rw [hst] at this; exact this)
                have HR5 := Lib.hid hr5
                have HG5 := Lib.hid hG'
                have HI5 := Lib.hid hI'
                clear hst hk5 hr5 hG' hI'
                go_wp2
                go_roundw
                case rel => exact ⟨k + 1, c', st', t', by go_num, hk1, HRUN5, HR5, HI5, HG5, HK5⟩
                case measure => simp [intOf]; omega
            · have d2 : (((str l)[m].toNat : Int) == 32) = false := by
                rw [ej, beq_eq_false_iff_ne]
                intro h; exact h32 (UInt8.toNat_inj.1 (by have : (32 : UInt8).toNat = 32 := rfl; omega))
              have d2b : ((b.toNat : Int) != 32) = true := by
                rw [bne_iff_ne]
                intro h; exact h32 (UInt8.toNat_inj.1 (by have : (32 : UInt8).toNat = 32 := rfl; omega))
              have HT2 : Hid ((32 : UInt8) ∉ l.take (m + 1)) := Lib.hid (by
                rw [List.take_add_one, List.getElem?_eq_getElem hml, HB.out]
                intro h
                rcases List.mem_append.1 h with h | h
                · exact HT.out h
                · simp at h; exact h32 h.symm)
              go_wp2
              go_roundw
              case rel => exact ⟨m + 1, by omega, by go_num, HT2, by first | rfl | trivial⟩
              case measure => simp [intOf]; omega
          · obtain rfl : m = l.length := by omega
            have HRES : Hid (({}, k, 4) = RES) := Lib.hid (by
              have := HRUN2.out
              rw [if_neg (by have := HT.out; rw [List.take_length] at this; exact this)] at this; exact this)
            have d3 : ((l.length : Int) == (l.length : Int)) = true := by simp
            have b0 : wr.cell? ⟨w.heap.size, 0, none⟩ = some (.int .i64 0) := HX.out.cell 0
            have f0 : wr.frozen? ⟨w.heap.size, 0, none⟩ = false := HX.out.frozen 0
            have b1 : wr.cell? ⟨w.heap.size, 1, none⟩ = some (.int .u32 0) := HX.out.cell 1
            have f1 : wr.frozen? ⟨w.heap.size, 1, none⟩ = false := HX.out.frozen 1
            have b2 : wr.cell? ⟨w.heap.size, 2, none⟩ = some (.slice none 0 0) := HX.out.cell 2
            have f2 : wr.frozen? ⟨w.heap.size, 2, none⟩ = false := HX.out.frozen 2
            have b3 : wr.cell? ⟨w.heap.size, 3, none⟩ = some (.slice none 0 0) := HX.out.cell 3
            have f3 : wr.frozen? ⟨w.heap.size, 3, none⟩ = false := HX.out.frozen 3
            have b4 : wr.cell? ⟨w.heap.size, 4, none⟩ = some (.int .i64 0) := HX.out.cell 4
            have f4 : wr.frozen? ⟨w.heap.size, 4, none⟩ = false := HX.out.frozen 4
            have b5 : wr.cell? ⟨w.heap.size, 5, none⟩ = some (.int .i64 0) := HX.out.cell 5
            have f5 : wr.frozen? ⟨w.heap.size, 5, none⟩ = false := HX.out.frozen 5
            have b6 : wr.cell? ⟨w.heap.size, 6, none⟩ = some (.int .i64 0) := HX.out.cell 6
            have f6 : wr.frozen? ⟨w.heap.size, 6, none⟩ = false := HX.out.frozen 6
            have b7 : wr.cell? ⟨w.heap.size, 7, none⟩ = some (.int .i64 0) := HX.out.cell 7
            have f7 : wr.frozen? ⟨w.heap.size, 7, none⟩ = false := HX.out.frozen 7
            have b8 : wr.cell? ⟨w.heap.size, 8, none⟩ = some (.int .i64 0) := HX.out.cell 8
            have f8 : wr.frozen? ⟨w.heap.size, 8, none⟩ = false := HX.out.frozen 8
            have b9 : wr.cell? ⟨w.heap.size, 9, none⟩ = some (.int .i64 0) := HX.out.cell 9
            have f9 : wr.frozen? ⟨w.heap.size, 9, none⟩ = false := HX.out.frozen 9
            have b10 : wr.cell? ⟨w.heap.size, 10, none⟩ = some (.int .i64 0) := HX.out.cell 10
            have f10 : wr.frozen? ⟨w.heap.size, 10, none⟩ = false := HX.out.frozen 10
            go_upto_region 15 with fail
            refine wp_region_ext_tail 23 (by kernel_rfl) (by kernel_rfl) ?_
            simp only [List.take_succ_cons, List.take_zero, List.drop_succ_cons, List.drop_zero]
            repeat (go_big_quiet_step (fail))
            refine wpQuiet_nil ?_
            rintro _ ⟨y, rfl⟩
            have HX6 := Lib.hid (HX.out.here y.below)
            have HB6 := Lib.hid (Ext.lift y HBW.out)
            clear b0 b1 b2 b3 b4 b5 b6 b7 b8 b9 b10 f0 f1 f2 f3 f4 f5 f6 f7 f8 f9 f10
            have b0 : y.w.cell? ⟨w.heap.size, 0, none⟩ = some (.int .i64 0) := HX6.out.cell 0
            have f0 : y.w.frozen? ⟨w.heap.size, 0, none⟩ = false := HX6.out.frozen 0
            have b1 : y.w.cell? ⟨w.heap.size, 1, none⟩ = some (.int .u32 0) := HX6.out.cell 1
            have f1 : y.w.frozen? ⟨w.heap.size, 1, none⟩ = false := HX6.out.frozen 1
            have b2 : y.w.cell? ⟨w.heap.size, 2, none⟩ = some (.slice none 0 0) := HX6.out.cell 2
            have f2 : y.w.frozen? ⟨w.heap.size, 2, none⟩ = false := HX6.out.frozen 2
            have b3 : y.w.cell? ⟨w.heap.size, 3, none⟩ = some (.slice none 0 0) := HX6.out.cell 3
            have f3 : y.w.frozen? ⟨w.heap.size, 3, none⟩ = false := HX6.out.frozen 3
            have b4 : y.w.cell? ⟨w.heap.size, 4, none⟩ = some (.int .i64 0) := HX6.out.cell 4
            have f4 : y.w.frozen? ⟨w.heap.size, 4, none⟩ = false := HX6.out.frozen 4
            have b5 : y.w.cell? ⟨w.heap.size, 5, none⟩ = some (.int .i64 0) := HX6.out.cell 5
            have f5 : y.w.frozen? ⟨w.heap.size, 5, none⟩ = false := HX6.out.frozen 5
            have b6 : y.w.cell? ⟨w.heap.size, 6, none⟩ = some (.int .i64 0) := HX6.out.cell 6
            have f6 : y.w.frozen? ⟨w.heap.size, 6, none⟩ = false := HX6.out.frozen 6
            have b7 : y.w.cell? ⟨w.heap.size, 7, none⟩ = some (.int .i64 0) := HX6.out.cell 7
            have f7 : y.w.frozen? ⟨w.heap.size, 7, none⟩ = false := HX6.out.frozen 7
            have b8 : y.w.cell? ⟨w.heap.size, 8, none⟩ = some (.int .i64 0) := HX6.out.cell 8
            have f8 : y.w.frozen? ⟨w.heap.size, 8, none⟩ = false := HX6.out.frozen 8
            have b9 : y.w.cell? ⟨w.heap.size, 9, none⟩ = some (.int .i64 0) := HX6.out.cell 9
            have f9 : y.w.frozen? ⟨w.heap.size, 9, none⟩ = false := HX6.out.frozen 9
            have b10 : y.w.cell? ⟨w.heap.size, 10, none⟩ = some (.int .i64 0) := HX6.out.cell 10
            have f10 : y.w.frozen? ⟨w.heap.size, 10, none⟩ = false := HX6.out.frozen 10
            go_wp2
            have hq := box_end (.int .i64 0) (.int .u32 0) (.slice none 0 0) (.slice none 0 0) (.int .i64 0) (.int .i64 0) (.int .i64 0) (.int .i64 0) (.int .i64 0) (.int .i64 0) (.int .i64 0) HX6.out
            have hbq := box_below (.int .i64 0) (.int .u32 0) (.slice none 0 0) (.slice none 0 0) (.int .i64 0) (.int .i64 0) (.int .i64 0) (.int .i64 0) (.int .i64 0) (.int .i64 0) (.int .i64 0) HB6.out (Nat.le_refl _)
            have q0 := hq.cell 0
            have q1 := hq.cell 1
            have q2 := hq.cell 2
            have q3 := hq.cell 3
            have q4 := hq.cell 4
            have q5 := hq.cell 5
            have q6 := hq.cell 6
            have q7 := hq.cell 7
            have q8 := hq.cell 8
            have q9 := hq.cell 9
            have q10 := hq.cell 10
            simp at q0 q1 q2 q3 q4 q5 q6 q7 q8 q9 q10
            exact bodyPost_ret (v := .tuple #[cfg0, .int .i64 (k : Int), .int .i64 4]) (by simp [results, Tryz.results15, go_sem, cfg0, q0, q1, q2, q3, q4, q5, q6, q7, q8, q9, q10]) rfl ⟨⟨cfg0, by rw [← HRES.out], by rw [← HRES.out]; exact CfgIs.zero _⟩, hbq⟩
end Go.Proofs.YtfbangojgjcbcaaGreatDoor
