/- The walk of the law ConfMeans: it answers true. -/
import Derived.Test.YtfbangojgjcbcaaGreatDoorLConfTexts
import Derived.Test.YtfbangojgjcbcaaGreatDoorAddrR
namespace Go.Proofs.YtfbangojgjcbcaaGreatDoor
open Go.RowKit Pl

theorem parse_short {c : Cfg} (h : mayC c = true) (hA : Addrs4 c) : ∃ n, parseC ((textP c).take ((textP c).length - 1)) = ({}, n, 4) := by
  obtain ⟨h1, h2⟩ := lines_len h
  have hn0 : 0 < (linesP c).length := by unfold linesP; rw [List.length_append, tails_len]; omega
  obtain ⟨j, hj⟩ : ∃ j, (linesP c).length = j + 1 := ⟨(linesP c).length - 1, by omega⟩
  obtain ⟨l, hl⟩ : ∃ l, (linesP c)[j]? = some l := ⟨_, List.getElem?_eq_getElem (by omega)⟩
  have htk : linesP c = (linesP c).take j ++ [l] := by
    have h3 : (linesP c).take (j + 1) = linesP c := List.take_of_length_le (by omega)
    rw [List.take_add_one, hl] at h3
    exact h3.symm
  have hlm : l ∈ linesP c := List.mem_of_getElem? hl
  obtain ⟨c', st', hr, hst⟩ := runL_cut h hA (j := j) (by omega)
  have hlen := flat_len ((linesP c).take j) fun l hl => h1 l (List.mem_of_mem_take hl)
  have hjl : ((linesP c).take j).length = j := by simp; omega
  have e1 : textP c = ((linesP c).take j).flatMap (· ++ [10]) ++ l ++ [10] := by
    show (linesP c).flatMap (· ++ [10]) = _
    conv => lhs; rw [htk]
    simp
  have e2 : (textP c).take ((textP c).length - 1) = ((linesP c).take j).flatMap (· ++ [10]) ++ l := by
    rw [e1, List.length_append]
    exact List.take_left' (by simp)
  have hne : l ≠ [] := by
    rintro rfl
    have hcut := runL_all h hA
    rw [htk, runL_append, hr] at hcut
    simp [runL] at hcut
  have h40 := h1 l hlm
  refine ⟨j, ?_⟩
  rw [e2]
  unfold parseC
  rw [if_neg (by rw [List.length_append]; omega)]
  rw [split_lines ((linesP c).take j) l (fun l hl => lines_no h l (List.mem_of_mem_take hl)), splitOn_none 10 l (lines_no h l hlm), runC_lines _ l [] {} 0 0 c' st' hr, hjl]
  simp [runC, hne]

set_option maxRecDepth 100000 in
set_option maxHeartbeats 8000000 in
theorem confMeans_walk (v0 : Value) (c : Cfg) (text : List UInt8) (w : World) (h : CfgIs w v0 c) (hA : Addrs4 c) (_hl : text.length ≤ maxLen) (E : Env w) :
    Calls Tryz.prog 7 #[v0, .string (str text)] w fun e w' => e = .returned (.bool true) ∧ Below w.heap.size w w' := by
  have HC := h
  obtain ⟨own, ports, rfl, hO, hP⟩ := h.is
  obtain ⟨A1, k1, rfl, -⟩ := hO
  obtain ⟨A2, k2, rfl, -⟩ := hP
  clear h
  unfold cfgV at HC ⊢
  obtain ⟨W0, hW0⟩ : ∃ W0, w.alloc (.cells #[.int .i64 c.node, .int .u32 c.addr, .slice A1 c.own.length k1, .slice A2 c.ports.length k2, .int .i64 c.hello, .int .i64 c.dead, .int .i64 c.again, .int .i64 c.room, .int .i64 c.queue, .int .i64 c.tokens, .int .i64 c.refill] 28) = W0 := ⟨_, rfl⟩
  have HBW : Hid (Below w.heap.size w W0) := Lib.hid (by rw [← hW0]; exact (Below.refl _ _).alloc (Nat.le_refl _) _)
  have HX : Hid (Whole W0 w.heap.size 28 #[.int .i64 c.node, .int .u32 c.addr, .slice A1 c.own.length k1, .slice A2 c.ports.length k2, .int .i64 c.hello, .int .i64 c.dead, .int .i64 c.again, .int .i64 c.room, .int .i64 c.queue, .int .i64 c.tokens, .int .i64 c.refill]) := Lib.hid (by rw [← hW0]; exact Whole.new w _ _)
  have hlt1 := HX.out.lt
  have HW0 := Lib.hid hW0
  have E0 := Lib.hid (E.here HBW.out)
  have HA := Lib.hid hA
  have HC := Lib.hid (HC.below HBW.out)
  clear hW0 hA E
  have HFC : Hid (∀ y : Ext W0, Calls Tryz.prog 19 #[.agg #[.int .i64 c.node, .int .u32 c.addr, .slice A1 c.own.length k1, .slice A2 c.ports.length k2, .int .i64 c.hello, .int .i64 c.dead, .int .i64 c.again, .int .i64 c.room, .int .i64 c.queue, .int .i64 c.tokens, .int .i64 c.refill]] y.w fun e w' => e = .returned (.bool (decide (c.own.length ≤ 300) && decide (c.ports.length ≤ 300))) ∧ Below y.w.heap.size y.w w') := Lib.hid (fun y => few19_any _ c y.w (HC.out.below y.below))
  have HK : Hid (Calls Tryz.prog 13 #[] W0 fun e w' => e = .returned (.bool true) ∧ Below W0.heap.size W0 w') := Lib.hid (known19_any W0 E0.out)
  have y0 : W0.cell? ⟨w.heap.size, 0, none⟩ = some (.int .i64 c.node) := HX.out.cell 0
  have y1 : W0.cell? ⟨w.heap.size, 1, none⟩ = some (.int .u32 c.addr) := HX.out.cell 1
  have y2 : W0.cell? ⟨w.heap.size, 2, none⟩ = some (.slice A1 c.own.length k1) := HX.out.cell 2
  have y3 : W0.cell? ⟨w.heap.size, 3, none⟩ = some (.slice A2 c.ports.length k2) := HX.out.cell 3
  have y4 : W0.cell? ⟨w.heap.size, 4, none⟩ = some (.int .i64 c.hello) := HX.out.cell 4
  have y5 : W0.cell? ⟨w.heap.size, 5, none⟩ = some (.int .i64 c.dead) := HX.out.cell 5
  have y6 : W0.cell? ⟨w.heap.size, 6, none⟩ = some (.int .i64 c.again) := HX.out.cell 6
  have y7 : W0.cell? ⟨w.heap.size, 7, none⟩ = some (.int .i64 c.room) := HX.out.cell 7
  have y8 : W0.cell? ⟨w.heap.size, 8, none⟩ = some (.int .i64 c.queue) := HX.out.cell 8
  have y9 : W0.cell? ⟨w.heap.size, 9, none⟩ = some (.int .i64 c.tokens) := HX.out.cell 9
  have y10 : W0.cell? ⟨w.heap.size, 10, none⟩ = some (.int .i64 c.refill) := HX.out.cell 10
  have hsz : (str text).size = text.length := str_size text
  by_cases h2 : text.length ≤ 20000
  · have h2' : decide (((str text).size : Int) ≤ (20000 : Int)) = true := decide_eq_true (by rw [hsz]; omega)
    obtain ⟨d, n, e, hp⟩ : ∃ c n e, parseC text = (c, n, e) := ⟨_, _, _, rfl⟩
    have HPT := Lib.hid (fun W (hb : Below W0.heap.size W0 W) => parse_at text d n e W (by omega) (E0.out.here hb) hp)
    have HP := Lib.hid hp
    have HSZ := Lib.hid hsz
    clear hsz hp
    go_enter Tryz.func7, Tryz.ntmps7
    go_upto_region 1 with fail
    rw [HW0.out]
    go_wp2_with fail
    refine (ext_of HK.out).mono ?_
    rintro e1 w' ⟨rfl, x0, rfl⟩
    go_wp2_with fail
    refine (HPT.out _ x0.below).mono ?_
    rintro en w1 ⟨⟨D1, m1, D2, m2, he, hDO, hDP⟩, hb1⟩
    unfold cfgV at he
    subst he
    have HB1 := Lib.hid (x0.below.trans (hb1.mono x0.below.size))
    obtain ⟨W1, hW1⟩ : ∃ W1, w1.alloc (.cells #[.int .i64 d.node, .int .u32 d.addr, .slice D1 d.own.length m1, .slice D2 d.ports.length m2, .int .i64 d.hello, .int .i64 d.dead, .int .i64 d.again, .int .i64 d.room, .int .i64 d.queue, .int .i64 d.tokens, .int .i64 d.refill] 28) = W1 := ⟨_, rfl⟩
    have HB2 : Hid (Below W0.heap.size W0 W1) := Lib.hid (by rw [← hW1]; exact HB1.out.alloc HB1.out.size _)
    have HDX : Hid (Whole W1 w1.heap.size 28 #[.int .i64 d.node, .int .u32 d.addr, .slice D1 d.own.length m1, .slice D2 d.ports.length m2, .int .i64 d.hello, .int .i64 d.dead, .int .i64 d.again, .int .i64 d.room, .int .i64 d.queue, .int .i64 d.tokens, .int .i64 d.refill]) := Lib.hid (by rw [← hW1]; exact Whole.new w1 _ _)
    have HW1 := Lib.hid hW1
    have hDO' : Rs .u32 W1 (.slice D1 d.own.length m1) d.own := by rw [← hW1]; exact hDO.alloc _
    have hDP' : Rs .i64 W1 (.slice D2 d.ports.length m2) d.ports := by rw [← hW1]; exact hDP.alloc _
    have HCD : Hid (CfgIs W1 (.agg #[.int .i64 d.node, .int .u32 d.addr, .slice D1 d.own.length m1, .slice D2 d.ports.length m2, .int .i64 d.hello, .int .i64 d.dead, .int .i64 d.again, .int .i64 d.room, .int .i64 d.queue, .int .i64 d.tokens, .int .i64 d.refill]) d) := Lib.hid ⟨_, _, rfl, hDO', hDP'⟩
    clear hDO hDP hb1 hDO' hDP' hW1
    by_cases he0 : e = 0
    · subst he0
      obtain ⟨-, hmd, hAd, htd⟩ := parse_sound HP.out
      have hdl := ownOk_le (mayC_parts hmd).1
      have hdp := (mayC_parts hmd).2.1
      have HTD : Hid (∀ y : Ext W1, Calls Tryz.prog 22 #[.agg #[.int .i64 d.node, .int .u32 d.addr, .slice D1 d.own.length m1, .slice D2 d.ports.length m2, .int .i64 d.hello, .int .i64 d.dead, .int .i64 d.again, .int .i64 d.room, .int .i64 d.queue, .int .i64 d.tokens, .int .i64 d.refill]] y.w fun e w' => e = .returned (.tuple #[.string (str text), .int .i64 0]) ∧ Below y.w.heap.size y.w w') := Lib.hid (fun y => by
        have := ctext_yes _ d y.w (HCD.out.below y.below) hAd hmd ((E0.out.here HB2.out).here y.below)
        rw [htd] at this
        exact this)
      have HMD : Hid (∀ y : Ext W1, Calls Tryz.prog 23 #[.agg #[.int .i64 d.node, .int .u32 d.addr, .slice D1 d.own.length m1, .slice D2 d.ports.length m2, .int .i64 d.hello, .int .i64 d.dead, .int .i64 d.again, .int .i64 d.room, .int .i64 d.queue, .int .i64 d.tokens, .int .i64 d.refill]] y.w fun e w' => e = .returned (.bool true) ∧ Below y.w.heap.size y.w w') := Lib.hid (fun y => by
        have := may_any' _ d y.w (HCD.out.below y.below) hAd (by omega) (by omega)
        rw [hmd] at this
        exact this)
      have HOD : Hid (∀ y : Ext W1, Calls Tryz.prog 24 #[.agg #[.int .i64 d.node, .int .u32 d.addr, .slice D1 d.own.length m1, .slice D2 d.ports.length m2, .int .i64 d.hello, .int .i64 d.dead, .int .i64 d.again, .int .i64 d.room, .int .i64 d.queue, .int .i64 d.tokens, .int .i64 d.refill], .int .u32 d.addr] y.w fun e w' => e = .returned (.bool true) ∧ Below y.w.heap.size y.w w') := Lib.hid (fun y => by
        have := owns_any _ d d.addr y.w (HCD.out.below y.below) hAd hAd.1 (by omega) (by omega)
        rw [hmd, (mayC_parts hmd).2.2.2.1] at this
        exact this)
      clear hmd hAd htd hdl hdp
      have hltd := HDX.out.lt
      have z0 : W1.cell? ⟨w1.heap.size, 0, none⟩ = some (.int .i64 d.node) := HDX.out.cell 0
      have z1 : W1.cell? ⟨w1.heap.size, 1, none⟩ = some (.int .u32 d.addr) := HDX.out.cell 1
      have z2 : W1.cell? ⟨w1.heap.size, 2, none⟩ = some (.slice D1 d.own.length m1) := HDX.out.cell 2
      have z3 : W1.cell? ⟨w1.heap.size, 3, none⟩ = some (.slice D2 d.ports.length m2) := HDX.out.cell 3
      have z4 : W1.cell? ⟨w1.heap.size, 4, none⟩ = some (.int .i64 d.hello) := HDX.out.cell 4
      have z5 : W1.cell? ⟨w1.heap.size, 5, none⟩ = some (.int .i64 d.dead) := HDX.out.cell 5
      have z6 : W1.cell? ⟨w1.heap.size, 6, none⟩ = some (.int .i64 d.again) := HDX.out.cell 6
      have z7 : W1.cell? ⟨w1.heap.size, 7, none⟩ = some (.int .i64 d.room) := HDX.out.cell 7
      have z8 : W1.cell? ⟨w1.heap.size, 8, none⟩ = some (.int .i64 d.queue) := HDX.out.cell 8
      have z9 : W1.cell? ⟨w1.heap.size, 9, none⟩ = some (.int .i64 d.tokens) := HDX.out.cell 9
      have z10 : W1.cell? ⟨w1.heap.size, 10, none⟩ = some (.int .i64 d.refill) := HDX.out.cell 10
      go_upto_region 5 with fail
      rw [HW1.out]
      go_upto_region 9 with (first
        | (go_at_call 17; refine (num19_any _ _).mono ?_; rintro e w' ⟨rfl, rfl⟩)
        | (go_at_call 22; with_reducible refine (ext_of (HTD.out ⟨W1, Below.refl _ _⟩)).mono ?_; rintro e w' ⟨rfl, u1, rfl⟩)
        | (go_at_call 23; refine (Ext.call (HMD.out u1)).mono ?_; rintro e w' ⟨rfl, u2, rfl⟩)
        | (go_at_call 24; refine (Ext.call (HOD.out u2)).mono ?_; rintro e w' ⟨rfl, u3, rfl⟩))
      obtain ⟨x, hx⟩ : ∃ x : Ext W0, x.w = u3.w := ⟨⟨u3.w, HB2.out.trans (u3.below.mono HB2.out.size)⟩, rfl⟩
      rw [← hx]
      clear hx HTD HMD HOD HCD HDX HW1 HPT HP HB1 HB2 z0 z1 z2 z3 z4 z5 z6 z7 z8 z9 z10 hltd
      cases hf : (decide (c.own.length ≤ 300) && decide (c.ports.length ≤ 300)) with
      | false =>
        rw [hf] at HFC
        clear hf
        go_wp2_with (go_at_call 19; refine (Ext.call (HFC.out x)).mono ?_; rintro e w' ⟨rfl, y, rfl⟩)
        go_ret
        exact ⟨by rfl, HBW.out.trans (y.below.mono HBW.out.size)⟩
      | true =>
        rw [hf] at HFC
        simp only [Bool.and_eq_true, decide_eq_true_eq] at hf
        obtain ⟨hl, hp⟩ := hf
        cases hm : mayC c with
        | false =>
          have HTX := Lib.hid (fun y : Ext W0 => ctext_no _ c y.w (HC.out.below y.below) HA.out (by omega) (by omega) hm)
          clear hm
          go_wp2_with fail
          refine (Ext.call (HFC.out x)).mono ?_
          rintro e w' ⟨rfl, y, rfl⟩
          go_wp2_with fail
          refine (Ext.call (HTX.out y)).mono ?_
          rintro e w' ⟨rfl, y2, rfl⟩
          go_wp2_with (go_at_call 17; refine (num19_any _ _).mono ?_; rintro e w' ⟨rfl, rfl⟩)
          go_ret
          exact ⟨by rfl, HBW.out.trans (y2.below.mono HBW.out.size)⟩
        | true =>
          have HTX := Lib.hid (fun y : Ext W0 => ctext_yes _ c y.w (HC.out.below y.below) HA.out hm (E0.out.here y.below))
          obtain ⟨pn, hpn⟩ := parse_short hm HA.out
          have hpt := parse_text hm HA.out
          have hlen4 : (textP c).length ≤ 4096 := hpt.2
          have hne : 0 < (textP c).length := by
            rcases Nat.eq_zero_or_pos (textP c).length with h0 | h0
            · have h1 := hpt.1
              rw [List.eq_nil_of_length_eq_zero h0] at h1
              have h2 := congrArg (fun q : Cfg × Nat × Int => q.2.2) h1
              exact absurd (show (4 : Int) = 0 from h2) (by decide)
            · exact h0
          have hsz : (str (textP c)).size = (textP c).length := str_size _
          have esl : str (textP c) = str (textP c) := rfl
          have HP1 := Lib.hid (fun y : Ext W0 => parse_at (textP c) c 0 0 y.w (by omega) (E0.out.here y.below) hpt.1)
          have HP2 := Lib.hid (fun W (hb : Below W0.heap.size W0 W) => parse_at ((textP c).take ((textP c).length - 1)) {} pn 4 W (by rw [List.length_take]; omega) (E0.out.here hb) hpn)
          clear hm hpt hpn esl
          go_wp2_with fail
          refine (Ext.call (HFC.out x)).mono ?_
          rintro e w' ⟨rfl, y, rfl⟩
          go_wp2_with fail
          refine (Ext.call (HTX.out y)).mono ?_
          rintro e w' ⟨rfl, y2, rfl⟩
          go_upto_region 14 with (go_at_call 17; refine (num19_any _ _).mono ?_; rintro e w' ⟨rfl, rfl⟩)
          go_wp2_with fail
          refine (HP1.out y2).mono ?_
          rintro en w3 ⟨⟨P1, n1, P2, n2, he, hPO, hPP⟩, hb3⟩
          unfold cfgV at he
          subst he
          have hB3 := y2.below.trans (hb3.mono y2.below.size)
          obtain ⟨W4, hW4⟩ : ∃ W4, w3.alloc (.cells #[.int .i64 c.node, .int .u32 c.addr, .slice P1 c.own.length n1, .slice P2 c.ports.length n2, .int .i64 c.hello, .int .i64 c.dead, .int .i64 c.again, .int .i64 c.room, .int .i64 c.queue, .int .i64 c.tokens, .int .i64 c.refill] 28) = W4 := ⟨_, rfl⟩
          have HB4 : Hid (Below W0.heap.size W0 W4) := Lib.hid (by rw [← hW4]; exact hB3.alloc hB3.size _)
          have HPX : Hid (Whole W4 w3.heap.size 28 #[.int .i64 c.node, .int .u32 c.addr, .slice P1 c.own.length n1, .slice P2 c.ports.length n2, .int .i64 c.hello, .int .i64 c.dead, .int .i64 c.again, .int .i64 c.room, .int .i64 c.queue, .int .i64 c.tokens, .int .i64 c.refill]) := Lib.hid (by rw [← hW4]; exact Whole.new w3 _ _)
          have hPO' : Rs .u32 W4 (.slice P1 c.own.length n1) c.own := by rw [← hW4]; exact hPO.alloc _
          have hPP' : Rs .i64 W4 (.slice P2 c.ports.length n2) c.ports := by rw [← hW4]; exact hPP.alloc _
          have HCP : Hid (CfgIs W4 (.agg #[.int .i64 c.node, .int .u32 c.addr, .slice P1 c.own.length n1, .slice P2 c.ports.length n2, .int .i64 c.hello, .int .i64 c.dead, .int .i64 c.again, .int .i64 c.room, .int .i64 c.queue, .int .i64 c.tokens, .int .i64 c.refill]) c) := Lib.hid ⟨_, _, rfl, hPO', hPP'⟩
          have HW4 := Lib.hid hW4
          clear hPO hPP hb3 hPO' hPP' hB3 hW4
          go_upto_region 15 with fail
          rw [HW4.out]
          have hsub : IntKind.i64.wrap (((textP c).length : Int) - 1) = ((textP c).length : Int) - 1 := IntWalk.i64_in _ (by omega)
          go_wp2_with fail
          rw [str_cut, List.drop_zero, Nat.sub_zero]
          refine (HP2.out W4 HB4.out).mono ?_
          rintro en w5 ⟨⟨Z1, o1, Z2, o2, he, -, -⟩, hb5⟩
          unfold cfgV at he
          subst he
          have HB5 := Lib.hid hb5
          clear hb5
          go_upto_region 16 with fail
          obtain ⟨W5, hW5⟩ : ∃ W5, w5.alloc (.cells #[.int .i64 0, .int .u32 0, .slice Z1 0 o1, .slice Z2 0 o2, .int .i64 0, .int .i64 0, .int .i64 0, .int .i64 0, .int .i64 0, .int .i64 0, .int .i64 0] 28) = W5 := ⟨_, rfl⟩
          have HB6 : Hid (Below W4.heap.size W4 W5) := Lib.hid (by rw [← hW5]; exact HB5.out.alloc HB5.out.size _)
          rw [hW5]
          have hP5 := HPX.out.here HB6.out
          have hX5 := (HX.out.here HB4.out).here HB6.out
          have hltx := hX5.lt
          have hltp := hP5.lt
          have r0 : W5.cell? ⟨w.heap.size, 0, none⟩ = some (.int .i64 c.node) := hX5.cell 0
          have r1 : W5.cell? ⟨w.heap.size, 1, none⟩ = some (.int .u32 c.addr) := hX5.cell 1
          have r2 : W5.cell? ⟨w.heap.size, 2, none⟩ = some (.slice A1 c.own.length k1) := hX5.cell 2
          have r3 : W5.cell? ⟨w.heap.size, 3, none⟩ = some (.slice A2 c.ports.length k2) := hX5.cell 3
          have r4 : W5.cell? ⟨w.heap.size, 4, none⟩ = some (.int .i64 c.hello) := hX5.cell 4
          have r5 : W5.cell? ⟨w.heap.size, 5, none⟩ = some (.int .i64 c.dead) := hX5.cell 5
          have r6 : W5.cell? ⟨w.heap.size, 6, none⟩ = some (.int .i64 c.again) := hX5.cell 6
          have r7 : W5.cell? ⟨w.heap.size, 7, none⟩ = some (.int .i64 c.room) := hX5.cell 7
          have r8 : W5.cell? ⟨w.heap.size, 8, none⟩ = some (.int .i64 c.queue) := hX5.cell 8
          have r9 : W5.cell? ⟨w.heap.size, 9, none⟩ = some (.int .i64 c.tokens) := hX5.cell 9
          have r10 : W5.cell? ⟨w.heap.size, 10, none⟩ = some (.int .i64 c.refill) := hX5.cell 10
          have s0 : W5.cell? ⟨w3.heap.size, 0, none⟩ = some (.int .i64 c.node) := hP5.cell 0
          have s1 : W5.cell? ⟨w3.heap.size, 1, none⟩ = some (.int .u32 c.addr) := hP5.cell 1
          have s2 : W5.cell? ⟨w3.heap.size, 2, none⟩ = some (.slice P1 c.own.length n1) := hP5.cell 2
          have s3 : W5.cell? ⟨w3.heap.size, 3, none⟩ = some (.slice P2 c.ports.length n2) := hP5.cell 3
          have s4 : W5.cell? ⟨w3.heap.size, 4, none⟩ = some (.int .i64 c.hello) := hP5.cell 4
          have s5 : W5.cell? ⟨w3.heap.size, 5, none⟩ = some (.int .i64 c.dead) := hP5.cell 5
          have s6 : W5.cell? ⟨w3.heap.size, 6, none⟩ = some (.int .i64 c.again) := hP5.cell 6
          have s7 : W5.cell? ⟨w3.heap.size, 7, none⟩ = some (.int .i64 c.room) := hP5.cell 7
          have s8 : W5.cell? ⟨w3.heap.size, 8, none⟩ = some (.int .i64 c.queue) := hP5.cell 8
          have s9 : W5.cell? ⟨w3.heap.size, 9, none⟩ = some (.int .i64 c.tokens) := hP5.cell 9
          have s10 : W5.cell? ⟨w3.heap.size, 10, none⟩ = some (.int .i64 c.refill) := hP5.cell 10
          have HSM : Hid (Calls Tryz.prog 26 #[.agg #[.int .i64 c.node, .int .u32 c.addr, .slice A1 c.own.length k1, .slice A2 c.ports.length k2, .int .i64 c.hello, .int .i64 c.dead, .int .i64 c.again, .int .i64 c.room, .int .i64 c.queue, .int .i64 c.tokens, .int .i64 c.refill], .agg #[.int .i64 c.node, .int .u32 c.addr, .slice P1 c.own.length n1, .slice P2 c.ports.length n2, .int .i64 c.hello, .int .i64 c.dead, .int .i64 c.again, .int .i64 c.room, .int .i64 c.queue, .int .i64 c.tokens, .int .i64 c.refill]] W5 fun e w' => e = .returned (.bool true) ∧ Below W5.heap.size W5 w') := Lib.hid (by
            have := csame_any _ _ c c W5 ((HC.out.below HB4.out).below HB6.out) (HCP.out.below HB6.out) (by omega) (by omega) (by omega) (by omega)
            rw [sameC_self] at this
            exact this)
          have HB7 := Lib.hid (HBW.out.trans ((HB4.out.trans (HB6.out.mono HB4.out.size)).mono HBW.out.size))
          clear hP5 hX5 hW5 hsub
          go_wp2_with (first
            | (go_at_call 17; refine (num19_any _ _).mono ?_; rintro e w' ⟨rfl, rfl⟩)
            | (go_at_call 26; with_reducible refine (ext_of HSM.out).mono ?_; rintro e w' ⟨rfl, z, rfl⟩))
          go_ret
          have hd : decide (((textP c).length : Int) ≤ 4096) = true := decide_eq_true (by omega)
          refine ⟨?_, HB7.out.trans (z.below.mono HB7.out.size)⟩
          show Ending.returned (.bool (decide (((textP c).length : Int) ≤ 4096))) = _
          rw [hd]
    · have d0 : (e == 0) = false := by simpa using he0
      go_upto_region 5 with fail
      rw [HW1.out]
      go_upto_region 9 with (go_at_call 17; refine (num19_any _ _).mono ?_; rintro e w' ⟨rfl, rfl⟩)
      obtain ⟨x, hx⟩ : ∃ x : Ext W0, x.w = W1 := ⟨⟨W1, HB2.out⟩, rfl⟩
      rw [← hx]
      clear hx HCD HDX HW1 HPT HP HB1 HB2 d0
      cases hf : (decide (c.own.length ≤ 300) && decide (c.ports.length ≤ 300)) with
      | false =>
        rw [hf] at HFC
        clear hf
        go_wp2_with (go_at_call 19; refine (Ext.call (HFC.out x)).mono ?_; rintro e w' ⟨rfl, y, rfl⟩)
        go_ret
        exact ⟨by rfl, HBW.out.trans (y.below.mono HBW.out.size)⟩
      | true =>
        rw [hf] at HFC
        simp only [Bool.and_eq_true, decide_eq_true_eq] at hf
        obtain ⟨hl, hp⟩ := hf
        cases hm : mayC c with
        | false =>
          have HTX := Lib.hid (fun y : Ext W0 => ctext_no _ c y.w (HC.out.below y.below) HA.out (by omega) (by omega) hm)
          clear hm
          go_wp2_with fail
          refine (Ext.call (HFC.out x)).mono ?_
          rintro e w' ⟨rfl, y, rfl⟩
          go_wp2_with fail
          refine (Ext.call (HTX.out y)).mono ?_
          rintro e w' ⟨rfl, y2, rfl⟩
          go_wp2_with (go_at_call 17; refine (num19_any _ _).mono ?_; rintro e w' ⟨rfl, rfl⟩)
          go_ret
          exact ⟨by rfl, HBW.out.trans (y2.below.mono HBW.out.size)⟩
        | true =>
          have HTX := Lib.hid (fun y : Ext W0 => ctext_yes _ c y.w (HC.out.below y.below) HA.out hm (E0.out.here y.below))
          obtain ⟨pn, hpn⟩ := parse_short hm HA.out
          have hpt := parse_text hm HA.out
          have hlen4 : (textP c).length ≤ 4096 := hpt.2
          have hne : 0 < (textP c).length := by
            rcases Nat.eq_zero_or_pos (textP c).length with h0 | h0
            · have h1 := hpt.1
              rw [List.eq_nil_of_length_eq_zero h0] at h1
              have h2 := congrArg (fun q : Cfg × Nat × Int => q.2.2) h1
              exact absurd (show (4 : Int) = 0 from h2) (by decide)
            · exact h0
          have hsz : (str (textP c)).size = (textP c).length := str_size _
          have esl : str (textP c) = str (textP c) := rfl
          have HP1 := Lib.hid (fun y : Ext W0 => parse_at (textP c) c 0 0 y.w (by omega) (E0.out.here y.below) hpt.1)
          have HP2 := Lib.hid (fun W (hb : Below W0.heap.size W0 W) => parse_at ((textP c).take ((textP c).length - 1)) {} pn 4 W (by rw [List.length_take]; omega) (E0.out.here hb) hpn)
          clear hm hpt hpn esl
          go_wp2_with fail
          refine (Ext.call (HFC.out x)).mono ?_
          rintro e w' ⟨rfl, y, rfl⟩
          go_wp2_with fail
          refine (Ext.call (HTX.out y)).mono ?_
          rintro e w' ⟨rfl, y2, rfl⟩
          go_upto_region 14 with (go_at_call 17; refine (num19_any _ _).mono ?_; rintro e w' ⟨rfl, rfl⟩)
          go_wp2_with fail
          refine (HP1.out y2).mono ?_
          rintro en w3 ⟨⟨P1, n1, P2, n2, he, hPO, hPP⟩, hb3⟩
          unfold cfgV at he
          subst he
          have hB3 := y2.below.trans (hb3.mono y2.below.size)
          obtain ⟨W4, hW4⟩ : ∃ W4, w3.alloc (.cells #[.int .i64 c.node, .int .u32 c.addr, .slice P1 c.own.length n1, .slice P2 c.ports.length n2, .int .i64 c.hello, .int .i64 c.dead, .int .i64 c.again, .int .i64 c.room, .int .i64 c.queue, .int .i64 c.tokens, .int .i64 c.refill] 28) = W4 := ⟨_, rfl⟩
          have HB4 : Hid (Below W0.heap.size W0 W4) := Lib.hid (by rw [← hW4]; exact hB3.alloc hB3.size _)
          have HPX : Hid (Whole W4 w3.heap.size 28 #[.int .i64 c.node, .int .u32 c.addr, .slice P1 c.own.length n1, .slice P2 c.ports.length n2, .int .i64 c.hello, .int .i64 c.dead, .int .i64 c.again, .int .i64 c.room, .int .i64 c.queue, .int .i64 c.tokens, .int .i64 c.refill]) := Lib.hid (by rw [← hW4]; exact Whole.new w3 _ _)
          have hPO' : Rs .u32 W4 (.slice P1 c.own.length n1) c.own := by rw [← hW4]; exact hPO.alloc _
          have hPP' : Rs .i64 W4 (.slice P2 c.ports.length n2) c.ports := by rw [← hW4]; exact hPP.alloc _
          have HCP : Hid (CfgIs W4 (.agg #[.int .i64 c.node, .int .u32 c.addr, .slice P1 c.own.length n1, .slice P2 c.ports.length n2, .int .i64 c.hello, .int .i64 c.dead, .int .i64 c.again, .int .i64 c.room, .int .i64 c.queue, .int .i64 c.tokens, .int .i64 c.refill]) c) := Lib.hid ⟨_, _, rfl, hPO', hPP'⟩
          have HW4 := Lib.hid hW4
          clear hPO hPP hb3 hPO' hPP' hB3 hW4
          go_upto_region 15 with fail
          rw [HW4.out]
          have hsub : IntKind.i64.wrap (((textP c).length : Int) - 1) = ((textP c).length : Int) - 1 := IntWalk.i64_in _ (by omega)
          go_wp2_with fail
          rw [str_cut, List.drop_zero, Nat.sub_zero]
          refine (HP2.out W4 HB4.out).mono ?_
          rintro en w5 ⟨⟨Z1, o1, Z2, o2, he, -, -⟩, hb5⟩
          unfold cfgV at he
          subst he
          have HB5 := Lib.hid hb5
          clear hb5
          go_upto_region 16 with fail
          obtain ⟨W5, hW5⟩ : ∃ W5, w5.alloc (.cells #[.int .i64 0, .int .u32 0, .slice Z1 0 o1, .slice Z2 0 o2, .int .i64 0, .int .i64 0, .int .i64 0, .int .i64 0, .int .i64 0, .int .i64 0, .int .i64 0] 28) = W5 := ⟨_, rfl⟩
          have HB6 : Hid (Below W4.heap.size W4 W5) := Lib.hid (by rw [← hW5]; exact HB5.out.alloc HB5.out.size _)
          rw [hW5]
          have hP5 := HPX.out.here HB6.out
          have hX5 := (HX.out.here HB4.out).here HB6.out
          have hltx := hX5.lt
          have hltp := hP5.lt
          have r0 : W5.cell? ⟨w.heap.size, 0, none⟩ = some (.int .i64 c.node) := hX5.cell 0
          have r1 : W5.cell? ⟨w.heap.size, 1, none⟩ = some (.int .u32 c.addr) := hX5.cell 1
          have r2 : W5.cell? ⟨w.heap.size, 2, none⟩ = some (.slice A1 c.own.length k1) := hX5.cell 2
          have r3 : W5.cell? ⟨w.heap.size, 3, none⟩ = some (.slice A2 c.ports.length k2) := hX5.cell 3
          have r4 : W5.cell? ⟨w.heap.size, 4, none⟩ = some (.int .i64 c.hello) := hX5.cell 4
          have r5 : W5.cell? ⟨w.heap.size, 5, none⟩ = some (.int .i64 c.dead) := hX5.cell 5
          have r6 : W5.cell? ⟨w.heap.size, 6, none⟩ = some (.int .i64 c.again) := hX5.cell 6
          have r7 : W5.cell? ⟨w.heap.size, 7, none⟩ = some (.int .i64 c.room) := hX5.cell 7
          have r8 : W5.cell? ⟨w.heap.size, 8, none⟩ = some (.int .i64 c.queue) := hX5.cell 8
          have r9 : W5.cell? ⟨w.heap.size, 9, none⟩ = some (.int .i64 c.tokens) := hX5.cell 9
          have r10 : W5.cell? ⟨w.heap.size, 10, none⟩ = some (.int .i64 c.refill) := hX5.cell 10
          have s0 : W5.cell? ⟨w3.heap.size, 0, none⟩ = some (.int .i64 c.node) := hP5.cell 0
          have s1 : W5.cell? ⟨w3.heap.size, 1, none⟩ = some (.int .u32 c.addr) := hP5.cell 1
          have s2 : W5.cell? ⟨w3.heap.size, 2, none⟩ = some (.slice P1 c.own.length n1) := hP5.cell 2
          have s3 : W5.cell? ⟨w3.heap.size, 3, none⟩ = some (.slice P2 c.ports.length n2) := hP5.cell 3
          have s4 : W5.cell? ⟨w3.heap.size, 4, none⟩ = some (.int .i64 c.hello) := hP5.cell 4
          have s5 : W5.cell? ⟨w3.heap.size, 5, none⟩ = some (.int .i64 c.dead) := hP5.cell 5
          have s6 : W5.cell? ⟨w3.heap.size, 6, none⟩ = some (.int .i64 c.again) := hP5.cell 6
          have s7 : W5.cell? ⟨w3.heap.size, 7, none⟩ = some (.int .i64 c.room) := hP5.cell 7
          have s8 : W5.cell? ⟨w3.heap.size, 8, none⟩ = some (.int .i64 c.queue) := hP5.cell 8
          have s9 : W5.cell? ⟨w3.heap.size, 9, none⟩ = some (.int .i64 c.tokens) := hP5.cell 9
          have s10 : W5.cell? ⟨w3.heap.size, 10, none⟩ = some (.int .i64 c.refill) := hP5.cell 10
          have HSM : Hid (Calls Tryz.prog 26 #[.agg #[.int .i64 c.node, .int .u32 c.addr, .slice A1 c.own.length k1, .slice A2 c.ports.length k2, .int .i64 c.hello, .int .i64 c.dead, .int .i64 c.again, .int .i64 c.room, .int .i64 c.queue, .int .i64 c.tokens, .int .i64 c.refill], .agg #[.int .i64 c.node, .int .u32 c.addr, .slice P1 c.own.length n1, .slice P2 c.ports.length n2, .int .i64 c.hello, .int .i64 c.dead, .int .i64 c.again, .int .i64 c.room, .int .i64 c.queue, .int .i64 c.tokens, .int .i64 c.refill]] W5 fun e w' => e = .returned (.bool true) ∧ Below W5.heap.size W5 w') := Lib.hid (by
            have := csame_any _ _ c c W5 ((HC.out.below HB4.out).below HB6.out) (HCP.out.below HB6.out) (by omega) (by omega) (by omega) (by omega)
            rw [sameC_self] at this
            exact this)
          have HB7 := Lib.hid (HBW.out.trans ((HB4.out.trans (HB6.out.mono HB4.out.size)).mono HBW.out.size))
          clear hP5 hX5 hW5 hsub
          go_wp2_with (first
            | (go_at_call 17; refine (num19_any _ _).mono ?_; rintro e w' ⟨rfl, rfl⟩)
            | (go_at_call 26; with_reducible refine (ext_of HSM.out).mono ?_; rintro e w' ⟨rfl, z, rfl⟩))
          go_ret
          have hd : decide (((textP c).length : Int) ≤ 4096) = true := decide_eq_true (by omega)
          refine ⟨?_, HB7.out.trans (z.below.mono HB7.out.size)⟩
          show Ending.returned (.bool (decide (((textP c).length : Int) ≤ 4096))) = _
          rw [hd]
  · have h2' : decide (((str text).size : Int) ≤ (20000 : Int)) = false := by rw [decide_eq_false_iff_not, hsz]; omega
    clear hsz
    go_enter Tryz.func7, Tryz.ntmps7
    go_upto_region 1 with fail
    rw [HW0.out]
    go_wp2_with fail
    refine (ext_of HK.out).mono ?_
    rintro e1 w' ⟨rfl, x, rfl⟩
    go_upto_region 9 with fail
    clear h2' h2
    cases hf : (decide (c.own.length ≤ 300) && decide (c.ports.length ≤ 300)) with
    | false =>
      rw [hf] at HFC
      clear hf
      go_wp2_with (go_at_call 19; refine (Ext.call (HFC.out x)).mono ?_; rintro e w' ⟨rfl, y, rfl⟩)
      go_ret
      exact ⟨by rfl, HBW.out.trans (y.below.mono HBW.out.size)⟩
    | true =>
      rw [hf] at HFC
      simp only [Bool.and_eq_true, decide_eq_true_eq] at hf
      obtain ⟨hl, hp⟩ := hf
      cases hm : mayC c with
      | false =>
        have HTX := Lib.hid (fun y : Ext W0 => ctext_no _ c y.w (HC.out.below y.below) HA.out (by omega) (by omega) hm)
        clear hm
        go_wp2_with fail
        refine (Ext.call (HFC.out x)).mono ?_
        rintro e w' ⟨rfl, y, rfl⟩
        go_wp2_with fail
        refine (Ext.call (HTX.out y)).mono ?_
        rintro e w' ⟨rfl, y2, rfl⟩
        go_wp2_with (go_at_call 17; refine (num19_any _ _).mono ?_; rintro e w' ⟨rfl, rfl⟩)
        go_ret
        exact ⟨by rfl, HBW.out.trans (y2.below.mono HBW.out.size)⟩
      | true =>
        have HTX := Lib.hid (fun y : Ext W0 => ctext_yes _ c y.w (HC.out.below y.below) HA.out hm (E0.out.here y.below))
        obtain ⟨pn, hpn⟩ := parse_short hm HA.out
        have hpt := parse_text hm HA.out
        have hlen4 : (textP c).length ≤ 4096 := hpt.2
        have hne : 0 < (textP c).length := by
          rcases Nat.eq_zero_or_pos (textP c).length with h0 | h0
          · have h1 := hpt.1
            rw [List.eq_nil_of_length_eq_zero h0] at h1
            have h2 := congrArg (fun q : Cfg × Nat × Int => q.2.2) h1
            exact absurd (show (4 : Int) = 0 from h2) (by decide)
          · exact h0
        have hsz : (str (textP c)).size = (textP c).length := str_size _
        have esl : str (textP c) = str (textP c) := rfl
        have HP1 := Lib.hid (fun y : Ext W0 => parse_at (textP c) c 0 0 y.w (by omega) (E0.out.here y.below) hpt.1)
        have HP2 := Lib.hid (fun W (hb : Below W0.heap.size W0 W) => parse_at ((textP c).take ((textP c).length - 1)) {} pn 4 W (by rw [List.length_take]; omega) (E0.out.here hb) hpn)
        clear hm hpt hpn esl
        go_wp2_with fail
        refine (Ext.call (HFC.out x)).mono ?_
        rintro e w' ⟨rfl, y, rfl⟩
        go_wp2_with fail
        refine (Ext.call (HTX.out y)).mono ?_
        rintro e w' ⟨rfl, y2, rfl⟩
        go_upto_region 14 with (go_at_call 17; refine (num19_any _ _).mono ?_; rintro e w' ⟨rfl, rfl⟩)
        go_wp2_with fail
        refine (HP1.out y2).mono ?_
        rintro en w3 ⟨⟨P1, n1, P2, n2, he, hPO, hPP⟩, hb3⟩
        unfold cfgV at he
        subst he
        have hB3 := y2.below.trans (hb3.mono y2.below.size)
        obtain ⟨W4, hW4⟩ : ∃ W4, w3.alloc (.cells #[.int .i64 c.node, .int .u32 c.addr, .slice P1 c.own.length n1, .slice P2 c.ports.length n2, .int .i64 c.hello, .int .i64 c.dead, .int .i64 c.again, .int .i64 c.room, .int .i64 c.queue, .int .i64 c.tokens, .int .i64 c.refill] 28) = W4 := ⟨_, rfl⟩
        have HB4 : Hid (Below W0.heap.size W0 W4) := Lib.hid (by rw [← hW4]; exact hB3.alloc hB3.size _)
        have HPX : Hid (Whole W4 w3.heap.size 28 #[.int .i64 c.node, .int .u32 c.addr, .slice P1 c.own.length n1, .slice P2 c.ports.length n2, .int .i64 c.hello, .int .i64 c.dead, .int .i64 c.again, .int .i64 c.room, .int .i64 c.queue, .int .i64 c.tokens, .int .i64 c.refill]) := Lib.hid (by rw [← hW4]; exact Whole.new w3 _ _)
        have hPO' : Rs .u32 W4 (.slice P1 c.own.length n1) c.own := by rw [← hW4]; exact hPO.alloc _
        have hPP' : Rs .i64 W4 (.slice P2 c.ports.length n2) c.ports := by rw [← hW4]; exact hPP.alloc _
        have HCP : Hid (CfgIs W4 (.agg #[.int .i64 c.node, .int .u32 c.addr, .slice P1 c.own.length n1, .slice P2 c.ports.length n2, .int .i64 c.hello, .int .i64 c.dead, .int .i64 c.again, .int .i64 c.room, .int .i64 c.queue, .int .i64 c.tokens, .int .i64 c.refill]) c) := Lib.hid ⟨_, _, rfl, hPO', hPP'⟩
        have HW4 := Lib.hid hW4
        clear hPO hPP hb3 hPO' hPP' hB3 hW4
        go_upto_region 15 with fail
        rw [HW4.out]
        have hsub : IntKind.i64.wrap (((textP c).length : Int) - 1) = ((textP c).length : Int) - 1 := IntWalk.i64_in _ (by omega)
        go_wp2_with fail
        rw [str_cut, List.drop_zero, Nat.sub_zero]
        refine (HP2.out W4 HB4.out).mono ?_
        rintro en w5 ⟨⟨Z1, o1, Z2, o2, he, -, -⟩, hb5⟩
        unfold cfgV at he
        subst he
        have HB5 := Lib.hid hb5
        clear hb5
        go_upto_region 16 with fail
        obtain ⟨W5, hW5⟩ : ∃ W5, w5.alloc (.cells #[.int .i64 0, .int .u32 0, .slice Z1 0 o1, .slice Z2 0 o2, .int .i64 0, .int .i64 0, .int .i64 0, .int .i64 0, .int .i64 0, .int .i64 0, .int .i64 0] 28) = W5 := ⟨_, rfl⟩
        have HB6 : Hid (Below W4.heap.size W4 W5) := Lib.hid (by rw [← hW5]; exact HB5.out.alloc HB5.out.size _)
        rw [hW5]
        have hP5 := HPX.out.here HB6.out
        have hX5 := (HX.out.here HB4.out).here HB6.out
        have hltx := hX5.lt
        have hltp := hP5.lt
        have r0 : W5.cell? ⟨w.heap.size, 0, none⟩ = some (.int .i64 c.node) := hX5.cell 0
        have r1 : W5.cell? ⟨w.heap.size, 1, none⟩ = some (.int .u32 c.addr) := hX5.cell 1
        have r2 : W5.cell? ⟨w.heap.size, 2, none⟩ = some (.slice A1 c.own.length k1) := hX5.cell 2
        have r3 : W5.cell? ⟨w.heap.size, 3, none⟩ = some (.slice A2 c.ports.length k2) := hX5.cell 3
        have r4 : W5.cell? ⟨w.heap.size, 4, none⟩ = some (.int .i64 c.hello) := hX5.cell 4
        have r5 : W5.cell? ⟨w.heap.size, 5, none⟩ = some (.int .i64 c.dead) := hX5.cell 5
        have r6 : W5.cell? ⟨w.heap.size, 6, none⟩ = some (.int .i64 c.again) := hX5.cell 6
        have r7 : W5.cell? ⟨w.heap.size, 7, none⟩ = some (.int .i64 c.room) := hX5.cell 7
        have r8 : W5.cell? ⟨w.heap.size, 8, none⟩ = some (.int .i64 c.queue) := hX5.cell 8
        have r9 : W5.cell? ⟨w.heap.size, 9, none⟩ = some (.int .i64 c.tokens) := hX5.cell 9
        have r10 : W5.cell? ⟨w.heap.size, 10, none⟩ = some (.int .i64 c.refill) := hX5.cell 10
        have s0 : W5.cell? ⟨w3.heap.size, 0, none⟩ = some (.int .i64 c.node) := hP5.cell 0
        have s1 : W5.cell? ⟨w3.heap.size, 1, none⟩ = some (.int .u32 c.addr) := hP5.cell 1
        have s2 : W5.cell? ⟨w3.heap.size, 2, none⟩ = some (.slice P1 c.own.length n1) := hP5.cell 2
        have s3 : W5.cell? ⟨w3.heap.size, 3, none⟩ = some (.slice P2 c.ports.length n2) := hP5.cell 3
        have s4 : W5.cell? ⟨w3.heap.size, 4, none⟩ = some (.int .i64 c.hello) := hP5.cell 4
        have s5 : W5.cell? ⟨w3.heap.size, 5, none⟩ = some (.int .i64 c.dead) := hP5.cell 5
        have s6 : W5.cell? ⟨w3.heap.size, 6, none⟩ = some (.int .i64 c.again) := hP5.cell 6
        have s7 : W5.cell? ⟨w3.heap.size, 7, none⟩ = some (.int .i64 c.room) := hP5.cell 7
        have s8 : W5.cell? ⟨w3.heap.size, 8, none⟩ = some (.int .i64 c.queue) := hP5.cell 8
        have s9 : W5.cell? ⟨w3.heap.size, 9, none⟩ = some (.int .i64 c.tokens) := hP5.cell 9
        have s10 : W5.cell? ⟨w3.heap.size, 10, none⟩ = some (.int .i64 c.refill) := hP5.cell 10
        have HSM : Hid (Calls Tryz.prog 26 #[.agg #[.int .i64 c.node, .int .u32 c.addr, .slice A1 c.own.length k1, .slice A2 c.ports.length k2, .int .i64 c.hello, .int .i64 c.dead, .int .i64 c.again, .int .i64 c.room, .int .i64 c.queue, .int .i64 c.tokens, .int .i64 c.refill], .agg #[.int .i64 c.node, .int .u32 c.addr, .slice P1 c.own.length n1, .slice P2 c.ports.length n2, .int .i64 c.hello, .int .i64 c.dead, .int .i64 c.again, .int .i64 c.room, .int .i64 c.queue, .int .i64 c.tokens, .int .i64 c.refill]] W5 fun e w' => e = .returned (.bool true) ∧ Below W5.heap.size W5 w') := Lib.hid (by
          have := csame_any _ _ c c W5 ((HC.out.below HB4.out).below HB6.out) (HCP.out.below HB6.out) (by omega) (by omega) (by omega) (by omega)
          rw [sameC_self] at this
          exact this)
        have HB7 := Lib.hid (HBW.out.trans ((HB4.out.trans (HB6.out.mono HB4.out.size)).mono HBW.out.size))
        clear hP5 hX5 hW5 hsub
        go_wp2_with (first
          | (go_at_call 17; refine (num19_any _ _).mono ?_; rintro e w' ⟨rfl, rfl⟩)
          | (go_at_call 26; with_reducible refine (ext_of HSM.out).mono ?_; rintro e w' ⟨rfl, z, rfl⟩))
        go_ret
        have hd : decide (((textP c).length : Int) ≤ 4096) = true := decide_eq_true (by omega)
        refine ⟨?_, HB7.out.trans (z.below.mono HB7.out.size)⟩
        show Ending.returned (.bool (decide (((textP c).length : Int) ≤ 4096))) = _
        rw [hd]
end Go.Proofs.YtfbangojgjcbcaaGreatDoor
