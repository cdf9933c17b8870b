/- The walk of the law ConfCuts: it answers true. -/
import Derived.Test.YtfbangojgjcbcaaGreatDoorConfS
namespace Go.Proofs.YtfbangojgjcbcaaGreatDoor
open Go.RowKit Pl

set_option maxRecDepth 100000 in
theorem few19_any (v : Value) (c : Cfg) (w : World) (h : CfgIs w v c) :
    Calls Tryz.prog 19 #[v] w fun e w' => e = .returned (.bool (decide (c.own.length ≤ 300) && decide (c.ports.length ≤ 300))) ∧ Below w.heap.size w w' := by
  obtain ⟨own, ports, rfl, hO, hP⟩ := h.is
  obtain ⟨A1, k1, rfl, -⟩ := hO
  obtain ⟨A2, k2, rfl, -⟩ := hP
  clear h
  unfold cfgV
  by_cases h1 : c.own.length ≤ 300
  · have d1 : decide ((c.own.length : Int) ≤ 300) = true := decide_eq_true (by omega)
    by_cases h2 : c.ports.length ≤ 300
    · have d2 : decide ((c.ports.length : Int) ≤ 300) = true := decide_eq_true (by omega)
      go_enter Tryz.func19, Tryz.ntmps19
      go_wp2
      go_ret
      exact ⟨by rw [decide_eq_true h1, decide_eq_true h2]; rfl, (Below.refl _ _).alloc (Nat.le_refl _) _⟩
    · have d2 : decide ((c.ports.length : Int) ≤ 300) = false := decide_eq_false (by omega)
      go_enter Tryz.func19, Tryz.ntmps19
      go_wp2
      go_ret
      exact ⟨by rw [decide_eq_true h1, decide_eq_false h2]; rfl, (Below.refl _ _).alloc (Nat.le_refl _) _⟩
  · have d1 : decide ((c.own.length : Int) ≤ 300) = false := decide_eq_false (by omega)
    go_enter Tryz.func19, Tryz.ntmps19
    go_wp2
    go_ret
    exact ⟨by rw [decide_eq_false h1]; rfl, (Below.refl _ _).alloc (Nat.le_refl _) _⟩

def noneL : List UInt8 := [110, 111, 116, 104, 105, 110, 103] ++ 32 :: [49]
theorem none_step (c : Cfg) (st : Nat) : stepC c st (cutA 32 noneL) (cutB 32 noneL) = none := by
  have h := lnNum_cut (w := [110, 111, 116, 104, 105, 110, 103]) (by decide) [49]
  unfold noneL
  rw [h.2.1, h.2.2]
  exact stepC_none (fun h => absurd h (by decide)) (fun h => absurd h (by decide)) (fun h => absurd h (by decide)) (fun h => absurd h (by decide)) (fun h => absurd h (by decide)) (fun h => absurd h (by decide)) (fun h => absurd h (by decide)) (fun h => absurd h (by decide)) (fun h => absurd h (by decide)) (fun h => absurd h (by decide)) (fun h => absurd h (by decide))

set_option maxRecDepth 100000 in
set_option maxHeartbeats 4000000 in
theorem confCuts_walk (v : Value) (c : Cfg) (i : Int) (w : World) (h : CfgIs w v c) (hA : Addrs4 c) (E : Env w) :
    Calls Tryz.prog 5 #[v, .int .i64 i] w fun e w' => e = .returned (.bool true) ∧ Below w.heap.size w w' := by
  have HC := Lib.hid h
  have HA := Lib.hid hA
  obtain ⟨own, ports, rfl, hO, hP⟩ := h.is
  obtain ⟨A1, k1, rfl, -⟩ := hO
  obtain ⟨A2, k2, rfl, -⟩ := hP
  clear h
  obtain ⟨W1, hW1⟩ : ∃ W1, w.alloc (.cells #[.int .i64 c.node, .int .u32 c.addr, .slice A1 c.own.length k1, .slice A2 c.ports.length k2, .int .i64 c.hello, .int .i64 c.dead, .int .i64 c.again, .int .i64 c.room, .int .i64 c.queue, .int .i64 c.tokens, .int .i64 c.refill] 28) = W1 := ⟨_, rfl⟩
  have HB1 : Hid (Below w.heap.size w W1) := Lib.hid (by rw [← hW1]; exact (Below.refl _ _).alloc (Nat.le_refl _) _)
  have hx : Whole W1 w.heap.size 28 #[.int .i64 c.node, .int .u32 c.addr, .slice A1 c.own.length k1, .slice A2 c.ports.length k2, .int .i64 c.hello, .int .i64 c.dead, .int .i64 c.again, .int .i64 c.room, .int .i64 c.queue, .int .i64 c.tokens, .int .i64 c.refill] := by rw [← hW1]; exact Whole.new _ _ _
  have hlt : w.heap.size < W1.heap.size := hx.lt
  have c0 : W1.cell? ⟨w.heap.size, 0, none⟩ = some (.int .i64 c.node) := hx.cell 0
  have c1 : W1.cell? ⟨w.heap.size, 1, none⟩ = some (.int .u32 c.addr) := hx.cell 1
  have c2 : W1.cell? ⟨w.heap.size, 2, none⟩ = some (.slice A1 c.own.length k1) := hx.cell 2
  have c3 : W1.cell? ⟨w.heap.size, 3, none⟩ = some (.slice A2 c.ports.length k2) := hx.cell 3
  have c4 : W1.cell? ⟨w.heap.size, 4, none⟩ = some (.int .i64 c.hello) := hx.cell 4
  have c5 : W1.cell? ⟨w.heap.size, 5, none⟩ = some (.int .i64 c.dead) := hx.cell 5
  have c6 : W1.cell? ⟨w.heap.size, 6, none⟩ = some (.int .i64 c.again) := hx.cell 6
  have c7 : W1.cell? ⟨w.heap.size, 7, none⟩ = some (.int .i64 c.room) := hx.cell 7
  have c8 : W1.cell? ⟨w.heap.size, 8, none⟩ = some (.int .i64 c.queue) := hx.cell 8
  have c9 : W1.cell? ⟨w.heap.size, 9, none⟩ = some (.int .i64 c.tokens) := hx.cell 9
  have c10 : W1.cell? ⟨w.heap.size, 10, none⟩ = some (.int .i64 c.refill) := hx.cell 10
  have E1 := Lib.hid (E.here HB1.out)
  unfold cfgV at HC
  have HFEW : Hid (∀ W, Below W1.heap.size W1 W → Calls Tryz.prog 19 #[.agg #[.int .i64 c.node, .int .u32 c.addr, .slice A1 c.own.length k1, .slice A2 c.ports.length k2, .int .i64 c.hello, .int .i64 c.dead, .int .i64 c.again, .int .i64 c.room, .int .i64 c.queue, .int .i64 c.tokens, .int .i64 c.refill]] W fun e w' => e = .returned (.bool (decide (c.own.length ≤ 300) && decide (c.ports.length ≤ 300))) ∧ Below W.heap.size W w') := Lib.hid (fun W hb => few19_any _ c W ((HC.out.below HB1.out).below hb))
  have HK : Hid (∀ W, Below W1.heap.size W1 W → Calls Tryz.prog 13 #[] W fun e w' => e = .returned (.bool true) ∧ Below W.heap.size W w') := Lib.hid (fun W hb => known19_any W (E1.out.here hb))
  have HW := Lib.hid hW1
  clear hx hW1 hA E
  unfold cfgV
  go_enter Tryz.func5, Tryz.ntmps5
  cases hf : (decide (c.own.length ≤ 300) && decide (c.ports.length ≤ 300)) with
  | false =>
    rw [hf] at HFEW
    clear hf
    go_upto_region 1 with fail
    rw [HW.out]
    go_wp2_with (first
      | (go_at_call 19; refine (ext_of (HFEW.out _ (Below.refl _ _))).mono ?_; rintro e w' ⟨rfl, y, rfl⟩)
      | (go_at_call 13; refine (Ext.call (HK.out _ y.below)).mono ?_; rintro e w' ⟨rfl, z, rfl⟩))
    go_ret
    exact ⟨by rfl, Ext.lift z HB1.out⟩
  | true =>
    rw [hf] at HFEW
    simp only [Bool.and_eq_true, decide_eq_true_eq] at hf
    obtain ⟨hl, hp⟩ := hf
    have HMAY : Hid (∀ W, Below W1.heap.size W1 W → Calls Tryz.prog 20 #[.agg #[.int .i64 c.node, .int .u32 c.addr, .slice A1 c.own.length k1, .slice A2 c.ports.length k2, .int .i64 c.hello, .int .i64 c.dead, .int .i64 c.again, .int .i64 c.room, .int .i64 c.queue, .int .i64 c.tokens, .int .i64 c.refill]] W fun e w' => e = .returned (.bool (mayC c)) ∧ Below W.heap.size W w') := Lib.hid (fun W hb => rmay19 _ c W ((HC.out.below HB1.out).below hb) HA.out (by omega) (by omega))
    cases hm : mayC c with
    | false =>
      rw [hm] at HMAY
      clear hm
      go_upto_region 1 with fail
      rw [HW.out]
      go_wp2_with (first
        | (go_at_call 19; refine (ext_of (HFEW.out _ (Below.refl _ _))).mono ?_; rintro e w' ⟨rfl, y, rfl⟩)
        | (go_at_call 20; refine (Ext.call (HMAY.out _ y.below)).mono ?_; rintro e w' ⟨rfl, y2, rfl⟩)
        | (go_at_call 13; refine (Ext.call (HK.out _ y2.below)).mono ?_; rintro e w' ⟨rfl, z, rfl⟩))
      go_ret
      exact ⟨by rfl, Ext.lift z HB1.out⟩
    | true =>
      rw [hm] at HMAY
      have HM := Lib.hid hm
      clear hm
      have HLI : Hid (∀ y : Ext W1, Calls Tryz.prog 21 #[.agg #[.int .i64 c.node, .int .u32 c.addr, .slice A1 c.own.length k1, .slice A2 c.ports.length k2, .int .i64 c.hello, .int .i64 c.dead, .int .i64 c.again, .int .i64 c.room, .int .i64 c.queue, .int .i64 c.tokens, .int .i64 c.refill]] y.w fun e w' => ∃ g cap, e = .returned (.slice (some ⟨g, 0, none⟩) (linesP c).length cap) ∧ (g < w'.heap.size ∧ ∀ j l, (linesP c)[j]? = some l → w'.cell? ⟨g, j, none⟩ = some (.string (str l))) ∧ ∃ z : Ext W1, w' = z.w) := Lib.hid (fun y => (rlines19 _ c y.w ((HC.out.below HB1.out).below y.below) HA.out HM.out (Ext.env y E1.out)).mono (by
        rintro e w' ⟨v, rfl, hown, hb⟩
        have hn : 0 < (linesP c).length := by unfold linesP; rw [List.length_append, tails_len]; omega
        obtain ⟨g, cap, rfl, hg1, hg2⟩ := hown.form hn
        refine ⟨g, cap, rfl, ⟨(hown.lt g rfl).2, fun j l hj => ?_⟩, ⟨w', y.below.trans (hb.mono y.below.size)⟩, rfl⟩
        have hjl : j < (linesP c).length := (List.getElem?_eq_some_iff.1 hj).1
        rw [hown.cellAt j (by omega), List.getElem?_map, hj]; rfl))
      go_upto_region 1 with fail
      rw [HW.out]
      go_wp2_with (first
        | (go_at_call 19; refine (ext_of (HFEW.out _ (Below.refl _ _))).mono ?_; rintro e w' ⟨rfl, y, rfl⟩)
        | (go_at_call 20; refine (Ext.call (HMAY.out _ y.below)).mono ?_; rintro e w' ⟨rfl, y2, rfl⟩))
      refine (HLI.out y2).mono ?_
      rintro e w' ⟨g, cap, rfl, ⟨hg, hcell⟩, z, rfl⟩
      have HCELL := Lib.hid hcell
      clear hcell
      by_cases hi0 : i < 0
      case pos =>
        go_wp2_with (go_at_call 13; refine (Ext.call (HK.out _ z.below)).mono ?_; rintro e w' ⟨rfl, z2, rfl⟩)
        go_ret
        exact ⟨by rfl, Ext.lift z2 HB1.out⟩
      case neg =>
        obtain ⟨k, rfl⟩ := Int.eq_ofNat_of_zero_le (by omega : 0 ≤ i)
        by_cases hk : k < (linesP c).length
        case neg =>
          have d1 : decide (((linesP c).length : Int) ≤ (k : Int)) = true := decide_eq_true (by omega)
          go_wp2_with (go_at_call 13; refine (Ext.call (HK.out _ z.below)).mono ?_; rintro e w' ⟨rfl, z2, rfl⟩)
          go_ret
          exact ⟨by rfl, Ext.lift z2 HB1.out⟩
        case pos =>
          obtain ⟨hll, hln⟩ := lines_len HM.out
          have HLL := Lib.hid hll
          clear hll
          have d1 : decide (((linesP c).length : Int) ≤ (k : Int)) = false := decide_eq_false (by omega)
          go_wp2
          go_loopw [6, 7] (fun t i wr => ∃ j : Nat, j ≤ k ∧ i = .int .i64 j ∧ t = .string (str (((linesP c).take j).flatMap (· ++ [10]))) ∧ ∃ z2 : Ext z.w, wr = z2.w) (fun _ i _ => k - (intOf i).toNat)
          case atStart => exact ⟨0, Nat.zero_le _, rfl, by simp; rfl, ⟨z.w, Below.refl _ _⟩, rfl⟩
          case round =>
            obtain ⟨j, hj, rfl, rfl, z2, rfl⟩ := hrel
            have hT : (((linesP c).take j).flatMap (· ++ [10])).length ≤ 41 * 25 := by
              have := flat_len ((linesP c).take j) (fun l hl => HLL.out l (List.mem_of_mem_take hl))
              have h2 : ((linesP c).take j).length ≤ 25 := by rw [List.length_take]; omega
              omega
            obtain ⟨l, hlj⟩ : ∃ l, (linesP c)[j]? = some l := ⟨_, List.getElem?_eq_getElem (by omega)⟩
            have hlen := HLL.out l (List.mem_of_getElem? hlj)
            have cj := HCELL.out j l hlj
            have HLJ := Lib.hid hlj
            clear hlj
            have sT : (str (((linesP c).take j).flatMap (· ++ [10]))).size ≤ 41 * 25 := by rw [str_size]; exact hT
            have sL : (str l).size ≤ 40 := by rw [str_size]; exact hlen
            by_cases hjk : j < k
            · have HT : Hid (str (((linesP c).take j).flatMap (· ++ [10])) ++ str l ++ { data := #[10] } = str (((linesP c).take (j + 1)).flatMap (· ++ [10]))) := Lib.hid (by
                show str (((linesP c).take j).flatMap (· ++ [10])) ++ str l ++ str [10] = _
                rw [str_append, str_append, List.take_add_one, HLJ.out]
                congr 1
                simp)
              go_wp2
              go_roundw
              case rel => exact ⟨j + 1, by omega, by go_num, by rw [← HT.out]; try rfl, z2, rfl⟩
              case measure => simp [intOf]; omega
            · obtain rfl : j = k := by omega
              have E2 : Hid (Env z2.w) := Lib.hid (Ext.env z2 (Ext.env z E1.out))
              have HP1 := Lib.hid (parse_at (((linesP c).take j).flatMap (· ++ [10])) {} j 4 z2.w (by omega) E2.out (parse_cut HM.out HA.out hk))
              have HP2 : Hid (∀ W, Env W → Calls Tryz.prog 14 #[.string (str (((linesP c).take j).flatMap (· ++ [10])) ++ { data := #[110, 111, 116, 104, 105, 110, 103, 32, 49, 10] } ++ str l ++ { data := #[10] })] W fun en w' => ParseAt j 4 {} en w' ∧ Below W.heap.size W w') := Lib.hid (fun W EW => by
                have := parse_at (((linesP c).take j).flatMap (· ++ [10]) ++ (noneL ++ 10 :: (l ++ [10]))) {} j 4 W (by simp [noneL] at *; omega) EW (parse_none HM.out HA.out hk noneL (by unfold noNl; decide) (by decide) none_step (l ++ [10]) (by simp; omega) (by decide))
                have e : str (((linesP c).take j).flatMap (· ++ [10])) ++ { data := #[110, 111, 116, 104, 105, 110, 103, 32, 49, 10] } ++ str l ++ { data := #[10] } = str (((linesP c).take j).flatMap (· ++ [10]) ++ (noneL ++ 10 :: (l ++ [10]))) := by
                  show str _ ++ str [110, 111, 116, 104, 105, 110, 103, 32, 49, 10] ++ str l ++ str [10] = _
                  rw [str_append, str_append, str_append]
                  congr 1
                  simp [noneL]
                rw [e]; exact this)
              go_wp2_with fail
              refine HP1.out.mono ?_
              rintro e w3 ⟨⟨B1, l1, B2, l2, he, _, _⟩, hb3⟩
              have HB3 : Hid (Below z2.w.heap.size z2.w w3) := Lib.hid hb3
              have hg3 : g < w3.heap.size := Nat.lt_of_lt_of_le hg (Nat.le_trans z2.below.size hb3.size)
              have cj3 : w3.cell? ⟨g, j, none⟩ = some (.string (str l)) := (hb3.cell (p := ⟨g, j, none⟩) (Nat.lt_of_lt_of_le hg z2.below.size)).trans ((z2.below.cell (p := ⟨g, j, none⟩) hg).trans cj)
              unfold cfgV at he
              subst he
              clear hb3
              go_wp2_with fail
              refine (HP2.out _ ((E2.out.here HB3.out).alloc _)).mono ?_
              rintro e w4 ⟨⟨D1, m1, D2, m2, he, _, _⟩, hb4⟩
              have HB4 : Hid (Below z2.w.heap.size z2.w w4) := Lib.hid (HB3.out.trans ((((Below.refl _ w3).alloc (Nat.le_refl _) _).trans (hb4.mono (by simp))).mono HB3.out.size))
              unfold cfgV at he
              subst he
              clear hb4
              go_upto_region 13 with fail
              go_wp2_with (first
                | (go_at_call 17; refine (num19_any _ _).mono ?_; rintro e w' ⟨rfl, rfl⟩)
                | (go_at_call 13; refine (known19_any _ ((E2.out.here HB4.out).alloc _)).mono ?_; rintro e w5 ⟨rfl, hb5⟩; have HB5 := Lib.hid hb5; clear hb5))
              go_ret
              have hz : Below w.heap.size w z2.w := (Ext.lift z HB1.out).trans (z2.below.mono (Ext.lift z HB1.out).size)
              have h4 := hz.trans (HB4.out.mono hz.size)
              exact ⟨by rfl, (h4.alloc h4.size _).trans (HB5.out.mono (Nat.le_trans h4.size (by simp)))⟩
end Go.Proofs.YtfbangojgjcbcaaGreatDoor
