/- Contract of (*guidepostref19.reading).line: a line behind the second that is no own prefix's. -/
import Derived.Test.YtfbangojgjcbcaaGreatDoorConfU
namespace Go.Proofs.YtfbangojgjcbcaaGreatDoor
open Go.RowKit Pl

def restR (c : Cfg) (t : Nat) (wd s : List UInt8) : Option (Cfg × Nat) :=
  if hasAny c.own c.addr = false then none
  else if wd = wPort ∧ t = 0 then (if c.ports.length + 1 ≤ 8 then (portIn s).map fun p => ({ c with ports := c.ports ++ [p] }, t) else none)
  else (tailR c t wd s).map fun c' => (c', t + 1)

theorem portIn_two {s x y : List UInt8} (h : splitOn 32 s = [x, y]) : portIn s = if numOk x 50 = true ∧ numOk y 1500 = true ∧ 1 ≤ numVal x ∧ 68 ≤ numVal y then some ((numVal x : Int), (numVal y : Int)) else none := by
  unfold portIn
  rw [h]
  unfold numIn
  by_cases a : numOk x 50 = true ∧ 1 ≤ numVal x
  · by_cases b : numOk y 1500 = true ∧ 68 ≤ numVal y
    · simp only [if_pos a, if_pos b]
      rw [if_pos ⟨a.1, b.1, a.2, b.2⟩]
    · simp only [if_pos a, if_neg b]
      rw [if_neg (fun h => b ⟨h.2.1, h.2.2.2⟩)]
  · simp only [if_neg a]
    rw [if_neg (fun h => a ⟨h.1, h.2.2.1⟩)]
theorem portIn_other {s : List UInt8} (h : (splitOn 32 s).length ≠ 2) : portIn s = none := by
  unfold portIn
  split
  · rename_i x y e
    rw [e] at h
    exact absurd rfl h
  · rfl

set_option maxRecDepth 100000 in
set_option maxHeartbeats 4000000 in
theorem rline_rest (i : Nat) (wd s : List UInt8) (c : Cfg) (t B R : Nat) (w : World) (h : Rd 98 w B R c (t : Int)) (hBw : B ≤ w.heap.size) (hs : s.length ≤ 1000000) (hi : 2 ≤ i) (ht : t ≤ 7)
    (hno : ¬ (wd = wOwn ∧ c.ports = [] ∧ t = 0)) (hI : CInv c) :
    Calls Tryz.prog 54 #[.pointer (some ⟨R, 0, none⟩), .int .i64 (i : Int), .string (str wd), .string (str s)] w fun e w' => RgRes w B R (restR c t wd s) e w' := by
  obtain ⟨own, ports, hW, hO, hP⟩ := h.is
  have hBR := h.ge
  obtain ⟨o, ho⟩ : ∃ o, restR c t wd s = o := ⟨_, rfl⟩
  rw [ho]
  have HOO := Lib.hid ho
  have HRD := Lib.hid h
  have HWH := Lib.hid hW
  have HO := Lib.hid hO
  have HP := Lib.hid hP
  have HI := Lib.hid hI
  obtain ⟨A1, k1, rfl⟩ := own_slice_n hO
  obtain ⟨A2, k2, rfl⟩ := own_slice_n hP
  have c1 : w.cell? ⟨R, 1, none⟩ = some (.int .u32 c.addr) := hW.cell 1
  have c2 : w.cell? ⟨R, 2, none⟩ = some (.slice A1 c.own.length k1) := hW.cell 2
  have c3 : w.cell? ⟨R, 3, none⟩ = some (.slice A2 c.ports.length k2) := hW.cell 3
  have c11 : w.cell? ⟨R, 11, none⟩ = some (.int .i64 (t : Int)) := hW.cell 11
  have hRlt := hW.lt
  have HHAS : Hid (∀ y : Ext w, Calls Tryz.prog 56 #[.slice A1 c.own.length k1, .int .u32 c.addr] y.w fun e w' => e = .returned (.bool (hasAny c.own c.addr)) ∧ Below y.w.heap.size y.w w') := Lib.hid (fun y => rhas19 _ _ _ _ ((Rs.own rfl HO.out).below y.below) (by have := HI.out.own; omega) HI.out.addrs.2 HI.out.addrs.1)
  have d0 : ((i : Int) == 0) = false := by simp; omega
  have d1 : ((i : Int) == 1) = false := by simp; omega
  have HNO := Lib.hid hno
  clear h ho hO hP hW hI hno
  go_enter Tryz.func54, Tryz.ntmps54
  go_upto_region 8 with fail
  go_cut [59] (fun s wx => s = .bool false ∧ w = wx)
  case first =>
    cases hw : (wd == wOwn) with
    | false =>
      have dw := lit_own_no hw
      have db := lit_own_b hw
      clear hw
      go_wp2
      go_meet
      exact ⟨by rfl, rfl⟩
    | true =>
      have dw := lit_own hw
      have HWO : Hid (wd = wOwn) := Lib.hid (beq_iff_eq.1 hw)
      clear hw
      by_cases hp0 : c.ports.length = 0
      · have dp : ((c.ports.length : Int) == 0) = true := by simp; exact List.length_eq_zero_iff.1 hp0
        have ht0 : ¬ t = 0 := fun h => HNO.out ⟨HWO.out, List.length_eq_zero_iff.1 hp0, h⟩
        have dt : ((t : Int) == 0) = false := by simp; exact ht0
        go_wp2
        go_meet
        exact ⟨by rfl, rfl⟩
      · have dp : ((c.ports.length : Int) == 0) = false := by simp; exact fun h => hp0 (by rw [h]; rfl)
        go_wp2
        go_meet
        exact ⟨by rfl, rfl⟩
  case rest =>
    obtain ⟨rfl, rfl⟩ := hcut
    cases hha : hasAny c.own c.addr with
    | false =>
      rw [hha] at HHAS
      have HHA := Lib.hid hha
      clear hha
      go_wp2
      refine wp_region_ext (by kernel_rfl) (by kernel_rfl) ?_
      repeat (go_big_quiet_step (first | (go_at_call 56; exact Ext.call (HHAS.out _))))
      refine wpQuiet_nil ?_
      rintro _ ⟨y, rfl⟩
      go_wp2
      go_ret
      exact RgRes.no (by rw [← HOO.out]; unfold restR; rw [if_pos HHA.out]) rfl (Kb.of_below (y.below.mono hBw))
    | true =>
      rw [hha] at HHAS
      have HHA := Lib.hid hha
      clear hha
      go_wp2
      refine wp_region_ext (by kernel_rfl) (by kernel_rfl) ?_
      repeat (go_big_quiet_step (first | (go_at_call 56; exact Ext.call (HHAS.out _))))
      refine wpQuiet_nil ?_
      rintro _ ⟨y, rfl⟩
      go_upto_region 14 with fail
      go_cut [117] (fun s wx => s = .bool (decide (wd = wPort ∧ t = 0)) ∧ wx = y.w)
      case first =>
        cases hw : (wd == wPort) with
        | false =>
          have dw := lit_port_no hw
          have db := lit_port_b hw
          have HF : Hid (decide (wd = wPort ∧ t = 0) = false) := Lib.hid (decide_eq_false (fun h => beq_eq_false_iff_ne.1 hw h.1))
          clear hw
          go_wp2
          go_meet
          exact ⟨by rw [HF.out]; try rfl, rfl⟩
        | true =>
          have dw := lit_port hw
          have HWO : Hid (wd = wPort) := Lib.hid (beq_iff_eq.1 hw)
          clear hw
          by_cases ht0 : t = 0
          · have dt : ((t : Int) == 0) = true := by simp; exact ht0
            have HF : Hid (decide (wd = wPort ∧ t = 0) = true) := Lib.hid (decide_eq_true ⟨HWO.out, ht0⟩)
            clear ht0
            go_wp2
            go_meet
            exact ⟨by rw [HF.out]; try rfl, rfl⟩
          · have dt : ((t : Int) == 0) = false := by simp; exact ht0
            have HF : Hid (decide (wd = wPort ∧ t = 0) = false) := Lib.hid (decide_eq_false (fun h => ht0 h.2))
            go_wp2
            go_meet
            exact ⟨by rw [HF.out]; try rfl, rfl⟩
      case rest =>
        obtain ⟨rfl, rfl⟩ := hcut
        have HRY : Hid (Rd 98 y.w B R c (t : Int)) := Lib.hid ⟨hBR, _, _, HWH.out.here y.below, own_below HO.out y.below, own_below HP.out y.below⟩
        have HKY : Hid (Kb B R w y.w) := Lib.hid (Kb.of_below (y.below.mono hBw))
        by_cases hp : wd = wPort ∧ t = 0
        · have dpt := decide_eq_true hp
          have HPT := Lib.hid hp
          clear hp
          rw [dpt]
          have HE : Hid (o = if c.ports.length + 1 ≤ 8 then (portIn s).map fun p => ({ c with ports := c.ports ++ [p] }, t) else none) := Lib.hid (by rw [← HOO.out]; unfold restR; rw [if_neg (by rw [HHA.out]; decide), if_pos HPT.out])
          by_cases hlen : (splitOn 32 s).length = 2
          · obtain ⟨x, y2, hsp⟩ : ∃ x y2, splitOn 32 s = [x, y2] := by
              match hq : splitOn 32 s, hlen with
              | [x, y2], _ => exact ⟨x, y2, rfl⟩
            have HPI := Lib.hid (portIn_two hsp)
            have hxl : x.length ≤ 1000000 := by have := getD_len 32 s 0; rw [hsp] at this; exact Nat.le_trans this hs
            have hyl : y2.length ≤ 1000000 := by have := getD_len 32 s 1; rw [hsp] at this; exact Nat.le_trans this hs
            have HSP := Lib.hid hsp
            clear hsp hlen
            go_wp2_with fail
            refine (rsplit_two 32 s x y2 _ hs HSP.out).mono ?_
            rintro e w2 ⟨⟨g, cap, rfl, hg, hcap, g0, g1⟩, hb2⟩
            have HB2 := Lib.hid hb2
            clear hb2
            go_wp2_with fail
            refine (rnumber x 50 _ hxl).mono ?_
            rintro e w' ⟨⟨n1, hn1, rfl, hnum1⟩, rfl⟩
            have HN1 := Lib.hid hnum1
            clear hnum1
            go_wp2_with fail
            refine (rnumber y2 1500 _ hyl).mono ?_
            rintro e w' ⟨⟨n2, hn2, rfl, hnum2⟩, rfl⟩
            have HN2 := Lib.hid hnum2
            clear hnum2
            have hP2 := own_below (own_below HP.out y.below) HB2.out
            have hW2 := (HWH.out.here y.below).here HB2.out
            have z3 : w2.cell? ⟨R, 3, none⟩ = some (.slice A2 c.ports.length k2) := hW2.cell 3
            have hR2 : R < w2.heap.size := hW2.lt
            have hbase : B ≤ w2.heap.size := Nat.le_trans hBw (Nat.le_trans y.below.size HB2.out.size)
            have hp8 := HI.out.ports
            have HW2 := Lib.hid hW2
            go_upto_region 21 with (at_builtin; refine wpList_pushO rfl (.tmp 151) (.tmp 155) rfl B (.slice A2 c.ports.length k2) c.ports ((n1 : Int), (n2 : Int)) rfl hP2 rfl rfl (by omega) hbase ?_; intro v' w3 hown3 hg3; rw [show (c.ports ++ [((n1 : Int), (n2 : Int))]).length = c.ports.length + 1 by simp] at hown3; obtain ⟨A3, k3, rfl⟩ := own_slice_n hown3; have hW3 := HW2.out.kept hg3 (Ne.symm (HW2.out.notRow hP2 (by decide))); have q3 : w3.cell? ⟨R, 3, none⟩ = some (.slice A2 c.ports.length k2) := hW3.cell 3; have qf3 : w3.frozen? ⟨R, 3, none⟩ = false := hW3.frozen 3; have HW3 := Lib.hid hW3; clear hW3)
            have HW4 : Hid (Whole (w3.setCell ⟨R, 3, none⟩ (.slice A3 (c.ports.length + 1) k3)) R 98 (rdCells { c with ports := c.ports ++ [((n1 : Int), (n2 : Int))] } (.slice A1 c.own.length k1) (.slice A3 (c.ports.length + 1) k3) (t : Int))) := Lib.hid (HW3.out.set 3 _)
            have hgs := grown_set w3 R 3 (.slice A3 (c.ports.length + 1) k3)
            have HR4 : Hid (Rd 98 (w3.setCell ⟨R, 3, none⟩ (.slice A3 (c.ports.length + 1) k3)) B R { c with ports := c.ports ++ [((n1 : Int), (n2 : Int))] } (t : Int)) := Lib.hid (by
              refine ⟨hBR, _, _, HW4.out, ?_, ?_⟩
              · exact own_grown HW3.out ((own_below (own_below HO.out y.below) HB2.out).kept hg3 (rows_apart hP2 (own_below (own_below HO.out y.below) HB2.out) (by decide))) (by decide) hgs
              · rw [show (c.ports ++ [((n1 : Int), (n2 : Int))]).length = c.ports.length + 1 by simp]
                exact own_grown HW3.out hown3 (by decide) hgs)
            have HK4 : Hid (Kb B R w (w3.setCell ⟨R, 3, none⟩ (.slice A3 (c.ports.length + 1) k3))) := Lib.hid (by
              have h2 := HKY.out.trans (Kb.of_below (HB2.out.mono (Nat.le_trans hBw y.below.size)))
              have h3 : Below B w2 w3 := (Below.refl _ w2).grown hg3 hbase fun g hg => (hP2.lt g hg).1
              exact (h2.trans (Kb.of_below h3)).set 3 _ (Nat.le_trans hbase h3.size))
            have x3 : (w3.setCell ⟨R, 3, none⟩ (.slice A3 (c.ports.length + 1) k3)).cell? ⟨R, 3, none⟩ = some (.slice A3 (c.ports.length + 1) k3) := HW4.out.cell 3
            generalize w3.setCell ⟨R, 3, none⟩ (.slice A3 (c.ports.length + 1) k3) = W4 at *
            clear hown3 hg3 q3 qf3 HW3 hgs hP2 z3 g0 g1 dpt
            have no : ∀ W' : World, Kb B R w W' → portIn s = none → RgRes w B R o (.returned (.bool false)) W' := fun _ hk hn => RgRes.no (by rw [HE.out, hn]; split <;> rfl) rfl hk
            have HNO2 : Hid (∀ W' : World, Kb B R w W' → portIn s = none → RgRes w B R o (.returned (.bool false)) W') := Lib.hid no
            clear no
            cases b1 : numOk x 50 with
            | false =>
              go_wp2
              go_ret
              exact HNO2.out _ HK4.out (by rw [HPI.out, if_neg (fun h => by rw [b1] at h; cases h.1)])
            | true =>
              have HV1 : Hid (n1 = numVal x) := Lib.hid (HN1.out (numOk_dec x 50 b1).2.2)
              cases b2 : numOk y2 1500 with
              | false =>
                go_wp2
                go_ret
                exact HNO2.out _ HK4.out (by rw [HPI.out, if_neg (fun h => by rw [b2] at h; cases h.2.1)])
              | true =>
                have HV2 : Hid (n2 = numVal y2) := Lib.hid (HN2.out (numOk_dec y2 1500 b2).2.2)
                by_cases l1 : (1 : Int) ≤ (n1 : Int)
                · have dl1 := decide_eq_true l1
                  by_cases l2 : (68 : Int) ≤ (n2 : Int)
                  · have dl2 := decide_eq_true l2
                    have HPS : Hid (portIn s = some ((n1 : Int), (n2 : Int))) := Lib.hid (by
                      have v1 := HV1.out
                      have v2 := HV2.out
                      rw [HPI.out, if_pos ⟨b1, b2, by omega, by omega⟩, v1, v2])
                    by_cases l3 : c.ports.length + 1 ≤ 8
                    · have dl3 : decide ((c.ports.length : Int) + 1 ≤ 8) = true := decide_eq_true (by omega)
                      go_wp2
                      go_ret
                      exact RgRes.yes _ t (by rw [HE.out, if_pos l3, HPS.out]; rfl) rfl HR4.out HK4.out
                    · have dl3 : decide ((c.ports.length : Int) + 1 ≤ 8) = false := decide_eq_false (by omega)
                      go_wp2
                      go_ret
                      exact RgRes.no (by rw [HE.out, if_neg l3]) rfl HK4.out
                  · have dl2 := decide_eq_false l2
                    go_wp2
                    go_ret
                    exact HNO2.out _ HK4.out (by have v2 := HV2.out; rw [HPI.out, if_neg (fun h => by have := h.2.2.2; omega)])
                · have dl1 := decide_eq_false l1
                  go_wp2
                  go_ret
                  exact HNO2.out _ HK4.out (by have v1 := HV1.out; rw [HPI.out, if_neg (fun h => by have := h.2.2.1; omega)])
          · have HF := Lib.hid (portIn_other hlen)
            have dl : (((splitOn 32 s).length : Int) == 2) = false := by simp; omega
            go_wp2_with (go_at_call 53; refine (rsplit_other 32 s _ hs).mono ?_; rintro e w2 ⟨⟨g, cap, rfl⟩, hb2⟩; have HB2 := Lib.hid hb2; clear hb2)
            go_ret
            exact RgRes.no (by rw [HE.out, HF.out]; split <;> rfl) rfl (HKY.out.trans (Kb.of_below (HB2.out.mono (Nat.le_trans hBw y.below.size))))
        · have dpt := decide_eq_false hp
          have HPT := Lib.hid hp
          clear hp
          rw [dpt]
          go_wp2_with fail
          refine (rtail wd s c t B R y.w HRY.out (Nat.le_trans hBw y.below.size) hs ht HI.out.hello).mono ?_
          rintro e w2 ⟨hres, hk2⟩
          have HK2 := Lib.hid (HKY.out.trans hk2)
          have HE : Hid (o = (tailR c t wd s).map fun c' => (c', t + 1)) := Lib.hid (by rw [← HOO.out]; unfold restR; rw [if_neg (by rw [HHA.out]; decide), if_neg HPT.out])
          cases htl : tailR c t wd s with
          | none =>
            rw [htl] at hres HE
            obtain rfl : e = .returned (.bool false) := hres
            clear htl hk2
            go_wp2
            go_ret
            exact RgRes.no HE.out rfl HK2.out
          | some c' =>
            rw [htl] at hres HE
            obtain ⟨rfl, hr⟩ : e = .returned (.bool true) ∧ Rd 98 w2 B R c' ((t + 1 : Nat) : Int) := hres
            have HR2 := Lib.hid hr
            clear htl hk2 hr
            go_wp2
            go_ret
            exact RgRes.yes c' (t + 1) HE.out rfl HR2.out HK2.out
end Go.Proofs.YtfbangojgjcbcaaGreatDoor
