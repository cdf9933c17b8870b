/- Contract of ref19.May. -/
import Derived.Test.YtfbangojgjcbcaaGreatDoorConfQ
namespace Go.Proofs.YtfbangojgjcbcaaGreatDoor
open Go.RowKit Pl

def restB (c : Cfg) : Bool := inI c.node 1 16 && (inI c.hello 1 100 && (inI c.dead 1 100 && (decide (c.hello < c.dead) && (inI c.again 1 100 && (inI c.room 0 64 && (inI c.queue 1 64 && (inI c.tokens 0 64 && inI c.refill 1 100)))))))
theorem mayC_rest (c : Cfg) : mayC c = (ownOk c.own && (decide (c.ports.length ≤ 8) && (c.ports.all portOk && (hasAny c.own c.addr && restB c)))) := by
  have e : inI c.hello 1 100 = true → inI c.dead (c.hello + 1) 100 = (inI c.dead 1 100 && decide (c.hello < c.dead)) := fun h => by
    have := inI_iff.1 h
    rw [Bool.eq_iff_iff]
    simp only [Bool.and_eq_true, inI_iff, decide_eq_true_eq]
    omega
  unfold mayC restB
  cases h : inI c.hello 1 100 with
  | false => cases ownOk c.own <;> cases decide (c.ports.length ≤ 8) <;> cases c.ports.all portOk <;> cases hasAny c.own c.addr <;> cases inI c.node 1 16 <;> rfl
  | true =>
    rw [e h]
    simp only [Bool.and_assoc]

set_option maxRecDepth 100000 in
set_option maxHeartbeats 4000000 in
theorem rmay19 (v : Value) (c : Cfg) (w : World) (h : CfgIs w v c) (hA : Addrs4 c) (hl : c.own.length ≤ 1000000) (hp : c.ports.length ≤ 1000000) :
    Calls Tryz.prog 20 #[v] w fun e w' => e = .returned (.bool (mayC c)) ∧ Below w.heap.size w w' := by
  obtain ⟨own, ports, rfl, hO, hP⟩ := h.is
  have HO := Lib.hid hO
  have HP := Lib.hid hP
  obtain ⟨A1, k1, rfl, -⟩ := hO
  obtain ⟨A2, k2, rfl, -⟩ := hP
  clear h
  obtain ⟨W1, hW1⟩ : ∃ W1, w.alloc (.cells #[.int .i64 c.node, .int .u32 c.addr, .slice A1 c.own.length k1, .slice A2 c.ports.length k2, .int .i64 c.hello, .int .i64 c.dead, .int .i64 c.again, .int .i64 c.room, .int .i64 c.queue, .int .i64 c.tokens, .int .i64 c.refill] 28) = W1 := ⟨_, rfl⟩
  have HB1 : Hid (Below w.heap.size w W1) := Lib.hid (by rw [← hW1]; exact (Below.refl _ _).alloc (Nat.le_refl _) _)
  have hx : Whole W1 w.heap.size 28 #[.int .i64 c.node, .int .u32 c.addr, .slice A1 c.own.length k1, .slice A2 c.ports.length k2, .int .i64 c.hello, .int .i64 c.dead, .int .i64 c.again, .int .i64 c.room, .int .i64 c.queue, .int .i64 c.tokens, .int .i64 c.refill] := by rw [← hW1]; exact Whole.new _ _ _
  have hlt : w.heap.size < W1.heap.size := hx.lt
  have c0 : W1.cell? ⟨w.heap.size, 0, none⟩ = some (.int .i64 c.node) := hx.cell 0
  have c1 : W1.cell? ⟨w.heap.size, 1, none⟩ = some (.int .u32 c.addr) := hx.cell 1
  have c2 : W1.cell? ⟨w.heap.size, 2, none⟩ = some (.slice A1 c.own.length k1) := hx.cell 2
  have c3 : W1.cell? ⟨w.heap.size, 3, none⟩ = some (.slice A2 c.ports.length k2) := hx.cell 3
  have c4 : W1.cell? ⟨w.heap.size, 4, none⟩ = some (.int .i64 c.hello) := hx.cell 4
  have c5 : W1.cell? ⟨w.heap.size, 5, none⟩ = some (.int .i64 c.dead) := hx.cell 5
  have c6 : W1.cell? ⟨w.heap.size, 6, none⟩ = some (.int .i64 c.again) := hx.cell 6
  have c7 : W1.cell? ⟨w.heap.size, 7, none⟩ = some (.int .i64 c.room) := hx.cell 7
  have c8 : W1.cell? ⟨w.heap.size, 8, none⟩ = some (.int .i64 c.queue) := hx.cell 8
  have c9 : W1.cell? ⟨w.heap.size, 9, none⟩ = some (.int .i64 c.tokens) := hx.cell 9
  have c10 : W1.cell? ⟨w.heap.size, 10, none⟩ = some (.int .i64 c.refill) := hx.cell 10
  have HOWN : Hid (∀ W, Below W1.heap.size W1 W → Calls Tryz.prog 55 #[.slice A1 c.own.length k1] W fun e w' => e = .returned (.bool (ownOk c.own)) ∧ Below W.heap.size W w') := Lib.hid (fun W hb => rown19 _ _ _ ((HO.out.below HB1.out).below hb) hl hA.2)
  have HHAS : Hid (∀ W, Below W1.heap.size W1 W → Calls Tryz.prog 56 #[.slice A1 c.own.length k1, .int .u32 c.addr] W fun e w' => e = .returned (.bool (hasAny c.own c.addr)) ∧ Below W.heap.size W w') := Lib.hid (fun W hb => rhas19 _ _ _ _ ((HO.out.below HB1.out).below hb) hl hA.2 hA.1)
  have HM := Lib.hid (mayC_rest c)
  have HW := Lib.hid hW1
  clear hx hW1 hA
  unfold cfgV
  go_enter Tryz.func20, Tryz.ntmps20
  by_cases h8 : c.ports.length ≤ 8
  case neg =>
    have HF : Hid (mayC c = false) := Lib.hid (by rw [HM.out, decide_eq_false h8]; cases ownOk c.own <;> rfl)
    have d8 : decide ((8 : Int) < (c.ports.length : Int)) = true := decide_eq_true (by omega)
    go_upto_region 1 with fail
    rw [HW.out]
    go_wp2
    go_ret
    exact ⟨by rw [HF.out]; try rfl, HB1.out⟩
  case pos =>
    have d8 : decide ((8 : Int) < (c.ports.length : Int)) = false := decide_eq_false (by omega)
    rw [decide_eq_true h8] at HM
    cases hok : ownOk c.own with
    | false =>
      have HF : Hid (mayC c = false) := Lib.hid (by rw [HM.out, hok]; try rfl)
      rw [hok] at HOWN
      clear hok
      go_upto_region 1 with fail
      rw [HW.out]
      go_wp2_with (go_at_call 55; refine (ext_of (HOWN.out _ (Below.refl _ _))).mono ?_; rintro e w' ⟨rfl, y, rfl⟩)
      go_ret
      exact ⟨by rw [HF.out]; try rfl, Ext.lift y HB1.out⟩
    | true =>
      rw [hok] at HOWN HM
      clear hok
      cases hha : hasAny c.own c.addr with
      | false =>
        have HF : Hid (mayC c = false) := Lib.hid (by rw [HM.out, hha]; cases c.ports.all portOk <;> rfl)
        rw [hha] at HHAS
        clear hha
        go_upto_region 1 with fail
        rw [HW.out]
        go_wp2_with (first
          | (go_at_call 55; refine (ext_of (HOWN.out _ (Below.refl _ _))).mono ?_; rintro e w' ⟨rfl, y, rfl⟩)
          | (go_at_call 56; refine (Ext.call (HHAS.out _ y.below)).mono ?_; rintro e w' ⟨rfl, z, rfl⟩))
        go_ret
        exact ⟨by rw [HF.out]; try rfl, Ext.lift z HB1.out⟩
      | true =>
        rw [hha] at HHAS HM
        clear hha
        go_upto_region 1 with fail
        rw [HW.out]
        go_wp2_with (first
          | (go_at_call 55; refine (ext_of (HOWN.out _ (Below.refl _ _))).mono ?_; rintro e w' ⟨rfl, y, rfl⟩)
          | (go_at_call 56; refine (Ext.call (HHAS.out _ y.below)).mono ?_; rintro e w' ⟨rfl, z, rfl⟩))
        go_loopw [3] (fun i wr => ∃ j : Nat, j ≤ c.ports.length ∧ i = .int .i64 j ∧ Hid ((c.ports.take j).all portOk = true) ∧ ∃ y : Ext W1, wr = y.w) (fun i _ => c.ports.length - (intOf i).toNat)
        case atStart => exact ⟨0, Nat.zero_le _, rfl, Lib.hid rfl, z, rfl⟩
        case round =>
          obtain ⟨j, hj, rfl, HG, y, rfl⟩ := hrel
          by_cases hjl : j < c.ports.length
          · obtain ⟨⟨a, n⟩, hu⟩ : ∃ u, c.ports[j]? = some u := ⟨_, List.getElem?_eq_getElem hjl⟩
            obtain ⟨b1, o1, rfl, hb1, p0, p1⟩ := ((HP.out.below HB1.out).below y.below).at hu
            simp only at p0 p1
            have HU := Lib.hid hu
            clear hu
            cases g1 : inI a 1 50 with
            | false =>
              have HF : Hid (mayC c = false) := Lib.hid (by rw [HM.out, ports_bad HU.out (by unfold portOk; rw [g1]; rfl)]; try rfl)
              go_wp2_with (go_at_call 57; refine (rin19 _ _ _ _).mono ?_; rintro e w' ⟨rfl, rfl⟩)
              go_ret
              exact ⟨by rw [HF.out]; try rfl, Ext.lift y HB1.out⟩
            | true =>
              cases g2 : inI n 68 1500 with
              | false =>
                have HF : Hid (mayC c = false) := Lib.hid (by rw [HM.out, ports_bad HU.out (by unfold portOk; rw [g1, g2]; rfl)]; try rfl)
                go_wp2_with (go_at_call 57; refine (rin19 _ _ _ _).mono ?_; rintro e w' ⟨rfl, rfl⟩)
                go_ret
                exact ⟨by rw [HF.out]; try rfl, Ext.lift y HB1.out⟩
              | true =>
                have hg := Lib.hid (ports_take HG.out HU.out (by unfold portOk; rw [g1, g2]; rfl))
                go_wp2_with (go_at_call 57; refine (rin19 _ _ _ _).mono ?_; rintro e w' ⟨rfl, rfl⟩)
                go_roundw
                case rel => exact ⟨j + 1, by omega, by go_num, hg, y, rfl⟩
                case measure => simp [intOf]; omega
          · have HF : Hid (mayC c = restB c) := Lib.hid (by
              have := HG.out
              rw [show j = c.ports.length by omega, List.take_length] at this
              rw [HM.out, this]; try rfl)
            cases g0 : inI c.node 1 16 with
            | false =>
              have HR : Hid (restB c = false) := Lib.hid (by unfold restB; rw [g0]; try rfl)
              go_wp2_with (go_at_call 57; refine (rin19 _ _ _ _).mono ?_; rintro e w' ⟨rfl, rfl⟩)
              go_ret
              exact ⟨by rw [HF.out, HR.out]; try rfl, Ext.lift y HB1.out⟩
            | true =>
              cases g1 : inI c.hello 1 100 with
              | false =>
                have HR : Hid (restB c = false) := Lib.hid (by unfold restB; rw [g0, g1]; try rfl)
                go_wp2_with (go_at_call 57; refine (rin19 _ _ _ _).mono ?_; rintro e w' ⟨rfl, rfl⟩)
                go_ret
                exact ⟨by rw [HF.out, HR.out]; try rfl, Ext.lift y HB1.out⟩
              | true =>
                cases g2 : inI c.dead 1 100 with
                | false =>
                  have HR : Hid (restB c = false) := Lib.hid (by unfold restB; rw [g0, g1, g2]; try rfl)
                  go_wp2_with (go_at_call 57; refine (rin19 _ _ _ _).mono ?_; rintro e w' ⟨rfl, rfl⟩)
                  go_ret
                  exact ⟨by rw [HF.out, HR.out]; try rfl, Ext.lift y HB1.out⟩
                | true =>
                  cases g3 : decide (c.hello < c.dead) with
                  | false =>
                    have HR : Hid (restB c = false) := Lib.hid (by unfold restB; rw [g0, g1, g2, g3]; try rfl)
                    go_wp2_with (go_at_call 57; refine (rin19 _ _ _ _).mono ?_; rintro e w' ⟨rfl, rfl⟩)
                    go_ret
                    exact ⟨by rw [HF.out, HR.out]; try rfl, Ext.lift y HB1.out⟩
                  | true =>
                    cases g4 : inI c.again 1 100 with
                    | false =>
                      have HR : Hid (restB c = false) := Lib.hid (by unfold restB; rw [g0, g1, g2, g3, g4]; try rfl)
                      go_wp2_with (go_at_call 57; refine (rin19 _ _ _ _).mono ?_; rintro e w' ⟨rfl, rfl⟩)
                      go_ret
                      exact ⟨by rw [HF.out, HR.out]; try rfl, Ext.lift y HB1.out⟩
                    | true =>
                      cases g5 : inI c.room 0 64 with
                      | false =>
                        have HR : Hid (restB c = false) := Lib.hid (by unfold restB; rw [g0, g1, g2, g3, g4, g5]; try rfl)
                        go_wp2_with (go_at_call 57; refine (rin19 _ _ _ _).mono ?_; rintro e w' ⟨rfl, rfl⟩)
                        go_ret
                        exact ⟨by rw [HF.out, HR.out]; try rfl, Ext.lift y HB1.out⟩
                      | true =>
                        cases g6 : inI c.queue 1 64 with
                        | false =>
                          have HR : Hid (restB c = false) := Lib.hid (by unfold restB; rw [g0, g1, g2, g3, g4, g5, g6]; try rfl)
                          go_wp2_with (go_at_call 57; refine (rin19 _ _ _ _).mono ?_; rintro e w' ⟨rfl, rfl⟩)
                          go_ret
                          exact ⟨by rw [HF.out, HR.out]; try rfl, Ext.lift y HB1.out⟩
                        | true =>
                          cases g7 : inI c.tokens 0 64 with
                          | false =>
                            have HR : Hid (restB c = false) := Lib.hid (by unfold restB; rw [g0, g1, g2, g3, g4, g5, g6, g7]; try rfl)
                            go_wp2_with (go_at_call 57; refine (rin19 _ _ _ _).mono ?_; rintro e w' ⟨rfl, rfl⟩)
                            go_ret
                            exact ⟨by rw [HF.out, HR.out]; try rfl, Ext.lift y HB1.out⟩
                          | true =>
                            have HR : Hid (restB c = inI c.refill 1 100) := Lib.hid (by unfold restB; rw [g0, g1, g2, g3, g4, g5, g6, g7]; try rfl)
                            go_wp2_with (go_at_call 57; refine (rin19 _ _ _ _).mono ?_; rintro e w' ⟨rfl, rfl⟩)
                            go_ret
                            exact ⟨by rw [HF.out, HR.out]; try rfl, Ext.lift y HB1.out⟩
end Go.Proofs.YtfbangojgjcbcaaGreatDoor
