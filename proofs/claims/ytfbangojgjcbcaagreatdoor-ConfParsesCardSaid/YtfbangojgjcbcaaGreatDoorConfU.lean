/- Contract of (*guidepostref19.reading).line, case by case: the node's, the address's line. -/
import Derived.Test.YtfbangojgjcbcaaGreatDoorConfT
namespace Go.Proofs.YtfbangojgjcbcaaGreatDoor
open Go.RowKit Pl

theorem lit_node {l : List UInt8} (h : (l == wNode) = true) : (str l).toList = [110, 111, 100, 101] := by rw [str_toList]; exact beq_iff_eq.1 h
theorem lit_node_no {l : List UInt8} (h : (l == wNode) = false) : ¬ (str l).toList = [110, 111, 100, 101] := by rw [str_toList]; exact beq_eq_false_iff_ne.1 h
theorem lit_node_b {l : List UInt8} {b : Bool} (h : (l == wNode) = b) : ((str l).toList == [110, 111, 100, 101]) = b := by rw [str_toList]; exact h
theorem lit_addr {l : List UInt8} (h : (l == wAddress) = true) : (str l).toList = [97, 100, 100, 114, 101, 115, 115] := by rw [str_toList]; exact beq_iff_eq.1 h
theorem lit_addr_no {l : List UInt8} (h : (l == wAddress) = false) : ¬ (str l).toList = [97, 100, 100, 114, 101, 115, 115] := by rw [str_toList]; exact beq_eq_false_iff_ne.1 h
theorem lit_addr_b {l : List UInt8} {b : Bool} (h : (l == wAddress) = b) : ((str l).toList == [97, 100, 100, 114, 101, 115, 115]) = b := by rw [str_toList]; exact h
theorem lit_own {l : List UInt8} (h : (l == wOwn) = true) : (str l).toList = [111, 119, 110] := by rw [str_toList]; exact beq_iff_eq.1 h
theorem lit_own_no {l : List UInt8} (h : (l == wOwn) = false) : ¬ (str l).toList = [111, 119, 110] := by rw [str_toList]; exact beq_eq_false_iff_ne.1 h
theorem lit_own_b {l : List UInt8} {b : Bool} (h : (l == wOwn) = b) : ((str l).toList == [111, 119, 110]) = b := by rw [str_toList]; exact h
theorem lit_port {l : List UInt8} (h : (l == wPort) = true) : (str l).toList = [112, 111, 114, 116] := by rw [str_toList]; exact beq_iff_eq.1 h
theorem lit_port_no {l : List UInt8} (h : (l == wPort) = false) : ¬ (str l).toList = [112, 111, 114, 116] := by rw [str_toList]; exact beq_eq_false_iff_ne.1 h
theorem lit_port_b {l : List UInt8} {b : Bool} (h : (l == wPort) = b) : ((str l).toList == [112, 111, 114, 116]) = b := by rw [str_toList]; exact h

set_option maxRecDepth 100000 in
set_option maxHeartbeats 2000000 in
theorem rline_node (wd s : List UInt8) (c : Cfg) (t B R : Nat) (w : World) (h : Rd 98 w B R c (t : Int)) (hBw : B ≤ w.heap.size) (hs : s.length ≤ 1000000) :
    Calls Tryz.prog 54 #[.pointer (some ⟨R, 0, none⟩), .int .i64 0, .string (str wd), .string (str s)] w fun e w' => RgRes w B R (if wd = wNode then (numIn s 1 16).map fun n => ({ c with node := n }, t) else none) e w' := by
  obtain ⟨own, ports, hW, hO, hP⟩ := h.is
  have hBR := h.ge
  obtain ⟨o, ho⟩ : ∃ o, (if wd = wNode then (numIn s 1 16).map fun n => ({ c with node := n }, t) else none : Option (Cfg × Nat)) = o := ⟨_, rfl⟩
  rw [ho]
  have HOO := Lib.hid ho
  have HWH := Lib.hid hW
  have HO := Lib.hid hO
  have HP := Lib.hid hP
  have c0 : w.cell? ⟨R, 0, none⟩ = some (.int .i64 c.node) := hW.cell 0
  have f0 : w.frozen? ⟨R, 0, none⟩ = false := hW.frozen 0
  have hRlt := hW.lt
  clear h ho hO hP hW
  go_enter Tryz.func54, Tryz.ntmps54
  go_wp2_with fail
  refine (rnumber s 16 _ hs).mono ?_
  rintro e w' ⟨⟨n, hn9, rfl, hnum⟩, rfl⟩
  go_upto_region 4 with fail
  have HN := Lib.hid hnum
  have HW2 : Hid (Whole (w.setCell ⟨R, 0, none⟩ (.int .i64 (n : Int))) R 98 (rdCells { c with node := (n : Int) } own ports (t : Int))) := Lib.hid (HWH.out.set 0 _)
  have HG2 : Hid (w.grownBy (w.setCell ⟨R, 0, none⟩ (.int .i64 (n : Int))) (some R)) := Lib.hid (grown_set _ _ _ _)
  obtain ⟨W2, hW2⟩ : ∃ W2, w.setCell ⟨R, 0, none⟩ (.int .i64 (n : Int)) = W2 := ⟨_, rfl⟩
  rw [hW2] at HW2 HG2 ⊢
  have x0 : W2.cell? ⟨R, 0, none⟩ = some (.int .i64 (n : Int)) := HW2.out.cell 0
  have HRD : Hid (Rd 98 W2 B R { c with node := (n : Int) } (t : Int)) := Lib.hid ⟨hBR, own, ports, HW2.out, own_grown HWH.out HO.out (by decide) HG2.out, own_grown HWH.out HP.out (by decide) HG2.out⟩
  have HK := Lib.hid (kb_grown (B := B) HG2.out hBw)
  clear hnum c0 f0 hW2
  cases hno : numOk s 16 with
  | false =>
    go_wp2
    go_ret
    exact RgRes.no (by rw [← HOO.out]; simp [numIn, hno]) rfl HK.out
  | true =>
    have HV : Hid (n = numVal s) := Lib.hid (HN.out (numOk_dec s 16 hno).2.2)
    cases hwd : (wd == wNode) with
    | false =>
      have dw := lit_node_no hwd
      have db := lit_node_b hwd
      go_wp2
      go_ret
      exact RgRes.no (by rw [← HOO.out, if_neg (by simpa using hwd)]) rfl HK.out
    | true =>
      have dw := lit_node hwd
      have HWD : Hid (wd = wNode) := Lib.hid (by simpa using hwd)
      clear hwd
      by_cases hle : (1 : Int) ≤ (n : Int)
      · have dle : decide ((1 : Int) ≤ (n : Int)) = true := decide_eq_true hle
        go_wp2
        go_ret
        refine RgRes.yes { c with node := (n : Int) } t ?_ rfl HRD.out HK.out
        have hv := HV.out
        rw [← HOO.out, if_pos HWD.out]
        unfold numIn
        rw [if_pos ⟨hno, by omega⟩, hv]; rfl
      · have dle : decide ((1 : Int) ≤ (n : Int)) = false := decide_eq_false hle
        go_wp2
        go_ret
        refine RgRes.no ?_ rfl HK.out
        have hv := HV.out
        rw [← HOO.out, if_pos HWD.out]
        unfold numIn
        rw [if_neg (fun h => by have := h.2; omega)]; rfl

set_option maxRecDepth 100000 in
set_option maxHeartbeats 2000000 in
theorem rline_addr (wd s : List UInt8) (c : Cfg) (t B R : Nat) (w : World) (h : Rd 98 w B R c (t : Int)) (hBw : B ≤ w.heap.size) (hs : s.length ≤ 1000000) :
    Calls Tryz.prog 54 #[.pointer (some ⟨R, 0, none⟩), .int .i64 1, .string (str wd), .string (str s)] w fun e w' => RgRes w B R (if wd = wAddress then (addrOf s).map fun (a : Nat) => ({ c with addr := (a : Int) }, t) else none) e w' := by
  obtain ⟨own, ports, hW, hO, hP⟩ := h.is
  have hBR := h.ge
  obtain ⟨o, ho⟩ : ∃ o, (if wd = wAddress then (addrOf s).map fun (a : Nat) => ({ c with addr := (a : Int) }, t) else none : Option (Cfg × Nat)) = o := ⟨_, rfl⟩
  rw [ho]
  have HOO := Lib.hid ho
  have HWH := Lib.hid hW
  have HO := Lib.hid hO
  have HP := Lib.hid hP
  have hRlt := hW.lt
  clear h ho hO hP hW
  have HAO : Hid (∃ (a : Nat) (b : Bool), (∀ x, addrOf s = some x → b = true ∧ x = a) ∧ (addrOf s = none → b = false) ∧ Calls Tryz.prog 115 #[.string (str s)] w fun e w' => e = .returned (.tuple #[.int .u32 (a : Int), .bool b]) ∧ Below w.heap.size w w') := Lib.hid (by
    cases ha : addrOf s with
    | none => exact ⟨0, false, (fun x hx => by cases hx), (fun _ => rfl), raddr_no s w hs ha⟩
    | some x => exact ⟨x, true, (fun y hy => by cases hy; exact ⟨rfl, rfl⟩), (fun hx => by cases hx), raddr_ok s x w hs ha⟩)
  obtain ⟨a, b, hab1, hab2, hcall⟩ := HAO.out
  have HA1 := Lib.hid hab1
  have HA2 := Lib.hid hab2
  have HC := Lib.hid hcall
  clear hab1 hab2 hcall HAO
  go_enter Tryz.func54, Tryz.ntmps54
  go_wp2_with fail
  refine HC.out.mono ?_
  rintro e w1 ⟨rfl, hb1⟩
  have HB1 := Lib.hid hb1
  have HR1 := Lib.hid (HWH.out.here hb1)
  have c1 : w1.cell? ⟨R, 1, none⟩ = some (.int .u32 c.addr) := HR1.out.cell 1
  have f1 : w1.frozen? ⟨R, 1, none⟩ = false := HR1.out.frozen 1
  have hR1 : R < w1.heap.size := HR1.out.lt
  clear hb1
  go_upto_region 7 with fail
  have HW2 : Hid (Whole (w1.setCell ⟨R, 1, none⟩ (.int .u32 (a : Int))) R 98 (rdCells { c with addr := (a : Int) } own ports (t : Int))) := Lib.hid (HR1.out.set 1 _)
  have HG2 : Hid (w1.grownBy (w1.setCell ⟨R, 1, none⟩ (.int .u32 (a : Int))) (some R)) := Lib.hid (grown_set _ _ _ _)
  obtain ⟨W2, hW2⟩ : ∃ W2, w1.setCell ⟨R, 1, none⟩ (.int .u32 (a : Int)) = W2 := ⟨_, rfl⟩
  rw [hW2] at HW2 HG2 ⊢
  have HRD : Hid (Rd 98 W2 B R { c with addr := (a : Int) } (t : Int)) := Lib.hid ⟨hBR, own, ports, HW2.out, own_grown HR1.out (own_below HO.out HB1.out) (by decide) HG2.out, own_grown HR1.out (own_below HP.out HB1.out) (by decide) HG2.out⟩
  have HK := Lib.hid ((Kb.of_below (HB1.out.mono hBw)).trans (kb_grown (B := B) HG2.out (Nat.le_trans hBw HB1.out.size)))
  clear c1 f1 hW2
  cases b with
  | false =>
    go_wp2
    go_ret
    refine RgRes.no ?_ rfl HK.out
    rw [← HOO.out]
    cases ha : addrOf s with
    | none => split <;> rfl
    | some x => have := (HA1.out x ha).1; cases this
  | true =>
    cases hwd : (wd == wAddress) with
    | false =>
      have dw := lit_addr_no hwd
      have db := lit_addr_b hwd
      go_wp2
      go_ret
      exact RgRes.no (by rw [← HOO.out, if_neg (by simpa using hwd)]) rfl HK.out
    | true =>
      have dw := lit_addr hwd
      have HWD : Hid (wd = wAddress) := Lib.hid (by simpa using hwd)
      clear hwd
      go_wp2
      go_ret
      refine RgRes.yes { c with addr := (a : Int) } t ?_ rfl HRD.out HK.out
      rw [← HOO.out, if_pos HWD.out]
      cases ha : addrOf s with
      | none => have := HA2.out ha; cases this
      | some x => rw [(HA1.out x ha).2]; rfl
end Go.Proofs.YtfbangojgjcbcaaGreatDoor
