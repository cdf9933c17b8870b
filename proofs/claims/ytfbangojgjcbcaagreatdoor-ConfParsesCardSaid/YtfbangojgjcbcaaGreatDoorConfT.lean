/- Contract of (*guidepostref19.reading).tail. -/
import Derived.Test.YtfbangojgjcbcaaGreatDoorConfS
import Derived.Test.YtfbangojgjcbcaaGreatDoorAddrR
namespace Go.Proofs.YtfbangojgjcbcaaGreatDoor.Pl
def setT (c : Cfg) (k : Nat) (n : Int) : Cfg := match k with
  | 0 => { c with hello := n }
  | 1 => { c with dead := n }
  | 2 => { c with again := n }
  | 3 => { c with room := n }
  | 4 => { c with queue := n }
  | 5 => { c with tokens := n }
  | 6 => { c with refill := n }
  | _ => c
theorem setT_own (c : Cfg) (k : Nat) (n : Int) : (setT c k n).own = c.own ∧ (setT c k n).ports = c.ports := by unfold setT; split <;> exact ⟨rfl, rfl⟩
def leastL (c : Cfg) : List Int := [1, c.hello + 1, 1, 0, 1, 0, 1]
def mostL : List Nat := [100, 100, 100, 64, 64, 64, 100]
theorem tailR_at (c : Cfg) (k : Nat) (w s : List UInt8) (hk : k < 7) (hh : 0 ≤ c.hello ∧ c.hello ≤ 100) :
    ∃ wd lo hi, wsL[k]? = some wd ∧ (leastL c)[k]? = some lo ∧ mostL[k]? = some hi ∧ tailR c k w s = (if w = wd then (numIn s lo.toNat hi).map (setT c k) else none) ∧ hi ≤ 100 ∧ 0 ≤ lo ∧ lo ≤ 101 :=
  match k, hk with
  | 0, _ => ⟨_, _, _, rfl, rfl, rfl, rfl, by decide, by decide, by decide⟩
  | 1, _ => ⟨_, _, _, rfl, rfl, rfl, rfl, by decide, by omega, by omega⟩
  | 2, _ => ⟨_, _, _, rfl, rfl, rfl, rfl, by decide, by decide, by decide⟩
  | 3, _ => ⟨_, _, _, rfl, rfl, rfl, rfl, by decide, by decide, by decide⟩
  | 4, _ => ⟨_, _, _, rfl, rfl, rfl, rfl, by decide, by decide, by decide⟩
  | 5, _ => ⟨_, _, _, rfl, rfl, rfl, rfl, by decide, by decide, by decide⟩
  | 6, _ => ⟨_, _, _, rfl, rfl, rfl, rfl, by decide, by decide, by decide⟩
theorem tailR_end (c : Cfg) (w s : List UInt8) : tailR c 7 w s = none := rfl
end Go.Proofs.YtfbangojgjcbcaaGreatDoor.Pl
namespace Go.Proofs.YtfbangojgjcbcaaGreatDoor
open Go.RowKit Pl

theorem set_tail (c : Cfg) (own ports : Value) (k : Nat) (n : Int) (hk : k < 7) :
    ((rdCells c own ports (k : Int)).setIfInBounds (4 + k) (.int .i64 n)).setIfInBounds 11 (.int .i64 ((k : Int) + 1)) = rdCells (setT c k n) own ports ((k + 1 : Nat) : Int) :=
  match k, hk with
  | 0, _ => rfl
  | 1, _ => rfl
  | 2, _ => rfl
  | 3, _ => rfl
  | 4, _ => rfl
  | 5, _ => rfl
  | 6, _ => rfl
def wordsT : Array Value := (wsL.map Sv).toArray
def leastA (c : Cfg) : Array Value := ((leastL c).map fun n => Value.int .i64 n).toArray
def mostA : Array Value := (mostL.map fun (n : Nat) => Value.int .i64 (n : Int)).toArray
def tosA (R : Nat) : Array Value := ((List.range 7).map fun k => Value.pointer (some ⟨R, 4 + k, none⟩)).toArray
/-- What a method of the document's reader answers. -/
def RgRes (w : World) (B R : Nat) (o : Option (Cfg × Nat)) (e : Ending) (w' : World) : Prop :=
  (match o with
    | some (c', t') => e = .returned (.bool true) ∧ Rd 98 w' B R c' (t' : Int)
    | none => e = .returned (.bool false)) ∧ Kb B R w w'
theorem RgRes.no {w w' : World} {B R : Nat} {o : Option (Cfg × Nat)} {e : Ending} (h : o = none) (he : e = .returned (.bool false)) (hb : Kb B R w w') : RgRes w B R o e w' := by
  subst h; exact ⟨he, hb⟩
theorem RgRes.yes {w w' : World} {B R : Nat} {o : Option (Cfg × Nat)} {e : Ending} (c : Cfg) (t : Nat) (h : o = some (c, t)) (he : e = .returned (.bool true)) (hr : Rd 98 w' B R c (t : Int)) (hb : Kb B R w w') : RgRes w B R o e w' := by
  subst h; exact ⟨⟨he, hr⟩, hb⟩

set_option maxRecDepth 100000 in
set_option maxHeartbeats 4000000 in
theorem rtail (wd s : List UInt8) (c : Cfg) (k : Nat) (B R : Nat) (w : World) (h : Rd 98 w B R c (k : Int)) (hBw : B ≤ w.heap.size) (hs : s.length ≤ 1000000) (hk : k ≤ 7) (hh : 0 ≤ c.hello ∧ c.hello ≤ 100) :
    Calls Tryz.prog 117 #[.pointer (some ⟨R, 0, none⟩), .string (str wd), .string (str s)] w fun e w' => RgRes w B R ((tailR c k wd s).map fun c' => (c', k + 1)) e w' := by
  obtain ⟨own, ports, hW, hO, hP⟩ := h.is
  have hBR := h.ge
  obtain ⟨o, ho⟩ : ∃ o, (tailR c k wd s).map (fun c' => (c', k + 1)) = o := ⟨_, rfl⟩
  rw [ho]
  have HOO := Lib.hid ho
  have HWH := Lib.hid hW
  have HO := Lib.hid hO
  have HP := Lib.hid hP
  have c4 : w.cell? ⟨R, 4, none⟩ = some (.int .i64 c.hello) := hW.cell 4
  have hRlt := hW.lt
  have hh0 := hh.1
  have hh1 := hh.2
  clear h ho hO hP hW
  go_enter Tryz.func117, Tryz.ntmps117
  go_wp2
  obtain ⟨W3, hW3⟩ : ∃ W3, ((w.alloc (.cells #[.string { data := #[104, 101, 108, 108, 111] }, .string { data := #[100, 101, 97, 100] }, .string { data := #[97, 103, 97, 105, 110] }, .string { data := #[114, 111, 111, 109] }, .string { data := #[113, 117, 101, 117, 101] }, .string { data := #[116, 111, 107, 101, 110, 115] }, .string { data := #[114, 101, 102, 105, 108, 108] }] 9)).alloc (.cells #[.int .i64 1, .int .i64 (c.hello + 1), .int .i64 1, .int .i64 0, .int .i64 1, .int .i64 0, .int .i64 1] 3)).alloc (.cells #[.int .i64 100, .int .i64 100, .int .i64 100, .int .i64 64, .int .i64 64, .int .i64 64, .int .i64 100] 3) = W3 := ⟨_, rfl⟩
  have HB3 : Hid (Below w.heap.size w W3) := Lib.hid (by rw [← hW3]; exact bel_alloc (bel_alloc (bel_alloc (Below.refl _ _) _) _) _)
  have HWS : Hid (Whole W3 w.heap.size 9 wordsT) := Lib.hid (by rw [← hW3]; exact ((Whole.new w 9 wordsT).alloc _).alloc _)
  have HLS : Hid (Whole W3 (w.heap.size + 1) 3 (leastA c)) := Lib.hid (by
    rw [← hW3]
    have := (Whole.new (w.alloc (.cells wordsT 9)) 3 (leastA c)).alloc (.cells #[.int .i64 100, .int .i64 100, .int .i64 100, .int .i64 64, .int .i64 64, .int .i64 64, .int .i64 100] 3)
    rw [World.size_alloc] at this; exact this)
  have HMS : Hid (Whole W3 (w.heap.size + 1 + 1) 3 mostA) := Lib.hid (by
    rw [← hW3]
    have := Whole.new ((w.alloc (.cells wordsT 9)).alloc (.cells (leastA c) 3)) 3 mostA
    rw [World.size_alloc, World.size_alloc] at this; exact this)
  rw [hW3]
  have hR3 : R < W3.heap.size := Nat.lt_of_lt_of_le hRlt HB3.out.size
  have c11 : W3.cell? ⟨R, 11, none⟩ = some (.int .i64 (k : Int)) := (HWH.out.here HB3.out).cell 11
  have hws := HWS.out.lt
  have hls := HLS.out.lt
  have hms := HMS.out.lt
  clear hW3 c4
  refine wp_region_ext_tail 28 (by kernel_rfl) (by kernel_rfl) ?_
  simp only [List.take_succ_cons, List.take_zero, List.drop_succ_cons, List.drop_zero]
  repeat (go_big_quiet_step (fail))
  refine wpQuiet_nil ?_
  rintro _ ⟨y, rfl⟩
  go_upto_region 5 with fail
  obtain ⟨W5, hW5⟩ : ∃ W5, y.w.alloc (.cells #[.pointer (some ⟨R, 4, none⟩), .pointer (some ⟨R, 5, none⟩), .pointer (some ⟨R, 6, none⟩), .pointer (some ⟨R, 7, none⟩), .pointer (some ⟨R, 8, none⟩), .pointer (some ⟨R, 9, none⟩), .pointer (some ⟨R, 10, none⟩)] 200) = W5 := ⟨_, rfl⟩
  have HB5 : Hid (Below W3.heap.size W3 W5) := Lib.hid (by rw [← hW5]; exact bel_alloc y.below _)
  have HTS : Hid (Whole W5 y.w.heap.size 200 (tosA R)) := Lib.hid (by rw [← hW5]; exact Whole.new y.w 200 (tosA R))
  rw [hW5]
  have hts := HTS.out.lt
  have HB05 := Lib.hid (HB3.out.trans (HB5.out.mono HB3.out.size))
  have HR5 := Lib.hid (HWH.out.here HB05.out)
  have x11 : W5.cell? ⟨R, 11, none⟩ = some (.int .i64 (k : Int)) := HR5.out.cell 11
  have hsz5 := HB5.out.size
  have hR5 : R < W5.heap.size := Nat.lt_of_lt_of_le hR3 hsz5
  by_cases hk7 : k < 7
  case neg =>
    have d7 : decide ((7 : Int) ≤ (k : Int)) = true := decide_eq_true (by omega)
    clear c11 hW5
    go_wp2
    go_ret
    exact RgRes.no (by rw [← HOO.out, show k = 7 by omega]; rfl) rfl (Kb.of_below (HB05.out.mono hBw))
  case pos =>
    have d7 : decide ((7 : Int) ≤ (k : Int)) = false := decide_eq_false (by omega)
    obtain ⟨wk, lo, hi, e1, e2, e3, htl, hhi, hlo0, hlo1⟩ := tailR_at c k wd s hk7 hh
    rw [htl] at HOO
    have xw : W5.cell? ⟨w.heap.size, k, none⟩ = some (.string (str wk)) := by rw [(HWS.out.here HB5.out).cell k]; simp [wordsT, e1, Sv]
    have xl : W5.cell? ⟨w.heap.size + 1, k, none⟩ = some (.int .i64 lo) := by rw [(HLS.out.here HB5.out).cell k]; simp [leastA, e2]
    have xm : W5.cell? ⟨w.heap.size + 1 + 1, k, none⟩ = some (.int .i64 (hi : Int)) := by rw [(HMS.out.here HB5.out).cell k]; simp [mostA, e3]
    have xt : W5.cell? ⟨y.w.heap.size, k, none⟩ = some (.pointer (some ⟨R, 4 + k, none⟩)) := by rw [HTS.out.cell k]; simp [tosA, hk7]
    obtain ⟨u4, hu4⟩ : ∃ u4, (rdCells c own ports (k : Int))[4 + k]? = some u4 := ⟨_, Array.getElem?_eq_getElem (by simp [rdCells]; omega)⟩
    have x4 : W5.cell? ⟨R, 4 + k, none⟩ = some u4 := (HR5.out.cell _).trans hu4
    have hws5 : w.heap.size < W5.heap.size := Nat.lt_of_lt_of_le hws hsz5
    have hls5 : w.heap.size + 1 < W5.heap.size := Nat.lt_of_lt_of_le hls hsz5
    have hms5 : w.heap.size + 1 + 1 < W5.heap.size := Nat.lt_of_lt_of_le hms hsz5
    generalize y.w.heap.size = T at HTS xt hts ⊢
    clear hW5 c11 hu4
    by_cases hwd : wd = wk
    case neg =>
      have dw := str_eq_false hwd
      go_wp2
      go_ret
      exact RgRes.no (by rw [← HOO.out, if_neg hwd]; rfl) rfl (Kb.of_below (HB05.out.mono hBw))
    case pos =>
      rw [if_pos hwd] at HOO
      have dw := str_eq_true hwd
      have ff : W5.frozen? ⟨R, 4 + k, none⟩ = false := HR5.out.frozen _
      go_wp2_with fail
      refine (rnumber s hi _ hs).mono ?_
      rintro e w' ⟨⟨n, hn9, rfl, hnum⟩, rfl⟩
      go_upto_region 10 with fail
      have HW6 : Hid (Whole (W5.setCell ⟨R, 4 + k, none⟩ (.int .i64 (n : Int))) R 98 ((rdCells c own ports (k : Int)).setIfInBounds (4 + k) (.int .i64 (n : Int)))) := Lib.hid (HR5.out.set _ _)
      have HG6 : Hid (W5.grownBy (W5.setCell ⟨R, 4 + k, none⟩ (.int .i64 (n : Int))) (some R)) := Lib.hid (grown_set _ _ _ _)
      have y11 : (W5.setCell ⟨R, 4 + k, none⟩ (.int .i64 (n : Int))).cell? ⟨R, 11, none⟩ = some (.int .i64 (k : Int)) := by
        rw [HW6.out.cell 11, Array.getElem?_setIfInBounds_ne (by omega)]; rfl
      have hls6 : w.heap.size + 1 ≠ R := by omega
      have yl : (W5.setCell ⟨R, 4 + k, none⟩ (.int .i64 (n : Int))).cell? ⟨w.heap.size + 1, k, none⟩ = some (.int .i64 lo) := by
        rw [((HLS.out.here HB5.out).far (p := ⟨R, 4 + k, none⟩) hls6 _).cell k]; simp [leastA, e2]
      obtain ⟨W6, hW6⟩ : ∃ W6, W5.setCell ⟨R, 4 + k, none⟩ (.int .i64 (n : Int)) = W6 := ⟨_, rfl⟩
      rw [hW6] at HW6 HG6 y11 yl ⊢
      have f6 : W6.frozen? ⟨R, 11, none⟩ = false := HW6.out.frozen _
      have HW7 : Hid (Whole (W6.setCell ⟨R, 11, none⟩ (.int .i64 ((k : Int) + 1))) R 98 (rdCells (setT c k n) own ports ((k + 1 : Nat) : Int))) := Lib.hid (by
        have := HW6.out.set 11 (.int .i64 ((k : Int) + 1))
        rw [set_tail c own ports k n hk7] at this; exact this)
      have HG7 := Lib.hid (grown_trans HG6.out (grown_set W6 R 11 (.int .i64 ((k : Int) + 1))))
      have HK7 : Hid (Kb B R w (W6.setCell ⟨R, 11, none⟩ (.int .i64 ((k : Int) + 1)))) := Lib.hid ((Kb.of_below (HB05.out.mono hBw)).trans (kb_grown HG7.out (Nat.le_trans hBw HB05.out.size)))
      have HN := Lib.hid hnum
      have HRD : Hid (Rd 98 (W6.setCell ⟨R, 11, none⟩ (.int .i64 ((k : Int) + 1))) B R (setT c k n) ((k + 1 : Nat) : Int)) := Lib.hid (by
        obtain ⟨q1, q2⟩ := setT_own c k n
        refine ⟨hBR, own, ports, HW7.out, ?_, ?_⟩
        · rw [q1]; exact own_grown HR5.out (own_below HO.out HB05.out) (by decide) HG7.out
        · rw [q2]; exact own_grown HR5.out (own_below HP.out HB05.out) (by decide) HG7.out)
      clear hW6 hnum xw xl xm xt x11 x4 e1 e2 e3 htl
      cases hno : numOk s hi with
      | false =>
        go_wp2
        go_ret
        exact RgRes.no (by rw [← HOO.out]; simp [numIn, hno]) rfl HK7.out
      | true =>
        have HV : Hid (n = numVal s) := Lib.hid (HN.out (numOk_dec s hi hno).2.2)
        by_cases hle : lo ≤ (n : Int)
        · have dle : decide (lo ≤ (n : Int)) = true := decide_eq_true hle
          go_wp2
          go_ret
          refine RgRes.yes (setT c k n) (k + 1) ?_ rfl HRD.out HK7.out
          rw [← HOO.out]
          unfold numIn
          have hv := HV.out
          rw [if_pos ⟨hno, by omega⟩, hv]; rfl
        · have dle : decide (lo ≤ (n : Int)) = false := decide_eq_false hle
          go_wp2
          go_ret
          refine RgRes.no ?_ rfl HK7.out
          rw [← HOO.out]
          unfold numIn
          have hv := HV.out
          rw [if_neg (fun h => by have := h.2; omega)]; rfl
end Go.Proofs.YtfbangojgjcbcaaGreatDoor
