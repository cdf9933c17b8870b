/- Part 6 of the proof: ConfR, PlainJ, ConfS, ConfEr. -/
import Derived.Test.YtfbangojgjcbcaaGreatDoorST01
import Derived.Test.YtfbangojgjcbcaaGreatDoorST02
import Derived.Test.YtfbangojgjcbcaaGreatDoorST05
namespace Go.Proofs.YtfbangojgjcbcaaGreatDoor.Pl
def goodTo (l : List Pr) (j : Nat) : Prop := rising (l.take j) = true ∧ (l.take j).all (fun p => mayP p.1 p.2) = true
theorem goodTo.start (l : List Pr) : goodTo l 0 := ⟨rfl, rfl⟩
theorem goodTo.first {l : List Pr} {p : Pr} (hp : l[0]? = some p) (hm : mayP p.1 p.2 = true) : goodTo l (0 + 1) := by
  have e : l.take (0 + 1) = [p] := by
    cases l with
    | nil => simp at hp
    | cons x l => simp at hp; subst hp; simp
  unfold goodTo
  rw [e]
  exact ⟨rfl, by simp [hm]⟩
theorem goodTo.next {l : List Pr} {j : Nat} {z p : Pr} (h : goodTo l (j + 1)) (hz : l[j]? = some z) (hp : l[j + 1]? = some p) (hm : mayP p.1 p.2 = true) (hc : cmpP z.1 z.2 p.1 p.2 = -1) : goodTo l (j + 1 + 1) := by
  obtain ⟨h1, h2⟩ := h
  have e1 : l.take (j + 1) = l.take j ++ [z] := by rw [List.take_add_one, hz]; rfl
  have e2 := take_two hz hp
  unfold goodTo
  rw [e2, rising_snoc2, ← e1, h1]
  refine ⟨by rw [hc]; rfl, ?_⟩
  rw [show l.take j ++ [z, p] = l.take (j + 1) ++ [p] by rw [e1]; simp, List.all_append, h2]
  simp [hm]
theorem goodTo.done {l : List Pr} {j : Nat} (h : goodTo l j) (hj : j = l.length ∨ (j = 9 ∧ 9 ≤ l.length)) : ownOk l = inI l.length 1 8 := by
  rcases hj with rfl | ⟨rfl, hl⟩
  · obtain ⟨h1, h2⟩ := h
    rw [List.take_length] at h1 h2
    unfold ownOk inI
    rw [h1, h2]
    simp
    rw [Bool.eq_iff_iff]; simp; omega
  · have : inI l.length 1 8 = false := by unfold inI; simp; omega
    rw [this]; exact ownOk_len (by omega)
theorem hasAny_take {l : List Pr} {j : Nat} {p : Pr} {a : Int} (h : hasAny (l.take j) a = false) (hp : l[j]? = some p) (hm : hasP p.1 p.2 a = false) : hasAny (l.take (j + 1)) a = false := by
  rw [List.take_add_one, hp]
  unfold hasAny at *
  simp only [List.any_append, h, Option.toList, List.any_cons, List.any_nil, hm, Bool.or_false]
theorem hasAny_mem {l : List Pr} {j : Nat} {p : Pr} {a : Int} (hp : l[j]? = some p) (hm : hasP p.1 p.2 a = true) : hasAny l a = true := by
  unfold hasAny
  rw [List.any_eq_true]
  exact ⟨p, List.mem_of_getElem? hp, hm⟩
theorem ports_take {l : List Pr} {j : Nat} {p : Pr} (h : (l.take j).all portOk = true) (hp : l[j]? = some p) (hm : portOk p = true) : (l.take (j + 1)).all portOk = true := by
  rw [List.take_add_one, hp]
  simp [List.all_append, h, hm]
theorem ports_bad {l : List Pr} {j : Nat} {p : Pr} (hp : l[j]? = some p) (hm : portOk p = false) : l.all portOk = false := by
  rw [List.all_eq_false]
  exact ⟨p, List.mem_of_getElem? hp, by simp [hm]⟩
theorem mem_at {l : List Pr} {j : Nat} {p : Pr} (hp : l[j]? = some p) : p ∈ l := List.mem_of_getElem? hp
end Go.Proofs.YtfbangojgjcbcaaGreatDoor.Pl
namespace Go.Proofs.YtfbangojgjcbcaaGreatDoor
open Go.RowKit Pl
set_option maxRecDepth 100000 in
theorem rin19 (n lo hi : Int) (w : World) : Calls Tryz.prog 57 #[.int .i64 n, .int .i64 lo, .int .i64 hi] w fun e w' => e = .returned (.bool (inI n lo hi)) ∧ w = w' := by
  by_cases h1 : lo ≤ n
  · by_cases h2 : n ≤ hi
    · have H : Hid (inI n lo hi = true) := Lib.hid (inI_iff.2 ⟨h1, h2⟩)
      go_enter Tryz.func57, Tryz.ntmps57
      go_wp2
      go_ret
      exact ⟨by rw [H.out]; rfl, rfl⟩
    · have H : Hid (inI n lo hi = false) := Lib.hid (Bool.eq_false_iff.2 fun h => h2 (inI_iff.1 h).2)
      have d : decide (n ≤ hi) = false := decide_eq_false h2
      clear h2
      go_enter Tryz.func57, Tryz.ntmps57
      go_wp2
      go_ret
      exact ⟨by rw [H.out]; rfl, rfl⟩
  · have H : Hid (inI n lo hi = false) := Lib.hid (Bool.eq_false_iff.2 fun h => h1 (inI_iff.1 h).1)
    have d : decide (lo ≤ n) = false := decide_eq_false h1
    clear h1
    go_enter Tryz.func57, Tryz.ntmps57
    go_wp2
    go_ret
    exact ⟨by rw [H.out]; rfl, rfl⟩
theorem rcompare_is {a n b m c : Int} (h : cmpP a n b m = c) (w : World) :
    Calls Tryz.prog 119 #[.agg #[.int .u32 a, .int .i64 n], .agg #[.int .u32 b, .int .i64 m]] w fun e w' => e = .returned (.int .i64 c) ∧ Below w.heap.size w w' := by
  rw [← h]; exact rcompare a n b m w
set_option maxRecDepth 100000 in
set_option maxHeartbeats 2000000 in
theorem rown19 (v : Value) (l : List Pr) (w : World) (h : Rs .u32 w v l) (hl : l.length ≤ 1000000) (hA : AddrsOk l) :
    Calls Tryz.prog 55 #[v] w fun e w' => e = .returned (.bool (ownOk l)) ∧ Below w.heap.size w w' := by
  have HL := Lib.hid h
  have HA := Lib.hid hA
  obtain ⟨A, k, rfl, -⟩ := h
  clear hA
  go_enter Tryz.func55, Tryz.ntmps55
  go_wp2
  go_loopw [3] (fun i wr => ∃ j : Nat, j ≤ l.length ∧ j ≤ 9 ∧ i = .int .i64 j ∧ Hid (goodTo l j) ∧ Hid (Below w.heap.size w wr)) (fun i _ => l.length - (intOf i).toNat)
  case atStart => exact ⟨0, Nat.zero_le _, Nat.zero_le _, rfl, Lib.hid (goodTo.start l), Lib.hid (Below.refl _ _)⟩
  case round =>
    obtain ⟨j, hj, hj9, rfl, HG, HB⟩ := hrel
    by_cases hlt : j < l.length
    · by_cases h9 : j < 9
      · obtain ⟨⟨a, n⟩, hu⟩ : ∃ u, l[j]? = some u := ⟨_, List.getElem?_eq_getElem hlt⟩
        obtain ⟨b1, o1, rfl, hb1, p0, p1⟩ := (HL.out.below HB.out).at hu
        simp only at p0 p1
        have ha := HA.out _ (mem_at hu)
        have HU := Lib.hid hu
        clear hu
        cases hm : mayP a n with
        | false =>
          have HF : Hid (ownOk l = false) := Lib.hid (ownOk_may (mem_at HU.out) hm)
          have HM := Lib.hid hm
          clear hm
          go_wp2
          refine wp_region_ext (by kernel_rfl) (by kernel_rfl) ?_
          repeat (go_big_quiet_step (first | (go_at_call 118; exact Ext.call (rmay_at a n false _ ha HM.out))))
          refine wpQuiet_nil ?_
          rintro _ ⟨y, rfl⟩
          go_wp2
          go_ret
          exact ⟨by rw [HF.out]; rfl, Ext.lift y HB.out⟩
        | true =>
          have HM := Lib.hid hm
          clear hm
          match j, hj, hj9, hlt, h9, HU, p0, p1, HG with
          | 0, hj, hj9, hlt, h9, HU, p0, p1, HG =>
            have hg := Lib.hid (goodTo.first HU.out HM.out)
            simp only [Nat.zero_mul, Nat.add_zero] at p0 p1
            go_wp2
            refine wp_region_ext (by kernel_rfl) (by kernel_rfl) ?_
            repeat (go_big_quiet_step (first | (go_at_call 118; exact Ext.call (rmay_at a n true _ ha HM.out))))
            refine wpQuiet_nil ?_
            rintro _ ⟨y, rfl⟩
            go_wp2
            go_roundw
            case rel => exact ⟨0 + 1, by omega, by omega, by go_num, hg, Lib.hid (Ext.lift y HB.out)⟩
            case measure => simp [intOf]; omega
          | j + 1, hj, hj9, hlt, h9, HU, p0, p1, HG =>
            obtain ⟨⟨za, zn⟩, hz⟩ : ∃ u, l[j]? = some u := ⟨_, List.getElem?_eq_getElem (by omega)⟩
            obtain ⟨b2, o2, he, hb2, q0, q1⟩ := (HL.out.below HB.out).at hz
            cases he
            simp only at q0 q1
            have HZ := Lib.hid hz
            clear hz
            by_cases hc : cmpP za zn a n = -1
            · have hg := Lib.hid (HG.out.next HZ.out HU.out HM.out hc)
              have HC := Lib.hid hc
              clear hc
              go_wp2
              refine wp_region_ext (by kernel_rfl) (by kernel_rfl) ?_
              repeat (go_big_quiet_step (first | (go_at_call 118; exact Ext.call (rmay_at a n true _ ha HM.out)) | (go_at_call 119; exact Ext.call (rcompare_is HC.out _))))
              refine wpQuiet_nil ?_
              rintro _ ⟨y, rfl⟩
              go_wp2
              go_roundw
              case rel => exact ⟨j + 1 + 1, by omega, by omega, by go_num, hg, Lib.hid (Ext.lift y HB.out)⟩
              case measure => simp [intOf]; omega
            · have HF : Hid (ownOk l = false) := Lib.hid (ownOk_rise HZ.out HU.out (by have := cmpP_bd za zn a n; simp only; omega))
              obtain ⟨k, hk⟩ : ∃ k, cmpP za zn a n = k := ⟨_, rfl⟩
              rw [hk] at hc
              have dk : (k == -1) = false := by simpa using hc
              have HC := Lib.hid hk
              clear hk
              go_wp2
              refine wp_region_ext (by kernel_rfl) (by kernel_rfl) ?_
              repeat (go_big_quiet_step (first | (go_at_call 118; exact Ext.call (rmay_at a n true _ ha HM.out)) | (go_at_call 119; exact Ext.call (rcompare_is HC.out _))))
              refine wpQuiet_nil ?_
              rintro _ ⟨y, rfl⟩
              go_wp2
              go_ret
              exact ⟨by rw [HF.out]; rfl, Ext.lift y HB.out⟩
      · have HF := Lib.hid (HG.out.done (.inr ⟨by omega, by omega⟩))
        go_wp2_with (go_at_call 57; refine (rin19 _ _ _ _).mono ?_; rintro e w' ⟨rfl, rfl⟩)
        go_ret
        exact ⟨by rw [HF.out]; try rfl, HB.out⟩
    · have HF := Lib.hid (HG.out.done (.inl (by omega)))
      go_wp2_with (go_at_call 57; refine (rin19 _ _ _ _).mono ?_; rintro e w' ⟨rfl, rfl⟩)
      go_ret
      exact ⟨by rw [HF.out]; try rfl, HB.out⟩
set_option maxRecDepth 100000 in
set_option maxHeartbeats 1000000 in
theorem rhas19 (v : Value) (l : List Pr) (x : Int) (w : World) (h : Rs .u32 w v l) (hl : l.length ≤ 1000000) (hA : AddrsOk l) (hx : IsAddr x) :
    Calls Tryz.prog 56 #[v, .int .u32 x] w fun e w' => e = .returned (.bool (hasAny l x)) ∧ Below w.heap.size w w' := by
  have HL := Lib.hid h
  have HA := Lib.hid hA
  obtain ⟨A, k, rfl, -⟩ := h
  clear hA
  go_enter Tryz.func56, Tryz.ntmps56
  go_wp2
  go_loopw [5] (fun i wr => ∃ j : Nat, j ≤ l.length ∧ i = .int .i64 j ∧ Hid (hasAny (l.take j) x = false) ∧ Hid (Below w.heap.size w wr)) (fun i _ => l.length - (intOf i).toNat)
  case atStart => exact ⟨0, Nat.zero_le _, rfl, Lib.hid rfl, Lib.hid (Below.refl _ _)⟩
  case round =>
    obtain ⟨j, hj, rfl, HG, HB⟩ := hrel
    by_cases hlt : j < l.length
    · obtain ⟨⟨a, n⟩, hu⟩ : ∃ u, l[j]? = some u := ⟨_, List.getElem?_eq_getElem hlt⟩
      obtain ⟨b1, o1, rfl, hb1, p0, p1⟩ := (HL.out.below HB.out).at hu
      simp only at p0 p1
      have ha := HA.out _ (mem_at hu)
      have HU := Lib.hid hu
      clear hu
      cases hm : hasP a n x with
      | false =>
        have hg := Lib.hid (hasAny_take HG.out HU.out hm)
        have HM := Lib.hid hm
        clear hm
        go_wp2_with (go_at_call 120; refine (ext_of (rhas a n x _ ha hx)).mono ?_; rw [HM.out]; rintro e w' ⟨rfl, y, rfl⟩)
        go_roundw
        case rel => exact ⟨j + 1, by omega, by go_num, hg, Lib.hid (Ext.lift y HB.out)⟩
        case measure => simp [intOf]; omega
      | true =>
        have HF := Lib.hid (hasAny_mem HU.out hm)
        have HM := Lib.hid hm
        clear hm
        go_wp2_with (go_at_call 120; refine (ext_of (rhas a n x _ ha hx)).mono ?_; rw [HM.out]; rintro e w' ⟨rfl, y, rfl⟩)
        go_ret
        exact ⟨by rw [HF.out]; try rfl, Ext.lift y HB.out⟩
    · obtain rfl : j = l.length := by omega
      have HF : Hid (hasAny l x = false) := Lib.hid (by have := HG.out; rw [List.take_length] at this; exact this)
      go_wp2
      go_ret
      exact ⟨by rw [HF.out]; try rfl, HB.out⟩
end Go.Proofs.YtfbangojgjcbcaaGreatDoor
namespace Go.Proofs.YtfbangojgjcbcaaGreatDoor
open Go.RowKit Pl
def restB (c : Cfg) : Bool := inI c.node 1 16 && (inI c.hello 1 100 && (inI c.dead 1 100 && (decide (c.hello < c.dead) && (inI c.again 1 100 && (inI c.room 0 64 && (inI c.queue 1 64 && (inI c.tokens 0 64 && inI c.refill 1 100)))))))
theorem mayC_rest (c : Cfg) : mayC c = (ownOk c.own && (decide (c.ports.length ≤ 8) && (c.ports.all portOk && (hasAny c.own c.addr && restB c)))) := by
  have e : inI c.hello 1 100 = true → inI c.dead (c.hello + 1) 100 = (inI c.dead 1 100 && decide (c.hello < c.dead)) := fun h => by
    have := inI_iff.1 h
    rw [Bool.eq_iff_iff]
    simp only [Bool.and_eq_true, inI_iff, decide_eq_true_eq]
    omega
  unfold mayC restB
  cases h : inI c.hello 1 100 with
  | false => cases ownOk c.own <;> cases decide (c.ports.length ≤ 8) <;> cases c.ports.all portOk <;> cases hasAny c.own c.addr <;> cases inI c.node 1 16 <;> rfl
  | true =>
    rw [e h]
    simp only [Bool.and_assoc]
set_option maxRecDepth 100000 in
set_option maxHeartbeats 4000000 in
theorem rmay19 (v : Value) (c : Cfg) (w : World) (h : CfgIs w v c) (hA : Addrs4 c) (hl : c.own.length ≤ 1000000) (hp : c.ports.length ≤ 1000000) :
    Calls Tryz.prog 20 #[v] w fun e w' => e = .returned (.bool (mayC c)) ∧ Below w.heap.size w w' := by
  obtain ⟨own, ports, rfl, hO, hP⟩ := h.is
  have HO := Lib.hid hO
  have HP := Lib.hid hP
  obtain ⟨A1, k1, rfl, -⟩ := hO
  obtain ⟨A2, k2, rfl, -⟩ := hP
  clear h
  obtain ⟨W1, hW1⟩ : ∃ W1, w.alloc (.cells #[.int .i64 c.node, .int .u32 c.addr, .slice A1 c.own.length k1, .slice A2 c.ports.length k2, .int .i64 c.hello, .int .i64 c.dead, .int .i64 c.again, .int .i64 c.room, .int .i64 c.queue, .int .i64 c.tokens, .int .i64 c.refill] 28) = W1 := ⟨_, rfl⟩
  have HB1 : Hid (Below w.heap.size w W1) := Lib.hid (by rw [← hW1]; exact (Below.refl _ _).alloc (Nat.le_refl _) _)
  have hx : Whole W1 w.heap.size 28 #[.int .i64 c.node, .int .u32 c.addr, .slice A1 c.own.length k1, .slice A2 c.ports.length k2, .int .i64 c.hello, .int .i64 c.dead, .int .i64 c.again, .int .i64 c.room, .int .i64 c.queue, .int .i64 c.tokens, .int .i64 c.refill] := by rw [← hW1]; exact Whole.new _ _ _
  have hlt : w.heap.size < W1.heap.size := hx.lt
  have c0 : W1.cell? ⟨w.heap.size, 0, none⟩ = some (.int .i64 c.node) := hx.cell 0
  have c1 : W1.cell? ⟨w.heap.size, 1, none⟩ = some (.int .u32 c.addr) := hx.cell 1
  have c2 : W1.cell? ⟨w.heap.size, 2, none⟩ = some (.slice A1 c.own.length k1) := hx.cell 2
  have c3 : W1.cell? ⟨w.heap.size, 3, none⟩ = some (.slice A2 c.ports.length k2) := hx.cell 3
  have c4 : W1.cell? ⟨w.heap.size, 4, none⟩ = some (.int .i64 c.hello) := hx.cell 4
  have c5 : W1.cell? ⟨w.heap.size, 5, none⟩ = some (.int .i64 c.dead) := hx.cell 5
  have c6 : W1.cell? ⟨w.heap.size, 6, none⟩ = some (.int .i64 c.again) := hx.cell 6
  have c7 : W1.cell? ⟨w.heap.size, 7, none⟩ = some (.int .i64 c.room) := hx.cell 7
  have c8 : W1.cell? ⟨w.heap.size, 8, none⟩ = some (.int .i64 c.queue) := hx.cell 8
  have c9 : W1.cell? ⟨w.heap.size, 9, none⟩ = some (.int .i64 c.tokens) := hx.cell 9
  have c10 : W1.cell? ⟨w.heap.size, 10, none⟩ = some (.int .i64 c.refill) := hx.cell 10
  have HOWN : Hid (∀ W, Below W1.heap.size W1 W → Calls Tryz.prog 55 #[.slice A1 c.own.length k1] W fun e w' => e = .returned (.bool (ownOk c.own)) ∧ Below W.heap.size W w') := Lib.hid (fun W hb => rown19 _ _ _ ((HO.out.below HB1.out).below hb) hl hA.2)
  have HHAS : Hid (∀ W, Below W1.heap.size W1 W → Calls Tryz.prog 56 #[.slice A1 c.own.length k1, .int .u32 c.addr] W fun e w' => e = .returned (.bool (hasAny c.own c.addr)) ∧ Below W.heap.size W w') := Lib.hid (fun W hb => rhas19 _ _ _ _ ((HO.out.below HB1.out).below hb) hl hA.2 hA.1)
  have HM := Lib.hid (mayC_rest c)
  have HW := Lib.hid hW1
  clear hx hW1 hA
  unfold cfgV
  go_enter Tryz.func20, Tryz.ntmps20
  by_cases h8 : c.ports.length ≤ 8
  case neg =>
    have HF : Hid (mayC c = false) := Lib.hid (by rw [HM.out, decide_eq_false h8]; cases ownOk c.own <;> rfl)
    have d8 : decide ((8 : Int) < (c.ports.length : Int)) = true := decide_eq_true (by omega)
    go_upto_region 1 with fail
    rw [HW.out]
    go_wp2
    go_ret
    exact ⟨by rw [HF.out]; try rfl, HB1.out⟩
  case pos =>
    have d8 : decide ((8 : Int) < (c.ports.length : Int)) = false := decide_eq_false (by omega)
    rw [decide_eq_true h8] at HM
    cases hok : ownOk c.own with
    | false =>
      have HF : Hid (mayC c = false) := Lib.hid (by rw [HM.out, hok]; try rfl)
      rw [hok] at HOWN
      clear hok
      go_upto_region 1 with fail
      rw [HW.out]
      go_wp2_with (go_at_call 55; refine (ext_of (HOWN.out _ (Below.refl _ _))).mono ?_; rintro e w' ⟨rfl, y, rfl⟩)
      go_ret
      exact ⟨by rw [HF.out]; try rfl, Ext.lift y HB1.out⟩
    | true =>
      rw [hok] at HOWN HM
      clear hok
      cases hha : hasAny c.own c.addr with
      | false =>
        have HF : Hid (mayC c = false) := Lib.hid (by rw [HM.out, hha]; cases c.ports.all portOk <;> rfl)
        rw [hha] at HHAS
        clear hha
        go_upto_region 1 with fail
        rw [HW.out]
        go_wp2_with (first
          | (go_at_call 55; refine (ext_of (HOWN.out _ (Below.refl _ _))).mono ?_; rintro e w' ⟨rfl, y, rfl⟩)
          | (go_at_call 56; refine (Ext.call (HHAS.out _ y.below)).mono ?_; rintro e w' ⟨rfl, z, rfl⟩))
        go_ret
        exact ⟨by rw [HF.out]; try rfl, Ext.lift z HB1.out⟩
      | true =>
        rw [hha] at HHAS HM
        clear hha
        go_upto_region 1 with fail
        rw [HW.out]
        go_wp2_with (first
          | (go_at_call 55; refine (ext_of (HOWN.out _ (Below.refl _ _))).mono ?_; rintro e w' ⟨rfl, y, rfl⟩)
          | (go_at_call 56; refine (Ext.call (HHAS.out _ y.below)).mono ?_; rintro e w' ⟨rfl, z, rfl⟩))
        go_loopw [3] (fun i wr => ∃ j : Nat, j ≤ c.ports.length ∧ i = .int .i64 j ∧ Hid ((c.ports.take j).all portOk = true) ∧ ∃ y : Ext W1, wr = y.w) (fun i _ => c.ports.length - (intOf i).toNat)
        case atStart => exact ⟨0, Nat.zero_le _, rfl, Lib.hid rfl, z, rfl⟩
        case round =>
          obtain ⟨j, hj, rfl, HG, y, rfl⟩ := hrel
          by_cases hjl : j < c.ports.length
          · obtain ⟨⟨a, n⟩, hu⟩ : ∃ u, c.ports[j]? = some u := ⟨_, List.getElem?_eq_getElem hjl⟩
            obtain ⟨b1, o1, rfl, hb1, p0, p1⟩ := ((HP.out.below HB1.out).below y.below).at hu
            simp only at p0 p1
            have HU := Lib.hid hu
            clear hu
            cases g1 : inI a 1 50 with
            | false =>
              have HF : Hid (mayC c = false) := Lib.hid (by rw [HM.out, ports_bad HU.out (by unfold portOk; rw [g1]; rfl)]; try rfl)
              go_wp2_with (go_at_call 57; refine (rin19 _ _ _ _).mono ?_; rintro e w' ⟨rfl, rfl⟩)
              go_ret
              exact ⟨by rw [HF.out]; try rfl, Ext.lift y HB1.out⟩
            | true =>
              cases g2 : inI n 68 1500 with
              | false =>
                have HF : Hid (mayC c = false) := Lib.hid (by rw [HM.out, ports_bad HU.out (by unfold portOk; rw [g1, g2]; rfl)]; try rfl)
                go_wp2_with (go_at_call 57; refine (rin19 _ _ _ _).mono ?_; rintro e w' ⟨rfl, rfl⟩)
                go_ret
                exact ⟨by rw [HF.out]; try rfl, Ext.lift y HB1.out⟩
              | true =>
                have hg := Lib.hid (ports_take HG.out HU.out (by unfold portOk; rw [g1, g2]; rfl))
                go_wp2_with (go_at_call 57; refine (rin19 _ _ _ _).mono ?_; rintro e w' ⟨rfl, rfl⟩)
                go_roundw
                case rel => exact ⟨j + 1, by omega, by go_num, hg, y, rfl⟩
                case measure => simp [intOf]; omega
          · have HF : Hid (mayC c = restB c) := Lib.hid (by
              have := HG.out
              rw [show j = c.ports.length by omega, List.take_length] at this
              rw [HM.out, this]; try rfl)
            cases g0 : inI c.node 1 16 with
            | false =>
              have HR : Hid (restB c = false) := Lib.hid (by unfold restB; rw [g0]; try rfl)
              go_wp2_with (go_at_call 57; refine (rin19 _ _ _ _).mono ?_; rintro e w' ⟨rfl, rfl⟩)
              go_ret
              exact ⟨by rw [HF.out, HR.out]; try rfl, Ext.lift y HB1.out⟩
            | true =>
              cases g1 : inI c.hello 1 100 with
              | false =>
                have HR : Hid (restB c = false) := Lib.hid (by unfold restB; rw [g0, g1]; try rfl)
                go_wp2_with (go_at_call 57; refine (rin19 _ _ _ _).mono ?_; rintro e w' ⟨rfl, rfl⟩)
                go_ret
                exact ⟨by rw [HF.out, HR.out]; try rfl, Ext.lift y HB1.out⟩
              | true =>
                cases g2 : inI c.dead 1 100 with
                | false =>
                  have HR : Hid (restB c = false) := Lib.hid (by unfold restB; rw [g0, g1, g2]; try rfl)
                  go_wp2_with (go_at_call 57; refine (rin19 _ _ _ _).mono ?_; rintro e w' ⟨rfl, rfl⟩)
                  go_ret
                  exact ⟨by rw [HF.out, HR.out]; try rfl, Ext.lift y HB1.out⟩
                | true =>
                  cases g3 : decide (c.hello < c.dead) with
                  | false =>
                    have HR : Hid (restB c = false) := Lib.hid (by unfold restB; rw [g0, g1, g2, g3]; try rfl)
                    go_wp2_with (go_at_call 57; refine (rin19 _ _ _ _).mono ?_; rintro e w' ⟨rfl, rfl⟩)
                    go_ret
                    exact ⟨by rw [HF.out, HR.out]; try rfl, Ext.lift y HB1.out⟩
                  | true =>
                    cases g4 : inI c.again 1 100 with
                    | false =>
                      have HR : Hid (restB c = false) := Lib.hid (by unfold restB; rw [g0, g1, g2, g3, g4]; try rfl)
                      go_wp2_with (go_at_call 57; refine (rin19 _ _ _ _).mono ?_; rintro e w' ⟨rfl, rfl⟩)
                      go_ret
                      exact ⟨by rw [HF.out, HR.out]; try rfl, Ext.lift y HB1.out⟩
                    | true =>
                      cases g5 : inI c.room 0 64 with
                      | false =>
                        have HR : Hid (restB c = false) := Lib.hid (by unfold restB; rw [g0, g1, g2, g3, g4, g5]; try rfl)
                        go_wp2_with (go_at_call 57; refine (rin19 _ _ _ _).mono ?_; rintro e w' ⟨rfl, rfl⟩)
                        go_ret
                        exact ⟨by rw [HF.out, HR.out]; try rfl, Ext.lift y HB1.out⟩
                      | true =>
                        cases g6 : inI c.queue 1 64 with
                        | false =>
                          have HR : Hid (restB c = false) := Lib.hid (by unfold restB; rw [g0, g1, g2, g3, g4, g5, g6]; try rfl)
                          go_wp2_with (go_at_call 57; refine (rin19 _ _ _ _).mono ?_; rintro e w' ⟨rfl, rfl⟩)
                          go_ret
                          exact ⟨by rw [HF.out, HR.out]; try rfl, Ext.lift y HB1.out⟩
                        | true =>
                          cases g7 : inI c.tokens 0 64 with
                          | false =>
                            have HR : Hid (restB c = false) := Lib.hid (by unfold restB; rw [g0, g1, g2, g3, g4, g5, g6, g7]; try rfl)
                            go_wp2_with (go_at_call 57; refine (rin19 _ _ _ _).mono ?_; rintro e w' ⟨rfl, rfl⟩)
                            go_ret
                            exact ⟨by rw [HF.out, HR.out]; try rfl, Ext.lift y HB1.out⟩
                          | true =>
                            have HR : Hid (restB c = inI c.refill 1 100) := Lib.hid (by unfold restB; rw [g0, g1, g2, g3, g4, g5, g6, g7]; try rfl)
                            go_wp2_with (go_at_call 57; refine (rin19 _ _ _ _).mono ?_; rintro e w' ⟨rfl, rfl⟩)
                            go_ret
                            exact ⟨by rw [HF.out, HR.out]; try rfl, Ext.lift y HB1.out⟩
end Go.Proofs.YtfbangojgjcbcaaGreatDoor
namespace Go.Proofs.YtfbangojgjcbcaaGreatDoor.Pl
open Go.Lib (decDigits itoa)
theorem itoa_len {n : Int} (h : 0 ≤ n) (h2 : n < 1000000000) : (itoa n).length ≤ 9 := by
  obtain ⟨m, rfl⟩ := Int.eq_ofNat_of_zero_le h
  rw [itoa_nat]
  have := (dec_isNum m (by omega)).1
  unfold isNum at this
  simp only [Bool.and_eq_true, decide_eq_true_eq] at this
  exact this.1.1.2
theorem lines_len {c : Cfg} (h : mayC c = true) : (∀ l ∈ linesP c, l.length ≤ 40) ∧ (linesP c).length ≤ 25 := by
  obtain ⟨h1, h2, h3, h4, h5, h6, h7, h8, h9, h10, h11, h12⟩ := mayC_parts h
  constructor
  · intro l hl
    unfold linesP heads tails at hl
    simp only [List.mem_append, List.mem_cons, List.not_mem_nil, or_false, List.mem_map] at hl
    have num : ∀ (w : List UInt8) (n : Int), w.length ≤ 10 → 0 ≤ n → n < 1000000000 → (lnNum w n).length ≤ 40 := fun w n k1 k2 k3 => by
      have := itoa_len k2 k3
      unfold lnNum; simp; omega
    rcases hl with (((rfl | rfl) | ⟨p, hp, rfl⟩) | ⟨p, hp, rfl⟩) | rfl | rfl | rfl | rfl | rfl | rfl | rfl
    · exact num _ _ (by decide) (by omega) (by omega)
    · have := addrText_len c.addr.toNat
      unfold lnAddr; simp [wAddress]; omega
    · have hm : mayP p.1 p.2 = true := by
        unfold ownOk at h1
        simp only [Bool.and_eq_true, List.all_eq_true] at h1
        exact h1.1.2 p hp
      obtain ⟨hn0, hn1, _⟩ := (mayP_iff _ _).1 hm
      have e1 := addrText_len p.1.toNat
      have e2 := dec_len p.2.toNat (by omega)
      unfold lnOwn prefixText; simp [wOwn]; omega
    · have := (List.all_eq_true.1 h3) p hp
      unfold portOk at this
      simp only [Bool.and_eq_true, inI_iff] at this
      have e1 := itoa_len (n := p.1) (by omega) (by omega)
      have e2 := itoa_len (n := p.2) (by omega) (by omega)
      unfold lnPort; simp [wPort]; omega
    · exact num _ _ (by decide) (by omega) (by omega)
    · exact num _ _ (by decide) (by omega) (by omega)
    · exact num _ _ (by decide) (by omega) (by omega)
    · exact num _ _ (by decide) (by omega) (by omega)
    · exact num _ _ (by decide) (by omega) (by omega)
    · exact num _ _ (by decide) (by omega) (by omega)
    · exact num _ _ (by decide) (by omega) (by omega)
  · have h8' : c.own.length ≤ 8 := by
      unfold ownOk at h1
      simp only [Bool.and_eq_true, decide_eq_true_eq] at h1
      exact h1.1.1.2
    unfold linesP heads tails; simp; omega
end Go.Proofs.YtfbangojgjcbcaaGreatDoor.Pl
namespace Go.Proofs.YtfbangojgjcbcaaGreatDoor.Pl
open Go.Lib (decDigits itoa)
structure SInv (c : Cfg) (st : Nat) : Prop where
  le : st ≤ 10
  node : 1 ≤ st → 1 ≤ c.node ∧ c.node ≤ 16
  addr : 2 ≤ st → 0 ≤ c.addr ∧ c.addr < 4294967296
  own0 : st < 3 → c.own = []
  own : 3 ≤ st → ownOk c.own = true
  ports0 : st < 3 → c.ports = []
  ports : c.ports.length ≤ 8 ∧ c.ports.all portOk = true
  owns : ∀ p ∈ c.own, 0 ≤ p.1 ∧ p.1 < 4294967296
  hello : 4 ≤ st → hasAny c.own c.addr = true ∧ 1 ≤ c.hello ∧ c.hello ≤ 100
  dead : 5 ≤ st → c.hello + 1 ≤ c.dead ∧ c.dead ≤ 100
  again : 6 ≤ st → 1 ≤ c.again ∧ c.again ≤ 100
  room : 7 ≤ st → 0 ≤ c.room ∧ c.room ≤ 64
  queue : 8 ≤ st → 1 ≤ c.queue ∧ c.queue ≤ 64
  tokens : 9 ≤ st → 0 ≤ c.tokens ∧ c.tokens ≤ 64
  refill : 10 ≤ st → 1 ≤ c.refill ∧ c.refill ≤ 100
theorem SInv.start : SInv {} 0 := ⟨by omega, fun h => by omega, fun h => by omega, fun _ => rfl, fun h => by omega, fun _ => rfl, by simp, by simp, fun h => by omega, fun h => by omega, fun h => by omega, fun h => by omega, fun h => by omega, fun h => by omega, fun h => by omega⟩
end Go.Proofs.YtfbangojgjcbcaaGreatDoor.Pl
namespace Go.Proofs.YtfbangojgjcbcaaGreatDoor.Pl
def wsL : List (List UInt8) := [wHello, wDead, wAgain, wRoom, wQueue, wTokens, wRefill]
def numsL (c : Cfg) : List Int := [c.hello, c.dead, c.again, c.room, c.queue, c.tokens, c.refill]
theorem tails_at (c : Cfg) {j : Nat} (hj : j < 7) : ∃ w n, wsL[j]? = some w ∧ (numsL c)[j]? = some n ∧ (tails c)[j]? = some (lnNum w n) ∧ w.length ≤ 6 :=
  match j, hj with
  | 0, _ => ⟨_, _, rfl, rfl, rfl, by decide⟩
  | 1, _ => ⟨_, _, rfl, rfl, rfl, by decide⟩
  | 2, _ => ⟨_, _, rfl, rfl, rfl, by decide⟩
  | 3, _ => ⟨_, _, rfl, rfl, rfl, by decide⟩
  | 4, _ => ⟨_, _, rfl, rfl, rfl, by decide⟩
  | 5, _ => ⟨_, _, rfl, rfl, rfl, by decide⟩
  | 6, _ => ⟨_, _, rfl, rfl, rfl, by decide⟩
theorem nums_bd {c : Cfg} (h : mayC c = true) {j : Nat} {n : Int} (hn : (numsL c)[j]? = some n) : 0 ≤ n ∧ n ≤ 100 := by
  obtain ⟨_, _, _, _, _, h5, h6, h7, h8, h9, h10, h11⟩ := mayC_parts h
  have hm := List.mem_of_getElem? hn
  simp only [numsL, List.mem_cons, List.not_mem_nil, or_false] at hm
  rcases hm with rfl | rfl | rfl | rfl | rfl | rfl | rfl <;> omega
theorem tails_len (c : Cfg) : (tails c).length = 7 := rfl
theorem ownOk_may_all {l : List Pr} (h : ownOk l = true) {p : Pr} (hp : p ∈ l) : mayP p.1 p.2 = true := by
  unfold ownOk at h
  simp only [Bool.and_eq_true, List.all_eq_true] at h
  exact h.1.2 p hp
end Go.Proofs.YtfbangojgjcbcaaGreatDoor.Pl
namespace Go.Proofs.YtfbangojgjcbcaaGreatDoor
open Go.RowKit Pl
def Sv (l : List UInt8) : Value := .string (str l)
theorem itoa_size9 {n : Int} (h0 : 0 ≤ n) (h1 : n < 1000000000) : (str (Lib.itoa n)).size ≤ 9 := by rw [str_size]; exact itoa_len h0 h1
theorem raddrText_int (x : Int) (w : World) (hx : IsAddr x) (E : Env w) :
    Calls Tryz.prog 59 #[.int .u32 x] w fun e w' => e = .returned (.string (str (addrText x.toNat))) ∧ Below w.heap.size w w' := by
  obtain ⟨a, rfl⟩ := Int.eq_ofNat_of_zero_le hx.1
  exact raddrText a w (by have := hx.2; omega) E
theorem rprefixText_int (x n : Int) (w : World) (hx : IsAddr x) (hn : 0 ≤ n ∧ n ≤ 32) (E : Env w) :
    Calls Tryz.prog 60 #[.agg #[.int .u32 x, .int .i64 n]] w fun e w' => e = .returned (.string (str (prefixText x.toNat n.toNat))) ∧ Below w.heap.size w w' := by
  obtain ⟨a, rfl⟩ := Int.eq_ofNat_of_zero_le hx.1
  obtain ⟨k, rfl⟩ := Int.eq_ofNat_of_zero_le hn.1
  exact rprefixText a k w (by have := hx.2; omega) (by have := hn.2; omega) E
theorem prefixText_size {x n : Int} (_hx : IsAddr x) (hn : 0 ≤ n ∧ n ≤ 32) : (str (prefixText x.toNat n.toNat)).size ≤ 30 := by
  have h1 := addrText_len x.toNat
  have h2 := itoa_len hn.1 (by omega : n < 1000000000)
  have h3 : (Go.Lib.decDigits n.toNat).length ≤ 9 := by
    rw [show n = ((n.toNat : Nat) : Int) by omega, itoa_nat] at h2; exact h2
  rw [str_size]
  unfold prefixText
  simp only [List.length_append, List.length_cons]
  omega
theorem sv_cat (l m r : List UInt8) (h : l ++ m = r) : Value.string (str l ++ str m) = Sv r := by unfold Sv; rw [← h, str_append]
theorem whole_ne {w : World} {g base n : Nat} {t e : TypeId} {cs : Array Value} {v : Value} {xs : List Value} (h : Whole w g t cs) (hown : w.ownsRow base e 1 v n xs) (hn : 0 < n) (hne : xs[0]? ≠ cs[0]?) : some g ≠ v.ownBlock := by
  intro he
  rcases hown.form hn with ⟨g', cap, rfl, _⟩
  simp only [Value.ownBlock, Option.some.injEq] at he
  subst he
  exact hne ((hown.cellAt 0 (by omega)).symm.trans (h.cell 0))
def wordsA : Array Value := (wsL.map fun w => Sv (w ++ [32])).toArray
def numsA (c : Cfg) : Array Value := ((numsL c).map fun n => Value.int .i64 n).toArray
set_option maxRecDepth 100000 in
set_option maxHeartbeats 4000000 in
theorem rlines19 (v : Value) (c : Cfg) (w : World) (h : CfgIs w v c) (hA : Addrs4 c) (hm : mayC c = true) (E : Env w) :
    Calls Tryz.prog 21 #[v] w fun e w' => ∃ v, e = .returned v ∧ w'.ownsRow (w.heap.size + 1) 9 1 v (linesP c).length ((linesP c).map Sv) ∧ Below w.heap.size w w' := by
  obtain ⟨own, ports, rfl, hO, hP⟩ := h.is
  have HO := Lib.hid hO
  have HP := Lib.hid hP
  have HA := Lib.hid hA
  have HM := Lib.hid hm
  obtain ⟨A1, k1, rfl, -⟩ := hO
  obtain ⟨A2, k2, rfl, -⟩ := hP
  obtain ⟨W1, hW1⟩ : ∃ W1, w.alloc (.cells #[.int .i64 c.node, .int .u32 c.addr, .slice A1 c.own.length k1, .slice A2 c.ports.length k2, .int .i64 c.hello, .int .i64 c.dead, .int .i64 c.again, .int .i64 c.room, .int .i64 c.queue, .int .i64 c.tokens, .int .i64 c.refill] 28) = W1 := ⟨_, rfl⟩
  have HB1 : Hid (Below w.heap.size w W1) := Lib.hid (by rw [← hW1]; exact (Below.refl _ _).alloc (Nat.le_refl _) _)
  have HX : Hid (Whole W1 w.heap.size 28 #[.int .i64 c.node, .int .u32 c.addr, .slice A1 c.own.length k1, .slice A2 c.ports.length k2, .int .i64 c.hello, .int .i64 c.dead, .int .i64 c.again, .int .i64 c.room, .int .i64 c.queue, .int .i64 c.tokens, .int .i64 c.refill]) := Lib.hid (by rw [← hW1]; exact Whole.new _ _ _)
  have hlt : w.heap.size < W1.heap.size := HX.out.lt
  have hs1 : W1.heap.size = w.heap.size + 1 := by rw [← hW1]; simp
  have E1 := Lib.hid (E.here HB1.out)
  have HW := Lib.hid hW1
  have c0 : W1.cell? ⟨w.heap.size, 0, none⟩ = some (.int .i64 c.node) := HX.out.cell 0
  have c1 : W1.cell? ⟨w.heap.size, 1, none⟩ = some (.int .u32 c.addr) := HX.out.cell 1
  obtain ⟨m1, m2, m3, -, m5, -, -, -, -, -, -, -⟩ := mayC_parts hm
  have hol : c.own.length ≤ 8 := ownOk_le m1
  have n0 := itoa_size9 (n := c.node) (by omega) (by omega)
  have n1 : (str (addrText c.addr.toNat)).size ≤ 15 := by rw [str_size]; exact addrText_len _
  have M1 := Lib.hid m1
  have M3 := Lib.hid m3
  clear hW1 h hA hm E m1 m3
  unfold cfgV
  go_enter Tryz.func21, Tryz.ntmps21
  go_upto_region 1 with fail
  rw [HW.out]
  refine wp_region_ext_tail 8 (by kernel_rfl) (by kernel_rfl) ?_
  simp only [List.take_succ_cons, List.take_zero, List.drop_succ_cons, List.drop_zero]
  repeat (go_big_quiet_step (first | (go_at_call 58; exact Ext.call (itoa_any _ _ (by omega) (by omega) (Ext.env _ E1.out))) | (go_at_call 59; exact Ext.call (raddrText_int _ _ HA.out.1 (Ext.env _ E1.out)))))
  refine wpQuiet_nil ?_
  rintro _ ⟨y, rfl⟩
  go_wp2
  have H0 : ∀ Y : Ext W1, (Y.w.alloc (.cells #[.string ({ data := #[110, 111, 100, 101, 32] } ++ str (Lib.itoa c.node)), .string ({ data := #[97, 100, 100, 114, 101, 115, 115, 32] } ++ str (addrText c.addr.toNat))] 9)).ownsRow W1.heap.size 9 1 (.slice (some ⟨Y.w.heap.size, 0, none⟩) 2 2) (2 + 0) (([lnNum wNode c.node, lnAddr c.addr] ++ (c.own.take 0).map lnOwn).map Sv) := fun Y => by
    have := World.ownsRow_lit (base := W1.heap.size) (e := 9) (size := 1) Y.w #[.string (str [110, 111, 100, 101, 32] ++ str (Lib.itoa c.node)), .string (str [97, 100, 100, 114, 101, 115, 115, 32] ++ str (addrText c.addr.toNat))] 2 Y.below.size (by decide) rfl
    rw [sv_cat [110, 111, 100, 101, 32] (Lib.itoa c.node) (lnNum wNode c.node) rfl, sv_cat [97, 100, 100, 114, 101, 115, 115, 32] (addrText c.addr.toNat) (lnAddr c.addr) rfl] at this
    rw [show Value.string ({ data := #[110, 111, 100, 101, 32] } ++ str (Lib.itoa c.node)) = Sv (lnNum wNode c.node) from sv_cat [110, 111, 100, 101, 32] _ _ rfl, show Value.string ({ data := #[97, 100, 100, 114, 101, 115, 115, 32] } ++ str (addrText c.addr.toNat)) = Sv (lnAddr c.addr) from sv_cat [97, 100, 100, 114, 101, 115, 115, 32] _ _ rfl]
    exact this
  go_loopw [3, 4] (fun s i wr => ∃ j : Nat, j ≤ c.own.length ∧ i = .int .i64 j ∧ Hid (wr.ownsRow W1.heap.size 9 1 s (2 + j) (([lnNum wNode c.node, lnAddr c.addr] ++ (c.own.take j).map lnOwn).map Sv)) ∧ Hid (Below W1.heap.size W1 wr)) (fun _ i _ => c.own.length - (intOf i).toNat)
  case atStart => exact ⟨0, Nat.zero_le _, rfl, Lib.hid (H0 y), Lib.hid (y.below.alloc y.below.size _)⟩
  case round =>
    obtain ⟨j, hj, rfl, HS, HB⟩ := hrel
    have x2 : wr.cell? ⟨w.heap.size, 2, none⟩ = some (.slice A1 c.own.length k1) := (HX.out.here HB.out).cell 2
    by_cases hjl : j < c.own.length
    · obtain ⟨⟨a, n⟩, hu⟩ : ∃ u, c.own[j]? = some u := ⟨_, List.getElem?_eq_getElem hjl⟩
      obtain ⟨b1, o1, rfl, hb1, p0, p1⟩ := ((HO.out.below HB1.out).below HB.out).at hu
      simp only at p0 p1
      have ha : IsAddr a := HA.out.2 _ (mem_at hu)
      have hn := mayP_len (ownOk_may_all M1.out (mem_at hu))
      simp only at hn
      have hsz := prefixText_size ha hn
      have HU := Lib.hid hu
      clear hu
      go_wp2_with (first
        | (go_at_call 60; refine (rprefixText_int a n _ ha hn (E1.out.here HB.out)).mono ?_; rintro e w2 ⟨rfl, hb2⟩; have hown2 := own_below HS.out hb2; have hb3 := HB.out.trans (hb2.mono HB.out.size); have hbs := hb3.size; clear hb2)
        | (at_builtin; refine wpList_push rfl _ _ 40 rfl W1.heap.size 9 info_str rfl (by decide) Tryz.underlying40 _ _ _ rfl hown2 rfl rfl (by omega) hbs ?_; intro v' w3 hown3 hg))
      have hb4 := Lib.hid (hb3.grown hg hbs (fun g hg' => (hown2.lt g hg').1))
      have hown4 : Hid (w3.ownsRow W1.heap.size 9 1 v' (2 + (j + 1)) (([lnNum wNode c.node, lnAddr c.addr] ++ (c.own.take (j + 1)).map lnOwn).map Sv)) := Lib.hid (by
        rw [List.take_add_one, HU.out]
        have e : Value.string ({ data := #[111, 119, 110, 32] } ++ str (prefixText a.toNat n.toNat)) = Sv (lnOwn (a, n)) := sv_cat [111, 119, 110, 32] _ _ rfl
        rw [e] at hown3
        show w3.ownsRow W1.heap.size 9 1 v' (2 + j + 1) _
        simpa using hown3)
      clear hown2 hown3 hg hb3 hbs
      go_wp2
      go_roundw
      case rel => exact ⟨j + 1, by omega, by go_num, hown4, hb4⟩
      case measure => simp [intOf]; omega
    · obtain rfl : j = c.own.length := by omega
      go_wp2
      go_loopw [3, 5] (fun s i wr => ∃ j : Nat, j ≤ c.ports.length ∧ i = .int .i64 j ∧ Hid (wr.ownsRow W1.heap.size 9 1 s (2 + c.own.length + j) (([lnNum wNode c.node, lnAddr c.addr] ++ c.own.map lnOwn ++ (c.ports.take j).map lnPort).map Sv)) ∧ Hid (Below W1.heap.size W1 wr)) (fun _ i _ => c.ports.length - (intOf i).toNat)
      case atStart => exact ⟨0, Nat.zero_le _, rfl, Lib.hid (by have := HS.out; rw [List.take_length] at this; simpa using this), HB⟩
      case round =>
        clear HS HB x2 hjl hj
        obtain ⟨j, hj, rfl, HS, HB⟩ := hrel
        have x3 : wr.cell? ⟨w.heap.size, 3, none⟩ = some (.slice A2 c.ports.length k2) := (HX.out.here HB.out).cell 3
        have hlt2 : w.heap.size < wr.heap.size := Nat.lt_of_lt_of_le hlt HB.out.size
        by_cases hjl : j < c.ports.length
        · obtain ⟨⟨a, n⟩, hu⟩ : ∃ u, c.ports[j]? = some u := ⟨_, List.getElem?_eq_getElem hjl⟩
          obtain ⟨b1, o1, rfl, hb1, p0, p1⟩ := ((HP.out.below HB1.out).below HB.out).at hu
          simp only at p0 p1
          have hok := List.all_eq_true.1 M3.out _ (mem_at hu)
          unfold portOk at hok
          simp only [Bool.and_eq_true, inI_iff] at hok
          obtain ⟨⟨ha0, ha1⟩, hn0, hn1⟩ := hok
          have s1 := itoa_size9 (n := a) (by omega) (by omega)
          have s2 := itoa_size9 (n := n) (by omega) (by omega)
          have HU := Lib.hid hu
          have E2 := E1.out.here HB.out
          clear hu
          go_wp2
          refine wp_region_ext_float 18 (by kernel_rfl) (by kernel_rfl) rfl (.inl ⟨rfl, fun _ => rfl⟩) (fun _ _ _ h => h) ?_
          simp only [List.take_succ_cons, List.take_zero, List.drop_succ_cons, List.drop_zero]
          repeat (go_big_quiet_step (first | (go_at_call 58; exact Ext.call (itoa_any _ _ (by omega) (by omega) (Ext.env _ E2)))))
          refine wpQuiet_nil ?_
          rintro _ ⟨z, rfl⟩
          have hown2 := own_below HS.out z.below
          have hb3 := HB.out.trans (z.below.mono HB.out.size)
          have hbs := hb3.size
          go_wp2_with (at_builtin; refine wpList_push rfl _ _ 40 rfl W1.heap.size 9 info_str rfl (by decide) Tryz.underlying40 _ _ _ rfl hown2 rfl rfl (by omega) hbs ?_; intro v' w3 hown3 hg)
          have hb4 := Lib.hid (hb3.grown hg hbs (fun g hg' => (hown2.lt g hg').1))
          have hown4 : Hid (w3.ownsRow W1.heap.size 9 1 v' (2 + c.own.length + (j + 1)) (([lnNum wNode c.node, lnAddr c.addr] ++ c.own.map lnOwn ++ (c.ports.take (j + 1)).map lnPort).map Sv)) := Lib.hid (by
            rw [List.take_add_one, HU.out]
            have e : Value.string ({ data := #[112, 111, 114, 116, 32] } ++ str (Lib.itoa a) ++ { data := #[32] } ++ str (Lib.itoa n)) = Sv (lnPort (a, n)) := by
              show Value.string (str [112, 111, 114, 116, 32] ++ str (Lib.itoa a) ++ str [32] ++ str (Lib.itoa n)) = _
              unfold Sv lnPort wPort
              simp only [str_append]
              congr 2
              simp
            rw [e] at hown3
            show w3.ownsRow W1.heap.size 9 1 v' (2 + c.own.length + j + 1) _
            simpa using hown3)
          clear hown2 hown3 hg hb3 hbs
          go_wp2
          go_roundw
          case rel => exact ⟨j + 1, by omega, by go_num, hown4, hb4⟩
          case measure => simp [intOf]; omega
        · obtain rfl : j = c.ports.length := by omega
          have x4 : wr.cell? ⟨w.heap.size, 4, none⟩ = some (.int .i64 c.hello) := (HX.out.here HB.out).cell 4
          have x5 : wr.cell? ⟨w.heap.size, 5, none⟩ = some (.int .i64 c.dead) := (HX.out.here HB.out).cell 5
          have x6 : wr.cell? ⟨w.heap.size, 6, none⟩ = some (.int .i64 c.again) := (HX.out.here HB.out).cell 6
          have x7 : wr.cell? ⟨w.heap.size, 7, none⟩ = some (.int .i64 c.room) := (HX.out.here HB.out).cell 7
          have x8 : wr.cell? ⟨w.heap.size, 8, none⟩ = some (.int .i64 c.queue) := (HX.out.here HB.out).cell 8
          have x9 : wr.cell? ⟨w.heap.size, 9, none⟩ = some (.int .i64 c.tokens) := (HX.out.here HB.out).cell 9
          have x10 : wr.cell? ⟨w.heap.size, 10, none⟩ = some (.int .i64 c.refill) := (HX.out.here HB.out).cell 10
          go_wp2
          obtain ⟨W3, hW3⟩ : ∃ W3, (wr.alloc (.cells #[.string { data := #[104, 101, 108, 108, 111, 32] }, .string { data := #[100, 101, 97, 100, 32] }, .string { data := #[97, 103, 97, 105, 110, 32] }, .string { data := #[114, 111, 111, 109, 32] }, .string { data := #[113, 117, 101, 117, 101, 32] }, .string { data := #[116, 111, 107, 101, 110, 115, 32] }, .string { data := #[114, 101, 102, 105, 108, 108, 32] }] 9)).alloc (.cells #[.int .i64 c.hello, .int .i64 c.dead, .int .i64 c.again, .int .i64 c.room, .int .i64 c.queue, .int .i64 c.tokens, .int .i64 c.refill] 3) = W3 := ⟨_, rfl⟩
          have HWS : Hid (Whole W3 wr.heap.size 9 wordsA) := Lib.hid (by rw [← hW3]; exact (Whole.new wr 9 wordsA).alloc _)
          have HNS : Hid (Whole W3 (wr.heap.size + 1) 3 (numsA c)) := Lib.hid (by
            rw [← hW3]
            have := Whole.new (wr.alloc (.cells #[.string { data := #[104, 101, 108, 108, 111, 32] }, .string { data := #[100, 101, 97, 100, 32] }, .string { data := #[97, 103, 97, 105, 110, 32] }, .string { data := #[114, 111, 111, 109, 32] }, .string { data := #[113, 117, 101, 117, 101, 32] }, .string { data := #[116, 111, 107, 101, 110, 115, 32] }, .string { data := #[114, 101, 102, 105, 108, 108, 32] }] 9)) 3 (numsA c)
            rw [World.size_alloc] at this
            exact this)
          have HS3 : Hid (W3.ownsRow W1.heap.size 9 1 u3 ((heads c).length + 0) ((heads c ++ (tails c).take 0).map Sv)) := Lib.hid (by
            rw [← hW3]
            have := (HS.out.alloc (.cells #[.string { data := #[104, 101, 108, 108, 111, 32] }, .string { data := #[100, 101, 97, 100, 32] }, .string { data := #[97, 103, 97, 105, 110, 32] }, .string { data := #[114, 111, 111, 109, 32] }, .string { data := #[113, 117, 101, 117, 101, 32] }, .string { data := #[116, 111, 107, 101, 110, 115, 32] }, .string { data := #[114, 101, 102, 105, 108, 108, 32] }] 9)).alloc (.cells #[.int .i64 c.hello, .int .i64 c.dead, .int .i64 c.again, .int .i64 c.room, .int .i64 c.queue, .int .i64 c.tokens, .int .i64 c.refill] 3)
            rw [List.take_length] at this
            have e1 : (heads c).length + 0 = 2 + c.own.length + c.ports.length := by unfold heads; simp; omega
            have e2 : heads c ++ (tails c).take 0 = [lnNum wNode c.node, lnAddr c.addr] ++ c.own.map lnOwn ++ c.ports.map lnPort := by unfold heads; simp
            rw [e1, e2]; exact this)
          have HB3 : Hid (Below W1.heap.size W1 W3) := Lib.hid (by rw [← hW3]; exact (HB.out.alloc HB.out.size _).alloc (Nat.le_trans HB.out.size (by simp)) _)
          rw [hW3]
          have hhl : (heads c).length ≤ 18 := by unfold heads; simp; omega
          clear hW3 HS HB x3 x4 x5 x6 x7 x8 x9 x10 hjl hj hlt2
          generalize wr.heap.size = Wb at HWS HNS ⊢
          go_loopw [3, 8] (fun s i wx => ∃ j : Nat, j ≤ 7 ∧ i = .int .i64 j ∧ Hid (wx.ownsRow W1.heap.size 9 1 s ((heads c).length + j) ((heads c ++ (tails c).take j).map Sv)) ∧ Hid (Below W1.heap.size W1 wx) ∧ Hid (Whole wx Wb 9 wordsA) ∧ Hid (Whole wx (Wb + 1) 3 (numsA c))) (fun _ i _ => 7 - (intOf i).toNat)
          case atStart => exact ⟨0, Nat.zero_le _, rfl, HS3, HB3, HWS, HNS⟩
          case round =>
            clear HS3 HB3 HWS HNS
            obtain ⟨j, hj, rfl, HS, HB, HWS, HNS⟩ := hrel
            by_cases hjl : j < 7
            · obtain ⟨wd, n, e1, e2, e3, hwl⟩ := tails_at c hjl
              have hn := nums_bd HM.out e2
              have d1 : wr.cell? ⟨Wb, j, none⟩ = some (.string (str (wd ++ [32]))) := by rw [HWS.out.cell j]; simp [wordsA, e1, Sv]
              have d2 : wr.cell? ⟨Wb + 1, j, none⟩ = some (.int .i64 n) := by rw [HNS.out.cell j]; simp [numsA, e2]
              have hl1 := HWS.out.lt
              have hl2 := HNS.out.lt
              have s1 := itoa_size9 (n := n) (by omega) (by omega)
              have s2 : (str (wd ++ [32])).size ≤ 7 := by rw [str_size]; simp; omega
              have E2 := E1.out.here HB.out
              have HT := Lib.hid e3
              clear e1 e2 e3
              go_wp2
              refine wp_region_ext_float 11 (by kernel_rfl) (by kernel_rfl) rfl (.inl ⟨rfl, fun _ => rfl⟩) (fun _ _ _ h => h) ?_
              simp only [List.take_succ_cons, List.take_zero, List.drop_succ_cons, List.drop_zero]
              repeat (go_big_quiet_step (first | (go_at_call 58; exact Ext.call (itoa_any _ _ (by omega) (by omega) (Ext.env _ E2)))))
              refine wpQuiet_nil ?_
              rintro _ ⟨z, rfl⟩
              have hown2 := own_below HS.out z.below
              have hb3 := HB.out.trans (z.below.mono HB.out.size)
              have hbs := hb3.size
              have hW2 := HWS.out.here z.below
              have hN2 := HNS.out.here z.below
              go_wp2_with (at_builtin; refine wpList_push rfl _ _ 40 rfl W1.heap.size 9 info_str rfl (by decide) Tryz.underlying40 _ _ _ rfl hown2 rfl rfl (by omega) hbs ?_; intro v' w3 hown3 hg)
              have hb4 := Lib.hid (hb3.grown hg hbs (fun g hg' => (hown2.lt g hg').1))
              have hW4 := Lib.hid (hW2.kept hg (whole_ne hW2 hown2 (by unfold heads; simp; omega) (by
                intro h
                have h : some (Sv (lnNum wNode c.node)) = some (Sv (wHello ++ [32])) := h
                simp only [Sv, Option.some.injEq, Value.string.injEq] at h
                have h := congrArg (fun b => b.data.toList) h
                simp only [str_data] at h
                simp [lnNum, wNode, wHello] at h)))
              have hN4 := Lib.hid (hN2.kept hg (Ne.symm (hN2.notRow hown2 (by decide))))
              have hown4 : Hid (w3.ownsRow W1.heap.size 9 1 v' ((heads c).length + (j + 1)) ((heads c ++ (tails c).take (j + 1)).map Sv)) := Lib.hid (by
                rw [List.take_add_one, HT.out]
                have e : Value.string (str (wd ++ [32]) ++ str (Lib.itoa n)) = Sv (lnNum wd n) := sv_cat _ _ _ (by unfold lnNum; simp)
                rw [e] at hown3
                show w3.ownsRow W1.heap.size 9 1 v' ((heads c).length + j + 1) _
                simpa using hown3)
              clear hown2 hown3 hg hb3 hbs hW2 hN2
              go_wp2
              go_roundw
              case rel => exact ⟨j + 1, by omega, by go_num, hown4, hb4, hW4, hN4⟩
              case measure => simp [intOf]; omega
            · obtain rfl : j = 7 := by omega
              go_wp2
              go_ret
              refine ⟨_, rfl, ?_, HB1.out.trans (HB.out.mono HB1.out.size)⟩
              have := HS.out
              rw [show (tails c).take 7 = tails c from rfl, hs1] at this
              have e : (linesP c).length = (heads c).length + 7 := by unfold linesP; rw [List.length_append]; rfl
              rw [e]
              exact this
end Go.Proofs.YtfbangojgjcbcaaGreatDoor
namespace Go.Proofs.YtfbangojgjcbcaaGreatDoor
open Go.RowKit Pl
theorem take_ne {ps qs : List Pr} {j : Nat} {u v : Pr} (hu : ps[j]? = some u) (hv : qs[j]? = some v) (h : u ≠ v) : decide (ps = qs) = false :=
  decide_eq_false fun e => h (by subst e; rw [hu] at hv; injection hv)
theorem take_next {ps qs : List Pr} {j : Nat} {u : Pr} (hu : ps[j]? = some u) (hv : qs[j]? = some u) (h : ps.take j = qs.take j) : ps.take (j + 1) = qs.take (j + 1) := by
  rw [List.take_add_one, List.take_add_one, hu, hv, h]
theorem take_all {ps qs : List Pr} (hl : ps.length = qs.length) (h : ps.take ps.length = qs.take ps.length) : decide (ps = qs) = true := by
  rw [List.take_length] at h
  rw [hl, List.take_length] at h
  exact decide_eq_true h
set_option maxRecDepth 100000 in
set_option maxHeartbeats 2000000 in
theorem equalP_any (v v' : Value) (ps qs : List Pr) (w : World) (h : Rs .u32 w v ps) (h' : Rs .u32 w v' qs) (hl : ps.length ≤ 1000000) (_hl' : qs.length ≤ 1000000) :
    Calls Tryz.prog 73 #[v, v'] w fun e w' => e = .returned (.bool (decide (ps = qs))) ∧ Below w.heap.size w w' := by
  have HP := Lib.hid h
  have HQ := Lib.hid h'
  obtain ⟨A, k1, rfl, _⟩ := h
  obtain ⟨B, k2, rfl, _⟩ := h'
  by_cases hn : ps.length = qs.length
  · have HN := Lib.hid hn
    have d1 : ((ps.length : Int) != (qs.length : Int)) = false := by simp [hn]
    clear hn
    go_enter Tryz.func73, Tryz.ntmps73
    go_wp2
    go_loopw [13] (fun i wr => ∃ j : Nat, j ≤ ps.length ∧ i = .int .i64 j ∧ Hid (ps.take j = qs.take j) ∧ Hid (Below w.heap.size w wr)) (fun i _ => ps.length - (intOf i).toNat)
    case atStart => exact ⟨0, Nat.zero_le _, rfl, Lib.hid rfl, Lib.hid (Below.refl _ _)⟩
    case round =>
      obtain ⟨j, hj, rfl, HT, HB⟩ := hrel
      by_cases hlt : j < ps.length
      · have hlt' : j < qs.length := by have := HN.out; omega
        obtain ⟨⟨ua, un⟩, hu⟩ : ∃ u, ps[j]? = some u := ⟨_, List.getElem?_eq_getElem hlt⟩
        obtain ⟨⟨va, vn⟩, hv⟩ : ∃ u, qs[j]? = some u := ⟨_, List.getElem?_eq_getElem hlt'⟩
        obtain ⟨b1, o1, rfl, hb1, p0, p1⟩ := (HP.out.below HB.out).at hu
        obtain ⟨b2, o2, rfl, hb2, q0, q1⟩ := (HQ.out.below HB.out).at hv
        simp only at p0 p1 q0 q1
        have HU := Lib.hid hu
        have HV := Lib.hid hv
        clear hu hv
        by_cases e1 : ua = va
        · subst e1
          by_cases e2 : un = vn
          · subst e2
            have HT2 := Lib.hid (take_next HU.out HV.out HT.out)
            go_wp2
            go_region
            go_wp2
            go_roundw
            case rel => exact ⟨j + 1, by omega, by go_num, HT2, Lib.hid HB.out.drew⟩
            case measure => simp [intOf]; omega
          · have HF := Lib.hid (take_ne HU.out HV.out (fun e => e2 (by injection e)))
            have d2 : (un == vn) = false := by simpa using e2
            clear e2
            go_wp2
            go_region
            go_wp2
            go_ret
            exact ⟨by rw [HF.out]; rfl, HB.out.drew⟩
        · have HF := Lib.hid (take_ne HU.out HV.out (fun e => e1 (by injection e)))
          have d2 : (ua == va) = false := by simpa using e1
          clear e1
          go_wp2
          go_region
          go_wp2
          go_ret
          exact ⟨by rw [HF.out]; rfl, HB.out.drew⟩
      · obtain rfl : j = ps.length := by omega
        have HF := Lib.hid (take_all HN.out HT.out)
        go_wp2
        go_ret
        exact ⟨by rw [HF.out]; rfl, HB.out⟩
  · have d1 : ((ps.length : Int) != (qs.length : Int)) = true := by simp; omega
    have HF : Hid (decide (ps = qs) = false) := Lib.hid (decide_eq_false fun e => hn (by rw [e]))
    clear hn
    go_enter Tryz.func73, Tryz.ntmps73
    go_wp2
    go_ret
    exact ⟨by rw [HF.out]; rfl, Below.refl _ _⟩
set_option maxRecDepth 100000 in
set_option maxHeartbeats 2000000 in
theorem equalO_any (v v' : Value) (ps qs : List Pr) (w : World) (h : Rs .i64 w v ps) (h' : Rs .i64 w v' qs) (hl : ps.length ≤ 1000000) (_hl' : qs.length ≤ 1000000) :
    Calls Tryz.prog 74 #[v, v'] w fun e w' => e = .returned (.bool (decide (ps = qs))) ∧ Below w.heap.size w w' := by
  have HP := Lib.hid h
  have HQ := Lib.hid h'
  obtain ⟨A, k1, rfl, _⟩ := h
  obtain ⟨B, k2, rfl, _⟩ := h'
  by_cases hn : ps.length = qs.length
  · have HN := Lib.hid hn
    have d1 : ((ps.length : Int) != (qs.length : Int)) = false := by simp [hn]
    clear hn
    go_enter Tryz.func74, Tryz.ntmps74
    go_wp2
    go_loopw [13] (fun i wr => ∃ j : Nat, j ≤ ps.length ∧ i = .int .i64 j ∧ Hid (ps.take j = qs.take j) ∧ Hid (Below w.heap.size w wr)) (fun i _ => ps.length - (intOf i).toNat)
    case atStart => exact ⟨0, Nat.zero_le _, rfl, Lib.hid rfl, Lib.hid (Below.refl _ _)⟩
    case round =>
      obtain ⟨j, hj, rfl, HT, HB⟩ := hrel
      by_cases hlt : j < ps.length
      · have hlt' : j < qs.length := by have := HN.out; omega
        obtain ⟨⟨ua, un⟩, hu⟩ : ∃ u, ps[j]? = some u := ⟨_, List.getElem?_eq_getElem hlt⟩
        obtain ⟨⟨va, vn⟩, hv⟩ : ∃ u, qs[j]? = some u := ⟨_, List.getElem?_eq_getElem hlt'⟩
        obtain ⟨b1, o1, rfl, hb1, p0, p1⟩ := (HP.out.below HB.out).at hu
        obtain ⟨b2, o2, rfl, hb2, q0, q1⟩ := (HQ.out.below HB.out).at hv
        simp only at p0 p1 q0 q1
        have HU := Lib.hid hu
        have HV := Lib.hid hv
        clear hu hv
        by_cases e1 : ua = va
        · subst e1
          by_cases e2 : un = vn
          · subst e2
            have HT2 := Lib.hid (take_next HU.out HV.out HT.out)
            go_wp2
            go_region
            go_wp2
            go_roundw
            case rel => exact ⟨j + 1, by omega, by go_num, HT2, Lib.hid HB.out.drew⟩
            case measure => simp [intOf]; omega
          · have HF := Lib.hid (take_ne HU.out HV.out (fun e => e2 (by injection e)))
            have d2 : (un == vn) = false := by simpa using e2
            clear e2
            go_wp2
            go_region
            go_wp2
            go_ret
            exact ⟨by rw [HF.out]; rfl, HB.out.drew⟩
        · have HF := Lib.hid (take_ne HU.out HV.out (fun e => e1 (by injection e)))
          have d2 : (ua == va) = false := by simpa using e1
          clear e1
          go_wp2
          go_region
          go_wp2
          go_ret
          exact ⟨by rw [HF.out]; rfl, HB.out.drew⟩
      · obtain rfl : j = ps.length := by omega
        have HF := Lib.hid (take_all HN.out HT.out)
        go_wp2
        go_ret
        exact ⟨by rw [HF.out]; rfl, HB.out⟩
  · have d1 : ((ps.length : Int) != (qs.length : Int)) = true := by simp; omega
    have HF : Hid (decide (ps = qs) = false) := Lib.hid (decide_eq_false fun e => hn (by rw [e]))
    clear hn
    go_enter Tryz.func74, Tryz.ntmps74
    go_wp2
    go_ret
    exact ⟨by rw [HF.out]; rfl, Below.refl _ _⟩
def eqRest (c d : Cfg) : Bool := decide (c.hello = d.hello) && decide (c.dead = d.dead) && decide (c.again = d.again) && decide (c.room = d.room) && decide (c.queue = d.queue) && decide (c.tokens = d.tokens) && decide (c.refill = d.refill)
/-- Are two configurations the same? -/
def sameC (c d : Cfg) : Bool := decide (c.node = d.node) && decide (c.addr = d.addr) && decide (c.own = d.own) && decide (c.ports = d.ports) && eqRest c d
theorem sameC_self (c : Cfg) : sameC c c = true := by simp [sameC, eqRest]
theorem sameC_eq {c d : Cfg} (h : sameC c d = true) : c = d := by
  obtain ⟨c1, c2, c3, c4, c5, c6, c7, c8, c9, c10, c11⟩ := c
  obtain ⟨d1, d2, d3, d4, d5, d6, d7, d8, d9, d10, d11⟩ := d
  simp only [sameC, eqRest, Bool.and_eq_true, decide_eq_true_eq] at h
  simp only [Cfg.mk.injEq]
  obtain ⟨⟨⟨⟨h1, h2⟩, h3⟩, h4⟩, ⟨⟨⟨⟨⟨h5, h6⟩, h7⟩, h8⟩, h9⟩, h10⟩, h11⟩ := h
  exact ⟨h1, h2, h3, h4, h5, h6, h7, h8, h9, h10, h11⟩
set_option maxRecDepth 100000 in
set_option maxHeartbeats 8000000 in
theorem csame_any (v v' : Value) (c d : Cfg) (w : World) (h : CfgIs w v c) (h' : CfgIs w v' d) (hl : c.own.length ≤ 1000000) (hp : c.ports.length ≤ 1000000) (hl' : d.own.length ≤ 1000000) (hp' : d.ports.length ≤ 1000000) :
    Calls Tryz.prog 26 #[v, v'] w fun e w' => e = .returned (.bool (sameC c d)) ∧ Below w.heap.size w w' := by
  obtain ⟨own, ports, rfl, hO, hP⟩ := h.is
  obtain ⟨own', ports', rfl, hO', hP'⟩ := h'.is
  have HO := Lib.hid hO
  have HP := Lib.hid hP
  have HO' := Lib.hid hO'
  have HP' := Lib.hid hP'
  obtain ⟨A1, k1, rfl, -⟩ := hO
  obtain ⟨A2, k2, rfl, -⟩ := hP
  obtain ⟨B1, l1, rfl, -⟩ := hO'
  obtain ⟨B2, l2, rfl, -⟩ := hP'
  clear h h'
  unfold cfgV
  obtain ⟨W0, hW0⟩ : ∃ W0, (w.alloc (.cells #[.int .i64 c.node, .int .u32 c.addr, .slice A1 c.own.length k1, .slice A2 c.ports.length k2, .int .i64 c.hello, .int .i64 c.dead, .int .i64 c.again, .int .i64 c.room, .int .i64 c.queue, .int .i64 c.tokens, .int .i64 c.refill] 28)).alloc (.cells #[.int .i64 d.node, .int .u32 d.addr, .slice B1 d.own.length l1, .slice B2 d.ports.length l2, .int .i64 d.hello, .int .i64 d.dead, .int .i64 d.again, .int .i64 d.room, .int .i64 d.queue, .int .i64 d.tokens, .int .i64 d.refill] 28) = W0 := ⟨_, rfl⟩
  have HB0 : Hid (Below w.heap.size w W0) := Lib.hid (by rw [← hW0]; exact ((Below.refl _ _).alloc (Nat.le_refl _) _).alloc (by simp) _)
  have HX1 : Hid (Whole W0 w.heap.size 28 #[.int .i64 c.node, .int .u32 c.addr, .slice A1 c.own.length k1, .slice A2 c.ports.length k2, .int .i64 c.hello, .int .i64 c.dead, .int .i64 c.again, .int .i64 c.room, .int .i64 c.queue, .int .i64 c.tokens, .int .i64 c.refill]) := Lib.hid (by rw [← hW0]; exact (Whole.new w _ _).alloc _)
  have HX2 : Hid (Whole W0 (w.heap.size + 1) 28 #[.int .i64 d.node, .int .u32 d.addr, .slice B1 d.own.length l1, .slice B2 d.ports.length l2, .int .i64 d.hello, .int .i64 d.dead, .int .i64 d.again, .int .i64 d.room, .int .i64 d.queue, .int .i64 d.tokens, .int .i64 d.refill]) := Lib.hid (by
    rw [← hW0]
    have := Whole.new (w.alloc (.cells #[.int .i64 c.node, .int .u32 c.addr, .slice A1 c.own.length k1, .slice A2 c.ports.length k2, .int .i64 c.hello, .int .i64 c.dead, .int .i64 c.again, .int .i64 c.room, .int .i64 c.queue, .int .i64 c.tokens, .int .i64 c.refill] 28)) 28 #[.int .i64 d.node, .int .u32 d.addr, .slice B1 d.own.length l1, .slice B2 d.ports.length l2, .int .i64 d.hello, .int .i64 d.dead, .int .i64 d.again, .int .i64 d.room, .int .i64 d.queue, .int .i64 d.tokens, .int .i64 d.refill]
    simpa using this)
  have hlt1 := HX1.out.lt
  have hlt2 := HX2.out.lt
  have HW0 := Lib.hid hW0
  clear hW0
  have y0 : W0.cell? ⟨w.heap.size, 0, none⟩ = some (.int .i64 c.node) := HX1.out.cell 0
  have z0 : W0.cell? ⟨w.heap.size + 1, 0, none⟩ = some (.int .i64 d.node) := HX2.out.cell 0
  have y1 : W0.cell? ⟨w.heap.size, 1, none⟩ = some (.int .u32 c.addr) := HX1.out.cell 1
  have z1 : W0.cell? ⟨w.heap.size + 1, 1, none⟩ = some (.int .u32 d.addr) := HX2.out.cell 1
  have y2 : W0.cell? ⟨w.heap.size, 2, none⟩ = some (.slice A1 c.own.length k1) := HX1.out.cell 2
  have z2 : W0.cell? ⟨w.heap.size + 1, 2, none⟩ = some (.slice B1 d.own.length l1) := HX2.out.cell 2
  have y3 : W0.cell? ⟨w.heap.size, 3, none⟩ = some (.slice A2 c.ports.length k2) := HX1.out.cell 3
  have z3 : W0.cell? ⟨w.heap.size + 1, 3, none⟩ = some (.slice B2 d.ports.length l2) := HX2.out.cell 3
  have y4 : W0.cell? ⟨w.heap.size, 4, none⟩ = some (.int .i64 c.hello) := HX1.out.cell 4
  have z4 : W0.cell? ⟨w.heap.size + 1, 4, none⟩ = some (.int .i64 d.hello) := HX2.out.cell 4
  have y5 : W0.cell? ⟨w.heap.size, 5, none⟩ = some (.int .i64 c.dead) := HX1.out.cell 5
  have z5 : W0.cell? ⟨w.heap.size + 1, 5, none⟩ = some (.int .i64 d.dead) := HX2.out.cell 5
  have y6 : W0.cell? ⟨w.heap.size, 6, none⟩ = some (.int .i64 c.again) := HX1.out.cell 6
  have z6 : W0.cell? ⟨w.heap.size + 1, 6, none⟩ = some (.int .i64 d.again) := HX2.out.cell 6
  have y7 : W0.cell? ⟨w.heap.size, 7, none⟩ = some (.int .i64 c.room) := HX1.out.cell 7
  have z7 : W0.cell? ⟨w.heap.size + 1, 7, none⟩ = some (.int .i64 d.room) := HX2.out.cell 7
  have y8 : W0.cell? ⟨w.heap.size, 8, none⟩ = some (.int .i64 c.queue) := HX1.out.cell 8
  have z8 : W0.cell? ⟨w.heap.size + 1, 8, none⟩ = some (.int .i64 d.queue) := HX2.out.cell 8
  have y9 : W0.cell? ⟨w.heap.size, 9, none⟩ = some (.int .i64 c.tokens) := HX1.out.cell 9
  have z9 : W0.cell? ⟨w.heap.size + 1, 9, none⟩ = some (.int .i64 d.tokens) := HX2.out.cell 9
  have y10 : W0.cell? ⟨w.heap.size, 10, none⟩ = some (.int .i64 c.refill) := HX1.out.cell 10
  have z10 : W0.cell? ⟨w.heap.size + 1, 10, none⟩ = some (.int .i64 d.refill) := HX2.out.cell 10
  have HEP : Hid (Calls Tryz.prog 73 #[.slice A1 c.own.length k1, .slice B1 d.own.length l1] W0 fun e w' => e = .returned (.bool (decide (c.own = d.own))) ∧ Below W0.heap.size W0 w') := Lib.hid (equalP_any _ _ _ _ _ (HO.out.below HB0.out) (HO'.out.below HB0.out) hl hl')
  have HEO : Hid (∀ y : Ext W0, Calls Tryz.prog 74 #[.slice A2 c.ports.length k2, .slice B2 d.ports.length l2] y.w fun e w' => e = .returned (.bool (decide (c.ports = d.ports))) ∧ Below y.w.heap.size y.w w') := Lib.hid (fun y => equalO_any _ _ _ _ _ ((HP.out.below HB0.out).below y.below) ((HP'.out.below HB0.out).below y.below) hp hp')
  clear HX1 HX2
  go_enter Tryz.func26, Tryz.ntmps26
  go_upto_region 1 with fail
  rw [HW0.out]
  go_cut [5] (fun s wx => s = .bool (eqRest c d) ∧ wx = W0)
  case first =>
    by_cases e0 : c.hello = d.hello
    · have q0 : (c.hello == d.hello) = true := by simpa using e0
      have r0 : decide (c.hello = d.hello) = true := decide_eq_true e0
      by_cases e1 : c.dead = d.dead
      · have q1 : (c.dead == d.dead) = true := by simpa using e1
        have r1 : decide (c.dead = d.dead) = true := decide_eq_true e1
        by_cases e2 : c.again = d.again
        · have q2 : (c.again == d.again) = true := by simpa using e2
          have r2 : decide (c.again = d.again) = true := decide_eq_true e2
          by_cases e3 : c.room = d.room
          · have q3 : (c.room == d.room) = true := by simpa using e3
            have r3 : decide (c.room = d.room) = true := decide_eq_true e3
            by_cases e4 : c.queue = d.queue
            · have q4 : (c.queue == d.queue) = true := by simpa using e4
              have r4 : decide (c.queue = d.queue) = true := decide_eq_true e4
              by_cases e5 : c.tokens = d.tokens
              · have q5 : (c.tokens == d.tokens) = true := by simpa using e5
                have r5 : decide (c.tokens = d.tokens) = true := decide_eq_true e5
                by_cases e6 : c.refill = d.refill
                · have q6 : (c.refill == d.refill) = true := by simpa using e6
                  have r6 : decide (c.refill = d.refill) = true := decide_eq_true e6
                  have HR : Hid (eqRest c d = true) := Lib.hid (by unfold eqRest; rw [r0, r1, r2, r3, r4, r5, r6]; rfl)
                  clear e0 r0 e1 r1 e2 r2 e3 r3 e4 r4 e5 r5 e6 r6
                  go_wp2
                  go_meet
                  exact ⟨by rw [HR.out], rfl⟩
                · have q6 : (c.refill == d.refill) = false := by simpa using e6
                  have r6 : decide (c.refill = d.refill) = false := decide_eq_false e6
                  have HR : Hid (eqRest c d = false) := Lib.hid (by unfold eqRest; rw [r6]; simp)
                  clear e0 r0 e1 r1 e2 r2 e3 r3 e4 r4 e5 r5 e6 r6
                  go_wp2
                  go_meet
                  exact ⟨by rw [HR.out], rfl⟩
              · have q5 : (c.tokens == d.tokens) = false := by simpa using e5
                have r5 : decide (c.tokens = d.tokens) = false := decide_eq_false e5
                have HR : Hid (eqRest c d = false) := Lib.hid (by unfold eqRest; rw [r5]; simp)
                clear e0 r0 e1 r1 e2 r2 e3 r3 e4 r4 e5 r5
                go_wp2
                go_meet
                exact ⟨by rw [HR.out], rfl⟩
            · have q4 : (c.queue == d.queue) = false := by simpa using e4
              have r4 : decide (c.queue = d.queue) = false := decide_eq_false e4
              have HR : Hid (eqRest c d = false) := Lib.hid (by unfold eqRest; rw [r4]; simp)
              clear e0 r0 e1 r1 e2 r2 e3 r3 e4 r4
              go_wp2
              go_meet
              exact ⟨by rw [HR.out], rfl⟩
          · have q3 : (c.room == d.room) = false := by simpa using e3
            have r3 : decide (c.room = d.room) = false := decide_eq_false e3
            have HR : Hid (eqRest c d = false) := Lib.hid (by unfold eqRest; rw [r3]; simp)
            clear e0 r0 e1 r1 e2 r2 e3 r3
            go_wp2
            go_meet
            exact ⟨by rw [HR.out], rfl⟩
        · have q2 : (c.again == d.again) = false := by simpa using e2
          have r2 : decide (c.again = d.again) = false := decide_eq_false e2
          have HR : Hid (eqRest c d = false) := Lib.hid (by unfold eqRest; rw [r2]; simp)
          clear e0 r0 e1 r1 e2 r2
          go_wp2
          go_meet
          exact ⟨by rw [HR.out], rfl⟩
      · have q1 : (c.dead == d.dead) = false := by simpa using e1
        have r1 : decide (c.dead = d.dead) = false := decide_eq_false e1
        have HR : Hid (eqRest c d = false) := Lib.hid (by unfold eqRest; rw [r1]; simp)
        clear e0 r0 e1 r1
        go_wp2
        go_meet
        exact ⟨by rw [HR.out], rfl⟩
    · have q0 : (c.hello == d.hello) = false := by simpa using e0
      have r0 : decide (c.hello = d.hello) = false := decide_eq_false e0
      have HR : Hid (eqRest c d = false) := Lib.hid (by unfold eqRest; rw [r0]; simp)
      clear e0 r0
      go_wp2
      go_meet
      exact ⟨by rw [HR.out], rfl⟩
  case rest =>
    obtain ⟨rfl, rfl⟩ := hcut
    clear y4 z4 y5 z5 y6 z6 y7 z7 y8 z8 y9 z9 y10 z10
    have HS : Hid (sameC c d = (decide (c.node = d.node) && decide (c.addr = d.addr) && decide (c.own = d.own) && decide (c.ports = d.ports) && eqRest c d)) := Lib.hid rfl
    by_cases e0 : c.node = d.node
    · have q0 : (c.node == d.node) = true := by simpa using e0
      have r0 : decide (c.node = d.node) = true := decide_eq_true e0
      by_cases e1 : c.addr = d.addr
      · have q1 : (c.addr == d.addr) = true := by simpa using e1
        have r1 : decide (c.addr = d.addr) = true := decide_eq_true e1
        rw [r0, r1] at HS
        clear e0 e1 r0 r1
        cases ho : decide (c.own = d.own) with
        | true =>
          rw [ho] at HEP HS
          clear ho
          cases hq : decide (c.ports = d.ports) with
          | true =>
            rw [hq] at HEO HS
            clear hq
            go_wp2_with (first
              | (go_at_call 73; refine (ext_of HEP.out).mono ?_; rintro e w' ⟨rfl, y, rfl⟩)
              | (go_at_call 74; refine (ext_of (HEO.out y)).mono ?_; rintro e w' ⟨rfl, y2, rfl⟩))
            go_ret
            exact ⟨by rw [HS.out]; rfl, HB0.out.trans ((y.below.trans (y2.below.mono y.below.size)).mono HB0.out.size)⟩
          | false =>
            rw [hq] at HEO HS
            clear hq
            go_wp2_with (first
              | (go_at_call 73; refine (ext_of HEP.out).mono ?_; rintro e w' ⟨rfl, y, rfl⟩)
              | (go_at_call 74; refine (ext_of (HEO.out y)).mono ?_; rintro e w' ⟨rfl, y2, rfl⟩))
            go_ret
            exact ⟨by rw [HS.out]; rfl, HB0.out.trans ((y.below.trans (y2.below.mono y.below.size)).mono HB0.out.size)⟩
        | false =>
          rw [ho] at HEP HS
          clear ho
          go_wp2_with (first
            | (go_at_call 73; refine (ext_of HEP.out).mono ?_; rintro e w' ⟨rfl, y, rfl⟩))
          go_ret
          exact ⟨by rw [HS.out]; simp, HB0.out.trans (y.below.mono HB0.out.size)⟩
      · have q1 : (c.addr == d.addr) = false := by simpa using e1
        have r1 : decide (c.addr = d.addr) = false := decide_eq_false e1
        rw [r0, r1] at HS
        clear e0 e1 r0 r1
        go_wp2
        go_ret
        exact ⟨by rw [HS.out]; simp, HB0.out⟩
    · have q0 : (c.node == d.node) = false := by simpa using e0
      have r0 : decide (c.node = d.node) = false := decide_eq_false e0
      rw [r0] at HS
      clear e0 r0
      go_wp2
      go_ret
      exact ⟨by rw [HS.out]; simp, HB0.out⟩
end Go.Proofs.YtfbangojgjcbcaaGreatDoor
namespace Go.Proofs.YtfbangojgjcbcaaGreatDoor
open Go.RowKit Pl
theorem same_own {c d : Cfg} (h : decide (c.own = d.own) = false) : sameC c d = false := by unfold sameC; rw [h]; simp
theorem same_ports {c d : Cfg} (h : decide (c.ports = d.ports) = false) : sameC c d = false := by unfold sameC; rw [h]; simp
set_option maxRecDepth 100000 in
set_option maxHeartbeats 8000000 in
theorem rsame_any (v v' : Value) (c d : Cfg) (w : World) (h : CfgIs w v c) (h' : CfgIs w v' d) (hl : c.own.length ≤ 1000000) (hp : c.ports.length ≤ 1000000) (_hl' : d.own.length ≤ 1000000) (_hp' : d.ports.length ≤ 1000000) :
    Calls Tryz.prog 16 #[v, v'] w fun e w' => e = .returned (.bool (sameC c d)) ∧ Below w.heap.size w w' := by
  obtain ⟨own, ports, rfl, hO, hP⟩ := h.is
  obtain ⟨own', ports', rfl, hO', hP'⟩ := h'.is
  have HO := Lib.hid hO
  have HP := Lib.hid hP
  have HO' := Lib.hid hO'
  have HP' := Lib.hid hP'
  obtain ⟨A1, k1, rfl, -⟩ := hO
  obtain ⟨A2, k2, rfl, -⟩ := hP
  obtain ⟨B1, l1, rfl, -⟩ := hO'
  obtain ⟨B2, l2, rfl, -⟩ := hP'
  clear h h'
  unfold cfgV
  obtain ⟨W0, hW0⟩ : ∃ W0, (w.alloc (.cells #[.int .i64 c.node, .int .u32 c.addr, .slice A1 c.own.length k1, .slice A2 c.ports.length k2, .int .i64 c.hello, .int .i64 c.dead, .int .i64 c.again, .int .i64 c.room, .int .i64 c.queue, .int .i64 c.tokens, .int .i64 c.refill] 28)).alloc (.cells #[.int .i64 d.node, .int .u32 d.addr, .slice B1 d.own.length l1, .slice B2 d.ports.length l2, .int .i64 d.hello, .int .i64 d.dead, .int .i64 d.again, .int .i64 d.room, .int .i64 d.queue, .int .i64 d.tokens, .int .i64 d.refill] 28) = W0 := ⟨_, rfl⟩
  have HB0 : Hid (Below w.heap.size w W0) := Lib.hid (by rw [← hW0]; exact ((Below.refl _ _).alloc (Nat.le_refl _) _).alloc (by simp) _)
  have HX1 : Hid (Whole W0 w.heap.size 28 #[.int .i64 c.node, .int .u32 c.addr, .slice A1 c.own.length k1, .slice A2 c.ports.length k2, .int .i64 c.hello, .int .i64 c.dead, .int .i64 c.again, .int .i64 c.room, .int .i64 c.queue, .int .i64 c.tokens, .int .i64 c.refill]) := Lib.hid (by rw [← hW0]; exact (Whole.new w _ _).alloc _)
  have HX2 : Hid (Whole W0 (w.heap.size + 1) 28 #[.int .i64 d.node, .int .u32 d.addr, .slice B1 d.own.length l1, .slice B2 d.ports.length l2, .int .i64 d.hello, .int .i64 d.dead, .int .i64 d.again, .int .i64 d.room, .int .i64 d.queue, .int .i64 d.tokens, .int .i64 d.refill]) := Lib.hid (by
    rw [← hW0]
    have := Whole.new (w.alloc (.cells #[.int .i64 c.node, .int .u32 c.addr, .slice A1 c.own.length k1, .slice A2 c.ports.length k2, .int .i64 c.hello, .int .i64 c.dead, .int .i64 c.again, .int .i64 c.room, .int .i64 c.queue, .int .i64 c.tokens, .int .i64 c.refill] 28)) 28 #[.int .i64 d.node, .int .u32 d.addr, .slice B1 d.own.length l1, .slice B2 d.ports.length l2, .int .i64 d.hello, .int .i64 d.dead, .int .i64 d.again, .int .i64 d.room, .int .i64 d.queue, .int .i64 d.tokens, .int .i64 d.refill]
    simpa using this)
  have hlt1 := HX1.out.lt
  have hlt2 := HX2.out.lt
  have HW0 := Lib.hid hW0
  clear hW0
  have y2 : W0.cell? ⟨w.heap.size, 2, none⟩ = some (.slice A1 c.own.length k1) := HX1.out.cell 2
  have z2 : W0.cell? ⟨w.heap.size + 1, 2, none⟩ = some (.slice B1 d.own.length l1) := HX2.out.cell 2
  have y3 : W0.cell? ⟨w.heap.size, 3, none⟩ = some (.slice A2 c.ports.length k2) := HX1.out.cell 3
  have z3 : W0.cell? ⟨w.heap.size + 1, 3, none⟩ = some (.slice B2 d.ports.length l2) := HX2.out.cell 3
  by_cases hn : c.own.length = d.own.length
  · have d1 : ((c.own.length : Int) != (d.own.length : Int)) = false := by simp [hn]
    have HN := Lib.hid hn
    clear hn
    by_cases hq : c.ports.length = d.ports.length
    · have d2 : ((c.ports.length : Int) != (d.ports.length : Int)) = false := by simp [hq]
      have HQ := Lib.hid hq
      clear hq
      go_enter Tryz.func16, Tryz.ntmps16
      go_upto_region 1 with fail
      rw [HW0.out]
      go_wp2
      go_loopw [5] (fun i wr => ∃ j : Nat, j ≤ c.own.length ∧ i = .int .i64 j ∧ Hid (c.own.take j = d.own.take j) ∧ Hid (Below W0.heap.size W0 wr)) (fun i _ => c.own.length - (intOf i).toNat)
      case atStart => exact ⟨0, Nat.zero_le _, rfl, Lib.hid rfl, Lib.hid (Below.refl _ _)⟩
      case round =>
        obtain ⟨j, hj, rfl, HT, HB⟩ := hrel
        have x1 : wr.cell? ⟨w.heap.size, 2, none⟩ = some (.slice A1 c.own.length k1) := (HX1.out.below HB.out (by omega)).cell 2
        have x2 : wr.cell? ⟨w.heap.size + 1, 2, none⟩ = some (.slice B1 d.own.length l1) := (HX2.out.below HB.out (by omega)).cell 2
        have HBW := Lib.hid (HB0.out.trans (HB.out.mono HB0.out.size))
        by_cases hlt : j < c.own.length
        · have hlt' : j < d.own.length := by have := HN.out; omega
          obtain ⟨⟨ua, un⟩, hu⟩ : ∃ u, c.own[j]? = some u := ⟨_, List.getElem?_eq_getElem hlt⟩
          obtain ⟨⟨va, vn⟩, hv⟩ : ∃ u, d.own[j]? = some u := ⟨_, List.getElem?_eq_getElem hlt'⟩
          obtain ⟨b1, o1, rfl, hb1, p0, p1⟩ := (HO.out.below HBW.out).at hu
          obtain ⟨b2, o2, rfl, hb2, q0, q1⟩ := (HO'.out.below HBW.out).at hv
          simp only at p0 p1 q0 q1
          have HU := Lib.hid hu
          have HV := Lib.hid hv
          clear hu hv
          by_cases e1 : ua = va
          · subst e1
            by_cases e2 : un = vn
            · subst e2
              have HT2 := Lib.hid (take_next HU.out HV.out HT.out)
              go_wp2
              go_region
              go_wp2
              go_roundw
              case rel => exact ⟨j + 1, by omega, by go_num, HT2, Lib.hid HB.out.drew⟩
              case measure => simp [intOf]; omega
            · have HF := Lib.hid (same_own (take_ne HU.out HV.out (fun e => e2 (by injection e))))
              have d3 : (un == vn) = false := by simpa using e2
              clear e2
              go_wp2
              go_region
              go_wp2
              go_ret
              exact ⟨by rw [HF.out]; rfl, HBW.out.drew⟩
          · have HF := Lib.hid (same_own (take_ne HU.out HV.out (fun e => e1 (by injection e))))
            have d3 : (ua == va) = false := by simpa using e1
            clear e1
            go_wp2
            go_region
            go_wp2
            go_ret
            exact ⟨by rw [HF.out]; rfl, HBW.out.drew⟩
        · obtain rfl : j = c.own.length := by omega
          have HFO := Lib.hid (take_all HN.out HT.out)
          clear HT
          go_wp2
          go_loopw [6] (fun i wr => ∃ j : Nat, j ≤ c.ports.length ∧ i = .int .i64 j ∧ Hid (c.ports.take j = d.ports.take j) ∧ Hid (Below W0.heap.size W0 wr)) (fun i _ => c.ports.length - (intOf i).toNat)
          case atStart => exact ⟨0, Nat.zero_le _, rfl, Lib.hid rfl, HB⟩
          case round =>
            clear HB HBW x1 x2
            obtain ⟨j, hj, rfl, HT, HB⟩ := hrel
            have x1 : wr.cell? ⟨w.heap.size, 3, none⟩ = some (.slice A2 c.ports.length k2) := (HX1.out.below HB.out (by omega)).cell 3
            have x2 : wr.cell? ⟨w.heap.size + 1, 3, none⟩ = some (.slice B2 d.ports.length l2) := (HX2.out.below HB.out (by omega)).cell 3
            have HBW := Lib.hid (HB0.out.trans (HB.out.mono HB0.out.size))
            by_cases hlt : j < c.ports.length
            · have hlt' : j < d.ports.length := by have := HQ.out; omega
              obtain ⟨⟨ua, un⟩, hu⟩ : ∃ u, c.ports[j]? = some u := ⟨_, List.getElem?_eq_getElem hlt⟩
              obtain ⟨⟨va, vn⟩, hv⟩ : ∃ u, d.ports[j]? = some u := ⟨_, List.getElem?_eq_getElem hlt'⟩
              obtain ⟨b1, o1, rfl, hb1, p0, p1⟩ := (HP.out.below HBW.out).at hu
              obtain ⟨b2, o2, rfl, hb2, q0, q1⟩ := (HP'.out.below HBW.out).at hv
              simp only at p0 p1 q0 q1
              have HU := Lib.hid hu
              have HV := Lib.hid hv
              clear hu hv
              by_cases e1 : ua = va
              · subst e1
                by_cases e2 : un = vn
                · subst e2
                  have HT2 := Lib.hid (take_next HU.out HV.out HT.out)
                  go_wp2
                  go_region
                  go_wp2
                  go_roundw
                  case rel => exact ⟨j + 1, by omega, by go_num, HT2, Lib.hid HB.out.drew⟩
                  case measure => simp [intOf]; omega
                · have HF := Lib.hid (same_ports (take_ne HU.out HV.out (fun e => e2 (by injection e))))
                  have d3 : (un == vn) = false := by simpa using e2
                  clear e2
                  go_wp2
                  go_region
                  go_wp2
                  go_ret
                  exact ⟨by rw [HF.out]; rfl, HBW.out.drew⟩
              · have HF := Lib.hid (same_ports (take_ne HU.out HV.out (fun e => e1 (by injection e))))
                have d3 : (ua == va) = false := by simpa using e1
                clear e1
                go_wp2
                go_region
                go_wp2
                go_ret
                exact ⟨by rw [HF.out]; rfl, HBW.out.drew⟩
            · obtain rfl : j = c.ports.length := by omega
              have HFP := Lib.hid (take_all HQ.out HT.out)
              clear HT
              have p0 : wr.cell? ⟨w.heap.size, 0, none⟩ = some (.int .i64 c.node) := (HX1.out.below HB.out (by omega)).cell 0
              have t0 : wr.cell? ⟨w.heap.size + 1, 0, none⟩ = some (.int .i64 d.node) := (HX2.out.below HB.out (by omega)).cell 0
              have p1 : wr.cell? ⟨w.heap.size, 1, none⟩ = some (.int .u32 c.addr) := (HX1.out.below HB.out (by omega)).cell 1
              have t1 : wr.cell? ⟨w.heap.size + 1, 1, none⟩ = some (.int .u32 d.addr) := (HX2.out.below HB.out (by omega)).cell 1
              have p4 : wr.cell? ⟨w.heap.size, 4, none⟩ = some (.int .i64 c.hello) := (HX1.out.below HB.out (by omega)).cell 4
              have t4 : wr.cell? ⟨w.heap.size + 1, 4, none⟩ = some (.int .i64 d.hello) := (HX2.out.below HB.out (by omega)).cell 4
              have p5 : wr.cell? ⟨w.heap.size, 5, none⟩ = some (.int .i64 c.dead) := (HX1.out.below HB.out (by omega)).cell 5
              have t5 : wr.cell? ⟨w.heap.size + 1, 5, none⟩ = some (.int .i64 d.dead) := (HX2.out.below HB.out (by omega)).cell 5
              have p6 : wr.cell? ⟨w.heap.size, 6, none⟩ = some (.int .i64 c.again) := (HX1.out.below HB.out (by omega)).cell 6
              have t6 : wr.cell? ⟨w.heap.size + 1, 6, none⟩ = some (.int .i64 d.again) := (HX2.out.below HB.out (by omega)).cell 6
              have p7 : wr.cell? ⟨w.heap.size, 7, none⟩ = some (.int .i64 c.room) := (HX1.out.below HB.out (by omega)).cell 7
              have t7 : wr.cell? ⟨w.heap.size + 1, 7, none⟩ = some (.int .i64 d.room) := (HX2.out.below HB.out (by omega)).cell 7
              have p8 : wr.cell? ⟨w.heap.size, 8, none⟩ = some (.int .i64 c.queue) := (HX1.out.below HB.out (by omega)).cell 8
              have t8 : wr.cell? ⟨w.heap.size + 1, 8, none⟩ = some (.int .i64 d.queue) := (HX2.out.below HB.out (by omega)).cell 8
              have p9 : wr.cell? ⟨w.heap.size, 9, none⟩ = some (.int .i64 c.tokens) := (HX1.out.below HB.out (by omega)).cell 9
              have t9 : wr.cell? ⟨w.heap.size + 1, 9, none⟩ = some (.int .i64 d.tokens) := (HX2.out.below HB.out (by omega)).cell 9
              have p10 : wr.cell? ⟨w.heap.size, 10, none⟩ = some (.int .i64 c.refill) := (HX1.out.below HB.out (by omega)).cell 10
              have t10 : wr.cell? ⟨w.heap.size + 1, 10, none⟩ = some (.int .i64 d.refill) := (HX2.out.below HB.out (by omega)).cell 10
              by_cases e0 : c.node = d.node
              · have q0 : (c.node == d.node) = true := by simpa using e0
                have r0 : decide (c.node = d.node) = true := decide_eq_true e0
                by_cases e1 : c.addr = d.addr
                · have q1 : (c.addr == d.addr) = true := by simpa using e1
                  have r1 : decide (c.addr = d.addr) = true := decide_eq_true e1
                  by_cases e2 : c.hello = d.hello
                  · have q2 : (c.hello == d.hello) = true := by simpa using e2
                    have r2 : decide (c.hello = d.hello) = true := decide_eq_true e2
                    by_cases e3 : c.dead = d.dead
                    · have q3 : (c.dead == d.dead) = true := by simpa using e3
                      have r3 : decide (c.dead = d.dead) = true := decide_eq_true e3
                      by_cases e4 : c.again = d.again
                      · have q4 : (c.again == d.again) = true := by simpa using e4
                        have r4 : decide (c.again = d.again) = true := decide_eq_true e4
                        by_cases e5 : c.room = d.room
                        · have q5 : (c.room == d.room) = true := by simpa using e5
                          have r5 : decide (c.room = d.room) = true := decide_eq_true e5
                          by_cases e6 : c.queue = d.queue
                          · have q6 : (c.queue == d.queue) = true := by simpa using e6
                            have r6 : decide (c.queue = d.queue) = true := decide_eq_true e6
                            by_cases e7 : c.tokens = d.tokens
                            · have q7 : (c.tokens == d.tokens) = true := by simpa using e7
                              have r7 : decide (c.tokens = d.tokens) = true := decide_eq_true e7
                              by_cases e8 : c.refill = d.refill
                              · have q8 : (c.refill == d.refill) = true := by simpa using e8
                                have r8 : decide (c.refill = d.refill) = true := decide_eq_true e8
                                have HS : Hid (sameC c d = true) := Lib.hid (by unfold sameC eqRest; rw [r0, r1, r2, r3, r4, r5, r6, r7, r8, HFO.out, HFP.out]; rfl)
                                clear e0 r0 e1 r1 e2 r2 e3 r3 e4 r4 e5 r5 e6 r6 e7 r7 e8 r8
                                go_wp2
                                go_ret
                                exact ⟨by rw [HS.out]; rfl, HBW.out⟩
                              · have q8 : (c.refill == d.refill) = false := by simpa using e8
                                have r8 : decide (c.refill = d.refill) = false := decide_eq_false e8
                                have HS : Hid (sameC c d = false) := Lib.hid (by unfold sameC eqRest; rw [r8]; simp)
                                clear e0 r0 e1 r1 e2 r2 e3 r3 e4 r4 e5 r5 e6 r6 e7 r7 e8 r8
                                go_wp2
                                go_ret
                                exact ⟨by rw [HS.out]; rfl, HBW.out⟩
                            · have q7 : (c.tokens == d.tokens) = false := by simpa using e7
                              have r7 : decide (c.tokens = d.tokens) = false := decide_eq_false e7
                              have HS : Hid (sameC c d = false) := Lib.hid (by unfold sameC eqRest; rw [r7]; simp)
                              clear e0 r0 e1 r1 e2 r2 e3 r3 e4 r4 e5 r5 e6 r6 e7 r7
                              go_wp2
                              go_ret
                              exact ⟨by rw [HS.out]; rfl, HBW.out⟩
                          · have q6 : (c.queue == d.queue) = false := by simpa using e6
                            have r6 : decide (c.queue = d.queue) = false := decide_eq_false e6
                            have HS : Hid (sameC c d = false) := Lib.hid (by unfold sameC eqRest; rw [r6]; simp)
                            clear e0 r0 e1 r1 e2 r2 e3 r3 e4 r4 e5 r5 e6 r6
                            go_wp2
                            go_ret
                            exact ⟨by rw [HS.out]; rfl, HBW.out⟩
                        · have q5 : (c.room == d.room) = false := by simpa using e5
                          have r5 : decide (c.room = d.room) = false := decide_eq_false e5
                          have HS : Hid (sameC c d = false) := Lib.hid (by unfold sameC eqRest; rw [r5]; simp)
                          clear e0 r0 e1 r1 e2 r2 e3 r3 e4 r4 e5 r5
                          go_wp2
                          go_ret
                          exact ⟨by rw [HS.out]; rfl, HBW.out⟩
                      · have q4 : (c.again == d.again) = false := by simpa using e4
                        have r4 : decide (c.again = d.again) = false := decide_eq_false e4
                        have HS : Hid (sameC c d = false) := Lib.hid (by unfold sameC eqRest; rw [r4]; simp)
                        clear e0 r0 e1 r1 e2 r2 e3 r3 e4 r4
                        go_wp2
                        go_ret
                        exact ⟨by rw [HS.out]; rfl, HBW.out⟩
                    · have q3 : (c.dead == d.dead) = false := by simpa using e3
                      have r3 : decide (c.dead = d.dead) = false := decide_eq_false e3
                      have HS : Hid (sameC c d = false) := Lib.hid (by unfold sameC eqRest; rw [r3]; simp)
                      clear e0 r0 e1 r1 e2 r2 e3 r3
                      go_wp2
                      go_ret
                      exact ⟨by rw [HS.out]; rfl, HBW.out⟩
                  · have q2 : (c.hello == d.hello) = false := by simpa using e2
                    have r2 : decide (c.hello = d.hello) = false := decide_eq_false e2
                    have HS : Hid (sameC c d = false) := Lib.hid (by unfold sameC eqRest; rw [r2]; simp)
                    clear e0 r0 e1 r1 e2 r2
                    go_wp2
                    go_ret
                    exact ⟨by rw [HS.out]; rfl, HBW.out⟩
                · have q1 : (c.addr == d.addr) = false := by simpa using e1
                  have r1 : decide (c.addr = d.addr) = false := decide_eq_false e1
                  have HS : Hid (sameC c d = false) := Lib.hid (by unfold sameC eqRest; rw [r1]; simp)
                  clear e0 r0 e1 r1
                  go_wp2
                  go_ret
                  exact ⟨by rw [HS.out]; rfl, HBW.out⟩
              · have q0 : (c.node == d.node) = false := by simpa using e0
                have r0 : decide (c.node = d.node) = false := decide_eq_false e0
                have HS : Hid (sameC c d = false) := Lib.hid (by unfold sameC eqRest; rw [r0]; simp)
                clear e0 r0
                go_wp2
                go_ret
                exact ⟨by rw [HS.out]; rfl, HBW.out⟩
    · have d2 : ((c.ports.length : Int) != (d.ports.length : Int)) = true := by simp; omega
      have HS : Hid (sameC c d = false) := Lib.hid (same_ports (decide_eq_false fun e => hq (by rw [e])))
      clear hq
      go_enter Tryz.func16, Tryz.ntmps16
      go_upto_region 1 with fail
      rw [HW0.out]
      go_wp2
      go_ret
      exact ⟨by rw [HS.out]; rfl, HB0.out⟩
  · have d1 : ((c.own.length : Int) != (d.own.length : Int)) = true := by simp; omega
    have HS : Hid (sameC c d = false) := Lib.hid (same_own (decide_eq_false fun e => hn (by rw [e])))
    clear hn
    go_enter Tryz.func16, Tryz.ntmps16
    go_upto_region 1 with fail
    rw [HW0.out]
    go_wp2
    go_ret
    exact ⟨by rw [HS.out]; rfl, HB0.out⟩
end Go.Proofs.YtfbangojgjcbcaaGreatDoor
