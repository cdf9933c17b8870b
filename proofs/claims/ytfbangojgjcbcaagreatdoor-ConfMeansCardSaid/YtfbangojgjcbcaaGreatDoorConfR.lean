/- Contracts of ref19: in, Own, Has, May. -/
/- Contract of ref19.May. -/
import Derived.Test.YtfbangojgjcbcaaGreatDoorConfP
namespace Go.Proofs.YtfbangojgjcbcaaGreatDoor.Pl
def goodTo (l : List Pr) (j : Nat) : Prop := rising (l.take j) = true ∧ (l.take j).all (fun p => mayP p.1 p.2) = true
theorem goodTo.start (l : List Pr) : goodTo l 0 := ⟨rfl, rfl⟩
theorem goodTo.first {l : List Pr} {p : Pr} (hp : l[0]? = some p) (hm : mayP p.1 p.2 = true) : goodTo l (0 + 1) := by
  have e : l.take (0 + 1) = [p] := by
    cases l with
    | nil => simp at hp
    | cons x l => simp at hp; subst hp; simp
  unfold goodTo
  rw [e]
  exact ⟨rfl, by simp [hm]⟩
theorem goodTo.next {l : List Pr} {j : Nat} {z p : Pr} (h : goodTo l (j + 1)) (hz : l[j]? = some z) (hp : l[j + 1]? = some p) (hm : mayP p.1 p.2 = true) (hc : cmpP z.1 z.2 p.1 p.2 = -1) : goodTo l (j + 1 + 1) := by
  obtain ⟨h1, h2⟩ := h
  have e1 : l.take (j + 1) = l.take j ++ [z] := by rw [List.take_add_one, hz]; rfl
  have e2 := take_two hz hp
  unfold goodTo
  rw [e2, rising_snoc2, ← e1, h1]
  refine ⟨by rw [hc]; rfl, ?_⟩
  rw [show l.take j ++ [z, p] = l.take (j + 1) ++ [p] by rw [e1]; simp, List.all_append, h2]
  simp [hm]
theorem goodTo.done {l : List Pr} {j : Nat} (h : goodTo l j) (hj : j = l.length ∨ (j = 9 ∧ 9 ≤ l.length)) : ownOk l = inI l.length 1 8 := by
  rcases hj with rfl | ⟨rfl, hl⟩
  · obtain ⟨h1, h2⟩ := h
    rw [List.take_length] at h1 h2
    unfold ownOk inI
    rw [h1, h2]
    simp
    rw [Bool.eq_iff_iff]; simp; omega
  · have : inI l.length 1 8 = false := by unfold inI; simp; omega
    rw [this]; exact ownOk_len (by omega)
theorem hasAny_take {l : List Pr} {j : Nat} {p : Pr} {a : Int} (h : hasAny (l.take j) a = false) (hp : l[j]? = some p) (hm : hasP p.1 p.2 a = false) : hasAny (l.take (j + 1)) a = false := by
  rw [List.take_add_one, hp]
  unfold hasAny at *
  simp only [List.any_append, h, Option.toList, List.any_cons, List.any_nil, hm, Bool.or_false]
theorem hasAny_mem {l : List Pr} {j : Nat} {p : Pr} {a : Int} (hp : l[j]? = some p) (hm : hasP p.1 p.2 a = true) : hasAny l a = true := by
  unfold hasAny
  rw [List.any_eq_true]
  exact ⟨p, List.mem_of_getElem? hp, hm⟩
theorem ports_take {l : List Pr} {j : Nat} {p : Pr} (h : (l.take j).all portOk = true) (hp : l[j]? = some p) (hm : portOk p = true) : (l.take (j + 1)).all portOk = true := by
  rw [List.take_add_one, hp]
  simp [List.all_append, h, hm]
theorem ports_bad {l : List Pr} {j : Nat} {p : Pr} (hp : l[j]? = some p) (hm : portOk p = false) : l.all portOk = false := by
  rw [List.all_eq_false]
  exact ⟨p, List.mem_of_getElem? hp, by simp [hm]⟩
theorem mem_at {l : List Pr} {j : Nat} {p : Pr} (hp : l[j]? = some p) : p ∈ l := List.mem_of_getElem? hp
end Go.Proofs.YtfbangojgjcbcaaGreatDoor.Pl
namespace Go.Proofs.YtfbangojgjcbcaaGreatDoor
open Go.RowKit Pl

set_option maxRecDepth 100000 in
theorem rin19 (n lo hi : Int) (w : World) : Calls Tryz.prog 57 #[.int .i64 n, .int .i64 lo, .int .i64 hi] w fun e w' => e = .returned (.bool (inI n lo hi)) ∧ w = w' := by
  by_cases h1 : lo ≤ n
  · by_cases h2 : n ≤ hi
    · have H : Hid (inI n lo hi = true) := Lib.hid (inI_iff.2 ⟨h1, h2⟩)
      go_enter Tryz.func57, Tryz.ntmps57
      go_wp2
      go_ret
      exact ⟨by rw [H.out]; rfl, rfl⟩
    · have H : Hid (inI n lo hi = false) := Lib.hid (Bool.eq_false_iff.2 fun h => h2 (inI_iff.1 h).2)
      have d : decide (n ≤ hi) = false := decide_eq_false h2
      clear h2
      go_enter Tryz.func57, Tryz.ntmps57
      go_wp2
      go_ret
      exact ⟨by rw [H.out]; rfl, rfl⟩
  · have H : Hid (inI n lo hi = false) := Lib.hid (Bool.eq_false_iff.2 fun h => h1 (inI_iff.1 h).1)
    have d : decide (lo ≤ n) = false := decide_eq_false h1
    clear h1
    go_enter Tryz.func57, Tryz.ntmps57
    go_wp2
    go_ret
    exact ⟨by rw [H.out]; rfl, rfl⟩

theorem rcompare_is {a n b m c : Int} (h : cmpP a n b m = c) (w : World) :
    Calls Tryz.prog 119 #[.agg #[.int .u32 a, .int .i64 n], .agg #[.int .u32 b, .int .i64 m]] w fun e w' => e = .returned (.int .i64 c) ∧ Below w.heap.size w w' := by
  rw [← h]; exact rcompare a n b m w

set_option maxRecDepth 100000 in
set_option maxHeartbeats 2000000 in
theorem rown19 (v : Value) (l : List Pr) (w : World) (h : Rs .u32 w v l) (hl : l.length ≤ 1000000) (hA : AddrsOk l) :
    Calls Tryz.prog 55 #[v] w fun e w' => e = .returned (.bool (ownOk l)) ∧ Below w.heap.size w w' := by
  have HL := Lib.hid h
  have HA := Lib.hid hA
  obtain ⟨A, k, rfl, -⟩ := h
  clear hA
  go_enter Tryz.func55, Tryz.ntmps55
  go_wp2
  go_loopw [3] (fun i wr => ∃ j : Nat, j ≤ l.length ∧ j ≤ 9 ∧ i = .int .i64 j ∧ Hid (goodTo l j) ∧ Hid (Below w.heap.size w wr)) (fun i _ => l.length - (intOf i).toNat)
  case atStart => exact ⟨0, Nat.zero_le _, Nat.zero_le _, rfl, Lib.hid (goodTo.start l), Lib.hid (Below.refl _ _)⟩
  case round =>
    obtain ⟨j, hj, hj9, rfl, HG, HB⟩ := hrel
    by_cases hlt : j < l.length
    · by_cases h9 : j < 9
      · obtain ⟨⟨a, n⟩, hu⟩ : ∃ u, l[j]? = some u := ⟨_, List.getElem?_eq_getElem hlt⟩
        obtain ⟨b1, o1, rfl, hb1, p0, p1⟩ := (HL.out.below HB.out).at hu
        simp only at p0 p1
        have ha := HA.out _ (mem_at hu)
        have HU := Lib.hid hu
        clear hu
        cases hm : mayP a n with
        | false =>
          have HF : Hid (ownOk l = false) := Lib.hid (ownOk_may (mem_at HU.out) hm)
          have HM := Lib.hid hm
          clear hm
          go_wp2
          refine wp_region_ext (by kernel_rfl) (by kernel_rfl) ?_
          repeat (go_big_quiet_step (first | (go_at_call 118; exact Ext.call (rmay_at a n false _ ha HM.out))))
          refine wpQuiet_nil ?_
          rintro _ ⟨y, rfl⟩
          go_wp2
          go_ret
          exact ⟨by rw [HF.out]; rfl, Ext.lift y HB.out⟩
        | true =>
          have HM := Lib.hid hm
          clear hm
          match j, hj, hj9, hlt, h9, HU, p0, p1, HG with
          | 0, hj, hj9, hlt, h9, HU, p0, p1, HG =>
            have hg := Lib.hid (goodTo.first HU.out HM.out)
            simp only [Nat.zero_mul, Nat.add_zero] at p0 p1
            go_wp2
            refine wp_region_ext (by kernel_rfl) (by kernel_rfl) ?_
            repeat (go_big_quiet_step (first | (go_at_call 118; exact Ext.call (rmay_at a n true _ ha HM.out))))
            refine wpQuiet_nil ?_
            rintro _ ⟨y, rfl⟩
            go_wp2
            go_roundw
            case rel => exact ⟨0 + 1, by omega, by omega, by go_num, hg, Lib.hid (Ext.lift y HB.out)⟩
            case measure => simp [intOf]; omega
          | j + 1, hj, hj9, hlt, h9, HU, p0, p1, HG =>
            obtain ⟨⟨za, zn⟩, hz⟩ : ∃ u, l[j]? = some u := ⟨_, List.getElem?_eq_getElem (by omega)⟩
            obtain ⟨b2, o2, he, hb2, q0, q1⟩ := (HL.out.below HB.out).at hz
            cases he
            simp only at q0 q1
            have HZ := Lib.hid hz
            clear hz
            by_cases hc : cmpP za zn a n = -1
            · have hg := Lib.hid (HG.out.next HZ.out HU.out HM.out hc)
              have HC := Lib.hid hc
              clear hc
              go_wp2
              refine wp_region_ext (by kernel_rfl) (by kernel_rfl) ?_
              repeat (go_big_quiet_step (first | (go_at_call 118; exact Ext.call (rmay_at a n true _ ha HM.out)) | (go_at_call 119; exact Ext.call (rcompare_is HC.out _))))
              refine wpQuiet_nil ?_
              rintro _ ⟨y, rfl⟩
              go_wp2
              go_roundw
              case rel => exact ⟨j + 1 + 1, by omega, by omega, by go_num, hg, Lib.hid (Ext.lift y HB.out)⟩
              case measure => simp [intOf]; omega
            · have HF : Hid (ownOk l = false) := Lib.hid (ownOk_rise HZ.out HU.out (by have := cmpP_bd za zn a n; simp only; omega))
              obtain ⟨k, hk⟩ : ∃ k, cmpP za zn a n = k := ⟨_, rfl⟩
              rw [hk] at hc
              have dk : (k == -1) = false := by simpa using hc
              have HC := Lib.hid hk
              clear hk
              go_wp2
              refine wp_region_ext (by kernel_rfl) (by kernel_rfl) ?_
              repeat (go_big_quiet_step (first | (go_at_call 118; exact Ext.call (rmay_at a n true _ ha HM.out)) | (go_at_call 119; exact Ext.call (rcompare_is HC.out _))))
              refine wpQuiet_nil ?_
              rintro _ ⟨y, rfl⟩
              go_wp2
              go_ret
              exact ⟨by rw [HF.out]; rfl, Ext.lift y HB.out⟩
      · have HF := Lib.hid (HG.out.done (.inr ⟨by omega, by omega⟩))
        go_wp2_with (go_at_call 57; refine (rin19 _ _ _ _).mono ?_; rintro e w' ⟨rfl, rfl⟩)
        go_ret
        exact ⟨by rw [HF.out]; try rfl, HB.out⟩
    · have HF := Lib.hid (HG.out.done (.inl (by omega)))
      go_wp2_with (go_at_call 57; refine (rin19 _ _ _ _).mono ?_; rintro e w' ⟨rfl, rfl⟩)
      go_ret
      exact ⟨by rw [HF.out]; try rfl, HB.out⟩

set_option maxRecDepth 100000 in
set_option maxHeartbeats 1000000 in
theorem rhas19 (v : Value) (l : List Pr) (x : Int) (w : World) (h : Rs .u32 w v l) (hl : l.length ≤ 1000000) (hA : AddrsOk l) (hx : IsAddr x) :
    Calls Tryz.prog 56 #[v, .int .u32 x] w fun e w' => e = .returned (.bool (hasAny l x)) ∧ Below w.heap.size w w' := by
  have HL := Lib.hid h
  have HA := Lib.hid hA
  obtain ⟨A, k, rfl, -⟩ := h
  clear hA
  go_enter Tryz.func56, Tryz.ntmps56
  go_wp2
  go_loopw [5] (fun i wr => ∃ j : Nat, j ≤ l.length ∧ i = .int .i64 j ∧ Hid (hasAny (l.take j) x = false) ∧ Hid (Below w.heap.size w wr)) (fun i _ => l.length - (intOf i).toNat)
  case atStart => exact ⟨0, Nat.zero_le _, rfl, Lib.hid rfl, Lib.hid (Below.refl _ _)⟩
  case round =>
    obtain ⟨j, hj, rfl, HG, HB⟩ := hrel
    by_cases hlt : j < l.length
    · obtain ⟨⟨a, n⟩, hu⟩ : ∃ u, l[j]? = some u := ⟨_, List.getElem?_eq_getElem hlt⟩
      obtain ⟨b1, o1, rfl, hb1, p0, p1⟩ := (HL.out.below HB.out).at hu
      simp only at p0 p1
      have ha := HA.out _ (mem_at hu)
      have HU := Lib.hid hu
      clear hu
      cases hm : hasP a n x with
      | false =>
        have hg := Lib.hid (hasAny_take HG.out HU.out hm)
        have HM := Lib.hid hm
        clear hm
        go_wp2_with (go_at_call 120; refine (ext_of (rhas a n x _ ha hx)).mono ?_; rw [HM.out]; rintro e w' ⟨rfl, y, rfl⟩)
        go_roundw
        case rel => exact ⟨j + 1, by omega, by go_num, hg, Lib.hid (Ext.lift y HB.out)⟩
        case measure => simp [intOf]; omega
      | true =>
        have HF := Lib.hid (hasAny_mem HU.out hm)
        have HM := Lib.hid hm
        clear hm
        go_wp2_with (go_at_call 120; refine (ext_of (rhas a n x _ ha hx)).mono ?_; rw [HM.out]; rintro e w' ⟨rfl, y, rfl⟩)
        go_ret
        exact ⟨by rw [HF.out]; try rfl, Ext.lift y HB.out⟩
    · obtain rfl : j = l.length := by omega
      have HF : Hid (hasAny l x = false) := Lib.hid (by have := HG.out; rw [List.take_length] at this; exact this)
      go_wp2
      go_ret
      exact ⟨by rw [HF.out]; try rfl, HB.out⟩
end Go.Proofs.YtfbangojgjcbcaaGreatDoor
namespace Go.Proofs.YtfbangojgjcbcaaGreatDoor
open Go.RowKit Pl

def restB (c : Cfg) : Bool := inI c.node 1 16 && (inI c.hello 1 100 && (inI c.dead 1 100 && (decide (c.hello < c.dead) && (inI c.again 1 100 && (inI c.room 0 64 && (inI c.queue 1 64 && (inI c.tokens 0 64 && inI c.refill 1 100)))))))
theorem mayC_rest (c : Cfg) : mayC c = (ownOk c.own && (decide (c.ports.length ≤ 8) && (c.ports.all portOk && (hasAny c.own c.addr && restB c)))) := by
  have e : inI c.hello 1 100 = true → inI c.dead (c.hello + 1) 100 = (inI c.dead 1 100 && decide (c.hello < c.dead)) := fun h => by
    have := inI_iff.1 h
    rw [Bool.eq_iff_iff]
    simp only [Bool.and_eq_true, inI_iff, decide_eq_true_eq]
    omega
  unfold mayC restB
  cases h : inI c.hello 1 100 with
  | false => cases ownOk c.own <;> cases decide (c.ports.length ≤ 8) <;> cases c.ports.all portOk <;> cases hasAny c.own c.addr <;> cases inI c.node 1 16 <;> rfl
  | true =>
    rw [e h]
    simp only [Bool.and_assoc]

set_option maxRecDepth 100000 in
set_option maxHeartbeats 4000000 in
theorem rmay19 (v : Value) (c : Cfg) (w : World) (h : CfgIs w v c) (hA : Addrs4 c) (hl : c.own.length ≤ 1000000) (hp : c.ports.length ≤ 1000000) :
    Calls Tryz.prog 20 #[v] w fun e w' => e = .returned (.bool (mayC c)) ∧ Below w.heap.size w w' := by
  obtain ⟨own, ports, rfl, hO, hP⟩ := h.is
  have HO := Lib.hid hO
  have HP := Lib.hid hP
  obtain ⟨A1, k1, rfl, -⟩ := hO
  obtain ⟨A2, k2, rfl, -⟩ := hP
  clear h
  obtain ⟨W1, hW1⟩ : ∃ W1, w.alloc (.cells #[.int .i64 c.node, .int .u32 c.addr, .slice A1 c.own.length k1, .slice A2 c.ports.length k2, .int .i64 c.hello, .int .i64 c.dead, .int .i64 c.again, .int .i64 c.room, .int .i64 c.queue, .int .i64 c.tokens, .int .i64 c.refill] 28) = W1 := ⟨_, rfl⟩
  have HB1 : Hid (Below w.heap.size w W1) := Lib.hid (by rw [← hW1]; exact (Below.refl _ _).alloc (Nat.le_refl _) _)
  have hx : Whole W1 w.heap.size 28 #[.int .i64 c.node, .int .u32 c.addr, .slice A1 c.own.length k1, .slice A2 c.ports.length k2, .int .i64 c.hello, .int .i64 c.dead, .int .i64 c.again, .int .i64 c.room, .int .i64 c.queue, .int .i64 c.tokens, .int .i64 c.refill] := by rw [← hW1]; exact Whole.new _ _ _
  have hlt : w.heap.size < W1.heap.size := hx.lt
  have c0 : W1.cell? ⟨w.heap.size, 0, none⟩ = some (.int .i64 c.node) := hx.cell 0
  have c1 : W1.cell? ⟨w.heap.size, 1, none⟩ = some (.int .u32 c.addr) := hx.cell 1
  have c2 : W1.cell? ⟨w.heap.size, 2, none⟩ = some (.slice A1 c.own.length k1) := hx.cell 2
  have c3 : W1.cell? ⟨w.heap.size, 3, none⟩ = some (.slice A2 c.ports.length k2) := hx.cell 3
  have c4 : W1.cell? ⟨w.heap.size, 4, none⟩ = some (.int .i64 c.hello) := hx.cell 4
  have c5 : W1.cell? ⟨w.heap.size, 5, none⟩ = some (.int .i64 c.dead) := hx.cell 5
  have c6 : W1.cell? ⟨w.heap.size, 6, none⟩ = some (.int .i64 c.again) := hx.cell 6
  have c7 : W1.cell? ⟨w.heap.size, 7, none⟩ = some (.int .i64 c.room) := hx.cell 7
  have c8 : W1.cell? ⟨w.heap.size, 8, none⟩ = some (.int .i64 c.queue) := hx.cell 8
  have c9 : W1.cell? ⟨w.heap.size, 9, none⟩ = some (.int .i64 c.tokens) := hx.cell 9
  have c10 : W1.cell? ⟨w.heap.size, 10, none⟩ = some (.int .i64 c.refill) := hx.cell 10
  have HOWN : Hid (∀ W, Below W1.heap.size W1 W → Calls Tryz.prog 55 #[.slice A1 c.own.length k1] W fun e w' => e = .returned (.bool (ownOk c.own)) ∧ Below W.heap.size W w') := Lib.hid (fun W hb => rown19 _ _ _ ((HO.out.below HB1.out).below hb) hl hA.2)
  have HHAS : Hid (∀ W, Below W1.heap.size W1 W → Calls Tryz.prog 56 #[.slice A1 c.own.length k1, .int .u32 c.addr] W fun e w' => e = .returned (.bool (hasAny c.own c.addr)) ∧ Below W.heap.size W w') := Lib.hid (fun W hb => rhas19 _ _ _ _ ((HO.out.below HB1.out).below hb) hl hA.2 hA.1)
  have HM := Lib.hid (mayC_rest c)
  have HW := Lib.hid hW1
  clear hx hW1 hA
  unfold cfgV
  go_enter Tryz.func20, Tryz.ntmps20
  by_cases h8 : c.ports.length ≤ 8
  case neg =>
    have HF : Hid (mayC c = false) := Lib.hid (by rw [HM.out, decide_eq_false h8]; cases ownOk c.own <;> rfl)
    have d8 : decide ((8 : Int) < (c.ports.length : Int)) = true := decide_eq_true (by omega)
    go_upto_region 1 with fail
    rw [HW.out]
    go_wp2
    go_ret
    exact ⟨by rw [HF.out]; try rfl, HB1.out⟩
  case pos =>
    have d8 : decide ((8 : Int) < (c.ports.length : Int)) = false := decide_eq_false (by omega)
    rw [decide_eq_true h8] at HM
    cases hok : ownOk c.own with
    | false =>
      have HF : Hid (mayC c = false) := Lib.hid (by rw [HM.out, hok]; try rfl)
      rw [hok] at HOWN
      clear hok
      go_upto_region 1 with fail
      rw [HW.out]
      go_wp2_with (go_at_call 55; refine (ext_of (HOWN.out _ (Below.refl _ _))).mono ?_; rintro e w' ⟨rfl, y, rfl⟩)
      go_ret
      exact ⟨by rw [HF.out]; try rfl, Ext.lift y HB1.out⟩
    | true =>
      rw [hok] at HOWN HM
      clear hok
      cases hha : hasAny c.own c.addr with
      | false =>
        have HF : Hid (mayC c = false) := Lib.hid (by rw [HM.out, hha]; cases c.ports.all portOk <;> rfl)
        rw [hha] at HHAS
        clear hha
        go_upto_region 1 with fail
        rw [HW.out]
        go_wp2_with (first
          | (go_at_call 55; refine (ext_of (HOWN.out _ (Below.refl _ _))).mono ?_; rintro e w' ⟨rfl, y, rfl⟩)
          | (go_at_call 56; refine (Ext.call (HHAS.out _ y.below)).mono ?_; rintro e w' ⟨rfl, z, rfl⟩))
        go_ret
        exact ⟨by rw [HF.out]; try rfl, Ext.lift z HB1.out⟩
      | true =>
        rw [hha] at HHAS HM
        clear hha
        go_upto_region 1 with fail
        rw [HW.out]
        go_wp2_with (first
          | (go_at_call 55; refine (ext_of (HOWN.out _ (Below.refl _ _))).mono ?_; rintro e w' ⟨rfl, y, rfl⟩)
          | (go_at_call 56; refine (Ext.call (HHAS.out _ y.below)).mono ?_; rintro e w' ⟨rfl, z, rfl⟩))
        go_loopw [3] (fun i wr => ∃ j : Nat, j ≤ c.ports.length ∧ i = .int .i64 j ∧ Hid ((c.ports.take j).all portOk = true) ∧ ∃ y : Ext W1, wr = y.w) (fun i _ => c.ports.length - (intOf i).toNat)
        case atStart => exact ⟨0, Nat.zero_le _, rfl, Lib.hid rfl, z, rfl⟩
        case round =>
          obtain ⟨j, hj, rfl, HG, y, rfl⟩ := hrel
          by_cases hjl : j < c.ports.length
          · obtain ⟨⟨a, n⟩, hu⟩ : ∃ u, c.ports[j]? = some u := ⟨_, List.getElem?_eq_getElem hjl⟩
            obtain ⟨b1, o1, rfl, hb1, p0, p1⟩ := ((HP.out.below HB1.out).below y.below).at hu
            simp only at p0 p1
            have HU := Lib.hid hu
            clear hu
            cases g1 : inI a 1 50 with
            | false =>
              have HF : Hid (mayC c = false) := Lib.hid (by rw [HM.out, ports_bad HU.out (by unfold portOk; rw [g1]; rfl)]; try rfl)
              go_wp2_with (go_at_call 57; refine (rin19 _ _ _ _).mono ?_; rintro e w' ⟨rfl, rfl⟩)
              go_ret
              exact ⟨by rw [HF.out]; try rfl, Ext.lift y HB1.out⟩
            | true =>
              cases g2 : inI n 68 1500 with
              | false =>
                have HF : Hid (mayC c = false) := Lib.hid (by rw [HM.out, ports_bad HU.out (by unfold portOk; rw [g1, g2]; rfl)]; try rfl)
                go_wp2_with (go_at_call 57; refine (rin19 _ _ _ _).mono ?_; rintro e w' ⟨rfl, rfl⟩)
                go_ret
                exact ⟨by rw [HF.out]; try rfl, Ext.lift y HB1.out⟩
              | true =>
                have hg := Lib.hid (ports_take HG.out HU.out (by unfold portOk; rw [g1, g2]; rfl))
                go_wp2_with (go_at_call 57; refine (rin19 _ _ _ _).mono ?_; rintro e w' ⟨rfl, rfl⟩)
                go_roundw
                case rel => exact ⟨j + 1, by omega, by go_num, hg, y, rfl⟩
                case measure => simp [intOf]; omega
          · have HF : Hid (mayC c = restB c) := Lib.hid (by
              have := HG.out
              rw [show j = c.ports.length by omega, List.take_length] at this
              rw [HM.out, this]; try rfl)
            cases g0 : inI c.node 1 16 with
            | false =>
              have HR : Hid (restB c = false) := Lib.hid (by unfold restB; rw [g0]; try rfl)
              go_wp2_with (go_at_call 57; refine (rin19 _ _ _ _).mono ?_; rintro e w' ⟨rfl, rfl⟩)
              go_ret
              exact ⟨by rw [HF.out, HR.out]; try rfl, Ext.lift y HB1.out⟩
            | true =>
              cases g1 : inI c.hello 1 100 with
              | false =>
                have HR : Hid (restB c = false) := Lib.hid (by unfold restB; rw [g0, g1]; try rfl)
                go_wp2_with (go_at_call 57; refine (rin19 _ _ _ _).mono ?_; rintro e w' ⟨rfl, rfl⟩)
                go_ret
                exact ⟨by rw [HF.out, HR.out]; try rfl, Ext.lift y HB1.out⟩
              | true =>
                cases g2 : inI c.dead 1 100 with
                | false =>
                  have HR : Hid (restB c = false) := Lib.hid (by unfold restB; rw [g0, g1, g2]; try rfl)
                  go_wp2_with (go_at_call 57; refine (rin19 _ _ _ _).mono ?_; rintro e w' ⟨rfl, rfl⟩)
                  go_ret
                  exact ⟨by rw [HF.out, HR.out]; try rfl, Ext.lift y HB1.out⟩
                | true =>
                  cases g3 : decide (c.hello < c.dead) with
                  | false =>
                    have HR : Hid (restB c = false) := Lib.hid (by unfold restB; rw [g0, g1, g2, g3]; try rfl)
                    go_wp2_with (go_at_call 57; refine (rin19 _ _ _ _).mono ?_; rintro e w' ⟨rfl, rfl⟩)
                    go_ret
                    exact ⟨by rw [HF.out, HR.out]; try rfl, Ext.lift y HB1.out⟩
                  | true =>
                    cases g4 : inI c.again 1 100 with
                    | false =>
                      have HR : Hid (restB c = false) := Lib.hid (by unfold restB; rw [g0, g1, g2, g3, g4]; try rfl)
                      go_wp2_with (go_at_call 57; refine (rin19 _ _ _ _).mono ?_; rintro e w' ⟨rfl, rfl⟩)
                      go_ret
                      exact ⟨by rw [HF.out, HR.out]; try rfl, Ext.lift y HB1.out⟩
                    | true =>
                      cases g5 : inI c.room 0 64 with
                      | false =>
                        have HR : Hid (restB c = false) := Lib.hid (by unfold restB; rw [g0, g1, g2, g3, g4, g5]; try rfl)
                        go_wp2_with (go_at_call 57; refine (rin19 _ _ _ _).mono ?_; rintro e w' ⟨rfl, rfl⟩)
                        go_ret
                        exact ⟨by rw [HF.out, HR.out]; try rfl, Ext.lift y HB1.out⟩
                      | true =>
                        cases g6 : inI c.queue 1 64 with
                        | false =>
                          have HR : Hid (restB c = false) := Lib.hid (by unfold restB; rw [g0, g1, g2, g3, g4, g5, g6]; try rfl)
                          go_wp2_with (go_at_call 57; refine (rin19 _ _ _ _).mono ?_; rintro e w' ⟨rfl, rfl⟩)
                          go_ret
                          exact ⟨by rw [HF.out, HR.out]; try rfl, Ext.lift y HB1.out⟩
                        | true =>
                          cases g7 : inI c.tokens 0 64 with
                          | false =>
                            have HR : Hid (restB c = false) := Lib.hid (by unfold restB; rw [g0, g1, g2, g3, g4, g5, g6, g7]; try rfl)
                            go_wp2_with (go_at_call 57; refine (rin19 _ _ _ _).mono ?_; rintro e w' ⟨rfl, rfl⟩)
                            go_ret
                            exact ⟨by rw [HF.out, HR.out]; try rfl, Ext.lift y HB1.out⟩
                          | true =>
                            have HR : Hid (restB c = inI c.refill 1 100) := Lib.hid (by unfold restB; rw [g0, g1, g2, g3, g4, g5, g6, g7]; try rfl)
                            go_wp2_with (go_at_call 57; refine (rin19 _ _ _ _).mono ?_; rintro e w' ⟨rfl, rfl⟩)
                            go_ret
                            exact ⟨by rw [HF.out, HR.out]; try rfl, Ext.lift y HB1.out⟩
end Go.Proofs.YtfbangojgjcbcaaGreatDoor
