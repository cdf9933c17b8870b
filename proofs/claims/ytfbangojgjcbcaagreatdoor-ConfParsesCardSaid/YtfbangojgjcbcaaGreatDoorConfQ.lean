/- Contracts of ref19: in, Own, Has, May. -/
import Derived.Test.YtfbangojgjcbcaaGreatDoorConfP
namespace Go.Proofs.YtfbangojgjcbcaaGreatDoor.Pl
def goodTo (l : List Pr) (j : Nat) : Prop := rising (l.take j) = true ∧ (l.take j).all (fun p => mayP p.1 p.2) = true
theorem goodTo.start (l : List Pr) : goodTo l 0 := ⟨rfl, rfl⟩
theorem goodTo.first {l : List Pr} {p : Pr} (hp : l[0]? = some p) (hm : mayP p.1 p.2 = true) : goodTo l (0 + 1) := by
  have e : l.take (0 + 1) = [p] := by
    cases l with
    | nil => simp at hp
    | cons x l => simp at hp; subst hp; simp
  unfold goodTo
  rw [e]
  exact ⟨rfl, by simp [hm]⟩
theorem goodTo.next {l : List Pr} {j : Nat} {z p : Pr} (h : goodTo l (j + 1)) (hz : l[j]? = some z) (hp : l[j + 1]? = some p) (hm : mayP p.1 p.2 = true) (hc : cmpP z.1 z.2 p.1 p.2 = -1) : goodTo l (j + 1 + 1) := by
  obtain ⟨h1, h2⟩ := h
  have e1 : l.take (j + 1) = l.take j ++ [z] := by rw [List.take_add_one, hz]; rfl
  have e2 := take_two hz hp
  unfold goodTo
  rw [e2, rising_snoc2, ← e1, h1]
  refine ⟨by rw [hc]; rfl, ?_⟩
  rw [show l.take j ++ [z, p] = l.take (j + 1) ++ [p] by rw [e1]; simp, List.all_append, h2]
  simp [hm]
theorem goodTo.done {l : List Pr} {j : Nat} (h : goodTo l j) (hj : j = l.length ∨ (j = 9 ∧ 9 ≤ l.length)) : ownOk l = inI l.length 1 8 := by
  rcases hj with rfl | ⟨rfl, hl⟩
  · obtain ⟨h1, h2⟩ := h
    rw [List.take_length] at h1 h2
    unfold ownOk inI
    rw [h1, h2]
    simp
    rw [Bool.eq_iff_iff]; simp; omega
  · have : inI l.length 1 8 = false := by unfold inI; simp; omega
    rw [this]; exact ownOk_len (by omega)
theorem hasAny_take {l : List Pr} {j : Nat} {p : Pr} {a : Int} (h : hasAny (l.take j) a = false) (hp : l[j]? = some p) (hm : hasP p.1 p.2 a = false) : hasAny (l.take (j + 1)) a = false := by
  rw [List.take_add_one, hp]
  unfold hasAny at *
  simp only [List.any_append, h, Option.toList, List.any_cons, List.any_nil, hm, Bool.or_false]
theorem hasAny_mem {l : List Pr} {j : Nat} {p : Pr} {a : Int} (hp : l[j]? = some p) (hm : hasP p.1 p.2 a = true) : hasAny l a = true := by
  unfold hasAny
  rw [List.any_eq_true]
  exact ⟨p, List.mem_of_getElem? hp, hm⟩
theorem ports_take {l : List Pr} {j : Nat} {p : Pr} (h : (l.take j).all portOk = true) (hp : l[j]? = some p) (hm : portOk p = true) : (l.take (j + 1)).all portOk = true := by
  rw [List.take_add_one, hp]
  simp [List.all_append, h, hm]
theorem ports_bad {l : List Pr} {j : Nat} {p : Pr} (hp : l[j]? = some p) (hm : portOk p = false) : l.all portOk = false := by
  rw [List.all_eq_false]
  exact ⟨p, List.mem_of_getElem? hp, by simp [hm]⟩
theorem mem_at {l : List Pr} {j : Nat} {p : Pr} (hp : l[j]? = some p) : p ∈ l := List.mem_of_getElem? hp
end Go.Proofs.YtfbangojgjcbcaaGreatDoor.Pl
namespace Go.Proofs.YtfbangojgjcbcaaGreatDoor
open Go.RowKit Pl

set_option maxRecDepth 100000 in
theorem rin19 (n lo hi : Int) (w : World) : Calls Tryz.prog 57 #[.int .i64 n, .int .i64 lo, .int .i64 hi] w fun e w' => e = .returned (.bool (inI n lo hi)) ∧ w = w' := by
  by_cases h1 : lo ≤ n
  · by_cases h2 : n ≤ hi
    · have H : Hid (inI n lo hi = true) := Lib.hid (inI_iff.2 ⟨h1, h2⟩)
      go_enter Tryz.func57, Tryz.ntmps57
      go_wp2
      go_ret
      exact ⟨by rw [H.out]; rfl, rfl⟩
    · have H : Hid (inI n lo hi = false) := Lib.hid (Bool.eq_false_iff.2 fun h => h2 (inI_iff.1 h).2)
      have d : decide (n ≤ hi) = false := decide_eq_false h2
      clear h2
      go_enter Tryz.func57, Tryz.ntmps57
      go_wp2
      go_ret
      exact ⟨by rw [H.out]; rfl, rfl⟩
  · have H : Hid (inI n lo hi = false) := Lib.hid (Bool.eq_false_iff.2 fun h => h1 (inI_iff.1 h).1)
    have d : decide (lo ≤ n) = false := decide_eq_false h1
    clear h1
    go_enter Tryz.func57, Tryz.ntmps57
    go_wp2
    go_ret
    exact ⟨by rw [H.out]; rfl, rfl⟩

theorem rcompare_is {a n b m c : Int} (h : cmpP a n b m = c) (w : World) :
    Calls Tryz.prog 119 #[.agg #[.int .u32 a, .int .i64 n], .agg #[.int .u32 b, .int .i64 m]] w fun e w' => e = .returned (.int .i64 c) ∧ Below w.heap.size w w' := by
  rw [← h]; exact rcompare a n b m w

set_option maxRecDepth 100000 in
set_option maxHeartbeats 2000000 in
theorem rown19 (v : Value) (l : List Pr) (w : World) (h : Rs .u32 w v l) (hl : l.length ≤ 1000000) (hA : AddrsOk l) :
    Calls Tryz.prog 55 #[v] w fun e w' => e = .returned (.bool (ownOk l)) ∧ Below w.heap.size w w' := by
  have HL := Lib.hid h
  have HA := Lib.hid hA
  obtain ⟨A, k, rfl, -⟩ := h
  clear hA
  go_enter Tryz.func55, Tryz.ntmps55
  go_wp2
  go_loopw [3] (fun i wr => ∃ j : Nat, j ≤ l.length ∧ j ≤ 9 ∧ i = .int .i64 j ∧ Hid (goodTo l j) ∧ Hid (Below w.heap.size w wr)) (fun i _ => l.length - (intOf i).toNat)
  case atStart => exact ⟨0, Nat.zero_le _, Nat.zero_le _, rfl, Lib.hid (goodTo.start l), Lib.hid (Below.refl _ _)⟩
  case round =>
    obtain ⟨j, hj, hj9, rfl, HG, HB⟩ := hrel
    by_cases hlt : j < l.length
    · by_cases h9 : j < 9
      · obtain ⟨⟨a, n⟩, hu⟩ : ∃ u, l[j]? = some u := ⟨_, List.getElem?_eq_getElem hlt⟩
        obtain ⟨b1, o1, rfl, hb1, p0, p1⟩ := (HL.out.below HB.out).at hu
        simp only at p0 p1
        have ha := HA.out _ (mem_at hu)
        have HU := Lib.hid hu
        clear hu
        cases hm : mayP a n with
        | false =>
          have HF : Hid (ownOk l = false) := Lib.hid (ownOk_may (mem_at HU.out) hm)
          have HM := Lib.hid hm
          clear hm
          go_wp2
          refine wp_region_ext (by kernel_rfl) (by kernel_rfl) ?_
          repeat (go_big_quiet_step (first | (go_at_call 118; exact Ext.call (rmay_at a n false _ ha HM.out))))
          refine wpQuiet_nil ?_
          rintro _ ⟨y, rfl⟩
          go_wp2
          go_ret
          exact ⟨by rw [HF.out]; rfl, Ext.lift y HB.out⟩
        | true =>
          have HM := Lib.hid hm
          clear hm
          match j, hj, hj9, hlt, h9, HU, p0, p1, HG with
          | 0, hj, hj9, hlt, h9, HU, p0, p1, HG =>
            have hg := Lib.hid (goodTo.first HU.out HM.out)
            simp only [Nat.zero_mul, Nat.add_zero] at p0 p1
            go_wp2
            refine wp_region_ext (by kernel_rfl) (by kernel_rfl) ?_
            repeat (go_big_quiet_step (first | (go_at_call 118; exact Ext.call (rmay_at a n true _ ha HM.out))))
            refine wpQuiet_nil ?_
            rintro _ ⟨y, rfl⟩
            go_wp2
            go_roundw
            case rel => exact ⟨0 + 1, by omega, by omega, by go_num, hg, Lib.hid (Ext.lift y HB.out)⟩
            case measure => simp [intOf]; omega
          | j + 1, hj, hj9, hlt, h9, HU, p0, p1, HG =>
            obtain ⟨⟨za, zn⟩, hz⟩ : ∃ u, l[j]? = some u := ⟨_, List.getElem?_eq_getElem (by omega)⟩
            obtain ⟨b2, o2, he, hb2, q0, q1⟩ := (HL.out.below HB.out).at hz
            cases he
            simp only at q0 q1
            have HZ := Lib.hid hz
            clear hz
            by_cases hc : cmpP za zn a n = -1
            · have hg := Lib.hid (HG.out.next HZ.out HU.out HM.out hc)
              have HC := Lib.hid hc
              clear hc
              go_wp2
              refine wp_region_ext (by kernel_rfl) (by kernel_rfl) ?_
              repeat (go_big_quiet_step (first | (go_at_call 118; exact Ext.call (rmay_at a n true _ ha HM.out)) | (go_at_call 119; exact Ext.call (rcompare_is HC.out _))))
              refine wpQuiet_nil ?_
              rintro _ ⟨y, rfl⟩
              go_wp2
              go_roundw
              case rel => exact ⟨j + 1 + 1, by omega, by omega, by go_num, hg, Lib.hid (Ext.lift y HB.out)⟩
              case measure => simp [intOf]; omega
            · have HF : Hid (ownOk l = false) := Lib.hid (ownOk_rise HZ.out HU.out (by have := cmpP_bd za zn a n; simp only; omega))
              obtain ⟨k, hk⟩ : ∃ k, cmpP za zn a n = k := ⟨_, rfl⟩
              rw [hk] at hc
              have dk : (k == -1) = false := by simpa using hc
              have HC := Lib.hid hk
              clear hk
              go_wp2
              refine wp_region_ext (by kernel_rfl) (by kernel_rfl) ?_
              repeat (go_big_quiet_step (first | (go_at_call 118; exact Ext.call (rmay_at a n true _ ha HM.out)) | (go_at_call 119; exact Ext.call (rcompare_is HC.out _))))
              refine wpQuiet_nil ?_
              rintro _ ⟨y, rfl⟩
              go_wp2
              go_ret
              exact ⟨by rw [HF.out]; rfl, Ext.lift y HB.out⟩
      · have HF := Lib.hid (HG.out.done (.inr ⟨by omega, by omega⟩))
        go_wp2_with (go_at_call 57; refine (rin19 _ _ _ _).mono ?_; rintro e w' ⟨rfl, rfl⟩)
        go_ret
        exact ⟨by rw [HF.out]; try rfl, HB.out⟩
    · have HF := Lib.hid (HG.out.done (.inl (by omega)))
      go_wp2_with (go_at_call 57; refine (rin19 _ _ _ _).mono ?_; rintro e w' ⟨rfl, rfl⟩)
      go_ret
      exact ⟨by rw [HF.out]; try rfl, HB.out⟩

set_option maxRecDepth 100000 in
set_option maxHeartbeats 1000000 in
theorem rhas19 (v : Value) (l : List Pr) (x : Int) (w : World) (h : Rs .u32 w v l) (hl : l.length ≤ 1000000) (hA : AddrsOk l) (hx : IsAddr x) :
    Calls Tryz.prog 56 #[v, .int .u32 x] w fun e w' => e = .returned (.bool (hasAny l x)) ∧ Below w.heap.size w w' := by
  have HL := Lib.hid h
  have HA := Lib.hid hA
  obtain ⟨A, k, rfl, -⟩ := h
  clear hA
  go_enter Tryz.func56, Tryz.ntmps56
  go_wp2
  go_loopw [5] (fun i wr => ∃ j : Nat, j ≤ l.length ∧ i = .int .i64 j ∧ Hid (hasAny (l.take j) x = false) ∧ Hid (Below w.heap.size w wr)) (fun i _ => l.length - (intOf i).toNat)
  case atStart => exact ⟨0, Nat.zero_le _, rfl, Lib.hid rfl, Lib.hid (Below.refl _ _)⟩
  case round =>
    obtain ⟨j, hj, rfl, HG, HB⟩ := hrel
    by_cases hlt : j < l.length
    · obtain ⟨⟨a, n⟩, hu⟩ : ∃ u, l[j]? = some u := ⟨_, List.getElem?_eq_getElem hlt⟩
      obtain ⟨b1, o1, rfl, hb1, p0, p1⟩ := (HL.out.below HB.out).at hu
      simp only at p0 p1
      have ha := HA.out _ (mem_at hu)
      have HU := Lib.hid hu
      clear hu
      cases hm : hasP a n x with
      | false =>
        have hg := Lib.hid (hasAny_take HG.out HU.out hm)
        have HM := Lib.hid hm
        clear hm
        go_wp2_with (go_at_call 120; refine (ext_of (rhas a n x _ ha hx)).mono ?_; rw [HM.out]; rintro e w' ⟨rfl, y, rfl⟩)
        go_roundw
        case rel => exact ⟨j + 1, by omega, by go_num, hg, Lib.hid (Ext.lift y HB.out)⟩
        case measure => simp [intOf]; omega
      | true =>
        have HF := Lib.hid (hasAny_mem HU.out hm)
        have HM := Lib.hid hm
        clear hm
        go_wp2_with (go_at_call 120; refine (ext_of (rhas a n x _ ha hx)).mono ?_; rw [HM.out]; rintro e w' ⟨rfl, y, rfl⟩)
        go_ret
        exact ⟨by rw [HF.out]; try rfl, Ext.lift y HB.out⟩
    · obtain rfl : j = l.length := by omega
      have HF : Hid (hasAny l x = false) := Lib.hid (by have := HG.out; rw [List.take_length] at this; exact this)
      go_wp2
      go_ret
      exact ⟨by rw [HF.out]; try rfl, HB.out⟩
end Go.Proofs.YtfbangojgjcbcaaGreatDoor
