/- The walk of the law CtlLists: whatever the updates and the bytes, it answers true. -/
import Derived.Test.YteafakpipbhioaaDoorCtlW
namespace Go.Proofs.YteafakpipbhioaaDoor
open Go.RowKit Pl

theorem Us.nil (w : World) : Us w (.slice none 0 0) [] := ⟨none, 0, rfl, Nat.le_refl _, fun _ => rfl, fun h => absurd h (by simp)⟩
theorem list_fact (us : List U3) (hl : us.length ≤ 1000000) (hA : Addrs us) : ∃ (lx : List UInt8) (e : Int),
    (∀ w v, Us w v us → Calls Tryd.prog 63 #[v] w fun r w' => ∃ x, r = .returned (.tuple #[x, .int .i64 e]) ∧ Bs w' x lx ∧ Below w.heap.size w w') ∧
    (∀ w v, Us w v us → Calls Tryd.prog 64 #[v] w fun r w' => ∃ x, r = .returned (.tuple #[x, .int .i64 e]) ∧ Bs w' x lx ∧ Below w.heap.size w w') ∧
    (e = 0 → us.all mayB = true ∧ us.length ≤ 32 ∧ lx = listB us) := by
  cases hm : us.all mayB with
  | false =>
    refine ⟨[], 2, fun w v h => (clist_arg v us w h hl hA hm).mono fun e w' ⟨he, hb⟩ => ⟨_, he, Bs.nil _, hb⟩, fun w v h => (rlist_any v us w h hl hA).mono fun e w' ⟨hr, hb⟩ => ?_, fun h => by omega⟩
    rcases hr with ⟨_, he⟩ | ⟨h1, _⟩ | ⟨h1, _⟩
    · exact ⟨_, he, Bs.nil _, hb⟩
    · rw [hm] at h1; cases h1
    · rw [hm] at h1; cases h1
  | true =>
    by_cases h32 : 32 < us.length
    · refine ⟨[], 3, fun w v h => (clist_long v us w h hl hA hm h32).mono fun e w' ⟨he, hb⟩ => ⟨_, he, Bs.nil _, hb⟩, fun w v h => (rlist_any v us w h hl hA).mono fun e w' ⟨hr, hb⟩ => ?_, fun h => by omega⟩
      rcases hr with ⟨h1, _⟩ | ⟨_, _, he⟩ | ⟨_, h1, _⟩
      · rw [hm] at h1; cases h1
      · exact ⟨_, he, Bs.nil _, hb⟩
      · omega
    · refine ⟨listB us, 0, fun w v h => (clist_ok v us w h hA hm (by omega)).mono fun e w' ⟨x, he, ho, hb⟩ => ⟨x, he, Bs.own ho, hb⟩, fun w v h => (rlist_any v us w h hl hA).mono fun e w' ⟨hr, hb⟩ => ?_, fun _ => ⟨rfl, by omega, rfl⟩⟩
      rcases hr with ⟨h1, _⟩ | ⟨_, h1, _⟩ | ⟨_, _, x, he, ho⟩
      · rw [hm] at h1; cases h1
      · omega
      · exact ⟨x, he, Bs.own ho, hb⟩
theorem unlist_fact (l : List UInt8) (hl : l.length ≤ 1000000) : ∃ (us : List U3) (e : Int) (ok : Bool),
    (∀ w v, Bs w v l → Calls Tryd.prog 65 #[v] w fun r w' => ∃ x, r = .returned (.tuple #[x, .int .i64 e]) ∧ Us w' x us ∧ Below w.heap.size w w') ∧
    (∀ w v, Bs w v l → Calls Tryd.prog 66 #[v] w fun r w' => ∃ x, r = .returned (.tuple #[x, .bool ok]) ∧ Us w' x us ∧ Below w.heap.size w w') ∧
    ((e = 0 ∧ ok = true) ∨ (e = 4 ∧ ok = false)) ∧ us.length ≤ 1000000 := by
  cases hu : unlistU l with
  | none =>
    refine ⟨[], 4, false, fun w v h => (cunlist_any v l w h hl).mono fun e w' ⟨hr, hb⟩ => ?_, fun w v h => (runlist_any v l w h hl).mono fun e w' ⟨hr, hb⟩ => ?_, .inr ⟨rfl, rfl⟩, by simp⟩
    · rcases hr with ⟨us, x, h1, _⟩ | ⟨_, he⟩
      · rw [hu] at h1; cases h1
      · exact ⟨_, he, Us.nil _, hb⟩
    · rcases hr with ⟨us, x, h1, _⟩ | ⟨_, he⟩
      · rw [hu] at h1; cases h1
      · exact ⟨_, he, Us.nil _, hb⟩
  | some us =>
    have hlen : us.length ≤ 1000000 := by
      unfold unlistU at hu
      split at hu
      · have := unl_length hu
        have h2 := (l.headD 0).toNat_lt
        omega
      · cases hu
    refine ⟨us.map int3, 0, true, fun w v h => (cunlist_any v l w h hl).mono fun e w' ⟨hr, hb⟩ => ?_, fun w v h => (runlist_any v l w h hl).mono fun e w' ⟨hr, hb⟩ => ?_, .inl ⟨rfl, rfl⟩, by rw [List.length_map]; exact hlen⟩
    · rcases hr with ⟨us', x, h1, he, ho⟩ | ⟨h1, _⟩
      · rw [hu] at h1; injection h1 with h1; subst h1; exact ⟨x, he, Us.own ho, hb⟩
      · rw [hu] at h1; cases h1
    · rcases hr with ⟨us', x, h1, he, ho⟩ | ⟨h1, _⟩
      · rw [hu] at h1; injection h1 with h1; subst h1; exact ⟨x, he, Us.own ho, hb⟩
      · rw [hu] at h1; cases h1

set_option maxRecDepth 100000 in
set_option maxHeartbeats 4000000 in
theorem ctlLists_walk (v0 : Value) (us : List U3) (v1 : Value) (l : List UInt8) (w : World) (hv0 : Us w v0 us ∧ Addrs us) (hv1 : Bs w v1 l) (E : Env w) :
    Calls Tryd.prog 14 #[v0, v1] w fun e w' => e = .returned (.bool true) ∧ Below w.heap.size w w' := by
  have HU := Lib.hid hv0.1
  have HB := Lib.hid hv1
  obtain ⟨hv0, hA⟩ := hv0
  obtain ⟨A0, c0, rfl, hc0, _, _⟩ := hv0
  obtain ⟨A1, c1, rfl, hc1, _, _⟩ := hv1
  by_cases h1 : 300 < us.length
  · have d1 : 300 < (us.length : Int) := by omega
    go_enter Tryd.func14, Tryd.ntmps14
    go_wp2_with (go_at_call 49; refine (ext_of (known5_any _ E)).mono ?_; rintro e w' ⟨rfl, y, rfl⟩)
    go_ret
    exact ⟨rfl, (by repeat (first | exact Below.refl _ _ | apply Below.drew | apply below_drewN | apply bel_alloc | apply Ext.lift | apply bel_set0 | apply bel_set))⟩
  have d1 : decide (300 < (us.length : Int)) = false := by simp; omega
  by_cases h2 : 9000 < l.length
  · have d2 : 9000 < (l.length : Int) := by omega
    go_enter Tryd.func14, Tryd.ntmps14
    go_wp2_with (go_at_call 49; refine (ext_of (known5_any _ E)).mono ?_; rintro e w' ⟨rfl, y, rfl⟩)
    go_ret
    exact ⟨rfl, (by repeat (first | exact Below.refl _ _ | apply Below.drew | apply below_drewN | apply bel_alloc | apply Ext.lift | apply bel_set0 | apply bel_set))⟩
  have d2 : decide (9000 < (l.length : Int)) = false := by simp; omega
  obtain ⟨lx, e1, HL1, HL2, _⟩ := list_fact us (by omega) hA
  obtain ⟨vs, e2, ok, HN1, HN2, hcU, hvl⟩ := unlist_fact l (by omega)
  have HL1 := Lib.hid HL1
  have HL2 := Lib.hid HL2
  have HN1 := Lib.hid HN1
  have HN2 := Lib.hid HN2
  have HVL := Lib.hid hvl
  clear h1 h2 hA hvl
  rcases hcU with ⟨rfl, rfl⟩ | ⟨rfl, rfl⟩
  all_goals
    go_enter Tryd.func14, Tryd.ntmps14
    go_upto_region 7 with (first
      | (go_at_call 63; refine (HL1.out _ _ HU.out).mono ?_; rintro e w1 ⟨x, rfl, hx, hb1⟩; obtain ⟨y1, rfl⟩ : ∃ y : Ext _, w1 = y.w := ⟨⟨_, hb1⟩, rfl⟩; have HX := Lib.hid hx; clear hx hb1)
      | (go_at_call 64; refine (HL2.out _ _ (HU.out.below y1.below)).mono ?_; rintro e w2 ⟨x2, rfl, hx, hb1⟩; obtain ⟨y2, rfl⟩ : ∃ y : Ext _, w2 = y.w := ⟨⟨_, hb1⟩, rfl⟩; have HX2 := Lib.hid hx; clear hx hb1)
      | (go_at_call 65; refine (HN1.out _ _ ((HB.out.ext y1).ext y2)).mono ?_; rintro e w3 ⟨x3, rfl, hx, hb1⟩; obtain ⟨y3, rfl⟩ : ∃ y : Ext _, w3 = y.w := ⟨⟨_, hb1⟩, rfl⟩; have HX3 := Lib.hid hx; clear hx hb1)
      | (go_at_call 66; refine (HN2.out _ _ (((HB.out.ext y1).ext y2).ext y3)).mono ?_; rintro e w4 ⟨x4, rfl, hx, hb1⟩; obtain ⟨y4, rfl⟩ : ∃ y : Ext _, w4 = y.w := ⟨⟨_, hb1⟩, rfl⟩; have HX4 := Lib.hid hx; clear hx hb1))
    have cv1 := (((HX.out.ext y2).ext y3).ext y4).conv
    have cv2 := ((HX2.out.ext y3).ext y4).conv
    have HS := Lib.hid (ext_of (same5_true _ _ vs _ (HX3.out.below y4.below) HX4.out HVL.out))
    have E4 := y4.env (y3.env (y2.env (y1.env E)))
    go_wp2_with (first
      | (go_at_call 55; refine (num5_any _ _).mono ?_; rintro e w' ⟨rfl, rfl⟩)
      | (go_at_call 67; refine HS.out.mono ?_; rintro e w' ⟨rfl, y5, rfl⟩; have E5 := y5.env E4)
      | (go_at_call 49; refine (ext_of (known5_any _ E5)).mono ?_; rintro e w' ⟨rfl, y6, rfl⟩))
    go_ret
    exact ⟨rfl, (by repeat (first | exact Below.refl _ _ | apply Below.drew | apply below_drewN | apply bel_alloc | apply Ext.lift | apply bel_set0 | apply bel_set))⟩
end Go.Proofs.YteafakpipbhioaaDoor
