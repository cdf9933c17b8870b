/- The walk of the law CtlMeans: whatever the updates and the two numbers, it answers true. -/
import Derived.Test.YteafakpipbhioaaDoorLCtlLists
namespace Go.Proofs.YteafakpipbhioaaDoor
open Go.RowKit Pl

theorem far_means (d c : Int) : farP d c = 255 ∨ (d < farP d c ∧ farP d c ≤ d + c ∧ farP d c < 255 ∧ 0 ≤ d ∧ d ≤ 255 ∧ 1 ≤ c ∧ c ≤ 50) := by
  unfold farP
  split
  · exact .inl rfl
  · split
    · by_cases h : d + c = 255
      · exact .inl h
      · exact .inr (by omega)
    · exact .inl rfl

set_option maxRecDepth 100000 in
set_option maxHeartbeats 4000000 in
theorem ctlMeans_walk (v0 : Value) (us : List U3) (d c : Int) (w : World) (hv0 : Us w v0 us ∧ Addrs us) (E : Env w) :
    Calls Tryd.prog 15 #[v0, .int .i64 d, .int .i64 c] w fun e w' => e = .returned (.bool true) ∧ Below w.heap.size w w' := by
  have HU := Lib.hid hv0.1
  obtain ⟨hv0, hA⟩ := hv0
  obtain ⟨A0, c0, rfl, hc0, _, _⟩ := hv0
  by_cases h1 : 300 < us.length
  · have d1 : 300 < (us.length : Int) := by omega
    go_enter Tryd.func15, Tryd.ntmps15
    go_wp2_with (go_at_call 49; refine (ext_of (known5_any _ E)).mono ?_; rintro e w' ⟨rfl, y, rfl⟩)
    go_ret
    exact ⟨rfl, (by repeat (first | exact Below.refl _ _ | apply Below.drew | apply below_drewN | apply bel_alloc | apply Ext.lift | apply bel_set0 | apply bel_set))⟩
  have d1 : decide (300 < (us.length : Int)) = false := by simp; omega
  obtain ⟨lx, e1, HL1, _, HLe⟩ := list_fact us (by omega) hA
  have HL1 := Lib.hid HL1
  have HLe := Lib.hid HLe
  go_enter Tryd.func15, Tryd.ntmps15
  go_wp2_with (go_at_call 49; refine (ext_of (known5_any _ E)).mono ?_; rintro e w' ⟨rfl, y0, rfl⟩)
  go_loopw [7] (fun i wr => ∃ j : Nat, j ≤ us.length ∧ i = .int .i64 j ∧ Below w.heap.size w wr) (fun i _ => us.length - (intOf i).toNat)
  case atStart => exact ⟨0, Nat.zero_le _, rfl, (by repeat (first | exact Below.refl _ _ | apply Below.drew | apply below_drewN | apply bel_alloc | apply Ext.lift | apply bel_set0 | apply bel_set))⟩
  case round =>
    obtain ⟨j, hj, rfl, hb⟩ := hrel
    by_cases hlt : j < us.length
    · obtain ⟨A', c', hv, _, _, hB⟩ := HU.out.below hb
      injection hv with hv1 hv2 hv3
      subst hv1 hv3
      obtain ⟨b, off, rfl, hbs, hcell⟩ := hB (by omega)
      obtain ⟨u, hu⟩ : ∃ u, us[j]? = some u := ⟨_, List.getElem?_eq_getElem hlt⟩
      obtain ⟨c0, c1, c2⟩ := hcell j u hu
      have hua := hA.at hu
      have Er := E.here hb
      clear hcell hB hu
      obtain ⟨ua, un, ud⟩ := u
      simp only at c0 c1 c2 hua
      cases hm : mayU ua un ud with
      | false =>
        go_wp2_with (first
          | (go_at_call 50; refine (ext_of (cbytes_no _ _ _ _ hua hm)).mono ?_; rintro e w' ⟨rfl, y, rfl⟩)
          | (go_at_call 55; refine (num5_any _ _).mono ?_; rintro e w' ⟨rfl, rfl⟩))
        go_roundw
        case rel => exact ⟨j + 1, by omega, by go_num, Ext.lift y hb⟩
        case measure => simp [intOf]; omega
      | true =>
        obtain ⟨A, N, D, rfl, rfl, rfl, hA1, hN, hD⟩ := mayU_nat hm hua
        have HM : Hid (mayU A N D = true) := Lib.hid hm
        have HOF : Hid (∀ w v, Bs w v (bytesU A N D) → Calls Tryd.prog 51 #[v] w fun r w' => r = .returned (.tuple #[upd A N D, .int .i64 0]) ∧ Below w.heap.size w w') := Lib.hid (fun w v h => by
          have := cof_any _ v w h
          unfold ofRes at this; rw [ofU_bytes A N D hA1 HM.out] at this; exact this)
        have HUN : Hid (∀ w, Env w → Calls Tryd.prog 58 #[.string (str (textU A N D))] w fun r w' => r = .returned (.tuple #[upd A N D, .int .i64 0]) ∧ Below w.heap.size w w') := Lib.hid (fun w E => by
          have := cuntext_any (textU A N D) w (by have := textU_len A N D HM.out; omega) E
          unfold untextRes at this; rw [untextU_text A N D hA1 HM.out] at this; exact this)
        clear hm
        go_upto_region 13 with (first
          | (go_at_call 50; refine (cbytes_ok A N D _ hua hN hD HM.out).mono ?_; rintro e w1 ⟨x, rfl, hown, hb1⟩; obtain ⟨y1, rfl⟩ : ∃ y : Ext _, w1 = y.w := ⟨⟨_, hb1⟩, rfl⟩; have HX := Lib.hid (Bs.own hown); have hc0 := (hb1.cell (show b < _ from hbs)).trans c0; have hc1 := (hb1.cell (show b < _ from hbs)).trans c1; have hc2 := (hb1.cell (show b < _ from hbs)).trans c2; have hs1 := hb1.size; clear hown hb1)
          | (go_at_call 55; refine (num5_any _ _).mono ?_; rintro e w' ⟨rfl, rfl⟩)
          | (go_at_call 51; refine (ext_of (HOF.out _ _ HX.out)).mono ?_; rintro e w' ⟨rfl, y2, rfl⟩; have hs2 := y2.below.size; have hbs2 : b < y2.w.heap.size := (by omega); have hbs1 : b < y1.w.heap.size := (by omega); have E2 := (y2.env (y1.env Er)).alloc (.cells #[.int .u32 A, .int .i64 N, .int .i64 D] 77))
          | (go_at_call 57; refine (ext_of (ctext_ok A N D _ hA1 HM.out E2)).mono ?_; rintro e w' ⟨rfl, y3, rfl⟩; have hs3 := y3.below.size)
          | (go_at_call 58; refine (ext_of (HUN.out _ (y3.env E2))).mono ?_; rintro e w' ⟨rfl, y4, rfl⟩; have hs4 := y4.below.size))
        have hs3' : y2.w.heap.size < y3.w.heap.size := by simp only [World.size_alloc] at hs3; omega
        have hs4' : y2.w.heap.size < y4.w.heap.size := by omega
        have hb4 : Below w.heap.size w (y4.w.alloc (.cells #[.int .u32 A, .int .i64 N, .int .i64 D] 77)) := bel_alloc (Ext.lift y4 (Ext.lift y3 (bel_alloc (Ext.lift y2 (Ext.lift y1 hb)) _))) _
        have hbr : Below wr.heap.size wr (y4.w.alloc (.cells #[.int .u32 A, .int .i64 N, .int .i64 D] 77)) := bel_alloc (Ext.lift y4 (Ext.lift y3 (bel_alloc (Ext.lift y2 y1.below) _))) _
        have hb2 : Below (y2.w.heap.size + 1) (y2.w.alloc (.cells #[.int .u32 A, .int .i64 N, .int .i64 D] 77)) (y4.w.alloc (.cells #[.int .u32 A, .int .i64 N, .int .i64 D] 77)) := by
          have := bel_alloc (Ext.lift y4 y3.below) (.cells #[.int .u32 A, .int .i64 N, .int .i64 D] 77)
          simpa only [World.size_alloc] using this
        have k0 := (hbr.cell (show b < _ from hbs)).trans c0
        have k1 := (hbr.cell (show b < _ from hbs)).trans c1
        have k2 := (hbr.cell (show b < _ from hbs)).trans c2
        have m0 := (hb2.cell (p := ⟨y2.w.heap.size, 0, none⟩) (show y2.w.heap.size < _ by omega)).trans (show _ = some (.int .u32 (A : Int)) by simp)
        have m1 := (hb2.cell (p := ⟨y2.w.heap.size, 1, none⟩) (show y2.w.heap.size < _ by omega)).trans (show _ = some (.int .i64 (N : Int)) by simp)
        have m2 := (hb2.cell (p := ⟨y2.w.heap.size, 2, none⟩) (show y2.w.heap.size < _ by omega)).trans (show _ = some (.int .i64 (D : Int)) by simp)
        have n0 : (y4.w.alloc (.cells #[.int .u32 A, .int .i64 N, .int .i64 D] 77)).cell? ⟨y4.w.heap.size, 0, none⟩ = some (.int .u32 (A : Int)) := by simp
        have n1 : (y4.w.alloc (.cells #[.int .u32 A, .int .i64 N, .int .i64 D] 77)).cell? ⟨y4.w.heap.size, 1, none⟩ = some (.int .i64 (N : Int)) := by simp
        have n2 : (y4.w.alloc (.cells #[.int .u32 A, .int .i64 N, .int .i64 D] 77)).cell? ⟨y4.w.heap.size, 2, none⟩ = some (.int .i64 (D : Int)) := by simp
        have z0 : b < (y4.w.alloc (.cells #[.int .u32 A, .int .i64 N, .int .i64 D] 77)).heap.size := Nat.lt_of_lt_of_le hbs hbr.size
        have z1 : y2.w.heap.size < (y4.w.alloc (.cells #[.int .u32 A, .int .i64 N, .int .i64 D] 77)).heap.size := by simp only [World.size_alloc]; omega
        have z2 : y4.w.heap.size < (y4.w.alloc (.cells #[.int .u32 A, .int .i64 N, .int .i64 D] 77)).heap.size := by simp only [World.size_alloc]; omega
        clear hbr hb2
        generalize (y4.w.alloc (.cells #[.int .u32 A, .int .i64 N, .int .i64 D] 77)) = W5 at *
        generalize y2.w.heap.size = B2 at *
        generalize y4.w.heap.size = B4 at *
        refine wp_region_ext (by kernel_rfl) (by kernel_rfl) ?_
        repeat (go_big_quiet_step (first
          | (go_at_call 55; exact Ext.callq (num5_any _ _))))
        refine wpQuiet_nil ?_
        rintro _ ⟨z3, rfl⟩
        go_wp2
        go_roundw
        case rel => exact ⟨j + 1, by omega, by go_num, Ext.lift z3 hb4⟩
        case measure => simp [intOf]; omega
    · obtain rfl : j = us.length := by omega
      have hfm := far_means d c
      have HFA := Lib.hid (far_any d c)
      generalize farP d c = F at hfm HFA
      have HUr := Lib.hid (HU.out.below hb)
      by_cases he : e1 = 0
      · subst he
        obtain ⟨hma, h32, rfl⟩ := HLe.out rfl
        have HN : Hid (∀ w v, Bs w v (listB us) → Calls Tryd.prog 65 #[v] w fun r w' => ∃ x, r = .returned (.tuple #[x, .int .i64 0]) ∧ Us w' x us ∧ Below w.heap.size w w') := Lib.hid (fun w v h => (cunlist_any v (listB us) w h (by rw [listB_length]; omega)).mono fun e w' ⟨hr, hb⟩ => by
          rcases hr with ⟨us', x, h1, he, ho⟩ | ⟨h1, _⟩
          · rw [unlist_listB hma hA h32] at h1; injection h1 with h1; subst h1
            refine ⟨x, he, ?_, hb⟩
            have := Us.own ho
            rwa [int_nat_map hma hA] at this
          · rw [unlist_listB hma hA h32] at h1; cases h1)
        clear hma
        rcases hfm with hfm | ⟨f1, f2, f3, f4, f5, f6, f7⟩
        all_goals
          go_wp2_with (first
            | (go_at_call 63; refine (HL1.out _ _ HUr.out).mono ?_; rintro e w1 ⟨x, rfl, hx, hb1⟩; obtain ⟨y1, rfl⟩ : ∃ y : Ext _, w1 = y.w := ⟨⟨_, hb1⟩, rfl⟩; have HX := Lib.hid hx; clear hx hb1)
            | (go_at_call 65; refine (HN.out _ _ HX.out).mono ?_; rintro e w3 ⟨x3, rfl, hx, hb1⟩; obtain ⟨y3, rfl⟩ : ∃ y : Ext _, w3 = y.w := ⟨⟨_, hb1⟩, rfl⟩; have HX3 := Lib.hid hx; clear hx hb1; have HS := Lib.hid (ext_of (same5_true _ _ us _ HX3.out ((HUr.out.below y1.below).below y3.below) (by omega))))
            | (go_at_call 55; refine (num5_any _ _).mono ?_; rintro e w' ⟨rfl, rfl⟩)
            | (go_at_call 67; refine HS.out.mono ?_; rintro e w' ⟨rfl, y5, rfl⟩)
            | (go_at_call 60; refine (HFA.out _).mono ?_; rintro e w' ⟨rfl, rfl⟩))
          go_ret
          exact ⟨rfl, Ext.lift y5 (Ext.lift y3 (Ext.lift y1 hb))⟩
      · have he' : (e1 == 0) = false := by simpa using he
        clear he
        rcases hfm with hfm | ⟨f1, f2, f3, f4, f5, f6, f7⟩
        all_goals
          go_wp2_with (first
            | (go_at_call 63; refine (HL1.out _ _ HUr.out).mono ?_; rintro e w1 ⟨x, rfl, hx, hb1⟩; obtain ⟨y1, rfl⟩ : ∃ y : Ext _, w1 = y.w := ⟨⟨_, hb1⟩, rfl⟩)
            | (go_at_call 55; refine (num5_any _ _).mono ?_; rintro e w' ⟨rfl, rfl⟩)
            | (go_at_call 60; refine (HFA.out _).mono ?_; rintro e w' ⟨rfl, rfl⟩))
          go_ret
          exact ⟨rfl, Ext.lift y1 hb⟩
end Go.Proofs.YteafakpipbhioaaDoor
