/- Lists of updates in memory; ctl.List's test. -/
import Derived.Test.YteafakpipbhioaaDoorLCtlFarther
namespace Go.Proofs.YteafakpipbhioaaDoor
open Go.RowKit Pl

abbrev U3 := Int × Int × Int
/-- The slice value v reads as the updates us in world w. -/
def Us (w : World) (v : Value) (us : List U3) : Prop :=
  ∃ (A : Option Addr) (c : Nat), v = .slice A us.length c ∧ us.length ≤ c ∧ (A = none → c = 0) ∧
    (0 < us.length → ∃ b off, A = some ⟨b, off, none⟩ ∧ b < w.heap.size ∧ ∀ j u, us[j]? = some u →
      w.cell? ⟨b, off + j * 3, none⟩ = some (.int .u32 u.1) ∧ w.cell? ⟨b, off + j * 3 + 1, none⟩ = some (.int .i64 u.2.1) ∧ w.cell? ⟨b, off + j * 3 + 2, none⟩ = some (.int .i64 u.2.2))
theorem Us.below {w w' : World} {v : Value} {us : List U3} (h : Us w v us) (hb : Below w.heap.size w w') : Us w' v us := by
  obtain ⟨A, c, rfl, hc, hn, hA⟩ := h
  refine ⟨A, c, rfl, hc, hn, fun hp => ?_⟩
  obtain ⟨b, off, rfl, hlt, hcell⟩ := hA hp
  refine ⟨b, off, rfl, Nat.lt_of_lt_of_le hlt hb.size, fun j u hu => ?_⟩
  obtain ⟨h1, h2, h3⟩ := hcell j u hu
  exact ⟨(hb.cell (show b < _ from hlt)).trans h1, (hb.cell (show b < _ from hlt)).trans h2, (hb.cell (show b < _ from hlt)).trans h3⟩
def mayB (u : U3) : Bool := mayU u.1 u.2.1 u.2.2
def Addrs (us : List U3) : Prop := ∀ u ∈ us, IsAddr u.1
theorem Addrs.at {us : List U3} (h : Addrs us) {j : Nat} {u : U3} (hu : us[j]? = some u) : IsAddr u.1 := h u (List.mem_of_getElem? hu)

set_option maxRecDepth 100000 in
theorem list1_any (a n d : Int) (w : World) (ha : IsAddr a) :
    Calls Tryd.prog 89 #[upd a n d] w fun e w' => e = .returned (.bool (!mayU a n d)) ∧ Below w.heap.size w w' := by
  go_enter Tryd.func89, Tryd.ntmps89
  go_wp2_with (go_at_call 53; refine (ext_of (cmay_any _ _ _ _ (by assumption))).mono ?_; rintro e w' ⟨rfl, y, rfl⟩)
  go_ret
  exact ⟨rfl, (by repeat (first | exact Below.refl _ _ | apply Below.drew | apply below_drewN | apply bel_alloc | apply Ext.lift | apply bel_set0 | apply bel_set))⟩

set_option maxRecDepth 100000 in
set_option maxHeartbeats 1000000 in
theorem idxU_any (v : Value) (us : List U3) (w : World) (h : Us w v us) (hl : us.length ≤ 1000000) (hA : Addrs us) :
    Calls Tryd.prog 104 #[v, .func (.func 89) #[] #[]] w fun e w' => (∃ r : Int, e = .returned (.int .i64 r) ∧ decide (0 ≤ r) = !us.all mayB) ∧ Below w.heap.size w w' := by
  have HU := Lib.hid h
  obtain ⟨A, c, rfl, hc, _, _⟩ := h
  go_enter Tryd.func104, Tryd.ntmps104
  go_wp2
  go_loopw [8] (fun i wr => ∃ j : Nat, j ≤ us.length ∧ i = .int .i64 j ∧ Hid ((us.take j).all mayB = true) ∧ Below w.heap.size w wr) (fun i _ => us.length - (intOf i).toNat)
  case atStart => exact ⟨0, Nat.zero_le _, rfl, Lib.hid rfl, Below.refl _ _⟩
  case round =>
    obtain ⟨j, hj, rfl, HI, hb⟩ := hrel
    by_cases hlt : j < us.length
    · obtain ⟨A', c', hv, _, _, hB⟩ := HU.out.below hb
      injection hv with hv1 hv2 hv3
      subst hv1 hv3
      obtain ⟨b, off, rfl, hbs, hcell⟩ := hB (by omega)
      obtain ⟨u, hu⟩ : ∃ u, us[j]? = some u := ⟨_, List.getElem?_eq_getElem hlt⟩
      obtain ⟨c0, c1, c2⟩ := hcell j u hu
      have hua := hA.at hu
      clear hcell hB
      have HT : Hid ((us.take (j + 1)).all mayB = ((us.take j).all mayB && mayB u)) := Lib.hid (by
        rw [List.take_add_one, hu]; simp)
      have HX : Hid (mayB u = false → us.all mayB = false) := Lib.hid (fun hf => by
        apply Bool.eq_false_iff.2
        intro ht
        rw [List.all_eq_true] at ht
        have := ht u (List.mem_of_getElem? hu)
        rw [hf] at this; cases this)
      obtain ⟨ua, un, ud⟩ := u
      clear hu
      cases hm : mayU ua un ud with
      | true =>
        have HT2 : Hid ((us.take (j + 1)).all mayB = true) := Lib.hid (by rw [HT.out, HI.out]; exact hm)
        go_wp2_with (go_at_call 89; refine (ext_of (list1_any _ _ _ _ (by assumption))).mono ?_; rintro e w' ⟨rfl, y, rfl⟩)
        go_roundw
        case rel => exact ⟨j + 1, by omega, by go_num, HT2, Ext.lift y hb⟩
        case measure => simp [intOf]; omega
      | false =>
        have HZ : Hid (us.all mayB = false) := Lib.hid (HX.out hm)
        go_wp2_with (go_at_call 89; refine (ext_of (list1_any _ _ _ _ (by assumption))).mono ?_; rintro e w' ⟨rfl, y, rfl⟩)
        go_ret
        exact ⟨⟨_, rfl, by rw [HZ.out]; simp⟩, Ext.lift y hb⟩
    · obtain rfl : j = us.length := by omega
      have HZ : Hid (us.all mayB = true) := Lib.hid (by have := HI.out; rwa [List.take_length] at this)
      go_wp2
      go_ret
      exact ⟨⟨_, rfl, by rw [HZ.out]; rfl⟩, hb⟩

set_option maxRecDepth 100000 in
theorem containsU_any (v : Value) (us : List U3) (w : World) (h : Us w v us) (hl : us.length ≤ 1000000) (hA : Addrs us) :
    Calls Tryd.prog 88 #[v, .func (.func 89) #[] #[]] w fun e w' => e = .returned (.bool (!us.all mayB)) ∧ Below w.heap.size w w' := by
  have HI := Lib.hid (idxU_any v us w h hl hA)
  go_enter Tryd.func88, Tryd.ntmps88
  go_wp2_with (go_at_call 104; refine HI.out.mono ?_; rintro e w' ⟨⟨r, rfl, hr⟩, hb⟩; have HR := Lib.hid hr; clear hr)
  go_ret
  exact ⟨by rw [← HR.out]; rfl, hb⟩
end Go.Proofs.YteafakpipbhioaaDoor
