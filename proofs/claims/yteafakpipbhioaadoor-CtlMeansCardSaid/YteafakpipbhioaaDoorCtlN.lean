/- Contract of ref05.List. -/
import Derived.Test.YteafakpipbhioaaDoorCtlM
namespace Go.Proofs.YteafakpipbhioaaDoor
open Go.RowKit Pl

def RListRes (us : List U3) (base : Nat) (e : Ending) (w' : World) : Prop :=
  (us.all mayB = false ∧ e = .returned (.tuple #[.slice none 0 0, .int .i64 2])) ∨ (us.all mayB = true ∧ 32 < us.length ∧ e = .returned (.tuple #[.slice none 0 0, .int .i64 3])) ∨
  (us.all mayB = true ∧ us.length ≤ 32 ∧ ∃ v', e = .returned (.tuple #[v', .int .i64 0]) ∧ w'.ownsRow base 5 1 v' (1 + 6 * us.length) (cellsB (listB us)))

set_option maxRecDepth 100000 in
set_option maxHeartbeats 1000000 in
theorem rlist_any (v : Value) (us : List U3) (w : World) (h : Us w v us) (hl : us.length ≤ 1000000) (hA : Addrs us) :
    Calls Tryd.prog 64 #[v] w fun e w' => RListRes us w.heap.size e w' ∧ Below w.heap.size w w' := by
  have HU := Lib.hid h
  obtain ⟨A, c, rfl, hc, _, _⟩ := h
  go_enter Tryd.func64, Tryd.ntmps64
  go_wp2
  go_loopw [4] (fun i wr => ∃ j : Nat, j ≤ us.length ∧ i = .int .i64 j ∧ Hid ((us.take j).all mayB = true) ∧ Below w.heap.size w wr) (fun i _ => us.length - (intOf i).toNat)
  case atStart => exact ⟨0, Nat.zero_le _, rfl, Lib.hid rfl, Below.refl _ _⟩
  case round =>
    obtain ⟨j, hj, rfl, HI, hb⟩ := hrel
    by_cases hlt : j < us.length
    · obtain ⟨A', c', hv, _, _, hB⟩ := HU.out.below hb
      injection hv with hv1 hv2 hv3
      subst hv1 hv3
      obtain ⟨b, off, rfl, hbs, hcell⟩ := hB (by omega)
      obtain ⟨u, hu⟩ : ∃ u, us[j]? = some u := ⟨_, List.getElem?_eq_getElem hlt⟩
      obtain ⟨c0, c1, c2⟩ := hcell j u hu
      have hua := hA.at hu
      clear hcell hB
      have HT : Hid ((us.take (j + 1)).all mayB = ((us.take j).all mayB && mayB u)) := Lib.hid (by
        rw [List.take_add_one, hu]; simp)
      have HX : Hid (mayB u = false → us.all mayB = false) := Lib.hid (fun hf => by
        apply Bool.eq_false_iff.2
        intro ht
        rw [List.all_eq_true] at ht
        have := ht u (List.mem_of_getElem? hu)
        rw [hf] at this; cases this)
      obtain ⟨ua, un, ud⟩ := u
      clear hu
      cases hm : mayU ua un ud with
      | true =>
        have HT2 : Hid ((us.take (j + 1)).all mayB = true) := Lib.hid (by rw [HT.out, HI.out]; exact hm)
        go_wp2_with (go_at_call 54; refine (ext_of (rmayU_any _ _ _ _ (by assumption))).mono ?_; rintro e w' ⟨rfl, y, rfl⟩)
        go_roundw
        case rel => exact ⟨j + 1, by omega, by go_num, HT2, Ext.lift y hb⟩
        case measure => simp [intOf]; omega
      | false =>
        have HZ : Hid (us.all mayB = false) := Lib.hid (HX.out hm)
        go_wp2_with (go_at_call 54; refine (ext_of (rmayU_any _ _ _ _ (by assumption))).mono ?_; rintro e w' ⟨rfl, y, rfl⟩)
        go_ret2
        exact ⟨.inl ⟨HZ.out, rfl⟩, Ext.lift y hb⟩
    · obtain rfl : j = us.length := by omega
      have HM : Hid (us.all mayB = true) := Lib.hid (by have := HI.out; rwa [List.take_length] at this)
      clear HI
      by_cases h32 : 32 < us.length
      · have d : 32 < (us.length : Int) := by omega
        go_wp2
        go_ret2
        exact ⟨.inr (.inl ⟨HM.out, h32, rfl⟩), hb⟩
      · have d : decide (32 < (us.length : Int)) = false := by simp; omega
        have hys := hb.size
        have HO0 : Hid ((wr.alloc (.cells #[.int .u8 (us.length : Int)] 5)).ownsRow w.heap.size 5 1 (.slice (some ⟨wr.heap.size, 0, none⟩) 1 1) 1 (cellsB (preB us 0))) := Lib.hid (by
          have := World.ownsRow_lit (base := w.heap.size) (e := 5) (size := 1) wr #[.int .u8 (us.length : Int)] 1 hys (by unfold maxLen; omega) (by simp)
          have e : (#[Value.int .u8 (us.length : Int)] : Array Value).toList = cellsB (preB us 0) := by
            simp [preB, cellsB]; omega
          rw [e] at this; exact this)
        go_wp2
        go_loopw [5, 6] (fun o i wr => ∃ j : Nat, j ≤ us.length ∧ i = .int .i64 j ∧ wr.ownsRow w.heap.size 5 1 o (1 + 6 * j) (cellsB (preB us j)) ∧ Below w.heap.size w wr) (fun _ i _ => us.length - (intOf i).toNat)
        case atStart => exact ⟨0, Nat.zero_le _, rfl, HO0.out, bel_alloc hb _⟩
        case round =>
          obtain ⟨j, hj, rfl, hown, hb⟩ := hrel
          by_cases hlt : j < us.length
          · obtain ⟨A', c', hv, _, _, hB⟩ := HU.out.below hb
            injection hv with hv1 hv2 hv3
            subst hv1 hv3
            obtain ⟨b, off, rfl, hbs, hcell⟩ := hB (by omega)
            obtain ⟨u, hu⟩ : ∃ u, us[j]? = some u := ⟨_, List.getElem?_eq_getElem hlt⟩
            obtain ⟨c0, c1, c2⟩ := hcell j u hu
            have hua := hA.at hu
            have HT := Lib.hid (preB_next hu)
            have hmu := all_at HM.out hu
            clear hcell hB hu
            obtain ⟨ua, un, ud⟩ := u
            obtain ⟨A, N, D, rfl, rfl, rfl, hA1, hN, hD⟩ := mayU_nat hmu hua
            clear hmu
            have hbz := hb.size
            go_wp2_with (first
              | (go_at_call 56; refine (rbytes A N D _ hA1 (by omega) hD).mono ?_; rintro e w1 ⟨x, rfl, HX, hb1⟩; have hown1 := own_below hown hb1; have hbs1 := hb1.size)
              | (at_builtin; refine wpList_catB rfl _ _ rfl w.heap.size _ _ _ rfl hown1 _ _ rfl HX (by rw [bytesU_length]; decide) (by rw [bytesU_length]; omega) (by omega) ?_))
            intro v' w2 hown2 hg
            rw [bytesU_length, show 1 + 6 * j + 6 = 1 + 6 * (j + 1) by omega, show preB us j ++ bytesU A N D = preB us (j + 1) from HT.out.symm] at hown2
            have HR := Lib.hid hown2
            have hb2 : Below w.heap.size w w1 := hb.trans (hb1.mono hbz)
            have hb3 := Lib.hid (hb2.grown hg hb2.size fun g hg => (hown1.lt g hg).1)
            clear hown hown1 hown2 hg hb1 hb2 HX
            go_wp2
            go_roundw
            case rel => exact ⟨j + 1, by omega, by go_num, HR.out, hb3.out⟩
            case measure => simp [intOf]; omega
          · obtain rfl : j = us.length := by omega
            rw [preB_all] at hown
            go_wp2
            go_ret2
            exact ⟨.inr (.inr ⟨HM.out, by omega, _, rfl, hown⟩), hb⟩
end Go.Proofs.YteafakpipbhioaaDoor
