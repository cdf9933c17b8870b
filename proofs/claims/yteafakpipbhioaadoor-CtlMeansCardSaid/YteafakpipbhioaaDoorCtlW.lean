/- Contract of ref05.Unlist; two lists that are the same. -/
import Derived.Test.YteafakpipbhioaaDoorCtlV
namespace Go.Proofs.YteafakpipbhioaaDoor
open Go.RowKit Pl

def RUnlRes (l : List UInt8) (base : Nat) (e : Ending) (w' : World) : Prop :=
  (∃ us v, unlistU l = some us ∧ e = .returned (.tuple #[v, .bool true]) ∧ w'.ownsRow base 77 3 v us.length (cells3 us)) ∨
  (unlistU l = none ∧ e = .returned (.tuple #[.slice none 0 0, .bool false]))

set_option maxRecDepth 100000 in
set_option maxHeartbeats 1000000 in
theorem runlist_any (v : Value) (l : List UInt8) (w : World) (h : Bs w v l) (hl : l.length ≤ 1000000) :
    Calls Tryd.prog 66 #[v] w fun e w' => RUnlRes l w.heap.size e w' ∧ Below w.heap.size w w' := by
  obtain ⟨A, c, rfl, hc, _, hA⟩ := h
  by_cases h1 : 1 ≤ l.length
  · obtain ⟨b, off, rfl, hbs, hcell⟩ := hA (by omega)
    have d1 : ((l.length : Int) == 0) = false := beq_eq_false_iff_ne.2 (by omega)
    obtain ⟨k, hk⟩ : ∃ k, (l.headD 0).toNat = k := ⟨_, rfl⟩
    have c0 : w.cell? ⟨b, off, none⟩ = some (.int .u8 (k : Int)) := by
      have := hcell 0 (.int .u8 (k : Int)) (by
        cases l with
        | nil => simp at h1
        | cons x l => simp [cellsB] at hk ⊢; omega)
      simpa using this
    have hk256 : k < 256 := by have := (l.headD 0).toNat_lt; omega
    have hb0 : (0 : Int) < (l.length : Int) := by omega
    by_cases h2 : k ≤ 32
    · have d2 : decide (32 < (k : Int)) = false := by simp; omega
      by_cases h3 : l.length = 1 + 6 * k
      · have d3 : ((l.length : Int) - 1 != 6 * (k : Int)) = false := by simp; omega
        have HU : Hid (unlistU l = unl l k) := Lib.hid (by rw [unlHead_yes h1 (by omega) (by rw [hk]; exact h3), hk])
        have HC := Lib.hid hcell
        have h3' := h3.symm
        clear hA hk hcell h3
        go_enter Tryd.func66, Tryd.ntmps66
        go_wp2
        go_loopw [4, 5] (fun o i wr => ∃ (j : Nat) (acc : List N3), j ≤ k ∧ i = .int .i64 (1 + 6 * (j : Int)) ∧ Hid (unl l j = some acc) ∧ acc.length = j ∧ wr.ownsRow w.heap.size 77 3 o acc.length (cells3 acc) ∧ Below w.heap.size w wr) (fun _ i _ => 1 + 6 * k - (intOf i).toNat)
        case atStart => exact ⟨0, [], by omega, rfl, Lib.hid rfl, rfl, World.ownsRow_nil _ _ _ _, Below.refl _ _⟩
        case round =>
          obtain ⟨j, acc, hj, rfl, HI, hacc, hown, hb⟩ := hrel
          have hbz := hb.size
          by_cases hlt : j < k
          · have HK := Lib.hid (Bs.chunk (j := j) (by omega) (c - (1 + 6 * j)) (by omega) (Nat.lt_of_lt_of_le hbs hb.size) (fun i u hu => (hb.cell (show b < _ from hbs)).trans (HC.out i u hu)))
            have hbnd : (1 : Int) + 6 * (j : Int) + 6 ≤ (c : Int) := by omega
            have hbnd2 : (1 : Int) + 6 * (j : Int) < (l.length : Int) := by omega
            cases hu : ofU (Go.Proofs.YteafakpipbhioaaDoor.chunk l j) with
            | none =>
              have HZ : Hid (unlistU l = none) := Lib.hid (by rw [HU.out, unl_stop hu hlt])
              have HOF : Hid (Calls Tryd.prog 52 #[.slice (some ⟨b, off + (1 + 6 * j), none⟩) 6 (c - (1 + 6 * j))] wr fun e w' => e = .returned (.tuple #[upd 0 0 0, .bool false]) ∧ Below wr.heap.size wr w') := Lib.hid (by
                have := rof_any _ _ wr HK.out
                unfold rofRes at this; rw [hu] at this; exact this)
              clear hu HK HI
              go_wp2_with (go_at_call 52; refine (ext_of HOF.out).mono ?_; rintro e w' ⟨rfl, y, rfl⟩)
              go_ret2
              exact ⟨.inr ⟨HZ.out, rfl⟩, bel_alloc (Ext.lift y hb) _⟩
            | some u =>
              obtain ⟨ua, un, ud⟩ := u
              have HN := Lib.hid (unl_next HI.out hu)
              have HOF : Hid (Calls Tryd.prog 52 #[.slice (some ⟨b, off + (1 + 6 * j), none⟩) 6 (c - (1 + 6 * j))] wr fun e w' => e = .returned (.tuple #[upd ua un ud, .bool true]) ∧ Below wr.heap.size wr w') := Lib.hid (by
                have := rof_any _ _ wr HK.out
                unfold rofRes at this; rw [hu] at this; exact this)
              clear hu HK HI
              go_wp2_with (first
                | (go_at_call 52; refine (ext_of HOF.out).mono ?_; rintro e w' ⟨rfl, y, rfl⟩; have hys := y.below.size; have hown1 := (own_below hown y.below).alloc (.cells #[.int .u32 (ua : Int), .int .i64 (un : Int), .int .i64 (ud : Int)] 77))
                | (at_builtin; refine wpList_push3 rfl (.tmp 46) (.tmp 48) rfl w.heap.size u4 acc (ua, un, ud) rfl hown1 rfl (World.size_alloc _ _) (by omega) (by simp only [World.size_alloc]; omega) ?_))
              intro v' w2 hown2 hg
              have HR := Lib.hid hown2
              have hb2 : Below w.heap.size w (y.w.alloc (.cells #[.int .u32 (ua : Int), .int .i64 (un : Int), .int .i64 (ud : Int)] 77)) := bel_alloc (Ext.lift y hb) _
              have hb3 := Lib.hid (hb2.grown hg hb2.size fun g hg => (hown1.lt g hg).1)
              clear hown hown1 hown2 hg hb2
              go_wp2
              go_roundw
              case rel => exact ⟨j + 1, acc ++ [(ua, un, ud)], by omega, by go_num, HN, by rw [List.length_append, hacc]; rfl, by first | exact HR.out | (rw [List.length_append, hacc]; exact HR.out), hb3.out⟩
              case measure => simp [intOf]; omega
          · obtain rfl : j = k := by omega
            have HZ : Hid (unlistU l = some acc) := Lib.hid (by rw [HU.out, HI.out])
            go_wp2
            go_ret2
            exact ⟨.inl ⟨acc, _, HZ.out, rfl, hown⟩, hb⟩
      · have HZ : Hid (unlistU l = none) := Lib.hid (unlHead_no3 (by rw [hk]; exact h3))
        have d3 : ((l.length : Int) - 1 != 6 * (k : Int)) = true := by simp; omega
        clear hA hk hcell
        go_enter Tryd.func66, Tryd.ntmps66
        go_wp2
        go_ret2
        exact ⟨.inr ⟨HZ.out, rfl⟩, Below.refl _ _⟩
    · have HZ : Hid (unlistU l = none) := Lib.hid (unlHead_no2 (by rw [hk]; exact h2))
      have d2 : decide (32 < (k : Int)) = true := by simp; omega
      clear hA hk hcell
      go_enter Tryd.func66, Tryd.ntmps66
      go_wp2
      go_ret2
      exact ⟨.inr ⟨HZ.out, rfl⟩, Below.refl _ _⟩
  · have HZ : Hid (unlistU l = none) := Lib.hid (unlHead_no1 h1)
    have d1 : ((l.length : Int) == 0) = true := beq_iff_eq.2 (by omega)
    clear hA
    go_enter Tryd.func66, Tryd.ntmps66
    go_wp2
    go_ret2
    exact ⟨.inr ⟨HZ.out, rfl⟩, Below.refl _ _⟩

set_option maxRecDepth 100000 in
set_option maxHeartbeats 1000000 in
theorem same5_true (v v' : Value) (us : List U3) (w : World) (h : Us w v us) (h' : Us w v' us) (hl : us.length ≤ 1000000) :
    Calls Tryd.prog 67 #[v, v'] w fun e w' => e = .returned (.bool true) ∧ Below w.heap.size w w' := by
  have HU := Lib.hid h
  have HV := Lib.hid h'
  obtain ⟨A, c, rfl, hc, _, _⟩ := h
  obtain ⟨A', c', rfl, hc', _, _⟩ := h'
  go_enter Tryd.func67, Tryd.ntmps67
  go_wp2
  go_loopw [5] (fun i wr => ∃ j : Nat, j ≤ us.length ∧ i = .int .i64 j ∧ Below w.heap.size w wr) (fun i _ => us.length - (intOf i).toNat)
  case atStart => exact ⟨0, Nat.zero_le _, rfl, Below.refl _ _⟩
  case round =>
    obtain ⟨j, hj, rfl, hb⟩ := hrel
    by_cases hlt : j < us.length
    · obtain ⟨A1, c1, hv, _, _, hB⟩ := HU.out.below hb
      injection hv with hv1 hv2 hv3
      subst hv1 hv3
      obtain ⟨b, off, rfl, hbs, hcell⟩ := hB (by omega)
      obtain ⟨A2, c2, hv, _, _, hB'⟩ := HV.out.below hb
      injection hv with hv1 hv2 hv3
      subst hv1 hv3
      obtain ⟨b', off', rfl, hbs', hcell'⟩ := hB' (by omega)
      obtain ⟨u, hu⟩ : ∃ u, us[j]? = some u := ⟨_, List.getElem?_eq_getElem hlt⟩
      obtain ⟨p0, p1, p2⟩ := hcell j u hu
      obtain ⟨q0, q1, q2⟩ := hcell' j u hu
      clear hcell hB hcell' hB' hu
      obtain ⟨ua, un, ud⟩ := u
      simp only at p0 p1 p2 q0 q1 q2
      go_wp2
      go_region
      go_wp2
      go_roundw
      case rel => exact ⟨j + 1, by omega, by go_num, by repeat (first | exact hb | apply Below.drew | apply below_drewN)⟩
      case measure => simp [intOf]; omega
    · obtain rfl : j = us.length := by omega
      go_wp2
      go_ret
      exact ⟨rfl, hb⟩
end Go.Proofs.YteafakpipbhioaaDoor
