/- ref01.SameLists of two that are the same; lists joined and cut, plainly. -/
import Derived.Test.YteafakpipbhioaaDoorPartsE
namespace Go.Proofs.YteafakpipbhioaaDoor
open Go.RowKit Pl

set_option maxRecDepth 100000 in
set_option maxHeartbeats 1000000 in
theorem sameL_true (v v' : Value) (ps : List (List UInt8)) (w : World) (h : Ls w v ps) (h' : Ls w v' ps) (hl : ps.length ≤ 1000000) :
    Calls Tryd.prog 48 #[v, v'] w fun e w' => e = .returned (.bool true) ∧ Below w.heap.size w w' := by
  have HU := Lib.hid h
  have HV := Lib.hid h'
  obtain ⟨A, c, rfl, hc, _, _⟩ := h
  obtain ⟨A', c', rfl, hc', _, _⟩ := h'
  go_enter Tryd.func48, Tryd.ntmps48
  go_wp2
  go_loopw [5] (fun i wr => ∃ j : Nat, j ≤ ps.length ∧ i = .int .i64 j ∧ Below w.heap.size w wr) (fun i _ => ps.length - (intOf i).toNat)
  case atStart => exact ⟨0, Nat.zero_le _, rfl, Below.refl _ _⟩
  case round =>
    obtain ⟨j, hj, rfl, hb⟩ := hrel
    by_cases hlt : j < ps.length
    · obtain ⟨A1, c1, hv, _, _, hB⟩ := HU.out.below hb
      injection hv with hv1 hv2 hv3
      subst hv1 hv3
      obtain ⟨b, off, rfl, hbs, hcell⟩ := hB (by omega)
      obtain ⟨A2, c2, hv, _, _, hB'⟩ := HV.out.below hb
      injection hv with hv1 hv2 hv3
      subst hv1 hv3
      obtain ⟨b', off', rfl, hbs', hcell'⟩ := hB' (by omega)
      obtain ⟨p, hp⟩ : ∃ p, ps[j]? = some p := ⟨_, List.getElem?_eq_getElem hlt⟩
      obtain ⟨x, hx, hxb⟩ := hcell j p hp
      obtain ⟨y, hy, hyb⟩ := hcell' j p hp
      have cv1 := hxb.drew.conv
      have cv2 := hyb.drew.conv
      obtain ⟨X1, X2, rfl, _⟩ := hxb
      obtain ⟨Y1, Y2, rfl, _⟩ := hyb
      clear hcell hB hcell' hB' hp hv2
      go_wp2
      go_region
      go_wp2
      go_roundw
      case rel => exact ⟨j + 1, by omega, by go_num, by repeat (first | exact hb | apply Below.drew | apply below_drewN)⟩
      case measure => simp [intOf]; omega
    · obtain rfl : j = ps.length := by omega
      go_wp2
      go_ret
      exact ⟨rfl, hb⟩

/-- The sizes of lists. -/
def lens (ls : List (List UInt8)) : List Nat := ls.map List.length
theorem lens_sum (ls : List (List UInt8)) : (lens ls).sum = total ls := by
  induction ls with
  | nil => rfl
  | cons l ls ih => simp only [lens, List.map_cons, List.sum_cons, total]; rw [← ih]; rfl
theorem drop_flat (ls : List (List UInt8)) (k : Nat) : ls.flatten.drop ((lens ls).take k).sum = (ls.drop k).flatten := by
  induction ls generalizing k with
  | nil => simp [lens]
  | cons l ls ih =>
    cases k with
    | zero => simp
    | succ k =>
      simp only [lens, List.map_cons, List.take_succ_cons, List.sum_cons, List.flatten_cons, List.drop_succ_cons]
      rw [List.drop_append, show l.length + (List.take k (List.map List.length ls)).sum - l.length = ((lens ls).take k).sum by unfold lens; omega, ih k, List.drop_eq_nil_of_le (by omega)]
      rfl
/-- What lists are joined to is cut, by their sizes, into them. -/
theorem parts_flat (ls : List (List UInt8)) : parts ls.flatten (lens ls) = ls := by
  apply List.ext_getElem?
  intro k
  cases h : (parts ls.flatten (lens ls))[k]? with
  | none =>
    have := List.getElem?_eq_none_iff.1 h
    rw [parts_length] at this
    rw [List.getElem?_eq_none_iff.2]; simpa [lens] using this
  | some p =>
    obtain ⟨n, hn, rfl⟩ := parts_at h
    have hk : k < ls.length := by have := (List.getElem?_eq_some_iff.1 hn).1; simpa [lens] using this
    rw [drop_flat, List.drop_eq_getElem_cons hk, List.flatten_cons]
    have : n = ls[k].length := by
      have e : (lens ls)[k]? = some ls[k].length := by simp [lens, hk]
      rw [e] at hn; injection hn with hn; exact hn.symm
    subst this
    rw [List.take_left, List.getElem?_eq_getElem hk]
end Go.Proofs.YteafakpipbhioaaDoor
