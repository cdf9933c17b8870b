/- Opening the arguments of this seat's laws: lists of bytes, sizes. -/
import Derived.Test.YteafakpipbhioaaDoorOpen
import Derived.Test.YteafakpipbhioaaDoorPartsC
import Derived.Deep.Slices
namespace Go.Proofs.YteafakpipbhioaaDoor
open Go.ChangeShapes Go.WideShapes Go.ChangeAt Go.RowKit

theorem choose_lst {α : Type} {p : Nat → α → Prop} : ∀ n, (∀ i, i < n → ∃ x, p i x) → ∃ l : List α, l.length = n ∧ ∀ i x, l[i]? = some x → p i x
  | 0, _ => ⟨[], rfl, fun i x h => by simp at h⟩
  | n + 1, h => by
    obtain ⟨l, hl, hp⟩ := choose_lst n fun i hi => h i (by omega)
    obtain ⟨x, hx⟩ := h n (by omega)
    refine ⟨l ++ [x], by simp [hl], fun i y hy => ?_⟩
    by_cases hi : i < n
    · rw [List.getElem?_append_left (by omega)] at hy
      exact hp i y hy
    · have hlt := (List.getElem?_eq_some_iff.1 hy).1
      simp [hl] at hlt
      obtain rfl : i = n := by omega
      rw [List.getElem?_append_right (by omega)] at hy
      simp [hl] at hy
      subst hy; exact hx
section
variable {H : Type} {enc : TypeId × Value → H} {W : World} {base b0 : Nat} {sp : Nat → Bool} {held : Bool} {r : Reach}
set_option maxRecDepth 100000 in
theorem trod_bytes {fuel : Nat} {V : Value} {x : DataW H × List MemPlace} (hf : DataW.trod enc Tryd.prog W base sp held fuel 23 [V] = some x) : ∃ l : List UInt8, Bs W V l := by
  rcases open_ints Tryd.underlying23 Tryd.underlying5 (by kernel_rfl) hf with ⟨hcs, _⟩ | ⟨x, len, cap, zs, hcs, _, hl, hm, hz, _, hcell, hwz⟩
  · simp at hcs
    subst hcs
    exact ⟨[], Bs.nil W⟩
  · simp at hcs
    subst hcs
    have hzl : len ≤ zs.length := by rw [hz]; split <;> omega
    obtain ⟨L, hL, hLe⟩ : ∃ L : List UInt8, L.length = len ∧ ∀ j, j < len → (zs.getD j 0) = ((L.getD j 0).toNat : Int) := by
      refine ⟨(zs.take len).map fun z => UInt8.ofNat z.toNat, by simp; omega, fun j hj => ?_⟩
      have hjz : j < zs.length := by omega
      have hw := hwz zs[j] (List.getElem_mem hjz)
      simp [Lit.wf, IntKind.min, IntKind.max, IntKind.signed, IntKind.bits] at hw
      simp only [List.getD_eq_getElem?_getD, List.getElem?_map, List.getElem?_take, if_pos hj, List.getElem?_eq_getElem hjz, Option.map_some, Option.getD_some]
      rw [UInt8.toNat_ofNat']
      omega
    refine ⟨L, some x, cap, by rw [hL], by rw [hL]; exact hl, (fun h => by cases h), fun hp => ?_⟩
    obtain ⟨b, off, spot⟩ := x
    have hc0 := hcell 0 (by omega)
    have hcB := hc0
    rw [show ((⟨b, off, spot⟩ : Addr).add 0) = ⟨b, off, spot⟩ from by simp [Addr.add]] at hcB
    have hspot : spot = none := by simpa [Addr.add] using World.cell?_spot hc0
    subst hspot
    refine ⟨b, off, rfl, ?_, fun j u hu => ?_⟩
    · exact block_lt_of_cell hcB
    · have hj : j < len := by have := (List.getElem?_eq_some_iff.1 hu).1; rw [cellsB_length] at this; omega
      have hcj := hcell j (by omega)
      rw [hLe j hj] at hcj
      have hu' : u = .int .u8 ((L.getD j 0).toNat : Int) := by
        have hjl : j < L.length := by omega
        simp [cellsB, List.getElem?_eq_getElem hjl] at hu
        rw [← hu]; simp [List.getD_eq_getElem?_getD, List.getElem?_eq_getElem hjl]
      rw [hu', ← hcj]
      congr 1
      unfold Addr.add
      by_cases h0 : j = 0 <;> simp [h0]
set_option maxRecDepth 100000 in
theorem open_lists {v : Value} {d : DataW H} {p : List MemPlace} (hv : Value.okWide Tryd.prog W r b0 64 v) (h : DataW.Trod enc Tryd.prog W base sp held 64 v d p) :
    ∃ ls : List (List UInt8), Ls W v ls := by
  obtain ⟨A, len, cap, rfl⟩ := okWide_slice Tryd.underlying64 hv
  obtain ⟨fuel, hf⟩ := h
  rcases Go.Deep.open_slice1 Tryd.underlying64 (by kernel_rfl) hf with ⟨hcs, _⟩ | ⟨x, l, c, m, n, V, D, Pl, hcs, _, hl, hm, hmm, _, hx⟩
  · simp [Value.cells] at hcs
    obtain ⟨rfl, rfl, rfl⟩ := hcs
    exact ⟨[], none, 0, rfl, Nat.le_refl _, fun _ => rfl, fun h => absurd h (by simp)⟩
  · simp [Value.cells] at hcs
    obtain ⟨rfl, rfl, rfl⟩ := hcs
    have hlm : len ≤ m := by rw [hmm]; split <;> omega
    obtain ⟨ls, hls, hp⟩ := choose_lst (p := fun i l => Bs W (V i) l) len fun i hi => trod_bytes (hx i (by omega)).2
    refine ⟨ls, some x, cap, by rw [hls], by rw [hls]; exact hl, (fun h => by cases h), fun hpos => ?_⟩
    obtain ⟨b, off, spot⟩ := x
    have hc0 := (hx 0 (by omega)).1
    have hcB := hc0
    rw [show ((⟨b, off, spot⟩ : Addr).add 0) = ⟨b, off, spot⟩ from by simp [Addr.add]] at hcB
    have hspot : spot = none := by simpa [Addr.add] using World.cell?_spot hc0
    subst hspot
    refine ⟨b, off, rfl, block_lt_of_cell hcB, fun j l hj => ⟨V j, ?_, hp j l hj⟩⟩
    have hjl : j < len := by have := (List.getElem?_eq_some_iff.1 hj).1; omega
    have := (hx j (by omega)).1
    rwa [show ((⟨b, off, none⟩ : Addr).add j) = ⟨b, off + j, none⟩ from by unfold Addr.add; by_cases hj : j = 0 <;> simp [hj]] at this
set_option maxRecDepth 100000 in
theorem open_ints64 {v : Value} {d : DataW H} {p : List MemPlace} (hv : Value.okWide Tryd.prog W r b0 65 v) (h : DataW.Trod enc Tryd.prog W base sp held 65 v d p) :
    ∃ zs : List Int, Ns W v zs := by
  obtain ⟨A, len, cap, rfl⟩ := okWide_slice Tryd.underlying65 hv
  obtain ⟨fuel, hf⟩ := h
  rcases open_ints Tryd.underlying65 Tryd.underlying3 (by kernel_rfl) hf with ⟨hcs, _⟩ | ⟨x, l, c, zs, hcs, _, hl, hm, hz, _, hcell, hwz⟩
  · simp [Value.cells] at hcs
    obtain ⟨rfl, rfl, rfl⟩ := hcs
    exact ⟨[], none, 0, rfl, Nat.le_refl _, fun _ => rfl, fun h => absurd h (by simp)⟩
  · simp [Value.cells] at hcs
    obtain ⟨rfl, rfl, rfl⟩ := hcs
    have hzl : len ≤ zs.length := by rw [hz]; split <;> omega
    have hlen : (zs.take len).length = len := by simp; omega
    refine ⟨zs.take len, some x, cap, by rw [hlen], by rw [hlen]; exact hl, (fun h => by cases h), fun hp => ?_⟩
    rw [hlen] at hp
    obtain ⟨b, off, spot⟩ := x
    have hc0 := hcell 0 (by omega)
    have hcB := hc0
    rw [show ((⟨b, off, spot⟩ : Addr).add 0) = ⟨b, off, spot⟩ from by simp [Addr.add]] at hcB
    have hspot : spot = none := by simpa [Addr.add] using World.cell?_spot hc0
    subst hspot
    refine ⟨b, off, rfl, block_lt_of_cell hcB, fun j z hj => ?_⟩
    have hjl : j < len := by have := (List.getElem?_eq_some_iff.1 hj).1; omega
    rw [List.getElem?_take, if_pos hjl] at hj
    have := hcell j (by omega)
    rw [show ((⟨b, off, none⟩ : Addr).add j) = ⟨b, off + j, none⟩ from by unfold Addr.add; by_cases hj : j = 0 <;> simp [hj], List.getD_eq_getElem?_getD, hj] at this
    exact this
end
end Go.Proofs.YteafakpipbhioaaDoor
