/- Opening the arguments of this seat's laws. -/
import Derived.Test.YtfbangojgjcbcaaGreatDoorFrame
namespace Go.Proofs.YtfbangojgjcbcaaGreatDoor
open Go.ChangeShapes Go.WideShapes Go.ChangeAt Go.RowKit

theorem isAddr_of_wf {a : Int} (h : (Lit.int .u32 a).wf = true) : 0 ≤ a ∧ a < 4294967296 := by
  simp [Lit.wf, IntKind.min, IntKind.max, IntKind.signed, IntKind.bits] at h
  exact ⟨by omega, by omega⟩
section
variable {H : Type} {enc : TypeId × Value → H} {W : World} {base b0 : Nat} {sp : Nat → Bool} {held : Bool} {r : Reach}
set_option maxRecDepth 100000 in
theorem open_addr {v : Value} {d : DataW H} {p : List MemPlace} (hv : Value.okWide Tryz.prog W r b0 24 v) (h : DataW.Trod enc Tryz.prog W base sp held 24 v d p) :
    ∃ a, v = .int .u32 a ∧ (0 ≤ a ∧ a < 4294967296) := by
  obtain ⟨a, rfl, _, _, wa⟩ := open_int Tryz.underlying24 hv h
  exact ⟨a, rfl, isAddr_of_wf wa⟩
set_option maxRecDepth 100000 in
theorem open_prefix {v : Value} {d : DataW H} {p : List MemPlace} (hv : Value.okWide Tryz.prog W r b0 86 v) (h : DataW.Trod enc Tryz.prog W base sp held 86 v d p) :
    ∃ a n, v = .agg #[.int .u32 a, .int .i64 n] ∧ (0 ≤ a ∧ a < 4294967296) := by
  obtain ⟨c0, c1, y0, y1, m, rfl, rfl, rfl, hy0, hy1⟩ := Go.Joins.open_agg2 Tryz.underlying86 (by kernel_rfl) (by kernel_rfl) hv h
  obtain ⟨a, e0, _, wa⟩ := DataW.trod_int Tryz.underlying24 hy0
  obtain ⟨n, e1, _, _⟩ := DataW.trod_int Tryz.underlying3 hy1
  simp at e0 e1
  subst e0 e1
  exact ⟨a, n, rfl, isAddr_of_wf wa⟩
set_option maxRecDepth 100000 in
theorem open_u64 {v : Value} {d : DataW H} {p : List MemPlace} (hv : Value.okWide Tryz.prog W r b0 169 v) (h : DataW.Trod enc Tryz.prog W base sp held 169 v d p) :
    ∃ a, v = .int .u64 a ∧ IsU64 a := by
  obtain ⟨a, rfl, _, _, wa⟩ := open_int Tryz.underlying169 hv h
  refine ⟨a, rfl, ?_⟩
  simp [Lit.wf, IntKind.min, IntKind.max, IntKind.signed, IntKind.bits] at wa
  exact ⟨by omega, by omega⟩
set_option maxRecDepth 100000 in
theorem open_i64 {v : Value} {d : DataW H} {p : List MemPlace} (hv : Value.okWide Tryz.prog W r b0 3 v) (h : DataW.Trod enc Tryz.prog W base sp held 3 v d p) :
    ∃ a, v = .int .i64 a := by
  obtain ⟨a, rfl, _, _, _⟩ := open_int Tryz.underlying3 hv h
  exact ⟨a, rfl⟩
set_option maxRecDepth 100000 in
theorem open_byte {v : Value} {d : DataW H} {p : List MemPlace} (hv : Value.okWide Tryz.prog W r b0 5 v) (h : DataW.Trod enc Tryz.prog W base sp held 5 v d p) :
    ∃ a : UInt8, v = .int .u8 (a.toNat : Int) := by
  obtain ⟨a, rfl, _, _, wa⟩ := open_int Tryz.underlying5 hv h
  simp [Lit.wf, IntKind.min, IntKind.max, IntKind.signed, IntKind.bits] at wa
  refine ⟨UInt8.ofNat a.toNat, ?_⟩
  rw [UInt8.toNat_ofNat']
  congr 1
  omega
set_option maxRecDepth 100000 in
theorem open_str {v : Value} {d : DataW H} {p : List MemPlace} (hv : Value.okWide Tryz.prog W r b0 9 v) (h : DataW.Trod enc Tryz.prog W base sp held 9 v d p) :
    ∃ l : List UInt8, v = .string (str l) ∧ l.length ≤ maxLen := by
  obtain ⟨s, rfl, _, _, hs⟩ := Go.ChangeMaps.open_string Tryz.underlying9 hv h
  refine ⟨s.data.toList, by simp [str], ?_⟩
  have e : s.data.toList.length = s.size := Array.length_toList
  rw [e]; exact hs
set_option maxRecDepth 100000 in
theorem open_bytes {v : Value} {d : DataW H} {p : List MemPlace} (hv : Value.okWide Tryz.prog W r b0 37 v) (h : DataW.Trod enc Tryz.prog W base sp held 37 v d p) :
    ∃ l : List UInt8, Bs W v l := by
  obtain ⟨A, len, cap, rfl⟩ := okWide_slice Tryz.underlying37 hv
  obtain ⟨fuel, hf⟩ := h
  rcases open_ints Tryz.underlying37 Tryz.underlying5 (by kernel_rfl) hf with ⟨hcs, _⟩ | ⟨x, l, c, zs, hcs, _, hl, hm, hz, _, hcell, hwz⟩
  · simp [Value.cells] at hcs
    obtain ⟨rfl, rfl, rfl⟩ := hcs
    exact ⟨[], Bs.nil W⟩
  · simp [Value.cells] at hcs
    obtain ⟨rfl, rfl, rfl⟩ := hcs
    have hzl : len ≤ zs.length := by rw [hz]; split <;> omega
    obtain ⟨L, hL, hLe⟩ : ∃ L : List UInt8, L.length = len ∧ ∀ j, j < len → (zs.getD j 0) = ((L.getD j 0).toNat : Int) := by
      refine ⟨(zs.take len).map fun z => UInt8.ofNat z.toNat, by simp; omega, fun j hj => ?_⟩
      have hjz : j < zs.length := by omega
      have hw := hwz zs[j] (List.getElem_mem hjz)
      simp [Lit.wf, IntKind.min, IntKind.max, IntKind.signed, IntKind.bits] at hw
      simp only [List.getD_eq_getElem?_getD, List.getElem?_map, List.getElem?_take, if_pos hj, List.getElem?_eq_getElem hjz, Option.map_some, Option.getD_some]
      rw [UInt8.toNat_ofNat']
      omega
    refine ⟨L, some x, cap, by rw [hL], by rw [hL]; exact hl, (fun h => by cases h), fun hp => ?_⟩
    obtain ⟨b, off, spot⟩ := x
    have hc0 := hcell 0 (by omega)
    have hcB := hc0
    rw [show ((⟨b, off, spot⟩ : Addr).add 0) = ⟨b, off, spot⟩ from by simp [Addr.add]] at hcB
    have hspot : spot = none := by simpa [Addr.add] using World.cell?_spot hc0
    subst hspot
    refine ⟨b, off, rfl, ?_, fun j u hu => ?_⟩
    · exact block_lt_of_cell hcB
    · have hj : j < len := by have := (List.getElem?_eq_some_iff.1 hu).1; rw [cellsB_length] at this; omega
      have hcj := hcell j (by omega)
      rw [hLe j hj] at hcj
      have hu' : u = .int .u8 ((L.getD j 0).toNat : Int) := by
        have hjl : j < L.length := by omega
        simp [cellsB, List.getElem?_eq_getElem hjl] at hu
        rw [← hu]; simp [List.getD_eq_getElem?_getD, List.getElem?_eq_getElem hjl]
      rw [hu', ← hcj]
      congr 1
      unfold Addr.add
      by_cases h0 : j = 0 <;> simp [h0]
end
end Go.Proofs.YtfbangojgjcbcaaGreatDoor
