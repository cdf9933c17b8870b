/- Opening the arguments of law23.TraceOften: rows of tracks. -/
import Derived.Test.YtfnjojdiiklleaaGreatTrkI
import Derived.ProofKit
import Derived.Deep.Slices
namespace Go.Proofs.YtfnjojdiiklleaaGreat
open Go.ChangeShapes Go.WideShapes Go.ChangeAt Go.RowKit Pl

theorem in64_of_wf {a : Int} (h : (Lit.int .i64 a).wf = true) : In64 a := by
  simp [Lit.wf, IntKind.min, IntKind.max, IntKind.signed, IntKind.bits] at h
  exact ⟨by omega, by omega⟩
theorem chooseT {α : Type} {p : Nat → α → Prop} : ∀ n, (∀ i, i < n → ∃ x, p i x) → ∃ l : List α, l.length = n ∧ ∀ i x, l[i]? = some x → p i x
  | 0, _ => ⟨[], rfl, fun i x h => by simp at h⟩
  | n + 1, h => by
    obtain ⟨l, hl, hp⟩ := chooseT n fun i hi => h i (by omega)
    obtain ⟨x, hx⟩ := h n (by omega)
    refine ⟨l ++ [x], by simp [hl], fun i y hy => ?_⟩
    by_cases hi : i < n
    · rw [List.getElem?_append_left (by omega)] at hy
      exact hp i y hy
    · have hlt := (List.getElem?_eq_some_iff.1 hy).1
      simp [hl] at hlt
      obtain rfl : i = n := by omega
      rw [List.getElem?_append_right (by omega)] at hy
      simp [hl] at hy
      subst hy; exact hx
theorem listT10 {cs : List Value} (h : cs.length = 10) : ∃ c0 c1 c2 c3 c4 c5 c6 c7 c8 c9, cs = [c0, c1, c2, c3, c4, c5, c6, c7, c8, c9] := by
  match cs, h with | [c0, c1, c2, c3, c4, c5, c6, c7, c8, c9], _ => exact ⟨c0, c1, c2, c3, c4, c5, c6, c7, c8, c9, rfl⟩
theorem tCellsT : Tryz.prog.cellsOf 27 = 10 := by kernel_rfl
theorem tCellsI : Tryz.prog.cellsOf 3 = 1 := by kernel_rfl
theorem tCellsB : Tryz.prog.cellsOf 4 = 1 := by kernel_rfl
theorem tCellsD : Tryz.prog.cellsOf 25 = 1 := by kernel_rfl
theorem tCellsY : Tryz.prog.cellsOf 24 = 1 := by kernel_rfl
section
variable {H : Type} {enc : TypeId × Value → H} {W : World} {base : Nat} {sp : Nat → Bool} {held : Bool}
set_option maxRecDepth 100000 in
theorem trodT_track {fuel : Nat} {cs : List Value} {x : DataW H × List MemPlace} (hf : DataW.trod enc Tryz.prog W base sp held fuel 27 cs = some x) : ∃ t : Tk, cs = t.cells ∧ TkIn t := by
  obtain ⟨xs, n, _, _, hl, hlen, hx⟩ := DataW.trod_struct Tryz.underlying27 hf
  obtain ⟨c0, c1, c2, c3, c4, c5, c6, c7, c8, c9, rfl⟩ := listT10 (hl.trans tCellsT)
  have some_at : ∀ i : Nat, i < 10 → ∃ y, xs[i]? = some y := fun i hi => ⟨_, List.getElem?_eq_getElem (by rw [hlen]; exact hi)⟩
  have i0 := hx 0 _ rfl
  have i1 := hx 1 _ rfl
  have i2 := hx 2 _ rfl
  have i3 := hx 3 _ rfl
  have i4 := hx 4 _ rfl
  have i5 := hx 5 _ rfl
  have i6 := hx 6 _ rfl
  have i7 := hx 7 _ rfl
  have i8 := hx 8 _ rfl
  have i9 := hx 9 _ rfl
  obtain ⟨y0, e0⟩ := some_at 0 (by decide)
  obtain ⟨y1, e1⟩ := some_at 1 (by decide)
  obtain ⟨y2, e2⟩ := some_at 2 (by decide)
  obtain ⟨y3, e3⟩ := some_at 3 (by decide)
  obtain ⟨y4, e4⟩ := some_at 4 (by decide)
  obtain ⟨y5, e5⟩ := some_at 5 (by decide)
  obtain ⟨y6, e6⟩ := some_at 6 (by decide)
  obtain ⟨y7, e7⟩ := some_at 7 (by decide)
  obtain ⟨y8, e8⟩ := some_at 8 (by decide)
  obtain ⟨y9, e9⟩ := some_at 9 (by decide)
  rw [e0] at i0
  rw [e1] at i1
  rw [e2] at i2
  rw [e3] at i3
  rw [e4] at i4
  rw [e5] at i5
  rw [e6] at i6
  rw [e7] at i7
  rw [e8] at i8
  rw [e9] at i9
  obtain ⟨a0, f0, _, w0⟩ := DataW.trod_int Tryz.underlying3 i0
  obtain ⟨a1, f1, _, w1⟩ := DataW.trod_int Tryz.underlying3 i1
  obtain ⟨a2, f2, _, w2⟩ := DataW.trod_int Tryz.underlying3 i2
  obtain ⟨a3, f3, _, w3⟩ := DataW.trod_int Tryz.underlying3 i3
  obtain ⟨a5, f5, _, w5⟩ := DataW.trod_int Tryz.underlying3 i5
  obtain ⟨a6, f6, _⟩ := DataW.trod_bool Tryz.underlying4 i6
  obtain ⟨a7, f7, _⟩ := DataW.trod_bool Tryz.underlying4 i7
  obtain ⟨a8, f8, _⟩ := DataW.trod_bool Tryz.underlying4 i8
  obtain ⟨a9, f9, _, w9⟩ := DataW.trod_int Tryz.underlying25 i9
  have hb : ∃ (ba : Option Addr) (bn bc : Nat), c4 = .slice ba bn bc := by
    rcases Go.Deep.open_slice Tryz.underlying24 i4 with ⟨hcs, _⟩ | ⟨x, len, cap, m, n, D, Pl, hcs, _⟩
    · simp [tCellsY] at hcs; exact ⟨_, _, _, hcs⟩
    · simp [tCellsY] at hcs; exact ⟨_, _, _, hcs⟩
  obtain ⟨ba, bn, bc, rfl⟩ := hb
  simp [tCellsI, tCellsB, tCellsD] at f0 f1 f2 f3 f5 f6 f7 f8 f9
  subst f0 f1 f2 f3 f5 f6 f7 f8 f9
  exact ⟨⟨a0, a1, a2, a3, ba, bn, bc, a5, a6, a7, a8, a9⟩, rfl, in64_of_wf w2⟩
theorem openT_tracks {fuel : Nat} {v : Value} {x : DataW H × List MemPlace} (hf : DataW.trod enc Tryz.prog W base sp held fuel 22 [v] = some x) : ∃ l : List Tk, Tracks W v l ∧ ∀ t ∈ l, TkIn t := by
  rcases Go.Deep.open_slice Tryz.underlying22 hf with ⟨hcs, _⟩ | ⟨x, len, cap, m, n, D, Pl, hcs, _, hl, hm, hmm, _, hx⟩
  · simp at hcs
    subst hcs
    exact ⟨[], ⟨none, 0, rfl, Nat.le_refl _, fun _ => rfl, fun h => absurd h (by simp)⟩, fun u hu => by simp at hu⟩
  · simp at hcs
    subst hcs
    have hlm : len ≤ m := by rw [hmm]; split <;> omega
    obtain ⟨b, off, spot⟩ := x
    have hat : ∀ i, i < len → ∃ t : Tk, TkIn t ∧ ∀ k, k < 10 → W.cell? (((⟨b, off, spot⟩ : Addr).add (i * 10)).add k) = t.cells[k]? := by
      intro i hi
      obtain ⟨cs', h1, h2⟩ := hx i (by omega)
      rw [tCellsT] at h1
      obtain ⟨_, hlen, hcell⟩ := World.cells?_some h1
      obtain ⟨t, rfl, ht⟩ := trodT_track h2
      exact ⟨t, ht, fun k hk => hcell k hk⟩
    have each : ∀ i, i < len → ∃ t : Tk, TkIn t ∧ spot = none ∧ b < W.heap.size ∧ trackQ W b (off + i * 10) t := by
      intro i hi
      obtain ⟨t, ht, hcell⟩ := hat i hi
      have e0 := hcell 0 (by omega)
      rw [Go.Deep.add_add] at e0
      have hc0 : t.cells[0]? = some (.int .i64 t.num) := rfl
      rw [hc0] at e0
      have hspot : spot = none := by
        obtain ⟨t', _, hcell'⟩ := hat 0 (by omega)
        have e0' := hcell' 0 (by omega)
        rw [Go.Deep.add_add, show t'.cells[0]? = some (.int .i64 t'.num) from rfl] at e0'
        simpa [Addr.add] using World.cell?_spot e0'
      subst hspot
      have hc2 : ∀ k, k < 10 → W.cell? ⟨b, off + i * 10 + k, none⟩ = t.cells[k]? := fun k hk => by
        have := hcell k hk
        rw [Go.Deep.add_add, addA, ← Nat.add_assoc] at this
        exact this
      refine ⟨t, ht, rfl, ?_, trackQ_iff.2 hc2⟩
      have := hc2 0 (by omega)
      rw [hc0] at this
      exact block_lt_of_cell this
    obtain ⟨us, hus, hp⟩ := chooseT len each
    refine ⟨us, ⟨some ⟨b, off, spot⟩, cap, by rw [hus], by rw [hus]; exact hl, (fun h => by cases h), fun hpos => ?_⟩, fun u hu => ?_⟩
    · obtain ⟨_, rfl, hlt, _⟩ := hp 0 us[0] (List.getElem?_eq_getElem hpos)
      exact ⟨b, off, rfl, hlt, fun j u hu => (hp j u hu).2.2.2⟩
    · obtain ⟨j, hj⟩ := List.getElem?_of_mem hu
      exact (hp j u hj).1
end
end Go.Proofs.YtfnjojdiiklleaaGreat
