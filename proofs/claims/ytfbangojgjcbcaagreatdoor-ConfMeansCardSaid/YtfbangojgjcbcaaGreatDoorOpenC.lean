/- Opening the arguments of this seat's laws: configurations. -/
import Derived.Test.YtfbangojgjcbcaaGreatDoorOpen
import Derived.Test.YtfbangojgjcbcaaGreatDoorConfA
import Derived.Test.YtfbangojgjcbcaaGreatDoorPlainG
import Derived.Deep.Slices
namespace Go.Proofs.YtfbangojgjcbcaaGreatDoor
open Go.ChangeShapes Go.WideShapes Go.ChangeAt Go.RowKit Pl

theorem chooseC {α : Type} {p : Nat → α → Prop} : ∀ n, (∀ i, i < n → ∃ x, p i x) → ∃ l : List α, l.length = n ∧ ∀ i x, l[i]? = some x → p i x
  | 0, _ => ⟨[], rfl, fun i x h => by simp at h⟩
  | n + 1, h => by
    obtain ⟨l, hl, hp⟩ := chooseC n fun i hi => h i (by omega)
    obtain ⟨x, hx⟩ := h n (by omega)
    refine ⟨l ++ [x], by simp [hl], fun i y hy => ?_⟩
    by_cases hi : i < n
    · rw [List.getElem?_append_left (by omega)] at hy
      exact hp i y hy
    · have hlt := (List.getElem?_eq_some_iff.1 hy).1
      simp [hl] at hlt
      obtain rfl : i = n := by omega
      rw [List.getElem?_append_right (by omega)] at hy
      simp [hl] at hy
      subst hy; exact hx
theorem addC (b off j : Nat) : ((⟨b, off, none⟩ : Addr).add j) = ⟨b, off + j, none⟩ := by unfold Addr.add; by_cases hj : j = 0 <;> simp [hj]
theorem listC2 {cs : List Value} (h : cs.length = 2) : ∃ a b, cs = [a, b] := by
  match cs, h with | [a, b], _ => exact ⟨a, b, rfl⟩
theorem arrayC11 {cs : Array Value} (h : cs.size = 11) : ∃ c0 c1 c2 c3 c4 c5 c6 c7 c8 c9 c10, cs = #[c0, c1, c2, c3, c4, c5, c6, c7, c8, c9, c10] := by
  obtain ⟨l⟩ := cs
  match l, h with
  | [c0, c1, c2, c3, c4, c5, c6, c7, c8, c9, c10], _ => exact ⟨c0, c1, c2, c3, c4, c5, c6, c7, c8, c9, c10, rfl⟩
section
variable {H : Type} {enc : TypeId × Value → H} {W : World} {base b0 : Nat} {sp : Nat → Bool} {held : Bool} {r : Reach}
theorem cCellsA : Tryz.prog.cellsOf 24 = 1 := by kernel_rfl
theorem cCellsI : Tryz.prog.cellsOf 3 = 1 := by kernel_rfl
theorem cCellsP : Tryz.prog.cellsOf 86 = 2 := by kernel_rfl
theorem cCellsO : Tryz.prog.cellsOf 101 = 2 := by kernel_rfl
theorem cCellsLP : Tryz.prog.cellsOf 25 = 1 := by kernel_rfl
theorem cCellsLO : Tryz.prog.cellsOf 26 = 1 := by kernel_rfl
theorem cCellsC : Tryz.prog.cellsOf 28 = 11 := by kernel_rfl
set_option maxRecDepth 100000 in
theorem trodC_prefix {fuel : Nat} {cs : List Value} {x : DataW H × List MemPlace} (h : DataW.trod enc Tryz.prog W base sp held fuel 86 cs = some x) :
    ∃ a n, cs = [.int .u32 a, .int .i64 n] ∧ (0 ≤ a ∧ a < 4294967296) := by
  obtain ⟨y0, y1, m, _, hl, h0, h1⟩ := trod_struct2 Tryz.underlying86 h
  obtain ⟨c0, c1, rfl⟩ := listC2 (hl.trans cCellsP)
  simp only [cCellsA, cCellsI, List.drop_zero, List.drop_succ_cons, List.take_succ_cons, List.take_zero] at h0 h1
  obtain ⟨a, e0, _, wa⟩ := DataW.trod_int Tryz.underlying24 h0
  obtain ⟨n, e1, _, _⟩ := DataW.trod_int Tryz.underlying3 h1
  simp at e0 e1
  subst e0 e1
  exact ⟨a, n, rfl, isAddr_of_wf wa⟩
set_option maxRecDepth 100000 in
theorem trodC_port {fuel : Nat} {cs : List Value} {x : DataW H × List MemPlace} (h : DataW.trod enc Tryz.prog W base sp held fuel 101 cs = some x) :
    ∃ a n, cs = [.int .i64 a, .int .i64 n] ∧ True := by
  obtain ⟨y0, y1, m, _, hl, h0, h1⟩ := trod_struct2 Tryz.underlying101 h
  obtain ⟨c0, c1, rfl⟩ := listC2 (hl.trans cCellsO)
  simp only [cCellsI, List.drop_zero, List.drop_succ_cons, List.take_succ_cons, List.take_zero] at h0 h1
  obtain ⟨a, e0, _, _⟩ := DataW.trod_int Tryz.underlying3 h0
  obtain ⟨n, e1, _, _⟩ := DataW.trod_int Tryz.underlying3 h1
  simp at e0 e1
  subst e0 e1
  exact ⟨a, n, rfl, trivial⟩
theorem openC_pairs {k : IntKind} {t e : TypeId} {Pq : Int → Prop} (ht : Tryz.prog.underlying t = some (.slice e)) (hC : Tryz.prog.cellsOf e = 2)
    (hel : ∀ (fuel : Nat) (cs : List Value) (x : DataW H × List MemPlace), DataW.trod enc Tryz.prog W base sp held fuel e cs = some x → ∃ a n, cs = [.int k a, .int .i64 n] ∧ Pq a)
    {fuel : Nat} {v : Value} {x : DataW H × List MemPlace} (hf : DataW.trod enc Tryz.prog W base sp held fuel t [v] = some x) : ∃ ps : List Pr, Rs k W v ps ∧ ∀ p ∈ ps, Pq p.1 := by
  rcases Go.Deep.open_slice ht hf with ⟨hcs, _⟩ | ⟨x, len, cap, m, n, D, Pl, hcs, _, hl, hm, hmm, _, hx⟩
  · simp at hcs
    subst hcs
    exact ⟨[], Rs.nil _ _, fun u hu => by simp at hu⟩
  · simp at hcs
    subst hcs
    have hlm : len ≤ m := by rw [hmm]; split <;> omega
    obtain ⟨b, off, spot⟩ := x
    have hsp0 : 0 < len → spot = none := fun hp => by
      obtain ⟨cs', h1, _⟩ := hx 0 (by omega)
      rw [hC] at h1
      obtain ⟨_, _, hcell⟩ := World.cells?_some h1
      have e0 := hcell 0 (by omega)
      rw [Go.Deep.add_add] at e0
      obtain ⟨u, hu⟩ : ∃ u, W.cell? ((⟨b, off, spot⟩ : Addr).add (0 * 2 + 0)) = some u := by
        cases hc : cs' with
        | nil => have := (World.cells?_some h1).2.1; rw [hc] at this; simp at this
        | cons x xs => rw [hc] at e0; exact ⟨x, by simpa using e0⟩
      simpa [Addr.add] using World.cell?_spot hu
    have each : ∀ i, i < len → ∃ u : Pr, Pq u.1 ∧ spot = none ∧ b < W.heap.size ∧ W.cell? ⟨b, off + i * 2, none⟩ = some (.int k u.1) ∧ W.cell? ⟨b, off + i * 2 + 1, none⟩ = some (.int .i64 u.2) := by
      intro i hi
      obtain ⟨cs', h1, h2⟩ := hx i (by omega)
      rw [hC] at h1
      obtain ⟨_, hlen, hcell⟩ := World.cells?_some h1
      obtain ⟨a, n, rfl, wa⟩ := hel _ _ _ h2
      have e0 := hcell 0 (by omega)
      have e1 := hcell 1 (by omega)
      rw [Go.Deep.add_add] at e0 e1
      have hspot : spot = none := hsp0 (by omega)
      subst hspot
      rw [addC] at e0 e1
      exact ⟨(a, n), wa, rfl, block_lt_of_cell e0, by simpa using e0, by simpa [Nat.add_assoc] using e1⟩
    obtain ⟨us, hus, hp⟩ := chooseC len each
    refine ⟨us, ⟨some ⟨b, off, spot⟩, cap, by rw [hus], by rw [hus]; exact hl, (fun h => by cases h), fun hpos => ?_⟩, fun u hu => ?_⟩
    · obtain ⟨_, rfl, hlt, _⟩ := hp 0 us[0] (List.getElem?_eq_getElem hpos)
      exact ⟨b, off, rfl, hlt, fun j u hu => (hp j u hu).2.2.2⟩
    · obtain ⟨j, hj⟩ := List.getElem?_of_mem hu
      exact (hp j u hj).1
set_option maxRecDepth 100000 in
theorem open_config {v : Value} {d : DataW H} {p : List MemPlace} (hv : Value.okWide Tryz.prog W r b0 28 v) (h : DataW.Trod enc Tryz.prog W base sp held 28 v d p) :
    ∃ c, CfgIs W v c ∧ Addrs4 c := by
  obtain ⟨cs, rfl, hsz⟩ := okWide_struct Tryz.underlying28 hv
  obtain ⟨c0, c1, c2, c3, c4, c5, c6, c7, c8, c9, c10, rfl⟩ := arrayC11 (hsz.trans cCellsC)
  obtain ⟨fuel, hf⟩ := h
  obtain ⟨xs, n, _, _, _, hlen, hx⟩ := DataW.trod_struct Tryz.underlying28 hf
  have some_at : ∀ i : Nat, i < 11 → ∃ y, xs[i]? = some y := fun i hi => ⟨_, List.getElem?_eq_getElem (by rw [hlen]; exact hi)⟩
  have i0 := hx 0 _ rfl
  have i1 := hx 1 _ rfl
  have i2 := hx 2 _ rfl
  have i3 := hx 3 _ rfl
  have i4 := hx 4 _ rfl
  have i5 := hx 5 _ rfl
  have i6 := hx 6 _ rfl
  have i7 := hx 7 _ rfl
  have i8 := hx 8 _ rfl
  have i9 := hx 9 _ rfl
  have i10 := hx 10 _ rfl
  simp only [Value.cells] at i0 i1 i2 i3 i4 i5 i6 i7 i8 i9 i10
  obtain ⟨y0, e0⟩ := some_at 0 (by decide)
  obtain ⟨y1, e1⟩ := some_at 1 (by decide)
  obtain ⟨y2, e2⟩ := some_at 2 (by decide)
  obtain ⟨y3, e3⟩ := some_at 3 (by decide)
  obtain ⟨y4, e4⟩ := some_at 4 (by decide)
  obtain ⟨y5, e5⟩ := some_at 5 (by decide)
  obtain ⟨y6, e6⟩ := some_at 6 (by decide)
  obtain ⟨y7, e7⟩ := some_at 7 (by decide)
  obtain ⟨y8, e8⟩ := some_at 8 (by decide)
  obtain ⟨y9, e9⟩ := some_at 9 (by decide)
  obtain ⟨y10, e10⟩ := some_at 10 (by decide)
  rw [e0] at i0
  rw [e1] at i1
  rw [e2] at i2
  rw [e3] at i3
  rw [e4] at i4
  rw [e5] at i5
  rw [e6] at i6
  rw [e7] at i7
  rw [e8] at i8
  rw [e9] at i9
  rw [e10] at i10
  obtain ⟨a0, f0, _, _⟩ := DataW.trod_int Tryz.underlying3 i0
  obtain ⟨a1, f1, _, wa⟩ := DataW.trod_int Tryz.underlying24 i1
  obtain ⟨own, hO, hA⟩ := openC_pairs (Pq := fun a => 0 ≤ a ∧ a < 4294967296) Tryz.underlying25 cCellsP (fun _ _ _ h => trodC_prefix h) i2
  obtain ⟨ports, hP, _⟩ := openC_pairs (Pq := fun _ => True) Tryz.underlying26 cCellsO (fun _ _ _ h => trodC_port h) i3
  obtain ⟨a4, f4, _, _⟩ := DataW.trod_int Tryz.underlying3 i4
  obtain ⟨a5, f5, _, _⟩ := DataW.trod_int Tryz.underlying3 i5
  obtain ⟨a6, f6, _, _⟩ := DataW.trod_int Tryz.underlying3 i6
  obtain ⟨a7, f7, _, _⟩ := DataW.trod_int Tryz.underlying3 i7
  obtain ⟨a8, f8, _, _⟩ := DataW.trod_int Tryz.underlying3 i8
  obtain ⟨a9, f9, _, _⟩ := DataW.trod_int Tryz.underlying3 i9
  obtain ⟨a10, f10, _, _⟩ := DataW.trod_int Tryz.underlying3 i10
  simp [cCellsI, cCellsA] at f0 f1 f4 f5 f6 f7 f8 f9 f10
  subst f0 f1 f4 f5 f6 f7 f8 f9 f10
  exact ⟨⟨a0, a1, own, ports, a4, a5, a6, a7, a8, a9, a10⟩, ⟨⟨c2, c3, rfl, hO, hP⟩⟩, isAddr_of_wf wa, hA⟩
end
end Go.Proofs.YtfbangojgjcbcaaGreatDoor
