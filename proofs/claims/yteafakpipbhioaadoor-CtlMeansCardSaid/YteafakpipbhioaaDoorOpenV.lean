/- Opening the arguments of this seat's laws: lists of updates. -/
import Derived.Test.YteafakpipbhioaaDoorOpenU
import Derived.Test.YteafakpipbhioaaDoorCtlL
import Derived.Deep.Slices
namespace Go.Proofs.YteafakpipbhioaaDoor
open Go.ChangeShapes Go.WideShapes Go.ChangeAt Go.RowKit

theorem choose_list {α : Type} {p : Nat → α → Prop} : ∀ n, (∀ i, i < n → ∃ x, p i x) → ∃ l : List α, l.length = n ∧ ∀ i x, l[i]? = some x → p i x
  | 0, _ => ⟨[], rfl, fun i x h => by simp at h⟩
  | n + 1, h => by
    obtain ⟨l, hl, hp⟩ := choose_list n fun i hi => h i (by omega)
    obtain ⟨x, hx⟩ := h n (by omega)
    refine ⟨l ++ [x], by simp [hl], fun i y hy => ?_⟩
    by_cases hi : i < n
    · rw [List.getElem?_append_left (by omega)] at hy
      exact hp i y hy
    · have hlt := (List.getElem?_eq_some_iff.1 hy).1
      simp [hl] at hlt
      obtain rfl : i = n := by omega
      rw [List.getElem?_append_right (by omega)] at hy
      simp [hl] at hy
      subst hy; exact hx
theorem add_none (b off j : Nat) : ((⟨b, off, none⟩ : Addr).add j) = ⟨b, off + j, none⟩ := by unfold Addr.add; by_cases hj : j = 0 <;> simp [hj]
section
variable {H : Type} {enc : TypeId × Value → H} {W : World} {base b0 : Nat} {sp : Nat → Bool} {held : Bool} {r : Reach}
set_option maxRecDepth 100000 in
theorem open_updates {v : Value} {d : DataW H} {p : List MemPlace} (hv : Value.okWide Tryd.prog W r b0 93 v) (h : DataW.Trod enc Tryd.prog W base sp held 93 v d p) :
    ∃ us : List U3, Us W v us ∧ Addrs us := by
  obtain ⟨A, len, cap, rfl⟩ := okWide_slice Tryd.underlying93 hv
  obtain ⟨fuel, hf⟩ := h
  rcases Go.Deep.open_slice Tryd.underlying93 hf with ⟨hcs, _⟩ | ⟨x, l, c, m, n, D, Pl, hcs, _, hl, hm, hmm, _, hx⟩
  · simp [Value.cells] at hcs
    obtain ⟨rfl, rfl, rfl⟩ := hcs
    exact ⟨[], ⟨none, 0, rfl, Nat.le_refl _, fun _ => rfl, fun h => absurd h (by simp)⟩, fun u hu => by simp at hu⟩
  · simp [Value.cells] at hcs
    obtain ⟨rfl, rfl, rfl⟩ := hcs
    have hlm : len ≤ m := by rw [hmm]; split <;> omega
    obtain ⟨b, off, spot⟩ := x
    have hsp0 : 0 < len → spot = none := fun hp => by
      obtain ⟨cs', h1, _⟩ := hx 0 (by omega)
      rw [cellsU] at h1
      obtain ⟨_, _, hcell⟩ := World.cells?_some h1
      have e0 := hcell 0 (by omega)
      rw [Go.Deep.add_add] at e0
      obtain ⟨u, hu⟩ : ∃ u, W.cell? ((⟨b, off, spot⟩ : Addr).add (0 * 3 + 0)) = some u := by
        cases hc : cs' with
        | nil => have := (World.cells?_some h1).2.1; rw [hc] at this; simp at this
        | cons x xs => rw [hc] at e0; exact ⟨x, by simpa using e0⟩
      simpa [Addr.add] using World.cell?_spot hu
    have each : ∀ i, i < len → ∃ u : U3, IsAddr u.1 ∧ spot = none ∧ b < W.heap.size ∧ W.cell? ⟨b, off + i * 3, none⟩ = some (.int .u32 u.1) ∧ W.cell? ⟨b, off + i * 3 + 1, none⟩ = some (.int .i64 u.2.1) ∧ W.cell? ⟨b, off + i * 3 + 2, none⟩ = some (.int .i64 u.2.2) := by
      intro i hi
      obtain ⟨cs', h1, h2⟩ := hx i (by omega)
      rw [cellsU] at h1
      obtain ⟨_, hlen, hcell⟩ := World.cells?_some h1
      obtain ⟨a, n, d, rfl, wa⟩ := trod_update h2
      have e0 := hcell 0 (by omega)
      have e1 := hcell 1 (by omega)
      have e2 := hcell 2 (by omega)
      rw [Go.Deep.add_add] at e0 e1 e2
      have hspot : spot = none := hsp0 (by omega)
      subst hspot
      rw [add_none] at e0 e1 e2
      exact ⟨(a, n, d), wa, rfl, block_lt_of_cell e0, by simpa using e0, by simpa [Nat.add_assoc] using e1, by simpa [Nat.add_assoc] using e2⟩
    obtain ⟨us, hus, hp⟩ := choose_list len each
    refine ⟨us, ⟨some ⟨b, off, spot⟩, cap, by rw [hus], by rw [hus]; exact hl, (fun h => by cases h), fun hpos => ?_⟩, fun u hu => ?_⟩
    · obtain ⟨_, rfl, hlt, _⟩ := hp 0 us[0] (List.getElem?_eq_getElem hpos)
      exact ⟨b, off, rfl, hlt, fun j u hu => (hp j u hu).2.2.2⟩
    · obtain ⟨j, hj⟩ := List.getElem?_of_mem hu
      exact (hp j u hj).1
end
end Go.Proofs.YteafakpipbhioaaDoor
