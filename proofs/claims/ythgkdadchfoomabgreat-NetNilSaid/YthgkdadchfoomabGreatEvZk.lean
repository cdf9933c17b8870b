/- A run of a program on abstract memory: outcomes that are one. -/
import Derived.Test.YthgkdadchfoomabGreatEvZj
namespace Go.Proofs.YthgkdadchfoomabGreat.Ev
section
variable {P : Program} {ρ : Rho} {S : AS} {w : World}
theorem endA_in {x : AV × AS} {y : Left} (h : endA S x = some y) :
    (∀ z ∈ y.2, z.2 = hget x.2.top z.1.p) ∧ WfN (idsV y.1 []) ∧ ∀ z ∈ y.2, z.2 ≠ .free ∧ WfN (idsO z.2 []) := by
  obtain ⟨rfl, h1, h2⟩ := endC_some h
  refine ⟨fun z hz => (keepL_mem hz).1, fun i hi => (allIn_iff.1 h1 i hi).2, fun z hz => ?_⟩
  obtain ⟨a, b⟩ := closedL_iff.1 h2 z hz
  exact ⟨(oKeep_ne a).1, fun i hi => (allIn_iff.1 b i hi).2⟩
theorem outS_in {x : AV × AS} {y : Left} (h : endA S x = some y) {p : Pth} (hp : ∃ z ∈ y.2, z.1.p = p) : ∃ z ∈ y.2, z.1.p = p ∧ (outS S y.2).at p = z.2 := by
  obtain ⟨h1, _, h3⟩ := endA_in h
  have e1 : hget (outS S y.2).top p = hget x.2.top p := hget_setL_in (f := fun p => hget x.2.top p) h1 hp
  obtain ⟨z, hz, rfl⟩ := hp
  have : hget (outS S y.2).top z.1.p = z.2 := by rw [e1, ← h1 z hz]
  exact ⟨z, hz, rfl, by rw [AS.at_top (by rw [this]; exact (h3 z hz).1), this]⟩
theorem outS_out {d : List (Nam × AO)} {p : Pth} (hp : ¬ ∃ z ∈ d, z.1.p = p) : (outS S d).at p = S.at p := by
  have e1 : hget (outS S d).top p = hget S.top p := hget_setL_out fun x hx e => hp ⟨x, hx, e⟩
  show oFree (hget (outS S d).top p) (hget (outS S d).top p) (layG S.lay ⟨0, p⟩) = oFree (hget S.top p) (hget S.top p) (layG S.lay ⟨0, p⟩)
  rw [e1]
theorem outS_wf (hs : Sat P ρ S w) {x : AV × AS} {y : Left} (h : endA S x = some y) (p : Pth) : WfN (idsO ((outS S y.2).at p) []) := by
  by_cases hp : ∃ z ∈ y.2, z.1.p = p
  · obtain ⟨z, hz, _, e⟩ := outS_in h hp
    rw [e]; exact ((endA_in h).2.2 z hz).2
  · rw [outS_out hp]; exact relO_wf (hs.obj p)
theorem sameN_iff {a b : AS} {l : List (Nam × AO)} : sameN a b l = true ↔ ∀ x ∈ l, beqO (getA a x.1) (getA b x.1) = true := itL_all
theorem sameD_ok (hs : Sat P ρ S w) {x x' : AV × AS} {y z : Left} (hy : endA S x = some y) (hz : endA S x' = some z) (h : sameD S z y = true) : z.1 = y.1 ∧ ∀ p, (outS S z.2).at p = (outS S y.2).at p := by
  obtain ⟨h1, h2⟩ := cB3 (show cB (beqV z.1 y.1) (cB (sameN (outS S z.2) (outS S y.2) z.2) (sameN (outS S z.2) (outS S y.2) y.2) false) false = true from h)
  obtain ⟨h2, h3⟩ := cB3 h2
  refine ⟨beqV_wf _ _ h1 (endA_in hz).2.1 (endA_in hy).2.1, fun p => ?_⟩
  have two : ∀ i : Nam, i.p = p → beqO (getA (outS S z.2) i) (getA (outS S y.2) i) = true → (outS S z.2).at p = (outS S y.2).at p := fun i hi hb => by
    rw [getA_eq, getA_eq, hi] at hb
    exact beqO_wf _ _ hb (outS_wf hs hz p) (outS_wf hs hy p)
  by_cases c1 : ∃ q ∈ z.2, q.1.p = p
  · obtain ⟨q, hq, e⟩ := c1
    exact two q.1 e (sameN_iff.1 h2 q hq)
  · by_cases c2 : ∃ q ∈ y.2, q.1.p = p
    · obtain ⟨q, hq, e⟩ := c2
      exact two q.1 e (sameN_iff.1 h3 q hq)
    · rw [outS_out c1, outS_out c2]
theorem hasD_some {s0 : AS} {y : Left} {l : List Left} (h : hasD s0 y l = true) : ∃ z ∈ l, sameD s0 z y = true := by
  induction l with
  | nil => cases h
  | cons z l ih =>
    have h' : cB (sameD s0 z y) true (hasD s0 y l) = true := h
    cases hb : sameD s0 z y with
    | true => exact ⟨z, by simp, hb⟩
    | false =>
      rw [hb] at h'
      obtain ⟨z', a, b⟩ := ih h'
      exact ⟨z', by simp [a], b⟩
/-- Each outcome is one of those told. -/
theorem addsD_some {s0 : AS} : ∀ {l : List (AV × AS)} {acc d : List Left}, addsD s0 l acc = some d → (∀ z ∈ acc, ∃ x, endA s0 x = some z) →
    (∀ z ∈ acc, z ∈ d) ∧ (∀ z ∈ d, ∃ x, endA s0 x = some z) ∧ ∀ x ∈ l, ∃ y, endA s0 x = some y ∧ ∃ z ∈ d, z = y ∨ sameD s0 z y = true
  | [], acc, d, h, ha => by
    have : acc = d := Option.some.inj h
    subst this
    exact ⟨fun z hz => hz, ha, fun x hx => by cases hx⟩
  | x :: l, acc, d, h, ha => by
    have h' : cO (endA s0 x) none (fun y => cB (hasD s0 y acc) (addsD s0 l acc) (addsD s0 l (app acc [y]))) = some d := h
    cases he : endA s0 x with
    | none => rw [he] at h'; cases h'
    | some y =>
      rw [he] at h'
      have h2 : cB (hasD s0 y acc) (addsD s0 l acc) (addsD s0 l (app acc [y])) = some d := h'
      cases hb : hasD s0 y acc with
      | true =>
        rw [hb] at h2
        obtain ⟨k1, k2, k3⟩ := addsD_some (l := l) h2 ha
        refine ⟨k1, k2, fun x' hx' => ?_⟩
        rcases List.mem_cons.1 hx' with rfl | hx'
        · obtain ⟨z, hz, hzy⟩ := hasD_some hb
          exact ⟨y, he, z, k1 z hz, .inr hzy⟩
        · exact k3 x' hx'
      | false =>
        rw [hb] at h2
        obtain ⟨k1, k2, k3⟩ := addsD_some (l := l) h2 (fun z hz => by
          rcases app_mem.1 hz with q | q
          · exact ha z q
          · rw [List.mem_singleton.1 q]; exact ⟨x, he⟩)
        refine ⟨fun z hz => k1 z (app_mem.2 (.inl hz)), k2, fun x' hx' => ?_⟩
        rcases List.mem_cons.1 hx' with rfl | hx'
        · exact ⟨y, he, y, k1 y (app_mem.2 (.inr (by simp))), .inl rfl⟩
        · exact k3 x' hx'
theorem outsD_has {s0 : AS} {d : List Left} {y : Left} (hy : y ∈ d) : (outsD s0 d).has (outD s0 y) := by
  unfold outsD
  cases d with
  | nil => cases hy
  | cons a l =>
    cases l with
    | nil => rw [List.mem_singleton.1 hy]; exact rfl
    | cons b m =>
      show outD s0 y ∈ itL [] (fun y _ q => outD s0 y :: q) (a :: b :: m)
      generalize a :: b :: m = t at hy
      induction t with
      | nil => cases hy
      | cons c t ih =>
        rcases List.mem_cons.1 hy with rfl | hy
        · exact List.mem_cons_self
        · exact List.mem_cons_of_mem _ (ih hy)
theorem listR_mem {α : Type} {x : R α} {l : List α} (h : listR x = some l) : x.ok ∧ ∀ a, x.has a → a ∈ l := by
  cases x with
  | no => cases h
  | one a => cases h; exact ⟨trivial, fun b hb => by cases hb; simp⟩
  | many m => cases h; exact ⟨trivial, fun b hb => hb⟩
/-- A call whose outcomes become one. -/
theorem merged_ok (hs : Sat P ρ S w) {x : R (AV × AS)} {l : List (AV × AS)} {d : List Left} (hl : listR x = some l) (hd : addsD S l [] = some d)
    {ρ1 : Rho} {S1 : AS} {w1 : World} {v : AV} {u : Value} (hx : x.has (v, S1)) (he : Ext ρ (under S) w ρ1 S1 w1) (h1 : Sat P ρ1 S1 w1) (hv : conc ρ1 v = some u) : ValPost P ρ S w (outsD S d) u w1 := by
  obtain ⟨_, k2, k3⟩ := addsD_some hd (fun z hz => by cases hz)
  obtain ⟨y, hy, z, hz, hzy⟩ := k3 _ ((listR_mem hl).2 _ hx)
  obtain ⟨ρ2, q1, q2, q3⟩ := merge_ok hs he h1 hv hy
  rcases hzy with rfl | hzy
  · exact ⟨z.1, _, ρ2, outsD_has hz, q2, q1, q3⟩
  · obtain ⟨x', hx'⟩ := k2 z hz
    obtain ⟨e1, e2⟩ := sameD_ok hs hy hx' hzy
    exact ⟨z.1, outS S z.2, ρ2, outsD_has hz, ⟨q2.le, q2.size, q2.old, fun g hg ⟨p, o, c, h1, h2⟩ => q2.owns g hg ⟨p, o, c, h1, by rw [← e2]; exact h2⟩, q2.os, q2.tape, q2.output, outS_tr S z.2⟩, q1.same e2, by rw [e1]; exact q3⟩
end
end Go.Proofs.YthgkdadchfoomabGreat.Ev
