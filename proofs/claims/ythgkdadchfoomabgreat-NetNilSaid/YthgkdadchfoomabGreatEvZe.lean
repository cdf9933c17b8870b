/- A run of a program on abstract memory: code. -/
import Derived.Test.YthgkdadchfoomabGreatEvZd
import Derived.Test.YthgkdadchfoomabGreatEvYa
import Derived.RangeFuncIn
namespace Go.Proofs.YthgkdadchfoomabGreat.Ev
section
variable {P : Program} {F : Fence} {n : Nat} {Q : Exit → Act → World → Prop} {a : Act} {w : World}

/-! ### A loop, unrolled; a scope -/
theorem exitTo_len : ∀ {id : Nat} {k k' : List Item}, exitTo id k = some k' → k'.length ≤ k.length
  | _, [], _, h => by cases h
  | id, x :: k, k', h => by
    cases x with
    | inBlock i =>
      simp only [exitTo] at h
      split at h
      · cases h; simp
      · have := exitTo_len h; simp; omega
    | _ => simp only [exitTo] at h; have := exitTo_len h; simp; omega
theorem lone_todo {fr fr' : Frame} {cs cs' : List Frame} {w w' : World} (h : lone fr cs w = lone fr' cs' w') : fr.todo = fr'.todo ∧ fr.mode = fr'.mode := by
  have h1 := congrArg (fun m : Machine => m.gs) h
  simp only [lone] at h1
  have h2 := Array.mk.inj h1
  have h3 := (List.cons.inj h2).1
  have h4 : fr = fr' := congrArg Goroutine.frame h3
  rw [h4]; exact ⟨rfl, rfl⟩
noncomputable def Plainly (Q : Exit → Act → World → Prop) : Prop := ∀ e a w, Q e a w → e = .normal ∨ e = .ret ∨ ∃ i, e = .exit i
theorem wpIn_unroll {c : Code} (hQ : Plainly Q) (h : c.wpIn F n P (Exit.then (fun a w => (Code.loop c).wpIn F n P Q a w) Q) a w) : (Code.loop c).wpIn F n P Q a w := by
  intro b k cs hro hb hr
  obtain ⟨e, a₁, w₁, hq, harr⟩ := h b (.inLoop c :: k) cs hro hb hr
  have h0 : StepsIn (Machine.fenced P F) P (lone (b.atR a (.code (.loop c) :: k)) cs w) (lone (b.atR a (.code c :: .inLoop c :: k)) cs w) := .one (fenced_calm hb hr rfl) stepR_loop
  have move : ∀ {m t : Machine}, t ≠ lone (b.atR a₁ (.code (.loop c) :: k)) cs w₁ → StepsIn (Machine.fenced P F) P (lone (b.atR a₁ (.code (.loop c) :: k)) cs w₁) t → StepsIn (Machine.fenced P F) P (lone (b.atR a₁ (.inLoop c :: k)) cs w₁) t := fun {m t} hne hs => by
    cases hs with
    | refl => exact absurd rfl hne
    | head hI hst hs' =>
      rw [stepR_loop] at hst
      cases hst
      exact .head (fenced_calm hb hr rfl) stepR_inLoop hs'
  cases e with
  | normal =>
    obtain ⟨e₂, a₂, w₂, hq₂, harr₂⟩ := hq b k cs hro hb hr
    refine ⟨e₂, a₂, w₂, hq₂, .of_steps (h0.trans harr) ?_⟩
    rcases hQ _ _ _ hq₂ with rfl | rfl | ⟨i, rfl⟩
    · refine move (m := lone (b.atR a₁ (.inLoop c :: k)) cs w₁) (fun e => ?_) harr₂
      have := congrArg List.length (lone_todo e).1
      simp [Frame.atR] at this
    · refine ⟨fun hn => ?_, fun hn => ?_⟩
      · obtain ⟨todo, hs⟩ := harr₂.1 hn
        refine ⟨todo, move (m := lone (b.atR a₁ (.inLoop c :: k)) cs w₁) (fun e => ?_) hs⟩
        have := (lone_todo e).2
        simp [Frame.atR] at this
      · obtain ⟨k₁, hs⟩ := harr₂.2 hn
        refine ⟨k₁, move (m := lone (b.atR a₁ (.inLoop c :: k)) cs w₁) (fun e => ?_) hs⟩
        have := (lone_todo e).1
        simp [Frame.atR] at this
    · refine ⟨fun k' hk => ?_, fun hn hk => ?_⟩
      · refine move (m := lone (b.atR a₁ (.inLoop c :: k)) cs w₁) (fun e => ?_) (harr₂.1 k' hk)
        have h1 := congrArg List.length (lone_todo e).1
        have h2 := exitTo_len hk
        simp [Frame.atR] at h1
        omega
      · obtain ⟨k₁, hk1, hs⟩ := harr₂.2 hn hk
        refine ⟨k₁, hk1, move (m := lone (b.atR a₁ (.inLoop c :: k)) cs w₁) (fun e => ?_) hs⟩
        have := (lone_todo e).1
        simp [Frame.atR] at this
  | exit id => exact ⟨_, a₁, w₁, hq, .of_steps h0 (.pass (x := .inLoop c) rfl (fun _ _ => .inl (by simp)) harr)⟩
  | goto l => exact ⟨_, a₁, w₁, hq, .of_steps h0 (.pass (x := .inLoop c) rfl (fun _ _ => .inl (by simp)) harr)⟩
  | ret => exact ⟨_, a₁, w₁, hq, .of_steps h0 (.pass (x := .inLoop c) rfl (fun _ _ => .inl (by simp)) harr)⟩
  | panic ch => exact ⟨_, a₁, w₁, hq, .of_steps h0 (.pass (x := .inLoop c) rfl (fun _ _ => .inl (by simp)) harr)⟩
  | outgrown => exact ⟨_, a₁, w₁, hq, .of_steps h0 (.pass (x := .inLoop c) rfl (fun _ _ => .inl (by simp)) harr)⟩
theorem wpIn_scope {c : Code} (hQ : Plainly Q) (h : c.wpIn F n P Q a w) : (Code.scope c).wpIn F n P Q a w := by
  intro b k cs hro hb hr
  have h0 : StepsIn (Machine.fenced P F) P (lone (b.atR a (.code (.scope c) :: k)) cs w) (lone (b.atR a (.code c :: .inScope c :: k)) cs w) := .one (fenced_calm hb hr rfl) (step_lone_go (by simp [stepG, stepG.exec, Frame.atR]))
  obtain ⟨e, a₁, w₁, hq, harr⟩ := h b (.inScope c :: k) cs hro hb hr
  rcases hQ _ _ _ hq with rfl | rfl | ⟨i, rfl⟩
  · exact ⟨.normal, a₁, w₁, hq, h0.trans (StepsIn.trans harr (.one (fenced_calm hb hr rfl) (step_lone_go (by simp [stepG, stepG.exec, Frame.atR]))))⟩
  · exact ⟨.ret, a₁, w₁, hq, .of_steps h0 harr⟩
  · exact ⟨.exit i, a₁, w₁, hq, fun k' hk => h0.trans (harr.1 k' (by simp [exitTo, hk])), fun hn hk => let ⟨k₁, h1, h2⟩ := harr.2 hn (by simp [exitTo, hk]); ⟨k₁, h1, h0.trans h2⟩⟩
end
section
variable {P : Program} {cf : Cf} {vm : Vm} {fn : FuncId}
theorem replicate_getD {m j : Nat} {d : Bool} : (Array.replicate m false).getD j d = if j < m then false else d := by
  rw [Array.getD_eq_getD_getElem?]
  by_cases h : j < m
  · rw [Array.getElem?_replicate, if_pos h, if_pos h]; rfl
  · rw [Array.getElem?_replicate, if_neg h, if_neg h]; rfl
theorem draw_ok {ev : Ev} (he : EvSpec P ev) (hmix : P.follows .mixedOrders = true) {ops : Array Oper} {id n : Nat} {rn : Option Nat} {N : Nat} {Q : Exit → Act → World → Prop} (hQ : ∀ c a w, ¬ Q (.panic c) a w) {ρ : Rho} {S : AS} {w : World} {fr : FrA} {a : Act}
    (hs : Sat P ρ S w) (hf : FR vm ρ fr n (fun _ => False) a) (hok : ((kDraw P cf vm fn n ops).f ev fr S).ok)
    (hpost : ∀ fr' S' ρ' a' w', ((kDraw P cf vm fn n ops).f ev fr S).has (fr', S') → Ext ρ S w ρ' S' w' → Sat P ρ' S' w' → FR vm ρ' fr' n (fun _ => False) a' → Q .normal a' w') : (Code.region id ops true).wpIn (Wf rn) N P Q a w := by
  unfold kDraw kDrawM at hok hpost
  cases hb : (noDS ops && okPlanF ops (mks ops ops.toList 0) (planD P ops (mks ops ops.toList 0))) with
  | false => rw [hb] at hok; exact hok.elim
  | true =>
  rw [hb] at hok hpost
  simp only [Bool.and_eq_true] at hb
  refine wpIn_region_any hmix (wpH_any _ [] _ _ _ ?_)
  have hg : ∀ j d, (noneListed ops).getD j d = if j < ops.size then false else d := fun j d => replicate_getD
  refine plan_ok (ρ0 := ρ) (S0 := S) (w0 := w) he hb.1 hQ (planD P ops (mks ops ops.toList 0)) (okPlanF_ok hb.2) hok hpost ops.size (G := fun _ => none) ⟨⟨hs.obj, hs.inj, hs.bnd, hs.stp, hs.stinj, hs.glob⟩, ⟨Le.refl _, Nat.le_refl _, fun _ _ _ => rfl, fun _ _ h => h, rfl, rfl, rfl, Tr.refl _⟩, by simp [noneListed], by simp [noneListed], by simp, fun j h => h, fun j hj => ?_, fun j g h => (by cases h), fun j j' g h => (by cases h), fun j h1 h2 => ?_, hf.weaken fun i h => h.elim, fun h hm => (by cases hm), rfl⟩ ?_
  · have := hg j true
    constructor
    · intro h; exact .inl h
    · rintro (h | ⟨g, h⟩)
      · exact h
      · cases h
  · have : (noneListed ops).getD j true = true := h2
    rw [h1] at this; cases this
  · exact Nat.le_trans List.countP_le_length (by simp)
end
end Go.Proofs.YthgkdadchfoomabGreat.Ev
