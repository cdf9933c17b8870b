/- A run of a program on abstract memory: regions that draw their order. -/
import Derived.Test.YthgkdadchfoomabGreatEvX
namespace Go.Proofs.YthgkdadchfoomabGreat.Ev
section
variable {P : Program} {ops : Array Oper} {Q : Exit → Act → World → Prop} {rn : Option Nat} {N : Nat}

theorem noDS_spec (h : noDS ops = true) {j : Nat} {o : Oper} (hj : ops[j]? = some o) : (∀ c, o.op ≠ .defer c) ∧ ∀ cs b, o.op ≠ .select cs b := by
  have := Array.all_eq_true_iff_forall_mem.1 h o (Array.mem_of_getElem? hj)
  exact ⟨fun c e => by simp [e] at this, fun cs b e => by simp [e] at this⟩
/-- What an operation that waits to be told of is known to come to: in which worlds. -/
structure Hq where
  i : Nat
  hold : World → Prop
noncomputable def waitsB (ops : Array Oper) (j i : Nat) : Prop := ∃ o, ops[j]? = some o ∧ ∃ e ∈ o.after, Region.binds .any e = true ∧ e.on = i
/-- Every order, what is held being kept until it is waited for. -/
noncomputable def wpH (P : Program) (ops : Array Oper) (Q : Exit → Act → World → Prop) (rn : Option Nat) (N : Nat) : Nat → List Hq → Array Bool → Act → World → Prop
  | 0, _, L, a, w => Region.ready .any ops L = [] ∧ Q .normal a w
  | k + 1, H, L, a, w => (Region.ready .any ops L = [] → Q .normal a w) ∧ ∀ j ∈ Region.ready .any ops L, wpOpIn (Wf rn) N P ops Q j (fun a' w' => (∀ h ∈ H, ¬ waitsB ops j h.i → h.hold w') ∧ ∃ H', (∀ h ∈ H, ¬ waitsB ops j h.i → h ∈ H') ∧ wpH P ops Q rn N k H' (L.setIfInBounds j true) a' w') a w
theorem wpH_any : ∀ (k : Nat) (H : List Hq) (L : Array Bool) (a : Act) (w : World), wpH P ops Q rn N k H L a w → wpAnyIn (Wf rn) N P .any ops Q k L a w
  | 0, _, _, _, _, h => h
  | k + 1, _, _, _, _, h => ⟨h.1, fun j hj => wpOpIn_mono (fun a' w' ⟨_, H', _, h2⟩ => wpH_any k H' _ a' w' h2) (h.2 j hj)⟩
theorem wpH_less : ∀ (k : Nat) {H H' : List Hq} {L : Array Bool} {a : Act} {w : World}, (∀ h ∈ H', h ∈ H) → wpH P ops Q rn N k H L a w → wpH P ops Q rn N k H' L a w
  | 0, _, _, _, _, _, _, h => h
  | _ + 1, _, _, _, _, _, hs, h => ⟨h.1, fun j hj => wpOpIn_mono (fun _ _ ⟨h1, H2, h2, h3⟩ => ⟨fun x hx hn => h1 x (hs x hx) hn, H2, fun x hx hn => h2 x (hs x hx) hn, h3⟩) (h.2 j hj)⟩
/-- One more turn at hand. -/
theorem wpH_more : ∀ (k : Nat) {H : List Hq} {L : Array Bool} {a : Act} {w : World}, wpH P ops Q rn N k H L a w → wpH P ops Q rn N (k + 1) H L a w
  | 0, _, _, _, _, h => ⟨fun _ => h.2, fun j hj => by rw [h.1] at hj; cases hj⟩
  | k + 1, _, _, _, _, h => ⟨h.1, fun j hj => wpOpIn_mono (fun _ _ ⟨h1, H2, h2, h3⟩ => ⟨h1, H2, h2, wpH_more k h3⟩) (h.2 j hj)⟩
noncomputable def SameAt (ops : Array Oper) (oi : Oper) (a a' : Act) : Prop := execOp a'.eval oi = execOp a.eval oi ∧ Region.wanted oi (yielded ops a'.tmps) = Region.wanted oi (yielded ops a.tmps)
theorem wpOpIn_swap {j : Nat} {oi oj : Oper} {v : Value} (hds : noDS ops = true) {i : Nat} (hi : ops[i]? = some oi) (hj : ops[j]? = some oj) (hap : oi.apart ops oj = true) (hQ : ∀ c a w, ¬ Q (.panic c) a w)
    {K : Act → World → Prop} {a : Act} {w : World} (h : wpOpIn (Wf rn) N P ops Q j K (a.put oi.dst v) w) : wpOpIn (Wf rn) N P ops Q j (fun a' w' => SameAt ops oi a a' ∧ K (a'.put oi.dst v) w') a w := by
  obtain ⟨h1, h2, h3⟩ := Oper.apart_spec hap
  obtain ⟨hdi, hsi⟩ := noDS_spec hds hi
  obtain ⟨hdj, hsj⟩ := noDS_spec hds hj
  have keep : ∀ u, SameAt ops oi a (a.put oj.dst u) := fun u => ⟨execOp_put oi hsi a oj.dst u h3, wanted_put oi a oj.dst u h3⟩
  have keepD : ∀ d, SameAt ops oi a ({ a with defers := d :: a.defers } : Act) := fun d => ⟨rfl, rfl⟩
  have keep2 : ∀ d u, SameAt ops oi a (({ a with defers := d :: a.defers } : Act).put oj.dst u) := fun d u =>
    ⟨(execOp_put oi hsi { a with defers := d :: a.defers } oj.dst u h3).trans rfl, (wanted_put oi { a with defers := d :: a.defers } oj.dst u h3).trans rfl⟩
  unfold wpOpIn at *
  simp only [hj] at *
  rw [wanted_put oj a oi.dst v h1] at h
  split
  · rename_i hw
    simp only [hw, if_true] at h
    refine ⟨fun _ _ => trivial, ?_⟩
    have h := h.2
    rw [Oper.semAt_eq _ _ _ hdj, execOp_put oj hsj a oi.dst v h1] at h
    rw [Oper.semAt_eq _ _ _ hdj]
    generalize (execOp a.eval oj).run P w = r at *
    cases r with
    | ok x w' =>
      cases x <;> simp only [Oper.uponIn] at h ⊢
      case value u => exact ⟨keep u, by rw [← Act.put_comm a v u h2]; exact h⟩
      case skip => exact ⟨keep _, by rw [← Act.put_comm a v undef h2]; exact h⟩
      case defer d =>
        refine ⟨keep2 d _, ?_⟩
        rw [← Act.put_comm _ v undef h2, ← Act.put_defers]
        exact h
      case enter f args =>
        refine ⟨h.1, CallsIn.mono h.2 fun e w'' he => ?_⟩
        cases e with
        | returned u => exact ⟨keep u, by rw [← Act.put_comm a v u h2]; exact he⟩
        | panicked c => exact absurd he (hQ _ _ _)
        | outgrown => exact he
      case row row args => exact ⟨h.1, RowsIn.mono h.2 fun u w'' he => ⟨keep u, by rw [← Act.put_comm a v u h2]; exact he⟩⟩
      case round l f tmps assign body =>
        refine ⟨h.1, RoundIn.mono h.2 fun e w'' he => ?_⟩
        cases e with
        | returned u => exact ⟨keep u, by rw [← Act.put_comm a v u h2]; exact he⟩
        | panicked c => exact absurd he (hQ _ _ _)
        | outgrown => exact he
    | halt x w' =>
      cases x <;> simp only [Oper.uponIn] at h ⊢
      case panic u => exact absurd h (hQ _ _ _)
  · rename_i hw
    simp only [hw] at h
    exact ⟨fun _ _ => trivial, keep _, by rw [← Act.put_comm a v undef h2]; exact h.2⟩
noncomputable def FreeAt (ops : Array Oper) (oi : Oper) (i : Nat) (L : Array Bool) : Prop := ∀ j oj, ops[j]? = some oj → j ≠ i → L.getD j true = false → ¬ waitsB ops j i → oi.apart ops oj = true
theorem FreeAt.mono {oi : Oper} {i : Nat} {L : Array Bool} (h : FreeAt ops oi i L) (j : Nat) : FreeAt ops oi i (L.setIfInBounds j true) := fun k ok hk hki hun hw => by
  refine h k ok hk hki ?_ hw
  by_cases e : j = k
  · subst e
    rcases Nat.lt_or_ge j L.size with h' | h'
    · simp [h'] at hun
    · rw [Array.getD_eq_getD_getElem?, Array.getElem?_eq_none (by simpa using h')] at hun; cases hun
  · rw [getD_set_ne true e] at hun; exact hun
theorem free_of {i : Nat} {oi : Oper} {L : Array Bool} (hi : ops[i]? = some oi) (h : Region.free .any ops L i = true) : FreeAt ops oi i L := fun j oj hj hne hun hw =>
  Region.free_spec hi h j oj hj hne hun fun e he hb heq => hw ⟨oj, hj, e, he, hb, heq⟩
theorem not_waits {i j : Nat} {L : Array Bool} (hj : j ∈ Region.ready .any ops L) (hi : L.getD i true = false) : ¬ waitsB ops j i := by
  rintro ⟨o, ho, e, he, hb, heq⟩
  obtain ⟨_, o', ho', hall⟩ := mem_ready.1 hj
  rw [ho] at ho'; cases ho'
  have h1 := hall e he hb
  rw [heq] at h1
  rcases Nat.lt_or_ge i L.size with h' | h'
  · simp [h'] at hi h1; rw [hi] at h1; cases h1
  · simp [Array.getElem?_eq_none h'] at h1
/-- An operation that only reads is taken first. -/
theorem wpH_first (hds : noDS ops = true) (hQ : ∀ c a w, ¬ Q (.panic c) a w) {i : Nat} {oi : Oper} {y : Value} {hold : World → Prop} (hi : ops[i]? = some oi) : ∀ (k : Nat) {H : List Hq} {L : Array Bool} {a : Act} {w : World}, FreeAt ops oi i L → i ∈ Region.ready .any ops L →
    (∀ h ∈ H, h.hold w) → hold w → (∀ w', hold w' → if Region.wanted oi (yielded ops a.tmps) then (execOp a.eval oi).run P w' = .ok (.value y) w' else y = undef) →
    wpH P ops Q rn N k (⟨i, hold⟩ :: H) (L.setIfInBounds i true) (a.put oi.dst y) w → wpH P ops Q rn N (k + 1) H L a w := by
  have hyield : ∀ {a : Act} {w : World} {K : Act → World → Prop}, (if Region.wanted oi (yielded ops a.tmps) then (execOp a.eval oi).run P w = .ok (.value y) w else y = undef) → K (a.put oi.dst y) w → wpOpIn (Wf rn) N P ops Q i K a w := by
    intro a w K hy hK
    unfold wpOpIn
    simp only [hi]
    split
    · rename_i hw
      rw [if_pos hw] at hy
      refine ⟨fun _ _ => trivial, ?_⟩
      rw [Oper.semAt_eq _ _ _ (noDS_spec hds hi).1, hy]
      exact hK
    · rename_i hw
      rw [if_neg hw] at hy
      subst hy
      exact ⟨fun _ _ => trivial, hK⟩
  intro k
  induction k with
  | zero =>
    intro H L a w hfree hr hH hh hy hrest
    refine ⟨fun h => (by rw [h] at hr; cases hr), fun j hj => ?_⟩
    by_cases hji : j = i
    · subst hji; exact hyield (hy w hh) ⟨fun h hm _ => hH h hm, ⟨j, hold⟩ :: H, fun h hm _ => by simp [hm], hrest⟩
    · have := ready_mono hj hji
      rw [hrest.1] at this
      cases this
  | succ k ih =>
    intro H L a w hfree hr hH hh hy hrest
    refine ⟨fun h => (by rw [h] at hr; cases hr), fun j hj => ?_⟩
    by_cases hji : j = i
    · subst hji; exact hyield (hy w hh) ⟨fun h hm _ => hH h hm, ⟨j, hold⟩ :: H, fun h hm _ => by simp [hm], hrest⟩
    · obtain ⟨hjun, oj, hoj, _⟩ := mem_ready.1 hj
      have hnot := not_waits hj (mem_ready.1 hr).1
      have h1 := wpOpIn_swap hds hi hoj (hfree j oj hoj hji hjun hnot) hQ (hrest.2 j (ready_mono hj hji))
      refine wpOpIn_mono (fun a' w' ⟨⟨s1, s2⟩, q1, H2, q2, q3⟩ => ?_) h1
      have hcl : ∀ h : Hq, Decidable (¬ waitsB ops j h.i) := fun _ => Classical.propDecidable _
      have hq1 : ∀ h ∈ H, ¬ waitsB ops j h.i → h.hold w' := fun h hm hn => q1 h (by simp [hm]) hn
      refine ⟨hq1, H.filter (fun h => decide (¬ waitsB ops j h.i)), fun h hm hn => List.mem_filter.2 ⟨hm, by simpa using hn⟩, ?_⟩
      refine ih (hfree.mono j) (ready_mono hr (Ne.symm hji)) (fun h hm => ?_) (q1 ⟨i, hold⟩ (by simp) hnot) (fun w'' hw'' => ?_) ?_
      · obtain ⟨m1, m2⟩ := List.mem_filter.1 hm
        exact hq1 h m1 (by simpa using m2)
      · rw [s2, s1]; exact hy w'' hw''
      · rw [Array.setIfInBounds_comm _ _ hji]
        refine wpH_less k (fun h hm => ?_) q3
        rcases List.mem_cons.1 hm with rfl | hm
        · exact q2 _ (by simp) hnot
        · obtain ⟨m1, m2⟩ := List.mem_filter.1 hm
          exact q2 h (by simp [m1]) (by simpa using m2)
end
end Go.Proofs.YthgkdadchfoomabGreat.Ev
