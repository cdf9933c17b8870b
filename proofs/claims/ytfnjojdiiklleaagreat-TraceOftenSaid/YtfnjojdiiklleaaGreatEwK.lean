/- Closed functions that are known to answer true, wherever they are called. -/
import Derived.Test.YtfnjojdiiklleaaGreatEwF
namespace Go.Proofs.YtfnjojdiiklleaaGreat.Ev
section
variable {P : Program} {ρ : Rho} {S : AS} {w : World}
/-- What abstract memory stands for is as it was in a world that has more. -/
theorem Sat.grown (hs : Sat P ρ S w) {w' : World} (hsz : w.heap.size ≤ w'.heap.size) (hold : ∀ g, g < w.heap.size → w'.heap[g]? = w.heap[g]?) : Sat P ρ S w' :=
  ⟨fun p => by
    by_cases hfr : S.at p = .free
    · have := hs.obj p
      rw [hfr] at this ⊢; exact this
    · exact (hs.obj p).mono hfr (Le.refl _) fun g off cap hg _ => hold g (hs.bnd _ _ _ _ hg),
  hs.inj, fun p g o c h => Nat.lt_of_lt_of_le (hs.bnd p g o c h) hsz,
  fun p g k h => ⟨Nat.lt_of_lt_of_le (hs.stp p g k h).1 hsz, fun es c hc => (hs.stp p g k h).2 es c (by rw [← hold g (hs.stp p g k h).1]; exact hc)⟩, hs.stinj, hs.glob⟩
/-- A function without arguments that answers true in every world, and leaves all that was. -/
noncomputable def ClosedIs (P : Program) (f : FuncId) : Prop := ∀ w : World, (callFunc f #[]).run P w = .ok (.enter f #[]) w ∧
  Calls P f #[] w fun e w' => e = .returned (.bool true) ∧ w.heap.size ≤ w'.heap.size ∧ (∀ g, g < w.heap.size → w'.heap[g]? = w.heap[g]?) ∧ w'.os = w.os ∧ w'.tape = w.tape ∧ w'.output = w.output
variable {cf : Cf}
theorem true_of {E : Ev} (he : EvSpec P E) (hg : P.globals.size = 0) {f : FuncId} (h : allTrue (E (.call f []) clean) = true) : ClosedIs P f := fun w => by
  obtain ⟨h1, h2⟩ := allTrue_ok h
  obtain ⟨h0, h3⟩ := he.call (start_sat hg w) (args := []) (us := []) rfl h1
  refine ⟨h0, callsIn_wide.1 (CallsIn.mono (h3 0) fun e w' hp => ?_)⟩
  cases e with
  | panicked c => exact hp.elim
  | outgrown => exact hp.elim
  | returned u =>
    obtain ⟨v, S', ρ', q1, q2, q3, q4⟩ := hp
    cases h2 v S' q1
    cases conc_bool q4
    refine ⟨rfl, q2.size, fun g hg' => q2.old g hg' ?_, q2.os, q2.tape, q2.output⟩
    rintro ⟨p, o, c, x, _⟩
    cases x
theorem closed_is {f : FuncId} {m : Nat} {l : List Kn} (hmix : P.follows .mixedOrders = true) (hg : P.globals.size = 0) (hl : ∀ e ∈ l, KnIs P e) (h : allTrue (fevK P cf l m (.call f []) clean) = true) : ClosedIs P f :=
  true_of (fevK_spec hmix hl m) hg h
/-- Calls of such functions are not gone through. -/
noncomputable def evC (l : List FuncId) (E : Ev) : Ev := fun k s => cTask k (fun f args => cB (bAnd (l.contains f) (cL args true fun _ _ => false)) (.one (.val (.bool true), s)) (E k s)) (fun _ _ _ _ _ _ => E k s) fun _ _ => E k s
theorem evC_spec {E : Ev} (he : EvSpec P E) {l : List FuncId} (hl : ∀ f ∈ l, ClosedIs P f) : EvSpec P (evC l E) := by
  refine ⟨fun {ρ S w f args us} hs ha hok => ?_, he.code, he.round⟩
  have hE : evC l E (.call f args) S = cB (bAnd (l.contains f) (cL args true fun _ _ => false)) (.one (.val (.bool true), S)) (E (.call f args) S) := rfl
  rw [hE] at hok ⊢
  cases hb : bAnd (l.contains f) (cL args true fun _ _ => false) with
  | false => rw [hb] at hok; exact he.call hs ha hok
  | true =>
    obtain ⟨h1, h2⟩ := bAnd_iff.1 hb
    cases args with
    | cons a r => cases h2
    | nil =>
    cases concs_nil ha
    obtain ⟨c1, c2⟩ := hl f (by simpa using h1) w
    refine ⟨c1, fun N => callsIn_wide.2 (c2.mono fun e w' hp => ?_)⟩
    obtain ⟨rfl, h3, h4, h5, h6, h7⟩ := hp
    exact ⟨.bool true, S, ρ, rfl, ⟨Le.refl _, h3, fun g hg _ => h4 g hg, fun _ _ h => h, h5, h6, h7, Tr.refl _⟩, hs.grown h3 h4, by simp only [conc]⟩
/-- The quick evaluator, with closed functions that are known. -/
noncomputable def fevC (P : Program) (cf : Cf) (l : List FuncId) (n : Nat) : Ev := iterF (fun _ _ => .no) (fun go => evC l (fevF P cf go)) n
theorem fevC_spec (hmix : P.follows .mixedOrders = true) {l : List FuncId} (hl : ∀ f ∈ l, ClosedIs P f) : ∀ n, EvSpec P (fevC P cf l n)
  | 0 => ⟨fun _ _ h => h.elim, fun _ _ _ h => h.elim, fun _ _ _ h => h.elim⟩
  | n + 1 => by
    show EvSpec P (evC l (fevF P cf (fevC P cf l n)))
    rw [fevF_is]
    exact evC_spec (evF_spec (fevC_spec hmix hl n) hmix) hl
theorem closed_by {f : FuncId} {m : Nat} {l : List FuncId} (hmix : P.follows .mixedOrders = true) (hg : P.globals.size = 0) (hl : ∀ f ∈ l, ClosedIs P f) (h : allTrue (fevC P cf l m (.call f []) clean) = true) : ClosedIs P f :=
  true_of (fevC_spec hmix hl m) hg h
end
end Go.Proofs.YtfnjojdiiklleaaGreat.Ev
namespace Go.Proofs.YtfnjojdiiklleaaGreat.Ev
section
variable {P : Program}
/-- These names are forgotten. -/
noncomputable def killL (l : List Nam) : AS → AS := itL (fun s => s) (fun i _ ih s => ih (putA s i .dead)) l
theorem killL_ok {ρ : Rho} {w : World} : ∀ {l : List Nam} {S : AS}, Sat P ρ S w → Sat P ρ (killL l S) w ∧ Ext ρ S w ρ (killL l S) w
  | [], S, hs => ⟨hs, Ext.refl _ _ _⟩
  | i :: l, S, hs => by
    obtain ⟨a1, a2⟩ := hs.kill (S' := putA S i .dead) (b := i.p) (at_putA (by intro e; cases e)) (Tr.put rfl)
    obtain ⟨b1, b2⟩ := killL_ok (l := l) a1
    exact ⟨b1, a2.trans b2⟩
/-- Behind a known call, forgotten. -/
theorem kn_kill {e e' : Kn} {l : List Nam} (h : KnIs P e) (h1 : e'.f = e.f) (h2 : e'.args = e.args) (h3 : e'.s = e.s) (h4 : e'.v = e.v) (h5 : e'.s' = killL l e.s') : KnIs P e' := by
  obtain ⟨f, args, s, v, s'⟩ := e
  obtain ⟨f2, args2, s2, v2, s2'⟩ := e'
  simp only at h1 h2 h3 h4 h5
  subst h1 h2 h3 h4 h5
  obtain ⟨hw, hk⟩ := h
  refine ⟨hw, fun {ρ w us} hs ha => ?_⟩
  obtain ⟨c1, c2⟩ := hk hs ha
  refine ⟨c1, fun N => CallsIn.mono (c2 N) fun e w' hp => ?_⟩
  cases e with
  | panicked c => exact hp.elim
  | outgrown => exact hp.elim
  | returned u =>
    obtain ⟨v', S', ρ', q1, q2, q3, q4⟩ := hp
    cases q1
    obtain ⟨d1, d2⟩ := killL_ok (l := l) q3
    exact ⟨_, _, ρ', rfl, q2.trans d2, d1, q4⟩
end
end Go.Proofs.YtfnjojdiiklleaaGreat.Ev
