/- A run of a program on abstract memory: code. -/
import Derived.Test.YtfmaapbibmnfgaaGreatDoorEvZd
import Derived.Test.YtfmaapbibmnfgaaGreatDoorEvYa
import Derived.RangeFuncIn
set_option linter.unusedSectionVars false
set_option linter.unusedVariables false
set_option linter.unusedSimpArgs false
namespace Go.Proofs.YtfmaapbibmnfgaaGreatDoor.Ev
variable [Vr]
section
variable {P : Program} {F : Fence} {n : Nat} {Q : Exit → Act → World → Prop} {a : Act} {w : World}

/-! ### A loop, unrolled; a scope -/
theorem exitTo_len : ∀ {id : Nat} {k k' : List Item}, exitTo id k = some k' → k'.length ≤ k.length
  | _, [], _, h => by cases h
  | id, x :: k, k', h => by
    cases x with
    | inBlock i =>
      simp only [exitTo] at h
      split at h
      · cases h; simp
      · have := exitTo_len h; simp; omega
    | _ => simp only [exitTo] at h; have := exitTo_len h; simp; omega
theorem lone_todo {fr fr' : Frame} {cs cs' : List Frame} {w w' : World} (h : lone fr cs w = lone fr' cs' w') : fr.todo = fr'.todo ∧ fr.mode = fr'.mode := by
  have h1 := congrArg (fun m : Machine => m.gs) h
  simp only [lone] at h1
  have h2 := Array.mk.inj h1
  have h3 := (List.cons.inj h2).1
  have h4 : fr = fr' := congrArg Goroutine.frame h3
  rw [h4]; exact ⟨rfl, rfl⟩
noncomputable def Plainly (Q : Exit → Act → World → Prop) : Prop := ∀ e a w, Q e a w → e = .normal ∨ e = .ret ∨ ∃ i, e = .exit i
theorem wpIn_unroll {c : Code} (hQ : Plainly Q) (h : c.wpIn F n P (Exit.then (fun a w => (Code.loop c).wpIn F n P Q a w) Q) a w) : (Code.loop c).wpIn F n P Q a w := by
  intro b k cs hro hb hr
  obtain ⟨e, a₁, w₁, hq, harr⟩ := h b (.inLoop c :: k) cs hro hb hr
  have h0 : StepsIn (Machine.fenced P F) P (lone (b.atR a (.code (.loop c) :: k)) cs w) (lone (b.atR a (.code c :: .inLoop c :: k)) cs w) := .one (fenced_calm hb hr rfl) stepR_loop
  have move : ∀ {m t : Machine}, t ≠ lone (b.atR a₁ (.code (.loop c) :: k)) cs w₁ → StepsIn (Machine.fenced P F) P (lone (b.atR a₁ (.code (.loop c) :: k)) cs w₁) t → StepsIn (Machine.fenced P F) P (lone (b.atR a₁ (.inLoop c :: k)) cs w₁) t := fun {m t} hne hs => by
    cases hs with
    | refl => exact absurd rfl hne
    | head hI hst hs' =>
      rw [stepR_loop] at hst
      cases hst
      exact .head (fenced_calm hb hr rfl) stepR_inLoop hs'
  cases e with
  | normal =>
    obtain ⟨e₂, a₂, w₂, hq₂, harr₂⟩ := hq b k cs hro hb hr
    refine ⟨e₂, a₂, w₂, hq₂, .of_steps (h0.trans harr) ?_⟩
    rcases hQ _ _ _ hq₂ with rfl | rfl | ⟨i, rfl⟩
    · refine move (m := lone (b.atR a₁ (.inLoop c :: k)) cs w₁) (fun e => ?_) harr₂
      have := congrArg List.length (lone_todo e).1
      simp [Frame.atR] at this
    · refine ⟨fun hn => ?_, fun hn => ?_⟩
      · obtain ⟨todo, hs⟩ := harr₂.1 hn
        refine ⟨todo, move (m := lone (b.atR a₁ (.inLoop c :: k)) cs w₁) (fun e => ?_) hs⟩
        have := (lone_todo e).2
        simp [Frame.atR] at this
      · obtain ⟨k₁, hs⟩ := harr₂.2 hn
        refine ⟨k₁, move (m := lone (b.atR a₁ (.inLoop c :: k)) cs w₁) (fun e => ?_) hs⟩
        have := (lone_todo e).1
        simp [Frame.atR] at this
    · refine ⟨fun k' hk => ?_, fun hn hk => ?_⟩
      · refine move (m := lone (b.atR a₁ (.inLoop c :: k)) cs w₁) (fun e => ?_) (harr₂.1 k' hk)
        have h1 := congrArg List.length (lone_todo e).1
        have h2 := exitTo_len hk
        simp [Frame.atR] at h1
        omega
      · obtain ⟨k₁, hk1, hs⟩ := harr₂.2 hn hk
        refine ⟨k₁, hk1, move (m := lone (b.atR a₁ (.inLoop c :: k)) cs w₁) (fun e => ?_) hs⟩
        have := (lone_todo e).1
        simp [Frame.atR] at this
  | exit id => exact ⟨_, a₁, w₁, hq, .of_steps h0 (.pass (x := .inLoop c) rfl (fun _ _ => .inl (by simp)) harr)⟩
  | goto l => exact ⟨_, a₁, w₁, hq, .of_steps h0 (.pass (x := .inLoop c) rfl (fun _ _ => .inl (by simp)) harr)⟩
  | ret => exact ⟨_, a₁, w₁, hq, .of_steps h0 (.pass (x := .inLoop c) rfl (fun _ _ => .inl (by simp)) harr)⟩
  | panic ch => exact ⟨_, a₁, w₁, hq, .of_steps h0 (.pass (x := .inLoop c) rfl (fun _ _ => .inl (by simp)) harr)⟩
  | outgrown => exact ⟨_, a₁, w₁, hq, .of_steps h0 (.pass (x := .inLoop c) rfl (fun _ _ => .inl (by simp)) harr)⟩
theorem wpIn_scope {c : Code} (hQ : Plainly Q) (h : c.wpIn F n P Q a w) : (Code.scope c).wpIn F n P Q a w := by
  intro b k cs hro hb hr
  have h0 : StepsIn (Machine.fenced P F) P (lone (b.atR a (.code (.scope c) :: k)) cs w) (lone (b.atR a (.code c :: .inScope c :: k)) cs w) := .one (fenced_calm hb hr rfl) (step_lone_go (by simp [stepG, stepG.exec, Frame.atR]))
  obtain ⟨e, a₁, w₁, hq, harr⟩ := h b (.inScope c :: k) cs hro hb hr
  rcases hQ _ _ _ hq with rfl | rfl | ⟨i, rfl⟩
  · exact ⟨.normal, a₁, w₁, hq, h0.trans (StepsIn.trans harr (.one (fenced_calm hb hr rfl) (step_lone_go (by simp [stepG, stepG.exec, Frame.atR]))))⟩
  · exact ⟨.ret, a₁, w₁, hq, .of_steps h0 harr⟩
  · exact ⟨.exit i, a₁, w₁, hq, fun k' hk => h0.trans (harr.1 k' (by simp [exitTo, hk])), fun hn hk => let ⟨k₁, h1, h2⟩ := harr.2 hn (by simp [exitTo, hk]); ⟨k₁, h1, h0.trans h2⟩⟩
end
section
variable {P : Program} {cf : Cf} {vm : Vm} {fn : FuncId}
theorem replicate_getD {m j : Nat} {d : Bool} : (Array.replicate m false).getD j d = if j < m then false else d := by
  rw [Array.getD_eq_getD_getElem?]
  by_cases h : j < m
  · rw [Array.getElem?_replicate, if_pos h, if_pos h]; rfl
  · rw [Array.getElem?_replicate, if_neg h, if_neg h]; rfl
theorem draw_ok {ev : Ev} (he : EvSpec P ev) (hmix : P.follows .mixedOrders = true) {ops : Array Oper} {id n : Nat} {rn : Option Nat} {N : Nat} {Q : Exit → Act → World → Prop} (hQ : ∀ c a w, ¬ Q (.panic c) a w) {ρ : Rho} {S : AS} {w : World} {fr : FrA} {a : Act}
    (hs : Sat P ρ S w) (hf : FR vm ρ fr n (fun _ => False) a) (hok : ((kDraw P cf vm fn n ops).f ev fr S).ok)
    (hpost : ∀ fr' S' ρ' a' w', ((kDraw P cf vm fn n ops).f ev fr S).has (fr', S') → Ext ρ S w ρ' S' w' → Sat P ρ' S' w' → FR vm ρ' fr' n (fun _ => False) a' → Q .normal a' w') : (Code.region id ops true).wpIn (Wf rn) N P Q a w := by
  unfold kDraw kDrawM at hok hpost
  cases hb : (noDS ops && okPlanF ops (mks ops ops.toList 0) (planD P ops (mks ops ops.toList 0))) with
  | false => rw [hb] at hok; exact hok.elim
  | true =>
  rw [hb] at hok hpost
  simp only [Bool.and_eq_true] at hb
  refine wpIn_region_any hmix (wpH_any _ [] _ _ _ ?_)
  have hg : ∀ j d, (noneListed ops).getD j d = if j < ops.size then false else d := fun j d => replicate_getD
  refine plan_ok (ρ0 := ρ) (S0 := S) (w0 := w) he hb.1 hQ (planD P ops (mks ops ops.toList 0)) (okPlanF_ok hb.2) hok hpost ops.size (G := fun _ => none) ⟨⟨hs.obj, hs.inj, hs.bnd, hs.stp, hs.stinj, hs.glob, hs.vars⟩, ⟨Le.refl _, Nat.le_refl _, fun _ _ _ => rfl, fun _ _ h => h, rfl, rfl, rfl, Tr.refl _⟩, by simp [noneListed], by simp [noneListed], by simp, fun j h => h, fun j hj => ?_, fun j g h => (by cases h), fun j j' g h => (by cases h), fun j h1 h2 => ?_, hf.weaken fun i h => h.elim, fun h hm => (by cases hm), rfl, fun k hk => by obtain ⟨c, hc⟩ := hs.glob k hk; exact hs.bnd _ _ _ _ (look_path hc)⟩ ?_
  · have := hg j true
    constructor
    · intro h; exact .inl h
    · rintro (h | ⟨g, h⟩)
      · exact h
      · cases h
  · have : (noneListed ops).getD j true = true := h2
    rw [h1] at this; cases this
  · exact Nat.le_trans List.countP_le_length (by simp)
end
end Go.Proofs.YtfmaapbibmnfgaaGreatDoor.Ev
namespace Go.Proofs.YtfmaapbibmnfgaaGreatDoor.Ev
variable [Vr]
section
variable {P : Program} {cf : Cf} {vm : Vm} {fn : FuncId} {n : Nat} {ρ : Rho} {S : AS} {w : World}

theorem plainly_code {x : R (Out × AS)} : Plainly (CodePost P vm ρ S w n x) := by
  rintro e a w' ⟨ex, fr, S', ρ', _, h, _⟩
  cases ex <;> cases e <;> first | exact h.elim | exact .inl rfl | exact .inr (.inl rfl) | exact .inr (.inr ⟨_, rfl⟩)
theorem CodePost.lift {ρ' : Rho} {S' : AS} {w' : World} {x X : R (Out × AS)} {e : Exit} {a : Act} {w'' : World} (h : CodePost P vm ρ' S' w' n x e a w'') (hx : ∀ z, x.has z → X.has z) (he : Ext ρ S w ρ' S' w') : CodePost P vm ρ S w n X e a w'' := by
  obtain ⟨ex, fr, S2, ρ2, h1, h2, h3, h4, h5⟩ := h
  exact ⟨ex, fr, S2, ρ2, hx _ h1, h2, he.trans h3, h4, h5⟩
theorem CodePost.here {fr : FrA} {a : Act} {x : R (Out × AS)} {ex : Ex} {e : Exit} (hs : Sat P ρ S w) (hf : FR vm ρ fr n (fun _ => False) a) (hx : x.has (.ex ex fr, S)) (he : relX ex e) : CodePost P vm ρ S w n x e a w :=
  ⟨ex, fr, S, ρ, hx, he, Ext.refl _ _ _, hs, hf⟩
theorem thenA_ok {x : R (Out × AS)} {f : FrA → AS → R (Out × AS)} (h : (thenA x f).ok) : x.ok ∧ ∀ ex fr S', x.has (.ex ex fr, S') → (ex = .normal → (f fr S').ok ∧ ∀ z, (f fr S').has z → (thenA x f).has z) ∧ (ex ≠ .normal → (thenA x f).has (.ex ex fr, S')) := by
  obtain ⟨h1, h2⟩ := bindR_ok h
  refine ⟨h1, fun ex fr S' hx => ?_⟩
  obtain ⟨h3, h4⟩ := h2 _ hx
  cases ex with
  | normal => exact ⟨fun _ => ⟨h3, h4⟩, fun h => absurd rfl h⟩
  | exit i => exact ⟨fun h => (by cases h), fun _ => h4 _ rfl⟩
  | ret => exact ⟨fun h => (by cases h), fun _ => h4 _ rfl⟩
/-- What a piece of code is to show. -/
noncomputable def CodeIs (P : Program) (cf : Cf) (vm : Vm) (fn : FuncId) (n : Nat) (ev : Ev) (c : Code) : Prop := ∀ (ρ : Rho) (S : AS) (w : World) (rd : Option Nam) (rn : Option Nat) (fr : FrA) (a : Act), Sat P ρ S w → relR ρ rd rn → FR vm ρ fr n (fun _ => False) a →
  ((kCode P cf vm fn n c).f rd ev fr S).ok → ∀ N, c.wpIn (Wf rn) N P (CodePost P vm ρ S w n ((kCode P cf vm fn n c).f rd ev fr S)) a w
theorem kCode_ok {ev : Ev} (he : EvSpec P ev) (hmix : P.follows .mixedOrders = true) (hrange : ∀ x params assign body, CodeIs P cf vm fn n ev (.rangeFunc x params assign body)) : ∀ c, CodeIs P cf vm fn n ev c
  | .skip => fun ρ S w rd rn fr a hs hr hf hok N => wpIn_skip (CodePost.here hs hf rfl trivial)
  | .label l => fun ρ S w rd rn fr a hs hr hf hok N => wpIn_label (CodePost.here hs hf rfl trivial)
  | .exit i => fun ρ S w rd rn fr a hs hr hf hok N => wpIn_exit (CodePost.here hs hf rfl rfl)
  | .ret => fun ρ S w rd rn fr a hs hr hf hok N => wpIn_ret (CodePost.here hs hf rfl trivial)
  | .goto l => fun ρ S w rd rn fr a hs hr hf hok N => hok.elim
  | .refuse l => fun ρ S w rd rn fr a hs hr hf hok N => hok.elim
  | .seq x y => fun ρ S w rd rn fr a hs hr hf hok N => by
    have hok' : (thenA ((kCode P cf vm fn n x).f rd ev fr S) fun fr s => (kCode P cf vm fn n y).f rd ev fr s).ok := hok
    obtain ⟨h1, h2⟩ := thenA_ok hok'
    refine wpIn_seq (wpIn_mono (kCode_ok he hmix hrange x _ _ _ _ _ _ _ hs hr hf h1 N) fun e a' w' hp => ?_)
    obtain ⟨ex, fr', S', ρ', q1, q2, q3, q4, q5⟩ := hp
    obtain ⟨h3, h4⟩ := h2 ex fr' S' q1
    cases ex with
    | normal =>
      cases e with
      | normal =>
        obtain ⟨h5, h6⟩ := h3 rfl
        exact wpIn_mono (kCode_ok he hmix hrange y _ _ _ _ _ _ _ q4 (hr.mono q3.le) q5 h5 N) fun e a'' w'' hp => hp.lift h6 q3
      | _ => exact q2.elim
    | exit i =>
      cases e with
      | exit j => exact ⟨_, fr', S', ρ', h4 (by intro e; cases e), q2, q3, q4, q5⟩
      | _ => exact q2.elim
    | ret =>
      cases e with
      | ret => exact ⟨_, fr', S', ρ', h4 (by intro e; cases e), q2, q3, q4, q5⟩
      | _ => exact q2.elim
  | .cond x y z => fun ρ S w rd rn fr a hs hr hf hok N => by
    unfold kCode at hok ⊢
    cases hk : okX P.globals.size x with
    | false => rw [hk] at hok; exact hok.elim
    | true =>
    rw [hk] at hok
    have hc := hf.opd hs x (fun _ _ h => h) hk
    have hok : (vBool ((cX1 vm x).f fr) R.no fun t => cB t ((kCode P cf vm fn n y).f rd ev fr S) ((kCode P cf vm fn n z).f rd ev fr S)).ok := hok
    show (Code.cond x y z).wpIn (Wf rn) N P (CodePost P vm ρ S w n (vBool ((cX1 vm x).f fr) R.no fun t => cB t ((kCode P cf vm fn n y).f rd ev fr S) ((kCode P cf vm fn n z).f rd ev fr S))) a w
    cases hv : (cX1 vm x).f fr with
    | bool t =>
      rw [hv] at hok hc
      have hc := conc_bool hc
      refine wpIn_cond hc ?_
      cases t with
      | true => exact kCode_ok he hmix hrange y _ _ _ _ _ _ _ hs hr hf hok N
      | false => exact kCode_ok he hmix hrange z _ _ _ _ _ _ _ hs hr hf hok N
    | _ => rw [hv] at hok; exact hok.elim
  | .block i b => fun ρ S w rd rn fr a hs hr hf hok N => by
    have hok' : (bindR ((kCode P cf vm fn n b).f rd ev fr S) fun y => cOut y.1 (fun _ => R.no) fun e fr => cX e (.one y) (fun j => cB (Nat.beq i j) (.one (.ex .normal fr, y.2)) (.one y)) (.one y)).ok := hok
    obtain ⟨h1, h2⟩ := bindR_ok hok'
    refine wpIn_block (wpIn_mono (kCode_ok he hmix hrange b _ _ _ _ _ _ _ hs hr hf h1 N) fun e a' w' hp => ?_)
    obtain ⟨ex, fr', S', ρ', q1, q2, q3, q4, q5⟩ := hp
    obtain ⟨h3, h4⟩ := h2 _ q1
    cases ex with
    | normal =>
      cases e with
      | normal => exact ⟨_, fr', S', ρ', h4 _ rfl, q2, q3, q4, q5⟩
      | _ => exact q2.elim
    | exit j =>
      cases e with
      | exit j' =>
        have q2 : j = j' := q2
        subst q2
        simp only [Exit.inBlock]
        split
        · rename_i e1
          subst e1
          refine ⟨.normal, fr', S', ρ', h4 _ ?_, trivial, q3, q4, q5⟩
          show (cB (Nat.beq j j) (R.one (Out.ex .normal fr', S')) _).has _
          rw [Nat.beq_refl]; rfl
        · rename_i e1
          refine ⟨.exit j, fr', S', ρ', h4 _ ?_, rfl, q3, q4, q5⟩
          show (cB (Nat.beq i j) _ (R.one (Out.ex (.exit j) fr', S'))).has _
          have : Nat.beq i j = false := by cases hb : Nat.beq i j with | false => rfl | true => rw [Nat.beq_eq] at hb; exact absurd hb.symm e1
          rw [this]; rfl
      | _ => exact q2.elim
    | ret =>
      cases e with
      | ret => exact ⟨_, fr', S', ρ', h4 _ rfl, q2, q3, q4, q5⟩
      | _ => exact q2.elim
  | .loop b => fun ρ S w rd rn fr a hs hr hf hok N => by
    have hok' : (thenA ((kCode P cf vm fn n b).f rd ev fr S) fun fr s => ev (.code (.loop b) fn vm n rd fr) s).ok := hok
    obtain ⟨h1, h2⟩ := thenA_ok hok'
    refine wpIn_unroll plainly_code (wpIn_mono (kCode_ok he hmix hrange b _ _ _ _ _ _ _ hs hr hf h1 N) fun e a' w' hp => ?_)
    obtain ⟨ex, fr', S', ρ', q1, q2, q3, q4, q5⟩ := hp
    obtain ⟨h3, h4⟩ := h2 ex fr' S' q1
    cases ex with
    | normal =>
      cases e with
      | normal =>
        obtain ⟨h5, h6⟩ := h3 rfl
        exact wpIn_mono (he.code q4 (hr.mono q3.le) q5 h5 N) fun e a'' w'' hp => hp.lift h6 q3
      | _ => exact q2.elim
    | exit i =>
      cases e with
      | exit j => exact ⟨_, fr', S', ρ', h4 (by intro e; cases e), q2, q3, q4, q5⟩
      | _ => exact q2.elim
    | ret =>
      cases e with
      | ret => exact ⟨_, fr', S', ρ', h4 (by intro e; cases e), q2, q3, q4, q5⟩
      | _ => exact q2.elim
  | .scope b => fun ρ S w rd rn fr a hs hr hf hok N => wpIn_scope plainly_code (kCode_ok he hmix hrange b _ _ _ _ _ _ _ hs hr hf hok N)
  | .region id ops false => fun ρ S w rd rn fr a hs hr hf hok N => by
    have hok' : (bindR ((kOps P cf vm fn n ops ops.toList).f ev fr S) fun x => R.one (Out.ex .normal x.1, x.2)).ok := hok
    obtain ⟨h1, h2⟩ := bindR_ok hok'
    exact wpIn_region_list (kOps_ok he ops.toList hs hf h1 fun fr' S' ρ' a' w' r1 r2 r3 r4 => ⟨.normal, fr', S', ρ', (h2 _ r1).2 _ rfl, trivial, r2, r3, r4⟩)
  | .region id ops true => fun ρ S w rd rn fr a hs hr hf hok N => by
    have hok' : (bindR ((kDraw P cf vm fn n ops).f ev fr S) fun x => R.one (Out.ex .normal x.1, x.2)).ok := hok
    obtain ⟨h1, h2⟩ := bindR_ok hok'
    refine draw_ok he hmix (fun c a w h => ?_) hs hf h1 fun fr' S' ρ' a' w' r1 r2 r3 r4 => ⟨.normal, fr', S', ρ', (h2 _ r1).2 _ rfl, trivial, r2, r3, r4⟩
    rcases plainly_code _ _ _ h with e | e | ⟨i, e⟩ <;> cases e
  | .rangeFunc x params assign body => hrange x params assign body
end
end Go.Proofs.YtfmaapbibmnfgaaGreatDoor.Ev
namespace Go.Proofs.YtfmaapbibmnfgaaGreatDoor.Ev
variable [Vr]
section
variable {P : Program} {cf : Cf} {vm : Vm} {fn : FuncId} {n : Nat} {ρ : Rho} {S : AS} {w : World}

theorem loop_of (hs : Sat P ρ S w) {l : Nam} {r : ALoop} (ho : S.at l.p = .loop r) {g o c : Nat} (hl : look ρ l = some (.blk g o c)) : ∃ q, w.heap[g]? = some (.loop q) ∧ relL ρ r q := by
  have := hs.obj l.p
  rw [ho] at this
  obtain ⟨g', o', c', q, h1, h2, h3⟩ := this
  rw [look_path hl] at h1
  cases h1
  exact ⟨q, h2, h3⟩
theorem run_getLoop {g : Nat} {q : Loop} (h : w.heap[g]? = some (.loop q)) : (Instr.getLoop g).run P w = .ok q w := by
  simp [Instr.getLoop, run_getObj h (by intro a t f e; cases e)]
theorem relL.mono {ρ' : Rho} {r : ALoop} {q : Loop} (h : relL ρ r q) (hl : Le ρ ρ') : relL ρ' r q :=
  ⟨h.state, h.pending, h.size, fun i hi => conc_mono hl _ (h.tmps i hi), h.params, h.assign, h.body, let ⟨o, c, h4⟩ := h.defers; ⟨o, c, hl.look h4⟩⟩
/-- A loop's record is written. -/
theorem Sat.setLoop (hs : Sat P ρ S w) {l : Nam} {r r' : ALoop} {q q' : Loop} {g o c : Nat} (ho : S.at l.p = .loop r) (hl : look ρ l = some (.blk g o c)) (hq : w.heap[g]? = some (.loop q)) (hr : relL ρ r' q') :
    Sat P ρ (putA S l (.loop r')) { w with heap := w.heap.setIfInBounds g (.loop q') } ∧ Ext ρ S w ρ (putA S l (.loop r')) { w with heap := w.heap.setIfInBounds g (.loop q') } := by
  have hlt : g < w.heap.size := (Array.getElem?_eq_some_iff.1 hq).1
  have h1 : (w.heap.setIfInBounds g (.loop q'))[g]? = some (.loop q') := by rw [Array.getElem?_setIfInBounds_self_of_lt hlt]
  have hat : ∀ p, (putA S l (.loop r')).at p = if p = l.p then .loop r' else S.at p := at_putA (by intro e; cases e)
  refine hs.upd (w' := { w with heap := w.heap.setIfInBounds g (.loop q') }) (look_path hl) (by rw [ho]; exact trivial) (by rw [hat, if_pos rfl]; exact trivial) (Le.refl _) (fun p t h => .inl h) (fun p hp => .inl (by rw [hat, if_neg hp])) (Tr.put rfl) ?_ (by simp)
    (fun g' hg => Array.getElem?_setIfInBounds_ne (Ne.symm hg)) ?_ rfl rfl rfl
  · rw [hat, if_pos rfl]; exact ⟨g, o, c, q', look_path hl, h1, hr⟩
  · intro es c' hc
    have h1' : ({ w with heap := w.heap.setIfInBounds g (.loop q') } : World).heap[g]? = _ := h1
    rw [h1'] at hc; cases hc
/-- The record of a new loop. -/
theorem new_loop (hs : Sat P ρ S w) {rec_ : Loop} {r : ALoop} {i : Nam} (hf : S.at i.p = .free) (hr : relL ρ r rec_) {m : Nat} :
    Sat P (ρ.set i.p (.blk w.heap.size 0 0)) ⟨hput S.top i.p (.loop r), S.lay, logA S i, m⟩ { w with heap := w.heap.push (.loop rec_) } ∧ Ext ρ S w (ρ.set i.p (.blk w.heap.size 0 0)) ⟨hput S.top i.p (.loop r), S.lay, logA S i, m⟩ { w with heap := w.heap.push (.loop rec_) } :=
  hs.new (o := .loop r) (ob := .loop rec_) (off := 0) (cap := 0) (w' := { w with heap := w.heap.push (.loop rec_) }) hf (at_put (by intro e; cases e) rfl) (Tr.put rfl) rfl rfl rfl rfl fun hle =>
    ⟨w.heap.size, 0, 0, rec_, Rho.set_same _ _ _, by simp, hr.mono hle⟩
theorem new_defr (hs : Sat P ρ S w) {i : Nam} (hf : S.at i.p = .free) {m : Nat} :
    Sat P (ρ.set i.p (.blk w.heap.size 0 0)) ⟨hput S.top i.p .defr, S.lay, logA S i, m⟩ { w with heap := w.heap.push (.deferred (some [])) } ∧ Ext ρ S w (ρ.set i.p (.blk w.heap.size 0 0)) ⟨hput S.top i.p .defr, S.lay, logA S i, m⟩ { w with heap := w.heap.push (.deferred (some [])) } :=
  hs.new (o := .defr) (ob := .deferred (some [])) (off := 0) (cap := 0) (w' := { w with heap := w.heap.push (.deferred (some [])) }) hf (at_put (by intro e; cases e) rfl) (Tr.put rfl) rfl rfl rfl rfl fun hle =>
    ⟨w.heap.size, 0, 0, Rho.set_same _ _ _, by simp⟩
/-- The loop goes on from its record: the function is called, and what it left is done. -/
theorem rangeIn_ok {ev : Ev} (he : EvSpec P ev) {params : Array Tmp} {assign body : Code} {rd : Option Nam} {rn : Option Nat} {gf : FuncId} {first cap : List AV} {fs cs : List Value} {t : TF} {d : Nam} {ds : List Nam} {fid : FuncId} {dg : Nat} {a : Act} {mark : List Deferred} {tmps : Array Value}
    (hs : Sat P ρ S w) (hr : relR ρ rd rn) (ht : tmps = a.tmps) (hf : FR vm ρ ⟨t, ds⟩ n (fun _ => False) { a with defers := mark ++ a.defers }) (hd : ∃ o c, look ρ d = some (.blk dg o c)) (hfs : concs ρ first = some fs) (hcs : concs ρ cap = some cs)
    (hok : (rangeIn vm fn n ev params assign body rd gf first cap t d ds S).ok) (N : Nat) :
    (callFunc gf (fs ++ .func (.yield w.heap.size) #[] #[] :: cs).toArray).run P { w with heap := w.heap.push (.loop { state := .ready, pending := none, fn := fid, tmps := tmps, params := params, assign := assign, body := body, defers := dg }) } =
        .ok (.enter gf (fs ++ .func (.yield w.heap.size) #[] #[] :: cs).toArray) { w with heap := w.heap.push (.loop { state := .ready, pending := none, fn := fid, tmps := tmps, params := params, assign := assign, body := body, defers := dg }) } ∧
      CallsIn (Wf rn) (N - 1) P gf (fs ++ .func (.yield w.heap.size) #[] #[] :: cs).toArray { w with heap := w.heap.push (.loop { state := .ready, pending := none, fn := fid, tmps := tmps, params := params, assign := assign, body := body, defers := dg }) }
        (rangePost (Wf rn) N P w.heap.size (CodePost P vm ρ S w n (rangeIn vm fn n ev params assign body rd gf first cap t d ds S)) { a with defers := mark ++ a.defers }) := by
  subst ht
  have hne : rangeIn vm fn n ev params assign body rd gf first cap t d ds S ≠ R.no := by intro e; rw [e] at hok; exact hok
  obtain ⟨l, hl, hfree, heq⟩ := newA_ok (S := S) (o := .loop ⟨.ready, none, ⟨fn, vm, n, params, assign, body, t, d⟩⟩) (by_ := 1) (no := R.no)
    (k := fun l s2 => bindR (ev (.call gf (app first (.yld l :: cap))) s2) fun y => cOut y.1 (fun _ => endLoopA vm fn n ev rd l ⟨t, ds⟩ y.2) fun _ _ => .no) (x := rangeIn vm fn n ev params assign body rd gf first cap t d ds S) rfl hne
  rw [← heq] at hok ⊢
  have hrel : relL ρ ⟨.ready, none, ⟨fn, vm, n, params, assign, body, t, d⟩⟩ { state := .ready, pending := none, fn := fid, tmps := a.tmps, params := params, assign := assign, body := body, defers := dg } :=
    ⟨rfl, rfl, hf.size, fun i hi => hf.tmps i hi (fun h => h), rfl, rfl, rfl, hd⟩
  obtain ⟨s1, s2⟩ := new_loop (m := Nat.add S.next 1) hs hfree hrel
  obtain ⟨h1, h2⟩ := bindR_ok hok
  have hargs : concs (ρ.set l.p (.blk w.heap.size 0 0)) (app first (.yld l :: cap)) = some (fs ++ .func (.yield w.heap.size) #[] #[] :: cs) := by
    rw [app_eq]
    exact concs_append (concs_mono s2.le _ hfs) (concs_cons' (by simp only [conc, look_set hl]) (concs_mono s2.le _ hcs))
  obtain ⟨c1, c2⟩ := he.call s1 hargs h1
  refine ⟨c1, CallsIn.mono (c2 (N - 1)) fun e w3 hp => ?_⟩
  cases e with
  | panicked ch => exact hp.elim
  | outgrown => exact hp.elim
  | returned u =>
    obtain ⟨v, S3, ρ3, q1, q2, q3, q4⟩ := hp
    obtain ⟨h3, h4⟩ := h2 _ q1
    have h3 : (endLoopA vm fn n ev rd l ⟨t, ds⟩ S3).ok := h3
    have h4 : ∀ z, (endLoopA vm fn n ev rd l ⟨t, ds⟩ S3).has z → _ := h4
    have hext := s2.trans q2
    have hl3 : look ρ3 l = some (.blk w.heap.size 0 0) := q2.le.look (look_set hl _)
    cases ho : S3.at l.p with
    | loop r =>
      obtain ⟨q, hq, hrq⟩ := loop_of q3 ho hl3
      have hE : endLoopA vm fn n ev rd l ⟨t, ds⟩ S3 = cB (busyA r.state) .no (cO r.pending (.one (.ex .normal ⟨t, ds⟩, putA S3 l (.loop ⟨.exhausted, r.pending, r.st⟩))) fun c => ev (.code c fn vm n rd ⟨t, ds⟩) (putA S3 l (.loop ⟨.exhausted, r.pending, r.st⟩))) := by
        unfold endLoopA
        rw [getA_eq, ho]; rfl
      rw [hE] at h3 h4
      cases hb : busyA r.state with
      | true => rw [hb] at h3; exact h3.elim
      | false =>
      rw [hb] at h3 h4
      simp only [cB_false] at h3 h4
      have hnb : q.state ≠ .busy := by rw [hrq.state]; intro e; rw [e] at hb; cases hb
      obtain ⟨t1, t2⟩ := q3.setLoop (r' := ⟨.exhausted, r.pending, r.st⟩) (q' := { q with state := .exhausted }) ho hl3 hq ⟨rfl, hrq.pending, hrq.size, hrq.tmps, hrq.params, hrq.assign, hrq.body, hrq.defers⟩
      have hend : (Instr.endLoop w.heap.size).run P w3 = .ok q.pending { w3 with heap := w3.heap.setIfInBounds w.heap.size (.loop { q with state := .exhausted }) } := by
        have hbq : (q.state == LoopState.busy) = false := by
          cases hqs : q.state <;> first | rfl | exact absurd hqs hnb
        simp only [Instr.endLoop, Sem.run_bind, run_getLoop hq, Result.andThen_ok, hbq, Bool.false_eq_true, if_false, run_setObj hq (by intro a t f e; cases e), Sem.run_pure]
      refine ⟨q.pending, _, hend, ?_⟩
      have hf4 : FR vm ρ3 ⟨t, ds⟩ n (fun _ => False) { a with defers := mark ++ a.defers } := hf.mono hext.le
      rw [hrq.pending] at t1 t2 ⊢
      cases hpd : r.pending with
      | none =>
        rw [hpd] at h4 t1 t2
        exact ⟨.normal, ⟨t, ds⟩, _, ρ3, h4 _ rfl, trivial, hext.trans t2, t1, hf4⟩
      | some c =>
        rw [hpd] at h3 h4
        rw [hpd] at t1 t2
        exact wpIn_mono (he.code t1 (hr.mono hext.le) hf4 h3 N) fun e a'' w'' hp => hp.lift h4 (hext.trans t2)
    | _ =>
      have hE : endLoopA vm fn n ev rd l ⟨t, ds⟩ S3 = .no := by unfold endLoopA; rw [getA_eq, ho]; rfl
      rw [hE] at h3; exact h3.elim
theorem rangePost_mono {F : Fence} {N l : Nat} {Q Q' : Exit → Act → World → Prop} {a' : Act} (h : ∀ e a w, Q e a w → Q' e a w) {e : Ending} {w3 : World} (hp : rangePost F N P l Q a' e w3) : rangePost F N P l Q' a' e w3 := by
  cases e with
  | returned u =>
    obtain ⟨jump, w4, h1, h2⟩ := hp
    refine ⟨jump, w4, h1, ?_⟩
    cases jump with
    | none => exact h _ _ _ h2
    | some c => exact wpIn_mono h2 h
  | panicked ch => exact h _ _ _ hp
  | outgrown => obtain ⟨a, w, hq⟩ := hp; exact ⟨a, w, h _ _ _ hq⟩
theorem range_is {ev : Ev} (he : EvSpec P ev) (x : Operand) (params : Array Tmp) (assign body : Code) : CodeIs P cf vm fn n ev (.rangeFunc x params assign body) := by
  intro ρ S w rd rn fr a hs hr hf hok N
  unfold kCode at hok
  cases hk : okX P.globals.size x with
  | false => rw [hk] at hok; exact hok.elim
  | true =>
  have hres : (kCode P cf vm fn n (.rangeFunc x params assign body)).f rd ev fr S = vFn ((cX1 vm x).f fr) .no (fun g first cap => cO rd
        (newA S .defr 1 .no fun d s1 => rangeIn vm fn n ev params assign body rd g first cap fr.t d (d :: fr.ds) s1)
        fun l => oLoop (getA S l) .no fun r => rangeIn vm fn n ev params assign body rd g first cap fr.t r.st.defers fr.ds S) fun _ => .no := by
    unfold kCode; rw [hk]
  rw [hres]
  rw [hk] at hok
  have hok : (vFn ((cX1 vm x).f fr) R.no (fun g first cap => cO rd
        (newA S .defr 1 .no fun d s1 => rangeIn vm fn n ev params assign body rd g first cap fr.t d (d :: fr.ds) s1)
        fun l => oLoop (getA S l) .no fun r => rangeIn vm fn n ev params assign body rd g first cap fr.t r.st.defers fr.ds S) fun _ => .no).ok := hok
  have hc := hf.opd hs x (fun _ _ h => h) hk
  cases hv : (cX1 vm x).f fr with
  | func g first cap =>
    rw [hv] at hok hc
    obtain ⟨fs, cs, e1, e2, e3⟩ := conc_func hc
    refine wpIn_rangeFunc fun fid _ => ?_
    have hresv : ∀ l w1, (resolve a.eval (rangeCall x l) 0).run P w1 = .ok { target := .fn (.func g) cs.toArray, args := fs.toArray ++ #[.func (.yield l) #[] #[]] } w1 := fun l w1 => by
      have hm : (#[Operand.const (.func (.yield l) #[] #[])] : Array Operand).map a.eval = #[.func (.yield l) #[] #[]] := by simp [Act.eval]
      simp only [resolve, hm, e1, Deferred.ofValue, Sem.run_pure]
    have hinv : ∀ l w1, (invoke (.fn (.func g) cs.toArray) (fs.toArray ++ #[.func (.yield l) #[] #[]])).run P w1 = (callFunc g (fs ++ .func (.yield l) #[] #[] :: cs).toArray).run P w1 := fun l w1 => by
      have : (fs.toArray ++ #[Value.func (.yield l) #[] #[]]) ++ cs.toArray = (fs ++ .func (.yield l) #[] #[] :: cs).toArray := by simp
      simp only [invoke, this]
    cases rd with
    | none =>
      cases rn with
      | some _ => exact hr.elim
      | none =>
      have hok : (newA S .defr 1 R.no fun d s1 => rangeIn vm fn n ev params assign body none g first cap fr.t d (d :: fr.ds) s1).ok := hok
      have hne : (newA S .defr 1 R.no fun d s1 => rangeIn vm fn n ev params assign body none g first cap fr.t d (d :: fr.ds) s1) ≠ R.no := by intro e; rw [e] at hok; exact hok
      obtain ⟨d, hd, hfree, heq⟩ := newA_ok (S := S) (o := .defr) (by_ := 1) (no := R.no) (k := fun d s1 => rangeIn vm fn n ev params assign body none g first cap fr.t d (d :: fr.ds) s1) rfl hne
      rw [← heq] at hok
      obtain ⟨s1, s2⟩ := new_defr (m := Nat.add S.next 1) hs hfree
      have hfd : FR vm (ρ.set d.p (.blk w.heap.size 0 0)) ⟨fr.t, d :: fr.ds⟩ n (fun _ => False) { a with defers := [{ target := .collected w.heap.size, args := #[] }] ++ a.defers } := by
        have h0 := hf.mono s2.le
        exact ⟨h0.size, h0.tmps, .cons ⟨w.heap.size, 0, 0, look_set hd _, rfl⟩ h0.defs⟩
      obtain ⟨c1, c2⟩ := rangeIn_ok (fid := fid) he s1 (rd := none) (rn := none) trivial rfl hfd ⟨0, 0, look_set hd _⟩ (concs_mono s2.le _ e2) (concs_mono s2.le _ e3) hok N
      refine ⟨_, [{ target := .collected w.heap.size, args := #[] }], _, _, _, g, _, _, ?_, hresv _ _, fun _ _ => trivial, (hinv _ _).trans c1, fun h => (by cases h), CallsIn.mono c2 fun e w3 hp => ?_⟩
      · simp [Instr.enterLoop]; rfl
      · refine rangePost_mono (fun e a w hq => ?_) hp
        show CodePost P vm ρ S _ n (newA S .defr 1 R.no fun d s1 => rangeIn vm fn n ev params assign body none g first cap fr.t d (d :: fr.ds) s1) e a w
        rw [← heq]
        exact hq.lift (fun _ h => h) s2
    | some l0 =>
      cases rn with
      | none => exact hr.elim
      | some g0 =>
      obtain ⟨o0, c0, hl0⟩ := hr
      have hok : (oLoop (getA S l0) R.no fun r => rangeIn vm fn n ev params assign body (some l0) g first cap fr.t r.st.defers fr.ds S).ok := hok
      cases ho : S.at l0.p with
      | loop r =>
        have hE : (oLoop (getA S l0) R.no fun r => rangeIn vm fn n ev params assign body (some l0) g first cap fr.t r.st.defers fr.ds S) = rangeIn vm fn n ev params assign body (some l0) g first cap fr.t r.st.defers fr.ds S := by rw [getA_eq, ho]; rfl
        rw [hE] at hok
        obtain ⟨q, hq, hrq⟩ := loop_of hs ho hl0
        have hfd : FR vm ρ ⟨fr.t, fr.ds⟩ n (fun _ => False) { a with defers := [] ++ a.defers } := ⟨hf.size, hf.tmps, hf.defs⟩
        obtain ⟨c1, c2⟩ := rangeIn_ok (fid := fid) he hs (rd := some l0) (rn := some g0) ⟨o0, c0, hl0⟩ rfl hfd hrq.defers e2 e3 hok N
        refine ⟨_, [], _, _, _, g, _, _, ?_, hresv _ _, fun _ _ => trivial, (hinv _ _).trans c1, fun h => (by cases h), CallsIn.mono c2 fun e w3 hp => ?_⟩
        · simp [Instr.enterLoop, run_getLoop hq]
        · refine rangePost_mono (fun e a w hq => ?_) hp
          show CodePost P vm ρ S _ n (oLoop (getA S l0) R.no fun r => rangeIn vm fn n ev params assign body (some l0) g first cap fr.t r.st.defers fr.ds S) e a w
          rw [hE]
          exact hq
      | _ =>
        have hE : (oLoop (getA S l0) R.no fun r => rangeIn vm fn n ev params assign body (some l0) g first cap fr.t r.st.defers fr.ds S) = R.no := by rw [getA_eq, ho]; rfl
        rw [hE] at hok; exact hok.elim
  | _ => rw [hv] at hok; exact hok.elim
end
end Go.Proofs.YtfmaapbibmnfgaaGreatDoor.Ev
namespace Go.Proofs.YtfmaapbibmnfgaaGreatDoor.Ev
variable [Vr]
section
variable {P : Program} {cf : Cf} {vm : Vm} {fn : FuncId} {n : Nat} {ρ : Rho} {S : AS} {w : World}

/-! ### Rounds -/
theorem kParams_ok {n : Nat} : ∀ {ps : List Tmp} {args : List AV} {us : List Value} {t t' : TF} {tmps : Array Value}, (kParams vm n ps).f args t = some t' → concs ρ args = some us → tmps.size = n → (∀ i, i < 256 → conc ρ ((tgF vm i).f t) = some (tmps.getD i undef)) →
    us.length = ps.length ∧ ((ps.zip us).foldl (fun tm (x : Tmp × Value) => tm.setIfInBounds x.1 x.2) tmps).size = n ∧ ∀ i, i < 256 → conc ρ ((tgF vm i).f t') = some (((ps.zip us).foldl (fun tm (x : Tmp × Value) => tm.setIfInBounds x.1 x.2) tmps).getD i undef)
  | [], args, us, t, t', tmps, h, hu, hs, ht => by
    have h' : cL args (some t) (fun _ _ => none) = some t' := h
    cases args with
    | nil => cases concs_nil hu; cases h'; exact ⟨rfl, hs, ht⟩
    | cons a r => cases h'
  | p :: ps, args, us, t, t', tmps, h, hu, hs, ht => by
    unfold kParams at h
    cases hb : (Nat.blt p n && Nat.blt p 256) with
    | false => rw [hb] at h; cases h
    | true =>
    rw [hb] at h
    simp only [Bool.and_eq_true] at hb
    have hpn : p < n := by simpa using hb.1
    have hp256 : p < 256 := by simpa using hb.2
    have h : cL args none (fun a r => (kParams vm n ps).f r ((tsF vm p).f t a)) = some t' := h
    cases args with
    | nil => cases h
    | cons a r =>
    obtain ⟨u, q, rfl, h1, h2⟩ := concs_cons hu
    have := kParams_ok (tmps := tmps.setIfInBounds p u) (t := (tsF vm p).f t a) h h2 (by simpa using hs) (fun i hi => by
      by_cases e : i = p
      · subst e; rw [tget_same, h1]; simp [hs, hpn]
      · rw [tget_ne a hi hp256 e, ht i hi]
        simp only [Array.getD_eq_getD_getElem?]
        rw [Array.getElem?_setIfInBounds_ne (Ne.symm e)])
    exact ⟨by simp [this.1], this.2⟩
theorem bindR_no {α β : Type} {x : R α} {f : α → R β} (h : (bindR x f).ok) {a : α} (ha : x.has a) : (f a).ok ∧ ∀ b, (f a).has b → (bindR x f).has b := (bindR_ok h).2 a ha
theorem evRound_ok {ev : Ev} (he : EvSpec P ev) (hmix : P.follows .mixedOrders = true) {l : Nam} {g o c : Nat} {args : List AV} {us : List Value} (hs : Sat P ρ S w) (hl : look ρ l = some (.blk g o c)) (ha : concs ρ args = some us) (hok : (evRound P cf ev l args S).ok) :
    ∃ fn tmps assign body, (Instr.yield g us.toArray).run P w = .ok (.round g fn tmps assign body) w ∧ ∀ N, RoundIn Fence.wide N P g fn tmps assign body w (RetPost P ρ S w (evRound P cf ev l args S)) := by
  cases ho : S.at l.p with
  | loop r =>
    obtain ⟨state, pending, st⟩ := r
    obtain ⟨f, vm, n, params, assign, body, tm, dfs⟩ := st
    obtain ⟨q, hq, hrq⟩ := loop_of hs ho hl
    have hE : evRound P cf ev l args S = cO ((kParams vm n params.toList).f args tm) .no fun t =>
        bindR ((kCode P cf vm f n assign).f (some l) ev ⟨t, []⟩ S) fun y => cOut y.1 (fun _ => .no) fun e fr => cX e (roundBody P cf ev l f vm n body fr y.2) (fun _ => .no) .no := by unfold evRound; rw [getA_eq, ho]; rfl
    rw [hE] at hok ⊢
    cases hkp : (kParams vm n params.toList).f args tm with
    | none => rw [hkp] at hok; exact hok.elim
    | some t =>
    rw [hkp] at hok
    simp only [cO_some] at hok ⊢
    obtain ⟨p1, p2, p3⟩ := kParams_ok hkp ha hrq.size hrq.tmps
    have hpar : q.params = params := hrq.params
    have hfold : (q.params.zip us.toArray).foldl (fun tm (x : Tmp × Value) => tm.setIfInBounds x.1 x.2) q.tmps = (params.toList.zip us).foldl (fun tm (x : Tmp × Value) => tm.setIfInBounds x.1 x.2) q.tmps := by
      rw [← Array.foldl_toList, hpar, Array.toList_zip]
    refine ⟨q.fn, (q.params.zip us.toArray).foldl (fun tm (x : Tmp × Value) => tm.setIfInBounds x.1 x.2) q.tmps, q.assign, q.body, ?_, fun N => ?_⟩
    · have hsz : us.toArray.size = q.params.size := by rw [hpar]; simpa using p1
      simp [Instr.yield, run_getLoop hq, hsz]
    · have hasg : q.assign = assign := hrq.assign
      have hbd : q.body = body := hrq.body
      rw [hasg, hbd]
      obtain ⟨k1, k2⟩ := bindR_ok hok
      refine roundIn_of_wpIn (F := Fence.wide) trivial ?_
      have hf0 : FR vm ρ ⟨t, []⟩ n (fun _ => False) { tmps := (q.params.zip us.toArray).foldl (fun tm (x : Tmp × Value) => tm.setIfInBounds x.1 x.2) q.tmps, defers := [] } := by
        rw [hfold]
        exact ⟨p2, fun i hi _ => p3 i hi, .nil⟩
      refine wpIn_mono (kCode_ok he hmix (range_is he) assign ρ S w (some l) (some g) ⟨t, []⟩ _ hs ⟨o, c, hl⟩ hf0 k1 N) fun e a1 w1 hp => ?_
      obtain ⟨ex, fr1, S1, ρ1, q1, q2, q3, q4, q5⟩ := hp
      obtain ⟨k3, k4⟩ := k2 _ q1
      cases ex with
      | exit i => exact k3.elim
      | ret => exact k3.elim
      | normal =>
      cases e with
      | normal =>
        have k3 : (roundBody P cf ev l f vm n body fr1 S1).ok := k3
        have k4 : ∀ z, (roundBody P cf ev l f vm n body fr1 S1).has z → _ := k4
        have hl1 := q3.le.look hl
        cases ho1 : S1.at l.p with
        | loop r1 =>
          obtain ⟨x1, hx1, hr1⟩ := loop_of q4 ho1 hl1
          have hB : roundBody P cf ev l f vm n body fr1 S1 = cB (readyA r1.state) (bindR ((kCode P cf vm f n body).f (some l) ev fr1 (putA S1 l (.loop ⟨.busy, r1.pending, r1.st⟩))) fun x => cOut x.1 (fun _ => .no) fun e _ => roundEnd l e x.2) .no := by
            unfold roundBody; rw [getA_eq, ho1]; rfl
          rw [hB] at k3 k4
          cases hrd : readyA r1.state with
          | false => rw [hrd] at k3; exact k3.elim
          | true =>
          rw [hrd] at k3 k4
          simp only [cB_true] at k3 k4
          have hready : x1.state = .ready := by
            rw [hr1.state]
            cases hst : r1.state <;> first | rfl | (rw [hst] at hrd; cases hrd)
          obtain ⟨t1, t2⟩ := q4.setLoop (r' := ⟨.busy, r1.pending, r1.st⟩) (q' := { x1 with state := .busy }) ho1 hl1 hx1 ⟨rfl, hr1.pending, hr1.size, hr1.tmps, hr1.params, hr1.assign, hr1.body, hr1.defers⟩
          refine ⟨{ w1 with heap := w1.heap.setIfInBounds g (.loop { x1 with state := .busy }) }, ?_, ?_⟩
          · simp only [Instr.beginRound, Sem.run_bind, run_getLoop hx1, Result.andThen_ok, run_setObj hx1 (by intro a t f e; cases e), hready, Sem.run_pure]
          · obtain ⟨k5, k6⟩ := bindR_ok k3
            refine wpIn_mono (kCode_ok he hmix (range_is he) body ρ1 _ _ (some l) (some g) fr1 _ t1 ⟨o, c, hl1⟩ q5 k5 N) fun e2 a2 w2 hp2 => ?_
            obtain ⟨ex2, fr2, S2, ρ2, u1, u2, u3, u4, u5⟩ := hp2
            obtain ⟨k7, k8⟩ := k6 _ u1
            have k7 : (roundEnd l ex2 S2).ok := k7
            have k8 : ∀ z, (roundEnd l ex2 S2).has z → _ := k8
            have hl2 := u3.le.look hl1
            have hext := (q3.trans t2).trans u3
            cases ho2 : S2.at l.p with
            | loop r2 =>
              obtain ⟨x2, hx2, hr2⟩ := loop_of u4 ho2 hl2
              have hend : ∀ jump, (Instr.endRound g jump).run P w2 = .ok (.bool jump.isNone) { w2 with heap := w2.heap.setIfInBounds g (.loop { x2 with state := if jump.isNone then .ready else .done, pending := jump }) } := fun jump => by
                simp only [Instr.endRound, Sem.run_bind, run_getLoop hx2, Result.andThen_ok, run_setObj hx2 (by intro a t f e; cases e), Sem.run_pure]
              have fin : ∀ (jump : Option Code) (st : LoopState), st = (if jump.isNone then .ready else .done) → (roundEnd l ex2 S2).has (.val (.bool jump.isNone), putA S2 l (.loop ⟨st, jump, r2.st⟩)) →
                  ∃ v w', (Instr.endRound g jump).run P w2 = .ok v w' ∧ RetPost P ρ S w (bindR ((kCode P cf vm f n assign).f (some l) ev ⟨t, []⟩ S) fun y => cOut y.1 (fun _ => .no) fun e fr => cX e (roundBody P cf ev l f vm n body fr y.2) (fun _ => .no) .no) (.returned v) w' := fun jump st hst hhas => by
                obtain ⟨v1, v2⟩ := u4.setLoop (r' := ⟨st, jump, r2.st⟩) (q' := { x2 with state := if jump.isNone then .ready else .done, pending := jump }) ho2 hl2 hx2 ⟨hst.symm, rfl, hr2.size, hr2.tmps, hr2.params, hr2.assign, hr2.body, hr2.defers⟩
                exact ⟨_, _, hend jump, .bool jump.isNone, _, ρ2, k4 _ (k8 _ hhas), hext.trans v2, v1, by simp only [conc]⟩
              have hR : ∀ ex, roundEnd l ex S2 = cX ex (.one (.val (.bool true), putA S2 l (.loop ⟨.ready, none, r2.st⟩))) (fun i => .one (.val (.bool false), putA S2 l (.loop ⟨.done, some (.exit i), r2.st⟩))) (.one (.val (.bool false), putA S2 l (.loop ⟨.done, some .ret, r2.st⟩))) := fun ex => by
                unfold roundEnd; rw [getA_eq, ho2]; rfl
              cases ex2 with
              | normal =>
                cases e2 with
                | normal => exact fin none .ready rfl (by rw [hR]; rfl)
                | _ => exact u2.elim
              | exit i =>
                cases e2 with
                | exit i' =>
                  have u2 : i = i' := u2
                  subst u2
                  exact fin (some (.exit i)) .done rfl (by rw [hR]; rfl)
                | _ => exact u2.elim
              | ret =>
                cases e2 with
                | ret => exact fin (some .ret) .done rfl (by rw [hR]; rfl)
                | _ => exact u2.elim
            | _ =>
              have hR : roundEnd l ex2 S2 = R.no := by unfold roundEnd; rw [getA_eq, ho2]; rfl
              rw [hR] at k7; exact k7.elim
        | _ =>
          have hB : roundBody P cf ev l f vm n body fr1 S1 = R.no := by unfold roundBody; rw [getA_eq, ho1]; rfl
          rw [hB] at k3; exact k3.elim
      | _ => exact q2.elim
  | _ =>
    have hE : evRound P cf ev l args S = R.no := by unfold evRound; rw [getA_eq, ho]; rfl
    rw [hE] at hok; exact hok.elim

/-! ### Calls -/
theorem kArgs_ok : ∀ {m i : Nat} {args : List AV} {us : List Value} {t t' : TF} {tmps : Array Value}, (kArgs vm m i).f args t = some t' → concs ρ args = some us → i + m ≤ 256 → tmps.size = i → (∀ j, j < 256 → conc ρ ((tgF vm j).f t) = some (tmps.getD j undef)) →
    us.length ≤ m ∧ ∀ j, j < 256 → conc ρ ((tgF vm j).f t') = some ((tmps ++ us.toArray).getD j undef)
  | 0, i, args, us, t, t', tmps, h, hu, hi, hs, ht => by
    have h' : cL args (some t) (fun _ _ => none) = some t' := h
    cases args with
    | nil => cases concs_nil hu; cases h'; exact ⟨Nat.le_refl _, by simpa using ht⟩
    | cons a r => cases h'
  | m + 1, i, args, us, t, t', tmps, h, hu, hi, hs, ht => by
    have h' : cL args (some t) (fun a r => (kArgs vm m (i + 1)).f r ((tsF vm i).f t a)) = some t' := h
    cases args with
    | nil => cases concs_nil hu; cases h'; exact ⟨Nat.zero_le _, by simpa using ht⟩
    | cons a r =>
    obtain ⟨u, q, rfl, h1, h2⟩ := concs_cons hu
    obtain ⟨r1, r2⟩ := kArgs_ok (tmps := tmps.push u) (t := (tsF vm i).f t a) h' h2 (by omega) (by simp [hs]) (fun j hj => by
      by_cases e : j = i
      · subst e; rw [tget_same, h1]; simp [← hs]
      · rw [tget_ne a hj (by omega) e, ht j hj]
        simp only [Array.getD_eq_getD_getElem?]
        rw [Array.getElem?_push, if_neg (by omega)])
    refine ⟨by simp; omega, fun j hj => ?_⟩
    rw [r2 j hj]
    congr 2
    simp
/-- A block for deferred calls is taken, and its name dies. -/
theorem Sat.take (hs : Sat P ρ S w) {d : Nam} {g o c : Nat} (ho : S.at d.p = .defr) (hd : look ρ d = some (.blk g o c)) : w.heap[g]? = some (.deferred (some [])) ∧
    Sat P ρ (putA S d .dead) { w with heap := w.heap.setIfInBounds g (.deferred none) } ∧ Ext ρ S w ρ (putA S d .dead) { w with heap := w.heap.setIfInBounds g (.deferred none) } := by
  have hobj := hs.obj d.p
  rw [ho] at hobj
  obtain ⟨g', o', c', h1, h2⟩ := hobj
  rw [look_path hd] at h1
  cases h1
  have hlive : (S.at d.p).live := by rw [ho]; exact trivial
  have hat : ∀ p, (putA S d .dead).at p = if p = d.p then .dead else S.at p := at_putA (by intro e; cases e)
  obtain ⟨k1, k2⟩ := hs.kill hat (Tr.put rfl)
  have hother : ∀ g', g' ≠ g → (w.heap.setIfInBounds g (.deferred none))[g']? = w.heap[g']? := fun g' hg => Array.getElem?_setIfInBounds_ne (Ne.symm hg)
  have hlt : g < w.heap.size := (Array.getElem?_eq_some_iff.1 h2).1
  have hself : (w.heap.setIfInBounds g (.deferred none))[g]? = some (.deferred none) := by rw [Array.getElem?_setIfInBounds_self_of_lt hlt]
  refine ⟨h2, ⟨fun p => ?_, k1.inj, fun p g' o c h => ?_, fun p g' k h => ?_, k1.stinj, k1.glob, fun g' hg' => ⟨(hother g' fun e => (hs.vars g' hg').2 d.p o c hlive (by subst e; exact look_path hd)).trans (k1.vars g' hg').1, (k1.vars g' hg').2⟩⟩, ⟨Le.refl _, by simp, fun g' hg hn => hother g' fun e => ?_, k2.owns, rfl, rfl, rfl, Tr.put rfl⟩⟩
  · have hp := k1.obj p
    by_cases hf : (putA S d .dead).at p = .free
    · rw [hf] at hp ⊢; exact hp
    · refine hp.mono hf (Le.refl _) fun g' off cap hg hl => hother g' fun e => ?_
      subst e
      rw [hat] at hl
      split at hl
      · exact hl.elim
      · rename_i hne; exact hne (hs.inj _ _ _ _ _ _ _ hl hlive hg (look_path hd))
  · have := hs.bnd _ _ _ _ h; simpa using this
  · obtain ⟨q1, q2⟩ := hs.stp _ _ _ h
    refine ⟨by simpa using q1, fun es c hc => ?_⟩
    by_cases e : g' = g
    · subst e
      rw [hself] at hc; cases hc
    · exact q2 es c (by rw [← hother g' e]; exact hc)
  · subst e; exact hn ⟨d.p, o, c, look_path hd, hlive⟩
noncomputable def resF (tmps : Array Value) : ResultVar → Sem Value
  | .tmp t => pure (tmps.getD t undef)
  | .cell c t => do loadVar t (← asAddr (tmps.getD c undef))
theorem results_eq (f : Func) (tmps : Array Value) : results f tmps = (do let vs ← f.results.mapM (resF tmps); pure (if h : vs.size = 1 then vs[0] else .tuple vs)) := by
  have e : (fun (x : ResultVar) => (match x with | .tmp t => pure (tmps.getD t undef) | .cell a t => do loadVar t (← asAddr (tmps.getD a undef)) : Sem Value)) = resF tmps := by funext x; cases x <;> rfl
  rw [← e]; rfl
theorem kRes_ok {fr : FrA} {a : Act} {n : Nat} (hs : Sat P ρ S w) (hf : FR vm ρ fr n (fun _ => False) a) : ∀ {rs : List ResultVar} {l : List AV}, okRes rs = true → (kRes P vm rs).f fr S = some l →
    ∃ us, concs ρ l = some us ∧ (rs.mapM (resF a.tmps)).run P w = .ok us w
  | [], l, _, h => by
    have : l = [] := (Option.some.inj h).symm
    subst this; exact ⟨[], rfl, by simp⟩
  | .tmp i :: rs, l, hk, h => by
    simp only [okRes, Bool.and_eq_true] at hk
    have h' : cO ((kRes P vm rs).f fr S) none (fun r => some ((tgF vm i).f fr.t :: r)) = some l := h
    obtain ⟨r, h1, h2⟩ := cO_some' h'
    cases h2
    obtain ⟨us, h3, h4⟩ := kRes_ok hs hf hk.2 h1
    refine ⟨a.tmps.getD i undef :: us, concs_cons' (hf.tmps i (by simpa using hk.1) (fun h => h)) h3, ?_⟩
    rw [List.mapM_cons]
    simp only [resF, Sem.run_bind, Sem.run_pure, Result.andThen_ok, h4]
  | .cell c ty :: rs, l, hk, h => by
    simp only [okRes, Bool.and_eq_true] at hk
    have h' : cO ((loadA P ty).f ((tgF vm c).f fr.t) S) none (fun v => cO ((kRes P vm rs).f fr S) none fun r => some (v :: r)) = some l := h
    obtain ⟨v, h0, h''⟩ := cO_some' h'
    obtain ⟨r, h1, h2⟩ := cO_some' h''
    cases h2
    obtain ⟨us, h3, h4⟩ := kRes_ok hs hf hk.2 h1
    have hc := hf.tmps c (by simpa using hk.1) (fun h => h)
    obtain ⟨y, h5, h6⟩ := load_ok hs h0 hc
    refine ⟨y :: us, concs_cons' h5 h3, ?_⟩
    have h0' : vPtr ((tgF vm c).f fr.t) none (fun b o => oCells (getA S b) none fun _ _ cs => (partA P ty).f cs o) = some v := h0
    obtain ⟨b, oo, hb, _⟩ := vPtr_some h0'
    rw [hb] at hc
    obtain ⟨g, off, cap, _, hptr⟩ := conc_ptr hc
    rw [hptr] at h6
    have h7 : (loadVar ty ⟨g, off + oo, none⟩).run P w = .ok y w := by simpa [Instr.loadAt, Instr.sureAddr] using h6
    have h8 : (asAddr (a.tmps.getD c undef)).run P w = .ok ⟨g, off + oo, none⟩ w := by rw [hptr]; rfl
    have h9 : (resF a.tmps (.cell c ty)).run P w = .ok y w := by simp only [resF, Sem.run_bind, h8, Result.andThen_ok, h7]
    rw [List.mapM_cons]
    simp only [Sem.run_bind, h9, Sem.run_pure, Result.andThen_ok, h4]
theorem results_ok {fr : FrA} {a : Act} {n : Nat} {f : Func} (hs : Sat P ρ S w) (hf : FR vm ρ fr n (fun _ => False) a) {l : List AV} (hk : okRes f.results.toList = true) (h : (kRes P vm f.results.toList).f fr S = some l) :
    ∃ u, conc ρ (oneA l) = some u ∧ (results f a.tmps).run P w = .ok u w := by
  obtain ⟨us, h1, h2⟩ := kRes_ok hs hf hk h
  have h3 : (f.results.mapM (resF a.tmps)).run P w = .ok us.toArray w := by
    have e : f.results = f.results.toList.toArray := by simp
    rw [e, List.mapM_toArray, Sem.run_map, h2]; rfl
  refine ⟨if h : us.toArray.size = 1 then us.toArray[0] else .tuple us.toArray, ?_, ?_⟩
  · cases l with
    | nil => cases concs_nil h1; simp [oneA, cL, conc, concs]
    | cons v r =>
      obtain ⟨u, q, rfl, h4, h5⟩ := concs_cons h1
      cases r with
      | nil => cases concs_nil h5; simpa [oneA, cL] using h4
      | cons v2 r2 =>
        obtain ⟨u2, q2, rfl, h6, h7⟩ := concs_cons h5
        show conc ρ (.tuple (v :: v2 :: r2)) = _
        simp only [conc, h1]
        rw [dif_neg (by simp)]
  · rw [results_eq]
    simp only [Sem.run_bind, h3, Result.andThen_ok, Sem.run_pure]
end
end Go.Proofs.YtfmaapbibmnfgaaGreatDoor.Ev
