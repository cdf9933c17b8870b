/- A run of a program on abstract memory: code, but for ranges over functions. -/
import Derived.Test.YthgkdadchfoomabGreatEvZe
namespace Go.Proofs.YthgkdadchfoomabGreat.Ev
section
variable {P : Program} {cf : Cf} {vm : Vm} {fn : FuncId} {n : Nat} {ρ : Rho} {S : AS} {w : World}

theorem plainly_code {x : R (Out × AS)} : Plainly (CodePost P vm ρ S w n x) := by
  rintro e a w' ⟨ex, fr, S', ρ', _, h, _⟩
  cases ex <;> cases e <;> first | exact h.elim | exact .inl rfl | exact .inr (.inl rfl) | exact .inr (.inr ⟨_, rfl⟩)
theorem CodePost.lift {ρ' : Rho} {S' : AS} {w' : World} {x X : R (Out × AS)} {e : Exit} {a : Act} {w'' : World} (h : CodePost P vm ρ' S' w' n x e a w'') (hx : ∀ z, x.has z → X.has z) (he : Ext ρ S w ρ' S' w') : CodePost P vm ρ S w n X e a w'' := by
  obtain ⟨ex, fr, S2, ρ2, h1, h2, h3, h4, h5⟩ := h
  exact ⟨ex, fr, S2, ρ2, hx _ h1, h2, he.trans h3, h4, h5⟩
theorem CodePost.here {fr : FrA} {a : Act} {x : R (Out × AS)} {ex : Ex} {e : Exit} (hs : Sat P ρ S w) (hf : FR vm ρ fr n (fun _ => False) a) (hx : x.has (.ex ex fr, S)) (he : relX ex e) : CodePost P vm ρ S w n x e a w :=
  ⟨ex, fr, S, ρ, hx, he, Ext.refl _ _ _, hs, hf⟩
theorem thenA_ok {x : R (Out × AS)} {f : FrA → AS → R (Out × AS)} (h : (thenA x f).ok) : x.ok ∧ ∀ ex fr S', x.has (.ex ex fr, S') → (ex = .normal → (f fr S').ok ∧ ∀ z, (f fr S').has z → (thenA x f).has z) ∧ (ex ≠ .normal → (thenA x f).has (.ex ex fr, S')) := by
  obtain ⟨h1, h2⟩ := bindR_ok h
  refine ⟨h1, fun ex fr S' hx => ?_⟩
  obtain ⟨h3, h4⟩ := h2 _ hx
  cases ex with
  | normal => exact ⟨fun _ => ⟨h3, h4⟩, fun h => absurd rfl h⟩
  | exit i => exact ⟨fun h => (by cases h), fun _ => h4 _ rfl⟩
  | ret => exact ⟨fun h => (by cases h), fun _ => h4 _ rfl⟩
/-- What a piece of code is to show. -/
noncomputable def CodeIs (P : Program) (cf : Cf) (vm : Vm) (fn : FuncId) (n : Nat) (ev : Ev) (c : Code) : Prop := ∀ (ρ : Rho) (S : AS) (w : World) (rd : Option Nam) (rn : Option Nat) (fr : FrA) (a : Act), Sat P ρ S w → relR ρ rd rn → FR vm ρ fr n (fun _ => False) a →
  ((kCode P cf vm fn n c).f rd ev fr S).ok → ∀ N, c.wpIn (Wf rn) N P (CodePost P vm ρ S w n ((kCode P cf vm fn n c).f rd ev fr S)) a w
theorem kCode_ok {ev : Ev} (he : EvSpec P ev) (hmix : P.follows .mixedOrders = true) (hrange : ∀ x params assign body, CodeIs P cf vm fn n ev (.rangeFunc x params assign body)) : ∀ c, CodeIs P cf vm fn n ev c
  | .skip => fun ρ S w rd rn fr a hs hr hf hok N => wpIn_skip (CodePost.here hs hf rfl trivial)
  | .label l => fun ρ S w rd rn fr a hs hr hf hok N => wpIn_label (CodePost.here hs hf rfl trivial)
  | .exit i => fun ρ S w rd rn fr a hs hr hf hok N => wpIn_exit (CodePost.here hs hf rfl rfl)
  | .ret => fun ρ S w rd rn fr a hs hr hf hok N => wpIn_ret (CodePost.here hs hf rfl trivial)
  | .goto l => fun ρ S w rd rn fr a hs hr hf hok N => hok.elim
  | .refuse l => fun ρ S w rd rn fr a hs hr hf hok N => hok.elim
  | .seq x y => fun ρ S w rd rn fr a hs hr hf hok N => by
    have hok' : (thenA ((kCode P cf vm fn n x).f rd ev fr S) fun fr s => (kCode P cf vm fn n y).f rd ev fr s).ok := hok
    obtain ⟨h1, h2⟩ := thenA_ok hok'
    refine wpIn_seq (wpIn_mono (kCode_ok he hmix hrange x _ _ _ _ _ _ _ hs hr hf h1 N) fun e a' w' hp => ?_)
    obtain ⟨ex, fr', S', ρ', q1, q2, q3, q4, q5⟩ := hp
    obtain ⟨h3, h4⟩ := h2 ex fr' S' q1
    cases ex with
    | normal =>
      cases e with
      | normal =>
        obtain ⟨h5, h6⟩ := h3 rfl
        exact wpIn_mono (kCode_ok he hmix hrange y _ _ _ _ _ _ _ q4 (hr.mono q3.le) q5 h5 N) fun e a'' w'' hp => hp.lift h6 q3
      | _ => exact q2.elim
    | exit i =>
      cases e with
      | exit j => exact ⟨_, fr', S', ρ', h4 (by intro e; cases e), q2, q3, q4, q5⟩
      | _ => exact q2.elim
    | ret =>
      cases e with
      | ret => exact ⟨_, fr', S', ρ', h4 (by intro e; cases e), q2, q3, q4, q5⟩
      | _ => exact q2.elim
  | .cond x y z => fun ρ S w rd rn fr a hs hr hf hok N => by
    unfold kCode at hok ⊢
    cases hk : okX P.globals.size x with
    | false => rw [hk] at hok; exact hok.elim
    | true =>
    rw [hk] at hok
    have hc := hf.opd hs x (fun _ _ h => h) hk
    have hok : (vBool ((cX1 vm x).f fr) R.no fun t => cB t ((kCode P cf vm fn n y).f rd ev fr S) ((kCode P cf vm fn n z).f rd ev fr S)).ok := hok
    show (Code.cond x y z).wpIn (Wf rn) N P (CodePost P vm ρ S w n (vBool ((cX1 vm x).f fr) R.no fun t => cB t ((kCode P cf vm fn n y).f rd ev fr S) ((kCode P cf vm fn n z).f rd ev fr S))) a w
    cases hv : (cX1 vm x).f fr with
    | bool t =>
      rw [hv] at hok hc
      have hc := conc_bool hc
      refine wpIn_cond hc ?_
      cases t with
      | true => exact kCode_ok he hmix hrange y _ _ _ _ _ _ _ hs hr hf hok N
      | false => exact kCode_ok he hmix hrange z _ _ _ _ _ _ _ hs hr hf hok N
    | _ => rw [hv] at hok; exact hok.elim
  | .block i b => fun ρ S w rd rn fr a hs hr hf hok N => by
    have hok' : (bindR ((kCode P cf vm fn n b).f rd ev fr S) fun y => cOut y.1 (fun _ => R.no) fun e fr => cX e (.one y) (fun j => cB (Nat.beq i j) (.one (.ex .normal fr, y.2)) (.one y)) (.one y)).ok := hok
    obtain ⟨h1, h2⟩ := bindR_ok hok'
    refine wpIn_block (wpIn_mono (kCode_ok he hmix hrange b _ _ _ _ _ _ _ hs hr hf h1 N) fun e a' w' hp => ?_)
    obtain ⟨ex, fr', S', ρ', q1, q2, q3, q4, q5⟩ := hp
    obtain ⟨h3, h4⟩ := h2 _ q1
    cases ex with
    | normal =>
      cases e with
      | normal => exact ⟨_, fr', S', ρ', h4 _ rfl, q2, q3, q4, q5⟩
      | _ => exact q2.elim
    | exit j =>
      cases e with
      | exit j' =>
        have q2 : j = j' := q2
        subst q2
        simp only [Exit.inBlock]
        split
        · rename_i e1
          subst e1
          refine ⟨.normal, fr', S', ρ', h4 _ ?_, trivial, q3, q4, q5⟩
          show (cB (Nat.beq j j) (R.one (Out.ex .normal fr', S')) _).has _
          rw [Nat.beq_refl]; rfl
        · rename_i e1
          refine ⟨.exit j, fr', S', ρ', h4 _ ?_, rfl, q3, q4, q5⟩
          show (cB (Nat.beq i j) _ (R.one (Out.ex (.exit j) fr', S'))).has _
          have : Nat.beq i j = false := by cases hb : Nat.beq i j with | false => rfl | true => rw [Nat.beq_eq] at hb; exact absurd hb.symm e1
          rw [this]; rfl
      | _ => exact q2.elim
    | ret =>
      cases e with
      | ret => exact ⟨_, fr', S', ρ', h4 _ rfl, q2, q3, q4, q5⟩
      | _ => exact q2.elim
  | .loop b => fun ρ S w rd rn fr a hs hr hf hok N => by
    have hok' : (thenA ((kCode P cf vm fn n b).f rd ev fr S) fun fr s => ev (.code (.loop b) fn vm n rd fr) s).ok := hok
    obtain ⟨h1, h2⟩ := thenA_ok hok'
    refine wpIn_unroll plainly_code (wpIn_mono (kCode_ok he hmix hrange b _ _ _ _ _ _ _ hs hr hf h1 N) fun e a' w' hp => ?_)
    obtain ⟨ex, fr', S', ρ', q1, q2, q3, q4, q5⟩ := hp
    obtain ⟨h3, h4⟩ := h2 ex fr' S' q1
    cases ex with
    | normal =>
      cases e with
      | normal =>
        obtain ⟨h5, h6⟩ := h3 rfl
        exact wpIn_mono (he.code q4 (hr.mono q3.le) q5 h5 N) fun e a'' w'' hp => hp.lift h6 q3
      | _ => exact q2.elim
    | exit i =>
      cases e with
      | exit j => exact ⟨_, fr', S', ρ', h4 (by intro e; cases e), q2, q3, q4, q5⟩
      | _ => exact q2.elim
    | ret =>
      cases e with
      | ret => exact ⟨_, fr', S', ρ', h4 (by intro e; cases e), q2, q3, q4, q5⟩
      | _ => exact q2.elim
  | .scope b => fun ρ S w rd rn fr a hs hr hf hok N => wpIn_scope plainly_code (kCode_ok he hmix hrange b _ _ _ _ _ _ _ hs hr hf hok N)
  | .region id ops false => fun ρ S w rd rn fr a hs hr hf hok N => by
    have hok' : (bindR ((kOps P cf vm fn n ops ops.toList).f ev fr S) fun x => R.one (Out.ex .normal x.1, x.2)).ok := hok
    obtain ⟨h1, h2⟩ := bindR_ok hok'
    exact wpIn_region_list (kOps_ok he ops.toList hs hf h1 fun fr' S' ρ' a' w' r1 r2 r3 r4 => ⟨.normal, fr', S', ρ', (h2 _ r1).2 _ rfl, trivial, r2, r3, r4⟩)
  | .region id ops true => fun ρ S w rd rn fr a hs hr hf hok N => by
    have hok' : (bindR ((kDraw P cf vm fn n ops).f ev fr S) fun x => R.one (Out.ex .normal x.1, x.2)).ok := hok
    obtain ⟨h1, h2⟩ := bindR_ok hok'
    refine draw_ok he hmix (fun c a w h => ?_) hs hf h1 fun fr' S' ρ' a' w' r1 r2 r3 r4 => ⟨.normal, fr', S', ρ', (h2 _ r1).2 _ rfl, trivial, r2, r3, r4⟩
    rcases plainly_code _ _ _ h with e | e | ⟨i, e⟩ <;> cases e
  | .rangeFunc x params assign body => hrange x params assign body
end
end Go.Proofs.YthgkdadchfoomabGreat.Ev
