/- A run of a program on abstract memory: what a run of a call, of code, of a round is to show; a region in its forced order. -/
import Derived.Test.YtfnjojdiiklleaaGreatEvW
import Derived.RangeFuncLeaves
import Derived.TacticsIn
import Derived.OrdersIn
import Derived.OwnWalkIn
namespace Go.Proofs.YtfnjojdiiklleaaGreat.Ev
section
variable {P : Program} {vm : Vm} {ρ : Rho} {S : AS} {w : World}

/-- A fence that lets all in. -/
abbrev Wf (rn : Option Nat) : Fence := { Fence.wide with round := rn }
/-- What a frame holds; some temporaries left out. -/
structure FR (vm : Vm) (ρ : Rho) (fr : FrA) (n : Nat) (X : Nat → Prop) (a : Act) : Prop where
  size : a.tmps.size = n
  tmps : ∀ i, i < 256 → ¬ X i → conc ρ ((tgF vm i).f fr.t) = some (a.tmps.getD i undef)
  defs : All2 (fun i d => ∃ g o c, look ρ i = some (.blk g o c) ∧ d = ({ target := .collected g, args := #[] } : Deferred)) fr.ds a.defers
theorem FR.mono {ρ' : Rho} {fr : FrA} {n : Nat} {X : Nat → Prop} {a : Act} (h : FR vm ρ fr n X a) (hl : Le ρ ρ') : FR vm ρ' fr n X a :=
  ⟨h.size, fun i hi hx => conc_mono hl _ (h.tmps i hi hx), All2.mono (fun _ _ ⟨g, o, c, h1, h2⟩ => ⟨g, o, c, hl.look h1, h2⟩) h.defs⟩
theorem FR.put {fr : FrA} {n : Nat} {X : Nat → Prop} {a : Act} (h : FR vm ρ fr n X a) {dst : Option Tmp} (hd : okD n dst = true) {v : AV} {u : Value} (hv : conc ρ v = some u) : FR vm ρ ((cD vm n dst).f fr v) n X (a.put dst u) := by
  cases dst with
  | none => exact h
  | some d =>
    have hd' : n ≤ d ∨ d < 256 := by simpa [okD] using hd
    cases hb : Nat.blt d n with
    | true =>
      have hdn : d < n := by simpa using hb
      have hd256 : d < 256 := hd'.resolve_left (fun h => absurd hdn (Nat.not_lt.2 h))
      have hcd : (cD vm n (some d)).f fr v = ⟨(tsF vm d).f fr.t v, fr.ds⟩ := by simp only [cD, hb]
      rw [hcd]
      refine ⟨by simp [Act.put, h.size], fun i hi hx => ?_, h.defs⟩
      by_cases e : i = d
      · subst e
        rw [tget_same]
        simp [Act.put, Array.getD_eq_getD_getElem?, h.size, hdn, hv]
      · rw [tget_ne v hi hd256 e]
        have := h.tmps i hi hx
        rw [this]
        simp only [Act.put, Array.getD_eq_getD_getElem?]
        rw [Array.getElem?_setIfInBounds_ne (Ne.symm e)]
    | false =>
      have hdn : ¬ d < n := by intro e; rw [show Nat.blt d n = true by simpa using e] at hb; cases hb
      have hcd : (cD vm n (some d)).f fr v = fr := by simp only [cD, hb]
      rw [hcd]
      refine ⟨by simp [Act.put, h.size], fun i hi hx => ?_, h.defs⟩
      rw [h.tmps i hi hx]
      simp only [Act.put, Array.getD_eq_getD_getElem?]
      rw [Array.getElem?_setIfInBounds]
      by_cases e : d = i
      · subst e; simp [h.size, hdn]
      · simp [e]
theorem FR.opd (hs : Sat P ρ S w) {fr : FrA} {n : Nat} {X : Nat → Prop} {a : Act} (h : FR vm ρ fr n X a) (x : Operand) (hx : ∀ i, x = .tmp i → ¬ X i) : Opd vm P.globals.size ρ fr a.eval x :=
  opd_of hs x fun i e hi => h.tmps i hi (hx i e)

/-! ### What is to be shown -/
noncomputable def ValPost (P : Program) (ρ : Rho) (S : AS) (w : World) (x : R (Out × AS)) (u : Value) (w' : World) : Prop :=
  ∃ v S' ρ', x.has (.val v, S') ∧ Ext ρ S w ρ' S' w' ∧ Sat P ρ' S' w' ∧ conc ρ' v = some u
noncomputable def RetPost (P : Program) (ρ : Rho) (S : AS) (w : World) (x : R (Out × AS)) : Ending → World → Prop
  | .returned u, w' => ValPost P ρ S w x u w'
  | _, _ => False
noncomputable def relX : Ex → Exit → Prop
  | .normal, .normal => True
  | .exit i, .exit j => i = j
  | .ret, .ret => True
  | _, _ => False
noncomputable def CodePost (P : Program) (vm : Vm) (ρ : Rho) (S : AS) (w : World) (n : Nat) (x : R (Out × AS)) (e : Exit) (a : Act) (w' : World) : Prop :=
  ∃ ex fr S' ρ', x.has (.ex ex fr, S') ∧ relX ex e ∧ Ext ρ S w ρ' S' w' ∧ Sat P ρ' S' w' ∧ FR vm ρ' fr n (fun _ => False) a
noncomputable def relR (ρ : Rho) (rd : Option Nam) (rn : Option Nat) : Prop := match rd, rn with
  | none, none => True
  | some l, some g => ∃ o c, look ρ l = some (.blk g o c)
  | _, _ => False
theorem relR.mono {ρ' : Rho} {rd : Option Nam} {rn : Option Nat} (h : relR ρ rd rn) (hl : Le ρ ρ') : relR ρ' rd rn := by
  cases rd <;> cases rn <;> first | exact h | (obtain ⟨o, c, h⟩ := h; exact ⟨o, c, hl.look h⟩)
structure EvSpec (P : Program) (ev : Ev) : Prop where
  call : ∀ {ρ : Rho} {S : AS} {w : World} {f : FuncId} {args : List AV} {us : List Value}, Sat P ρ S w → concs ρ args = some us → (ev (.call f args) S).ok →
    (callFunc f us.toArray).run P w = .ok (.enter f us.toArray) w ∧ ∀ N, CallsIn Fence.wide N P f us.toArray w (RetPost P ρ S w (ev (.call f args) S))
  code : ∀ {ρ : Rho} {S : AS} {w : World} {c : Code} {f : FuncId} {vm : Vm} {n : Nat} {rd : Option Nam} {rn : Option Nat} {fr : FrA} {a : Act}, Sat P ρ S w → relR ρ rd rn → FR vm ρ fr n (fun _ => False) a → (ev (.code c f vm n rd fr) S).ok →
    ∀ N, c.wpIn (Wf rn) N P (CodePost P vm ρ S w n (ev (.code c f vm n rd fr) S)) a w
  round : ∀ {ρ : Rho} {S : AS} {w : World} {l : Nam} {g o c : Nat} {args : List AV} {us : List Value}, Sat P ρ S w → look ρ l = some (.blk g o c) → concs ρ args = some us → (ev (.round l args) S).ok →
    ∃ fn tmps assign body, (Instr.yield g us.toArray).run P w = .ok (.round g fn tmps assign body) w ∧ ∀ N, RoundIn Fence.wide N P g fn tmps assign body w (RetPost P ρ S w (ev (.round l args) S))

/-! ### One operation -/
theorem step_one {ev : Ev} (he : EvSpec P ev) (hs : Sat P ρ S w) {x : AN} {o : Oper} {a : Act} {rn : Option Nat} (hx : AN.ok P ρ S w ((o.semAt rn a.eval).run P w) x) (hok : (oneN ev S x).ok) {N : Nat} {K : Act → World → Prop} {Q : Exit → Act → World → Prop}
    (hK : ∀ v S' ρ' u w', (oneN ev S x).has (v, S') → Ext ρ S w ρ' S' w' → Sat P ρ' S' w' → conc ρ' v = some u → K (a.put o.dst u) w') : o.wpIn (Wf rn) N P a w K Q := by
  refine ⟨fun _ _ => trivial, ?_⟩
  show o.uponIn (Wf rn) N P a K Q ((o.semAt rn a.eval).run P w)
  generalize (o.semAt rn a.eval).run P w = r at hx
  cases x with
  | no => exact hok.elim
  | get v =>
    obtain ⟨u, h1, rfl⟩ := hx
    exact hK v S ρ u w rfl (Ext.refl _ _ _) hs h1
  | val v S' =>
    obtain ⟨ρ', u, w', h0, h1, h2, h3⟩ := hx
    rcases h0 with rfl | ⟨rfl, rfl⟩
    · exact hK v S' ρ' u w' rfl h1 h2 h3
    · exact hK v S' ρ' undef w' rfl h1 h2 h3
  | pick l =>
    obtain ⟨y, hy, ρ', u, w', rfl, h1, h2, h3⟩ := hx
    exact hK y.1 y.2 ρ' u w' hy h1 h2 h3
  | enter f args =>
    obtain ⟨us, h1, rfl⟩ := hx
    have hok' : (bindR (ev (.call f args) S) fun y => cOut y.1 (fun v => R.one (v, y.2)) fun _ _ => R.no).ok := hok
    obtain ⟨h2, h3⟩ := bindR_ok hok'
    obtain ⟨h4, h5⟩ := he.call hs h1 h2
    rw [h4]
    refine ⟨fun h => (by cases h), (h5 (N - 1)).mono fun e w' hp => ?_⟩
    cases e with
    | returned u =>
      obtain ⟨v, S', ρ', q1, q2, q3, q4⟩ := hp
      exact hK v S' ρ' u w' ((h3 _ q1).2 _ rfl) q2 q3 q4
    | panicked ch => exact hp.elim
    | outgrown => exact hp.elim
  | round l args =>
    obtain ⟨us, g, oo, c, h1, h1', rfl⟩ := hx
    have hok' : (bindR (ev (.round l args) S) fun y => cOut y.1 (fun v => R.one (v, y.2)) fun _ _ => R.no).ok := hok
    obtain ⟨h2, h3⟩ := bindR_ok hok'
    obtain ⟨fn, tmps, assign, body, h4, h5⟩ := he.round hs h1' h1 h2
    rw [h4]
    refine ⟨fun h => (by cases h), RoundIn.mono (F := Wf rn) (h5 (N - 1)) fun e w' hp => ?_⟩
    cases e with
    | returned u =>
      obtain ⟨v, S', ρ', q1, q2, q3, q4⟩ := hp
      exact hK v S' ρ' u w' ((h3 _ q1).2 _ rfl) q2 q3 q4
    | panicked ch => exact hp.elim
    | outgrown => exact hp.elim
variable {cf : Cf} {fn : FuncId}
theorem kOp_ne_defer {o : Oper} {fr : FrA} {ev : Ev} (h : (oneN ev S ((kOp P cf vm fn o).f fr S)).ok) : ∀ c, o.op ≠ .defer c := by
  intro c e
  have : (kOp P cf vm fn o).f fr S = .no := by unfold kOp; rw [e]; rfl
  rw [this] at h
  exact h
/-- Is an operation wanted? -/
theorem wanted_ok {ops : Array Oper} {o : Oper} {fr : FrA} {n : Nat} {X : Nat → Prop} {a : Act} (hf : FR vm ρ fr n X a) (hg : okG n ops o = true) (hX : ∀ j b p d, o.guard = some (j, b) → ops[j]? = some p → p.dst = some d → ¬ X d) :
    (match kWant vm ops o with | none => true | some g => g.f fr) = Region.wanted o (yielded ops a.tmps) := by
  unfold kWant Region.wanted
  cases hgd : o.guard with
  | none => rfl
  | some jb =>
    obtain ⟨j, want⟩ := jb
    unfold okG at hg
    simp only [hgd] at hg ⊢
    unfold yielded
    cases hj : ops[j]? with
    | none => cases want <;> rfl
    | some p =>
      simp only [hj] at hg
      simp only [Option.bind_some]
      cases hd : p.dst with
      | none => cases want <;> rfl
      | some d =>
        simp only [hd] at hg
        have hg' : d < 256 ∨ n ≤ d := by simpa using hg
        simp only [Option.bind_some]
        cases hb : Nat.blt d 256 with
        | false =>
          have : ¬ d < 256 := by intro e; rw [show Nat.blt d 256 = true by simpa using e] at hb; cases hb
          have hn : a.tmps[d]? = none := Array.getElem?_eq_none (by rw [hf.size]; exact hg'.resolve_left this)
          rw [hn]
          cases want <;> rfl
        | true =>
          have hd256 : d < 256 := by simpa using hb
          have hc := hf.tmps d hd256 (hX j want p d hgd hj hd)
          show vBool ((tgF vm d).f fr.t) false (fun b => bEq b want) = _
          rw [Array.getD_eq_getD_getElem?] at hc
          cases ht : a.tmps[d]? with
          | none =>
            rw [ht] at hc
            have : vBool ((tgF vm d).f fr.t) false (fun b => bEq b want) = false := by
              cases hv : (tgF vm d).f fr.t <;> first | rfl | (rw [hv] at hc; simp [conc, undef] at hc)
            rw [this]
            cases want <;> rfl
          | some y =>
            rw [ht] at hc
            simp only [Option.getD_some] at hc
            cases hv : (tgF vm d).f fr.t with
            | bool b =>
              rw [hv] at hc
              cases conc_bool hc
              show bEq b want = _
              rw [bEq_eq]
              cases b <;> cases want <;> rfl
            | _ =>
              have hne : ∀ b, y ≠ .bool b := by
                intro b e
                rw [hv, e] at hc
                first
                  | (simp [conc] at hc; done)
                  | (simp only [conc] at hc; split at hc <;> cases hc; done)
                  | (simp only [conc] at hc; split at hc <;> first | (split at hc <;> cases hc; done) | cases hc)
              cases y <;> first | exact absurd rfl (hne _) | (cases want <;> rfl)
/-- An operation, wanted or not. -/
theorem step_ok {ev : Ev} (he : EvSpec P ev) (hs : Sat P ρ S w) {ops : Array Oper} {o : Oper} {fr : FrA} {n : Nat} {X : Nat → Prop} {a : Act} {rn : Option Nat} (hf : FR vm ρ fr n X a) (hop : okOp n ops o = true)
    (hX : ∀ x ∈ o.op.operands.toList, ∀ i, x = .tmp i → ¬ X i) (hXg : ∀ j b p d, o.guard = some (j, b) → ops[j]? = some p → p.dst = some d → ¬ X d)
    (hok : ((kOne P cf vm fn ops o).f ev fr S).ok) {N : Nat} {K : Act → World → Prop} {Q : Exit → Act → World → Prop}
    (hK : ∀ v S' ρ' u w', ((kOne P cf vm fn ops o).f ev fr S).has (v, S') → Ext ρ S w ρ' S' w' → Sat P ρ' S' w' → conc ρ' v = some u → K (a.put o.dst u) w') :
    if Region.wanted o (yielded ops a.tmps) then o.wpIn (Wf rn) N P a w K Q else (∀ f, o.about P w a.eval = some f → (Wf rn).fn f) ∧ K (a.put o.dst undef) w := by
  simp only [okOp, Bool.and_eq_true] at hop
  have hw := wanted_ok hf hop.2 hXg
  have hopd : ∀ x ∈ o.op.operands.toList, Opd vm P.globals.size ρ fr a.eval x := fun x hx => hf.opd hs x (hX x hx)
  unfold kOne at hok hK
  cases hk : kWant vm ops o with
  | none =>
    rw [hk] at hw hok hK
    rw [← hw]
    simp only [if_true]
    have hsem := Oper.semAt_eq rn a.eval o (kOp_ne_defer hok)
    exact step_one he hs (by rw [hsem]; exact kOp_ok hs cf fn o hopd) hok hK
  | some g =>
    rw [hk] at hw hok hK
    simp only at hw
    rw [← hw]
    cases hgf : g.f fr with
    | true =>
      simp only [hgf, cB_true] at hok hK
      simp only [if_true]
      have hsem := Oper.semAt_eq rn a.eval o (kOp_ne_defer hok)
      exact step_one he hs (by rw [hsem]; exact kOp_ok hs cf fn o hopd) hok hK
    | false =>
      simp only [hgf, cB_false] at hok hK
      simp only [Bool.false_eq_true, if_false]
      exact ⟨fun _ _ => trivial, hK (.tuple []) S ρ undef w rfl (Ext.refl _ _ _) hs (by simp [conc, concs, undef])⟩
/-- A region in its forced order. -/
theorem kOps_ok {ev : Ev} (he : EvSpec P ev) {ops : Array Oper} {n : Nat} {rn : Option Nat} {N : Nat} {Q : Exit → Act → World → Prop} : ∀ (l : List Oper) {ρ : Rho} {S : AS} {w : World} {fr : FrA} {a : Act}, Sat P ρ S w → FR vm ρ fr n (fun _ => False) a →
    ((kOps P cf vm fn n ops l).f ev fr S).ok → (∀ fr' S' ρ' a' w', ((kOps P cf vm fn n ops l).f ev fr S).has (fr', S') → Ext ρ S w ρ' S' w' → Sat P ρ' S' w' → FR vm ρ' fr' n (fun _ => False) a' → Q .normal a' w') → wpListIn (Wf rn) N P ops Q l a w
  | [], ρ, S, w, fr, a, hs, hf, _, hQ => hQ fr S ρ a w rfl (Ext.refl _ _ _) hs hf
  | o :: l, ρ, S, w, fr, a, hs, hf, hok, hQ => by
    unfold kOps at hok hQ
    cases hop : okOp n ops o with
    | false => rw [hop] at hok; exact hok.elim
    | true =>
      rw [hop] at hok hQ
      obtain ⟨h1, h2⟩ := bindR_ok hok
      refine wpListIn_step fun K hKl => ?_
      refine step_ok (rn := rn) (N := N) (Q := Q) he hs hf hop (fun _ _ _ _ h => h) (fun _ _ _ _ _ _ _ h => h) h1 fun v S' ρ' u w' q1 q2 q3 q4 => hKl _ _ ?_
      obtain ⟨h3, h4⟩ := h2 (v, S') q1
      have hd : okD n o.dst = true := by simp only [okOp, Bool.and_eq_true] at hop; exact hop.1
      exact kOps_ok he l q3 ((hf.mono q2.le).put hd q4) h3 fun fr' S'' ρ'' a' w'' r1 r2 r3 r4 => hQ fr' S'' ρ'' a' w'' (h4 _ r1) (q2.trans r2) r3 r4
end
end Go.Proofs.YtfnjojdiiklleaaGreat.Ev
namespace Go.Proofs.YtfnjojdiiklleaaGreat.Ev
section
variable {P : Program} {ops : Array Oper} {Q : Exit → Act → World → Prop} {rn : Option Nat} {N : Nat}

theorem noDS_spec (h : noDS ops = true) {j : Nat} {o : Oper} (hj : ops[j]? = some o) : (∀ c, o.op ≠ .defer c) ∧ ∀ cs b, o.op ≠ .select cs b := by
  have := Array.all_eq_true_iff_forall_mem.1 h o (Array.mem_of_getElem? hj)
  exact ⟨fun c e => by simp [e] at this, fun cs b e => by simp [e] at this⟩
/-- What an operation that waits to be told of is known to come to: in which worlds. -/
structure Hq where
  i : Nat
  hold : World → Prop
noncomputable def waitsB (ops : Array Oper) (j i : Nat) : Prop := ∃ o, ops[j]? = some o ∧ ∃ e ∈ o.after, Region.binds .any e = true ∧ e.on = i
/-- Every order, what is held being kept until it is waited for. -/
noncomputable def wpH (P : Program) (ops : Array Oper) (Q : Exit → Act → World → Prop) (rn : Option Nat) (N : Nat) : Nat → List Hq → Array Bool → Act → World → Prop
  | 0, _, L, a, w => Region.ready .any ops L = [] ∧ Q .normal a w
  | k + 1, H, L, a, w => (Region.ready .any ops L = [] → Q .normal a w) ∧ ∀ j ∈ Region.ready .any ops L, wpOpIn (Wf rn) N P ops Q j (fun a' w' => (∀ h ∈ H, ¬ waitsB ops j h.i → h.hold w') ∧ ∃ H', (∀ h ∈ H, ¬ waitsB ops j h.i → h ∈ H') ∧ wpH P ops Q rn N k H' (L.setIfInBounds j true) a' w') a w
theorem wpH_any : ∀ (k : Nat) (H : List Hq) (L : Array Bool) (a : Act) (w : World), wpH P ops Q rn N k H L a w → wpAnyIn (Wf rn) N P .any ops Q k L a w
  | 0, _, _, _, _, h => h
  | k + 1, _, _, _, _, h => ⟨h.1, fun j hj => wpOpIn_mono (fun a' w' ⟨_, H', _, h2⟩ => wpH_any k H' _ a' w' h2) (h.2 j hj)⟩
theorem wpH_less : ∀ (k : Nat) {H H' : List Hq} {L : Array Bool} {a : Act} {w : World}, (∀ h ∈ H', h ∈ H) → wpH P ops Q rn N k H L a w → wpH P ops Q rn N k H' L a w
  | 0, _, _, _, _, _, _, h => h
  | _ + 1, _, _, _, _, _, hs, h => ⟨h.1, fun j hj => wpOpIn_mono (fun _ _ ⟨h1, H2, h2, h3⟩ => ⟨fun x hx hn => h1 x (hs x hx) hn, H2, fun x hx hn => h2 x (hs x hx) hn, h3⟩) (h.2 j hj)⟩
/-- One more turn at hand. -/
theorem wpH_more : ∀ (k : Nat) {H : List Hq} {L : Array Bool} {a : Act} {w : World}, wpH P ops Q rn N k H L a w → wpH P ops Q rn N (k + 1) H L a w
  | 0, _, _, _, _, h => ⟨fun _ => h.2, fun j hj => by rw [h.1] at hj; cases hj⟩
  | k + 1, _, _, _, _, h => ⟨h.1, fun j hj => wpOpIn_mono (fun _ _ ⟨h1, H2, h2, h3⟩ => ⟨h1, H2, h2, wpH_more k h3⟩) (h.2 j hj)⟩
noncomputable def SameAt (ops : Array Oper) (oi : Oper) (a a' : Act) : Prop := execOp a'.eval oi = execOp a.eval oi ∧ Region.wanted oi (yielded ops a'.tmps) = Region.wanted oi (yielded ops a.tmps)
theorem wpOpIn_swap {j : Nat} {oi oj : Oper} {v : Value} (hds : noDS ops = true) {i : Nat} (hi : ops[i]? = some oi) (hj : ops[j]? = some oj) (hap : oi.apart ops oj = true) (hQ : ∀ c a w, ¬ Q (.panic c) a w)
    {K : Act → World → Prop} {a : Act} {w : World} (h : wpOpIn (Wf rn) N P ops Q j K (a.put oi.dst v) w) : wpOpIn (Wf rn) N P ops Q j (fun a' w' => SameAt ops oi a a' ∧ K (a'.put oi.dst v) w') a w := by
  obtain ⟨h1, h2, h3⟩ := Oper.apart_spec hap
  obtain ⟨hdi, hsi⟩ := noDS_spec hds hi
  obtain ⟨hdj, hsj⟩ := noDS_spec hds hj
  have keep : ∀ u, SameAt ops oi a (a.put oj.dst u) := fun u => ⟨execOp_put oi hsi a oj.dst u h3, wanted_put oi a oj.dst u h3⟩
  have keepD : ∀ d, SameAt ops oi a ({ a with defers := d :: a.defers } : Act) := fun d => ⟨rfl, rfl⟩
  have keep2 : ∀ d u, SameAt ops oi a (({ a with defers := d :: a.defers } : Act).put oj.dst u) := fun d u =>
    ⟨(execOp_put oi hsi { a with defers := d :: a.defers } oj.dst u h3).trans rfl, (wanted_put oi { a with defers := d :: a.defers } oj.dst u h3).trans rfl⟩
  unfold wpOpIn at *
  simp only [hj] at *
  rw [wanted_put oj a oi.dst v h1] at h
  split
  · rename_i hw
    simp only [hw, if_true] at h
    refine ⟨fun _ _ => trivial, ?_⟩
    have h := h.2
    rw [Oper.semAt_eq _ _ _ hdj, execOp_put oj hsj a oi.dst v h1] at h
    rw [Oper.semAt_eq _ _ _ hdj]
    generalize (execOp a.eval oj).run P w = r at *
    cases r with
    | ok x w' =>
      cases x <;> simp only [Oper.uponIn] at h ⊢
      case value u => exact ⟨keep u, by rw [← Act.put_comm a v u h2]; exact h⟩
      case skip => exact ⟨keep _, by rw [← Act.put_comm a v undef h2]; exact h⟩
      case defer d =>
        refine ⟨keep2 d _, ?_⟩
        rw [← Act.put_comm _ v undef h2, ← Act.put_defers]
        exact h
      case enter f args =>
        refine ⟨h.1, CallsIn.mono h.2 fun e w'' he => ?_⟩
        cases e with
        | returned u => exact ⟨keep u, by rw [← Act.put_comm a v u h2]; exact he⟩
        | panicked c => exact absurd he (hQ _ _ _)
        | outgrown => exact he
      case row row args => exact ⟨h.1, RowsIn.mono h.2 fun u w'' he => ⟨keep u, by rw [← Act.put_comm a v u h2]; exact he⟩⟩
      case round l f tmps assign body =>
        refine ⟨h.1, RoundIn.mono h.2 fun e w'' he => ?_⟩
        cases e with
        | returned u => exact ⟨keep u, by rw [← Act.put_comm a v u h2]; exact he⟩
        | panicked c => exact absurd he (hQ _ _ _)
        | outgrown => exact he
    | halt x w' =>
      cases x <;> simp only [Oper.uponIn] at h ⊢
      case panic u => exact absurd h (hQ _ _ _)
  · rename_i hw
    simp only [hw] at h
    exact ⟨fun _ _ => trivial, keep _, by rw [← Act.put_comm a v undef h2]; exact h.2⟩
noncomputable def FreeAt (ops : Array Oper) (oi : Oper) (i : Nat) (L : Array Bool) : Prop := ∀ j oj, ops[j]? = some oj → j ≠ i → L.getD j true = false → ¬ waitsB ops j i → oi.apart ops oj = true
theorem FreeAt.mono {oi : Oper} {i : Nat} {L : Array Bool} (h : FreeAt ops oi i L) (j : Nat) : FreeAt ops oi i (L.setIfInBounds j true) := fun k ok hk hki hun hw => by
  refine h k ok hk hki ?_ hw
  by_cases e : j = k
  · subst e
    rcases Nat.lt_or_ge j L.size with h' | h'
    · simp [h'] at hun
    · rw [Array.getD_eq_getD_getElem?, Array.getElem?_eq_none (by simpa using h')] at hun; cases hun
  · rw [getD_set_ne true e] at hun; exact hun
theorem free_of {i : Nat} {oi : Oper} {L : Array Bool} (hi : ops[i]? = some oi) (h : Region.free .any ops L i = true) : FreeAt ops oi i L := fun j oj hj hne hun hw =>
  Region.free_spec hi h j oj hj hne hun fun e he hb heq => hw ⟨oj, hj, e, he, hb, heq⟩
theorem not_waits {i j : Nat} {L : Array Bool} (hj : j ∈ Region.ready .any ops L) (hi : L.getD i true = false) : ¬ waitsB ops j i := by
  rintro ⟨o, ho, e, he, hb, heq⟩
  obtain ⟨_, o', ho', hall⟩ := mem_ready.1 hj
  rw [ho] at ho'; cases ho'
  have h1 := hall e he hb
  rw [heq] at h1
  rcases Nat.lt_or_ge i L.size with h' | h'
  · simp [h'] at hi h1; rw [hi] at h1; cases h1
  · simp [Array.getElem?_eq_none h'] at h1
/-- An operation that only reads is taken first. -/
theorem wpH_first (hds : noDS ops = true) (hQ : ∀ c a w, ¬ Q (.panic c) a w) {i : Nat} {oi : Oper} {y : Value} {hold : World → Prop} (hi : ops[i]? = some oi) : ∀ (k : Nat) {H : List Hq} {L : Array Bool} {a : Act} {w : World}, FreeAt ops oi i L → i ∈ Region.ready .any ops L →
    (∀ h ∈ H, h.hold w) → hold w → (∀ w', hold w' → if Region.wanted oi (yielded ops a.tmps) then (execOp a.eval oi).run P w' = .ok (.value y) w' else y = undef) →
    wpH P ops Q rn N k (⟨i, hold⟩ :: H) (L.setIfInBounds i true) (a.put oi.dst y) w → wpH P ops Q rn N (k + 1) H L a w := by
  have hyield : ∀ {a : Act} {w : World} {K : Act → World → Prop}, (if Region.wanted oi (yielded ops a.tmps) then (execOp a.eval oi).run P w = .ok (.value y) w else y = undef) → K (a.put oi.dst y) w → wpOpIn (Wf rn) N P ops Q i K a w := by
    intro a w K hy hK
    unfold wpOpIn
    simp only [hi]
    split
    · rename_i hw
      rw [if_pos hw] at hy
      refine ⟨fun _ _ => trivial, ?_⟩
      rw [Oper.semAt_eq _ _ _ (noDS_spec hds hi).1, hy]
      exact hK
    · rename_i hw
      rw [if_neg hw] at hy
      subst hy
      exact ⟨fun _ _ => trivial, hK⟩
  intro k
  induction k with
  | zero =>
    intro H L a w hfree hr hH hh hy hrest
    refine ⟨fun h => (by rw [h] at hr; cases hr), fun j hj => ?_⟩
    by_cases hji : j = i
    · subst hji; exact hyield (hy w hh) ⟨fun h hm _ => hH h hm, ⟨j, hold⟩ :: H, fun h hm _ => by simp [hm], hrest⟩
    · have := ready_mono hj hji
      rw [hrest.1] at this
      cases this
  | succ k ih =>
    intro H L a w hfree hr hH hh hy hrest
    refine ⟨fun h => (by rw [h] at hr; cases hr), fun j hj => ?_⟩
    by_cases hji : j = i
    · subst hji; exact hyield (hy w hh) ⟨fun h hm _ => hH h hm, ⟨j, hold⟩ :: H, fun h hm _ => by simp [hm], hrest⟩
    · obtain ⟨hjun, oj, hoj, _⟩ := mem_ready.1 hj
      have hnot := not_waits hj (mem_ready.1 hr).1
      have h1 := wpOpIn_swap hds hi hoj (hfree j oj hoj hji hjun hnot) hQ (hrest.2 j (ready_mono hj hji))
      refine wpOpIn_mono (fun a' w' ⟨⟨s1, s2⟩, q1, H2, q2, q3⟩ => ?_) h1
      have hcl : ∀ h : Hq, Decidable (¬ waitsB ops j h.i) := fun _ => Classical.propDecidable _
      have hq1 : ∀ h ∈ H, ¬ waitsB ops j h.i → h.hold w' := fun h hm hn => q1 h (by simp [hm]) hn
      refine ⟨hq1, H.filter (fun h => decide (¬ waitsB ops j h.i)), fun h hm hn => List.mem_filter.2 ⟨hm, by simpa using hn⟩, ?_⟩
      refine ih (hfree.mono j) (ready_mono hr (Ne.symm hji)) (fun h hm => ?_) (q1 ⟨i, hold⟩ (by simp) hnot) (fun w'' hw'' => ?_) ?_
      · obtain ⟨m1, m2⟩ := List.mem_filter.1 hm
        exact hq1 h m1 (by simpa using m2)
      · rw [s2, s1]; exact hy w'' hw''
      · rw [Array.setIfInBounds_comm _ _ hji]
        refine wpH_less k (fun h hm => ?_) q3
        rcases List.mem_cons.1 hm with rfl | hm
        · exact q2 _ (by simp) hnot
        · obtain ⟨m1, m2⟩ := List.mem_filter.1 hm
          exact q2 h (by simp [m1]) (by simpa using m2)
end
end Go.Proofs.YtfnjojdiiklleaaGreat.Ev
