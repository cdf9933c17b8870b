/- The quick evaluator is the same: regions. -/
import Derived.Test.YtfnjojdiiklleaaGreatEwC
namespace Go.Proofs.YtfnjojdiiklleaaGreat.Ev
section
variable {P : Program} {cf : Cf} {vm : Vm} {fn : FuncId} {nt : Nat} {ops : Array Oper} {σ : List En} {n : Nat} {st : Sk n} {g : T8} {b : B4}
/-- What is held, quickly and slowly. -/
noncomputable def RH (l : List HdF) (m : List Hd) : Prop := All2 (fun x y => x.i = y.i ∧ x.v = y.v ∧ ∀ s, x.g s = y.k.f y.fr s) l m
theorem heldF_eq {s : AS} : ∀ {l : List HdF} {m : List Hd}, RH l m → heldF s l = heldA s m
  | [], _, .nil => rfl
  | x :: l, _, .cons (b := y) (m := m) h t => by
    show cAN (x.g s) false (fun u => cB (beqV u x.v) (heldF s l) false) (fun _ _ => false) (fun _ _ => false) (fun _ _ => false) (fun _ => false) =
      cAN (y.k.f y.fr s) false (fun u => cB (beqV u y.v) (heldA s m) false) (fun _ _ => false) (fun _ _ => false) (fun _ _ => false) fun _ => false
    rw [h.2.2 s, h.2.1, heldF_eq t]
theorem keepF_eq {w : List Nat} : ∀ {l : List HdF} {m : List Hd}, RH l m → RH (keepF w l) (keepH w m)
  | [], _, .nil => .nil
  | x :: l, _, .cons (b := y) (m := m) h t => by
    show RH (cB (itL false (fun i _ r => cB (Nat.beq i x.i) true r) w) (keepF w l) (x :: keepF w l)) (cB (itL false (fun i _ r => cB (Nat.beq i y.i) true r) w) (keepH w m) (y :: keepH w m))
    rw [h.1]
    cases itL false (fun i _ r => cB (Nat.beq i y.i) true r) w with
    | true => exact keepF_eq t
    | false => exact .cons h (keepF_eq t)
/-- What comes next, as it is done slowly. -/
noncomputable def IsH (vm : Vm) (K : KT) (k : Cq → List Hd → FrA → AS → RO) : Prop :=
  ∀ σ n c st g b s hs, Inv vm σ n st ⟨g, b⟩ → RH c.hs hs → (K σ n).f c st g b s = k c hs ⟨⟨g, b⟩, c.ds⟩ s
theorem fPut_eq {K : KT} {k : Cq → List Hd → FrA → AS → RO} (hK : IsH vm K k) (hi : Inv vm σ n st ⟨g, b⟩) {c : Cq} {hs : List Hd} (hr : RH c.hs hs) {dst : Option Tmp} (hd : okD nt dst = true) (v : AV) (s : AS) :
    (fPut vm nt dst σ n K).f v c st g b s = k c hs ((cD vm nt dst).f ⟨⟨g, b⟩, c.ds⟩ v) s := by
  cases dst with
  | none => exact hK _ _ _ _ _ _ _ _ hi hr
  | some i =>
    simp only [fPut, cD]
    cases hb : Nat.blt i nt with
    | false => exact hK _ _ _ _ _ _ _ _ hi hr
    | true =>
      have hd' : nt ≤ i ∨ i < 256 := by simpa [okD] using hd
      have hin : i < nt := by simpa using hb
      have hi256 : i < 256 := hd'.resolve_left (fun h => absurd hin (Nat.not_lt.2 h))
      have hp := hi.push hi256 v
      simp only
      cases hv : vIdx vm i with
      | none =>
        have e : (tsF vm i).f ⟨g, b⟩ v = ⟨(ts8 i).f g v, b⟩ := by unfold tsF; rw [hv]
        rw [e] at hp ⊢
        exact hK _ _ _ _ _ _ _ _ hp hr
      | some j =>
        have e : (tsF vm i).f ⟨g, b⟩ v = ⟨g, (b4s j).f b v⟩ := by unfold tsF; rw [hv]
        rw [e] at hp ⊢
        exact hK _ _ _ _ _ _ _ _ hp hr
theorem fWant_eq (hi : Inv vm σ n st ⟨g, b⟩) (ds : List Nam) (o : Oper) : (fWant vm ops σ n o).map (fun w => w.f st g b) = (kWant vm ops o).map fun w => w.f ⟨⟨g, b⟩, ds⟩ := by
  unfold fWant kWant
  cases o.guard with
  | none => rfl
  | some jw =>
    obtain ⟨j, want⟩ := jw
    simp only
    cases ops[j]? with
    | none => rfl
    | some p =>
      simp only
      cases p.dst with
      | none => rfl
      | some d =>
        simp only
        cases Nat.blt d 256 with
        | false => rfl
        | true =>
          simp only [Option.map_some, rdX_eq hi (.tmp d) ds, cX1]
theorem want_cases {w : Option (Cl (Sk n → T8 → B4 → Bool))} {w' : Option KG} {fr : FrA} (h : w.map (fun w => w.f st g b) = w'.map fun w => w.f fr) :
    (w = none ∧ w' = none) ∨ ∃ x y, w = some x ∧ w' = some y ∧ x.f st g b = y.f fr := by
  cases w with
  | none => cases w' with
    | none => exact .inl ⟨rfl, rfl⟩
    | some y => cases h
  | some x => cases w' with
    | none => cases h
    | some y => exact .inr ⟨x, y, rfl, rfl, Option.some.inj h⟩
theorem fOne_eq (hi : Inv vm σ n st ⟨g, b⟩) (o : Oper) (W : KWF n) (c : Cq) (s : AS) :
    (fOne P cf vm fn ops σ n o W).f c st g b s = bindR ((kOne P cf vm fn ops o).f c.ev ⟨⟨g, b⟩, c.ds⟩ s) fun y => W.f y.1 c st g b y.2 := by
  unfold fOne kOne
  rcases want_cases (fWant_eq (ops := ops) hi c.ds o) with ⟨h1, h2⟩ | ⟨x, y, h1, h2, h3⟩
  · rw [h1, h2]; exact fRun_eq hi o W c s
  · rw [h1, h2]
    simp only
    rw [bR_eq, h3]
    cases y.f ⟨⟨g, b⟩, c.ds⟩ with
    | true => exact fRun_eq hi o W c s
    | false => rfl
theorem fSee_eq (hi : Inv vm σ n st ⟨g, b⟩) (ds : List Nam) (o : Oper) (s : AS) : (fSee P cf vm fn ops σ n o).f st g b s = (kSee P cf vm fn ops o).f ⟨⟨g, b⟩, ds⟩ s := by
  unfold fSee kSee
  rcases want_cases (fWant_eq (ops := ops) hi ds o) with ⟨h1, h2⟩ | ⟨x, y, h1, h2, h3⟩
  · rw [h1, h2]; exact qOp_eq hi ds o s
  · rw [h1, h2]
    simp only
    rw [h3, qOp_eq hi ds o s]
theorem cpyOf_some {o : Oper} {i : Nat} {x : Operand} (h : cpyOf P vm nt o = some (i, x)) : o.guard = none ∧ o.dst = some i ∧ (o.op = .move x ∨ o.op = .assign x) ∧ okX P.globals.size x = true ∧ Nat.blt i nt = true ∧ vIdx vm i = none := by
  obtain ⟨dst, op, type, pos, after, guard⟩ := o
  unfold cpyOf at h
  simp only at h
  split at h
  · rename_i i' x'
    cases hb : (okX P.globals.size x' && Nat.blt i' nt && (vIdx vm i').isNone) with
    | false => rw [hb] at h; cases h
    | true =>
      rw [hb] at h
      cases h
      simp only [Bool.and_eq_true] at hb
      exact ⟨rfl, rfl, .inl rfl, hb.1.1, hb.1.2, by simpa using hb.2⟩
  · rename_i i' x'
    cases hb : (okX P.globals.size x' && Nat.blt i' nt && (vIdx vm i').isNone) with
    | false => rw [hb] at h; cases h
    | true =>
      rw [hb] at h
      cases h
      simp only [Bool.and_eq_true] at hb
      exact ⟨rfl, rfl, .inr rfl, hb.1.1, hb.1.2, by simpa using hb.2⟩
  · cases h
theorem fCpy_eq {K : KT} {k : Cq → List Hd → FrA → AS → RO} (hK : IsH vm K k) (hi : Inv vm σ n st ⟨g, b⟩) {c : Cq} {hs : List Hd} (hr : RH c.hs hs) {i : Nat} {x : Operand} (hx : okX P.globals.size x = true) (h256 : i < 256) (hv : vIdx vm i = none) (s : AS) :
    (fCpy vm σ n i x K).f c st g b s = k c hs ⟨(tsF vm i).f ⟨g, b⟩ ((cX1 vm x).f ⟨⟨g, b⟩, c.ds⟩), c.ds⟩ s := by
  have e : ∀ v, (tsF vm i).f ⟨g, b⟩ v = ⟨(ts8 i).f g v, b⟩ := fun v => by unfold tsF; rw [hv]
  have hcst : (∀ j, x ≠ .tmp j) → (⟨fun c st g b s => (K (⟨i, .cst x⟩ :: σ) n).f c st ((ts8 i).f g (cK x)) b s⟩ : KSF n).f c st g b s = k c hs ⟨(tsF vm i).f ⟨g, b⟩ ((cX1 vm x).f ⟨⟨g, b⟩, c.ds⟩), c.ds⟩ s := fun hn => by
    have h1 := cK_eq (vm := vm) hn ⟨⟨g, b⟩, c.ds⟩
    have hp := hi.alias h256 (v := cK x) (e := .cst x) rfl
    rw [← h1, e]
    rw [e] at hp
    exact hK _ _ _ _ _ _ _ _ hp hr
  cases x with
  | const v => exact hcst fun j h => Operand.noConfusion h
  | global v => exact hcst fun j h => Operand.noConfusion h
  | func v => exact hcst fun j h => Operand.noConfusion h
  | tmp j =>
    have hj : j < 256 := by simpa [okX] using hx
    have hrd := rdX_eq hi (.tmp j) c.ds
    cases hf : fnd j σ with
    | some ee =>
      have hje := (hi j ee hf).2
      have hp := hi.alias h256 (v := (tgF vm j).f ⟨g, b⟩) (e := ee) (by cases ee <;> exact hje)
      simp only [fCpy, hf]
      rw [hrd]
      rw [e] at hp ⊢
      exact hK _ _ _ _ _ _ _ _ hp hr
    | none =>
      simp only [fCpy, hf]
      rw [hrd]
      have hp := hi.push h256 ((tgF vm j).f ⟨g, b⟩)
      rw [e] at hp ⊢
      refine hK _ _ _ _ _ _ _ _ (fun m ee hm => ?_) hr
      rw [fnd_cons] at hm
      by_cases h1 : i = m
      · subst h1
        exact hp i ee (by rw [fnd_cons, if_pos rfl]; rw [if_pos rfl] at hm; exact hm)
      · rw [if_neg h1, fnd_cons] at hm
        by_cases h2 : j = m
        · subst h2
          rw [if_pos rfl] at hm
          cases hm
          refine ⟨hj, by omega, ?_⟩
          rw [show n + 1 - 1 - n = 0 by omega, ← e, tget_ne _ hj h256 (Ne.symm h1)]
          rfl
        · rw [if_neg h2] at hm
          exact hp m ee (by rw [fnd_cons, if_neg h1]; exact hm)
theorem fStep_eq {K : KT} {k : Cq → List Hd → FrA → AS → RO} (hK : IsH vm K k) (hi : Inv vm σ n st ⟨g, b⟩) {c : Cq} {hs : List Hd} (hr : RH c.hs hs) {o : Oper} (hop : okOp nt ops o = true) (s : AS) :
    (fStep P cf vm fn nt ops σ n o K).f c st g b s = bindR ((kOne P cf vm fn ops o).f c.ev ⟨⟨g, b⟩, c.ds⟩ s) fun y => k c hs ((cD vm nt o.dst).f ⟨⟨g, b⟩, c.ds⟩ y.1) y.2 := by
  have hd : okD nt o.dst = true := by simp only [okOp, Bool.and_eq_true] at hop; exact hop.1
  unfold fStep
  cases hc : cpyOf P vm nt o with
  | none =>
    simp only
    rw [fOne_eq hi]
    exact bind_congr _ fun y => fPut_eq hK hi hr hd y.1 y.2
  | some ix =>
    obtain ⟨i, x⟩ := ix
    obtain ⟨h1, h2, h3, h4, h5, h6⟩ := cpyOf_some hc
    have hin : i < nt := by simpa using h5
    have h256 : i < 256 := by
      rw [h2] at hd
      have hd' : nt ≤ i ∨ i < 256 := by simpa [okD] using hd
      exact hd'.resolve_left (fun h => absurd hin (Nat.not_lt.2 h))
    have hkW : kWant vm ops o = none := by unfold kWant; rw [h1]
    have hone : (kOne P cf vm fn ops o).f c.ev ⟨⟨g, b⟩, c.ds⟩ s = .one ((cX1 vm x).f ⟨⟨g, b⟩, c.ds⟩, s) := by
      unfold kOne
      rw [hkW]
      rcases h3 with h3 | h3 <;> simp only [kOp, h3, h4] <;> rfl
    rw [hone, h2]
    show (fCpy vm σ n i x K).f c st g b s = k c hs ((cD vm nt (some i)).f ⟨⟨g, b⟩, c.ds⟩ ((cX1 vm x).f ⟨⟨g, b⟩, c.ds⟩)) s
    have hcD : (cD vm nt (some i)).f ⟨⟨g, b⟩, c.ds⟩ ((cX1 vm x).f ⟨⟨g, b⟩, c.ds⟩) = ⟨(tsF vm i).f ⟨g, b⟩ ((cX1 vm x).f ⟨⟨g, b⟩, c.ds⟩), c.ds⟩ := by simp only [cD, h5]
    rw [hcD]
    exact fCpy_eq hK hi hr h4 h256 h6 s
/-- On from a frame, with what is held. -/
noncomputable def apF (K : KCF) (c : Cq) (fr : FrA) (s : AS) : RO := K.f ⟨c.rd, c.ev, fr.ds, c.hs⟩ fr.t.g fr.t.b s
theorem fOps_eq (K : KCF) : ∀ (l : List Oper), IsH vm (fOps P cf vm fn nt ops l K) fun c _ fr s => bindR ((kOps P cf vm fn nt ops l).f c.ev fr s) fun y => apF K c y.1 y.2
  | [] => fun _ _ _ _ _ _ _ _ _ _ => rfl
  | o :: l => fun σ n c st g b s hs hi hr => by
    unfold fOps kOps
    cases hop : okOp nt ops o with
    | false => rfl
    | true =>
      simp only
      rw [fStep_eq (fOps_eq K l) hi hr hop, bind_bind]
theorem fPlan_eq (K : KCF) : ∀ (p : Plan), IsH vm (fPlan P cf vm fn nt ops p K) fun c hs fr s => bindR ((kPlan P cf vm fn nt ops p).f c.ev hs fr s) fun y => goF K c y.1 y.2
  | .done => fun _ _ _ _ _ _ _ _ _ _ => rfl
  | .flt i p => fun σ n c st g b s hs hi hr => by
    unfold fPlan kPlan
    cases ops[i]? with
    | none => rfl
    | some o =>
      simp only
      cases hop : okOp nt ops o with
      | false => cases pureOp P o <;> rfl
      | true =>
        have hd : okD nt o.dst = true := by simp only [okOp, Bool.and_eq_true] at hop; exact hop.1
        cases pureOp P o with
        | true =>
          simp only
          rw [anGet_eq, fSee_eq hi c.ds]
          cases (kSee P cf vm fn ops o).f ⟨⟨g, b⟩, c.ds⟩ s with
          | get v => exact fPut_eq (fPlan_eq K p) hi hr hd v s
          | _ => rfl
        | false =>
          simp only
          rw [anGet_eq, fSee_eq hi c.ds]
          cases (kSee P cf vm fn ops o).f ⟨⟨g, b⟩, c.ds⟩ s with
          | get v => exact fPut_eq (c := ⟨c.rd, c.ev, c.ds, _ :: c.hs⟩) (fPlan_eq K p) hi (.cons ⟨rfl, rfl, fun s => fSee_eq hi c.ds o s⟩ hr) hd v s
          | _ => rfl
  | .prep i p => fun σ n c st g b s hs hi hr => by
    unfold fPlan kPlan
    cases ops[i]? with
    | none => rfl
    | some o =>
      simp only
      cases hop : okOp nt ops o with
      | false => rfl
      | true =>
        simp only
        rw [anVal_eq, qOp_eq hi c.ds]
        cases (kOp P cf vm fn o).f ⟨⟨g, b⟩, c.ds⟩ s with
        | val v s' => exact fPlan_eq K p _ _ _ _ _ _ _ _ hi hr
        | _ => rfl
  | .bind i p => fun σ n c st g b s hs hi hr => by
    unfold fPlan kPlan
    cases ops[i]? with
    | none => rfl
    | some o =>
      simp only
      cases hop : okOp nt ops o with
      | false => rfl
      | true =>
        have hd : okD nt o.dst = true := by simp only [okOp, Bool.and_eq_true] at hop; exact hop.1
        have hch : IsH vm (fun σ' n' => chkF none (fPlan P cf vm fn nt ops p K σ' n')) fun c hs fr s => cB (heldA s hs) (bindR ((kPlan P cf vm fn nt ops p).f c.ev hs fr s) fun y => goF K c y.1 y.2) .no := fun σ n c st g b s hs hi hr => by
          show bR (heldF s c.hs) _ _ = _
          rw [bR_eq, heldF_eq hr, fPlan_eq K p _ _ _ _ _ _ _ _ hi hr]
        simp only
        rw [fAny_eq hi, bind_bind]
        refine bind_congr _ fun y => ?_
        rw [fPut_eq hch hi hr hd]
        cases heldA y.2 hs <;> rfl
  | .eff i p => fun σ n c st g b s hs hi hr => by
    unfold fPlan kPlan
    cases ops[i]? with
    | none => rfl
    | some o =>
      simp only
      cases hop : okOp nt ops o with
      | false => rfl
      | true =>
        have hd : okD nt o.dst = true := by simp only [okOp, Bool.and_eq_true] at hop; exact hop.1
        have hch : IsH vm (fun σ' n' => chkF (some (waitsOn ops o)) (fPlan P cf vm fn nt ops p K σ' n')) fun c hs fr s => cB (heldA s (keepH (waitsOn ops o) hs)) (bindR ((kPlan P cf vm fn nt ops p).f c.ev (keepH (waitsOn ops o) hs) fr s) fun y => goF K c y.1 y.2) .no := fun σ n c st g b s hs hi hr => by
          have hk := keepF_eq (w := waitsOn ops o) hr
          show bR (heldF s (keepF (waitsOn ops o) c.hs)) _ _ = _
          rw [bR_eq, heldF_eq hk]
          exact congrArg (fun z => cB _ z R.no) (fPlan_eq K p _ _ ⟨c.rd, c.ev, c.ds, keepF (waitsOn ops o) c.hs⟩ _ _ _ _ _ hi hk)
        simp only
        rw [fOne_eq hi, bind_bind]
        refine bind_congr _ fun y => ?_
        rw [fPut_eq hch hi hr hd]
        cases heldA y.2 (keepH (waitsOn ops o) hs) <;> rfl
theorem fDraw_eq (K : KCF) (c : Cq) (s : AS) (hc : c.hs = []) : (fDraw P cf vm fn nt ops K).f c () g b s = bindR ((kDraw P cf vm fn nt ops).f c.ev ⟨⟨g, b⟩, c.ds⟩ s) fun y => goF K c y.1 y.2 := by
  unfold fDraw fDrawM kDraw kDrawM
  cases (noDS ops && okPlanF ops (mks ops ops.toList 0) (planD P ops (mks ops ops.toList 0))) with
  | false => rfl
  | true => exact fPlan_eq K _ [] 0 c () g b s [] Inv.nil (by rw [hc]; exact .nil)
end
end Go.Proofs.YtfnjojdiiklleaaGreat.Ev
