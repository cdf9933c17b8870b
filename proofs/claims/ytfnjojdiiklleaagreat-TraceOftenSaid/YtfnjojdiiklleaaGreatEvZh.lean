/- A run of a program on abstract memory: rounds, calls; the whole. -/
import Derived.Test.YtfnjojdiiklleaaGreatEvZg
namespace Go.Proofs.YtfnjojdiiklleaaGreat.Ev
section
variable {P : Program} {cf : Cf} {vm : Vm} {fn : FuncId} {n : Nat} {ρ : Rho} {S : AS} {w : World}

/-! ### Rounds -/
theorem kParams_ok {n : Nat} : ∀ {ps : List Tmp} {args : List AV} {us : List Value} {t t' : TF} {tmps : Array Value}, (kParams vm n ps).f args t = some t' → concs ρ args = some us → tmps.size = n → (∀ i, i < 256 → conc ρ ((tgF vm i).f t) = some (tmps.getD i undef)) →
    us.length = ps.length ∧ ((ps.zip us).foldl (fun tm (x : Tmp × Value) => tm.setIfInBounds x.1 x.2) tmps).size = n ∧ ∀ i, i < 256 → conc ρ ((tgF vm i).f t') = some (((ps.zip us).foldl (fun tm (x : Tmp × Value) => tm.setIfInBounds x.1 x.2) tmps).getD i undef)
  | [], args, us, t, t', tmps, h, hu, hs, ht => by
    have h' : cL args (some t) (fun _ _ => none) = some t' := h
    cases args with
    | nil => cases concs_nil hu; cases h'; exact ⟨rfl, hs, ht⟩
    | cons a r => cases h'
  | p :: ps, args, us, t, t', tmps, h, hu, hs, ht => by
    unfold kParams at h
    cases hb : (Nat.blt p n && Nat.blt p 256) with
    | false => rw [hb] at h; cases h
    | true =>
    rw [hb] at h
    simp only [Bool.and_eq_true] at hb
    have hpn : p < n := by simpa using hb.1
    have hp256 : p < 256 := by simpa using hb.2
    have h : cL args none (fun a r => (kParams vm n ps).f r ((tsF vm p).f t a)) = some t' := h
    cases args with
    | nil => cases h
    | cons a r =>
    obtain ⟨u, q, rfl, h1, h2⟩ := concs_cons hu
    have := kParams_ok (tmps := tmps.setIfInBounds p u) (t := (tsF vm p).f t a) h h2 (by simpa using hs) (fun i hi => by
      by_cases e : i = p
      · subst e; rw [tget_same, h1]; simp [hs, hpn]
      · rw [tget_ne a hi hp256 e, ht i hi]
        simp only [Array.getD_eq_getD_getElem?]
        rw [Array.getElem?_setIfInBounds_ne (Ne.symm e)])
    exact ⟨by simp [this.1], this.2⟩
theorem bindR_no {α β : Type} {x : R α} {f : α → R β} (h : (bindR x f).ok) {a : α} (ha : x.has a) : (f a).ok ∧ ∀ b, (f a).has b → (bindR x f).has b := (bindR_ok h).2 a ha
theorem evRound_ok {ev : Ev} (he : EvSpec P ev) (hmix : P.follows .mixedOrders = true) {l : Nam} {g o c : Nat} {args : List AV} {us : List Value} (hs : Sat P ρ S w) (hl : look ρ l = some (.blk g o c)) (ha : concs ρ args = some us) (hok : (evRound P cf ev l args S).ok) :
    ∃ fn tmps assign body, (Instr.yield g us.toArray).run P w = .ok (.round g fn tmps assign body) w ∧ ∀ N, RoundIn Fence.wide N P g fn tmps assign body w (RetPost P ρ S w (evRound P cf ev l args S)) := by
  cases ho : S.at l.p with
  | loop r =>
    obtain ⟨state, pending, st⟩ := r
    obtain ⟨f, vm, n, params, assign, body, tm, dfs⟩ := st
    obtain ⟨q, hq, hrq⟩ := loop_of hs ho hl
    have hE : evRound P cf ev l args S = cO ((kParams vm n params.toList).f args tm) .no fun t =>
        bindR ((kCode P cf vm f n assign).f (some l) ev ⟨t, []⟩ S) fun y => cOut y.1 (fun _ => .no) fun e fr => cX e (roundBody P cf ev l f vm n body fr y.2) (fun _ => .no) .no := by unfold evRound; rw [getA_eq, ho]; rfl
    rw [hE] at hok ⊢
    cases hkp : (kParams vm n params.toList).f args tm with
    | none => rw [hkp] at hok; exact hok.elim
    | some t =>
    rw [hkp] at hok
    simp only [cO_some] at hok ⊢
    obtain ⟨p1, p2, p3⟩ := kParams_ok hkp ha hrq.size hrq.tmps
    have hpar : q.params = params := hrq.params
    have hfold : (q.params.zip us.toArray).foldl (fun tm (x : Tmp × Value) => tm.setIfInBounds x.1 x.2) q.tmps = (params.toList.zip us).foldl (fun tm (x : Tmp × Value) => tm.setIfInBounds x.1 x.2) q.tmps := by
      rw [← Array.foldl_toList, hpar, Array.toList_zip]
    refine ⟨q.fn, (q.params.zip us.toArray).foldl (fun tm (x : Tmp × Value) => tm.setIfInBounds x.1 x.2) q.tmps, q.assign, q.body, ?_, fun N => ?_⟩
    · have hsz : us.toArray.size = q.params.size := by rw [hpar]; simpa using p1
      simp [Instr.yield, run_getLoop hq, hsz]
    · have hasg : q.assign = assign := hrq.assign
      have hbd : q.body = body := hrq.body
      rw [hasg, hbd]
      obtain ⟨k1, k2⟩ := bindR_ok hok
      refine roundIn_of_wpIn (F := Fence.wide) trivial ?_
      have hf0 : FR vm ρ ⟨t, []⟩ n (fun _ => False) { tmps := (q.params.zip us.toArray).foldl (fun tm (x : Tmp × Value) => tm.setIfInBounds x.1 x.2) q.tmps, defers := [] } := by
        rw [hfold]
        exact ⟨p2, fun i hi _ => p3 i hi, .nil⟩
      refine wpIn_mono (kCode_ok he hmix (range_is he) assign ρ S w (some l) (some g) ⟨t, []⟩ _ hs ⟨o, c, hl⟩ hf0 k1 N) fun e a1 w1 hp => ?_
      obtain ⟨ex, fr1, S1, ρ1, q1, q2, q3, q4, q5⟩ := hp
      obtain ⟨k3, k4⟩ := k2 _ q1
      cases ex with
      | exit i => exact k3.elim
      | ret => exact k3.elim
      | normal =>
      cases e with
      | normal =>
        have k3 : (roundBody P cf ev l f vm n body fr1 S1).ok := k3
        have k4 : ∀ z, (roundBody P cf ev l f vm n body fr1 S1).has z → _ := k4
        have hl1 := q3.le.look hl
        cases ho1 : S1.at l.p with
        | loop r1 =>
          obtain ⟨x1, hx1, hr1⟩ := loop_of q4 ho1 hl1
          have hB : roundBody P cf ev l f vm n body fr1 S1 = cB (readyA r1.state) (bindR ((kCode P cf vm f n body).f (some l) ev fr1 (putA S1 l (.loop ⟨.busy, r1.pending, r1.st⟩))) fun x => cOut x.1 (fun _ => .no) fun e _ => roundEnd l e x.2) .no := by
            unfold roundBody; rw [getA_eq, ho1]; rfl
          rw [hB] at k3 k4
          cases hrd : readyA r1.state with
          | false => rw [hrd] at k3; exact k3.elim
          | true =>
          rw [hrd] at k3 k4
          simp only [cB_true] at k3 k4
          have hready : x1.state = .ready := by
            rw [hr1.state]
            cases hst : r1.state <;> first | rfl | (rw [hst] at hrd; cases hrd)
          obtain ⟨t1, t2⟩ := q4.setLoop (r' := ⟨.busy, r1.pending, r1.st⟩) (q' := { x1 with state := .busy }) ho1 hl1 hx1 ⟨rfl, hr1.pending, hr1.size, hr1.tmps, hr1.params, hr1.assign, hr1.body, hr1.defers⟩
          refine ⟨{ w1 with heap := w1.heap.setIfInBounds g (.loop { x1 with state := .busy }) }, ?_, ?_⟩
          · simp only [Instr.beginRound, Sem.run_bind, run_getLoop hx1, Result.andThen_ok, run_setObj hx1 (by intro a t f e; cases e), hready, Sem.run_pure]
          · obtain ⟨k5, k6⟩ := bindR_ok k3
            refine wpIn_mono (kCode_ok he hmix (range_is he) body ρ1 _ _ (some l) (some g) fr1 _ t1 ⟨o, c, hl1⟩ q5 k5 N) fun e2 a2 w2 hp2 => ?_
            obtain ⟨ex2, fr2, S2, ρ2, u1, u2, u3, u4, u5⟩ := hp2
            obtain ⟨k7, k8⟩ := k6 _ u1
            have k7 : (roundEnd l ex2 S2).ok := k7
            have k8 : ∀ z, (roundEnd l ex2 S2).has z → _ := k8
            have hl2 := u3.le.look hl1
            have hext := (q3.trans t2).trans u3
            cases ho2 : S2.at l.p with
            | loop r2 =>
              obtain ⟨x2, hx2, hr2⟩ := loop_of u4 ho2 hl2
              have hend : ∀ jump, (Instr.endRound g jump).run P w2 = .ok (.bool jump.isNone) { w2 with heap := w2.heap.setIfInBounds g (.loop { x2 with state := if jump.isNone then .ready else .done, pending := jump }) } := fun jump => by
                simp only [Instr.endRound, Sem.run_bind, run_getLoop hx2, Result.andThen_ok, run_setObj hx2 (by intro a t f e; cases e), Sem.run_pure]
              have fin : ∀ (jump : Option Code) (st : LoopState), st = (if jump.isNone then .ready else .done) → (roundEnd l ex2 S2).has (.val (.bool jump.isNone), putA S2 l (.loop ⟨st, jump, r2.st⟩)) →
                  ∃ v w', (Instr.endRound g jump).run P w2 = .ok v w' ∧ RetPost P ρ S w (bindR ((kCode P cf vm f n assign).f (some l) ev ⟨t, []⟩ S) fun y => cOut y.1 (fun _ => .no) fun e fr => cX e (roundBody P cf ev l f vm n body fr y.2) (fun _ => .no) .no) (.returned v) w' := fun jump st hst hhas => by
                obtain ⟨v1, v2⟩ := u4.setLoop (r' := ⟨st, jump, r2.st⟩) (q' := { x2 with state := if jump.isNone then .ready else .done, pending := jump }) ho2 hl2 hx2 ⟨hst.symm, rfl, hr2.size, hr2.tmps, hr2.params, hr2.assign, hr2.body, hr2.defers⟩
                exact ⟨_, _, hend jump, .bool jump.isNone, _, ρ2, k4 _ (k8 _ hhas), hext.trans v2, v1, by simp only [conc]⟩
              have hR : ∀ ex, roundEnd l ex S2 = cX ex (.one (.val (.bool true), putA S2 l (.loop ⟨.ready, none, r2.st⟩))) (fun i => .one (.val (.bool false), putA S2 l (.loop ⟨.done, some (.exit i), r2.st⟩))) (.one (.val (.bool false), putA S2 l (.loop ⟨.done, some .ret, r2.st⟩))) := fun ex => by
                unfold roundEnd; rw [getA_eq, ho2]; rfl
              cases ex2 with
              | normal =>
                cases e2 with
                | normal => exact fin none .ready rfl (by rw [hR]; rfl)
                | _ => exact u2.elim
              | exit i =>
                cases e2 with
                | exit i' =>
                  have u2 : i = i' := u2
                  subst u2
                  exact fin (some (.exit i)) .done rfl (by rw [hR]; rfl)
                | _ => exact u2.elim
              | ret =>
                cases e2 with
                | ret => exact fin (some .ret) .done rfl (by rw [hR]; rfl)
                | _ => exact u2.elim
            | _ =>
              have hR : roundEnd l ex2 S2 = R.no := by unfold roundEnd; rw [getA_eq, ho2]; rfl
              rw [hR] at k7; exact k7.elim
        | _ =>
          have hB : roundBody P cf ev l f vm n body fr1 S1 = R.no := by unfold roundBody; rw [getA_eq, ho1]; rfl
          rw [hB] at k3; exact k3.elim
      | _ => exact q2.elim
  | _ =>
    have hE : evRound P cf ev l args S = R.no := by unfold evRound; rw [getA_eq, ho]; rfl
    rw [hE] at hok; exact hok.elim

/-! ### Calls -/
theorem kArgs_ok : ∀ {m i : Nat} {args : List AV} {us : List Value} {t t' : TF} {tmps : Array Value}, (kArgs vm m i).f args t = some t' → concs ρ args = some us → i + m ≤ 256 → tmps.size = i → (∀ j, j < 256 → conc ρ ((tgF vm j).f t) = some (tmps.getD j undef)) →
    us.length ≤ m ∧ ∀ j, j < 256 → conc ρ ((tgF vm j).f t') = some ((tmps ++ us.toArray).getD j undef)
  | 0, i, args, us, t, t', tmps, h, hu, hi, hs, ht => by
    have h' : cL args (some t) (fun _ _ => none) = some t' := h
    cases args with
    | nil => cases concs_nil hu; cases h'; exact ⟨Nat.le_refl _, by simpa using ht⟩
    | cons a r => cases h'
  | m + 1, i, args, us, t, t', tmps, h, hu, hi, hs, ht => by
    have h' : cL args (some t) (fun a r => (kArgs vm m (i + 1)).f r ((tsF vm i).f t a)) = some t' := h
    cases args with
    | nil => cases concs_nil hu; cases h'; exact ⟨Nat.zero_le _, by simpa using ht⟩
    | cons a r =>
    obtain ⟨u, q, rfl, h1, h2⟩ := concs_cons hu
    obtain ⟨r1, r2⟩ := kArgs_ok (tmps := tmps.push u) (t := (tsF vm i).f t a) h' h2 (by omega) (by simp [hs]) (fun j hj => by
      by_cases e : j = i
      · subst e; rw [tget_same, h1]; simp [← hs]
      · rw [tget_ne a hj (by omega) e, ht j hj]
        simp only [Array.getD_eq_getD_getElem?]
        rw [Array.getElem?_push, if_neg (by omega)])
    refine ⟨by simp; omega, fun j hj => ?_⟩
    rw [r2 j hj]
    congr 2
    simp
/-- A block for deferred calls is taken, and its name dies. -/
theorem Sat.take (hs : Sat P ρ S w) {d : Nam} {g o c : Nat} (ho : S.at d.p = .defr) (hd : look ρ d = some (.blk g o c)) : w.heap[g]? = some (.deferred (some [])) ∧
    Sat P ρ (putA S d .dead) { w with heap := w.heap.setIfInBounds g (.deferred none) } ∧ Ext ρ S w ρ (putA S d .dead) { w with heap := w.heap.setIfInBounds g (.deferred none) } := by
  have hobj := hs.obj d.p
  rw [ho] at hobj
  obtain ⟨g', o', c', h1, h2⟩ := hobj
  rw [look_path hd] at h1
  cases h1
  have hlive : (S.at d.p).live := by rw [ho]; exact trivial
  have hat : ∀ p, (putA S d .dead).at p = if p = d.p then .dead else S.at p := at_putA (by intro e; cases e)
  obtain ⟨k1, k2⟩ := hs.kill hat (Tr.put rfl)
  have hother : ∀ g', g' ≠ g → (w.heap.setIfInBounds g (.deferred none))[g']? = w.heap[g']? := fun g' hg => Array.getElem?_setIfInBounds_ne (Ne.symm hg)
  have hlt : g < w.heap.size := (Array.getElem?_eq_some_iff.1 h2).1
  have hself : (w.heap.setIfInBounds g (.deferred none))[g]? = some (.deferred none) := by rw [Array.getElem?_setIfInBounds_self_of_lt hlt]
  refine ⟨h2, ⟨fun p => ?_, k1.inj, fun p g' o c h => ?_, fun p g' k h => ?_, k1.stinj, k1.glob⟩, ⟨Le.refl _, by simp, fun g' hg hn => hother g' fun e => ?_, k2.owns, rfl, rfl, rfl, Tr.put rfl⟩⟩
  · have hp := k1.obj p
    by_cases hf : (putA S d .dead).at p = .free
    · rw [hf] at hp ⊢; exact hp
    · refine hp.mono hf (Le.refl _) fun g' off cap hg hl => hother g' fun e => ?_
      subst e
      rw [hat] at hl
      split at hl
      · exact hl.elim
      · rename_i hne; exact hne (hs.inj _ _ _ _ _ _ _ hl hlive hg (look_path hd))
  · have := hs.bnd _ _ _ _ h; simpa using this
  · obtain ⟨q1, q2⟩ := hs.stp _ _ _ h
    refine ⟨by simpa using q1, fun es c hc => ?_⟩
    by_cases e : g' = g
    · subst e
      rw [hself] at hc; cases hc
    · exact q2 es c (by rw [← hother g' e]; exact hc)
  · subst e; exact hn ⟨d.p, o, c, look_path hd, hlive⟩
noncomputable def resF (tmps : Array Value) : ResultVar → Sem Value
  | .tmp t => pure (tmps.getD t undef)
  | .cell c t => do loadVar t (← asAddr (tmps.getD c undef))
theorem results_eq (f : Func) (tmps : Array Value) : results f tmps = (do let vs ← f.results.mapM (resF tmps); pure (if h : vs.size = 1 then vs[0] else .tuple vs)) := by
  have e : (fun (x : ResultVar) => (match x with | .tmp t => pure (tmps.getD t undef) | .cell a t => do loadVar t (← asAddr (tmps.getD a undef)) : Sem Value)) = resF tmps := by funext x; cases x <;> rfl
  rw [← e]; rfl
theorem kRes_ok {fr : FrA} {a : Act} {n : Nat} (hs : Sat P ρ S w) (hf : FR vm ρ fr n (fun _ => False) a) : ∀ {rs : List ResultVar} {l : List AV}, okRes rs = true → (kRes P vm rs).f fr S = some l →
    ∃ us, concs ρ l = some us ∧ (rs.mapM (resF a.tmps)).run P w = .ok us w
  | [], l, _, h => by
    have : l = [] := (Option.some.inj h).symm
    subst this; exact ⟨[], rfl, by simp⟩
  | .tmp i :: rs, l, hk, h => by
    simp only [okRes, Bool.and_eq_true] at hk
    have h' : cO ((kRes P vm rs).f fr S) none (fun r => some ((tgF vm i).f fr.t :: r)) = some l := h
    obtain ⟨r, h1, h2⟩ := cO_some' h'
    cases h2
    obtain ⟨us, h3, h4⟩ := kRes_ok hs hf hk.2 h1
    refine ⟨a.tmps.getD i undef :: us, concs_cons' (hf.tmps i (by simpa using hk.1) (fun h => h)) h3, ?_⟩
    rw [List.mapM_cons]
    simp only [resF, Sem.run_bind, Sem.run_pure, Result.andThen_ok, h4]
  | .cell c ty :: rs, l, hk, h => by
    simp only [okRes, Bool.and_eq_true] at hk
    have h' : cO ((loadA P ty).f ((tgF vm c).f fr.t) S) none (fun v => cO ((kRes P vm rs).f fr S) none fun r => some (v :: r)) = some l := h
    obtain ⟨v, h0, h''⟩ := cO_some' h'
    obtain ⟨r, h1, h2⟩ := cO_some' h''
    cases h2
    obtain ⟨us, h3, h4⟩ := kRes_ok hs hf hk.2 h1
    have hc := hf.tmps c (by simpa using hk.1) (fun h => h)
    obtain ⟨y, h5, h6⟩ := load_ok hs h0 hc
    refine ⟨y :: us, concs_cons' h5 h3, ?_⟩
    have h0' : vPtr ((tgF vm c).f fr.t) none (fun b o => oCells (getA S b) none fun _ _ cs => (partA P ty).f cs o) = some v := h0
    obtain ⟨b, oo, hb, _⟩ := vPtr_some h0'
    rw [hb] at hc
    obtain ⟨g, off, cap, _, hptr⟩ := conc_ptr hc
    rw [hptr] at h6
    have h7 : (loadVar ty ⟨g, off + oo, none⟩).run P w = .ok y w := by simpa [Instr.loadAt, Instr.sureAddr] using h6
    have h8 : (asAddr (a.tmps.getD c undef)).run P w = .ok ⟨g, off + oo, none⟩ w := by rw [hptr]; rfl
    have h9 : (resF a.tmps (.cell c ty)).run P w = .ok y w := by simp only [resF, Sem.run_bind, h8, Result.andThen_ok, h7]
    rw [List.mapM_cons]
    simp only [Sem.run_bind, h9, Sem.run_pure, Result.andThen_ok, h4]
theorem results_ok {fr : FrA} {a : Act} {n : Nat} {f : Func} (hs : Sat P ρ S w) (hf : FR vm ρ fr n (fun _ => False) a) {l : List AV} (hk : okRes f.results.toList = true) (h : (kRes P vm f.results.toList).f fr S = some l) :
    ∃ u, conc ρ (oneA l) = some u ∧ (results f a.tmps).run P w = .ok u w := by
  obtain ⟨us, h1, h2⟩ := kRes_ok hs hf hk h
  have h3 : (f.results.mapM (resF a.tmps)).run P w = .ok us.toArray w := by
    have e : f.results = f.results.toList.toArray := by simp
    rw [e, List.mapM_toArray, Sem.run_map, h2]; rfl
  refine ⟨if h : us.toArray.size = 1 then us.toArray[0] else .tuple us.toArray, ?_, ?_⟩
  · cases l with
    | nil => cases concs_nil h1; simp [oneA, cL, conc, concs]
    | cons v r =>
      obtain ⟨u, q, rfl, h4, h5⟩ := concs_cons h1
      cases r with
      | nil => cases concs_nil h5; simpa [oneA, cL] using h4
      | cons v2 r2 =>
        obtain ⟨u2, q2, rfl, h6, h7⟩ := concs_cons h5
        show conc ρ (.tuple (v :: v2 :: r2)) = _
        simp only [conc, h1]
        rw [dif_neg (by simp)]
  · rw [results_eq]
    simp only [Sem.run_bind, h3, Result.andThen_ok, Sem.run_pure]
end
end Go.Proofs.YtfnjojdiiklleaaGreat.Ev
