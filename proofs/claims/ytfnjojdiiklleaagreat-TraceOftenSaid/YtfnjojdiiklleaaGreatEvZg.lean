/- A run of a program on abstract memory: code, but for ranges over functions. -/
import Derived.Test.YtfnjojdiiklleaaGreatEvZe
namespace Go.Proofs.YtfnjojdiiklleaaGreat.Ev
section
variable {P : Program} {cf : Cf} {vm : Vm} {fn : FuncId} {n : Nat} {ρ : Rho} {S : AS} {w : World}

theorem plainly_code {x : R (Out × AS)} : Plainly (CodePost P vm ρ S w n x) := by
  rintro e a w' ⟨ex, fr, S', ρ', _, h, _⟩
  cases ex <;> cases e <;> first | exact h.elim | exact .inl rfl | exact .inr (.inl rfl) | exact .inr (.inr ⟨_, rfl⟩)
theorem CodePost.lift {ρ' : Rho} {S' : AS} {w' : World} {x X : R (Out × AS)} {e : Exit} {a : Act} {w'' : World} (h : CodePost P vm ρ' S' w' n x e a w'') (hx : ∀ z, x.has z → X.has z) (he : Ext ρ S w ρ' S' w') : CodePost P vm ρ S w n X e a w'' := by
  obtain ⟨ex, fr, S2, ρ2, h1, h2, h3, h4, h5⟩ := h
  exact ⟨ex, fr, S2, ρ2, hx _ h1, h2, he.trans h3, h4, h5⟩
theorem CodePost.here {fr : FrA} {a : Act} {x : R (Out × AS)} {ex : Ex} {e : Exit} (hs : Sat P ρ S w) (hf : FR vm ρ fr n (fun _ => False) a) (hx : x.has (.ex ex fr, S)) (he : relX ex e) : CodePost P vm ρ S w n x e a w :=
  ⟨ex, fr, S, ρ, hx, he, Ext.refl _ _ _, hs, hf⟩
theorem thenA_ok {x : R (Out × AS)} {f : FrA → AS → R (Out × AS)} (h : (thenA x f).ok) : x.ok ∧ ∀ ex fr S', x.has (.ex ex fr, S') → (ex = .normal → (f fr S').ok ∧ ∀ z, (f fr S').has z → (thenA x f).has z) ∧ (ex ≠ .normal → (thenA x f).has (.ex ex fr, S')) := by
  obtain ⟨h1, h2⟩ := bindR_ok h
  refine ⟨h1, fun ex fr S' hx => ?_⟩
  obtain ⟨h3, h4⟩ := h2 _ hx
  cases ex with
  | normal => exact ⟨fun _ => ⟨h3, h4⟩, fun h => absurd rfl h⟩
  | exit i => exact ⟨fun h => (by cases h), fun _ => h4 _ rfl⟩
  | ret => exact ⟨fun h => (by cases h), fun _ => h4 _ rfl⟩
/-- What a piece of code is to show. -/
noncomputable def CodeIs (P : Program) (cf : Cf) (vm : Vm) (fn : FuncId) (n : Nat) (ev : Ev) (c : Code) : Prop := ∀ (ρ : Rho) (S : AS) (w : World) (rd : Option Nam) (rn : Option Nat) (fr : FrA) (a : Act), Sat P ρ S w → relR ρ rd rn → FR vm ρ fr n (fun _ => False) a →
  ((kCode P cf vm fn n c).f rd ev fr S).ok → ∀ N, c.wpIn (Wf rn) N P (CodePost P vm ρ S w n ((kCode P cf vm fn n c).f rd ev fr S)) a w
theorem kCode_ok {ev : Ev} (he : EvSpec P ev) (hmix : P.follows .mixedOrders = true) (hrange : ∀ x params assign body, CodeIs P cf vm fn n ev (.rangeFunc x params assign body)) : ∀ c, CodeIs P cf vm fn n ev c
  | .skip => fun ρ S w rd rn fr a hs hr hf hok N => wpIn_skip (CodePost.here hs hf rfl trivial)
  | .label l => fun ρ S w rd rn fr a hs hr hf hok N => wpIn_label (CodePost.here hs hf rfl trivial)
  | .exit i => fun ρ S w rd rn fr a hs hr hf hok N => wpIn_exit (CodePost.here hs hf rfl rfl)
  | .ret => fun ρ S w rd rn fr a hs hr hf hok N => wpIn_ret (CodePost.here hs hf rfl trivial)
  | .goto l => fun ρ S w rd rn fr a hs hr hf hok N => hok.elim
  | .refuse l => fun ρ S w rd rn fr a hs hr hf hok N => hok.elim
  | .seq x y => fun ρ S w rd rn fr a hs hr hf hok N => by
    have hok' : (thenA ((kCode P cf vm fn n x).f rd ev fr S) fun fr s => (kCode P cf vm fn n y).f rd ev fr s).ok := hok
    obtain ⟨h1, h2⟩ := thenA_ok hok'
    refine wpIn_seq (wpIn_mono (kCode_ok he hmix hrange x _ _ _ _ _ _ _ hs hr hf h1 N) fun e a' w' hp => ?_)
    obtain ⟨ex, fr', S', ρ', q1, q2, q3, q4, q5⟩ := hp
    obtain ⟨h3, h4⟩ := h2 ex fr' S' q1
    cases ex with
    | normal =>
      cases e with
      | normal =>
        obtain ⟨h5, h6⟩ := h3 rfl
        exact wpIn_mono (kCode_ok he hmix hrange y _ _ _ _ _ _ _ q4 (hr.mono q3.le) q5 h5 N) fun e a'' w'' hp => hp.lift h6 q3
      | _ => exact q2.elim
    | exit i =>
      cases e with
      | exit j => exact ⟨_, fr', S', ρ', h4 (by intro e; cases e), q2, q3, q4, q5⟩
      | _ => exact q2.elim
    | ret =>
      cases e with
      | ret => exact ⟨_, fr', S', ρ', h4 (by intro e; cases e), q2, q3, q4, q5⟩
      | _ => exact q2.elim
  | .cond x y z => fun ρ S w rd rn fr a hs hr hf hok N => by
    unfold kCode at hok ⊢
    cases hk : okX P.globals.size x with
    | false => rw [hk] at hok; exact hok.elim
    | true =>
    rw [hk] at hok
    have hc := hf.opd hs x (fun _ _ h => h) hk
    have hok : (vBool ((cX1 vm x).f fr) R.no fun t => cB t ((kCode P cf vm fn n y).f rd ev fr S) ((kCode P cf vm fn n z).f rd ev fr S)).ok := hok
    show (Code.cond x y z).wpIn (Wf rn) N P (CodePost P vm ρ S w n (vBool ((cX1 vm x).f fr) R.no fun t => cB t ((kCode P cf vm fn n y).f rd ev fr S) ((kCode P cf vm fn n z).f rd ev fr S))) a w
    cases hv : (cX1 vm x).f fr with
    | bool t =>
      rw [hv] at hok hc
      have hc := conc_bool hc
      refine wpIn_cond hc ?_
      cases t with
      | true => exact kCode_ok he hmix hrange y _ _ _ _ _ _ _ hs hr hf hok N
      | false => exact kCode_ok he hmix hrange z _ _ _ _ _ _ _ hs hr hf hok N
    | _ => rw [hv] at hok; exact hok.elim
  | .block i b => fun ρ S w rd rn fr a hs hr hf hok N => by
    have hok' : (bindR ((kCode P cf vm fn n b).f rd ev fr S) fun y => cOut y.1 (fun _ => R.no) fun e fr => cX e (.one y) (fun j => cB (Nat.beq i j) (.one (.ex .normal fr, y.2)) (.one y)) (.one y)).ok := hok
    obtain ⟨h1, h2⟩ := bindR_ok hok'
    refine wpIn_block (wpIn_mono (kCode_ok he hmix hrange b _ _ _ _ _ _ _ hs hr hf h1 N) fun e a' w' hp => ?_)
    obtain ⟨ex, fr', S', ρ', q1, q2, q3, q4, q5⟩ := hp
    obtain ⟨h3, h4⟩ := h2 _ q1
    cases ex with
    | normal =>
      cases e with
      | normal => exact ⟨_, fr', S', ρ', h4 _ rfl, q2, q3, q4, q5⟩
      | _ => exact q2.elim
    | exit j =>
      cases e with
      | exit j' =>
        have q2 : j = j' := q2
        subst q2
        simp only [Exit.inBlock]
        split
        · rename_i e1
          subst e1
          refine ⟨.normal, fr', S', ρ', h4 _ ?_, trivial, q3, q4, q5⟩
          show (cB (Nat.beq j j) (R.one (Out.ex .normal fr', S')) _).has _
          rw [Nat.beq_refl]; rfl
        · rename_i e1
          refine ⟨.exit j, fr', S', ρ', h4 _ ?_, rfl, q3, q4, q5⟩
          show (cB (Nat.beq i j) _ (R.one (Out.ex (.exit j) fr', S'))).has _
          have : Nat.beq i j = false := by cases hb : Nat.beq i j with | false => rfl | true => rw [Nat.beq_eq] at hb; exact absurd hb.symm e1
          rw [this]; rfl
      | _ => exact q2.elim
    | ret =>
      cases e with
      | ret => exact ⟨_, fr', S', ρ', h4 _ rfl, q2, q3, q4, q5⟩
      | _ => exact q2.elim
  | .loop b => fun ρ S w rd rn fr a hs hr hf hok N => by
    have hok' : (thenA ((kCode P cf vm fn n b).f rd ev fr S) fun fr s => ev (.code (.loop b) fn vm n rd fr) s).ok := hok
    obtain ⟨h1, h2⟩ := thenA_ok hok'
    refine wpIn_unroll plainly_code (wpIn_mono (kCode_ok he hmix hrange b _ _ _ _ _ _ _ hs hr hf h1 N) fun e a' w' hp => ?_)
    obtain ⟨ex, fr', S', ρ', q1, q2, q3, q4, q5⟩ := hp
    obtain ⟨h3, h4⟩ := h2 ex fr' S' q1
    cases ex with
    | normal =>
      cases e with
      | normal =>
        obtain ⟨h5, h6⟩ := h3 rfl
        exact wpIn_mono (he.code q4 (hr.mono q3.le) q5 h5 N) fun e a'' w'' hp => hp.lift h6 q3
      | _ => exact q2.elim
    | exit i =>
      cases e with
      | exit j => exact ⟨_, fr', S', ρ', h4 (by intro e; cases e), q2, q3, q4, q5⟩
      | _ => exact q2.elim
    | ret =>
      cases e with
      | ret => exact ⟨_, fr', S', ρ', h4 (by intro e; cases e), q2, q3, q4, q5⟩
      | _ => exact q2.elim
  | .scope b => fun ρ S w rd rn fr a hs hr hf hok N => wpIn_scope plainly_code (kCode_ok he hmix hrange b _ _ _ _ _ _ _ hs hr hf hok N)
  | .region id ops false => fun ρ S w rd rn fr a hs hr hf hok N => by
    have hok' : (bindR ((kOps P cf vm fn n ops ops.toList).f ev fr S) fun x => R.one (Out.ex .normal x.1, x.2)).ok := hok
    obtain ⟨h1, h2⟩ := bindR_ok hok'
    exact wpIn_region_list (kOps_ok he ops.toList hs hf h1 fun fr' S' ρ' a' w' r1 r2 r3 r4 => ⟨.normal, fr', S', ρ', (h2 _ r1).2 _ rfl, trivial, r2, r3, r4⟩)
  | .region id ops true => fun ρ S w rd rn fr a hs hr hf hok N => by
    have hok' : (bindR ((kDraw P cf vm fn n ops).f ev fr S) fun x => R.one (Out.ex .normal x.1, x.2)).ok := hok
    obtain ⟨h1, h2⟩ := bindR_ok hok'
    refine draw_ok he hmix (fun c a w h => ?_) hs hf h1 fun fr' S' ρ' a' w' r1 r2 r3 r4 => ⟨.normal, fr', S', ρ', (h2 _ r1).2 _ rfl, trivial, r2, r3, r4⟩
    rcases plainly_code _ _ _ h with e | e | ⟨i, e⟩ <;> cases e
  | .rangeFunc x params assign body => hrange x params assign body
end
end Go.Proofs.YtfnjojdiiklleaaGreat.Ev
namespace Go.Proofs.YtfnjojdiiklleaaGreat.Ev
section
variable {P : Program} {cf : Cf} {vm : Vm} {fn : FuncId} {n : Nat} {ρ : Rho} {S : AS} {w : World}

theorem loop_of (hs : Sat P ρ S w) {l : Nam} {r : ALoop} (ho : S.at l.p = .loop r) {g o c : Nat} (hl : look ρ l = some (.blk g o c)) : ∃ q, w.heap[g]? = some (.loop q) ∧ relL ρ r q := by
  have := hs.obj l.p
  rw [ho] at this
  obtain ⟨g', o', c', q, h1, h2, h3⟩ := this
  rw [look_path hl] at h1
  cases h1
  exact ⟨q, h2, h3⟩
theorem run_getLoop {g : Nat} {q : Loop} (h : w.heap[g]? = some (.loop q)) : (Instr.getLoop g).run P w = .ok q w := by
  simp [Instr.getLoop, run_getObj h (by intro a t f e; cases e)]
theorem relL.mono {ρ' : Rho} {r : ALoop} {q : Loop} (h : relL ρ r q) (hl : Le ρ ρ') : relL ρ' r q :=
  ⟨h.state, h.pending, h.size, fun i hi => conc_mono hl _ (h.tmps i hi), h.params, h.assign, h.body, let ⟨o, c, h4⟩ := h.defers; ⟨o, c, hl.look h4⟩⟩
/-- A loop's record is written. -/
theorem Sat.setLoop (hs : Sat P ρ S w) {l : Nam} {r r' : ALoop} {q q' : Loop} {g o c : Nat} (ho : S.at l.p = .loop r) (hl : look ρ l = some (.blk g o c)) (hq : w.heap[g]? = some (.loop q)) (hr : relL ρ r' q') :
    Sat P ρ (putA S l (.loop r')) { w with heap := w.heap.setIfInBounds g (.loop q') } ∧ Ext ρ S w ρ (putA S l (.loop r')) { w with heap := w.heap.setIfInBounds g (.loop q') } := by
  have hlt : g < w.heap.size := (Array.getElem?_eq_some_iff.1 hq).1
  have h1 : (w.heap.setIfInBounds g (.loop q'))[g]? = some (.loop q') := by rw [Array.getElem?_setIfInBounds_self_of_lt hlt]
  have hat : ∀ p, (putA S l (.loop r')).at p = if p = l.p then .loop r' else S.at p := at_putA (by intro e; cases e)
  refine hs.upd (w' := { w with heap := w.heap.setIfInBounds g (.loop q') }) (look_path hl) (by rw [ho]; exact trivial) (by rw [hat, if_pos rfl]; exact trivial) (Le.refl _) (fun p t h => .inl h) (fun p hp => .inl (by rw [hat, if_neg hp])) (Tr.put rfl) ?_ (by simp)
    (fun g' hg => Array.getElem?_setIfInBounds_ne (Ne.symm hg)) ?_ rfl rfl rfl
  · rw [hat, if_pos rfl]; exact ⟨g, o, c, q', look_path hl, h1, hr⟩
  · intro es c' hc
    have h1' : ({ w with heap := w.heap.setIfInBounds g (.loop q') } : World).heap[g]? = _ := h1
    rw [h1'] at hc; cases hc
/-- The record of a new loop. -/
theorem new_loop (hs : Sat P ρ S w) {rec_ : Loop} {r : ALoop} {i : Nam} (hf : S.at i.p = .free) (hr : relL ρ r rec_) {m : Nat} :
    Sat P (ρ.set i.p (.blk w.heap.size 0 0)) ⟨hput S.top i.p (.loop r), S.lay, logA S i, m⟩ { w with heap := w.heap.push (.loop rec_) } ∧ Ext ρ S w (ρ.set i.p (.blk w.heap.size 0 0)) ⟨hput S.top i.p (.loop r), S.lay, logA S i, m⟩ { w with heap := w.heap.push (.loop rec_) } :=
  hs.new (o := .loop r) (ob := .loop rec_) (off := 0) (cap := 0) (w' := { w with heap := w.heap.push (.loop rec_) }) hf (at_put (by intro e; cases e) rfl) (Tr.put rfl) rfl rfl rfl rfl fun hle =>
    ⟨w.heap.size, 0, 0, rec_, Rho.set_same _ _ _, by simp, hr.mono hle⟩
theorem new_defr (hs : Sat P ρ S w) {i : Nam} (hf : S.at i.p = .free) {m : Nat} :
    Sat P (ρ.set i.p (.blk w.heap.size 0 0)) ⟨hput S.top i.p .defr, S.lay, logA S i, m⟩ { w with heap := w.heap.push (.deferred (some [])) } ∧ Ext ρ S w (ρ.set i.p (.blk w.heap.size 0 0)) ⟨hput S.top i.p .defr, S.lay, logA S i, m⟩ { w with heap := w.heap.push (.deferred (some [])) } :=
  hs.new (o := .defr) (ob := .deferred (some [])) (off := 0) (cap := 0) (w' := { w with heap := w.heap.push (.deferred (some [])) }) hf (at_put (by intro e; cases e) rfl) (Tr.put rfl) rfl rfl rfl rfl fun hle =>
    ⟨w.heap.size, 0, 0, Rho.set_same _ _ _, by simp⟩
/-- The loop goes on from its record: the function is called, and what it left is done. -/
theorem rangeIn_ok {ev : Ev} (he : EvSpec P ev) {params : Array Tmp} {assign body : Code} {rd : Option Nam} {rn : Option Nat} {gf : FuncId} {first cap : List AV} {fs cs : List Value} {t : TF} {d : Nam} {ds : List Nam} {fid : FuncId} {dg : Nat} {a : Act} {mark : List Deferred} {tmps : Array Value}
    (hs : Sat P ρ S w) (hr : relR ρ rd rn) (ht : tmps = a.tmps) (hf : FR vm ρ ⟨t, ds⟩ n (fun _ => False) { a with defers := mark ++ a.defers }) (hd : ∃ o c, look ρ d = some (.blk dg o c)) (hfs : concs ρ first = some fs) (hcs : concs ρ cap = some cs)
    (hok : (rangeIn vm fn n ev params assign body rd gf first cap t d ds S).ok) (N : Nat) :
    (callFunc gf (fs ++ .func (.yield w.heap.size) #[] #[] :: cs).toArray).run P { w with heap := w.heap.push (.loop { state := .ready, pending := none, fn := fid, tmps := tmps, params := params, assign := assign, body := body, defers := dg }) } =
        .ok (.enter gf (fs ++ .func (.yield w.heap.size) #[] #[] :: cs).toArray) { w with heap := w.heap.push (.loop { state := .ready, pending := none, fn := fid, tmps := tmps, params := params, assign := assign, body := body, defers := dg }) } ∧
      CallsIn (Wf rn) (N - 1) P gf (fs ++ .func (.yield w.heap.size) #[] #[] :: cs).toArray { w with heap := w.heap.push (.loop { state := .ready, pending := none, fn := fid, tmps := tmps, params := params, assign := assign, body := body, defers := dg }) }
        (rangePost (Wf rn) N P w.heap.size (CodePost P vm ρ S w n (rangeIn vm fn n ev params assign body rd gf first cap t d ds S)) { a with defers := mark ++ a.defers }) := by
  subst ht
  have hne : rangeIn vm fn n ev params assign body rd gf first cap t d ds S ≠ R.no := by intro e; rw [e] at hok; exact hok
  obtain ⟨l, hl, hfree, heq⟩ := newA_ok (S := S) (o := .loop ⟨.ready, none, ⟨fn, vm, n, params, assign, body, t, d⟩⟩) (by_ := 1) (no := R.no)
    (k := fun l s2 => bindR (ev (.call gf (app first (.yld l :: cap))) s2) fun y => cOut y.1 (fun _ => endLoopA vm fn n ev rd l ⟨t, ds⟩ y.2) fun _ _ => .no) (x := rangeIn vm fn n ev params assign body rd gf first cap t d ds S) rfl hne
  rw [← heq] at hok ⊢
  have hrel : relL ρ ⟨.ready, none, ⟨fn, vm, n, params, assign, body, t, d⟩⟩ { state := .ready, pending := none, fn := fid, tmps := a.tmps, params := params, assign := assign, body := body, defers := dg } :=
    ⟨rfl, rfl, hf.size, fun i hi => hf.tmps i hi (fun h => h), rfl, rfl, rfl, hd⟩
  obtain ⟨s1, s2⟩ := new_loop (m := Nat.add S.next 1) hs hfree hrel
  obtain ⟨h1, h2⟩ := bindR_ok hok
  have hargs : concs (ρ.set l.p (.blk w.heap.size 0 0)) (app first (.yld l :: cap)) = some (fs ++ .func (.yield w.heap.size) #[] #[] :: cs) := by
    rw [app_eq]
    exact concs_append (concs_mono s2.le _ hfs) (concs_cons' (by simp only [conc, look_set hl]) (concs_mono s2.le _ hcs))
  obtain ⟨c1, c2⟩ := he.call s1 hargs h1
  refine ⟨c1, CallsIn.mono (c2 (N - 1)) fun e w3 hp => ?_⟩
  cases e with
  | panicked ch => exact hp.elim
  | outgrown => exact hp.elim
  | returned u =>
    obtain ⟨v, S3, ρ3, q1, q2, q3, q4⟩ := hp
    obtain ⟨h3, h4⟩ := h2 _ q1
    have h3 : (endLoopA vm fn n ev rd l ⟨t, ds⟩ S3).ok := h3
    have h4 : ∀ z, (endLoopA vm fn n ev rd l ⟨t, ds⟩ S3).has z → _ := h4
    have hext := s2.trans q2
    have hl3 : look ρ3 l = some (.blk w.heap.size 0 0) := q2.le.look (look_set hl _)
    cases ho : S3.at l.p with
    | loop r =>
      obtain ⟨q, hq, hrq⟩ := loop_of q3 ho hl3
      have hE : endLoopA vm fn n ev rd l ⟨t, ds⟩ S3 = cB (busyA r.state) .no (cO r.pending (.one (.ex .normal ⟨t, ds⟩, putA S3 l (.loop ⟨.exhausted, r.pending, r.st⟩))) fun c => ev (.code c fn vm n rd ⟨t, ds⟩) (putA S3 l (.loop ⟨.exhausted, r.pending, r.st⟩))) := by
        unfold endLoopA
        rw [getA_eq, ho]; rfl
      rw [hE] at h3 h4
      cases hb : busyA r.state with
      | true => rw [hb] at h3; exact h3.elim
      | false =>
      rw [hb] at h3 h4
      simp only [cB_false] at h3 h4
      have hnb : q.state ≠ .busy := by rw [hrq.state]; intro e; rw [e] at hb; cases hb
      obtain ⟨t1, t2⟩ := q3.setLoop (r' := ⟨.exhausted, r.pending, r.st⟩) (q' := { q with state := .exhausted }) ho hl3 hq ⟨rfl, hrq.pending, hrq.size, hrq.tmps, hrq.params, hrq.assign, hrq.body, hrq.defers⟩
      have hend : (Instr.endLoop w.heap.size).run P w3 = .ok q.pending { w3 with heap := w3.heap.setIfInBounds w.heap.size (.loop { q with state := .exhausted }) } := by
        have hbq : (q.state == LoopState.busy) = false := by
          cases hqs : q.state <;> first | rfl | exact absurd hqs hnb
        simp only [Instr.endLoop, Sem.run_bind, run_getLoop hq, Result.andThen_ok, hbq, Bool.false_eq_true, if_false, run_setObj hq (by intro a t f e; cases e), Sem.run_pure]
      refine ⟨q.pending, _, hend, ?_⟩
      have hf4 : FR vm ρ3 ⟨t, ds⟩ n (fun _ => False) { a with defers := mark ++ a.defers } := hf.mono hext.le
      rw [hrq.pending] at t1 t2 ⊢
      cases hpd : r.pending with
      | none =>
        rw [hpd] at h4 t1 t2
        exact ⟨.normal, ⟨t, ds⟩, _, ρ3, h4 _ rfl, trivial, hext.trans t2, t1, hf4⟩
      | some c =>
        rw [hpd] at h3 h4
        rw [hpd] at t1 t2
        exact wpIn_mono (he.code t1 (hr.mono hext.le) hf4 h3 N) fun e a'' w'' hp => hp.lift h4 (hext.trans t2)
    | _ =>
      have hE : endLoopA vm fn n ev rd l ⟨t, ds⟩ S3 = .no := by unfold endLoopA; rw [getA_eq, ho]; rfl
      rw [hE] at h3; exact h3.elim
theorem rangePost_mono {F : Fence} {N l : Nat} {Q Q' : Exit → Act → World → Prop} {a' : Act} (h : ∀ e a w, Q e a w → Q' e a w) {e : Ending} {w3 : World} (hp : rangePost F N P l Q a' e w3) : rangePost F N P l Q' a' e w3 := by
  cases e with
  | returned u =>
    obtain ⟨jump, w4, h1, h2⟩ := hp
    refine ⟨jump, w4, h1, ?_⟩
    cases jump with
    | none => exact h _ _ _ h2
    | some c => exact wpIn_mono h2 h
  | panicked ch => exact h _ _ _ hp
  | outgrown => obtain ⟨a, w, hq⟩ := hp; exact ⟨a, w, h _ _ _ hq⟩
theorem range_is {ev : Ev} (he : EvSpec P ev) (x : Operand) (params : Array Tmp) (assign body : Code) : CodeIs P cf vm fn n ev (.rangeFunc x params assign body) := by
  intro ρ S w rd rn fr a hs hr hf hok N
  unfold kCode at hok
  cases hk : okX P.globals.size x with
  | false => rw [hk] at hok; exact hok.elim
  | true =>
  have hres : (kCode P cf vm fn n (.rangeFunc x params assign body)).f rd ev fr S = vFn ((cX1 vm x).f fr) .no (fun g first cap => cO rd
        (newA S .defr 1 .no fun d s1 => rangeIn vm fn n ev params assign body rd g first cap fr.t d (d :: fr.ds) s1)
        fun l => oLoop (getA S l) .no fun r => rangeIn vm fn n ev params assign body rd g first cap fr.t r.st.defers fr.ds S) fun _ => .no := by
    unfold kCode; rw [hk]
  rw [hres]
  rw [hk] at hok
  have hok : (vFn ((cX1 vm x).f fr) R.no (fun g first cap => cO rd
        (newA S .defr 1 .no fun d s1 => rangeIn vm fn n ev params assign body rd g first cap fr.t d (d :: fr.ds) s1)
        fun l => oLoop (getA S l) .no fun r => rangeIn vm fn n ev params assign body rd g first cap fr.t r.st.defers fr.ds S) fun _ => .no).ok := hok
  have hc := hf.opd hs x (fun _ _ h => h) hk
  cases hv : (cX1 vm x).f fr with
  | func g first cap =>
    rw [hv] at hok hc
    obtain ⟨fs, cs, e1, e2, e3⟩ := conc_func hc
    refine wpIn_rangeFunc fun fid _ => ?_
    have hresv : ∀ l w1, (resolve a.eval (rangeCall x l) 0).run P w1 = .ok { target := .fn (.func g) cs.toArray, args := fs.toArray ++ #[.func (.yield l) #[] #[]] } w1 := fun l w1 => by
      have hm : (#[Operand.const (.func (.yield l) #[] #[])] : Array Operand).map a.eval = #[.func (.yield l) #[] #[]] := by simp [Act.eval]
      simp only [resolve, hm, e1, Deferred.ofValue, Sem.run_pure]
    have hinv : ∀ l w1, (invoke (.fn (.func g) cs.toArray) (fs.toArray ++ #[.func (.yield l) #[] #[]])).run P w1 = (callFunc g (fs ++ .func (.yield l) #[] #[] :: cs).toArray).run P w1 := fun l w1 => by
      have : (fs.toArray ++ #[Value.func (.yield l) #[] #[]]) ++ cs.toArray = (fs ++ .func (.yield l) #[] #[] :: cs).toArray := by simp
      simp only [invoke, this]
    cases rd with
    | none =>
      cases rn with
      | some _ => exact hr.elim
      | none =>
      have hok : (newA S .defr 1 R.no fun d s1 => rangeIn vm fn n ev params assign body none g first cap fr.t d (d :: fr.ds) s1).ok := hok
      have hne : (newA S .defr 1 R.no fun d s1 => rangeIn vm fn n ev params assign body none g first cap fr.t d (d :: fr.ds) s1) ≠ R.no := by intro e; rw [e] at hok; exact hok
      obtain ⟨d, hd, hfree, heq⟩ := newA_ok (S := S) (o := .defr) (by_ := 1) (no := R.no) (k := fun d s1 => rangeIn vm fn n ev params assign body none g first cap fr.t d (d :: fr.ds) s1) rfl hne
      rw [← heq] at hok
      obtain ⟨s1, s2⟩ := new_defr (m := Nat.add S.next 1) hs hfree
      have hfd : FR vm (ρ.set d.p (.blk w.heap.size 0 0)) ⟨fr.t, d :: fr.ds⟩ n (fun _ => False) { a with defers := [{ target := .collected w.heap.size, args := #[] }] ++ a.defers } := by
        have h0 := hf.mono s2.le
        exact ⟨h0.size, h0.tmps, .cons ⟨w.heap.size, 0, 0, look_set hd _, rfl⟩ h0.defs⟩
      obtain ⟨c1, c2⟩ := rangeIn_ok (fid := fid) he s1 (rd := none) (rn := none) trivial rfl hfd ⟨0, 0, look_set hd _⟩ (concs_mono s2.le _ e2) (concs_mono s2.le _ e3) hok N
      refine ⟨_, [{ target := .collected w.heap.size, args := #[] }], _, _, _, g, _, _, ?_, hresv _ _, fun _ _ => trivial, (hinv _ _).trans c1, fun h => (by cases h), CallsIn.mono c2 fun e w3 hp => ?_⟩
      · simp [Instr.enterLoop]; rfl
      · refine rangePost_mono (fun e a w hq => ?_) hp
        show CodePost P vm ρ S _ n (newA S .defr 1 R.no fun d s1 => rangeIn vm fn n ev params assign body none g first cap fr.t d (d :: fr.ds) s1) e a w
        rw [← heq]
        exact hq.lift (fun _ h => h) s2
    | some l0 =>
      cases rn with
      | none => exact hr.elim
      | some g0 =>
      obtain ⟨o0, c0, hl0⟩ := hr
      have hok : (oLoop (getA S l0) R.no fun r => rangeIn vm fn n ev params assign body (some l0) g first cap fr.t r.st.defers fr.ds S).ok := hok
      cases ho : S.at l0.p with
      | loop r =>
        have hE : (oLoop (getA S l0) R.no fun r => rangeIn vm fn n ev params assign body (some l0) g first cap fr.t r.st.defers fr.ds S) = rangeIn vm fn n ev params assign body (some l0) g first cap fr.t r.st.defers fr.ds S := by rw [getA_eq, ho]; rfl
        rw [hE] at hok
        obtain ⟨q, hq, hrq⟩ := loop_of hs ho hl0
        have hfd : FR vm ρ ⟨fr.t, fr.ds⟩ n (fun _ => False) { a with defers := [] ++ a.defers } := ⟨hf.size, hf.tmps, hf.defs⟩
        obtain ⟨c1, c2⟩ := rangeIn_ok (fid := fid) he hs (rd := some l0) (rn := some g0) ⟨o0, c0, hl0⟩ rfl hfd hrq.defers e2 e3 hok N
        refine ⟨_, [], _, _, _, g, _, _, ?_, hresv _ _, fun _ _ => trivial, (hinv _ _).trans c1, fun h => (by cases h), CallsIn.mono c2 fun e w3 hp => ?_⟩
        · simp [Instr.enterLoop, run_getLoop hq]
        · refine rangePost_mono (fun e a w hq => ?_) hp
          show CodePost P vm ρ S _ n (oLoop (getA S l0) R.no fun r => rangeIn vm fn n ev params assign body (some l0) g first cap fr.t r.st.defers fr.ds S) e a w
          rw [hE]
          exact hq
      | _ =>
        have hE : (oLoop (getA S l0) R.no fun r => rangeIn vm fn n ev params assign body (some l0) g first cap fr.t r.st.defers fr.ds S) = R.no := by rw [getA_eq, ho]; rfl
        rw [hE] at hok; exact hok.elim
  | _ => rw [hv] at hok; exact hok.elim
end
end Go.Proofs.YtfnjojdiiklleaaGreat.Ev
