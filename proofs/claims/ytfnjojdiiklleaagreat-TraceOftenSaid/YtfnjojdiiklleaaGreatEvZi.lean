/- A run of a program on abstract memory: outcomes that are one. -/
import Derived.Test.YtfnjojdiiklleaaGreatEvZj
import Derived.Test.YtfnjojdiiklleaaGreatEvC
namespace Go.Proofs.YtfnjojdiiklleaaGreat.Ev
section
variable {P : Program} {ρ : Rho} {S : AS} {w : World}
theorem endA_in {x : AV × AS} {y : Left} (h : endA S x = some y) :
    (∀ z ∈ y.2, z.2 = hget x.2.top z.1.p) ∧ WfN (idsV y.1 []) ∧ ∀ z ∈ y.2, z.2 ≠ .free ∧ WfN (idsO z.2 []) := by
  obtain ⟨rfl, h1, h2⟩ := endC_some h
  refine ⟨fun z hz => (keepL_mem hz).1, fun i hi => (allIn_iff.1 h1 i hi).2, fun z hz => ?_⟩
  obtain ⟨a, b⟩ := closedL_iff.1 h2 z hz
  exact ⟨(oKeep_ne a).1, fun i hi => (allIn_iff.1 b i hi).2⟩
theorem outS_in {x : AV × AS} {y : Left} (h : endA S x = some y) {p : Pth} (hp : ∃ z ∈ y.2, z.1.p = p) : ∃ z ∈ y.2, z.1.p = p ∧ (outS S y.2).at p = z.2 := by
  obtain ⟨h1, _, h3⟩ := endA_in h
  have e1 : hget (outS S y.2).top p = hget x.2.top p := hget_setL_in (f := fun p => hget x.2.top p) h1 hp
  obtain ⟨z, hz, rfl⟩ := hp
  have : hget (outS S y.2).top z.1.p = z.2 := by rw [e1, ← h1 z hz]
  exact ⟨z, hz, rfl, by rw [AS.at_top (by rw [this]; exact (h3 z hz).1), this]⟩
theorem outS_out {d : List (Nam × AO)} {p : Pth} (hp : ¬ ∃ z ∈ d, z.1.p = p) : (outS S d).at p = S.at p := by
  have e1 : hget (outS S d).top p = hget S.top p := hget_setL_out fun x hx e => hp ⟨x, hx, e⟩
  show oFree (hget (outS S d).top p) (hget (outS S d).top p) (layG S.lay ⟨0, p⟩) = oFree (hget S.top p) (hget S.top p) (layG S.lay ⟨0, p⟩)
  rw [e1]
theorem outS_wf (hs : Sat P ρ S w) {x : AV × AS} {y : Left} (h : endA S x = some y) (p : Pth) : WfN (idsO ((outS S y.2).at p) []) := by
  by_cases hp : ∃ z ∈ y.2, z.1.p = p
  · obtain ⟨z, hz, _, e⟩ := outS_in h hp
    rw [e]; exact ((endA_in h).2.2 z hz).2
  · rw [outS_out hp]; exact relO_wf (hs.obj p)
theorem sameN_iff {a b : AS} {l : List (Nam × AO)} : sameN a b l = true ↔ ∀ x ∈ l, beqO (getA a x.1) (getA b x.1) = true := itL_all
theorem sameD_ok (hs : Sat P ρ S w) {x x' : AV × AS} {y z : Left} (hy : endA S x = some y) (hz : endA S x' = some z) (h : sameD S z y = true) : z.1 = y.1 ∧ ∀ p, (outS S z.2).at p = (outS S y.2).at p := by
  obtain ⟨h1, h2⟩ := cB3 (show cB (beqV z.1 y.1) (cB (sameN (outS S z.2) (outS S y.2) z.2) (sameN (outS S z.2) (outS S y.2) y.2) false) false = true from h)
  obtain ⟨h2, h3⟩ := cB3 h2
  refine ⟨beqV_wf _ _ h1 (endA_in hz).2.1 (endA_in hy).2.1, fun p => ?_⟩
  have two : ∀ i : Nam, i.p = p → beqO (getA (outS S z.2) i) (getA (outS S y.2) i) = true → (outS S z.2).at p = (outS S y.2).at p := fun i hi hb => by
    rw [getA_eq, getA_eq, hi] at hb
    exact beqO_wf _ _ hb (outS_wf hs hz p) (outS_wf hs hy p)
  by_cases c1 : ∃ q ∈ z.2, q.1.p = p
  · obtain ⟨q, hq, e⟩ := c1
    exact two q.1 e (sameN_iff.1 h2 q hq)
  · by_cases c2 : ∃ q ∈ y.2, q.1.p = p
    · obtain ⟨q, hq, e⟩ := c2
      exact two q.1 e (sameN_iff.1 h3 q hq)
    · rw [outS_out c1, outS_out c2]
theorem hasD_some {s0 : AS} {y : Left} {l : List Left} (h : hasD s0 y l = true) : ∃ z ∈ l, sameD s0 z y = true := by
  induction l with
  | nil => cases h
  | cons z l ih =>
    have h' : cB (sameD s0 z y) true (hasD s0 y l) = true := h
    cases hb : sameD s0 z y with
    | true => exact ⟨z, by simp, hb⟩
    | false =>
      rw [hb] at h'
      obtain ⟨z', a, b⟩ := ih h'
      exact ⟨z', by simp [a], b⟩
/-- Each outcome is one of those told. -/
theorem addsD_some {s0 : AS} : ∀ {l : List (AV × AS)} {acc d : List Left}, addsD s0 l acc = some d → (∀ z ∈ acc, ∃ x, endA s0 x = some z) →
    (∀ z ∈ acc, z ∈ d) ∧ (∀ z ∈ d, ∃ x, endA s0 x = some z) ∧ ∀ x ∈ l, ∃ y, endA s0 x = some y ∧ ∃ z ∈ d, z = y ∨ sameD s0 z y = true
  | [], acc, d, h, ha => by
    have : acc = d := Option.some.inj h
    subst this
    exact ⟨fun z hz => hz, ha, fun x hx => by cases hx⟩
  | x :: l, acc, d, h, ha => by
    have h' : cO (endA s0 x) none (fun y => cB (hasD s0 y acc) (addsD s0 l acc) (addsD s0 l (app acc [y]))) = some d := h
    cases he : endA s0 x with
    | none => rw [he] at h'; cases h'
    | some y =>
      rw [he] at h'
      have h2 : cB (hasD s0 y acc) (addsD s0 l acc) (addsD s0 l (app acc [y])) = some d := h'
      cases hb : hasD s0 y acc with
      | true =>
        rw [hb] at h2
        obtain ⟨k1, k2, k3⟩ := addsD_some (l := l) h2 ha
        refine ⟨k1, k2, fun x' hx' => ?_⟩
        rcases List.mem_cons.1 hx' with rfl | hx'
        · obtain ⟨z, hz, hzy⟩ := hasD_some hb
          exact ⟨y, he, z, k1 z hz, .inr hzy⟩
        · exact k3 x' hx'
      | false =>
        rw [hb] at h2
        obtain ⟨k1, k2, k3⟩ := addsD_some (l := l) h2 (fun z hz => by
          rcases app_mem.1 hz with q | q
          · exact ha z q
          · rw [List.mem_singleton.1 q]; exact ⟨x, he⟩)
        refine ⟨fun z hz => k1 z (app_mem.2 (.inl hz)), k2, fun x' hx' => ?_⟩
        rcases List.mem_cons.1 hx' with rfl | hx'
        · exact ⟨y, he, y, k1 y (app_mem.2 (.inr (by simp))), .inl rfl⟩
        · exact k3 x' hx'
theorem outsD_has {s0 : AS} {d : List Left} {y : Left} (hy : y ∈ d) : (outsD s0 d).has (outD s0 y) := by
  unfold outsD
  cases d with
  | nil => cases hy
  | cons a l =>
    cases l with
    | nil => rw [List.mem_singleton.1 hy]; exact rfl
    | cons b m =>
      show outD s0 y ∈ itL [] (fun y _ q => outD s0 y :: q) (a :: b :: m)
      generalize a :: b :: m = t at hy
      induction t with
      | nil => cases hy
      | cons c t ih =>
        rcases List.mem_cons.1 hy with rfl | hy
        · exact List.mem_cons_self
        · exact List.mem_cons_of_mem _ (ih hy)
theorem listR_mem {α : Type} {x : R α} {l : List α} (h : listR x = some l) : x.ok ∧ ∀ a, x.has a → a ∈ l := by
  cases x with
  | no => cases h
  | one a => cases h; exact ⟨trivial, fun b hb => by cases hb; simp⟩
  | many m => cases h; exact ⟨trivial, fun b hb => hb⟩
/-- A call whose outcomes become one. -/
theorem merged_ok (hs : Sat P ρ S w) {x : R (AV × AS)} {l : List (AV × AS)} {d : List Left} (hl : listR x = some l) (hd : addsD S l [] = some d)
    {ρ1 : Rho} {S1 : AS} {w1 : World} {v : AV} {u : Value} (hx : x.has (v, S1)) (he : Ext ρ (under S) w ρ1 S1 w1) (h1 : Sat P ρ1 S1 w1) (hv : conc ρ1 v = some u) : ValPost P ρ S w (outsD S d) u w1 := by
  obtain ⟨_, k2, k3⟩ := addsD_some hd (fun z hz => by cases hz)
  obtain ⟨y, hy, z, hz, hzy⟩ := k3 _ ((listR_mem hl).2 _ hx)
  obtain ⟨ρ2, q1, q2, q3⟩ := merge_ok hs he h1 hv hy
  rcases hzy with rfl | hzy
  · exact ⟨z.1, _, ρ2, outsD_has hz, q2, q1, q3⟩
  · obtain ⟨x', hx'⟩ := k2 z hz
    obtain ⟨e1, e2⟩ := sameD_ok hs hy hx' hzy
    exact ⟨z.1, outS S z.2, ρ2, outsD_has hz, ⟨q2.le, q2.size, q2.old, fun g hg ⟨p, o, c, h1, h2⟩ => q2.owns g hg ⟨p, o, c, h1, by rw [← e2]; exact h2⟩, q2.os, q2.tape, q2.output, outS_tr S z.2⟩, q1.same e2, by rw [e1]; exact q3⟩
end
end Go.Proofs.YtfnjojdiiklleaaGreat.Ev
namespace Go.Proofs.YtfnjojdiiklleaaGreat.Ev
section
variable {P : Program} {cf : Cf} {vm : Vm} {ρ : Rho} {S : AS} {w : World}

theorem leaves_ok {F : Fence} {N : Nat} {f : Func} {tmps : Array Value} {R : Ending → World → Prop} : ∀ {ds : List Nam} {defers : List Deferred} {S S' : AS} {w : World}, undoA ds S = some S' → Sat P ρ S w →
    All2 (fun i d => ∃ g o c, look ρ i = some (.blk g o c) ∧ d = ({ target := .collected g, args := #[] } : Deferred)) ds defers →
    (∀ w', Sat P ρ S' w' → Ext ρ S w ρ S' w' → ∃ v, (results f tmps).run P w' = .ok v w' ∧ R (.returned v) w') → LeavesInM F N P f tmps R defers .returning w
  | [], _, S, S', w, hu, hs, ha, h => by
    cases ha
    have : S = S' := Option.some.inj hu
    subst this
    exact h w hs (Ext.refl _ _ _)
  | d :: ds, _, S, S', w, hu, hs, ha, h => by
    cases ha with
    | @cons _ dd _ defers hd ht =>
    obtain ⟨g, o, c, h1, rfl⟩ := hd
    have hu' : oDefr (getA S d) none (undoA ds (putA S d .dead)) = some S' := hu
    cases ho : getA S d with
    | defr =>
      rw [ho] at hu'
      have hu' : undoA ds (putA S d .dead) = some S' := hu'
      obtain ⟨t1, t2, t3⟩ := hs.take (by rw [← getA_eq]; exact ho) h1
      refine ⟨(by intro e; cases e), .inl ⟨g, { w with heap := w.heap.setIfInBounds g (.deferred none) }, rfl, ?_, leaves_ok hu' t2 ht fun w' q1 q2 => h w' q1 (t3.trans q2)⟩⟩
      simp only [Instr.takeDeferred, Sem.run_bind, run_getObj t1 (by intro a t f e; cases e), Result.andThen_ok, run_setObj t1 (by intro a t f e; cases e), Sem.run_pure]
    | _ => rw [ho] at hu'; cases hu'
/-- A function's own run, in whatever memory it begins. -/
theorem kBody_ok {ev : Ev} (he : EvSpec P ev) (hmix : P.follows .mixedOrders = true) {f : FuncId} {fn : Func} (hfn : P.funcs[f]? = some fn) {c : Code} (hb : fn.body = some c) (hres : okRes fn.results.toList = true) (hn256 : fn.ntmps ≤ 256)
    {args : List AV} {us : List Value} (hs : Sat P ρ S w) (ha : concs ρ args = some us) {t : TF} (hka : (kArgs vm fn.ntmps 0).f args UF = some t) {Q : Value → World → Prop}
    (k1 : (finsA P vm fn.results.toList ((kCode P cf vm f fn.ntmps c).f none ev ⟨t, []⟩ S)).ok)
    (hQ : ∀ v S' ρ' u w', (finsA P vm fn.results.toList ((kCode P cf vm f fn.ntmps c).f none ev ⟨t, []⟩ S)).has (v, S') → Ext ρ S w ρ' S' w' → Sat P ρ' S' w' → conc ρ' v = some u → Q u w') (N : Nat) :
    CallsIn Fence.wide N P f us.toArray w (fun e w' => match e with | .returned u => Q u w' | _ => False) := by
  obtain ⟨r1, r2⟩ := kArgs_ok (tmps := #[]) hka ha (by omega) rfl (fun j hj => by rw [tget_U]; simp [conc, concs, undef])
  have hf0 : FR vm ρ ⟨t, []⟩ fn.ntmps (fun _ => False) { tmps := us.toArray ++ Array.replicate (fn.ntmps - us.toArray.size) undef, defers := [] } := by
    refine ⟨by simp; omega, fun i hi _ => ?_, .nil⟩
    rw [r2 i hi]
    have e0 : (#[] : Array Value) ++ us.toArray = us.toArray := by simp
    rw [e0]
    congr 1
    simp only [Array.getD_eq_getD_getElem?]
    by_cases c1 : i < us.length
    · rw [Array.getElem?_append_left (by simpa using c1)]
    · rw [Array.getElem?_append_right (by simpa using c1), Array.getElem?_replicate, Array.getElem?_eq_none (by simpa using c1)]
      by_cases c2 : i - us.toArray.size < fn.ntmps - us.toArray.size
      · rw [if_pos c2]; rfl
      · rw [if_neg c2]
  obtain ⟨k3, k4⟩ := bindR_ok k1
  refine callsIn_of_wp_marks hfn hb trivial (wpIn_mono (F := Fence.wide) (kCode_ok he hmix (range_is he) c ρ S w none none ⟨t, []⟩ _ hs trivial hf0 k3 N) fun e a w1 hp => ?_)
  obtain ⟨ex, fr1, S1, ρ1, q1, q2, q3, q4, q5⟩ := hp
  obtain ⟨k5, k6⟩ := k4 _ q1
  have fin : ∀ ex, (ex = Ex.normal ∨ ex = .ret) → (finA P vm fn.results.toList ex fr1 S1).ok → (∀ z, (finA P vm fn.results.toList ex fr1 S1).has z → (finsA P vm fn.results.toList ((kCode P cf vm f fn.ntmps c).f none ev ⟨t, []⟩ S)).has z) →
      LeavesInM Fence.wide N P fn a.tmps (fun e w' => match e with | .returned u => Q u w' | _ => False) a.defers .returning w1 := fun ex hex hok2 hhas => by
    have hF : finA P vm fn.results.toList ex fr1 S1 = cO (undoA fr1.ds S1) .no fun s' => cO ((kRes P vm fn.results.toList).f fr1 s') .no fun l => .one (oneA l, s') := by
      rcases hex with rfl | rfl <;> rfl
    rw [hF] at hok2 hhas
    cases hun : undoA fr1.ds S1 with
    | none => rw [hun] at hok2; exact hok2.elim
    | some S2 =>
    rw [hun] at hok2 hhas
    simp only [cO_some] at hok2 hhas
    cases hkr : (kRes P vm fn.results.toList).f fr1 S2 with
    | none => rw [hkr] at hok2; exact hok2.elim
    | some l =>
    rw [hkr] at hhas
    simp only [cO_some] at hhas
    refine leaves_ok hun q4 q5.defs fun w' g1 g2 => ?_
    obtain ⟨u, u1, u2⟩ := results_ok g1 q5 hres hkr
    exact ⟨u, u2, hQ _ _ _ _ _ (hhas _ rfl) (q3.trans g2) g1 u1⟩
  cases ex with
  | normal =>
    cases e with
    | normal => exact fin .normal (.inl rfl) k5 k6
    | _ => exact q2.elim
  | ret =>
    cases e with
    | ret => exact fin .ret (.inr rfl) k5 k6
    | _ => exact q2.elim
  | exit i => exact k5.elim
theorem kFun_ok {ev : Ev} (he : EvSpec P ev) (hmix : P.follows .mixedOrders = true) {f : FuncId} {args : List AV} {us : List Value} (hs : Sat P ρ S w) (ha : concs ρ args = some us) (hok : ((kFun P cf f).f ev args S).ok) :
    (callFunc f us.toArray).run P w = .ok (.enter f us.toArray) w ∧ ∀ N, CallsIn Fence.wide N P f us.toArray w (RetPost P ρ S w ((kFun P cf f).f ev args S)) := by
  unfold kFun at hok
  cases hfn : P.funcs[f]? with
  | none => rw [hfn] at hok; exact hok.elim
  | some fn =>
  rw [hfn] at hok
  cases hb : fn.body with
  | none => simp only [hb] at hok; exact hok.elim
  | some c =>
  cases hnm : (fn.name == "runtime.NumGoroutine") with
  | true => simp only [hb, hnm] at hok; exact hok.elim
  | false =>
  cases hres : okRes fn.results.toList with
  | false => simp only [hb, hnm, hres] at hok; exact hok.elim
  | true =>
  cases hn : Nat.ble fn.ntmps 256 with
  | false => simp only [hb, hnm, hres, hn] at hok; exact hok.elim
  | true =>
  have hn256 : fn.ntmps ≤ 256 := by simpa using hn
  refine ⟨?_, fun N => ?_⟩
  · have hnm' : ¬ fn.name = "runtime.NumGoroutine" := by intro e; rw [e] at hnm; simp at hnm
    simp [callFunc, hfn, hnm', hb]
  · cases hfl : cf.fl f with
    | false =>
      have hE : (kFun P cf f).f ev args S = cO ((kArgs (cf.vm f) fn.ntmps 0).f args UF) .no fun t => valR (finsA P (cf.vm f) fn.results.toList ((kCode P cf (cf.vm f) f fn.ntmps c).f none ev ⟨t, []⟩ S)) := by
        unfold kFun; simp only [hfn, hb, hnm, hres, hn, hfl]
      have hok : (cO ((kArgs (cf.vm f) fn.ntmps 0).f args UF) R.no fun t => valR (finsA P (cf.vm f) fn.results.toList ((kCode P cf (cf.vm f) f fn.ntmps c).f none ev ⟨t, []⟩ S))).ok := by
        simp only [hb, hnm, hres, hn, hfl] at hok; exact hok
      rw [hE]
      cases hka : (kArgs (cf.vm f) fn.ntmps 0).f args UF with
      | none => rw [hka] at hok; exact hok.elim
      | some t =>
      rw [hka] at hok
      simp only [cO_some] at hok ⊢
      obtain ⟨k1, k2⟩ := bindR_ok hok
      refine CallsIn.mono (kBody_ok he hmix hfn hb hres hn256 hs ha hka k1 (Q := fun u w' => ValPost P ρ S w (valR (finsA P (cf.vm f) fn.results.toList ((kCode P cf (cf.vm f) f fn.ntmps c).f none ev ⟨t, []⟩ S))) u w') (fun v S' ρ' u w' h1 h2 h3 h4 => ?_) N) fun e w' hp => ?_
      · exact ⟨v, S', ρ', (k2 _ h1).2 _ rfl, h2, h3, h4⟩
      · cases e <;> first | exact hp | exact hp.elim
    | true =>
      have hE : (kFun P cf f).f ev args S = cO ((kArgs (cf.vm f) fn.ntmps 0).f args UF) .no fun t => cO (listR (finsA P (cf.vm f) fn.results.toList ((kCode P cf (cf.vm f) f fn.ntmps c).f none ev ⟨t, []⟩ (under S)))) .no fun l => cO (addsD S l []) .no fun d => outsD S d := by
        unfold kFun; simp only [hfn, hb, hnm, hres, hn, hfl]; rfl
      have hok : (cO ((kArgs (cf.vm f) fn.ntmps 0).f args UF) R.no fun t => cO (listR (finsA P (cf.vm f) fn.results.toList ((kCode P cf (cf.vm f) f fn.ntmps c).f none ev ⟨t, []⟩ (under S)))) R.no fun l => cO (addsD S l []) .no fun d => outsD S d).ok := by
        simp only [hb, hnm, hres, hn, hfl] at hok; exact hok
      rw [hE]
      cases hka : (kArgs (cf.vm f) fn.ntmps 0).f args UF with
      | none => rw [hka] at hok; exact hok.elim
      | some t =>
      rw [hka] at hok
      simp only [cO_some] at hok ⊢
      cases hl : listR (finsA P (cf.vm f) fn.results.toList ((kCode P cf (cf.vm f) f fn.ntmps c).f none ev ⟨t, []⟩ (under S))) with
      | none => rw [hl] at hok; exact hok.elim
      | some l =>
      rw [hl] at hok
      simp only [cO_some] at hok ⊢
      cases hd : addsD S l [] with
      | none => rw [hd] at hok; exact hok.elim
      | some d =>
      simp only [cO_some]
      refine CallsIn.mono (kBody_ok he hmix hfn hb hres hn256 (hs.same (S' := under S) (under_at S)) ha hka (listR_mem hl).1 (Q := fun u w' => ValPost P ρ S w (outsD S d) u w') (fun v S' ρ' u w' h1 h2 h3 h4 => merged_ok hs hl hd h1 h2 h3 h4) N) fun e w' hp => ?_
      cases e <;> first | exact hp | exact hp.elim
theorem ev_spec (hmix : P.follows .mixedOrders = true) : ∀ m, EvSpec P (ev P cf m)
  | 0 => ⟨fun _ _ h => h.elim, fun _ _ _ h => h.elim, fun _ _ _ h => h.elim⟩
  | m + 1 => ⟨fun hs ha hok => kFun_ok (ev_spec hmix m) hmix hs ha hok, fun hs hr hf hok N => kCode_ok (ev_spec hmix m) hmix (range_is (ev_spec hmix m)) _ _ _ _ _ _ _ _ hs hr hf hok N,
      fun hs hl ha hok => evRound_ok (ev_spec hmix m) hmix hs hl ha hok⟩

/-! ### A closed run -/
theorem isTrueO_ok {v : AV} {s : AS} (h : isTrueO (.val v, s) = true) : v = .bool true := by
  have h' : vBool v false (fun b => b) = true := h
  cases v with
  | bool b => rw [show b = true from h']
  | _ => cases h'
theorem allTrue_ok {x : R (Out × AS)} (h : allTrue x = true) : x.ok ∧ ∀ v s, x.has (.val v, s) → v = .bool true := by
  cases x with
  | no => cases h
  | one y => exact ⟨trivial, fun v s hx => by cases hx; exact isTrueO_ok (s := s) h⟩
  | many l =>
    refine ⟨trivial, fun v s hx => ?_⟩
    have h' : itL true (fun y _ r => cB (isTrueO y) r false) l = true := h
    clear h
    have hx2 : (Out.val v, s) ∈ l := hx
    clear hx
    induction l with
    | nil => cases hx2
    | cons y l ih =>
      have h2 : cB (isTrueO y) (itL true (fun y _ r => cB (isTrueO y) r false) l) false = true := h'
      cases hy : isTrueO y with
      | false => rw [hy] at h2; cases h2
      | true =>
        rw [hy] at h2
        rcases List.mem_cons.1 hx2 with hx3 | hx3
        · rw [← hx3] at hy; exact isTrueO_ok hy
        · exact ih h2 hx3
theorem start_at (p : Pth) : clean.at p = .free := by
  show oFree (hget E6 p) (hget E6 p) .free = .free
  rw [hget_E6]; rfl
theorem start_sat (hg : P.globals.size = 0) (w : World) : Sat P (fun _ => none) clean w :=
  ⟨fun p => by rw [start_at]; exact rfl, fun p q g o c o' c' h => by rw [start_at] at h; exact h.elim, (fun p g o c h => by cases h), (fun p g k h => by cases h), (fun p q g k h => by cases h), (fun g h => by rw [hg] at h; cases h)⟩
/-- A closed function whose every outcome here is true: it answers true in every world, and leaves all that was. -/
theorem closed_true {f : FuncId} {m : Nat} (hmix : P.follows .mixedOrders = true) (hg : P.globals.size = 0) (h : allTrue (ev P cf m (.call f []) clean) = true) (w : World) :
    Calls P f #[] w fun e w' => e = .returned (.bool true) ∧ w.heap.size ≤ w'.heap.size ∧ (∀ g, g < w.heap.size → w'.heap[g]? = w.heap[g]?) ∧ w'.os = w.os ∧ w'.tape = w.tape ∧ w'.output = w.output := by
  obtain ⟨h1, h2⟩ := allTrue_ok h
  obtain ⟨_, h3⟩ := (ev_spec hmix m).call (start_sat hg w) (args := []) (us := []) rfl h1
  refine callsIn_wide.1 (CallsIn.mono (h3 0) fun e w' hp => ?_)
  cases e with
  | panicked c => exact hp.elim
  | outgrown => exact hp.elim
  | returned u =>
    obtain ⟨v, S', ρ', q1, q2, q3, q4⟩ := hp
    cases h2 v S' q1
    cases conc_bool q4
    refine ⟨rfl, q2.size, fun g hg' => q2.old g hg' ?_, q2.os, q2.tape, q2.output⟩
    rintro ⟨p, o, c, x, _⟩
    cases x
end
end Go.Proofs.YtfnjojdiiklleaaGreat.Ev
