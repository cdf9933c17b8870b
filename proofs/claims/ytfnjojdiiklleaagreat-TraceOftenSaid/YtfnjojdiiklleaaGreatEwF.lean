/- The quick evaluator is the same: code, calls, the whole. -/
import Derived.Test.YtfnjojdiiklleaaGreatEwD
import Derived.Test.YtfnjojdiiklleaaGreatEvZi
namespace Go.Proofs.YtfnjojdiiklleaaGreat.Ev
theorem thenA_assoc (x : RO) (f h : FrA → AS → RO) : thenA (thenA x f) h = thenA x fun fr s => thenA (f fr s) h := by
  unfold thenA
  rw [bind_bind]
  refine bind_congr _ fun y => ?_
  obtain ⟨y1, y2⟩ := y
  cases y1 with
  | val v => rfl
  | ex e fr => cases e <;> rfl
theorem thenA_congr (x : RO) {f h : FrA → AS → RO} (e : ∀ fr s, f fr s = h fr s) : thenA x f = thenA x h := by
  have : f = h := funext fun fr => funext fun s => e fr s
  rw [this]
theorem kid_bind {α : Type} (x : RO) (c : Cq) {h : Out × AS → R α} (hv : ∀ v s, h (.val v, s) = .no) : bindR (thenA x fun fr s => goF Kid c fr s) h = bindR x h := by
  unfold thenA
  rw [bind_bind]
  refine bind_congr _ fun y => ?_
  obtain ⟨y1, y2⟩ := y
  cases y1 with
  | val v => exact (hv v y2).symm
  | ex e fr => cases e <;> rfl
section
variable {P : Program} {cf : Cf} {vm : Vm} {fn : FuncId} {nt : Nat}
theorem fCode_eq : ∀ (x : Code) (K : KCF) (c : Cq) (g : T8) (b : B4) (s : AS), c.hs = [] →
    (fCode P cf vm fn nt x K).f c g b s = thenA ((kCode P cf vm fn nt x).f c.rd c.ev ⟨⟨g, b⟩, c.ds⟩ s) fun fr s => goF K c fr s
  | .skip, K, ⟨rd, ev, ds, hs⟩, g, b, s, hc => by cases hc; rfl
  | .label l, K, ⟨rd, ev, ds, hs⟩, g, b, s, hc => by cases hc; rfl
  | .exit i, K, c, g, b, s, hc => rfl
  | .ret, K, c, g, b, s, hc => rfl
  | .goto l, K, c, g, b, s, hc => rfl
  | .refuse l, K, c, g, b, s, hc => rfl
  | .seq x y, K, c, g, b, s, hc => by
    show (fCode P cf vm fn nt x (fCode P cf vm fn nt y K)).f c g b s = thenA (thenA ((kCode P cf vm fn nt x).f c.rd c.ev ⟨⟨g, b⟩, c.ds⟩ s) fun fr s => (kCode P cf vm fn nt y).f c.rd c.ev fr s) _
    rw [fCode_eq x _ c g b s hc, thenA_assoc]
    refine thenA_congr _ fun fr s => ?_
    exact fCode_eq y K ⟨c.rd, c.ev, fr.ds, []⟩ fr.t.g fr.t.b s rfl
  | .cond x y z, K, c, g, b, s, hc => by
    unfold fCode kCode
    cases okX P.globals.size x with
    | false => rfl
    | true =>
      simp only
      rw [boolR_eq, rdC_eq x c.ds]
      cases (cX1 vm x).f ⟨⟨g, b⟩, c.ds⟩ with
      | bool t =>
        show bR t _ _ = thenA (cB t _ _) _
        rw [bR_eq]
        cases t with
        | true => exact fCode_eq y K c g b s hc
        | false => exact fCode_eq z K c g b s hc
      | _ => rfl
  | .block i x, K, c, g, b, s, hc => by
    show bindR ((fCode P cf vm fn nt x Kid).f c g b s) _ = thenA (bindR ((kCode P cf vm fn nt x).f c.rd c.ev ⟨⟨g, b⟩, c.ds⟩ s) _) _
    rw [fCode_eq x Kid c g b s hc, kid_bind _ c (fun _ _ => rfl)]
    unfold thenA
    rw [bind_bind]
    refine bind_congr _ fun y => ?_
    obtain ⟨y1, y2⟩ := y
    cases y1 with
    | val v => rfl
    | ex e fr =>
      cases e with
      | exit j =>
        show cB (Nat.beq i j) _ _ = bindR (cB (Nat.beq i j) _ _) _
        cases Nat.beq i j <;> rfl
      | _ => rfl
  | .loop x, K, c, g, b, s, hc => by
    show thenA ((fCode P cf vm fn nt x _).f c g b s) _ = thenA (thenA ((kCode P cf vm fn nt x).f c.rd c.ev ⟨⟨g, b⟩, c.ds⟩ s) _) _
    rw [fCode_eq x _ c g b s hc]
    rfl
  | .scope x, K, c, g, b, s, hc => fCode_eq x K c g b s hc
  | .region id ops false, K, c, g, b, s, hc => by
    show (fOps P cf vm fn nt ops ops.toList K [] 0).f c () g b s = thenA (bindR ((kOps P cf vm fn nt ops ops.toList).f c.ev ⟨⟨g, b⟩, c.ds⟩ s) fun x => .one (.ex .normal x.1, x.2)) _
    rw [fOps_eq K ops.toList [] 0 c () g b s [] Inv.nil (by rw [hc]; exact .nil)]
    unfold thenA
    rw [bind_bind]
    refine bind_congr _ fun y => ?_
    show apF K c y.1 y.2 = goF K c y.1 y.2
    unfold apF goF
    rw [hc]
  | .region id ops true, K, c, g, b, s, hc => by
    show (fDraw P cf vm fn nt ops K).f c () g b s = thenA (bindR ((kDraw P cf vm fn nt ops).f c.ev ⟨⟨g, b⟩, c.ds⟩ s) fun x => .one (.ex .normal x.1, x.2)) _
    rw [fDraw_eq K c s hc]
    unfold thenA
    rw [bind_bind]
    rfl
  | .rangeFunc x params assign body, K, c, g, b, s, hc => rfl
theorem fTop_eq (x : Code) (rd : Option Nam) (ev : Ev) (fr : FrA) (s : AS) : goF (fTop P cf vm fn nt x) ⟨rd, ev, [], []⟩ fr s = (kCode P cf vm fn nt x).f rd ev fr s := by
  cases x with
  | loop x =>
    show (fCode P cf vm fn nt x _).f ⟨rd, ev, fr.ds, []⟩ fr.t.g fr.t.b s = thenA ((kCode P cf vm fn nt x).f rd ev fr s) _
    rw [fCode_eq x _ _ _ _ s rfl]
    rfl
  | _ => rfl
theorem kid_eq {α : Type} (x : Code) (rd : Option Nam) (ev : Ev) (fr : FrA) (s : AS) {h : Out × AS → R α} (hv : ∀ v s, h (.val v, s) = .no) :
    bindR (goF (fCode P cf vm fn nt x Kid) ⟨rd, ev, [], []⟩ fr s) h = bindR ((kCode P cf vm fn nt x).f rd ev fr s) h := by
  show bindR ((fCode P cf vm fn nt x Kid).f ⟨rd, ev, fr.ds, []⟩ fr.t.g fr.t.b s) h = _
  rw [fCode_eq x Kid _ _ _ s rfl]
  exact kid_bind _ _ hv
end
section
variable {P : Program} {cf : Cf}
theorem fFun_eq (f : FuncId) (ev : Ev) (args : List AV) (s : AS) : (fFun P cf f).f ev args s = (kFun P cf f).f ev args s := by
  have fin : ∀ (fn : Func) (c : Code) (t : TF) (s : AS), finsA P (cf.vm f) fn.results.toList ((fCode P cf (cf.vm f) f fn.ntmps c Kid).f ⟨none, ev, [], []⟩ t.g t.b s) = finsA P (cf.vm f) fn.results.toList ((kCode P cf (cf.vm f) f fn.ntmps c).f none ev ⟨t, []⟩ s) := fun fn c t s =>
    kid_eq c none ev ⟨t, []⟩ s (h := fun y => cOut y.1 (fun _ => .no) fun e fr => finA P (cf.vm f) fn.results.toList e fr y.2) fun _ _ => rfl
  unfold fFun kFun
  cases P.funcs[f]? with
  | none => rfl
  | some fn =>
    simp only
    cases fn.body with
    | none => rfl
    | some c =>
      cases (fn.name == "runtime.NumGoroutine") with
      | true => rfl
      | false =>
        cases okRes fn.results.toList with
        | false => rfl
        | true =>
          cases Nat.ble fn.ntmps 256 with
          | false => rfl
          | true =>
            simp only
            cases cf.fl f with
            | false =>
              simp only
              cases (kArgs (cf.vm f) fn.ntmps 0).f args UF with
              | none => rfl
              | some t => show valR (finsA _ _ _ _) = valR (finsA _ _ _ _); rw [fin]
            | true =>
              simp only
              cases (kArgs (cf.vm f) fn.ntmps 0).f args UF with
              | none => rfl
              | some t => show cO (listR (finsA _ _ _ _)) _ _ = cO (listR (finsA _ _ _ _)) _ _; rw [fin]
theorem fRoundB_eq (ev : Ev) (l : Nam) (f : FuncId) (vm : Vm) (n : Nat) (body : Code) (fr : FrA) (s : AS) : fRoundB P cf ev l f vm n body fr s = roundBody P cf ev l f vm n body fr s := by
  unfold fRoundB roundBody
  congr 1
  funext r
  rw [kid_eq body (some l) ev fr _ (fun _ _ => rfl)]
theorem fRound_eq (ev : Ev) (l : Nam) (args : List AV) (s : AS) : fRound P cf ev l args s = evRound P cf ev l args s := by
  unfold fRound evRound
  congr 1
  funext r
  obtain ⟨state, pending, st⟩ := r
  obtain ⟨f, vm, n, params, assign, body, tm, dfs⟩ := st
  show cO ((kParams vm n params.toList).f args tm) _ _ = cO ((kParams vm n params.toList).f args tm) _ _
  congr 1
  funext t
  rw [kid_eq assign (some l) ev ⟨t, []⟩ s (fun _ _ => rfl)]
  simp only [fRoundB_eq]
theorem fevF_eq (ev : Ev) (k : Task) (s : AS) : fevF P cf ev k s = evF P cf ev k s := by
  cases k with
  | call f args => exact fFun_eq f ev args s
  | code c f vm n rd fr => exact fTop_eq c rd ev fr s
  | round l args => exact fRound_eq ev l args s
theorem fev_eq : ∀ n, fev P cf n = ev P cf n
  | 0 => rfl
  | n + 1 => by
    show (fun k s => fevF P cf (fev P cf n) k s) = fun k s => evF P cf (ev P cf n) k s
    rw [fev_eq n]
    funext k s
    exact fevF_eq _ k s
/-- A closed function whose every outcome here is true, found quickly. -/
theorem closed_quick {f : FuncId} {m : Nat} (hmix : P.follows .mixedOrders = true) (hg : P.globals.size = 0) (h : allTrue (fev P cf m (.call f []) clean) = true) (w : World) :
    Calls P f #[] w fun e w' => e = .returned (.bool true) ∧ w.heap.size ≤ w'.heap.size ∧ (∀ g, g < w.heap.size → w'.heap[g]? = w.heap[g]?) ∧ w'.os = w.os ∧ w'.tape = w.tape ∧ w'.output = w.output :=
  closed_true hmix hg (by rw [← fev_eq]; exact h) w
end
end Go.Proofs.YtfnjojdiiklleaaGreat.Ev
namespace Go.Proofs.YtfnjojdiiklleaaGreat.Ev
/-! ### Memory, written out -/
abbrev i (n : Int) : AV := .int .i64 n
abbrev b (n : Int) : AV := .int .u8 n
abbrev h (n : Int) : AV := .int .u16 n
abbrev w (n : Int) : AV := .int .u32 n
abbrev q (n : Int) : AV := .int .u64 n
abbrev j (n : Int) : AV := .int .i32 n
noncomputable def rp (n : Nat) (v : AV) (l : List AV) : List AV := iter l (fun r => v :: r) n
/-- These objects over those of a memory. -/
noncomputable def oL (t : H6) (l : List (Nat × AO)) : H6 := itL t (fun x _ r => hput r (digs x.1) x.2) l

/-! ### Is a memory another one? -/
noncomputable def eqL {α : Type} (f : α → α → Bool) (l : List α) : List α → Bool := itL (fun _ => true) (fun x _ ih m => cL m false fun y t => cB (f x y) (ih t) false) l
theorem eqL_at {α : Type} {f : α → α → Bool} {l m : List α} (h : eqL f l m = true) {k : Nat} {x y : α} (hx : l[k]? = some x) (hy : m[k]? = some y) : f x y = true := by
  induction l generalizing m k with
  | nil => simp at hx
  | cons a l ih =>
    cases m with
    | nil => simp at hy
    | cons c m =>
      obtain ⟨h1, h2⟩ := cB3 (show cB (f a c) (eqL f l m) false = true from h)
      cases k with
      | zero =>
        rw [List.getElem?_cons_zero] at hx hy
        cases hx; cases hy
        exact h1
      | succ k =>
        rw [List.getElem?_cons_succ] at hx hy
        exact ih h2 hx hy
noncomputable def kids1 (t : H1) : List H0 := H1.rec (motive := fun _ => List H0) (fun a0 a1 a2 a3 a4 a5 a6 a7 a8 a9 a10 a11 a12 a13 a14 a15 => [a0, a1, a2, a3, a4, a5, a6, a7, a8, a9, a10, a11, a12, a13, a14, a15]) t
theorem kids1_at (t : H1) (d : Dg) : (kids1 t)[d.num]? = some (sel1 d t) := by cases t; cases d <;> rfl
noncomputable def kids2 (t : H2) : List H1 := H2.rec (motive := fun _ => List H1) (fun a0 a1 a2 a3 a4 a5 a6 a7 a8 a9 a10 a11 a12 a13 a14 a15 => [a0, a1, a2, a3, a4, a5, a6, a7, a8, a9, a10, a11, a12, a13, a14, a15]) t
theorem kids2_at (t : H2) (d : Dg) : (kids2 t)[d.num]? = some (sel2 d t) := by cases t; cases d <;> rfl
noncomputable def kids3 (t : H3) : List H2 := H3.rec (motive := fun _ => List H2) (fun a0 a1 a2 a3 a4 a5 a6 a7 a8 a9 a10 a11 a12 a13 a14 a15 => [a0, a1, a2, a3, a4, a5, a6, a7, a8, a9, a10, a11, a12, a13, a14, a15]) t
theorem kids3_at (t : H3) (d : Dg) : (kids3 t)[d.num]? = some (sel3 d t) := by cases t; cases d <;> rfl
noncomputable def kids4 (t : H4) : List H3 := H4.rec (motive := fun _ => List H3) (fun a0 a1 a2 a3 a4 a5 a6 a7 a8 a9 a10 a11 a12 a13 a14 a15 => [a0, a1, a2, a3, a4, a5, a6, a7, a8, a9, a10, a11, a12, a13, a14, a15]) t
theorem kids4_at (t : H4) (d : Dg) : (kids4 t)[d.num]? = some (sel4 d t) := by cases t; cases d <;> rfl
noncomputable def eqT0 (a b : AO) : Bool := oFree a (beqO a b) (isFree b)
noncomputable def eqT1 (a b : H1) : Bool := eqL eqT0 (kids1 a) (kids1 b)
noncomputable def eqT2 (a b : H2) : Bool := eqL eqT1 (kids2 a) (kids2 b)
noncomputable def eqT3 (a b : H3) : Bool := eqL eqT2 (kids3 a) (kids3 b)
noncomputable def eqT4 (a b : H4) : Bool := eqL eqT3 (kids4 a) (kids4 b)
noncomputable def wfN (l : List Nam) : Bool := itL true (fun i _ r => cB (Nat.beq i.n i.p.num) r false) l
noncomputable def wfT0 (a : AO) : Bool := wfN (idsO a [])
noncomputable def wfT1 (a : H1) : Bool := itL true (fun x _ r => cB (wfT0 x) r false) (kids1 a)
noncomputable def wfT2 (a : H2) : Bool := itL true (fun x _ r => cB (wfT1 x) r false) (kids2 a)
noncomputable def wfT3 (a : H3) : Bool := itL true (fun x _ r => cB (wfT2 x) r false) (kids3 a)
noncomputable def wfT4 (a : H4) : Bool := itL true (fun x _ r => cB (wfT3 x) r false) (kids4 a)
theorem wfN_ok {l : List Nam} (h : wfN l = true) : WfN l := fun i hi => Nat.eq_of_beq_eq_true ((itL_all.1 h) i hi)
theorem eqT0_ok {a b : AO} (h : eqT0 a b = true) (ha : WfN (idsO a [])) (hb : WfN (idsO b [])) : a = b := by
  cases a with
  | free => exact (isFree_iff.1 h).symm
  | _ => exact beqO_wf _ _ h ha hb
theorem eqT1_sel {a b : H1} (h : eqT1 a b = true) (d : Dg) : eqT0 (sel1 d a) (sel1 d b) = true := eqL_at h (kids1_at a d) (kids1_at b d)
theorem eqT2_sel {a b : H2} (h : eqT2 a b = true) (d : Dg) : eqT1 (sel2 d a) (sel2 d b) = true := eqL_at h (kids2_at a d) (kids2_at b d)
theorem eqT3_sel {a b : H3} (h : eqT3 a b = true) (d : Dg) : eqT2 (sel3 d a) (sel3 d b) = true := eqL_at h (kids3_at a d) (kids3_at b d)
theorem eqT4_sel {a b : H4} (h : eqT4 a b = true) (d : Dg) : eqT3 (sel4 d a) (sel4 d b) = true := eqL_at h (kids4_at a d) (kids4_at b d)
theorem wfT1_sel {a : H1} (h : wfT1 a = true) (d : Dg) : wfT0 (sel1 d a) = true := itL_all.1 h _ (List.mem_of_getElem? (kids1_at a d))
theorem wfT2_sel {a : H2} (h : wfT2 a = true) (d : Dg) : wfT1 (sel2 d a) = true := itL_all.1 h _ (List.mem_of_getElem? (kids2_at a d))
theorem wfT3_sel {a : H3} (h : wfT3 a = true) (d : Dg) : wfT2 (sel3 d a) = true := itL_all.1 h _ (List.mem_of_getElem? (kids3_at a d))
theorem wfT4_sel {a : H4} (h : wfT4 a = true) (d : Dg) : wfT3 (sel4 d a) = true := itL_all.1 h _ (List.mem_of_getElem? (kids4_at a d))
theorem eqT_get {a b : H6} (h : eqT4 a b = true) (p : Pth) : eqT0 (hget a p) (hget b p) = true := eqT1_sel (eqT2_sel (eqT3_sel (eqT4_sel h _) _) _) _
theorem wfT_get {a : H6} (h : wfT4 a = true) (p : Pth) : wfT0 (hget a p) = true := wfT1_sel (wfT2_sel (wfT3_sel (wfT4_sel h _) _) _) _
noncomputable def noLay (s : AS) : Bool := cL s.lay true fun _ _ => false
theorem noLay_iff {s : AS} : noLay s = true ↔ s.lay = [] := by
  unfold noLay
  cases s.lay <;> simp
theorem at_noLay {s : AS} (h : s.lay = []) (p : Pth) : s.at p = hget s.top p := by
  show oFree (hget s.top p) (hget s.top p) (layG s.lay ⟨0, p⟩) = _
  rw [h]
  cases e : hget s.top p <;> rfl

/-! ### What is known of calls -/
/-- A call from a state that is written out, and what it leaves. -/
structure Kn where
  f : FuncId
  args : List AV
  s : AS
  v : AV
  s' : AS
noncomputable def isKn (e : Kn) (f : FuncId) (args : List AV) (s : AS) : Bool := cB (Nat.beq f e.f) (cB (beqVs args e.args) (cB (noLay s) (cB (Nat.beq s.next e.s.next) (eqT4 s.top e.s.top) false) false) false) false
/-- Is it written out well? -/
noncomputable def wfKn (e : Kn) : Bool := cB (noLay e.s) (cB (wfN (idsVs e.args [])) (wfT4 e.s.top) false) false
noncomputable def knA (l : List Kn) (f : FuncId) (args : List AV) (s : AS) (r : RO) : RO := itL r (fun e _ r => cB (isKn e f args s) (.one (.val e.v, e.s')) r) l
/-- Calls that are known are not gone through. -/
noncomputable def evK (l : List Kn) (E : Ev) : Ev := fun k s => cTask k (fun f args => knA l f args s (E k s)) (fun _ _ _ _ _ _ => E k s) fun _ _ => E k s
section
variable {P : Program}
/-- What is known is so. -/
noncomputable def KnIs (P : Program) (e : Kn) : Prop := wfKn e = true ∧ ∀ {ρ : Rho} {w : World} {us : List Value}, Sat P ρ e.s w → concs ρ e.args = some us →
  (callFunc e.f us.toArray).run P w = .ok (.enter e.f us.toArray) w ∧ ∀ N, CallsIn Fence.wide N P e.f us.toArray w (RetPost P ρ e.s w (.one (.val e.v, e.s')))
theorem kn_of {E : Ev} (he : EvSpec P E) {e : Kn} (hw : wfKn e = true) (h : E (.call e.f e.args) e.s = .one (.val e.v, e.s')) : KnIs P e :=
  ⟨hw, fun hs ha => by have := he.call (f := e.f) hs ha (by rw [h]; trivial); rw [h] at this; exact this⟩
theorem RetPost.from {ρ : Rho} {S S0 : AS} {w : World} {x : RO} (hat : ∀ p, S.at p = S0.at p) (h1 : S.lay = []) (h2 : S0.lay = []) {e : Ending} {w' : World} (h : RetPost P ρ S0 w x e w') : RetPost P ρ S w x e w' := by
  cases e with
  | returned u =>
    obtain ⟨v, S', ρ', q1, q2, q3, q4⟩ := h
    have ho : ∀ g, Owns ρ S g ↔ Owns ρ S0 g := fun g => ⟨fun ⟨p, o, c, a, b⟩ => ⟨p, o, c, a, by rw [← hat]; exact b⟩, fun ⟨p, o, c, a, b⟩ => ⟨p, o, c, a, by rw [hat]; exact b⟩⟩
    exact ⟨v, S', ρ', q1, ⟨q2.le, q2.size, fun g hg hn => q2.old g hg fun x => hn ((ho g).2 x), fun g hg x => (ho g).2 (q2.owns g hg x), q2.os, q2.tape, q2.output, by rw [q2.tr.1, h1, h2], fun hl => absurd h1 hl⟩, q3, q4⟩
  | _ => exact h
theorem isKn_ok {e : Kn} (hw : wfKn e = true) {f : FuncId} {args : List AV} {s : AS} (h : isKn e f args s = true) {ρ : Rho} {w : World} {us : List Value} (hs : Sat P ρ s w) (ha : concs ρ args = some us) :
    f = e.f ∧ args = e.args ∧ s.lay = [] ∧ e.s.lay = [] ∧ ∀ p, s.at p = e.s.at p := by
  obtain ⟨h1, h⟩ := cB3 h
  obtain ⟨h2, h⟩ := cB3 h
  obtain ⟨h3, h⟩ := cB3 h
  obtain ⟨_, h5⟩ := cB3 h
  obtain ⟨w1, hw⟩ := cB3 hw
  obtain ⟨w2, w3⟩ := cB3 hw
  have l1 := noLay_iff.1 h3
  have l2 := noLay_iff.1 w1
  refine ⟨Nat.eq_of_beq_eq_true h1, beqVs_wf _ _ h2 (concs_wf _ ha) (wfN_ok w2), l1, l2, fun p => ?_⟩
  have hp := relO_wf (hs.obj p)
  rw [at_noLay l1] at hp
  rw [at_noLay l1, at_noLay l2]
  exact eqT0_ok (eqT_get h5 p) hp (wfN_ok (wfT_get w3 p))
theorem knA_ok {f : FuncId} {args : List AV} {s : AS} {r : RO} {ρ : Rho} {w : World} {us : List Value} (hs : Sat P ρ s w) (ha : concs ρ args = some us)
    (hr : r.ok → (callFunc f us.toArray).run P w = .ok (.enter f us.toArray) w ∧ ∀ N, CallsIn Fence.wide N P f us.toArray w (RetPost P ρ s w r)) : ∀ {l : List Kn}, (∀ e ∈ l, KnIs P e) → (knA l f args s r).ok →
    (callFunc f us.toArray).run P w = .ok (.enter f us.toArray) w ∧ ∀ N, CallsIn Fence.wide N P f us.toArray w (RetPost P ρ s w (knA l f args s r))
  | [], _, hok => hr hok
  | e :: l, hl, hok => by
    have hE : knA (e :: l) f args s r = cB (isKn e f args s) (.one (.val e.v, e.s')) (knA l f args s r) := rfl
    rw [hE] at hok ⊢
    cases hk : isKn e f args s with
    | false =>
      rw [hk] at hok
      exact knA_ok hs ha hr (fun e he => hl e (by simp [he])) hok
    | true =>
      obtain ⟨hw, hkn⟩ := hl e (by simp)
      obtain ⟨rfl, rfl, h3, h4, h5⟩ := isKn_ok hw hk hs ha
      obtain ⟨k1, k2⟩ := hkn (hs.same fun p => (h5 p).symm) ha
      exact ⟨k1, fun N => CallsIn.mono (k2 N) fun e' w' hp => hp.from h5 h3 h4⟩
theorem evK_spec {E : Ev} (he : EvSpec P E) {l : List Kn} (hl : ∀ e ∈ l, KnIs P e) : EvSpec P (evK l E) :=
  ⟨fun hs ha hok => knA_ok hs ha (fun h => he.call hs ha h) hl hok, he.code, he.round⟩
variable {cf : Cf}
theorem evF_spec {E : Ev} (he : EvSpec P E) (hmix : P.follows .mixedOrders = true) : EvSpec P (evF P cf E) :=
  ⟨fun hs ha hok => kFun_ok he hmix hs ha hok, fun hs hr hf hok N => kCode_ok he hmix (range_is he) _ _ _ _ _ _ _ _ hs hr hf hok N, fun hs hl ha hok => evRound_ok he hmix hs hl ha hok⟩
theorem fevF_is (E : Ev) : fevF P cf E = evF P cf E := by funext k s; exact fevF_eq E k s
/-- The quick evaluator, with what is known. -/
noncomputable def fevK (P : Program) (cf : Cf) (l : List Kn) (n : Nat) : Ev := iterF (fun _ _ => .no) (fun go => evK l (fevF P cf go)) n
theorem fevK_spec (hmix : P.follows .mixedOrders = true) {l : List Kn} (hl : ∀ e ∈ l, KnIs P e) : ∀ n, EvSpec P (fevK P cf l n)
  | 0 => ⟨fun _ _ h => h.elim, fun _ _ _ h => h.elim, fun _ _ _ h => h.elim⟩
  | n + 1 => by
    show EvSpec P (evK l (fevF P cf (fevK P cf l n)))
    rw [fevF_is]
    exact evK_spec (evF_spec (fevK_spec hmix hl n) hmix) hl
/-- What is shown of a call, with what was known before. -/
theorem kn_by (hmix : P.follows .mixedOrders = true) {l : List Kn} (hl : ∀ e ∈ l, KnIs P e) {m : Nat} {e : Kn} (hw : wfKn e = true) (h : fevK P cf l m (.call e.f e.args) e.s = .one (.val e.v, e.s')) : KnIs P e :=
  kn_of (fevK_spec hmix hl m) hw h
/-- A closed function whose every outcome here is true. -/
theorem closed_known {f : FuncId} {m : Nat} {l : List Kn} (hmix : P.follows .mixedOrders = true) (hg : P.globals.size = 0) (hl : ∀ e ∈ l, KnIs P e) (h : allTrue (fevK P cf l m (.call f []) clean) = true) (w : World) :
    Calls P f #[] w fun e w' => e = .returned (.bool true) ∧ w.heap.size ≤ w'.heap.size ∧ (∀ g, g < w.heap.size → w'.heap[g]? = w.heap[g]?) ∧ w'.os = w.os ∧ w'.tape = w.tape ∧ w'.output = w.output := by
  obtain ⟨h1, h2⟩ := allTrue_ok h
  obtain ⟨_, h3⟩ := (fevK_spec hmix hl m).call (start_sat hg w) (args := []) (us := []) rfl h1
  refine callsIn_wide.1 (CallsIn.mono (h3 0) fun e w' hp => ?_)
  cases e with
  | panicked c => exact hp.elim
  | outgrown => exact hp.elim
  | returned u =>
    obtain ⟨v, S', ρ', q1, q2, q3, q4⟩ := hp
    cases h2 v S' q1
    cases conc_bool q4
    refine ⟨rfl, q2.size, fun g hg' => q2.old g hg' ?_, q2.os, q2.tape, q2.output⟩
    rintro ⟨p, o, c, x, _⟩
    cases x
end
end Go.Proofs.YtfnjojdiiklleaaGreat.Ev
