/- The quick evaluator is the same: code, calls, the whole. -/
import Derived.Test.YthgkdadchfoomabGreatEwD
import Derived.Test.YthgkdadchfoomabGreatEvZi
namespace Go.Proofs.YthgkdadchfoomabGreat.Ev
theorem thenA_assoc (x : RO) (f h : FrA → AS → RO) : thenA (thenA x f) h = thenA x fun fr s => thenA (f fr s) h := by
  unfold thenA
  rw [bind_bind]
  refine bind_congr _ fun y => ?_
  obtain ⟨y1, y2⟩ := y
  cases y1 with
  | val v => rfl
  | ex e fr => cases e <;> rfl
theorem thenA_congr (x : RO) {f h : FrA → AS → RO} (e : ∀ fr s, f fr s = h fr s) : thenA x f = thenA x h := by
  have : f = h := funext fun fr => funext fun s => e fr s
  rw [this]
theorem kid_bind {α : Type} (x : RO) (c : Cq) {h : Out × AS → R α} (hv : ∀ v s, h (.val v, s) = .no) : bindR (thenA x fun fr s => goF Kid c fr s) h = bindR x h := by
  unfold thenA
  rw [bind_bind]
  refine bind_congr _ fun y => ?_
  obtain ⟨y1, y2⟩ := y
  cases y1 with
  | val v => exact (hv v y2).symm
  | ex e fr => cases e <;> rfl
section
variable {P : Program} {cf : Cf} {vm : Vm} {fn : FuncId} {nt : Nat}
theorem fCode_eq : ∀ (x : Code) (K : KCF) (c : Cq) (g : T8) (b : B4) (s : AS), c.hs = [] →
    (fCode P cf vm fn nt x K).f c g b s = thenA ((kCode P cf vm fn nt x).f c.rd c.ev ⟨⟨g, b⟩, c.ds⟩ s) fun fr s => goF K c fr s
  | .skip, K, ⟨rd, ev, ds, hs⟩, g, b, s, hc => by cases hc; rfl
  | .label l, K, ⟨rd, ev, ds, hs⟩, g, b, s, hc => by cases hc; rfl
  | .exit i, K, c, g, b, s, hc => rfl
  | .ret, K, c, g, b, s, hc => rfl
  | .goto l, K, c, g, b, s, hc => rfl
  | .refuse l, K, c, g, b, s, hc => rfl
  | .seq x y, K, c, g, b, s, hc => by
    show (fCode P cf vm fn nt x (fCode P cf vm fn nt y K)).f c g b s = thenA (thenA ((kCode P cf vm fn nt x).f c.rd c.ev ⟨⟨g, b⟩, c.ds⟩ s) fun fr s => (kCode P cf vm fn nt y).f c.rd c.ev fr s) _
    rw [fCode_eq x _ c g b s hc, thenA_assoc]
    refine thenA_congr _ fun fr s => ?_
    exact fCode_eq y K ⟨c.rd, c.ev, fr.ds, []⟩ fr.t.g fr.t.b s rfl
  | .cond x y z, K, c, g, b, s, hc => by
    unfold fCode kCode
    cases okX P.globals.size x with
    | false => rfl
    | true =>
      simp only
      rw [boolR_eq, rdC_eq x c.ds]
      cases (cX1 vm x).f ⟨⟨g, b⟩, c.ds⟩ with
      | bool t =>
        show bR t _ _ = thenA (cB t _ _) _
        rw [bR_eq]
        cases t with
        | true => exact fCode_eq y K c g b s hc
        | false => exact fCode_eq z K c g b s hc
      | _ => rfl
  | .block i x, K, c, g, b, s, hc => by
    show bindR ((fCode P cf vm fn nt x Kid).f c g b s) _ = thenA (bindR ((kCode P cf vm fn nt x).f c.rd c.ev ⟨⟨g, b⟩, c.ds⟩ s) _) _
    rw [fCode_eq x Kid c g b s hc, kid_bind _ c (fun _ _ => rfl)]
    unfold thenA
    rw [bind_bind]
    refine bind_congr _ fun y => ?_
    obtain ⟨y1, y2⟩ := y
    cases y1 with
    | val v => rfl
    | ex e fr =>
      cases e with
      | exit j =>
        show cB (Nat.beq i j) _ _ = bindR (cB (Nat.beq i j) _ _) _
        cases Nat.beq i j <;> rfl
      | _ => rfl
  | .loop x, K, c, g, b, s, hc => by
    show thenA ((fCode P cf vm fn nt x _).f c g b s) _ = thenA (thenA ((kCode P cf vm fn nt x).f c.rd c.ev ⟨⟨g, b⟩, c.ds⟩ s) _) _
    rw [fCode_eq x _ c g b s hc]
    rfl
  | .scope x, K, c, g, b, s, hc => fCode_eq x K c g b s hc
  | .region id ops false, K, c, g, b, s, hc => by
    show (fOps P cf vm fn nt ops ops.toList K [] 0).f c () g b s = thenA (bindR ((kOps P cf vm fn nt ops ops.toList).f c.ev ⟨⟨g, b⟩, c.ds⟩ s) fun x => .one (.ex .normal x.1, x.2)) _
    rw [fOps_eq K ops.toList [] 0 c () g b s [] Inv.nil (by rw [hc]; exact .nil)]
    unfold thenA
    rw [bind_bind]
    refine bind_congr _ fun y => ?_
    show apF K c y.1 y.2 = goF K c y.1 y.2
    unfold apF goF
    rw [hc]
  | .region id ops true, K, c, g, b, s, hc => by
    show (fDraw P cf vm fn nt ops K).f c () g b s = thenA (bindR ((kDraw P cf vm fn nt ops).f c.ev ⟨⟨g, b⟩, c.ds⟩ s) fun x => .one (.ex .normal x.1, x.2)) _
    rw [fDraw_eq K c s hc]
    unfold thenA
    rw [bind_bind]
    rfl
  | .rangeFunc x params assign body, K, c, g, b, s, hc => rfl
theorem fTop_eq (x : Code) (rd : Option Nam) (ev : Ev) (fr : FrA) (s : AS) : goF (fTop P cf vm fn nt x) ⟨rd, ev, [], []⟩ fr s = (kCode P cf vm fn nt x).f rd ev fr s := by
  cases x with
  | loop x =>
    show (fCode P cf vm fn nt x _).f ⟨rd, ev, fr.ds, []⟩ fr.t.g fr.t.b s = thenA ((kCode P cf vm fn nt x).f rd ev fr s) _
    rw [fCode_eq x _ _ _ _ s rfl]
    rfl
  | _ => rfl
theorem kid_eq {α : Type} (x : Code) (rd : Option Nam) (ev : Ev) (fr : FrA) (s : AS) {h : Out × AS → R α} (hv : ∀ v s, h (.val v, s) = .no) :
    bindR (goF (fCode P cf vm fn nt x Kid) ⟨rd, ev, [], []⟩ fr s) h = bindR ((kCode P cf vm fn nt x).f rd ev fr s) h := by
  show bindR ((fCode P cf vm fn nt x Kid).f ⟨rd, ev, fr.ds, []⟩ fr.t.g fr.t.b s) h = _
  rw [fCode_eq x Kid _ _ _ s rfl]
  exact kid_bind _ _ hv
end
section
variable {P : Program} {cf : Cf}
theorem fFun_eq (f : FuncId) (ev : Ev) (args : List AV) (s : AS) : (fFun P cf f).f ev args s = (kFun P cf f).f ev args s := by
  have fin : ∀ (fn : Func) (c : Code) (t : TF) (s : AS), finsA P (cf.vm f) fn.results.toList ((fCode P cf (cf.vm f) f fn.ntmps c Kid).f ⟨none, ev, [], []⟩ t.g t.b s) = finsA P (cf.vm f) fn.results.toList ((kCode P cf (cf.vm f) f fn.ntmps c).f none ev ⟨t, []⟩ s) := fun fn c t s =>
    kid_eq c none ev ⟨t, []⟩ s (h := fun y => cOut y.1 (fun _ => .no) fun e fr => finA P (cf.vm f) fn.results.toList e fr y.2) fun _ _ => rfl
  unfold fFun kFun
  cases P.funcs[f]? with
  | none => rfl
  | some fn =>
    simp only
    cases fn.body with
    | none => rfl
    | some c =>
      cases (fn.name == "runtime.NumGoroutine") with
      | true => rfl
      | false =>
        cases okRes fn.results.toList with
        | false => rfl
        | true =>
          cases Nat.ble fn.ntmps 256 with
          | false => rfl
          | true =>
            simp only
            cases cf.fl f with
            | false =>
              simp only
              cases (kArgs (cf.vm f) fn.ntmps 0).f args UF with
              | none => rfl
              | some t => show valR (finsA _ _ _ _) = valR (finsA _ _ _ _); rw [fin]
            | true =>
              simp only
              cases (kArgs (cf.vm f) fn.ntmps 0).f args UF with
              | none => rfl
              | some t => show cO (listR (finsA _ _ _ _)) _ _ = cO (listR (finsA _ _ _ _)) _ _; rw [fin]
theorem fRoundB_eq (ev : Ev) (l : Nam) (f : FuncId) (vm : Vm) (n : Nat) (body : Code) (fr : FrA) (s : AS) : fRoundB P cf ev l f vm n body fr s = roundBody P cf ev l f vm n body fr s := by
  unfold fRoundB roundBody
  congr 1
  funext r
  rw [kid_eq body (some l) ev fr _ (fun _ _ => rfl)]
theorem fRound_eq (ev : Ev) (l : Nam) (args : List AV) (s : AS) : fRound P cf ev l args s = evRound P cf ev l args s := by
  unfold fRound evRound
  congr 1
  funext r
  obtain ⟨state, pending, st⟩ := r
  obtain ⟨f, vm, n, params, assign, body, tm, dfs⟩ := st
  show cO ((kParams vm n params.toList).f args tm) _ _ = cO ((kParams vm n params.toList).f args tm) _ _
  congr 1
  funext t
  rw [kid_eq assign (some l) ev ⟨t, []⟩ s (fun _ _ => rfl)]
  simp only [fRoundB_eq]
theorem fevF_eq (ev : Ev) (k : Task) (s : AS) : fevF P cf ev k s = evF P cf ev k s := by
  cases k with
  | call f args => exact fFun_eq f ev args s
  | code c f vm n rd fr => exact fTop_eq c rd ev fr s
  | round l args => exact fRound_eq ev l args s
theorem fev_eq : ∀ n, fev P cf n = ev P cf n
  | 0 => rfl
  | n + 1 => by
    show (fun k s => fevF P cf (fev P cf n) k s) = fun k s => evF P cf (ev P cf n) k s
    rw [fev_eq n]
    funext k s
    exact fevF_eq _ k s
/-- A closed function whose every outcome here is true, found quickly. -/
theorem closed_quick {f : FuncId} {m : Nat} (hmix : P.follows .mixedOrders = true) (hg : P.globals.size = 0) (h : allTrue (fev P cf m (.call f []) clean) = true) (w : World) :
    Calls P f #[] w fun e w' => e = .returned (.bool true) ∧ w.heap.size ≤ w'.heap.size ∧ (∀ g, g < w.heap.size → w'.heap[g]? = w.heap[g]?) ∧ w'.os = w.os ∧ w'.tape = w.tape ∧ w'.output = w.output :=
  closed_true hmix hg (by rw [← fev_eq]; exact h) w
end
end Go.Proofs.YthgkdadchfoomabGreat.Ev
