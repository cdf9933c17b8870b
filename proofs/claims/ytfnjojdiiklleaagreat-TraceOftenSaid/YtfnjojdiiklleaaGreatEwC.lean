/- The quick evaluator is the same: cases, readings. -/
import Derived.Test.YtfnjojdiiklleaaGreatEwA
import Derived.Test.YtfnjojdiiklleaaGreatEvD
namespace Go.Proofs.YtfnjojdiiklleaaGreat.Ev

/-! ### Outcomes -/
theorem joinR_no {α : Type} (x : R α) : joinR x .no = .no := by cases x <;> rfl
theorem joinR_assoc {α : Type} (x y z : R α) : joinR (joinR x y) z = joinR x (joinR y z) := by
  cases x <;> cases y <;> cases z <;> simp [joinR, app_eq]
theorem gather_or {α β : Type} (f : α → R β) (l : List α) : gather f l = .no ∨ ∃ m, gather f l = .many m := by
  induction l with
  | nil => exact .inr ⟨[], rfl⟩
  | cons a l ih =>
    have e : gather f (a :: l) = joinR (f a) (gather f l) := rfl
    rw [e]
    rcases ih with h | ⟨m, h⟩
    · rw [h, joinR_no]; exact .inl rfl
    · rw [h]
      cases f a with
      | no => exact .inl rfl
      | one b => exact .inr ⟨_, rfl⟩
      | many k => exact .inr ⟨_, rfl⟩
theorem gather_app {α β : Type} (f : α → R β) (l m : List α) : gather f (l ++ m) = joinR (gather f l) (gather f m) := by
  induction l with
  | nil =>
    show gather f m = joinR (.many []) (gather f m)
    rcases gather_or f m with h | ⟨k, h⟩ <;> rw [h] <;> rfl
  | cons a l ih =>
    show joinR (f a) (gather f (l ++ m)) = joinR (joinR (f a) (gather f l)) (gather f m)
    rw [ih, joinR_assoc]
theorem bind_join {α β : Type} (x y : R α) (g : α → R β) (hy : y = .no ∨ ∃ m, y = .many m) : bindR (joinR x y) g = joinR (bindR x g) (bindR y g) := by
  rcases hy with rfl | ⟨m, rfl⟩
  · rw [joinR_no]; exact (joinR_no _).symm
  · cases x with
    | no => rfl
    | one a => rfl
    | many l =>
      show gather g (app l m) = _
      rw [app_eq, gather_app]; rfl
theorem bind_gather {α β γ : Type} (f : α → R β) (g : β → R γ) (l : List α) : bindR (gather f l) g = gather (fun a => bindR (f a) g) l := by
  induction l with
  | nil => rfl
  | cons a l ih =>
    show bindR (joinR (f a) (gather f l)) g = joinR (bindR (f a) g) (gather (fun a => bindR (f a) g) l)
    rw [bind_join _ _ _ (gather_or f l), ih]
theorem bind_bind {α β γ : Type} (x : R α) (f : α → R β) (g : β → R γ) : bindR (bindR x f) g = bindR x fun a => bindR (f a) g := by
  cases x with
  | no => rfl
  | one a => rfl
  | many l => exact bind_gather f g l
theorem bind_congr {α β : Type} (x : R α) {f g : α → R β} (h : ∀ a, f a = g a) : bindR x f = bindR x g := by
  have : f = g := funext h
  rw [this]

/-! ### Cases -/
theorem bR_eq (b : Bool) (x y : RO) : bR b x y = cB b x y := by cases b <;> rfl
theorem boolR_eq (v : AV) (f : Bool → RO) : boolR v f = vBool v .no f := by cases v <;> rfl
theorem intR_eq (v : AV) (f : IntKind → Int → RO) : intR v f = vInt v .no f := by cases v <;> rfl
theorem ptrR_eq (v : AV) (f : Nam → Nat → RO) : ptrR v f = vPtr v .no f := by cases v <;> rfl
theorem sliR_eq (v : AV) (f : Nam → Nat → Nat → Nat → RO) : sliR v f = vSl v .no .no f f := by cases v <;> rfl
theorem tupR_eq (v : AV) (f : List AV → RO) : tupR v f = vTup v .no f := by cases v <;> rfl
theorem zR_eq (z : Int) (f : Int → RO) : zR z f = f z := by
  cases z with
  | ofNat m => cases m <;> rfl
  | negSucc m => rfl
theorem nR_eq (n : Nat) (f : Nat → RO) : nR n f = f n := by cases n <;> rfl
theorem posR_eq (z : Int) (f : Nat → RO) : posR z f = cI z f fun _ => .no := by cases z <;> rfl
theorem nthR_eq (o : Nat) : ∀ (cs : List AV) (f : AV → RO), nthR o cs f = cO (nth o cs) .no f := by
  induction o with
  | zero => intro cs f; cases cs <;> rfl
  | succ o ih =>
    intro cs f
    cases cs with
    | nil => rfl
    | cons a l => exact ih l f
theorem layR_eq (o : AO) (f : Md → TypeId → List AV → RO) : layR o f = oCells o .no f := by cases o <;> rfl
theorem getR_eq (s : AS) (i : Nam) (f : Md → TypeId → List AV → RO) : getR s i f = oCells (getA s i) .no f := by
  unfold getR getA
  cases hget s.top i.p <;> first | rfl | exact layR_eq _ _
theorem outR_eq (x : Out) (k : AV → AS → RO) (s : AS) : outR x k s = cOut x (fun v => k v s) fun _ _ => .no := by cases x <;> rfl
theorem callR_eq (x : RO) (k : AV → AS → RO) : callR x k = bindR x fun y => cOut y.1 (fun v => k v y.2) fun _ _ => .no := by
  cases x with
  | no => rfl
  | one y => exact outR_eq _ _ _
  | many l =>
    show gather (fun y => outR y.1 k y.2) l = gather (fun y => cOut y.1 (fun v => k v y.2) fun _ _ => .no) l
    congr 1
    funext y
    exact outR_eq _ _ _
theorem anR_eq (x : AN) (ev : Ev) (s : AS) (k : AV → AS → RO) : anR x ev s k = bindR (oneN ev s x) fun y => k y.1 y.2 := by
  have two : ∀ z : RO, callR z k = bindR (bindR z fun y => cOut y.1 (fun v => R.one (v, y.2)) fun _ _ => R.no) fun y => k y.1 y.2 := fun z => by
    rw [callR_eq, bind_bind]
    refine bind_congr _ fun y => ?_
    obtain ⟨y1, y2⟩ := y
    cases y1 <;> rfl
  cases x with
  | enter f a => exact two _
  | round l a => exact two _
  | pick l => rfl
  | _ => rfl
theorem anGet_eq (x : AN) (f : AV → RO) : anGet x f = cAN x .no f (fun _ _ => .no) (fun _ _ => .no) (fun _ _ => .no) fun _ => .no := by cases x <;> rfl
theorem anVal_eq (x : AN) (r : RO) : anVal x r = cAN x .no (fun _ => .no) (fun _ _ => r) (fun _ _ => .no) (fun _ _ => .no) fun _ => .no := by cases x <;> rfl

/-! ### Readings -/
noncomputable def nthS : (n d : Nat) → Sk n → AV
  | 0, _, _ => U0
  | n + 1, 0, st => (show Pr (Sk n) from st).v
  | n + 1, d + 1, st => nthS n d (show Pr (Sk n) from st).r
theorem rdS_eq : ∀ (n d : Nat) (st : Sk n) (g : T8) (b : B4), (rdS n d).f st g b = nthS n d st
  | 0, d, st, g, b => by unfold rdS nthS; rfl
  | n + 1, 0, st, g, b => by unfold rdS nthS; rfl
  | n + 1, d + 1, st, g, b => by
    have ih := rdS_eq n d (show Pr (Sk n) from st).r g b
    unfold rdS
    split
    · rfl
    · rfl
    · rfl
    · rfl
    · exact ih
theorem rdV_eq (n : Nat) (st : Sk n) (g : T8) (b : B4) : ∀ (j : Nat), j < 32 → (rdV n j).f st g b = (b4g j).f b
  | 0, _ => rfl
  | 1, _ => rfl
  | 2, _ => rfl
  | 3, _ => rfl
  | 4, _ => rfl
  | 5, _ => rfl
  | 6, _ => rfl
  | 7, _ => rfl
  | 8, _ => rfl
  | 9, _ => rfl
  | 10, _ => rfl
  | 11, _ => rfl
  | 12, _ => rfl
  | 13, _ => rfl
  | 14, _ => rfl
  | 15, _ => rfl
  | 16, _ => rfl
  | 17, _ => rfl
  | 18, _ => rfl
  | 19, _ => rfl
  | 20, _ => rfl
  | 21, _ => rfl
  | 22, _ => rfl
  | 23, _ => rfl
  | 24, _ => rfl
  | 25, _ => rfl
  | 26, _ => rfl
  | 27, _ => rfl
  | 28, _ => rfl
  | 29, _ => rfl
  | 30, _ => rfl
  | 31, _ => rfl
  | n + 32, h => absurd h (by omega)
theorem rdB_eq (b : B4) : ∀ (j : Nat), j < 32 → (rdB j).f b = (b4g j).f b
  | 0, _ => rfl
  | 1, _ => rfl
  | 2, _ => rfl
  | 3, _ => rfl
  | 4, _ => rfl
  | 5, _ => rfl
  | 6, _ => rfl
  | 7, _ => rfl
  | 8, _ => rfl
  | 9, _ => rfl
  | 10, _ => rfl
  | 11, _ => rfl
  | 12, _ => rfl
  | 13, _ => rfl
  | 14, _ => rfl
  | 15, _ => rfl
  | 16, _ => rfl
  | 17, _ => rfl
  | 18, _ => rfl
  | 19, _ => rfl
  | 20, _ => rfl
  | 21, _ => rfl
  | 22, _ => rfl
  | 23, _ => rfl
  | 24, _ => rfl
  | 25, _ => rfl
  | 26, _ => rfl
  | 27, _ => rfl
  | 28, _ => rfl
  | 29, _ => rfl
  | 30, _ => rfl
  | 31, _ => rfl
  | n + 32, h => absurd h (by omega)
/-- Where values are, so are they. -/
noncomputable def Inv (vm : Vm) (σ : List En) (n : Nat) (st : Sk n) (t : TF) : Prop := ∀ i e, fnd i σ = some e → i < 256 ∧ match e with
  | .pos p => p < n ∧ nthS n (n - 1 - p) st = (tgF vm i).f t
  | .cst x => cK x = (tgF vm i).f t
section
variable {vm : Vm} {σ : List En} {n : Nat} {st : Sk n} {g : T8} {b : B4}
theorem Inv.nil {t : TF} : Inv vm [] n st t := fun _ _ h => by cases h
theorem cK_eq {x : Operand} (h : ∀ i, x ≠ .tmp i) (fr : FrA) : cK x = (cX1 vm x).f fr := by
  cases x with
  | tmp i => exact absurd rfl (h i)
  | const v => simp only [cK, cX1]; cases ofV v <;> rfl
  | global g => rfl
  | func f => rfl
theorem rdX_eq (hi : Inv vm σ n st ⟨g, b⟩) (x : Operand) (ds : List Nam) : (rdX vm σ n x).f st g b = (cX1 vm x).f ⟨⟨g, b⟩, ds⟩ := by
  cases x with
  | tmp i =>
    cases hf : fnd i σ with
    | none =>
      simp only [rdX, hf, cX1, tgF]
      cases hv : vIdx vm i with
      | none => rfl
      | some j => exact rdV_eq n st g b j (vIdx_some hv).2
    | some e =>
      have := (hi i e hf).2
      simp only [rdX, hf, cX1]
      cases e with
      | pos p => exact (rdS_eq _ _ _ _ _).trans this.2
      | cst x => exact this
  | const v => exact cK_eq (x := .const v) (fun i e => Operand.noConfusion e) _
  | global g => rfl
  | func f => rfl
theorem rdXs_eq (hi : Inv vm σ n st ⟨g, b⟩) (ds : List Nam) : ∀ (l : List Operand), (rdXs vm σ n l).f st g b = (cXs vm l).f ⟨⟨g, b⟩, ds⟩
  | [] => rfl
  | x :: l => by
    show (rdX vm σ n x).f st g b :: (rdXs vm σ n l).f st g b = (cX1 vm x).f _ :: (cXs vm l).f _
    rw [rdX_eq hi x ds, rdXs_eq hi ds l]
theorem rdXI_eq (hi : Inv vm σ n st ⟨g, b⟩) (ds : List Nam) : ∀ (l : List (Nat × Operand)), (rdXI vm σ n l).f st g b = (cXI vm l).f ⟨⟨g, b⟩, ds⟩
  | [] => rfl
  | (i, x) :: l => by
    show (i, (rdX vm σ n x).f st g b) :: (rdXI vm σ n l).f st g b = (i, (cX1 vm x).f _) :: (cXI vm l).f _
    rw [rdX_eq hi x ds, rdXI_eq hi ds l]
theorem rdXO_eq (hi : Inv vm σ n st ⟨g, b⟩) (ds : List Nam) (x : Option Operand) : (rdXO vm σ n x).f st g b = (cXO vm x).f ⟨⟨g, b⟩, ds⟩ := by
  cases x with
  | none => rfl
  | some x =>
    show some ((rdX vm σ n x).f st g b) = some ((cX1 vm x).f _)
    rw [rdX_eq hi x ds]
theorem rdC_eq (x : Operand) (ds : List Nam) : (rdC vm x).f g b = (cX1 vm x).f ⟨⟨g, b⟩, ds⟩ := by
  cases x with
  | tmp i =>
    simp only [rdC, cX1, tgF]
    cases hv : vIdx vm i with
    | none => rfl
    | some j => exact rdB_eq b j (vIdx_some hv).2
  | const v => exact cK_eq (x := .const v) (fun i e => Operand.noConfusion e) _
  | global g => rfl
  | func f => rfl
theorem fnd_cons {i k : Nat} {e : Src} : fnd k (⟨i, e⟩ :: σ) = if i = k then some e else fnd k σ := by
  show (match Nat.beq i k with | true => some e | false => fnd k σ) = _
  by_cases h : i = k
  · subst h; rw [Nat.beq_refl, if_pos rfl]
  · have : Nat.beq i k = false := by cases hb : Nat.beq i k with | false => rfl | true => exact absurd (Nat.eq_of_beq_eq_true hb) h
    rw [this, if_neg h]
/-- A value is put on the stack. -/
theorem Inv.push {t : TF} (hi : Inv vm σ n st t) {i : Nat} (h : i < 256) (v : AV) : Inv vm (⟨i, .pos n⟩ :: σ) (n + 1) (show Sk (n + 1) from ⟨v, st⟩) ((tsF vm i).f t v) := fun k e he => by
  rw [fnd_cons] at he
  by_cases hk : i = k
  · subst hk
    rw [if_pos rfl] at he
    cases he
    refine ⟨h, by omega, ?_⟩
    rw [show n + 1 - 1 - n = 0 by omega, tget_same]
    rfl
  · rw [if_neg hk] at he
    obtain ⟨h1, h2⟩ := hi k e he
    refine ⟨h1, ?_⟩
    rw [tget_ne v h1 h (Ne.symm hk)]
    cases e with
    | pos p =>
      refine ⟨by omega, ?_⟩
      rw [show n + 1 - 1 - p = (n - 1 - p) + 1 by omega]
      exact h2.2
    | cst x => exact h2
/-- A value gets another name. -/
theorem Inv.alias {t : TF} (hi : Inv vm σ n st t) {i : Nat} (h : i < 256) {v : AV} {e : Src} (hv : match e with | .pos p => p < n ∧ nthS n (n - 1 - p) st = v | .cst x => cK x = v) : Inv vm (⟨i, e⟩ :: σ) n st ((tsF vm i).f t v) := fun k e' he => by
  rw [fnd_cons] at he
  by_cases hk : i = k
  · subst hk
    rw [if_pos rfl] at he
    cases he
    rw [tget_same]
    exact ⟨h, hv⟩
  · rw [if_neg hk] at he
    obtain ⟨h1, h2⟩ := hi k e' he
    exact ⟨h1, by rw [tget_ne v h1 h (Ne.symm hk)]; exact h2⟩
end
end Go.Proofs.YtfnjojdiiklleaaGreat.Ev
namespace Go.Proofs.YtfnjojdiiklleaaGreat.Ev
section
variable {P : Program} {cf : Cf} {vm : Vm} {fn : FuncId} {σ : List En} {n : Nat} {st : Sk n} {g : T8} {b : B4}
theorem qCall_eq (hi : Inv vm σ n st ⟨g, b⟩) (ds : List Nam) (c : Call) (s : AS) : (qCall P cf vm fn σ n c).f st g b s = (kCall P cf vm fn c).f ⟨⟨g, b⟩, ds⟩ s := by
  have h := fun x => rdX_eq hi x ds
  have h1 := rdXs_eq hi ds
  unfold qCall kCall
  cases h0 : okXs P.globals.size c.args.toList with
  | false => rfl
  | true =>
    cases hc : c.callee with
    | builtin bb =>
      simp only
      generalize c.argTypes.toList = A
      generalize c.args.toList = B
      rcases A with _ | ⟨t1, _ | ⟨t2, A⟩⟩ <;> rcases B with _ | ⟨x, _ | ⟨y, _ | ⟨z, B⟩⟩⟩ <;> cases bb <;> first | rfl | simp only [h, h1]
    | value f =>
      simp only
      cases f with
      | func g => cases hcl : cloneF P g <;> simp only [hcl, h1]
      | tmp k => cases hk : okX P.globals.size (.tmp k) <;> first | rfl | simp only [h, h1]
      | const v => cases hk : okX P.globals.size (.const v) <;> first | rfl | simp only [h, h1]
      | global k => cases hk : okX P.globals.size (.global k) <;> first | rfl | simp only [h, h1]
    | invoke r m =>
      simp only
      cases hk : okX P.globals.size r <;> first | rfl | simp only [h, h1]
theorem qOp_eq (hi : Inv vm σ n st ⟨g, b⟩) (ds : List Nam) (o : Oper) (s : AS) : (qOp P cf vm fn σ n o).f st g b s = (kOp P cf vm fn o).f ⟨⟨g, b⟩, ds⟩ s := by
  have h := fun x => rdX_eq hi x ds
  have h1 := rdXs_eq hi ds
  have h2 := rdXI_eq hi ds
  have h3 := rdXO_eq hi ds
  obtain ⟨dst, op, type, pos, after, guard⟩ := o
  unfold qOp kOp
  cases op with
  | call c => exact qCall_eq hi ds c s
  | move x =>
    simp only
    cases hk : okX P.globals.size x <;> first | rfl | simp only [h]
  | assign x =>
    simp only
    cases hk : okX P.globals.size x <;> first | rfl | simp only [h]
  | box e x =>
    simp only
    cases hk : okX P.globals.size x <;> first | rfl | simp only [h]
  | load ty x =>
    simp only
    cases hk : okX P.globals.size x <;> first | rfl | simp only [h]
  | nilCheck x =>
    simp only
    cases hk : okX P.globals.size x <;> first | rfl | simp only [h]
  | unOp op ty x =>
    simp only
    cases hk : okX P.globals.size x <;> first | rfl | simp only [h]
  | convert sr ds' x =>
    simp only
    cases hk : okX P.globals.size x <;> first | rfl | simp only [h]
  | makeInterface ty x =>
    simp only
    cases hk : okX P.globals.size x <;> first | rfl | simp only [h]
  | typeAssert x xt a two =>
    simp only
    cases hk : okX P.globals.size x <;> first | rfl | simp only [h]
  | fieldAddr sT x f =>
    simp only
    cases hk : okX P.globals.size x <;> first | rfl | simp only [h]
  | field sT x f =>
    simp only
    cases hk : okX P.globals.size x <;> first | rfl | simp only [h]
  | range ty x =>
    simp only
    cases hk : okX P.globals.size x <;> first | rfl | simp only [h]
  | next x isS =>
    simp only
    cases hk : okX P.globals.size x <;> first | rfl | simp only [h]
  | entry x =>
    simp only
    cases hk : okX P.globals.size x <;> first | rfl | simp only [h]
  | extract x i =>
    simp only
    cases hk : okX P.globals.size x <;> first | rfl | simp only [h]
  | store ty x y =>
    simp only
    cases hk : okXs P.globals.size [x, y] <;> first | rfl | simp only [h]
  | binOp op ty x y e =>
    simp only
    cases hk : okXs P.globals.size [x, y] <;> first | rfl | simp only [h]
  | indexAddr ty x y =>
    simp only
    cases hk : okXs P.globals.size [x, y] <;> first | rfl | simp only [h]
  | index ty x y =>
    simp only
    cases hk : okXs P.globals.size [x, y] <;> first | rfl | simp only [h]
  | makeSlice ty x y =>
    simp only
    cases hk : okXs P.globals.size [x, y] <;> first | rfl | simp only [h]
  | lookup ty x y k =>
    simp only
    cases hk : okXs P.globals.size [x, y] <;> first | rfl | simp only [h]
  | mapUpdate ty x y z =>
    simp only
    cases hk : okXs P.globals.size [x, y, z] <;> first | rfl | simp only [h]
  | insert ty x y z =>
    simp only
    cases hk : okXs P.globals.size [x, y, z] <;> first | rfl | simp only [h]
  | mapEntry ty x y =>
    simp only
    cases hk : okXs P.globals.size [x, y] <;> first | rfl | simp only [h]
  | entryStore ty x y z =>
    simp only
    cases hk : okXs P.globals.size [x, y, z] <;> first | rfl | simp only [h]
  | pick x y z =>
    simp only
    cases hk : okXs P.globals.size [x, y, z] <;> first | rfl | simp only [h]
  | build ty ps =>
    simp only
    cases hk : okXs P.globals.size (ps.toList.map (·.2)) <;> first | rfl | simp only [h2]
  | buildSlice ty m ps =>
    simp only
    cases hk : okXs P.globals.size (ps.toList.map (·.2)) <;> first | rfl | simp only [h2]
  | slice ty x lo hi' mx =>
    simp only
    cases hk : (okX P.globals.size x && okO P.globals.size lo && okO P.globals.size hi' && okO P.globals.size mx) <;> first | rfl | simp only [h, h3]
  | makeFunc f a c =>
    simp only
    cases f <;> first | rfl | (cases hk : (okXs P.globals.size a.toList && okXs P.globals.size c.toList) <;> first | rfl | simp only [h1])
  | makeMap t r => cases r <;> rfl
  | alloc e =>
    simp only
    cases zeroA P e <;> rfl
  | _ => rfl
variable {nt : Nat} {ops : Array Oper}
/-- A put value and what comes next, as it is done slowly. -/
noncomputable def PutIs (W : KWF n) (c : Cq) (st : Sk n) (g : T8) (b : B4) (k : AV → AS → RO) : Prop := ∀ v s, W.f v c st g b s = k v s
theorem fAny_eq (hi : Inv vm σ n st ⟨g, b⟩) (o : Oper) (W : KWF n) (c : Cq) (s : AS) :
    (fAny P cf vm fn σ n o W).f c st g b s = bindR (oneN c.ev s ((kOp P cf vm fn o).f ⟨⟨g, b⟩, c.ds⟩ s)) fun y => W.f y.1 c st g b y.2 := by
  show anR ((qOp P cf vm fn σ n o).f st g b s) c.ev s (fun v s' => W.f v c st g b s') = _
  rw [anR_eq, qOp_eq hi c.ds]
theorem get_one {ev : Ev} {s : AS} {v : AV} {k : AV × AS → RO} : bindR (oneN ev s (.get v)) k = k (v, s) := rfl
theorem no_one {ev : Ev} {s : AS} {k : AV × AS → RO} : bindR (oneN ev s .no) k = .no := rfl
theorem fInt_eq {W : KWF n} {op : BinOp} {x y : RX n} {K : KSF n} (hK : fInt W op x y = some K) (c : Cq) (ev : Ev) (s : AS) :
    K.f c st g b s = bindR (oneN ev s (vInt (x.f st g b) .no fun k p => vInt (y.f st g b) .no fun j q => cB (kEq k j) ((arithA op).f k p q) .no)) fun z => W.f z.1 c st g b z.2 := by
  have key : ∀ (F G : IntKind → Int → Int → RO) (H : IntKind → Int → Int → AN), (∀ k p q, F k p q = bindR (oneN ev s (H k p q)) fun z => W.f z.1 c st g b z.2) →
      (intR (x.f st g b) fun k p => intR (y.f st g b) fun j q => bR (kEq k j) (F k p q) .no) = bindR (oneN ev s (vInt (x.f st g b) .no fun k p => vInt (y.f st g b) .no fun j q => cB (kEq k j) (H k p q) .no)) fun z => W.f z.1 c st g b z.2 := fun F _ H hF => by
    rw [intR_eq]
    cases x.f st g b with
    | int k p =>
      show intR (y.f st g b) _ = _
      rw [intR_eq]
      cases y.f st g b with
      | int j q =>
        show bR (kEq k j) (F k p q) .no = bindR (oneN ev s (cB (kEq k j) (H k p q) .no)) _
        rw [bR_eq]
        cases kEq k j with
        | false => rfl
        | true => exact hF k p q
      | _ => rfl
    | _ => rfl
  cases op <;> first | (cases hK; done) | (cases hK; exact key _ (fun _ _ _ => .no) _ fun k p q => by first | rfl | exact zR_eq _ _)
theorem fRun_eq (hi : Inv vm σ n st ⟨g, b⟩) (o : Oper) (W : KWF n) (c : Cq) (s : AS) :
    (fRun P cf vm fn σ n o W).f c st g b s = bindR (oneN c.ev s ((kOp P cf vm fn o).f ⟨⟨g, b⟩, c.ds⟩ s)) fun y => W.f y.1 c st g b y.2 := by
  have any := fAny_eq (P := P) (cf := cf) (fn := fn) hi o W c s
  have h := fun x => rdX_eq hi x c.ds
  have h1 := rdXs_eq hi c.ds
  obtain ⟨dst, op, type, pos, after, guard⟩ := o
  unfold fRun
  cases op with
  | move x =>
    simp only
    cases hk : okX P.globals.size x with
    | false => exact any
    | true => simp only [kOp, hk, get_one, h]
  | assign x =>
    simp only
    cases hk : okX P.globals.size x with
    | false => exact any
    | true => simp only [kOp, hk, get_one, h]
  | pick x y z =>
    simp only
    cases hk : okXs P.globals.size [x, y, z] with
    | false => exact any
    | true =>
      simp only [kOp, hk, h, boolR_eq, bR_eq]
      cases (cX1 vm x).f ⟨⟨g, b⟩, c.ds⟩ with
      | bool t => cases t <;> rfl
      | _ => rfl
  | binOp op ty x y e =>
    simp only
    cases hk : okXs P.globals.size [x, y] with
    | false => exact any
    | true =>
      cases hu : P.underlying ty with
      | none => exact any
      | some d =>
        cases d with
        | int kk =>
          cases hf : fInt W op (rdX vm σ n x) (rdX vm σ n y) with
          | none => exact any
          | some K =>
            simp only
            rw [fInt_eq hf c c.ev s, h, h]
            simp only [kOp, hk, binA, hu]
            cases op <;> first | rfl | (cases hf; done)
        | _ => exact any
  | load ty x =>
    simp only
    cases hk : okX P.globals.size x with
    | false => exact any
    | true =>
      cases ha : aggT P ty with
      | none => exact any
      | some t =>
        cases t with
        | true => exact any
        | false =>
          cases hz : sizeA P ty with
          | none => exact any
          | some z =>
            simp only [kOp, hk, h, loadA, partA, ha, hz, ptrR_eq, getR_eq, nthR_eq]
            cases (cX1 vm x).f ⟨⟨g, b⟩, c.ds⟩ with
            | ptr i o =>
              show oCells (getA s i) .no _ = bindR (oneN c.ev s (ofO (oCells (getA s i) none _))) _
              cases getA s i with
              | cells m t cs =>
                show cO (nth o cs) .no _ = bindR (oneN c.ev s (ofO (nth o cs))) _
                cases nth o cs <;> rfl
              | _ => rfl
            | _ => rfl
  | convert sr ds' x =>
    simp only
    cases hk : okX P.globals.size x with
    | false => exact any
    | true =>
      cases h2 : P.underlying sr with
      | none => exact any
      | some d =>
        cases d with
        | int k0 =>
          cases h3 : P.underlying ds' with
          | none => exact any
          | some d' =>
            cases d' with
            | int k =>
              simp only [kOp, hk, h, convA, h2, h3, intR_eq, zR_eq]
              cases (cX1 vm x).f ⟨⟨g, b⟩, c.ds⟩ <;> rfl
            | _ => exact any
        | _ => exact any
  | extract x i =>
    simp only
    cases hk : okX P.globals.size x with
    | false => exact any
    | true =>
      simp only [kOp, hk, h, tupR_eq, nthR_eq]
      cases (cX1 vm x).f ⟨⟨g, b⟩, c.ds⟩ with
      | tuple l =>
        show cO (nth i l) .no _ = bindR (oneN c.ev s (ofO (nth i l))) _
        cases nth i l <;> rfl
      | _ => rfl
  | indexAddr ty x y =>
    simp only
    cases hk : okXs P.globals.size [x, y] with
    | false => exact any
    | true =>
      have idx : ∀ (v : AV) (l z : Nat) (i : Nam) (o : Nat), (intR v fun _ p => posR p fun m => bR (Nat.blt m l) (nR (Nat.add o (Nat.mul m z)) fun q => W.f (.ptr i q) c st g b s) .no) =
          bindR (oneN c.ev s (atI z i o l v)) fun y => W.f y.1 c st g b y.2 := fun v l z i o => by
        simp only [intR_eq, posR_eq, bR_eq, nR_eq, atI, idxA]
        cases v with
        | int k p =>
          cases p with
          | ofNat m =>
            show cB (Nat.blt m l) _ _ = bindR (oneN c.ev s (cO (cB (Nat.blt m l) (some m) none) .no _)) _
            cases Nat.blt m l <;> rfl
          | negSucc m => rfl
        | _ => rfl
      cases hu : P.underlying ty with
      | none => exact any
      | some d =>
        cases d with
        | slice e =>
          simp only
          cases hz : sizeA P e with
          | none => exact any
          | some z =>
            simp only [kOp, hk, h, indexAddrA, hu, hz, sliR_eq]
            cases (cX1 vm x).f ⟨⟨g, b⟩, c.ds⟩ with
            | slice i o l k => exact idx _ l z i o
            | row i o l k => exact idx _ l z i o
            | _ => rfl
        | array l e =>
          simp only
          cases hz : sizeA P e with
          | none => exact any
          | some z =>
            simp only [kOp, hk, h, indexAddrA, hu, hz, ptrR_eq]
            cases (cX1 vm x).f ⟨⟨g, b⟩, c.ds⟩ with
            | ptr i o => exact idx _ l z i o
            | _ => rfl
        | _ => exact any
  | call cl =>
    simp only
    cases hc : cl.callee with
    | value f =>
      cases f with
      | func k =>
        cases hk : okXs P.globals.size cl.args.toList with
        | false => simp only; exact any
        | true =>
          cases hcl : cloneF P k with
          | true => simp only [hcl]; exact any
          | false =>
          simp only [kOp, kCall, hk, hc, hcl, h1]
          exact anR_eq (.enter k ((cXs vm cl.args.toList).f ⟨⟨g, b⟩, c.ds⟩)) c.ev s fun v s' => W.f v c st g b s'
      | _ => exact any
    | _ => exact any
  | _ => exact any
end
end Go.Proofs.YtfnjojdiiklleaaGreat.Ev
