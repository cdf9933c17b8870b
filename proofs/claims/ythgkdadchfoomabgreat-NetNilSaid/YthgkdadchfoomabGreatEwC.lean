/- The quick evaluator is the same: operations. -/
import Derived.Test.YthgkdadchfoomabGreatEwB
namespace Go.Proofs.YthgkdadchfoomabGreat.Ev
section
variable {P : Program} {cf : Cf} {vm : Vm} {fn : FuncId} {σ : List En} {n : Nat} {st : Sk n} {g : T8} {b : B4}
theorem qCall_eq (hi : Inv vm σ n st ⟨g, b⟩) (ds : List Nam) (c : Call) (s : AS) : (qCall P cf vm fn σ n c).f st g b s = (kCall P cf vm fn c).f ⟨⟨g, b⟩, ds⟩ s := by
  have h := fun x => rdX_eq hi x ds
  have h1 := rdXs_eq hi ds
  unfold qCall kCall
  cases h0 : okXs P.globals.size c.args.toList with
  | false => rfl
  | true =>
    cases hc : c.callee with
    | builtin bb =>
      simp only
      generalize c.argTypes.toList = A
      generalize c.args.toList = B
      rcases A with _ | ⟨t1, _ | ⟨t2, A⟩⟩ <;> rcases B with _ | ⟨x, _ | ⟨y, _ | ⟨z, B⟩⟩⟩ <;> cases bb <;> first | rfl | simp only [h, h1]
    | value f =>
      simp only
      cases f with
      | func g => simp only [h1]
      | tmp k => cases hk : okX P.globals.size (.tmp k) <;> first | rfl | simp only [h, h1]
      | const v => cases hk : okX P.globals.size (.const v) <;> first | rfl | simp only [h, h1]
      | global k => cases hk : okX P.globals.size (.global k) <;> first | rfl | simp only [h, h1]
    | invoke r m => rfl
theorem qOp_eq (hi : Inv vm σ n st ⟨g, b⟩) (ds : List Nam) (o : Oper) (s : AS) : (qOp P cf vm fn σ n o).f st g b s = (kOp P cf vm fn o).f ⟨⟨g, b⟩, ds⟩ s := by
  have h := fun x => rdX_eq hi x ds
  have h1 := rdXs_eq hi ds
  have h2 := rdXI_eq hi ds
  have h3 := rdXO_eq hi ds
  obtain ⟨dst, op, type, pos, after, guard⟩ := o
  unfold qOp kOp
  cases op with
  | call c => exact qCall_eq hi ds c s
  | move x =>
    simp only
    cases hk : okX P.globals.size x <;> first | rfl | simp only [h]
  | assign x =>
    simp only
    cases hk : okX P.globals.size x <;> first | rfl | simp only [h]
  | box e x =>
    simp only
    cases hk : okX P.globals.size x <;> first | rfl | simp only [h]
  | load ty x =>
    simp only
    cases hk : okX P.globals.size x <;> first | rfl | simp only [h]
  | nilCheck x =>
    simp only
    cases hk : okX P.globals.size x <;> first | rfl | simp only [h]
  | unOp op ty x =>
    simp only
    cases hk : okX P.globals.size x <;> first | rfl | simp only [h]
  | convert sr ds' x =>
    simp only
    cases hk : okX P.globals.size x <;> first | rfl | simp only [h]
  | fieldAddr sT x f =>
    simp only
    cases hk : okX P.globals.size x <;> first | rfl | simp only [h]
  | field sT x f =>
    simp only
    cases hk : okX P.globals.size x <;> first | rfl | simp only [h]
  | range ty x =>
    simp only
    cases hk : okX P.globals.size x <;> first | rfl | simp only [h]
  | next x isS =>
    simp only
    cases hk : okX P.globals.size x <;> first | rfl | simp only [h]
  | entry x =>
    simp only
    cases hk : okX P.globals.size x <;> first | rfl | simp only [h]
  | extract x i =>
    simp only
    cases hk : okX P.globals.size x <;> first | rfl | simp only [h]
  | store ty x y =>
    simp only
    cases hk : okXs P.globals.size [x, y] <;> first | rfl | simp only [h]
  | binOp op ty x y e =>
    simp only
    cases hk : okXs P.globals.size [x, y] <;> first | rfl | simp only [h]
  | indexAddr ty x y =>
    simp only
    cases hk : okXs P.globals.size [x, y] <;> first | rfl | simp only [h]
  | index ty x y =>
    simp only
    cases hk : okXs P.globals.size [x, y] <;> first | rfl | simp only [h]
  | makeSlice ty x y =>
    simp only
    cases hk : okXs P.globals.size [x, y] <;> first | rfl | simp only [h]
  | lookup ty x y k =>
    simp only
    cases hk : okXs P.globals.size [x, y] <;> first | rfl | simp only [h]
  | mapUpdate ty x y z =>
    simp only
    cases hk : okXs P.globals.size [x, y, z] <;> first | rfl | simp only [h]
  | insert ty x y z =>
    simp only
    cases hk : okXs P.globals.size [x, y, z] <;> first | rfl | simp only [h]
  | pick x y z =>
    simp only
    cases hk : okXs P.globals.size [x, y, z] <;> first | rfl | simp only [h]
  | build ty ps =>
    simp only
    cases hk : okXs P.globals.size (ps.toList.map (·.2)) <;> first | rfl | simp only [h2]
  | buildSlice ty m ps =>
    simp only
    cases hk : okXs P.globals.size (ps.toList.map (·.2)) <;> first | rfl | simp only [h2]
  | slice ty x lo hi' mx =>
    simp only
    cases hk : (okX P.globals.size x && okO P.globals.size lo && okO P.globals.size hi' && okO P.globals.size mx) <;> first | rfl | simp only [h, h3]
  | makeFunc f a c =>
    simp only
    cases f <;> first | rfl | (cases hk : (okXs P.globals.size a.toList && okXs P.globals.size c.toList) <;> first | rfl | simp only [h1])
  | makeMap t r => cases r <;> rfl
  | alloc e =>
    simp only
    cases zeroA P e <;> rfl
  | _ => rfl
variable {nt : Nat} {ops : Array Oper}
/-- A put value and what comes next, as it is done slowly. -/
noncomputable def PutIs (W : KWF n) (c : Cq) (st : Sk n) (g : T8) (b : B4) (k : AV → AS → RO) : Prop := ∀ v s, W.f v c st g b s = k v s
theorem fAny_eq (hi : Inv vm σ n st ⟨g, b⟩) (o : Oper) (W : KWF n) (c : Cq) (s : AS) :
    (fAny P cf vm fn σ n o W).f c st g b s = bindR (oneN c.ev s ((kOp P cf vm fn o).f ⟨⟨g, b⟩, c.ds⟩ s)) fun y => W.f y.1 c st g b y.2 := by
  show anR ((qOp P cf vm fn σ n o).f st g b s) c.ev s (fun v s' => W.f v c st g b s') = _
  rw [anR_eq, qOp_eq hi c.ds]
theorem get_one {ev : Ev} {s : AS} {v : AV} {k : AV × AS → RO} : bindR (oneN ev s (.get v)) k = k (v, s) := rfl
theorem no_one {ev : Ev} {s : AS} {k : AV × AS → RO} : bindR (oneN ev s .no) k = .no := rfl
theorem fInt_eq {W : KWF n} {op : BinOp} {x y : RX n} {K : KSF n} (hK : fInt W op x y = some K) (c : Cq) (ev : Ev) (s : AS) :
    K.f c st g b s = bindR (oneN ev s (vInt (x.f st g b) .no fun k p => vInt (y.f st g b) .no fun j q => cB (kEq k j) ((arithA op).f k p q) .no)) fun z => W.f z.1 c st g b z.2 := by
  have key : ∀ (F G : IntKind → Int → Int → RO) (H : IntKind → Int → Int → AN), (∀ k p q, F k p q = bindR (oneN ev s (H k p q)) fun z => W.f z.1 c st g b z.2) →
      (intR (x.f st g b) fun k p => intR (y.f st g b) fun j q => bR (kEq k j) (F k p q) .no) = bindR (oneN ev s (vInt (x.f st g b) .no fun k p => vInt (y.f st g b) .no fun j q => cB (kEq k j) (H k p q) .no)) fun z => W.f z.1 c st g b z.2 := fun F _ H hF => by
    rw [intR_eq]
    cases x.f st g b with
    | int k p =>
      show intR (y.f st g b) _ = _
      rw [intR_eq]
      cases y.f st g b with
      | int j q =>
        show bR (kEq k j) (F k p q) .no = bindR (oneN ev s (cB (kEq k j) (H k p q) .no)) _
        rw [bR_eq]
        cases kEq k j with
        | false => rfl
        | true => exact hF k p q
      | _ => rfl
    | _ => rfl
  cases op <;> first | (cases hK; done) | (cases hK; exact key _ (fun _ _ _ => .no) _ fun k p q => by first | rfl | exact zR_eq _ _)
theorem fRun_eq (hi : Inv vm σ n st ⟨g, b⟩) (o : Oper) (W : KWF n) (c : Cq) (s : AS) :
    (fRun P cf vm fn σ n o W).f c st g b s = bindR (oneN c.ev s ((kOp P cf vm fn o).f ⟨⟨g, b⟩, c.ds⟩ s)) fun y => W.f y.1 c st g b y.2 := by
  have any := fAny_eq (P := P) (cf := cf) (fn := fn) hi o W c s
  have h := fun x => rdX_eq hi x c.ds
  have h1 := rdXs_eq hi c.ds
  obtain ⟨dst, op, type, pos, after, guard⟩ := o
  unfold fRun
  cases op with
  | move x =>
    simp only
    cases hk : okX P.globals.size x with
    | false => exact any
    | true => simp only [kOp, hk, get_one, h]
  | assign x =>
    simp only
    cases hk : okX P.globals.size x with
    | false => exact any
    | true => simp only [kOp, hk, get_one, h]
  | pick x y z =>
    simp only
    cases hk : okXs P.globals.size [x, y, z] with
    | false => exact any
    | true =>
      simp only [kOp, hk, h, boolR_eq, bR_eq]
      cases (cX1 vm x).f ⟨⟨g, b⟩, c.ds⟩ with
      | bool t => cases t <;> rfl
      | _ => rfl
  | binOp op ty x y e =>
    simp only
    cases hk : okXs P.globals.size [x, y] with
    | false => exact any
    | true =>
      cases hu : P.underlying ty with
      | none => exact any
      | some d =>
        cases d with
        | int kk =>
          cases hf : fInt W op (rdX vm σ n x) (rdX vm σ n y) with
          | none => exact any
          | some K =>
            simp only
            rw [fInt_eq hf c c.ev s, h, h]
            simp only [kOp, hk, binA, hu]
            cases op <;> first | rfl | (cases hf; done)
        | _ => exact any
  | load ty x =>
    simp only
    cases hk : okX P.globals.size x with
    | false => exact any
    | true =>
      cases ha : aggT P ty with
      | none => exact any
      | some t =>
        cases t with
        | true => exact any
        | false =>
          cases hz : sizeA P ty with
          | none => exact any
          | some z =>
            simp only [kOp, hk, h, loadA, partA, ha, hz, ptrR_eq, getR_eq, nthR_eq]
            cases (cX1 vm x).f ⟨⟨g, b⟩, c.ds⟩ with
            | ptr i o =>
              show oCells (getA s i) .no _ = bindR (oneN c.ev s (ofO (oCells (getA s i) none _))) _
              cases getA s i with
              | cells m t cs =>
                show cO (nth o cs) .no _ = bindR (oneN c.ev s (ofO (nth o cs))) _
                cases nth o cs <;> rfl
              | _ => rfl
            | _ => rfl
  | convert sr ds' x =>
    simp only
    cases hk : okX P.globals.size x with
    | false => exact any
    | true =>
      cases h2 : P.underlying sr with
      | none => exact any
      | some d =>
        cases d with
        | int k0 =>
          cases h3 : P.underlying ds' with
          | none => exact any
          | some d' =>
            cases d' with
            | int k =>
              simp only [kOp, hk, h, convA, h2, h3, intR_eq, zR_eq]
              cases (cX1 vm x).f ⟨⟨g, b⟩, c.ds⟩ <;> rfl
            | _ => exact any
        | _ => exact any
  | extract x i =>
    simp only
    cases hk : okX P.globals.size x with
    | false => exact any
    | true =>
      simp only [kOp, hk, h, tupR_eq, nthR_eq]
      cases (cX1 vm x).f ⟨⟨g, b⟩, c.ds⟩ with
      | tuple l =>
        show cO (nth i l) .no _ = bindR (oneN c.ev s (ofO (nth i l))) _
        cases nth i l <;> rfl
      | _ => rfl
  | indexAddr ty x y =>
    simp only
    cases hk : okXs P.globals.size [x, y] with
    | false => exact any
    | true =>
      have idx : ∀ (v : AV) (l z : Nat) (i : Nam) (o : Nat), (intR v fun _ p => posR p fun m => bR (Nat.blt m l) (nR (Nat.add o (Nat.mul m z)) fun q => W.f (.ptr i q) c st g b s) .no) =
          bindR (oneN c.ev s (atI z i o l v)) fun y => W.f y.1 c st g b y.2 := fun v l z i o => by
        simp only [intR_eq, posR_eq, bR_eq, nR_eq, atI, idxA]
        cases v with
        | int k p =>
          cases p with
          | ofNat m =>
            show cB (Nat.blt m l) _ _ = bindR (oneN c.ev s (cO (cB (Nat.blt m l) (some m) none) .no _)) _
            cases Nat.blt m l <;> rfl
          | negSucc m => rfl
        | _ => rfl
      cases hu : P.underlying ty with
      | none => exact any
      | some d =>
        cases d with
        | slice e =>
          simp only
          cases hz : sizeA P e with
          | none => exact any
          | some z =>
            simp only [kOp, hk, h, indexAddrA, hu, hz, sliR_eq]
            cases (cX1 vm x).f ⟨⟨g, b⟩, c.ds⟩ with
            | slice i o l k => exact idx _ l z i o
            | row i o l k => exact idx _ l z i o
            | _ => rfl
        | array l e =>
          simp only
          cases hz : sizeA P e with
          | none => exact any
          | some z =>
            simp only [kOp, hk, h, indexAddrA, hu, hz, ptrR_eq]
            cases (cX1 vm x).f ⟨⟨g, b⟩, c.ds⟩ with
            | ptr i o => exact idx _ l z i o
            | _ => rfl
        | _ => exact any
  | call cl =>
    simp only
    cases hc : cl.callee with
    | value f =>
      cases f with
      | func k =>
        cases hk : okXs P.globals.size cl.args.toList with
        | false => simp only; exact any
        | true =>
          simp only [kOp, kCall, hk, hc, h1]
          exact anR_eq (.enter k ((cXs vm cl.args.toList).f ⟨⟨g, b⟩, c.ds⟩)) c.ev s fun v s' => W.f v c st g b s'
      | _ => exact any
    | _ => exact any
  | _ => exact any
end
end Go.Proofs.YthgkdadchfoomabGreat.Ev
