/- A run of a program on abstract memory, quicker: a region's values lie on a stack, code is gone through by what comes next. It is shown to be the same. -/
import Derived.Test.YtfnjojdiiklleaaGreatEvC
namespace Go.Proofs.YtfnjojdiiklleaaGreat.Ev
abbrev RO := R (Out × AS)
/-! ### Cases, with what is done in each kept whole -/
noncomputable def bR (b : Bool) : RO → RO → RO := Bool.rec (motive := fun _ => RO → RO → RO) (fun _ y => y) (fun x _ => x) b
noncomputable def boolR (v : AV) : (Bool → RO) → RO := AV.rec (motive_1 := fun _ => (Bool → RO) → RO) (motive_2 := fun _ => Unit) (fun x0 f => f x0) (fun _ _ _ => .no) (fun _ _ => .no) (fun _ _ _ => .no) (fun _ => .no) (fun _ _ _ _ _ => .no) (fun _ _ _ _ _ => .no) (fun _ _ _ _ _ => .no) (fun _ => .no) (fun _ _ => .no) (fun _ => .no) (fun _ _ _ _ _ _ => .no) (fun _ _ => .no) (fun _ => .no) (fun _ _ _ _ => .no) (fun _ => .no) (fun _ _ _ => .no) (fun _ _ _ => .no) (fun _ _ => .no) () (fun _ _ _ _ => ()) v
noncomputable def intR (v : AV) : (IntKind → Int → RO) → RO := AV.rec (motive_1 := fun _ => (IntKind → Int → RO) → RO) (motive_2 := fun _ => Unit) (fun _ _ => .no) (fun x0 x1 f => f x0 x1) (fun _ _ => .no) (fun _ _ _ => .no) (fun _ => .no) (fun _ _ _ _ _ => .no) (fun _ _ _ _ _ => .no) (fun _ _ _ _ _ => .no) (fun _ => .no) (fun _ _ => .no) (fun _ => .no) (fun _ _ _ _ _ _ => .no) (fun _ _ => .no) (fun _ => .no) (fun _ _ _ _ => .no) (fun _ => .no) (fun _ _ _ => .no) (fun _ _ _ => .no) (fun _ _ => .no) () (fun _ _ _ _ => ()) v
noncomputable def ptrR (v : AV) : (Nam → Nat → RO) → RO := AV.rec (motive_1 := fun _ => (Nam → Nat → RO) → RO) (motive_2 := fun _ => Unit) (fun _ _ => .no) (fun _ _ _ => .no) (fun _ _ => .no) (fun x0 x1 f => f x0 x1) (fun _ => .no) (fun _ _ _ _ _ => .no) (fun _ _ _ _ _ => .no) (fun _ _ _ _ _ => .no) (fun _ => .no) (fun _ _ => .no) (fun _ => .no) (fun _ _ _ _ _ _ => .no) (fun _ _ => .no) (fun _ => .no) (fun _ _ _ _ => .no) (fun _ => .no) (fun _ _ _ => .no) (fun _ _ _ => .no) (fun _ _ => .no) () (fun _ _ _ _ => ()) v
noncomputable def sliR (v : AV) : (Nam → Nat → Nat → Nat → RO) → RO := AV.rec (motive_1 := fun _ => (Nam → Nat → Nat → Nat → RO) → RO) (motive_2 := fun _ => Unit) (fun _ _ => .no) (fun _ _ _ => .no) (fun _ _ => .no) (fun _ _ _ => .no) (fun _ => .no) (fun x0 x1 x2 x3 f => f x0 x1 x2 x3) (fun x0 x1 x2 x3 f => f x0 x1 x2 x3) (fun _ _ _ _ _ => .no) (fun _ => .no) (fun _ _ => .no) (fun _ => .no) (fun _ _ _ _ _ _ => .no) (fun _ _ => .no) (fun _ => .no) (fun _ _ _ _ => .no) (fun _ => .no) (fun _ _ _ => .no) (fun _ _ _ => .no) (fun _ _ => .no) () (fun _ _ _ _ => ()) v
noncomputable def tupR (v : AV) : (List AV → RO) → RO := AV.rec (motive_1 := fun _ => (List AV → RO) → RO) (motive_2 := fun _ => Unit) (fun _ _ => .no) (fun _ _ _ => .no) (fun _ _ => .no) (fun _ _ _ => .no) (fun _ => .no) (fun _ _ _ _ _ => .no) (fun _ _ _ _ _ => .no) (fun _ _ _ _ _ => .no) (fun _ => .no) (fun _ _ => .no) (fun _ => .no) (fun _ _ _ _ _ _ => .no) (fun _ _ => .no) (fun _ => .no) (fun _ _ _ _ => .no) (fun _ => .no) (fun _ _ _ => .no) (fun x0 _ f => f x0) (fun _ _ => .no) () (fun _ _ _ _ => ()) v
noncomputable def aggR (v : AV) : (List AV → RO) → RO := AV.rec (motive_1 := fun _ => (List AV → RO) → RO) (motive_2 := fun _ => Unit) (fun _ _ => .no) (fun _ _ _ => .no) (fun _ _ => .no) (fun _ _ _ => .no) (fun _ => .no) (fun _ _ _ _ _ => .no) (fun _ _ _ _ _ => .no) (fun _ _ _ _ _ => .no) (fun _ => .no) (fun _ _ => .no) (fun _ => .no) (fun _ _ _ _ _ _ => .no) (fun _ _ => .no) (fun _ => .no) (fun _ _ _ _ => .no) (fun _ => .no) (fun x0 _ f => f x0) (fun _ _ _ => .no) (fun _ _ => .no) () (fun _ _ _ _ => ()) v
noncomputable def zR (z : Int) : (Int → RO) → RO := Int.rec (motive := fun _ => (Int → RO) → RO) (fun m f => Nat.rec (motive := fun _ => (Int → RO) → RO) (fun f => f (.ofNat 0)) (fun p _ f => f (.ofNat (Nat.succ p))) m f) (fun m f => f (.negSucc m)) z
noncomputable def nR (n : Nat) : (Nat → RO) → RO := Nat.rec (motive := fun _ => (Nat → RO) → RO) (fun f => f 0) (fun p _ f => f (Nat.succ p)) n
noncomputable def posR (z : Int) : (Nat → RO) → RO := Int.rec (motive := fun _ => (Nat → RO) → RO) (fun m f => f m) (fun _ _ => .no) z
noncomputable def nthR (o : Nat) : List AV → (AV → RO) → RO := Nat.rec (motive := fun _ => List AV → (AV → RO) → RO) (fun cs => List.rec (motive := fun _ => (AV → RO) → RO) (fun _ => .no) (fun a _ _ f => f a) cs) (fun _ ih cs => List.rec (motive := fun _ => (List AV → (AV → RO) → RO) → (AV → RO) → RO) (fun _ _ => .no) (fun _ t _ ih f => ih t f) cs ih) o
noncomputable def layR (o : AO) : (Md → TypeId → List AV → RO) → RO := AO.rec (motive := fun _ => (Md → TypeId → List AV → RO) → RO) (fun _ => .no) (fun m t cs f => f m t cs) (fun _ _ _ => .no) (fun _ _ _ _ _ _ => .no) (fun _ _ _ => .no) (fun _ _ => .no) (fun _ => .no) (fun _ => .no) o
noncomputable def topR' (o : AO) : AS → Nam → (Md → TypeId → List AV → RO) → RO := AO.rec (motive := fun _ => AS → Nam → (Md → TypeId → List AV → RO) → RO) (fun s i f => layR (layG s.lay i) f) (fun m t cs _ _ f => f m t cs) (fun _ _ _ _ _ => .no) (fun _ _ _ _ _ _ _ _ => .no) (fun _ _ _ _ _ => .no) (fun _ _ _ _ => .no) (fun _ _ _ => .no) (fun _ _ _ => .no) o
noncomputable def getR (s : AS) (i : Nam) (f : Md → TypeId → List AV → RO) : RO := topR' (hget s.top i.p) s i f
noncomputable def outR (x : Out) : (AV → AS → RO) → AS → RO := Out.rec (motive := fun _ => (AV → AS → RO) → AS → RO) (fun v k s => k v s) (fun _ _ _ _ => .no) x
noncomputable def callR (x : RO) : (AV → AS → RO) → RO := R.rec (motive := fun _ => (AV → AS → RO) → RO) (fun _ => .no) (fun y k => outR y.1 k y.2) (fun l k => gather (fun y => outR y.1 k y.2) l) x
noncomputable def anR (x : AN) : Ev → AS → (AV → AS → RO) → RO := AN.rec (motive := fun _ => Ev → AS → (AV → AS → RO) → RO) (fun _ _ _ => .no) (fun v _ s k => k v s) (fun v s' _ _ k => k v s') (fun f args ev s k => callR (ev (.call f args) s) k) (fun l args ev s k => callR (ev (.round l args) s) k) (fun l _ _ k => gather (fun y => k y.1 y.2) l) x
noncomputable def anGet (x : AN) : (AV → RO) → RO := AN.rec (motive := fun _ => (AV → RO) → RO) (fun _ => .no) (fun v f => f v) (fun _ _ _ => .no) (fun _ _ _ => .no) (fun _ _ _ => .no) (fun _ _ => .no) x
noncomputable def anVal (x : AN) : RO → RO := AN.rec (motive := fun _ => RO → RO) (fun _ => .no) (fun _ _ => .no) (fun _ _ r => r) (fun _ _ _ => .no) (fun _ _ _ => .no) (fun _ _ => .no) x

/-- A stack of values, the last one first. -/
structure Pr (β : Type) where
  v : AV
  r : β
noncomputable def Sk : Nat → Type
  | 0 => Unit
  | n + 1 => Pr (Sk n)
/-- Where a temporary's value is: on the stack, at a height; a constant. -/
inductive Src where
  | pos (p : Nat)
  | cst (x : Operand)
structure En where
  t : Tmp
  s : Src
noncomputable def fnd (t : Nat) : List En → Option Src
  | [] => none
  | e :: l => match Nat.beq e.t t with
    | true => some e.s
    | false => fnd t l
abbrev RX (n : Nat) := Cl (Sk n → T8 → B4 → AV)
/-- The value so far below the top. -/
noncomputable def rdS : (n d : Nat) → RX n
  | 0, _ => ⟨fun _ _ _ => U0⟩
  | n + 1, 0 => ⟨fun st _ _ => (show Pr (Sk n) from st).v⟩
  | n + 1, d + 1 => match n, d with
    | m + 1, 0 => ⟨fun st _ _ => (show Pr (Pr (Sk m)) from st).r.v⟩
    | m + 2, 1 => ⟨fun st _ _ => (show Pr (Pr (Pr (Sk m))) from st).r.r.v⟩
    | m + 3, 2 => ⟨fun st _ _ => (show Pr (Pr (Pr (Pr (Sk m)))) from st).r.r.r.v⟩
    | m + 4, 3 => ⟨fun st _ _ => (show Pr (Pr (Pr (Pr (Pr (Sk m))))) from st).r.r.r.r.v⟩
    | n, d => ⟨fun st g b => (rdS n d).f (show Pr (Sk n) from st).r g b⟩
noncomputable def rdV (n j : Nat) : RX n := match j with
  | 0 => ⟨fun _ _ b => b.v0.a0⟩
  | 1 => ⟨fun _ _ b => b.v0.a1⟩
  | 2 => ⟨fun _ _ b => b.v0.a2⟩
  | 3 => ⟨fun _ _ b => b.v0.a3⟩
  | 4 => ⟨fun _ _ b => b.v0.a4⟩
  | 5 => ⟨fun _ _ b => b.v0.a5⟩
  | 6 => ⟨fun _ _ b => b.v0.a6⟩
  | 7 => ⟨fun _ _ b => b.v0.a7⟩
  | 8 => ⟨fun _ _ b => b.v1.a0⟩
  | 9 => ⟨fun _ _ b => b.v1.a1⟩
  | 10 => ⟨fun _ _ b => b.v1.a2⟩
  | 11 => ⟨fun _ _ b => b.v1.a3⟩
  | 12 => ⟨fun _ _ b => b.v1.a4⟩
  | 13 => ⟨fun _ _ b => b.v1.a5⟩
  | 14 => ⟨fun _ _ b => b.v1.a6⟩
  | 15 => ⟨fun _ _ b => b.v1.a7⟩
  | 16 => ⟨fun _ _ b => b.v2.a0⟩
  | 17 => ⟨fun _ _ b => b.v2.a1⟩
  | 18 => ⟨fun _ _ b => b.v2.a2⟩
  | 19 => ⟨fun _ _ b => b.v2.a3⟩
  | 20 => ⟨fun _ _ b => b.v2.a4⟩
  | 21 => ⟨fun _ _ b => b.v2.a5⟩
  | 22 => ⟨fun _ _ b => b.v2.a6⟩
  | 23 => ⟨fun _ _ b => b.v2.a7⟩
  | 24 => ⟨fun _ _ b => b.v3.a0⟩
  | 25 => ⟨fun _ _ b => b.v3.a1⟩
  | 26 => ⟨fun _ _ b => b.v3.a2⟩
  | 27 => ⟨fun _ _ b => b.v3.a3⟩
  | 28 => ⟨fun _ _ b => b.v3.a4⟩
  | 29 => ⟨fun _ _ b => b.v3.a5⟩
  | 30 => ⟨fun _ _ b => b.v3.a6⟩
  | 31 => ⟨fun _ _ b => b.v3.a7⟩
  | _ => ⟨fun _ _ _ => U0⟩
noncomputable def rdB (j : Nat) : Cl (B4 → AV) := match j with
  | 0 => ⟨fun b => b.v0.a0⟩
  | 1 => ⟨fun b => b.v0.a1⟩
  | 2 => ⟨fun b => b.v0.a2⟩
  | 3 => ⟨fun b => b.v0.a3⟩
  | 4 => ⟨fun b => b.v0.a4⟩
  | 5 => ⟨fun b => b.v0.a5⟩
  | 6 => ⟨fun b => b.v0.a6⟩
  | 7 => ⟨fun b => b.v0.a7⟩
  | 8 => ⟨fun b => b.v1.a0⟩
  | 9 => ⟨fun b => b.v1.a1⟩
  | 10 => ⟨fun b => b.v1.a2⟩
  | 11 => ⟨fun b => b.v1.a3⟩
  | 12 => ⟨fun b => b.v1.a4⟩
  | 13 => ⟨fun b => b.v1.a5⟩
  | 14 => ⟨fun b => b.v1.a6⟩
  | 15 => ⟨fun b => b.v1.a7⟩
  | 16 => ⟨fun b => b.v2.a0⟩
  | 17 => ⟨fun b => b.v2.a1⟩
  | 18 => ⟨fun b => b.v2.a2⟩
  | 19 => ⟨fun b => b.v2.a3⟩
  | 20 => ⟨fun b => b.v2.a4⟩
  | 21 => ⟨fun b => b.v2.a5⟩
  | 22 => ⟨fun b => b.v2.a6⟩
  | 23 => ⟨fun b => b.v2.a7⟩
  | 24 => ⟨fun b => b.v3.a0⟩
  | 25 => ⟨fun b => b.v3.a1⟩
  | 26 => ⟨fun b => b.v3.a2⟩
  | 27 => ⟨fun b => b.v3.a3⟩
  | 28 => ⟨fun b => b.v3.a4⟩
  | 29 => ⟨fun b => b.v3.a5⟩
  | 30 => ⟨fun b => b.v3.a6⟩
  | 31 => ⟨fun b => b.v3.a7⟩
  | _ => ⟨fun _ => U0⟩
noncomputable def cK (x : Operand) : AV := match x with
  | .tmp _ => U0
  | .const v => match ofV v with
    | some a => a
    | none => .nilp
  | .global g => .ptr (nam g) 0
  | .func f => .func f [] []
noncomputable def rdX (vm : Vm) (σ : List En) (n : Nat) : Operand → RX n
  | .tmp i => match fnd i σ with
    | some (.pos p) => rdS n (n - 1 - p)
    | some (.cst x) => ⟨fun _ _ _ => cK x⟩
    | none => match vIdx vm i with
      | some j => rdV n j
      | none => ⟨fun _ g _ => (tg8 i).f g⟩
  | x => ⟨fun _ _ _ => cK x⟩
/-- Out of what is looked at often. -/
noncomputable def rdC (vm : Vm) : Operand → Cl (T8 → B4 → AV)
  | .tmp i => match vIdx vm i with
    | some j => ⟨fun _ b => (rdB j).f b⟩
    | none => ⟨fun g _ => (tg8 i).f g⟩
  | x => ⟨fun _ _ => cK x⟩
noncomputable def rdXs (vm : Vm) (σ : List En) (n : Nat) : List Operand → Cl (Sk n → T8 → B4 → List AV)
  | [] => ⟨fun _ _ _ => []⟩
  | x :: l => ⟨fun st g b => (rdX vm σ n x).f st g b :: (rdXs vm σ n l).f st g b⟩
noncomputable def rdXI (vm : Vm) (σ : List En) (n : Nat) : List (Nat × Operand) → Cl (Sk n → T8 → B4 → List (Nat × AV))
  | [] => ⟨fun _ _ _ => []⟩
  | (i, x) :: l => ⟨fun st g b => (i, (rdX vm σ n x).f st g b) :: (rdXI vm σ n l).f st g b⟩
noncomputable def rdXO (vm : Vm) (σ : List En) (n : Nat) : Option Operand → Cl (Sk n → T8 → B4 → Option AV)
  | none => ⟨fun _ _ _ => none⟩
  | some x => ⟨fun st g b => some ((rdX vm σ n x).f st g b)⟩
abbrev QO (n : Nat) := Cl (Sk n → T8 → B4 → AS → AN)
noncomputable def qBad {n : Nat} : QO n := ⟨fun _ _ _ _ => .no⟩
section
variable (P : Program) (cf : Cf) (vm : Vm) (fn : FuncId) (σ : List En) (zn : Nat)
noncomputable def qCall (c : Call) : QO zn := match okXs P.globals.size c.args.toList with
  | false => qBad
  | true => match c.callee with
    | .builtin b => match b, c.argTypes.toList, c.args.toList with
      | .len, ty :: _, [x] => ⟨fun zs zg zb s => (lenA P ty).f ((rdX vm σ zn x).f zs zg zb) s⟩
      | .cap, ty :: _, [x] => ⟨fun zs zg zb _ => (capA P ty).f ((rdX vm σ zn x).f zs zg zb)⟩
      | .min, _, x :: l => ⟨fun zs zg zb _ => vInt ((rdX vm σ zn x).f zs zg zb) .no fun _ _ => minA ((rdXs vm σ zn l).f zs zg zb) ((rdX vm σ zn x).f zs zg zb)⟩
      | .max, _, x :: l => ⟨fun zs zg zb _ => vInt ((rdX vm σ zn x).f zs zg zb) .no fun _ _ => maxA ((rdXs vm σ zn l).f zs zg zb) ((rdX vm σ zn x).f zs zg zb)⟩
      | .append, sT :: yT :: _, [x, y] => ⟨fun zs zg zb s => (appendA P (cf.rs fn) sT yT).f ((rdX vm σ zn x).f zs zg zb) ((rdX vm σ zn y).f zs zg zb) s⟩
      | .copy, dT :: yT :: _, [x, y] => ⟨fun zs zg zb s => (copyA P dT yT).f ((rdX vm σ zn x).f zs zg zb) ((rdX vm σ zn y).f zs zg zb) s⟩
      | .clear, ty :: _, [x] => ⟨fun zs zg zb s => (clearA P ty).f ((rdX vm σ zn x).f zs zg zb) s⟩
      | .delete, mT :: _, [m, k] => ⟨fun zs zg zb s => (deleteA P mT).f ((rdX vm σ zn m).f zs zg zb) ((rdX vm σ zn k).f zs zg zb) s⟩
      | _, _, _ => qBad
    | .value f => match f, okX P.globals.size f with
      | .func g, _ => match cloneF P g with
        | true => ⟨fun zs zg zb s => cloneA ((rdXs vm σ zn c.args.toList).f zs zg zb) s⟩
        | false => ⟨fun zs zg zb _ => .enter g ((rdXs vm σ zn c.args.toList).f zs zg zb)⟩
      | f, true => ⟨fun zs zg zb _ => vFn ((rdX vm σ zn f).f zs zg zb) .no (fun g first cap => .enter g (app first (app ((rdXs vm σ zn c.args.toList).f zs zg zb) cap))) fun l => .round l ((rdXs vm σ zn c.args.toList).f zs zg zb)⟩
      | _, false => qBad
    | .invoke r name => match okX P.globals.size r with
      | true => ⟨fun zs zg zb s => invokeA P name ((rdX vm σ zn r).f zs zg zb) ((rdXs vm σ zn c.args.toList).f zs zg zb) s⟩
      | false => qBad
/-- An operation, reckoned once. -/
noncomputable def qOp (o : Oper) : QO zn :=
  match o.op with
  | .move x => match okX P.globals.size x with
    | true => ⟨fun zs zg zb _ => .get ((rdX vm σ zn x).f zs zg zb)⟩
    | false => qBad
  | .assign x => match okX P.globals.size x with
    | true => ⟨fun zs zg zb _ => .get ((rdX vm σ zn x).f zs zg zb)⟩
    | false => qBad
  | .pick c a b => match okXs P.globals.size [c, a, b] with
    | true => ⟨fun zs zg zb _ => vBool ((rdX vm σ zn c).f zs zg zb) .no fun t => cB t (.get ((rdX vm σ zn a).f zs zg zb)) (.get ((rdX vm σ zn b).f zs zg zb))⟩
    | false => qBad
  | .alloc e => match zeroA P e with
    | some z => ⟨fun _ _ _ s => newV s e (cellsA z)⟩
    | none => qBad
  | .box e x => match okX P.globals.size x with
    | true => ⟨fun zs zg zb s => newV s e (cellsA ((rdX vm σ zn x).f zs zg zb))⟩
    | false => qBad
  | .build ty ps => match okXs P.globals.size (ps.toList.map (·.2)) with
    | true => ⟨fun zs zg zb _ => (buildA P ty).f ((rdXI vm σ zn ps.toList).f zs zg zb)⟩
    | false => qBad
  | .buildSlice ty n ps => match okXs P.globals.size (ps.toList.map (·.2)) with
    | true => ⟨fun zs zg zb s => (buildSliceA P ty n).f ((rdXI vm σ zn ps.toList).f zs zg zb) s⟩
    | false => qBad
  | .load ty a => match okX P.globals.size a with
    | true => ⟨fun zs zg zb s => ofO ((loadA P ty).f ((rdX vm σ zn a).f zs zg zb) s)⟩
    | false => qBad
  | .store ty a x => match okXs P.globals.size [a, x] with
    | true => ⟨fun zs zg zb s => (storeA P ty).f ((rdX vm σ zn a).f zs zg zb) ((rdX vm σ zn x).f zs zg zb) s⟩
    | false => qBad
  | .nilCheck x => match okX P.globals.size x with
    | true => ⟨fun zs zg zb _ => nilCheckA ((rdX vm σ zn x).f zs zg zb)⟩
    | false => qBad
  | .binOp op ty x y _ => match okXs P.globals.size [x, y] with
    | true => ⟨fun zs zg zb s => (binA P op ty).f ((rdX vm σ zn x).f zs zg zb) ((rdX vm σ zn y).f zs zg zb) s⟩
    | false => qBad
  | .unOp op _ x => match okX P.globals.size x with
    | true => ⟨fun zs zg zb _ => (unA op).f ((rdX vm σ zn x).f zs zg zb)⟩
    | false => qBad
  | .convert src dst x => match okX P.globals.size x with
    | true => ⟨fun zs zg zb s => (convA P src dst).f ((rdX vm σ zn x).f zs zg zb) s⟩
    | false => qBad
  | .makeInterface t x => match okX P.globals.size x with
    | true => ⟨fun zs zg zb _ => (ifaceA P t).f ((rdX vm σ zn x).f zs zg zb)⟩
    | false => qBad
  | .typeAssert x _ a two => match okX P.globals.size x with
    | true => ⟨fun zs zg zb _ => (assertA P a two).f ((rdX vm σ zn x).f zs zg zb)⟩
    | false => qBad
  | .makeFunc f a b => match f, okXs P.globals.size a.toList && okXs P.globals.size b.toList with
    | .func g, true => ⟨fun zs zg zb _ => .get (.func g ((rdXs vm σ zn a.toList).f zs zg zb) ((rdXs vm σ zn b.toList).f zs zg zb))⟩
    | _, _ => qBad
  | .makeMap _ r => match r with
    | none => ⟨fun _ _ _ s => newA s (.map [] 0) 1 .no fun i s => .val (.map i) s⟩
    | some _ => qBad
  | .makeSlice ty l c => match okXs P.globals.size [l, c] with
    | true => ⟨fun zs zg zb s => (makeSliceA P ty).f ((rdX vm σ zn l).f zs zg zb) ((rdX vm σ zn c).f zs zg zb) s⟩
    | false => qBad
  | .slice ty x lo hi mx => match okX P.globals.size x && okO P.globals.size lo && okO P.globals.size hi && okO P.globals.size mx with
    | true => ⟨fun zs zg zb s => (sliceA P ty).f ((rdX vm σ zn x).f zs zg zb) ((rdXO vm σ zn lo).f zs zg zb) ((rdXO vm σ zn hi).f zs zg zb) ((rdXO vm σ zn mx).f zs zg zb) s⟩
    | false => qBad
  | .fieldAddr st x f => match okX P.globals.size x with
    | true => ⟨fun zs zg zb _ => (fieldAddrA P st f).f ((rdX vm σ zn x).f zs zg zb)⟩
    | false => qBad
  | .field st x f => match okX P.globals.size x with
    | true => ⟨fun zs zg zb _ => (fieldA P st f).f ((rdX vm σ zn x).f zs zg zb)⟩
    | false => qBad
  | .indexAddr ty x i => match okXs P.globals.size [x, i] with
    | true => ⟨fun zs zg zb _ => (indexAddrA P ty).f ((rdX vm σ zn x).f zs zg zb) ((rdX vm σ zn i).f zs zg zb)⟩
    | false => qBad
  | .index ty x i => match okXs P.globals.size [x, i] with
    | true => ⟨fun zs zg zb _ => (indexA P ty).f ((rdX vm σ zn x).f zs zg zb) ((rdX vm σ zn i).f zs zg zb)⟩
    | false => qBad
  | .lookup ty x i ok => match okXs P.globals.size [x, i] with
    | true => ⟨fun zs zg zb s => (lookupA P ty ok).f ((rdX vm σ zn x).f zs zg zb) ((rdX vm σ zn i).f zs zg zb) s⟩
    | false => qBad
  | .mapUpdate ty m k v => match okXs P.globals.size [m, k, v] with
    | true => ⟨fun zs zg zb s => (mapPutA P ty).f ((rdX vm σ zn m).f zs zg zb) ((rdX vm σ zn k).f zs zg zb) ((rdX vm σ zn v).f zs zg zb) s⟩
    | false => qBad
  | .mapEntry ty m k => match okXs P.globals.size [m, k] with
    | true => ⟨fun zs zg zb s => (mapEntryA P ty).f ((rdX vm σ zn m).f zs zg zb) ((rdX vm σ zn k).f zs zg zb) s⟩
    | false => qBad
  | .entryStore _ m i v => match okXs P.globals.size [m, i, v] with
    | true => ⟨fun zs zg zb s => entryStoreA ((rdX vm σ zn m).f zs zg zb) ((rdX vm σ zn i).f zs zg zb) ((rdX vm σ zn v).f zs zg zb) s⟩
    | false => qBad
  | .insert ty m k v => match okXs P.globals.size [m, k, v] with
    | true => ⟨fun zs zg zb s => (mapPutA P ty).f ((rdX vm σ zn m).f zs zg zb) ((rdX vm σ zn k).f zs zg zb) ((rdX vm σ zn v).f zs zg zb) s⟩
    | false => qBad
  | .range ty x => match okX P.globals.size x with
    | true => ⟨fun zs zg zb s => (rangeA P cf fn ty).f ((rdX vm σ zn x).f zs zg zb) s⟩
    | false => qBad
  | .next it isS => match okX P.globals.size it with
    | true => ⟨fun zs zg zb s => (nextA isS).f ((rdX vm σ zn it).f zs zg zb) s⟩
    | false => qBad
  | .entry it => match okX P.globals.size it with
    | true => ⟨fun zs zg zb s => entryA ((rdX vm σ zn it).f zs zg zb) s⟩
    | false => qBad
  | .extract x i => match okX P.globals.size x with
    | true => ⟨fun zs zg zb _ => vTup ((rdX vm σ zn x).f zs zg zb) .no fun l => ofO (nth i l)⟩
    | false => qBad
  | .call c => qCall P cf vm fn σ zn c
  | _ => qBad
end
/-- What is held. -/
structure HdF where
  i : Nat
  g : AS → AN
  v : AV
/-- What code is gone through with: within which round, by whom calls are gone through, the marks of loops, what is held. -/
structure Cq where
  rd : Option Nam
  ev : Ev
  ds : List Nam
  hs : List HdF
noncomputable def heldF (s : AS) (l : List HdF) : Bool := itL true (fun h _ r => cAN (h.g s) false (fun u => cB (beqV u h.v) r false) (fun _ _ => false) (fun _ _ => false) (fun _ _ => false) fun _ => false) l
noncomputable def keepF (w : List Nat) (l : List HdF) : List HdF := itL [] (fun h _ r => cB (itL false (fun i _ r => cB (Nat.beq i h.i) true r) w) r (h :: r)) l
abbrev KCF := Cl (Cq → T8 → B4 → AS → RO)
abbrev KSF (n : Nat) := Cl (Cq → Sk n → T8 → B4 → AS → RO)
abbrev KWF (n : Nat) := Cl (AV → Cq → Sk n → T8 → B4 → AS → RO)
abbrev KT := (σ : List En) → (n : Nat) → KSF n
/-- A value is put, and what comes next. -/
noncomputable def fPut (vm : Vm) (nt : Nat) (dst : Option Tmp) (σ : List En) (n : Nat) (K : KT) : KWF n := match dst with
  | none => ⟨fun _ c st g b s => (K σ n).f c st g b s⟩
  | some i => match Nat.blt i nt with
    | false => ⟨fun _ c st g b s => (K σ n).f c st g b s⟩
    | true => match vIdx vm i with
      | none => ⟨fun v c st g b s => (K (⟨i, .pos n⟩ :: σ) (n + 1)).f c (show Sk (n + 1) from ⟨v, st⟩) ((ts8 i).f g v) b s⟩
      | some j => ⟨fun v c st g b s => (K (⟨i, .pos n⟩ :: σ) (n + 1)).f c (show Sk (n + 1) from ⟨v, st⟩) g ((b4s j).f b v) s⟩
section
variable (P : Program) (cf : Cf) (vm : Vm) (fn : FuncId) (nt : Nat) (ops : Array Oper)
/-- What an operation is, told to what comes next. -/
noncomputable def fAny (σ : List En) (n : Nat) (o : Oper) (W : KWF n) : KSF n := ⟨fun c st g b s => anR ((qOp P cf vm fn σ n o).f st g b s) c.ev s fun v s' => W.f v c st g b s'⟩
/-- Numbers of a kind. -/
noncomputable def fInt {n : Nat} (W : KWF n) (op : BinOp) (x y : RX n) : Option (KSF n) := match op with
  | .add => some ⟨fun c st g b s => intR (x.f st g b) fun k p => intR (y.f st g b) fun j q => bR (kEq k j) (zR (wrapA k (iadd p q)) fun z => W.f (.int k z) c st g b s) .no⟩
  | .sub => some ⟨fun c st g b s => intR (x.f st g b) fun k p => intR (y.f st g b) fun j q => bR (kEq k j) (zR (wrapA k (isub p q)) fun z => W.f (.int k z) c st g b s) .no⟩
  | .mul => some ⟨fun c st g b s => intR (x.f st g b) fun k p => intR (y.f st g b) fun j q => bR (kEq k j) (zR (wrapA k (imul p q)) fun z => W.f (.int k z) c st g b s) .no⟩
  | .eql => some ⟨fun c st g b s => intR (x.f st g b) fun k p => intR (y.f st g b) fun j q => bR (kEq k j) (W.f (.bool (ieq p q)) c st g b s) .no⟩
  | .neq => some ⟨fun c st g b s => intR (x.f st g b) fun k p => intR (y.f st g b) fun j q => bR (kEq k j) (W.f (.bool (bNot (ieq p q))) c st g b s) .no⟩
  | .lss => some ⟨fun c st g b s => intR (x.f st g b) fun k p => intR (y.f st g b) fun j q => bR (kEq k j) (W.f (.bool (bNot (ile q p))) c st g b s) .no⟩
  | .leq => some ⟨fun c st g b s => intR (x.f st g b) fun k p => intR (y.f st g b) fun j q => bR (kEq k j) (W.f (.bool (ile p q)) c st g b s) .no⟩
  | .gtr => some ⟨fun c st g b s => intR (x.f st g b) fun k p => intR (y.f st g b) fun j q => bR (kEq k j) (W.f (.bool (bNot (ile p q))) c st g b s) .no⟩
  | .geq => some ⟨fun c st g b s => intR (x.f st g b) fun k p => intR (y.f st g b) fun j q => bR (kEq k j) (W.f (.bool (ile q p)) c st g b s) .no⟩
  | _ => none
noncomputable def fRun (σ : List En) (n : Nat) (o : Oper) (W : KWF n) : KSF n := match o.op with
  | .move x => match okX P.globals.size x with
    | true => ⟨fun c st g b s => W.f ((rdX vm σ n x).f st g b) c st g b s⟩
    | false => fAny P cf vm fn σ n o W
  | .assign x => match okX P.globals.size x with
    | true => ⟨fun c st g b s => W.f ((rdX vm σ n x).f st g b) c st g b s⟩
    | false => fAny P cf vm fn σ n o W
  | .pick x y z => match okXs P.globals.size [x, y, z] with
    | true => ⟨fun c st g b s => boolR ((rdX vm σ n x).f st g b) fun t => bR t (W.f ((rdX vm σ n y).f st g b) c st g b s) (W.f ((rdX vm σ n z).f st g b) c st g b s)⟩
    | false => fAny P cf vm fn σ n o W
  | .binOp op ty x y _ => match okXs P.globals.size [x, y], P.underlying ty, fInt W op (rdX vm σ n x) (rdX vm σ n y) with
    | true, some (.int _), some k => k
    | _, _, _ => fAny P cf vm fn σ n o W
  | .load ty x => match okX P.globals.size x, aggT P ty, sizeA P ty with
    | true, some false, some _ => ⟨fun c st g b s => ptrR ((rdX vm σ n x).f st g b) fun i o => getR s i fun _ _ cs => nthR o cs fun v => W.f v c st g b s⟩
    | _, _, _ => fAny P cf vm fn σ n o W
  | .convert src dst x => match okX P.globals.size x, P.underlying src, P.underlying dst with
    | true, some (.int _), some (.int k) => ⟨fun c st g b s => intR ((rdX vm σ n x).f st g b) fun _ p => zR (wrapA k p) fun z => W.f (.int k z) c st g b s⟩
    | _, _, _ => fAny P cf vm fn σ n o W
  | .extract x i => match okX P.globals.size x with
    | true => ⟨fun c st g b s => tupR ((rdX vm σ n x).f st g b) fun l => nthR i l fun v => W.f v c st g b s⟩
    | false => fAny P cf vm fn σ n o W
  | .indexAddr ty x y => match okXs P.globals.size [x, y], P.underlying ty with
    | true, some (.slice e) => match sizeA P e with
      | some z => ⟨fun c st g b s => sliR ((rdX vm σ n x).f st g b) fun i o l _ => intR ((rdX vm σ n y).f st g b) fun _ p => posR p fun m => bR (Nat.blt m l) (nR (Nat.add o (Nat.mul m z)) fun q => W.f (.ptr i q) c st g b s) .no⟩
      | none => fAny P cf vm fn σ n o W
    | true, some (.array l e) => match sizeA P e with
      | some z => ⟨fun c st g b s => ptrR ((rdX vm σ n x).f st g b) fun i o => intR ((rdX vm σ n y).f st g b) fun _ p => posR p fun m => bR (Nat.blt m l) (nR (Nat.add o (Nat.mul m z)) fun q => W.f (.ptr i q) c st g b s) .no⟩
      | none => fAny P cf vm fn σ n o W
    | _, _ => fAny P cf vm fn σ n o W
  | .call cl => match cl.callee, okXs P.globals.size cl.args.toList with
    | .value (.func f), true => match cloneF P f with
      | true => fAny P cf vm fn σ n o W
      | false => ⟨fun c st g b s => callR (c.ev (.call f ((rdXs vm σ n cl.args.toList).f st g b)) s) fun v s' => W.f v c st g b s'⟩
    | _, _ => fAny P cf vm fn σ n o W
  | _ => fAny P cf vm fn σ n o W
/-- Is an operation wanted? -/
noncomputable def fWant (σ : List En) (n : Nat) (o : Oper) : Option (Cl (Sk n → T8 → B4 → Bool)) := match o.guard with
  | none => none
  | some (j, want) => match ops[j]? with
    | some p => match p.dst with
      | some d => match Nat.blt d 256 with
        | true => some ⟨fun st g b => vBool ((rdX vm σ n (.tmp d)).f st g b) false fun t => bEq t want⟩
        | false => some ⟨fun _ _ _ => false⟩
      | none => some ⟨fun _ _ _ => false⟩
    | none => some ⟨fun _ _ _ => false⟩
noncomputable def fOne (σ : List En) (n : Nat) (o : Oper) (W : KWF n) : KSF n := match fWant vm ops σ n o with
  | none => fRun P cf vm fn σ n o W
  | some w => ⟨fun c st g b s => bR (w.f st g b) ((fRun P cf vm fn σ n o W).f c st g b s) (W.f (.tuple []) c st g b s)⟩
/-- A mere copy, to be known by another name: whose, and of what? -/
noncomputable def cpyOf (o : Oper) : Option (Nat × Operand) := match o.guard, o.dst, o.op with
  | none, some i, .move x => match okX P.globals.size x && Nat.blt i nt && (vIdx vm i).isNone with
    | true => some (i, x)
    | false => none
  | none, some i, .assign x => match okX P.globals.size x && Nat.blt i nt && (vIdx vm i).isNone with
    | true => some (i, x)
    | false => none
  | _, _, _ => none
noncomputable def fCpy (σ : List En) (n : Nat) (i : Nat) (x : Operand) (K : KT) : KSF n := match x with
  | .tmp k => match fnd k σ with
    | some e => ⟨fun c st g b s => (K (⟨i, e⟩ :: σ) n).f c st ((ts8 i).f g ((rdX vm σ n (.tmp k)).f st g b)) b s⟩
    | none => ⟨fun c st g b s => (K (⟨i, .pos n⟩ :: ⟨k, .pos n⟩ :: σ) (n + 1)).f c (show Sk (n + 1) from ⟨(rdX vm σ n (.tmp k)).f st g b, st⟩) ((ts8 i).f g ((rdX vm σ n (.tmp k)).f st g b)) b s⟩
  | x => ⟨fun c st g b s => (K (⟨i, .cst x⟩ :: σ) n).f c st ((ts8 i).f g (cK x)) b s⟩
noncomputable def fStep (σ : List En) (n : Nat) (o : Oper) (K : KT) : KSF n := match cpyOf P vm nt o with
  | some (i, x) => fCpy vm σ n i x K
  | none => fOne P cf vm fn ops σ n o (fPut vm nt o.dst σ n K)
noncomputable def noF {n : Nat} : KSF n := ⟨fun _ _ _ _ _ => .no⟩
noncomputable def endF (K : KCF) (n : Nat) : KSF n := ⟨fun c _ g b s => K.f c g b s⟩
noncomputable def fOps : List Oper → KCF → KT
  | [], K, _, n => endF K n
  | o :: l, K, σ, n => match okOp nt ops o with
    | true => fStep P cf vm fn nt ops σ n o fun σ' n' => fOps l K σ' n'
    | false => noF
/-- An operation's own reading, for what is held of it. -/
noncomputable def fSee (σ : List En) (n : Nat) (o : Oper) : QO n := match fWant vm ops σ n o with
  | none => qOp P cf vm fn σ n o
  | some w => ⟨fun st g b s => cB (w.f st g b) ((qOp P cf vm fn σ n o).f st g b s) (.get (.tuple []))⟩
/-- What is held is looked at again. -/
noncomputable def chkF (w : Option (List Nat)) {n : Nat} (k : KSF n) : KSF n := match w with
  | none => ⟨fun c st g b s => bR (heldF s c.hs) (k.f c st g b s) .no⟩
  | some w => ⟨fun c st g b s => bR (heldF s (keepF w c.hs)) (k.f ⟨c.rd, c.ev, c.ds, keepF w c.hs⟩ st g b s) .no⟩
noncomputable def fPlan : Plan → KCF → KT
  | .done, K, _, _ => ⟨fun c _ g b s => K.f ⟨c.rd, c.ev, c.ds, []⟩ g b s⟩
  | .flt i p, K, σ, n => match ops[i]? with
    | none => noF
    | some o => match okOp nt ops o, pureOp P o with
      | true, true => ⟨fun c st g b s => anGet ((fSee P cf vm fn ops σ n o).f st g b s) fun v => (fPut vm nt o.dst σ n fun σ' n' => fPlan p K σ' n').f v c st g b s⟩
      | true, false => ⟨fun c st g b s => anGet ((fSee P cf vm fn ops σ n o).f st g b s) fun v => (fPut vm nt o.dst σ n fun σ' n' => fPlan p K σ' n').f v ⟨c.rd, c.ev, c.ds, ⟨i, fun s => (fSee P cf vm fn ops σ n o).f st g b s, v⟩ :: c.hs⟩ st g b s⟩
      | _, _ => noF
  | .prep i p, K, σ, n => match ops[i]? with
    | none => noF
    | some o => match okOp nt ops o with
      | true => ⟨fun c st g b s => anVal ((qOp P cf vm fn σ n o).f st g b s) ((fPlan p K σ n).f c st g b s)⟩
      | false => noF
  | .bind i p, K, σ, n => match ops[i]? with
    | none => noF
    | some o => match okOp nt ops o with
      | true => fAny P cf vm fn σ n o (fPut vm nt o.dst σ n fun σ' n' => chkF none (fPlan p K σ' n'))
      | false => noF
  | .eff i p, K, σ, n => match ops[i]? with
    | none => noF
    | some o => match okOp nt ops o with
      | true => fOne P cf vm fn ops σ n o (fPut vm nt o.dst σ n fun σ' n' => chkF (some (waitsOn ops o)) (fPlan p K σ' n'))
      | false => noF
noncomputable def fDrawM (ms : List Mk) (K : KCF) : KSF 0 := match noDS ops && okPlanF ops ms (planD P ops ms) with
  | true => fPlan P cf vm fn nt ops (planD P ops ms) K [] 0
  | false => noF
noncomputable def fDraw (K : KCF) : KSF 0 := fDrawM P cf vm fn nt ops (mks ops ops.toList 0) K
end
/-- On from a frame. -/
noncomputable def goF (K : KCF) (c : Cq) (fr : FrA) (s : AS) : RO := K.f ⟨c.rd, c.ev, fr.ds, []⟩ fr.t.g fr.t.b s
section
variable (P : Program) (cf : Cf) (vm : Vm) (fn : FuncId) (nt : Nat)
noncomputable def Kid : KCF := ⟨fun c g b s => .one (.ex .normal ⟨⟨g, b⟩, c.ds⟩, s)⟩
noncomputable def fCode : Code → KCF → KCF
  | .skip, K => K
  | .label _, K => K
  | .exit i, _ => ⟨fun c g b s => .one (.ex (.exit i) ⟨⟨g, b⟩, c.ds⟩, s)⟩
  | .ret, _ => ⟨fun c g b s => .one (.ex .ret ⟨⟨g, b⟩, c.ds⟩, s)⟩
  | .seq a b, K => fCode a (fCode b K)
  | .cond x y z, K => match okX P.globals.size x with
    | true => ⟨fun c g b s => boolR ((rdC vm x).f g b) fun t => bR t ((fCode y K).f c g b s) ((fCode z K).f c g b s)⟩
    | false => ⟨fun _ _ _ _ => .no⟩
  | .block i x, K => ⟨fun c g b s => bindR ((fCode x Kid).f c g b s) fun y => cOut y.1 (fun _ => .no) fun e fr => cX e (goF K c fr y.2) (fun j => cB (Nat.beq i j) (goF K c fr y.2) (.one y)) (.one y)⟩
  | .loop x, K => ⟨fun c g b s => thenA ((fCode x ⟨fun c g b s => c.ev (.code (.loop x) fn vm nt c.rd ⟨⟨g, b⟩, c.ds⟩) s⟩).f c g b s) fun fr s => goF K c fr s⟩
  | .scope x, K => fCode x K
  | .region _ ops draw, K => match draw with
    | false => ⟨fun c g b s => (fOps P cf vm fn nt ops ops.toList K [] 0).f c () g b s⟩
    | true => ⟨fun c g b s => (fDraw P cf vm fn nt ops K).f c () g b s⟩
  | .rangeFunc x params assign body, K => ⟨fun c g b s => thenA ((kCode P cf vm fn nt (.rangeFunc x params assign body)).f c.rd c.ev ⟨⟨g, b⟩, c.ds⟩ s) fun fr s => goF K c fr s⟩
  | _, _ => ⟨fun _ _ _ _ => .no⟩
/-- Code that is gone through by itself. -/
noncomputable def fTop (c : Code) : KCF := match c with
  | .loop x => fCode P cf vm fn nt x ⟨fun c g b s => c.ev (.code (.loop x) fn vm nt c.rd ⟨⟨g, b⟩, c.ds⟩) s⟩
  | x => ⟨fun c g b s => (kCode P cf vm fn nt x).f c.rd c.ev ⟨⟨g, b⟩, c.ds⟩ s⟩
end
section
variable (P : Program) (cf : Cf)
noncomputable def fFun (f : FuncId) : KF := match P.funcs[f]? with
  | none => ⟨fun _ _ _ => .no⟩
  | some fn => match fn.body, fn.name == "runtime.NumGoroutine", okRes fn.results.toList, Nat.ble fn.ntmps 256 with
    | some c, false, true, true => match cf.fl f with
      | false => ⟨fun ev args s => cO ((kArgs (cf.vm f) fn.ntmps 0).f args UF) .no fun t => valR (finsA P (cf.vm f) fn.results.toList ((fCode P cf (cf.vm f) f fn.ntmps c Kid).f ⟨none, ev, [], []⟩ t.g t.b s))⟩
      | true => ⟨fun ev args s => cO ((kArgs (cf.vm f) fn.ntmps 0).f args UF) .no fun t => cO (listR (finsA P (cf.vm f) fn.results.toList ((fCode P cf (cf.vm f) f fn.ntmps c Kid).f ⟨none, ev, [], []⟩ t.g t.b ⟨E6, s.top :: s.lay, [], s.next⟩))) .no fun l =>
          cO (addsD s l []) .no fun d => outsD s d⟩
    | _, _, _, _ => ⟨fun _ _ _ => .no⟩
noncomputable def fRoundB (ev : Ev) (l : Nam) (f : FuncId) (vm : Vm) (n : Nat) (body : Code) (fr : FrA) (s1 : AS) : R (Out × AS) := oLoop (getA s1 l) .no fun r => cB (readyA r.state)
  (bindR (goF (fCode P cf vm f n body Kid) ⟨some l, ev, [], []⟩ fr (putA s1 l (.loop ⟨.busy, r.pending, r.st⟩))) fun x => cOut x.1 (fun _ => .no) fun e _ => roundEnd l e x.2) .no
noncomputable def fRound (ev : Ev) (l : Nam) (args : List AV) (s : AS) : R (Out × AS) := oLoop (getA s l) .no fun r => cLSt r.st fun f vm n params assign body tmps _ => cO ((kParams vm n params.toList).f args tmps) .no fun t =>
  bindR (goF (fCode P cf vm f n assign Kid) ⟨some l, ev, [], []⟩ ⟨t, []⟩ s) fun y => cOut y.1 (fun _ => .no) fun e fr => cX e (fRoundB P cf ev l f vm n body fr y.2) (fun _ => .no) .no
noncomputable def fevF (ev : Ev) (k : Task) (s : AS) : R (Out × AS) := cTask k (fun f args => (fFun P cf f).f ev args s) (fun c f vm n rd fr => goF (fTop P cf vm f n c) ⟨rd, ev, [], []⟩ fr s) fun l args => fRound P cf ev l args s
noncomputable def fev (n : Nat) : Ev := iterF (fun _ _ => .no) (fun go => fevF P cf go) n
end
end Go.Proofs.YtfnjojdiiklleaaGreat.Ev
