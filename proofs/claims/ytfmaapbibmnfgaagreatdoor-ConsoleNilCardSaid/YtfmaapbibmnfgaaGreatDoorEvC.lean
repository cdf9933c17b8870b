/- A run of a program on abstract memory: values, memory, operations. -/
import GoSem.Step
import Derived.Orders
import Derived.Test.YtfmaapbibmnfgaaGreatDoorEvH
import Derived.Laws.Sem
set_option linter.unusedSectionVars false
namespace Go.Proofs.YtfmaapbibmnfgaaGreatDoor.Ev

/-- What is chosen ahead: which functions merge their outcomes, which name by a map's entries, how far apart rows are named, which temporaries are looked at often. -/
structure Cf where
  fl : FuncId → Bool
  ar : FuncId → Nat
  rs : FuncId → Nat
  vm : FuncId → Vm
  lb : FuncId → Nat
  tS : TypeId

/-! ### Static: constants -/
mutual
noncomputable def ofV : Value → Option AV
  | .bool b => some (.bool b)
  | .int k n => some (.int k n)
  | .string s => some (.str (s.data.toList.map UInt8.toNat))
  | .pointer none => some .nilp
  | .slice none 0 0 => some .nils
  | .map none => some .nilm
  | .nilFunc => some .nilf
  | .nilIface => some .nili
  | .agg ⟨cs⟩ => match ofVs cs with
    | some l => some (.agg l)
    | none => none
  | .tuple ⟨cs⟩ => match ofVs cs with
    | some l => some (.tuple l)
    | none => none
  | _ => none
noncomputable def ofVs : List Value → Option (List AV)
  | [] => some []
  | v :: l => match ofV v with
    | none => none
    | some a => match ofVs l with
      | none => none
      | some r => some (a :: r)
end
noncomputable def numT : Nat := 256
noncomputable def okX (ng : Nat) : Operand → Bool
  | .tmp i => Nat.blt i 256
  | .const v => match ofV v with
    | some _ => true
    | none => false
  | .global g => Nat.blt g ng
  | .func _ => true
noncomputable def cX1 (vm : Vm) : Operand → Cl (FrA → AV)
  | .tmp i => ⟨fun fr => (tgF vm i).f fr.t⟩
  | .const v => match ofV v with
    | some a => ⟨fun _ => a⟩
    | none => ⟨fun _ => .nilp⟩
  | .global g => ⟨fun _ => .ptr (nam g) 0⟩
  | .func f => ⟨fun _ => .func f [] []⟩
noncomputable def okXs (ng : Nat) (l : List Operand) : Bool := l.all (okX ng)
noncomputable def cXs (vm : Vm) : List Operand → Cl (FrA → List AV)
  | [] => ⟨fun _ => []⟩
  | x :: l => ⟨fun fr => (cX1 vm x).f fr :: (cXs vm l).f fr⟩
noncomputable def cXI (vm : Vm) : List (Nat × Operand) → Cl (FrA → List (Nat × AV))
  | [] => ⟨fun _ => []⟩
  | (i, x) :: l => ⟨fun fr => (i, (cX1 vm x).f fr) :: (cXI vm l).f fr⟩
noncomputable def okO (ng : Nat) : Option Operand → Bool
  | none => true
  | some x => okX ng x
noncomputable def cXO (vm : Vm) : Option Operand → Cl (FrA → Option AV)
  | none => ⟨fun _ => none⟩
  | some x => ⟨fun fr => some ((cX1 vm x).f fr)⟩
/-- Where a result goes. -/
noncomputable def okD (n : Nat) : Option Tmp → Bool
  | none => true
  | some i => Nat.ble n i || Nat.blt i 256
noncomputable def cD (vm : Vm) (n : Nat) : Option Tmp → Cl (FrA → AV → FrA)
  | none => ⟨fun fr _ => fr⟩
  | some i => match Nat.blt i n with
    | true => ⟨fun fr v => ⟨(tsF vm i).f fr.t v, fr.ds⟩⟩
    | false => ⟨fun fr _ => fr⟩

/-! ### Memory -/
noncomputable def Pth.num (p : Pth) : Nat := Nat.add (Nat.mul (Nat.add (Nat.mul (Nat.add (Nat.mul p.p4.num 16) p.p3.num) 16) p.p2.num) 16) p.p1.num
noncomputable def layG (l : List H6) (i : Nam) : AO := itL .free (fun h _ r => oFree (hget h i.p) (hget h i.p) r) l
noncomputable def getA (s : AS) (i : Nam) : AO := oFree (hget s.top i.p) (hget s.top i.p) (layG s.lay i)
noncomputable def logA (s : AS) (i : Nam) : List Nam := cL s.lay s.log fun _ _ => oFree (hget s.top i.p) s.log (i :: s.log)
noncomputable def putA (s : AS) (i : Nam) (o : AO) : AS := ⟨hput s.top i.p o, s.lay, logA s i, s.next⟩
noncomputable def maxN : Nat := 65536
/-- A new name; the next one that many further. -/
noncomputable def newI {β : Type} (s : AS) (i : Nam) (o : AO) (by_ : Nat) (no : β) (k : Nam → AS → β) : β :=
  oFree (getA s i) no (k i ⟨hput s.top i.p o, s.lay, logA s i, Nat.add s.next by_⟩)
noncomputable def newA {β : Type} (s : AS) (o : AO) (by_ : Nat) (no : β) (k : Nam → AS → β) : β :=
  cB (Nat.blt s.next 65536) (newI s (nam s.next) o by_ no k) no

/-! ### Numbers and texts -/
noncomputable def kn (k : IntKind) : Nat := k.ctorIdx
noncomputable def bits_ (k : IntKind) : Nat := k.bits
/-- From here on a number that is not negative is none of the kind's. -/
noncomputable def hlf (k : IntKind) : Nat := if k.signed then 2 ^ (k.bits - 1) else 2 ^ k.bits
noncomputable def neg_ (k : IntKind) : Nat := if k.signed then 2 ^ (k.bits - 1) else 0
noncomputable def pw (k : IntKind) : Nat := 2 ^ k.bits
noncomputable def kEq (a b : IntKind) : Bool := Nat.beq (kn a) (kn b)
noncomputable def wrapA (k : IntKind) (x : Int) : Int := cI x (fun m => cB (Nat.blt m (hlf k)) (.ofNat m) (k.wrap (.ofNat m))) fun m => cB (Nat.blt m (neg_ k)) (.negSucc m) (k.wrap (.negSucc m))
noncomputable def subN (m n : Nat) : Int := cB (Nat.ble n m) (.ofNat (Nat.sub m n)) (.negSucc (Nat.sub (Nat.sub n m) 1))
noncomputable def iadd (a b : Int) : Int := cI a (fun m => cI b (fun n => .ofNat (Nat.add m n)) fun n => subN m (Nat.add n 1)) fun m => cI b (fun n => subN n (Nat.add m 1)) fun n => .negSucc (Nat.add (Nat.add m n) 1)
noncomputable def isub (a b : Int) : Int := cI a (fun m => cI b (fun n => subN m n) fun n => .ofNat (Nat.add m (Nat.add n 1))) fun m => cI b (fun n => .negSucc (Nat.add m n)) fun n => subN (Nat.add n 1) (Nat.add m 1)
noncomputable def imul (a b : Int) : Int := cI a (fun m => cI b (fun n => .ofNat (Nat.mul m n)) fun n => Int.mul (.ofNat m) (.negSucc n)) fun m => Int.mul (.negSucc m) b
noncomputable def ieq (a b : Int) : Bool := cI a (fun m => cI b (fun n => Nat.beq m n) fun _ => false) fun m => cI b (fun _ => false) fun n => Nat.beq m n
noncomputable def ile (a b : Int) : Bool := cI a (fun m => cI b (fun n => Nat.ble m n) fun _ => false) fun m => cI b (fun _ => true) fun n => Nat.ble n m
noncomputable def iquo (a b : Int) : Int := cI a (fun m => cI b (fun n => .ofNat (Nat.div m n)) fun n => Int.tdiv (.ofNat m) (.negSucc n)) fun m => Int.tdiv (.negSucc m) b
noncomputable def irem (a b : Int) : Int := cI a (fun m => cI b (fun n => .ofNat (Nat.mod m n)) fun n => Int.tmod (.ofNat m) (.negSucc n)) fun m => Int.tmod (.negSucc m) b
noncomputable def natA (k : IntKind) (x : Int) : Nat := cI x (fun m => Nat.mod m (pw k)) fun m => (Int.negSucc m % (pw k : Int)).toNat
noncomputable def minN (a b : Nat) : Nat := cB (Nat.ble a b) a b
noncomputable def maxM (a b : Nat) : Nat := cB (Nat.ble a b) b a
noncomputable def natsEq (l : List Nat) : List Nat → Bool := itL (fun m => cL m true fun _ _ => false) (fun a _ ih m => cL m false fun b t => cB (Nat.beq a b) (ih t) false) l
noncomputable def small (n : Nat) : Bool := Nat.ble n 1000000000
noncomputable def bNot (b : Bool) : Bool := cB b false true
noncomputable def bOr (a b : Bool) : Bool := cB a true b
noncomputable def bAnd (a b : Bool) : Bool := cB a b false
noncomputable def bEq (a b : Bool) : Bool := cB a b (bNot b)
/-- What an operator makes of two numbers of a kind. -/
noncomputable def arithA : BinOp → Cl (IntKind → Int → Int → AN)
  | .add => ⟨fun k a b => .get (.int k (wrapA k (iadd a b)))⟩
  | .sub => ⟨fun k a b => .get (.int k (wrapA k (isub a b)))⟩
  | .mul => ⟨fun k a b => .get (.int k (wrapA k (imul a b)))⟩
  | .quo => ⟨fun k a b => cB (ieq b 0) .no (.get (.int k (wrapA k (iquo a b))))⟩
  | .rem => ⟨fun k a b => cB (ieq b 0) .no (.get (.int k (irem a b)))⟩
  | .and => ⟨fun k a b => .get (.int k (wrapA k (.ofNat (Nat.land (natA k a) (natA k b)))))⟩
  | .or => ⟨fun k a b => .get (.int k (wrapA k (.ofNat (Nat.lor (natA k a) (natA k b)))))⟩
  | .xor => ⟨fun k a b => .get (.int k (wrapA k (.ofNat (Nat.xor (natA k a) (natA k b)))))⟩
  | .andNot => ⟨fun k a b => .get (.int k (wrapA k (.ofNat (Nat.land (natA k a) (Nat.sub (Nat.sub (pw k) 1) (natA k b))))))⟩
  | .eql => ⟨fun _ a b => .get (.bool (ieq a b))⟩
  | .neq => ⟨fun _ a b => .get (.bool (bNot (ieq a b)))⟩
  | .lss => ⟨fun _ a b => .get (.bool (bNot (ile b a)))⟩
  | .leq => ⟨fun _ a b => .get (.bool (ile a b))⟩
  | .gtr => ⟨fun _ a b => .get (.bool (bNot (ile a b)))⟩
  | .geq => ⟨fun _ a b => .get (.bool (ile b a))⟩
  | _ => ⟨fun _ _ _ => .no⟩
noncomputable def shiftA : BinOp → Cl (IntKind → Int → Int → AN)
  | .shl => ⟨fun k a b => cI b (fun n => .get (.int k (wrapA k (imul a (.ofNat (Nat.pow 2 (minN n (bits_ k)))))))) fun _ => .no⟩
  | .shr => ⟨fun k a b => cI b (fun n => .get (.int k (cI a (fun m => .ofNat (Nat.div m (Nat.pow 2 (minN n (bits_ k))))) fun m => Int.fdiv (.negSucc m) (.ofNat (Nat.pow 2 (minN n (bits_ k))))))) fun _ => .no⟩
  | _ => ⟨fun _ _ _ => .no⟩
noncomputable def unA (op : UnOp) : Cl (AV → AN) := match op with
  | .not => ⟨fun v => vBool v .no fun b => .get (.bool (bNot b))⟩
  | .neg => ⟨fun v => vInt v .no fun k n => .get (.int k (wrapA k (isub 0 n)))⟩
  | .xor => ⟨fun v => vInt v .no fun k n => .get (.int k (wrapA k (.ofNat (Nat.xor (natA k (if k.signed then -1 else k.max)) (natA k n)))))⟩
  | _ => ⟨fun _ => .no⟩

/-! ### Cells -/
noncomputable def ofO (x : Option AV) : AN := cO x .no .get
/-- Is a value that of one cell? -/
noncomputable def cell1 (v : AV) : Bool := v1 v true (fun _ => false) (fun _ => false)
noncomputable def allCell1 (l : List AV) : Bool := itL true (fun v _ r => cB (cell1 v) r false) l
noncomputable def cellsA (v : AV) : List AV := vAgg v [v] fun l => l
section
variable (P : Program)
noncomputable def sizeA (t : TypeId) : Option Nat := match P.info? t with
  | some i => some i.size
  | none => none
noncomputable def zeroA (t : TypeId) : Option AV := match P.info? t with
  | some i => match i.zero with
    | some v => ofV v
    | none => none
  | none => none
noncomputable def bytesA (t : TypeId) : Nat := match P.info? t with
  | some i => i.bytes
  | none => 0
noncomputable def aggT (t : TypeId) : Option Bool := match P.underlying t with
  | some (.struct _) => some true
  | some (.array _ _) => some true
  | some _ => some false
  | none => none
/-- A part of cells. -/
noncomputable def partA (t : TypeId) : Cl (List AV → Nat → Option AV) := match aggT P t, sizeA P t with
  | some true, some n => ⟨fun cs o => cO (tke n (drp o cs)) none fun l => some (.agg l)⟩
  | some false, some _ => ⟨fun cs o => nth o cs⟩
  | _, _ => ⟨fun _ _ => none⟩
noncomputable def loadA (t : TypeId) : Cl (AV → AS → Option AV) := ⟨fun v s => vPtr v none fun b o => oCells (getA s b) none fun _ _ cs => (partA P t).f cs o⟩
noncomputable def putC (m : Md) (e : TypeId) (s : AS) (b : Nam) (x : Option (List AV)) : AN := cO x .no fun cs => .val (.tuple []) (putA s b (.cells m e cs))
noncomputable def storeA (t : TypeId) : Cl (AV → AV → AS → AN) := match aggT P t, sizeA P t with
  | some true, some n => ⟨fun a v s => vPtr a .no fun b o => oCells (getA s b) .no fun m e cs => vAgg v .no fun l =>
      cB (bAnd (Nat.beq (len l) n) (allCell1 l)) (cMd m (putC m e s b (put l o cs)) (putC m e s b (put l o cs)) .no) .no⟩
  | some false, some 1 => ⟨fun a v s => vPtr a .no fun b o => oCells (getA s b) .no fun m e cs => cB (cell1 v) (cMd m (putC m e s b (put [v] o cs)) (putC m e s b (put [v] o cs)) .no) .no⟩
  | _, _ => ⟨fun _ _ _ => .no⟩
noncomputable def fillA (place : Nat → Option (Nat × Nat)) (l : List (Nat × AV)) : List AV → Option (List AV) := itL (fun cs => some cs)
  (fun x _ ih cs => cO (place x.1) none fun q => cB (Nat.beq (len (cellsA x.2)) q.2) (cO (put (cellsA x.2) q.1 cs) none ih) none) l
noncomputable def placeS (fs : Array Field) (i : Nat) : Option (Nat × Nat) := match fs[i]? with
  | some f => match sizeA P f.type with
    | some n => some (f.offset, n)
    | none => none
  | none => none
noncomputable def sizesOk (fs : List Field) : Bool := fs.all fun f => (sizeA P f.type).isSome
noncomputable def buildA (t : TypeId) : Cl (List (Nat × AV) → AN) := match zeroA P t, P.underlying t with
  | some z, some (.struct fs) => match sizesOk P fs.toList with
    | true => ⟨fun ps => cO (fillA (placeS P fs) ps (cellsA z)) .no fun l => .get (.agg l)⟩
    | false => ⟨fun _ => .no⟩
  | some z, some (.array _ e) => match sizeA P e with
    | some n => ⟨fun ps => cO (fillA (fun i => some (Nat.mul i n, n)) ps (cellsA z)) .no fun l => .get (.agg l)⟩
    | none => ⟨fun _ => .no⟩
  | _, _ => ⟨fun _ => .no⟩

/-! ### Sameness -/
noncomputable def eqB (x y : AV) : Option Bool := vBool x none fun a => vBool y none fun b => some (bEq a b)
noncomputable def eqI (x y : AV) : Option Bool := vInt x none fun k a => vInt y none fun j b => cB (kEq k j) (some (ieq a b)) none
/-- Is a text some equal bytes? 'none': it may be. -/
noncomputable def rEq (a : List Nat) (n : Nat) : Option Bool := cB (Nat.beq (len a) n) none (some false)
noncomputable def eqS (x y : AV) : Option Bool := vTx x none (fun a => vTx y none (fun b => some (natsEq a b)) fun n _ => rEq a n) fun n _ => vTx y none (fun b => rEq b n) fun _ _ => none
/-- Truths, numbers, texts. -/
noncomputable def eqK : Nat → Cl (AV → AV → Option Bool)
  | 0 => ⟨eqB⟩
  | 1 => ⟨eqI⟩
  | _ => ⟨eqS⟩
noncomputable def eqCs : List Nat → Cl (List AV → List AV → Option Bool)
  | [] => ⟨fun l m => cL l (cL m (some true) fun _ _ => none) fun _ _ => none⟩
  | k :: ks => ⟨fun l m => cL l none fun a l => cL m none fun b m => cO ((eqK k).f a b) none fun r => cB r ((eqCs ks).f l m) (some false)⟩
/-- The cells that a value is looked at by, in order, and of which kind they are. -/
noncomputable def lookFs (look : TypeId → Nat → Option (List (Nat × Nat))) (n o : Nat) : List Field → Option (List (Nat × Nat))
  | [] => some []
  | f :: fs => match f.name == "_", sizeA P f.type with
    | false, some m => match Nat.ble (f.offset + m) n, look f.type (o + f.offset), lookFs look n o fs with
      | true, some a, some b => some (a ++ b)
      | _, _, _ => none
    | _, _ => none
noncomputable def lookEs (look : Nat → Option (List (Nat × Nat))) (z o : Nat) : Nat → Nat → Option (List (Nat × Nat))
  | _, 0 => some []
  | i, k + 1 => match look (o + i * z), lookEs look z o (i + 1) k with
    | some a, some b => some (a ++ b)
    | _, _ => none
noncomputable def look1 (t : TypeId) (o k : Nat) : Option (List (Nat × Nat)) := match sizeA P t with
  | some 1 => some [(o, k)]
  | _ => none
noncomputable def lookT : Nat → TypeId → Nat → Option (List (Nat × Nat))
  | 0, _, _ => none
  | d + 1, t, o => match P.underlying t with
    | some .bool => look1 P t o 0
    | some (.int _) => look1 P t o 1
    | some .string => look1 P t o 2
    | some (.struct fs) => match P.stoodInHeld t, sizeA P t with
      | false, some n => lookFs P (lookT d) n o fs.toList
      | _, _ => none
    | some (.array n e) => match sizeA P e, sizeA P t with
      | some z, some s => match Nat.ble (n * z) s with
        | true => lookEs (lookT d e) z o 0 n
        | false => none
      | _, _ => none
    | _ => none
/-- Do a type's values lie cell by cell, all of them? Then: of which kinds they are. -/
noncomputable def flatT (t : TypeId) : Option (List Nat) := match lookT P 20 t 0, sizeA P t, P.eqGuardType P.depth t with
  | some l, some n, false => match decide (l.map (·.1) = List.range n) with
    | true => some (l.map (·.2))
    | false => none
  | _, _, _ => none
noncomputable def ownB (s : AS) (b : Nam) : Bool := oCells (getA s b) false fun m _ _ => cMd m true false false
noncomputable def vB (b : Bool) : Option Bool := some b
/-- How two values of a type are compared. -/
noncomputable def eqA (t : TypeId) : Cl (AV → AV → AS → Option Bool) := match P.underlying t with
  | some .bool => ⟨fun x y _ => eqB x y⟩
  | some (.struct _) => match flatT P t with
    | some ks => ⟨fun x y _ => vAgg x none fun a => vAgg y none fun b => (eqCs ks).f a b⟩
    | none => ⟨fun _ _ _ => none⟩
  | some (.array _ _) => match flatT P t with
    | some ks => ⟨fun x y _ => vAgg x none fun a => vAgg y none fun b => (eqCs ks).f a b⟩
    | none => ⟨fun _ _ _ => none⟩
  | some (.pointer e) => match sizeA P e with
    | some (_ + 1) => ⟨fun x y s => vPtrN x none (vPtrN y none (vB true) fun _ _ => vB false) fun a o => vPtrN y none (vB false) fun b p =>
        cB (bAnd (ownB s a) (ownB s b)) (cB (Nat.beq a.n b.n) (vB (Nat.beq o p)) (vB false)) none⟩
    | _ => ⟨fun x y _ => vPtrN x none (vPtrN y none (vB true) fun _ _ => vB false) fun _ _ => vPtrN y none (vB false) fun _ _ => none⟩
  | some (.slice _) => ⟨fun x y _ => vSlT x none (vSlT y none (vB true) (fun _ _ _ _ => vB false) (fun _ _ _ _ => vB false) fun _ _ _ _ => vB false) (fun _ _ _ _ => vSl y none (vB false) (fun _ _ _ _ => none) fun _ _ _ _ => none) (fun _ _ _ _ => vSl y none (vB false) (fun _ _ _ _ => none) fun _ _ _ _ => none) fun _ _ _ _ => vSl y none (vB false) (fun _ _ _ _ => none) fun _ _ _ _ => none⟩
  | some (.func _ _ _) => ⟨fun x y _ => vFnN x none (vFnN y none (vB true) (fun _ _ _ => vB false) fun _ => vB false) (fun _ _ _ => vFnN y none (vB false) (fun _ _ _ => none) fun _ => none) fun _ => vFnN y none (vB false) (fun _ _ _ => none) fun _ => none⟩
  | some (.map _ _) => ⟨fun x y _ => vMap x none (vMap y none (vB true) fun _ => vB false) fun _ => vMap y none (vB false) fun _ => none⟩
  | _ => ⟨fun _ _ _ => none⟩
/-- Interfaces, one of them nil. -/
noncomputable def eqF (x y : AV) : Option Bool := vIfo x none (vIfo y none (some true) (fun _ _ => some false) fun _ => some false) (fun _ _ => vIfo y none (some false) (fun _ _ => none) fun _ => none) fun _ => vIfo y none (some false) (fun _ _ => none) fun _ => none
noncomputable def isC : Operand → Bool
  | .const _ => true
  | _ => false
noncomputable def binA (cst : Bool) (op : BinOp) (ty : TypeId) : Cl (AV → AV → AS → AN) := match P.underlying ty with
  | some (.int _) => match op with
    | .shl => ⟨fun x y _ => vInt x .no fun k a => vInt y .no fun _ b => (shiftA .shl).f k a b⟩
    | .shr => ⟨fun x y _ => vInt x .no fun k a => vInt y .no fun _ b => (shiftA .shr).f k a b⟩
    | op => ⟨fun x y _ => vInt x .no fun k a => vInt y .no fun j b => cB (kEq k j) ((arithA op).f k a b) .no⟩
  | some .string => match op with
    | .eql => ⟨fun x y _ => cO (eqS x y) .no fun b => .get (.bool b)⟩
    | .neq => ⟨fun x y _ => cO (eqS x y) .no fun b => .get (.bool (bNot b))⟩
    | .add => ⟨fun x y _ => vStr x .no fun a => vStr y .no fun b => cB (small (Nat.add (len a) (len b))) (.get (.str (app a b))) .no⟩
    | _ => ⟨fun _ _ _ => .no⟩
  | some (.interface _) => match cst, op with
    | true, .eql => ⟨fun x y _ => cO (eqF x y) .no fun b => .get (.bool b)⟩
    | true, .neq => ⟨fun x y _ => cO (eqF x y) .no fun b => .get (.bool (bNot b))⟩
    | _, _ => ⟨fun _ _ _ => .no⟩
  | _ => match op with
    | .eql => ⟨fun x y s => cO ((eqA P ty).f x y s) .no fun b => .get (.bool b)⟩
    | .neq => ⟨fun x y s => cO ((eqA P ty).f x y s) .no fun b => .get (.bool (bNot b))⟩
    | _ => ⟨fun _ _ _ => .no⟩

/-! ### Slices -/
/-- A bound of a slice. -/
noncomputable def bndA (x : AV) (y : Nat) : Option Nat := vInt x none fun _ i => cI i (fun n => cB (Nat.ble n y) (some n) none) fun _ => none
noncomputable def bndO (x : Option AV) (d y : Nat) : Option Nat := cO x (some d) fun v => bndA v y
noncomputable def hasO (x : Option AV) : Bool := cO x false fun _ => true
noncomputable def offA (z o m l : Nat) : Nat := cB (Nat.beq m l) o (Nat.add o (Nat.mul l z))
noncomputable def cutN (lo hi mx : Option AV) : AN := cB (bAnd (hasO mx) (bNot (hasO hi))) .no (cO (bndO mx 0 0) .no fun m => cO (bndO hi 0 m) .no fun h => cO (bndO lo 0 h) .no fun _ => .get .nils)
noncomputable def cutA (z : Nat) (b : Nam) (o n c : Nat) (lo hi mx : Option AV) : AN := cB (bAnd (hasO mx) (bNot (hasO hi))) .no (cO (bndO mx c c) .no fun m => cO (bndO hi n m) .no fun h => cO (bndO lo 0 h) .no fun l =>
  .get (.slice b (offA z o m l) (Nat.sub h l) (Nat.sub m l)))
/-- How many elements a row's value is known to have room for. -/
noncomputable def topR (e z : Nat) (b : Nam) (o n c : Nat) (s : AS) : Nat := oCells (getA s b) n fun m e' cs => cMd m n (cB (bAnd (Nat.beq e e') (Nat.beq (Nat.mul c z) o)) (maxM n (Nat.div (Nat.sub (len cs) o) z)) n) n
noncomputable def cutR (e z : Nat) (b : Nam) (o n c : Nat) (lo hi mx : Option AV) (s : AS) : AN := cO mx
  (cO (cO (bndO hi n n) (bndO hi n (topR e z b o n c s)) some) .no fun h => cO (bndO lo 0 h) .no fun l => cB (Nat.beq l 0) (.get (.row b o h c))
    (cB (Nat.blt l n) (.get (.row b (Nat.add o (Nat.mul l z)) (Nat.sub h l) (Nat.add c l))) (cB (Nat.beq l h) (.get (.tail b o (Nat.add o (Nat.mul l z)) (Nat.add c l))) (.get (.row b (Nat.add o (Nat.mul l z)) (Nat.sub h l) (Nat.add c l))))))
  fun v => cO hi .no fun w => cO (bndA v n) .no fun m => cO (bndA w m) .no fun h => cO (bndO lo 0 h) .no fun l => .get (.slice b (offA z o m l) (Nat.sub h l) (Nat.sub m l))
noncomputable def cutT (l : List Nat) (lo hi mx : Option AV) : AN := cO mx (cO (bndO hi (len l) (len l)) .no fun h => cO (bndO lo 0 h) .no fun a => cO (tke (Nat.sub h a) (drp a l)) .no fun r => .get (.str r)) fun _ => .no
noncomputable def sliceA (ty : TypeId) : Cl (AV → Option AV → Option AV → Option AV → AS → AN) := match P.underlying ty with
  | some (.slice e) => match sizeA P e with
    | some z => ⟨fun x lo hi mx s => vSl x .no (cutN lo hi mx) (fun b o n c => cutA z b o n c lo hi mx) fun b o n c => cutR e z b o n c lo hi mx s⟩
    | none => ⟨fun _ _ _ _ _ => .no⟩
  | some (.array n e) => match sizeA P e with
    | some z => ⟨fun x lo hi mx _ => vPtr x .no fun b o => cutA z b o n n lo hi mx⟩
    | none => ⟨fun _ _ _ _ _ => .no⟩
  | some .string => ⟨fun x lo hi mx _ => vStr x .no fun l => cutT l lo hi mx⟩
  | _ => ⟨fun _ _ _ _ _ => .no⟩
noncomputable def idxA (x : AV) (n : Nat) : Option Nat := vInt x none fun _ i => cI i (fun m => cB (Nat.blt m n) (some m) none) fun _ => none
noncomputable def atI (z : Nat) (b : Nam) (o n : Nat) (i : AV) : AN := cO (idxA i n) .no fun k => .get (.ptr b (Nat.add o (Nat.mul k z)))
noncomputable def indexAddrA (ty : TypeId) : Cl (AV → AV → AN) := match P.underlying ty with
  | some (.array n e) => match sizeA P e with
    | some z => ⟨fun x i => vPtr x .no fun b o => atI z b o n i⟩
    | none => ⟨fun _ _ => .no⟩
  | some (.slice e) => match sizeA P e with
    | some z => ⟨fun x i => vSl x .no .no (fun b o n _ => atI z b o n i) fun b o n _ => atI z b o n i⟩
    | none => ⟨fun _ _ => .no⟩
  | _ => ⟨fun _ _ => .no⟩
noncomputable def indexA (ty : TypeId) : Cl (AV → AV → AN) := match P.underlying ty with
  | some (.array n e) => match sizeA P e with
    | some z => ⟨fun x i => vAgg x .no fun cs => cO (idxA i n) .no fun k => ofO ((partA P e).f cs (Nat.mul k z))⟩
    | none => ⟨fun _ _ => .no⟩
  | some .string => ⟨fun x i => vStr x .no fun s => cO (idxA i (len s)) .no fun k => cO (nth k s) .no fun b => .get (.int .u8 (.ofNat b))⟩
  | _ => ⟨fun _ _ => .no⟩

/-! ### Maps -/
/-- How keys of a map are compared; is a value a key? -/
noncomputable def keyK (kt : TypeId) : Option (Cl (AV → AV → Option Bool) × Cl (AV → Bool)) := match P.underlying kt with
  | some (.struct _) => match flatT P kt with
    | some ks => some (⟨fun x y => vAgg x none fun a => vAgg y none fun b => (eqCs ks).f a b⟩, ⟨fun x => vAgg x false fun a => Nat.beq (len a) ks.length⟩)
    | none => none
  | some (.array _ _) => match flatT P kt with
    | some ks => some (⟨fun x y => vAgg x none fun a => vAgg y none fun b => (eqCs ks).f a b⟩, ⟨fun x => vAgg x false fun a => Nat.beq (len a) ks.length⟩)
    | none => none
  | some (.int _) => some (⟨eqI⟩, ⟨fun x => vInt x false fun _ _ => true⟩)
  | some .string => some (⟨eqS⟩, ⟨fun x => vTx x false (fun _ => true) fun _ _ => true⟩)
  | _ => none
noncomputable def findA (eq : AV → AV → Option Bool) (k : AV) (es : List Ent) : Option (Option Ent) := itL (some none) (fun x _ r => cO (eq k x.key) none fun b => cO r none fun q => cB b (some (some x)) (some q)) es
/-- The order in which entries of a map are kept. -/
noncomputable def ltG (x y : AV) : Bool := vInt x false fun _ a => vInt y false fun _ b => bNot (ile b a)
noncomputable def ltGs (l : List AV) : List AV → Bool := itL (fun _ => false) (fun a _ ih m => cL m false fun b t => bOr (ltG a b) (bAnd (bNot (ltG b a)) (ih t))) l
noncomputable def ltK (x y : AV) : Bool := vAgg x (ltG x y) fun a => vAgg y false fun b => ltGs a b
noncomputable def insA (k v : AV) (i : Nam) (es : List Ent) : List Ent := itL [⟨k, v, i⟩] (fun x l r => cB (ltK k x.key) (⟨k, v, i⟩ :: x :: l) (x :: r)) es
noncomputable def setSA (i : Nam) (v : AV) (es : List Ent) : Option (List Ent) := itL none (fun x l r => cB (Nat.beq x.id.n i.n) (some (⟨x.key, v, x.id⟩ :: l)) (cO r none fun q => some (x :: q))) es
noncomputable def delA (i : Nam) (es : List Ent) : Option (List Ent) := itL none (fun x l r => cB (Nat.beq x.id.n i.n) (some l) (cO r none fun q => some (x :: q))) es
noncomputable def unitV (s : AS) : AN := .val (.tuple []) s
noncomputable def mapPutA (ty : TypeId) : Cl (AV → AV → AV → AS → AN) := match P.underlying ty with
  | some (.map kt _) => match keyK P kt with
    | some (eq, ok) => ⟨fun m k v s => cB (ok.f k) (vMap m .no .no fun b => oMap (getA s b) .no fun es clk => cO (findA eq.f k es) .no fun q =>
        cO q (newA s .dead 1 .no fun i s1 => unitV (putA s1 b (.map (insA k v i es) (Nat.add clk 1))))
          fun x => cO (setSA x.id v es) .no fun es' => unitV (putA s b (.map es' clk))) .no⟩
    | none => ⟨fun _ _ _ _ => .no⟩
  | _ => ⟨fun _ _ _ _ => .no⟩
noncomputable def mapEntryA (ty : TypeId) : Cl (AV → AV → AS → AN) := match P.underlying ty with
  | some (.map kt e) => match keyK P kt, zeroA P e with
    | some (eq, ok), some z => ⟨fun m k s => cB (ok.f k) (vMap m .no .no fun b => oMap (getA s b) .no fun es clk => cO (findA eq.f k es) .no fun q =>
        cO q (newA s .dead 1 .no fun i s1 => .val (.tuple [z, .stamp i]) (putA s1 b (.map (insA k z i es) (Nat.add clk 1))))
          fun x => .val (.tuple [x.val, .stamp x.id]) (putA s b (.map es clk))) .no⟩
    | _, _ => ⟨fun _ _ _ => .no⟩
  | _ => ⟨fun _ _ _ => .no⟩
noncomputable def entryStoreA (m i v : AV) (s : AS) : AN := vMap m .no .no fun b => vStamp i .no fun j => oMap (getA s b) .no fun es clk => cO (setSA j v es) .no fun es' => unitV (putA s b (.map es' clk))
noncomputable def deleteA (ty : TypeId) : Cl (AV → AV → AS → AN) := match P.underlying ty with
  | some (.map kt _) => match keyK P kt with
    | some (eq, ok) => ⟨fun m k s => cB (ok.f k) (vMap m .no (unitV s) fun b => oMap (getA s b) .no fun es clk => cO (findA eq.f k es) .no fun q =>
        cO q (unitV s) fun x => cO (delA x.id es) .no fun es' => unitV (putA s b (.map es' clk))) .no⟩
    | none => ⟨fun _ _ _ => .no⟩
  | _ => ⟨fun _ _ _ => .no⟩
noncomputable def foundA (ok : Bool) (z : AV) (q : Option Ent) : AN := cO q (.get (cB ok (.tuple [z, .bool false]) z)) fun x => .get (cB ok (.tuple [x.val, .bool true]) x.val)
noncomputable def lookupA (ty : TypeId) (two : Bool) : Cl (AV → AV → AS → AN) := match P.underlying ty with
  | some (.map kt e) => match keyK P kt, zeroA P e with
    | some (eq, ok), some z => ⟨fun m k s => cB (ok.f k) (vMap m .no (foundA two z none) fun b => oMap (getA s b) .no fun es _ => cO (findA eq.f k es) .no (foundA two z)) .no⟩
    | _, _ => ⟨fun _ _ _ => .no⟩
  | _ => ⟨fun _ _ _ => .no⟩
/-- Where names go on within an iteration. -/
noncomputable def atA (s : AS) (base sp j : Nat) : AS := cB (Nat.beq sp 0) s ⟨s.top, s.lay, s.log, Nat.add base (Nat.mul j sp)⟩
noncomputable def ptrN (s : AS) (o : AO) (by_ : Nat) : AN := newA s o by_ .no fun i s => .val (.ptr i 0) s
noncomputable def rangeA (cf : Cf) (fn : FuncId) (ty : TypeId) : Cl (AV → AS → AN) := match P.underlying ty with
  | some (.map _ _) => ⟨fun x s => vMap x .no (ptrN s (.iter none 0 [] 0 0) 1) fun m => oMap (getA s m) .no fun es clk =>
      ptrN s (.iter (some m) clk [] (Nat.add s.next 1) (cf.ar fn)) (Nat.add 1 (Nat.mul (cf.ar fn) (Nat.add (len es) 1)))⟩
  | _ => ⟨fun _ _ => .no⟩
noncomputable def namIn (i : Nam) (l : List Nam) : Bool := itL false (fun j _ r => cB (Nat.beq i.n j.n) true r) l
/-- What may come up next. -/
noncomputable def unseen (b m : Nam) (since base sp : Nat) (seen : List Nam) (s : AS) (es : List Ent) : Nat → List (AV × AS) := itL (fun _ => [])
  (fun x _ ih j => cB (namIn x.id seen) (ih (Nat.add j 1)) ((.tuple [.bool true, x.key, x.val], atA (putA s b (.iter (some m) since (x.id :: seen) base sp)) base sp j) :: ih (Nat.add j 1))) es
noncomputable def overV : AN := .get (.tuple [.bool false])
noncomputable def nextA (isS : Bool) : Cl (AV → AS → AN) := match isS with
  | true => ⟨fun _ _ => .no⟩
  | false => ⟨fun it s => vPtr it .no fun b o => cB (Nat.beq o 0) (oIter (getA s b) .no fun m since seen base sp => cO m overV fun m => oMap (getA s m) .no fun es clk =>
      cB (Nat.beq since clk) (cL (unseen b m since base sp seen s es 0) (.val (.tuple [.bool false]) (atA s base sp (len es))) fun x l => .pick (x :: l)) .no) .no⟩

noncomputable def byId (i : Nam) (es : List Ent) : Option Ent := itL none (fun x _ r => cB (Nat.beq x.id.n i.n) (some x) r) es
/-- What the last step came upon. -/
noncomputable def entryA (it : AV) (s : AS) : AN := vPtr it .no fun b o => cB (Nat.beq o 0) (oIter (getA s b) .no fun m since seen _ _ => cO m .no fun m => oMap (getA s m) .no fun es clk =>
  cB (Nat.beq since clk) (cL seen .no fun i _ => cO (byId i es) .no fun x => .get (.tuple [x.key, x.val])) .no) .no

/-! ### Appending -/
noncomputable def lenS (x : AV) : Option Nat := vSlT x none (some 0) (fun _ _ n _ => some n) (fun _ _ n _ => some n) fun _ _ _ _ => some 0
noncomputable def firstS (z n : Nat) (x : AV) (s : AS) : Option (List AV) := vSlT x none (some []) (fun b o _ _ => oCells (getA s b) none fun _ _ cs => tke (Nat.mul n z) (drp o cs)) (fun b o _ _ => oCells (getA s b) none fun _ _ cs => tke (Nat.mul n z) (drp o cs)) fun _ _ _ _ => some []
/-- A row's next name. -/
noncomputable def rowI {β : Type} (rs : Nat) (b : Nam) (o : AO) (s : AS) (no : β) (k : Nam → AS → β) : β :=
  cB (bAnd (Nat.ble 2 rs) (bAnd (Nat.blt (Nat.add b.n 1) s.next) (Nat.blt (Nat.add b.n 1) 65536))) (oFree (getA s (nam (Nat.add b.n 1))) (newA s o 1 no k) (newI s (nam (Nat.add b.n 1)) o 0 no k)) (newA s o 1 no k)
noncomputable def rowV (l : Nat) (i : Nam) (s : AS) : AN := .val (.row i 0 l 0) s
noncomputable def growA (rs e z by_ : Nat) (x : AV) (n : Nat) (new : List AV) (s : AS) : AN := vSl x .no
  (cB (Nat.beq n 0) (.val .nils s) (cB (small (Nat.mul n by_)) (newA s (.cells .row e new) (maxM 1 rs) .no (rowV n)) .no))
  (fun b o l c => oCells (getA s b) .no fun m e' cs => cB (Nat.ble (Nat.add l n) c)
    (cMd m (cO (put new (Nat.add o (Nat.mul l z)) cs) .no fun cs' => .val (.slice b o (Nat.add l n) c) (putA s b (.cells m e' cs')))
      (cO (put new (Nat.add o (Nat.mul l z)) cs) .no fun cs' => .val (.slice b o (Nat.add l n) c) (putA s b (.cells m e' cs'))) .no)
    (cB (small (Nat.mul (Nat.add (Nat.add l n) c) by_)) (cO (tke (Nat.mul l z) (drp o cs)) .no fun old => newA s (.cells .row e (app old new)) (maxM 1 rs) .no (rowV (Nat.add l n))) .no))
  fun b o l c => cB (Nat.beq n 0) (.val (.row b o l c) s) (cB (small (Nat.mul (Nat.add l n) by_)) (oCells (getA s b) .no fun m e' cs => cMd m .no
    (cB (bAnd (Nat.beq e e') (Nat.beq (Nat.mul c z) o)) (cO (put new (Nat.add o (Nat.mul l z)) cs)
      (cO (tke (Nat.mul l z) (drp o cs)) .no fun old => rowI rs b (.cells .row e (app old new)) (putA s b .dead) .no (rowV (Nat.add l n)))
      fun cs' => .val (.row b o (Nat.add l n) c) (putA s b (.cells m e' cs'))) .no) .no) .no)
noncomputable def appendA (rs : Nat) (sT yT : TypeId) : Cl (AV → AV → AS → AN) := match P.underlying sT, P.underlying yT with
  | some (.slice e), some (.slice _) => match sizeA P e, zeroA P e with
    | some (z + 1), some zv => match Nat.beq (len (cellsA zv)) (z + 1) with
      | true => ⟨fun x v s => cO (lenS v) .no fun n => cO (firstS (z + 1) n v s) .no fun q => cB (allCell1 q) (growA rs e (z + 1) (bytesA P e + 1) x n q s) .no⟩
      | false => ⟨fun _ _ _ => .no⟩
    | _, _ => ⟨fun _ _ _ => .no⟩
  | _, _ => ⟨fun _ _ _ => .no⟩
noncomputable def copyTo (x : AV) (n : Nat) (new : List AV) (s : AS) : AN := vSl x .no (.val (.int .i64 (.ofNat n)) s)
  (fun b o _ _ => oCells (getA s b) .no fun m e cs => cMd m (cO (put new o cs) .no fun cs' => .val (.int .i64 (.ofNat n)) (putA s b (.cells m e cs'))) (cO (put new o cs) .no fun cs' => .val (.int .i64 (.ofNat n)) (putA s b (.cells m e cs'))) .no)
  fun b o _ _ => oCells (getA s b) .no fun m e cs => cMd m .no (cO (put new o cs) .no fun cs' => .val (.int .i64 (.ofNat n)) (putA s b (.cells m e cs'))) .no
noncomputable def copyA (dT yT : TypeId) : Cl (AV → AV → AS → AN) := match P.underlying dT, P.underlying yT with
  | some (.slice e), some (.slice _) => match sizeA P e with
    | some z => ⟨fun x v s => cO (lenS x) .no fun m => cO (lenS v) .no fun n => cO (firstS z (minN n m) v s) .no fun q => cB (allCell1 q) (copyTo x (minN n m) q s) .no⟩
    | none => ⟨fun _ _ _ => .no⟩
  | _, _ => ⟨fun _ _ _ => .no⟩
noncomputable def clearA (ty : TypeId) : Cl (AV → AS → AN) := match P.underlying ty with
  | some (.slice e) => match zeroA P e, sizeA P e with
    | some zv, some z => match Nat.beq (len (cellsA zv)) z && allCell1 (cellsA zv) with
      | true => ⟨fun x s => vSl x .no (.val (.tuple []) s) (fun b o n _ => oCells (getA s b) .no fun m e cs => cMd m (putC m e s b (put (rep (cellsA zv) n) o cs)) (putC m e s b (put (rep (cellsA zv) n) o cs)) .no)
          fun b o n _ => oCells (getA s b) .no fun m e cs => cMd m .no (putC m e s b (put (rep (cellsA zv) n) o cs)) .no⟩
      | false => ⟨fun _ _ => .no⟩
    | _, _ => ⟨fun _ _ => .no⟩
  | _ => ⟨fun _ _ => .no⟩

/-! ### Operations -/
abbrev KO := Cl (FrA → AS → AN)
noncomputable def bad : KO := ⟨fun _ _ => .no⟩
noncomputable def minA (l : List AV) : AV → AN := itL (fun v => .get v) (fun y _ ih v => vInt v .no fun k a => vInt y .no fun j b => cB (kEq k j) (ih (.int k (cB (ile a b) a b))) .no) l
noncomputable def maxA (l : List AV) : AV → AN := itL (fun v => .get v) (fun y _ ih v => vInt v .no fun k a => vInt y .no fun j b => cB (kEq k j) (ih (.int k (cB (ile b a) a b))) .no) l
noncomputable def intV (n : Nat) : AN := .get (.int .i64 (.ofNat n))
noncomputable def lenA (ty : TypeId) : Cl (AV → AS → AN) := match P.underlying ty with
  | some (.slice _) => ⟨fun x _ => vSlT x .no (intV 0) (fun _ _ n _ => intV n) (fun _ _ n _ => intV n) fun _ _ _ _ => intV 0⟩
  | some (.map _ _) => ⟨fun x s => vMap x .no (intV 0) fun b => oMap (getA s b) .no fun es _ => intV (len es)⟩
  | some .string => ⟨fun x _ => vTx x .no (fun l => intV (len l)) fun n _ => intV n⟩
  | _ => ⟨fun _ _ => .no⟩
noncomputable def capA (ty : TypeId) : Cl (AV → AN) := match P.underlying ty with
  | some (.slice _) => ⟨fun x => vSl x .no (intV 0) (fun _ _ _ c => intV c) fun _ _ _ _ => .no⟩
  | _ => ⟨fun _ => .no⟩
noncomputable def byteN (l : List AV) : Option (List Nat) := itL (some []) (fun v _ r => vInt v none fun k i => cB (kEq k .u8) (cI i (fun n => cB (Nat.blt n 256) (cO r none fun q => some (n :: q)) none) fun _ => none) none) l
noncomputable def convO (x : AV) (s : AS) : AN := cO (lenS x) .no fun n => cO (firstS 1 n x s) .no fun l => cO (byteN l) .no fun r => .get (.str r)
noncomputable def convA (src dst : TypeId) : Cl (AV → AS → AN) := match P.underlying src, P.underlying dst with
  | some (.int _), some (.int k) => ⟨fun x _ => vInt x .no fun _ n => .get (.int k (wrapA k n))⟩
  | some (.slice _), some (.slice e) => match src == dst, P.underlying e with
    | true, some (.int .u8) => ⟨fun x s => vSl x .no .no (fun b _ _ _ => oCells (getA s b) .no fun m t cs => cMd m (.val x (putA s b (.cells .lib t cs))) .no .no) fun _ _ _ _ => .no⟩
    | _, _ => ⟨fun _ _ => .no⟩
  | some (.slice e), some .string => match P.underlying e with
    | some (.int .u8) => ⟨fun x s => vSlT x .no (convO x s) (fun b o n _ => oFill (getA s b) (convO x s) fun m c => cB (bAnd (Nat.beq o 0) (Nat.ble n m)) (.get (.rstr n c)) .no) (fun _ _ _ _ => convO x s) fun _ _ _ _ => convO x s⟩
    | _ => ⟨fun _ _ => .no⟩
  | _, _ => ⟨fun _ _ => .no⟩
noncomputable def fieldAddrA (st : TypeId) (f : Nat) : Cl (AV → AN) := match P.underlying st with
  | some (.struct fs) => match fs[f]? with
    | some fd => match sizeA P fd.type with
      | some (_ + 1) => ⟨fun x => vPtr x .no fun b o => .get (.ptr b (Nat.add o fd.offset))⟩
      | _ => ⟨fun _ => .no⟩
    | none => ⟨fun _ => .no⟩
  | _ => ⟨fun _ => .no⟩
noncomputable def fieldA (st : TypeId) (f : Nat) : Cl (AV → AN) := match P.underlying st with
  | some (.struct fs) => match fs[f]? with
    | some fd => ⟨fun x => vAgg x .no fun cs => ofO ((partA P fd.type).f cs fd.offset)⟩
    | none => ⟨fun _ => .no⟩
  | _ => ⟨fun _ => .no⟩
noncomputable def makeSliceA (ty : TypeId) : Cl (AV → AV → AS → AN) := match P.underlying ty with
  | some (.slice e) => match sizeA P e, zeroA P e with
    | some z, some zv => match Nat.beq (len (cellsA zv)) z with
      | true => ⟨fun l c s => vInt l .no fun _ l => vInt c .no fun _ c => cI l (fun n => cI c (fun m =>
          cB (bAnd (Nat.ble n m) (small (Nat.mul m (Nat.add (Nat.add z 1) (bytesA P e))))) (newA s (.cells .own e (rep (cellsA zv) m)) 1 .no fun i s' => .val (.slice i 0 n m) s') .no) fun _ => .no) fun _ => .no⟩
      | false => ⟨fun _ _ _ => .no⟩
    | _, _ => ⟨fun _ _ _ => .no⟩
  | _ => ⟨fun _ _ _ => .no⟩
/-- A long block of noughts. -/
noncomputable def bigC : Operand → Bool
  | .const (.int _ (.ofNat n)) => Nat.ble 1000000 n
  | _ => false
noncomputable def isNil8 : AV → Bool
  | .int .u8 (.ofNat 0) => true
  | _ => false
noncomputable def makeFillA (ty : TypeId) : Cl (AV → AV → AS → AN) := match P.underlying ty with
  | some (.slice e) => match sizeA P e, zeroA P e with
    | some 1, some zv => match isNil8 zv with
      | true => ⟨fun l c s => vInt l .no fun _ l => vInt c .no fun _ c => cI l (fun n => cI c (fun m =>
          cB (bAnd (Nat.ble n m) (small (Nat.mul m (Nat.add (Nat.add 1 1) (bytesA P e))))) (newA s (.fill m 0) 1 .no fun i s' => .val (.slice i 0 n m) s') .no) fun _ => .no) fun _ => .no⟩
      | false => ⟨fun _ _ _ => .no⟩
    | _, _ => ⟨fun _ _ _ => .no⟩
  | _ => ⟨fun _ _ _ => .no⟩
noncomputable def buildSliceA (ty : TypeId) (n : Nat) : Cl (List (Nat × AV) → AS → AN) := match P.underlying ty with
  | some (.slice e) => match sizeA P e, zeroA P e with
    | some z, some zv => match Nat.beq (len (cellsA zv)) z && Nat.ble (n * z) 16777216 with
      | true => ⟨fun ps s => cO (fillA (fun i => some (Nat.mul i z, z)) ps (rep (cellsA zv) n)) .no fun cs => newA s (.cells .own e cs) 1 .no fun i s' => .val (.slice i 0 n n) s'⟩
      | false => ⟨fun _ _ => .no⟩
    | _, _ => ⟨fun _ _ => .no⟩
  | _ => ⟨fun _ _ => .no⟩
noncomputable def nilCheckA (x : AV) : AN := cB (vPtr x false fun _ _ => true) (.get x) (vFn x .no (fun _ _ _ => .get x) fun _ => .get x)
noncomputable def newV (s : AS) (e : TypeId) (cs : List AV) : AN := newA s (.cells .own e cs) 1 .no fun i s => .val (.ptr i 0) s
/-! ### Interfaces -/
noncomputable def ifaceA (t : TypeId) : Cl (AV → AN) := match P.underlying t with
  | some (.interface _) => ⟨fun _ => .no⟩
  | some _ => ⟨fun x => .get (.iface t x)⟩
  | none => ⟨fun _ => .no⟩
noncomputable def assertA (a : TypeId) (two : Bool) : Cl (AV → AN) := match P.underlying a with
  | some (.interface _) => ⟨fun _ => .no⟩
  | some _ => ⟨fun x => vIf x .no .no fun t v => cB (Nat.beq t a) (.get (cB two (.tuple [v, .bool true]) v)) (cB two (cO (zeroA P a) .no fun z => .get (.tuple [z, .bool false])) .no)⟩
  | none => ⟨fun _ => .no⟩
/-- A method's function, and whether it is handed the pointer itself. -/
noncomputable def methA (name : String) (t : TypeId) : Option (FuncId × Bool) := match P.info? t with
  | some i => match i.methods.find? (·.name == name) with
    | some m => match m.path.isEmpty with
      | true => m.func
      | false => none
    | none => none
  | none => none
noncomputable def ptrE (t : TypeId) : Option TypeId := match P.underlying t with
  | some (.pointer e) => some e
  | _ => none
noncomputable def invokeA (name : String) (r : AV) (args : List AV) (s : AS) : AN := vIf r .no .no fun t v => cO (methA P name t) .no fun x => cO (ptrE P t) .no fun e =>
  cB x.2 (.enter x.1 (v :: args)) (vPtr v .no fun _ _ => cO ((loadA P e).f v s) .no fun u => .enter x.1 (u :: args))
/-! ### A copy of a map -/
noncomputable def cloneF (g : FuncId) : Bool := match P.funcs[g]? with
  | some fn => fn.body.isNone && (fn.name == "maps.clone" && fn.origin == "")
  | none => false
noncomputable def cloneL (es : List Ent) : AS → (List Ent → AS → AN) → AN := itL (fun s k => k [] s) (fun x _ ih s k => newA s .dead 1 .no fun i s1 => ih s1 fun r s2 => k (⟨x.key, x.val, i⟩ :: r) s2) es
noncomputable def cloneA (args : List AV) (s : AS) : AN := cL args .no fun a r => cL r (vIf a .no .no fun t v => vMap v .no .no fun b => oMap (getA s b) .no fun es clk =>
  newA s (.map [] clk) 1 .no fun j s1 => cloneL es s1 fun es' s2 => .val (.iface t (.map j)) (putA s2 j (.map es' clk))) fun _ _ => .no
variable (cf : Cf) (vm : Vm) (fn : FuncId)
noncomputable def kCall (c : Call) : KO := match okXs P.globals.size c.args.toList with
  | false => bad
  | true => match c.callee with
    | .builtin b => match b, c.argTypes.toList, c.args.toList with
      | .len, ty :: _, [x] => ⟨fun fr s => (lenA P ty).f ((cX1 vm x).f fr) s⟩
      | .cap, ty :: _, [x] => ⟨fun fr _ => (capA P ty).f ((cX1 vm x).f fr)⟩
      | .min, _, x :: l => ⟨fun fr _ => vInt ((cX1 vm x).f fr) .no fun _ _ => minA ((cXs vm l).f fr) ((cX1 vm x).f fr)⟩
      | .max, _, x :: l => ⟨fun fr _ => vInt ((cX1 vm x).f fr) .no fun _ _ => maxA ((cXs vm l).f fr) ((cX1 vm x).f fr)⟩
      | .append, sT :: yT :: _, [x, y] => ⟨fun fr s => (appendA P (cf.rs fn) sT yT).f ((cX1 vm x).f fr) ((cX1 vm y).f fr) s⟩
      | .copy, dT :: yT :: _, [x, y] => ⟨fun fr s => (copyA P dT yT).f ((cX1 vm x).f fr) ((cX1 vm y).f fr) s⟩
      | .clear, ty :: _, [x] => ⟨fun fr s => (clearA P ty).f ((cX1 vm x).f fr) s⟩
      | .delete, mT :: _, [m, k] => ⟨fun fr s => (deleteA P mT).f ((cX1 vm m).f fr) ((cX1 vm k).f fr) s⟩
      | _, _, _ => bad
    | .value f => match f, okX P.globals.size f with
      | .func g, _ => match cloneF P g with
        | true => ⟨fun fr s => cloneA ((cXs vm c.args.toList).f fr) s⟩
        | false => ⟨fun fr _ => .enter g ((cXs vm c.args.toList).f fr)⟩
      | f, true => ⟨fun fr _ => vFn ((cX1 vm f).f fr) .no (fun g first cap => .enter g (app first (app ((cXs vm c.args.toList).f fr) cap))) fun l => .round l ((cXs vm c.args.toList).f fr)⟩
      | _, false => bad
    | .invoke r name => match okX P.globals.size r with
      | true => ⟨fun fr s => invokeA P name ((cX1 vm r).f fr) ((cXs vm c.args.toList).f fr) s⟩
      | false => bad
/-- An operation, reckoned once. -/
noncomputable def kOp (o : Oper) : KO :=
  match o.op with
  | .move x => match okX P.globals.size x with
    | true => ⟨fun fr _ => .get ((cX1 vm x).f fr)⟩
    | false => bad
  | .assign x => match okX P.globals.size x with
    | true => ⟨fun fr _ => .get ((cX1 vm x).f fr)⟩
    | false => bad
  | .pick c a b => match okXs P.globals.size [c, a, b] with
    | true => ⟨fun fr _ => vBool ((cX1 vm c).f fr) .no fun t => cB t (.get ((cX1 vm a).f fr)) (.get ((cX1 vm b).f fr))⟩
    | false => bad
  | .alloc e => match zeroA P e with
    | some z => ⟨fun _ s => newV s e (cellsA z)⟩
    | none => bad
  | .box e x => match okX P.globals.size x with
    | true => ⟨fun fr s => newV s e (cellsA ((cX1 vm x).f fr))⟩
    | false => bad
  | .build ty ps => match okXs P.globals.size (ps.toList.map (·.2)) with
    | true => ⟨fun fr _ => (buildA P ty).f ((cXI vm ps.toList).f fr)⟩
    | false => bad
  | .buildSlice ty n ps => match okXs P.globals.size (ps.toList.map (·.2)) with
    | true => ⟨fun fr s => (buildSliceA P ty n).f ((cXI vm ps.toList).f fr) s⟩
    | false => bad
  | .load ty a => match okX P.globals.size a with
    | true => ⟨fun fr s => ofO ((loadA P ty).f ((cX1 vm a).f fr) s)⟩
    | false => bad
  | .store ty a x => match okXs P.globals.size [a, x] with
    | true => ⟨fun fr s => (storeA P ty).f ((cX1 vm a).f fr) ((cX1 vm x).f fr) s⟩
    | false => bad
  | .nilCheck x => match okX P.globals.size x with
    | true => ⟨fun fr _ => nilCheckA ((cX1 vm x).f fr)⟩
    | false => bad
  | .binOp op ty x y _ => match okXs P.globals.size [x, y] with
    | true => ⟨fun fr s => (binA P (isC x || isC y) op ty).f ((cX1 vm x).f fr) ((cX1 vm y).f fr) s⟩
    | false => bad
  | .unOp op _ x => match okX P.globals.size x with
    | true => ⟨fun fr _ => (unA op).f ((cX1 vm x).f fr)⟩
    | false => bad
  | .convert src dst x => match okX P.globals.size x with
    | true => ⟨fun fr s => (convA P src dst).f ((cX1 vm x).f fr) s⟩
    | false => bad
  | .makeInterface t x => match okX P.globals.size x with
    | true => ⟨fun fr _ => (ifaceA P t).f ((cX1 vm x).f fr)⟩
    | false => bad
  | .typeAssert x _ a two => match okX P.globals.size x with
    | true => ⟨fun fr _ => (assertA P a two).f ((cX1 vm x).f fr)⟩
    | false => bad
  | .makeFunc f a b => match f, okXs P.globals.size a.toList && okXs P.globals.size b.toList with
    | .func g, true => ⟨fun fr _ => .get (.func g ((cXs vm a.toList).f fr) ((cXs vm b.toList).f fr))⟩
    | _, _ => bad
  | .makeMap _ r => match r with
    | none => ⟨fun _ s => newA s (.map [] 0) 1 .no fun i s => .val (.map i) s⟩
    | some _ => bad
  | .makeSlice ty l c => match okXs P.globals.size [l, c], bigC l with
    | true, false => ⟨fun fr s => (makeSliceA P ty).f ((cX1 vm l).f fr) ((cX1 vm c).f fr) s⟩
    | true, true => ⟨fun fr s => (makeFillA P ty).f ((cX1 vm l).f fr) ((cX1 vm c).f fr) s⟩
    | _, _ => bad
  | .slice ty x lo hi mx => match okX P.globals.size x && okO P.globals.size lo && okO P.globals.size hi && okO P.globals.size mx with
    | true => ⟨fun fr s => (sliceA P ty).f ((cX1 vm x).f fr) ((cXO vm lo).f fr) ((cXO vm hi).f fr) ((cXO vm mx).f fr) s⟩
    | false => bad
  | .fieldAddr st x f => match okX P.globals.size x with
    | true => ⟨fun fr _ => (fieldAddrA P st f).f ((cX1 vm x).f fr)⟩
    | false => bad
  | .field st x f => match okX P.globals.size x with
    | true => ⟨fun fr _ => (fieldA P st f).f ((cX1 vm x).f fr)⟩
    | false => bad
  | .indexAddr ty x i => match okXs P.globals.size [x, i] with
    | true => ⟨fun fr _ => (indexAddrA P ty).f ((cX1 vm x).f fr) ((cX1 vm i).f fr)⟩
    | false => bad
  | .index ty x i => match okXs P.globals.size [x, i] with
    | true => ⟨fun fr _ => (indexA P ty).f ((cX1 vm x).f fr) ((cX1 vm i).f fr)⟩
    | false => bad
  | .lookup ty x i ok => match okXs P.globals.size [x, i] with
    | true => ⟨fun fr s => (lookupA P ty ok).f ((cX1 vm x).f fr) ((cX1 vm i).f fr) s⟩
    | false => bad
  | .mapUpdate ty m k v => match okXs P.globals.size [m, k, v] with
    | true => ⟨fun fr s => (mapPutA P ty).f ((cX1 vm m).f fr) ((cX1 vm k).f fr) ((cX1 vm v).f fr) s⟩
    | false => bad
  | .mapEntry ty m k => match okXs P.globals.size [m, k] with
    | true => ⟨fun fr s => (mapEntryA P ty).f ((cX1 vm m).f fr) ((cX1 vm k).f fr) s⟩
    | false => bad
  | .entryStore _ m i v => match okXs P.globals.size [m, i, v] with
    | true => ⟨fun fr s => entryStoreA ((cX1 vm m).f fr) ((cX1 vm i).f fr) ((cX1 vm v).f fr) s⟩
    | false => bad
  | .insert ty m k v => match okXs P.globals.size [m, k, v] with
    | true => ⟨fun fr s => (mapPutA P ty).f ((cX1 vm m).f fr) ((cX1 vm k).f fr) ((cX1 vm v).f fr) s⟩
    | false => bad
  | .range ty x => match okX P.globals.size x with
    | true => ⟨fun fr s => (rangeA P cf fn ty).f ((cX1 vm x).f fr) s⟩
    | false => bad
  | .next it isS => match okX P.globals.size it with
    | true => ⟨fun fr s => (nextA isS).f ((cX1 vm it).f fr) s⟩
    | false => bad
  | .entry it => match okX P.globals.size it with
    | true => ⟨fun fr s => entryA ((cX1 vm it).f fr) s⟩
    | false => bad
  | .extract x i => match okX P.globals.size x with
    | true => ⟨fun fr _ => vTup ((cX1 vm x).f fr) .no fun l => ofO (nth i l)⟩
    | false => bad
  | .call c => kCall P cf vm fn c
  | _ => bad
end
end Go.Proofs.YtfmaapbibmnfgaaGreatDoor.Ev
namespace Go.Proofs.YtfmaapbibmnfgaaGreatDoor.Ev
abbrev Ev := Task → AS → R (Out × AS)

/-! ### Sameness of values and memory -/
mutual
noncomputable def beqV : AV → AV → Bool
  | .bool a, .bool b => a == b
  | .int k a, .int j b => kEq k j && ieq a b
  | .str a, .str b => natsEq a b
  | .rstr n c, .rstr m d => Nat.beq n m && Nat.beq c d
  | .ifo a, .ifo b => Nat.beq a.n b.n
  | .ptr a o, .ptr b p => Nat.beq a.n b.n && Nat.beq o p
  | .nilp, .nilp => true
  | .slice a o n c, .slice b p m d => Nat.beq a.n b.n && Nat.beq o p && Nat.beq n m && Nat.beq c d
  | .row a o n c, .row b p m d => Nat.beq a.n b.n && Nat.beq o p && Nat.beq n m && Nat.beq c d
  | .tail a o n c, .tail b p m d => Nat.beq a.n b.n && Nat.beq o p && Nat.beq n m && Nat.beq c d
  | .nils, .nils => true
  | .map a, .map b => Nat.beq a.n b.n
  | .nilm, .nilm => true
  | .func f a b, .func g c d => Nat.beq f g && beqVs a c && beqVs b d
  | .yld a, .yld b => Nat.beq a.n b.n
  | .nilf, .nilf => true
  | .iface a x, .iface b y => Nat.beq a b && beqV x y
  | .nili, .nili => true
  | .agg a, .agg b => beqVs a b
  | .tuple a, .tuple b => beqVs a b
  | .stamp a, .stamp b => Nat.beq a.n b.n
  | _, _ => false
noncomputable def beqVs : List AV → List AV → Bool
  | [], [] => true
  | a :: x, b :: y => beqV a b && beqVs x y
  | _, _ => false
end
mutual
/-- The names that a value leans on. -/
noncomputable def idsV : AV → List Nam → List Nam
  | .ptr b _, acc => b :: acc
  | .slice b _ _ _, acc => b :: acc
  | .row b _ _ _, acc => b :: acc
  | .tail b _ _ _, acc => b :: acc
  | .map b, acc => b :: acc
  | .func _ a b, acc => idsVs a (idsVs b acc)
  | .yld l, acc => l :: acc
  | .ifo i, acc => i :: acc
  | .iface _ v, acc => idsV v acc
  | .agg l, acc => idsVs l acc
  | .tuple l, acc => idsVs l acc
  | .stamp i, acc => i :: acc
  | _, acc => acc
noncomputable def idsVs : List AV → List Nam → List Nam
  | [], acc => acc
  | v :: l, acc => idsV v (idsVs l acc)
end

/-! ### Regions -/
noncomputable def lateOp (o : Oper) : Bool := o.guard.isNone && match o.op with
  | .alloc _ | .box .. | .buildSlice .. | .makeMap _ none => true
  | .makeSlice _ l _ => !bigC l
  | _ => false
noncomputable def lateAt (ops : Array Oper) (i : Nat) : Bool := match ops[i]? with
  | some o => lateOp o
  | none => false
/-- D: gone through; L: and those that may have come up. -/
noncomputable def okPlan (ops : Array Oper) : Plan → Array Bool → Array Bool → Bool
  | .done, D, L => decide (D = L) && decide (Region.ready .any ops L = [])
  | .flt i p, D, L => (Region.ready .any ops L).contains i && (Region.ready .any ops D).contains i && Region.free .any ops D i && okPlan ops p (D.setIfInBounds i true) (L.setIfInBounds i true)
  | .prep i p, D, L => (Region.ready .any ops L).contains i && (Region.ready .any ops D).contains i && Region.free .any ops D i && lateAt ops i && okPlan ops p D (L.setIfInBounds i true)
  | .bind i p, D, L => lateAt ops i && !D.getD i true && L.getD i false && decide (Region.ready .any ops (L.setIfInBounds i false) = [i]) && okPlan ops p (D.setIfInBounds i true) L
  | .eff i p, D, L => decide (Region.ready .any ops L = [i]) && (Region.ready .any ops D).contains i && okPlan ops p (D.setIfInBounds i true) (L.setIfInBounds i true)
section
variable (P : Program)
noncomputable def quietOp (o : Oper) : Bool := match o.op with
  | .move _ | .assign _ | .pick .. | .build .. | .nilCheck _ | .binOp .. | .unOp .. | .makeInterface .. | .makeFunc .. | .slice .. | .fieldAddr .. | .field .. | .indexAddr .. | .index .. | .extract .. | .typeAssert .. | .load .. | .lookup .. => true
  | .convert _ d _ => match P.underlying d with
    | some (.slice _) => false
    | _ => true
  | .call c => match c.callee with
    | .builtin .len | .builtin .cap | .builtin .min | .builtin .max => true
    | _ => false
  | _ => false
/-- Does an operation only reckon, whatever lies in memory? -/
noncomputable def pureOp (o : Oper) : Bool := match o.op with
  | .move _ | .assign _ | .pick .. | .build .. | .nilCheck _ | .unOp .. | .makeInterface .. | .makeFunc ..  | .fieldAddr .. | .field .. | .indexAddr .. | .index .. | .extract .. | .typeAssert .. => true
  | .binOp _ t _ _ _ => match P.underlying t with
    | some (.pointer _) => false
    | some _ => true
    | none => false
  | .convert s d _ => match P.underlying s, P.underlying d with
    | some (.slice _), _ => false
    | some _, some (.slice _) => false
    | some _, some _ => true
    | _, _ => false
  | _ => false
/-! A region by masks: what an operation waits for; its slot; the slots it looks at. -/
structure Mk where
  i : Nat
  dep : Nat
  wr : Nat
  rd : Nat
noncomputable def bitA (X i : Nat) : Bool := Nat.beq (Nat.land (Nat.shiftRight X i) 1) 1
noncomputable def onB (i : Nat) : Nat := Nat.shiftLeft 1 i
noncomputable def setB (X i : Nat) : Nat := Nat.lor X (onB i)
noncomputable def depL (l : List Edge) : Nat := itL 0 (fun e _ r => cB (Region.binds .any e) (Nat.lor r (onB e.on)) r) l
noncomputable def rdL (l : List Tmp) : Nat := itL 0 (fun d _ r => Nat.lor r (onB d)) l
noncomputable def mkOf (ops : Array Oper) (i : Nat) (o : Oper) : Mk := ⟨i, depL o.after.toList, cO o.dst 0 onB, rdL (o.looksAt ops)⟩
noncomputable def mks (ops : Array Oper) : List Oper → Nat → List Mk
  | [], _ => []
  | o :: l, i => mkOf ops i o :: mks ops l (i + 1)
noncomputable def apartM (x y : Mk) : Bool := bAnd (Nat.beq (Nat.land x.wr (Nat.lor y.rd y.wr)) 0) (Nat.beq (Nat.land y.wr x.rd) 0)
noncomputable def pairsM (ms : List Mk) : Bool := itL true (fun m l r => cB (itL true (fun k _ q => cB (bOr (apartM m k) (bOr (bitA k.dep m.i) (bitA m.dep k.i))) q false) l) r false) ms
noncomputable def rdyM (m : Mk) (X : Nat) : Bool := bAnd (bNot (bitA X m.i)) (Nat.beq (Nat.land m.dep X) m.dep)
noncomputable def rdyI (ms : List Mk) (i X : Nat) : Bool := itL false (fun m _ r => cB (Nat.beq m.i i) (rdyM m X) r) ms
noncomputable def onlyM (ms : List Mk) (i X : Nat) : Bool := itL true (fun m _ r => cB (bEq (Nat.beq m.i i) (rdyM m X)) r false) ms
noncomputable def noneM (ms : List Mk) (X : Nat) : Bool := itL true (fun m _ r => cB (rdyM m X) false r) ms
noncomputable def okPlanM (ops : Array Oper) (ms : List Mk) (p : Plan) : Nat → Nat → Bool := itP (fun D L => bAnd (Nat.beq D L) (noneM ms L))
  (fun i ih D L => cB (rdyI ms i L) (cB (rdyI ms i D) (ih (setB D i) (setB L i)) false) false)
  (fun i ih D L => cB (rdyI ms i L) (cB (rdyI ms i D) (cB (lateAt ops i) (ih D (setB L i)) false) false) false)
  (fun i ih D L => cB (lateAt ops i) (cB (bAnd (bNot (bitA D i)) (bitA L i)) (cB (bAnd (Nat.blt i ops.size) (onlyM ms i (Nat.xor L (onB i)))) (ih (setB D i) L) false) false) false)
  (fun i ih D L => cB (rdyI ms i L) (cB (rdyI ms i D) (cB (onlyM ms i L) (ih (setB D i) (setB L i)) false) false) false) p
noncomputable def okPlanF (ops : Array Oper) (ms : List Mk) (p : Plan) : Bool := cB (pairsM ms) (okPlanM ops ms p 0 0) false
/-- A row of a region: may it float; may it come late? -/
structure Rw where
  m : Mk
  q : Bool
  l : Bool
noncomputable def rows (l : List Oper) : List Mk → List Rw := itL (fun _ => []) (fun o _ ih ms => cL ms [] fun m t => ⟨m, quietOp P o, lateOp o⟩ :: ih t) l
abbrev FinP := List Rw → Nat → Nat → Plan
noncomputable def passP (l : List Rw) : List Rw → Nat → Nat → Bool → (List Rw → Nat → Nat → Bool → Plan) → Plan :=
  itL (fun acc D L pr k => k (itL (fun b => b) (fun a _ ih b => ih (a :: b)) acc []) D L pr)
    (fun r _ ih acc D L pr k => cB (bAnd r.q (bAnd (rdyM r.m L) (rdyM r.m D))) (.flt r.m.i (ih acc (setB D r.m.i) (setB L r.m.i) true k)) (ih (r :: acc) D L pr k)) l
noncomputable def lessP (i : Nat) (l : List Rw) : List Rw := itL [] (fun r t q => cB (Nat.beq r.m.i i) t (r :: q)) l
noncomputable def bindP (ms : List Mk) (go : FinP) (rest : List Rw) (D L : Nat) : Plan :=
  itL .done (fun r _ q => cB (bAnd (bitA L r.m.i) (onlyM ms r.m.i (Nat.xor L (onB r.m.i)))) (.bind r.m.i (go (lessP r.m.i rest) (setB D r.m.i) L)) q) rest
noncomputable def stepP (ms : List Mk) (go : FinP) (rest : List Rw) (D L : Nat) : Plan :=
  cL (itL [] (fun r _ q => cB (rdyM r.m L) (r :: q) q) rest) (bindP ms go rest D L) fun r t => cL t
    (cB (rdyM r.m D) (.eff r.m.i (go (lessP r.m.i rest) (setB D r.m.i) (setB L r.m.i))) (bindP ms go rest D L))
    fun _ _ => itL (bindP ms go rest D L) (fun r _ q => cB (bAnd r.l (rdyM r.m D)) (.prep r.m.i (go rest D (setB L r.m.i))) q) (r :: t)
noncomputable def planG (ms : List Mk) (rest : List Rw) : Plan :=
  iterF (fun _ => fun _ _ => Plan.done) (fun go rest D L => passP rest [] D L false fun rest D L pr => cL rest .done fun _ _ => cB pr (go rest D L) (stepP ms go rest D L)) 10000 rest 0 0
noncomputable def noneListed (ops : Array Oper) : Array Bool := Array.replicate ops.size false
variable (cf : Cf) (vm : Vm) (fn : FuncId) (n : Nat)
noncomputable def oneN (ev : Ev) (s : AS) (x : AN) : R (AV × AS) := cAN x .no (fun v => .one (v, s)) (fun v s' => .one (v, s')) (fun f args => bindR (ev (.call f args) s) fun y => cOut y.1 (fun v => .one (v, y.2)) fun _ _ => .no)
  (fun l args => bindR (ev (.round l args) s) fun y => cOut y.1 (fun v => .one (v, y.2)) fun _ _ => .no) fun l => .many l
abbrev KG := Cl (FrA → Bool)
/-- Is an operation wanted? -/
noncomputable def kWant (ops : Array Oper) (o : Oper) : Option KG := match o.guard with
  | none => none
  | some (j, want) => match ops[j]? with
    | some p => match p.dst with
      | some d => match Nat.blt d 256 with
        | true => some ⟨fun fr => vBool ((tgF vm d).f fr.t) false fun b => bEq b want⟩
        | false => some ⟨fun _ => false⟩
      | none => some ⟨fun _ => false⟩
    | none => some ⟨fun _ => false⟩
noncomputable def okG (ops : Array Oper) (o : Oper) : Bool := match o.guard with
  | none => true
  | some (j, _) => match ops[j]? with
    | some p => match p.dst with
      | some d => Nat.blt d 256 || Nat.ble n d
      | none => true
    | none => true
abbrev KE := Cl (Ev → FrA → AS → R (AV × AS))
noncomputable def kOne (ops : Array Oper) (o : Oper) : KE := match kWant vm ops o with
  | none => ⟨fun ev fr s => oneN ev s ((kOp P cf vm fn o).f fr s)⟩
  | some g => ⟨fun ev fr s => cB (g.f fr) (oneN ev s ((kOp P cf vm fn o).f fr s)) (.one (.tuple [], s))⟩
abbrev KS := Cl (Ev → FrA → AS → R (FrA × AS))
noncomputable def okOp (ops : Array Oper) (o : Oper) : Bool := okD n o.dst && okG n ops o
noncomputable def kOps (ops : Array Oper) : List Oper → KS
  | [] => ⟨fun _ fr s => .one (fr, s)⟩
  | o :: l => match okOp n ops o with
    | true => ⟨fun ev fr s => bindR ((kOne P cf vm fn ops o).f ev fr s) fun x => (kOps ops l).f ev ((cD vm n o.dst).f fr x.1) x.2⟩
    | false => ⟨fun _ _ _ => .no⟩
noncomputable def waits (o : Oper) (i : Nat) : Bool := o.after.any fun e => Region.binds .any e && e.on == i
/-- What is held: what it was read by, and its value. -/
structure Hd where
  i : Nat
  k : Cl (FrA → AS → AN)
  fr : FrA
  v : AV
/-- An operation's own reading, for what is held of it. -/
noncomputable def kSee (ops : Array Oper) (o : Oper) : KO := match kWant vm ops o with
  | none => kOp P cf vm fn o
  | some g => ⟨fun fr s => cB (g.f fr) ((kOp P cf vm fn o).f fr s) (.get (.tuple []))⟩
noncomputable def heldA (s : AS) (l : List Hd) : Bool := itL true (fun h _ r => cAN (h.k.f h.fr s) false (fun u => cB (beqV u h.v) r false) (fun _ _ => false) (fun _ _ => false) (fun _ _ => false) fun _ => false) l
/-- Those held that an operation does not wait for. -/
noncomputable def keepH (w : List Nat) (l : List Hd) : List Hd := itL [] (fun h _ r => cB (itL false (fun i _ r => cB (Nat.beq i h.i) true r) w) r (h :: r)) l
noncomputable def waitsOn (ops : Array Oper) (o : Oper) : List Nat := (List.range ops.size).filter (waits o)
abbrev KH := Cl (Ev → List Hd → FrA → AS → R (FrA × AS))
noncomputable def kPlan (ops : Array Oper) : Plan → KH
  | .done => ⟨fun _ _ fr s => .one (fr, s)⟩
  | .flt i p => match ops[i]? with
    | none => ⟨fun _ _ _ _ => .no⟩
    | some o => match okOp n ops o, pureOp P o with
      | true, true => ⟨fun ev hs fr s => cAN ((kSee P cf vm fn ops o).f fr s) .no (fun v => (kPlan ops p).f ev hs ((cD vm n o.dst).f fr v) s) (fun _ _ => .no) (fun _ _ => .no) (fun _ _ => .no) fun _ => .no⟩
      | true, false => ⟨fun ev hs fr s => cAN ((kSee P cf vm fn ops o).f fr s) .no (fun v => (kPlan ops p).f ev (⟨i, kSee P cf vm fn ops o, fr, v⟩ :: hs) ((cD vm n o.dst).f fr v) s) (fun _ _ => .no) (fun _ _ => .no) (fun _ _ => .no) fun _ => .no⟩
      | _, _ => ⟨fun _ _ _ _ => .no⟩
  | .prep i p => match ops[i]? with
    | none => ⟨fun _ _ _ _ => .no⟩
    | some o => match okOp n ops o with
      | true => ⟨fun ev hs fr s => cAN ((kOp P cf vm fn o).f fr s) .no (fun _ => .no) (fun _ _ => (kPlan ops p).f ev hs fr s) (fun _ _ => .no) (fun _ _ => .no) fun _ => .no⟩
      | false => ⟨fun _ _ _ _ => .no⟩
  | .bind i p => match ops[i]? with
    | none => ⟨fun _ _ _ _ => .no⟩
    | some o => match okOp n ops o with
      | true => ⟨fun ev hs fr s => bindR (oneN ev s ((kOp P cf vm fn o).f fr s)) fun x => cB (heldA x.2 hs) ((kPlan ops p).f ev hs ((cD vm n o.dst).f fr x.1) x.2) .no⟩
      | false => ⟨fun _ _ _ _ => .no⟩
  | .eff i p => match ops[i]? with
    | none => ⟨fun _ _ _ _ => .no⟩
    | some o => match okOp n ops o with
      | true => ⟨fun ev hs fr s => bindR ((kOne P cf vm fn ops o).f ev fr s) fun x => cB (heldA x.2 (keepH (waitsOn ops o) hs)) ((kPlan ops p).f ev (keepH (waitsOn ops o) hs) ((cD vm n o.dst).f fr x.1) x.2) .no⟩
      | false => ⟨fun _ _ _ _ => .no⟩
noncomputable def planD (ops : Array Oper) (ms : List Mk) : Plan := planG ms (rows P ops.toList ms)
noncomputable def noDS (ops : Array Oper) : Bool := ops.all fun o => match o.op with
  | .defer _ => false
  | .select .. => false
  | _ => true
noncomputable def kDrawM (ops : Array Oper) (ms : List Mk) : KS := match noDS ops && okPlanF ops ms (planD P ops ms) with
  | true => ⟨fun ev fr s => (kPlan P cf vm fn n ops (planD P ops ms)).f ev [] fr s⟩
  | false => ⟨fun _ _ _ => .no⟩
noncomputable def kDraw (ops : Array Oper) : KS := kDrawM P cf vm fn n ops (mks ops ops.toList 0)

/-! ### Calls' ends -/
noncomputable def idsE (l : List Ent) (acc : List Nam) : List Nam := itL acc (fun x _ r => x.id :: idsV x.key (idsV x.val r)) l
noncomputable def idsM (m : Option Nam) (acc : List Nam) : List Nam := cO m acc fun i => i :: acc
noncomputable def idsO (o : AO) (acc : List Nam) : List Nam := oCells o (oMap o (oIter o acc fun m _ seen _ _ => idsM m (app seen acc)) fun es _ => idsE es acc) fun _ _ cs => idsVs cs acc
noncomputable def isFree (o : AO) : Bool := oFree o false true
/-- Which of those made since are reached (a guess: what comes of it is looked through again). -/
noncomputable def reach (h : H6) : List Nam → H6 → H6 :=
  iterF (fun _ k => k) (fun go l k => cL l k fun i r => cB (bOr (isFree (hget h i.p)) (bNot (isFree (hget k i.p)))) (go r k) (go (idsO (hget h i.p) r) (hput k i.p .dead))) 100000
noncomputable def setL (h : H6) (l : List (Nam × AO)) : H6 := itL h (fun x _ r => hput r x.1.p x.2) l
noncomputable def allIn (s : AS) (l : List Nam) : Bool := itL true (fun i _ r => cB (isFree (getA s i)) false (cB (Nat.beq i.n i.p.num) r false)) l
/-- May it be kept? -/
noncomputable def okKeep (o : AO) : Bool := oFree o (oLoop o true fun _ => false) false
noncomputable def closedL (s : AS) (l : List (Nam × AO)) : Bool := itL true (fun x _ r => cB (okKeep x.2) (cB (allIn s (idsO x.2 [])) r false) false) l
noncomputable def mostL (l : List (Nam × AO)) (m : Nat) : Nat := itL m (fun x _ r => maxM (Nat.add x.1.n 1) r) l
noncomputable def beqES (l : List Ent) : List Ent → Bool := itL (fun m => cL m true fun _ _ => false) (fun x _ ih m => cL m false fun y t => cB (beqV x.key y.key) (cB (beqV x.val y.val) (cB (Nat.beq x.id.n y.id.n) (ih t) false) false) false) l
noncomputable def beqNs (l : List Nam) : List Nam → Bool := itL (fun m => cL m true fun _ _ => false) (fun x _ ih m => cL m false fun y t => cB (Nat.beq x.n y.n) (ih t) false) l
noncomputable def beqM : Option Nam → Option Nam → Bool
  | none, none => true
  | some a, some b => Nat.beq a.n b.n
  | _, _ => false
noncomputable def beqMd : Md → Md → Bool
  | .own, .own => true
  | .row, .row => true
  | .lib, .lib => true
  | _, _ => false
noncomputable def beqO : AO → AO → Bool
  | .cells m t a, .cells n u b => beqMd m n && Nat.beq t u && beqVs a b
  | .map a v, .map b u => beqES a b && Nat.beq v u
  | .iter m v s a b, .iter n u r c d => beqM m n && Nat.beq v u && beqNs s r && Nat.beq a c && Nat.beq b d
  | .fill n c, .fill m d => Nat.beq n m && Nat.beq c d
  | .defr, .defr => true
  | .dead, .dead => true
  | _, _ => false
/-- What a call that merges leaves: its value, and what it keeps. -/
abbrev Left := AV × List (Nam × AO)
noncomputable def endC (s0 : AS) (v : AV) (d : List (Nam × AO)) : Option Left := cB (allIn ⟨setL s0.top d, s0.lay, [], 0⟩ (idsV v [])) (cB (closedL ⟨setL s0.top d, s0.lay, [], 0⟩ d) (some (v, d)) none) none
noncomputable def keepL (s0 : AS) (h k : H6) (l : List Nam) : List (Nam × AO) := itL [] (fun i _ r => cB (isFree (getA s0 i)) (cB (isFree (hget k i.p)) r ((i, hget h i.p) :: r)) ((i, hget h i.p) :: r)) l
noncomputable def rootsL (s0 : AS) (h : H6) (v : AV) (l : List Nam) : List Nam := idsV v (itL [] (fun i _ r => cB (isFree (getA s0 i)) r (idsO (hget h i.p) r)) l)
noncomputable def endA (s0 : AS) (x : AV × AS) : Option Left := endC s0 x.1 (keepL s0 x.2.top (reach x.2.top (rootsL s0 x.2.top x.1 x.2.log) E6) x.2.log)
noncomputable def namesL (h : H6) (l : List (Nam × AO)) (acc : List Nam) : List Nam := itL acc (fun x _ r => oFree (hget h x.1.p) r (x.1 :: r)) l
noncomputable def outS (s0 : AS) (d : List (Nam × AO)) : AS := ⟨setL s0.top d, s0.lay, cL s0.lay s0.log fun _ _ => namesL s0.top d s0.log, mostL d s0.next⟩
noncomputable def sameN (a b : AS) (l : List (Nam × AO)) : Bool := itL true (fun x _ r => cB (beqO (getA a x.1) (getA b x.1)) r false) l
noncomputable def sameD (s0 : AS) (y z : Left) : Bool := cB (beqV y.1 z.1) (cB (sameN (outS s0 y.2) (outS s0 z.2) y.2) (sameN (outS s0 y.2) (outS s0 z.2) z.2) false) false
noncomputable def hasD (s0 : AS) (y : Left) (l : List Left) : Bool := itL false (fun z _ r => cB (sameD s0 z y) true r) l
noncomputable def addsD (s0 : AS) (l : List (AV × AS)) : List Left → Option (List Left) :=
  itL (fun acc => some acc) (fun x _ ih acc => cO (endA s0 x) none fun y => cB (hasD s0 y acc) (ih acc) (ih (app acc [y]))) l
noncomputable def outD (s0 : AS) (x : Left) : Out × AS := (.val x.1, outS s0 x.2)
noncomputable def outsD (s0 : AS) (l : List Left) : R (Out × AS) := cL l (.many []) fun x r => cL r (.one (outD s0 x)) fun _ _ => .many (itL [] (fun y _ q => outD s0 y :: q) l)
noncomputable def undoA (ds : List Nam) : AS → Option AS := itL (fun s => some s) (fun d _ ih s => oDefr (getA s d) none (ih (putA s d .dead))) ds
noncomputable def okRes : List ResultVar → Bool
  | [] => true
  | .tmp i :: l => Nat.blt i 256 && okRes l
  | .cell a _ :: l => Nat.blt a 256 && okRes l
noncomputable def kRes : List ResultVar → Cl (FrA → AS → Option (List AV))
  | [] => ⟨fun _ _ => some []⟩
  | .tmp i :: l => ⟨fun fr s => cO ((kRes l).f fr s) none fun r => some ((tgF vm i).f fr.t :: r)⟩
  | .cell a ty :: l => ⟨fun fr s => cO ((loadA P ty).f ((tgF vm a).f fr.t) s) none fun v => cO ((kRes l).f fr s) none fun r => some (v :: r)⟩
noncomputable def oneA (l : List AV) : AV := cL l (.tuple []) fun v r => cL r v fun _ _ => .tuple l
noncomputable def finA (rs : List ResultVar) (e : Ex) (fr : FrA) (s : AS) : R (AV × AS) := cX e (cO (undoA fr.ds s) .no fun s' => cO ((kRes P vm rs).f fr s') .no fun l => .one (oneA l, s')) (fun _ => .no)
  (cO (undoA fr.ds s) .no fun s' => cO ((kRes P vm rs).f fr s') .no fun l => .one (oneA l, s'))
noncomputable def finsA (rs : List ResultVar) (x : R (Out × AS)) : R (AV × AS) := bindR x fun y => cOut y.1 (fun _ => .no) fun e fr => finA P vm rs e fr y.2

/-! ### Code -/
noncomputable def thenA (x : R (Out × AS)) (f : FrA → AS → R (Out × AS)) : R (Out × AS) := bindR x fun y => cOut y.1 (fun _ => .no) fun e fr => cX e (f fr y.2) (fun _ => .one y) (.one y)
/-- Arguments into a frame's first places. -/
noncomputable def kArgs : Nat → Nat → Cl (List AV → TF → Option TF)
  | 0, _ => ⟨fun l t => cL l (some t) fun _ _ => none⟩
  | m + 1, i => ⟨fun l t => cL l (some t) fun a r => (kArgs m (i + 1)).f r ((tsF vm i).f t a)⟩
noncomputable def kParams (n : Nat) : List Tmp → Cl (List AV → TF → Option TF)
  | [] => ⟨fun l t => cL l (some t) fun _ _ => none⟩
  | p :: ps => match Nat.blt p n && Nat.blt p 256 with
    | true => ⟨fun l t => cL l none fun a r => (kParams n ps).f r ((tsF vm p).f t a)⟩
    | false => ⟨fun _ _ => none⟩
noncomputable def busyA (x : LoopState) : Bool := cLs x false true false false
abbrev KC := Cl (Option Nam → Ev → FrA → AS → R (Out × AS))
noncomputable def endLoopA (ev : Ev) (rd : Option Nam) (l : Nam) (fr : FrA) (s3 : AS) : R (Out × AS) := oLoop (getA s3 l) .no fun r => cB (busyA r.state) .no
  (cO r.pending (.one (.ex .normal fr, putA s3 l (.loop ⟨.exhausted, r.pending, r.st⟩))) fun c => ev (.code c fn vm n rd fr) (putA s3 l (.loop ⟨.exhausted, r.pending, r.st⟩)))
noncomputable def rangeIn (ev : Ev) (params : Array Tmp) (assign body : Code) (rd : Option Nam) (g : FuncId) (first cap : List AV) (t : TF) (d : Nam) (ds : List Nam) (s1 : AS) : R (Out × AS) :=
  newA s1 (.loop ⟨.ready, none, ⟨fn, vm, n, params, assign, body, t, d⟩⟩) 1 .no fun l s2 => bindR (ev (.call g (app first (.yld l :: cap))) s2) fun y => cOut y.1 (fun _ => endLoopA vm fn n ev rd l ⟨t, ds⟩ y.2) fun _ _ => .no
noncomputable def kCode : Code → KC
  | .skip => ⟨fun _ _ fr s => .one (.ex .normal fr, s)⟩
  | .label _ => ⟨fun _ _ fr s => .one (.ex .normal fr, s)⟩
  | .exit i => ⟨fun _ _ fr s => .one (.ex (.exit i) fr, s)⟩
  | .ret => ⟨fun _ _ fr s => .one (.ex .ret fr, s)⟩
  | .seq a b => ⟨fun rd ev fr s => thenA ((kCode a).f rd ev fr s) fun fr s => (kCode b).f rd ev fr s⟩
  | .cond x a b => match okX P.globals.size x with
    | true => ⟨fun rd ev fr s => vBool ((cX1 vm x).f fr) .no fun t => cB t ((kCode a).f rd ev fr s) ((kCode b).f rd ev fr s)⟩
    | false => ⟨fun _ _ _ _ => .no⟩
  | .block i b => ⟨fun rd ev fr s => bindR ((kCode b).f rd ev fr s) fun y => cOut y.1 (fun _ => .no) fun e fr => cX e (.one y) (fun j => cB (Nat.beq i j) (.one (.ex .normal fr, y.2)) (.one y)) (.one y)⟩
  | .loop b => ⟨fun rd ev fr s => thenA ((kCode b).f rd ev fr s) fun fr s => ev (.code (.loop b) fn vm n rd fr) s⟩
  | .scope b => ⟨fun rd ev fr s => (kCode b).f rd ev fr s⟩
  | .region _ ops draw => match draw with
    | false => ⟨fun _ ev fr s => bindR ((kOps P cf vm fn n ops ops.toList).f ev fr s) fun x => .one (.ex .normal x.1, x.2)⟩
    | true => ⟨fun _ ev fr s => bindR ((kDraw P cf vm fn n ops).f ev fr s) fun x => .one (.ex .normal x.1, x.2)⟩
  | .rangeFunc x params assign body => match okX P.globals.size x with
    | true => ⟨fun rd ev fr s => vFn ((cX1 vm x).f fr) .no (fun g first cap => cO rd
        (newA s .defr 1 .no fun d s1 => rangeIn vm fn n ev params assign body rd g first cap fr.t d (d :: fr.ds) s1)
        fun l => oLoop (getA s l) .no fun r => rangeIn vm fn n ev params assign body rd g first cap fr.t r.st.defers fr.ds s) fun _ => .no⟩
    | false => ⟨fun _ _ _ _ => .no⟩
  | _ => ⟨fun _ _ _ _ => .no⟩
end
section
variable (P : Program) (cf : Cf)
noncomputable def valR (x : R (AV × AS)) : R (Out × AS) := bindR x fun y => .one (.val y.1, y.2)
noncomputable def listR {α : Type} (x : R α) : Option (List α) := cR x none (fun a => some [a]) some
abbrev KF := Cl (Ev → List AV → AS → R (Out × AS))
noncomputable def kFunB (f : FuncId) : KF := match P.funcs[f]? with
  | none => ⟨fun _ _ _ => .no⟩
  | some fn => match fn.body, fn.name == "runtime.NumGoroutine", okRes fn.results.toList, Nat.ble fn.ntmps 256 with
    | some c, false, true, true => match cf.fl f with
      | false => ⟨fun ev args s => cO ((kArgs (cf.vm f) fn.ntmps 0).f args UF) .no fun t => valR (finsA P (cf.vm f) fn.results.toList ((kCode P cf (cf.vm f) f fn.ntmps c).f none ev ⟨t, []⟩ s))⟩
      | true => ⟨fun ev args s => cO ((kArgs (cf.vm f) fn.ntmps 0).f args UF) .no fun t => cO (listR (finsA P (cf.vm f) fn.results.toList ((kCode P cf (cf.vm f) f fn.ntmps c).f none ev ⟨t, []⟩ ⟨E6, s.top :: s.lay, [], s.next⟩))) .no fun l =>
          cO (addsD s l []) .no fun d => outsD s d⟩
    | _, _, _, _ => ⟨fun _ _ _ => .no⟩
/-! ### Functions of the library, by their contracts; texts are cut at one byte -/
noncomputable def hasB (c : Nat) (l : List Nat) : Bool := itL false (fun a _ r => cB (Nat.beq a c) true r) l
noncomputable def idxB (c : Nat) (l : List Nat) : Option Nat := itL none (fun a _ r => cB (Nat.beq a c) (some 0) (cO r none fun n => some (Nat.add n 1))) l
/-- The parts between bytes c. -/
noncomputable def splB (c : Nat) (l : List Nat) : List (List Nat) := itL [[]] (fun a _ r => cB (Nat.beq a c) ([] :: r) (cL r [[a]] fun h t => (a :: h) :: t)) l
noncomputable def joinT (sep : List Nat) (l : List (List Nat)) : List Nat := itL [] (fun a t r => cL t a fun _ _ => app a (app sep r)) l
noncomputable def onlyT (l : List Nat) : Option Nat := cL l none fun c r => cL r (cB (Nat.blt c 128) (some c) none) fun _ _ => none
noncomputable def digT (c : Nat) : Option Nat := cB (bAnd (Nat.ble 48 c) (Nat.ble c 57)) (some (Nat.sub c 48)) none
noncomputable def digsT (l : List Nat) : Nat → Option Nat := itL (fun n => some n) (fun c _ ih n => cO (digT c) none fun d => ih (Nat.add (Nat.mul n 10) d)) l
/-- A text's number, of 1 to 18 digits. -/
noncomputable def numT' (l : List Nat) : Option Nat := cL l none fun _ _ => cB (Nat.ble (len l) 18) (digsT l 0) none
noncomputable def itoaN : Nat → Nat → List Nat → Option (List Nat) := fun fuel => Nat.rec (fun _ _ => none) (fun _ ih n acc => cB (Nat.blt n 10) (some (Nat.add 48 n :: acc)) (ih (Nat.div n 10) (Nat.add 48 (Nat.mod n 10) :: acc))) fuel
noncomputable def strsA (l : List AV) : Option (List (List Nat)) := itL (some []) (fun v _ r => vStr v none fun a => cO r none fun q => some (a :: q)) l
noncomputable def one1 (s : AS) (v : AV) : R (Out × AS) := .one (.val v, s)
noncomputable def oneAN (s : AS) (x : AN) : R (Out × AS) := cAN x .no (fun v => .one (.val v, s)) (fun v s' => .one (.val v, s')) (fun _ _ => .no) (fun _ _ => .no) fun _ => .no
noncomputable def errV (s : AS) (v : AV) : R (Out × AS) := newA s .dead 1 .no fun i s' => .one (.val (.tuple [v, .ifo i]), s')
noncomputable def arg1 (l : List AV) (k : AV → R (Out × AS)) : R (Out × AS) := cL l .no fun a r => cL r (k a) fun _ _ => .no
noncomputable def arg2 (l : List AV) (k : AV → AV → R (Out × AS)) : R (Out × AS) := cL l .no fun a r => arg1 r (k a)
noncomputable def arg3 (l : List AV) (k : AV → AV → AV → R (Out × AS)) : R (Out × AS) := cL l .no fun a r => arg2 r (k a)
noncomputable def sepT (v : AV) (k : Nat → R (Out × AS)) : R (Out × AS) := vStr v .no fun l => cO (onlyT l) .no k
noncomputable def libContains (l : List AV) (s : AS) : R (Out × AS) := arg2 l fun x y => sepT y fun c => vTx x .no (fun a => cB (small (len a)) (one1 s (.bool (hasB c a))) .no) fun n d => cB (Nat.beq c d) .no (cB (small n) (one1 s (.bool false)) .no)
noncomputable def libIndexByte (l : List AV) (s : AS) : R (Out × AS) := arg2 l fun x y => vStr x .no fun a => vInt y .no fun k n => cB (kEq k .u8) (cI n (fun c => cB (Nat.blt c 256) (cO (idxB c a) (one1 s (.int .i64 (.negSucc 0))) fun i => one1 s (.int .i64 (.ofNat i))) .no) fun _ => .no) .no
noncomputable def ofT (o : Option (List Nat)) : List Nat := cO o [] fun l => l
noncomputable def cutO (a : List Nat) (c : Nat) : AV := cO (idxB c a) (.tuple [.str a, .str [], .bool false]) fun i => .tuple [.str (ofT (tke i a)), .str (drp (Nat.add i 1) a), .bool true]
noncomputable def libCut (l : List AV) (s : AS) : R (Out × AS) := arg2 l fun x y => sepT y fun c => vTx x .no (fun a => cB (small (len a)) (one1 s (cutO a c)) .no) fun n d => cB (Nat.beq c d) .no (cB (small n) (one1 s (.tuple [.rstr n d, .str [], .bool false])) .no)
noncomputable def newRowS (tS : TypeId) (l : List AV) (s : AS) : R (Out × AS) := newA s (.cells .own tS l) 1 .no fun i s' => .one (.val (.slice i 0 (len l) (len l)), s')
noncomputable def strsV (l : List (List Nat)) : List AV := itL [] (fun a _ r => .str a :: r) l
noncomputable def libSplit (tS : TypeId) (l : List AV) (s : AS) : R (Out × AS) := arg2 l fun x y => sepT y fun c => vTx x .no (fun a => cB (small (len a)) (newRowS tS (strsV (splB c a)) s) .no) fun n d => cB (Nat.beq c d) .no (cB (small n) (newRowS tS [.rstr n d] s) .no)
noncomputable def libReplace (l : List AV) (s : AS) : R (Out × AS) := arg3 l fun x y z => sepT y fun c => vStr x .no fun a => vStr z .no fun b => cB (bAnd (small (Nat.add (len a) (Nat.mul (len a) (len b)))) (small (len b))) (one1 s (.str (joinT b (splB c a)))) .no
noncomputable def joinAt (sep : List Nat) (b : Nam) (o n : Nat) (s : AS) : R (Out × AS) := oCells (getA s b) .no fun _ _ cs => cO (tke n (drp o cs)) .no fun q => cO (strsA q) .no fun r => cB (bAnd (small n) (small (len (joinT sep r)))) (one1 s (.str (joinT sep r))) .no
noncomputable def libJoin (l : List AV) (s : AS) : R (Out × AS) := arg2 l fun x y => vStr y .no fun sep => vSl x .no .no (fun b o n _ => joinAt sep b o n s) fun b o n _ => joinAt sep b o n s
noncomputable def libItoa (l : List AV) (s : AS) : R (Out × AS) := arg1 l fun x => vInt x .no fun k n => cB (kEq k .i64) (cI n (fun m => cO (itoaN 18 m []) .no fun r => one1 s (.str r)) fun _ => .no) .no
noncomputable def libAtoi (l : List AV) (s : AS) : R (Out × AS) := arg1 l fun x => vStr x .no fun a => cL a (errV s (.int .i64 (.ofNat 0))) fun _ _ => cO (numT' a) .no fun n => one1 s (.tuple [.int .i64 (.ofNat n), .nili])
noncomputable def libParse8 (l : List AV) (s : AS) : R (Out × AS) := arg3 l fun x y z => vStr x .no fun a => vInt y .no fun j b => vInt z .no fun k n => cB (bAnd (bAnd (kEq j .i64) (kEq k .i64)) (bAnd (ieq b (.ofNat 10)) (ieq n (.ofNat 8)))) (cO (numT' a) .no fun n => cB (Nat.blt n 256) (one1 s (.tuple [.int .u64 (.ofNat n), .nili])) .no) .no
noncomputable def libR (tS : TypeId) (k : Nat) : KF := match k with
  | 1 => ⟨fun _ l s => libContains l s⟩
  | 2 => ⟨fun _ l s => libIndexByte l s⟩
  | 3 => ⟨fun _ l s => libCut l s⟩
  | 4 => ⟨fun _ l s => libSplit tS l s⟩
  | 5 => ⟨fun _ l s => libReplace l s⟩
  | 6 => ⟨fun _ l s => libJoin l s⟩
  | 7 => ⟨fun _ l s => libItoa l s⟩
  | 8 => ⟨fun _ l s => libAtoi l s⟩
  | 9 => ⟨fun _ l s => libParse8 l s⟩
  | 10 => ⟨fun _ l s => cL l (one1 s (.bool true)) fun _ _ => .no⟩
  | _ => ⟨fun _ _ _ => .no⟩
noncomputable def kFun (f : FuncId) : KF := match cf.lb f with
  | 0 => kFunB P cf f
  | k + 1 => libR cf.tS (k + 1)
noncomputable def roundEnd (l : Nam) (e : Ex) (s2 : AS) : R (Out × AS) := oLoop (getA s2 l) .no fun r => cX e
  (.one (.val (.bool true), putA s2 l (.loop ⟨.ready, none, r.st⟩)))
  (fun i => .one (.val (.bool false), putA s2 l (.loop ⟨.done, some (.exit i), r.st⟩)))
  (.one (.val (.bool false), putA s2 l (.loop ⟨.done, some .ret, r.st⟩)))
noncomputable def readyA (x : LoopState) : Bool := cLs x true false false false
noncomputable def roundBody (ev : Ev) (l : Nam) (f : FuncId) (vm : Vm) (n : Nat) (body : Code) (fr : FrA) (s1 : AS) : R (Out × AS) := oLoop (getA s1 l) .no fun r => cB (readyA r.state)
  (bindR ((kCode P cf vm f n body).f (some l) ev fr (putA s1 l (.loop ⟨.busy, r.pending, r.st⟩))) fun x => cOut x.1 (fun _ => .no) fun e _ => roundEnd l e x.2) .no
noncomputable def evRound (ev : Ev) (l : Nam) (args : List AV) (s : AS) : R (Out × AS) := oLoop (getA s l) .no fun r => cLSt r.st fun f vm n params assign body tmps _ => cO ((kParams vm n params.toList).f args tmps) .no fun t =>
  bindR ((kCode P cf vm f n assign).f (some l) ev ⟨t, []⟩ s) fun y => cOut y.1 (fun _ => .no) fun e fr => cX e (roundBody P cf ev l f vm n body fr y.2) (fun _ => .no) .no
noncomputable def evF (ev : Ev) (k : Task) (s : AS) : R (Out × AS) := cTask k (fun f args => (kFun P cf f).f ev args s) (fun c f vm n rd fr => (kCode P cf vm f n c).f rd ev fr s) fun l args => evRound P cf ev l args s
noncomputable def ev (n : Nat) : Ev := iterF (fun _ _ => .no) (fun go => evF P cf go) n
end
end Go.Proofs.YtfmaapbibmnfgaaGreatDoor.Ev
namespace Go.Proofs.YtfmaapbibmnfgaaGreatDoor.Ev
noncomputable def isTrueO (y : Out × AS) : Bool := cOut y.1 (fun v => vBool v false fun b => b) fun _ _ => false
/-- All outcomes are true. -/
noncomputable def allTrue (x : R (Out × AS)) : Bool := cR x false isTrueO fun l => itL true (fun y _ r => cB (isTrueO y) r false) l
noncomputable def clean : AS := ⟨E6, [], [], 0⟩
end Go.Proofs.YtfmaapbibmnfgaaGreatDoor.Ev
namespace Go.Proofs.YtfmaapbibmnfgaaGreatDoor.Ev

/-! ### The cases' laws -/
@[simp] theorem cB_true {α : Type} (x y : α) : cB true x y = x := rfl
@[simp] theorem cB_false {α : Type} (x y : α) : cB false x y = y := rfl
@[simp] theorem cO_none {α β : Type} (n : β) (f : α → β) : cO none n f = n := rfl
@[simp] theorem cO_some {α β : Type} (a : α) (n : β) (f : α → β) : cO (some a) n f = f a := rfl
@[simp] theorem cL_nil {α β : Type} (n : β) (f : α → List α → β) : cL [] n f = n := rfl
@[simp] theorem cL_cons {α β : Type} (a : α) (l : List α) (n : β) (f : α → List α → β) : cL (a :: l) n f = f a l := rfl
@[simp] theorem cR_no {α β : Type} (n : β) (f : α → β) (g : List α → β) : cR .no n f g = n := rfl
@[simp] theorem cR_one {α β : Type} (a : α) (n : β) (f : α → β) (g : List α → β) : cR (.one a) n f g = f a := rfl
@[simp] theorem cR_many {α β : Type} (l : List α) (n : β) (f : α → β) (g : List α → β) : cR (.many l) n f g = g l := rfl
@[simp] theorem itL_nil {α β : Type} (n : β) (f : α → List α → β → β) : itL n f [] = n := rfl
@[simp] theorem itL_cons {α β : Type} (n : β) (f : α → List α → β → β) (a : α) (l : List α) : itL n f (a :: l) = f a l (itL n f l) := rfl
@[simp] theorem iterF_zero {α β : Type} (z : α → β) (s : (α → β) → α → β) : iterF z s 0 = z := rfl
@[simp] theorem iterF_succ {α β : Type} (z : α → β) (s : (α → β) → α → β) (n : Nat) : iterF z s (n + 1) = s (iterF z s n) := rfl
theorem bAnd_iff {a b : Bool} : bAnd a b = true ↔ a = true ∧ b = true := by cases a <;> cases b <;> simp [bAnd]
theorem bOr_iff {a b : Bool} : bOr a b = true ↔ a = true ∨ b = true := by cases a <;> cases b <;> simp [bOr]
theorem bNot_eq (a : Bool) : bNot a = !a := by cases a <;> rfl
theorem bEq_eq (a b : Bool) : bEq a b = (a == b) := by cases a <;> cases b <;> rfl

/-! ### Lists -/
theorem nth_eq {α : Type} : ∀ (n : Nat) (l : List α), nth n l = l[n]?
  | 0, [] => rfl
  | 0, _ :: _ => rfl
  | _ + 1, [] => rfl
  | n + 1, _ :: l => nth_eq n l
theorem drp_eq {α : Type} : ∀ (n : Nat) (l : List α), drp n l = l.drop n
  | 0, _ => rfl
  | _ + 1, [] => rfl
  | n + 1, _ :: l => drp_eq n l
theorem tke_some {α : Type} : ∀ (n : Nat) (l r : List α), tke n l = some r → r = l.take n ∧ n ≤ l.length
  | 0, l, r, h => by cases h; simp
  | n + 1, [], r, h => by cases h
  | n + 1, a :: l, r, h => by
    have h' : cO (tke n l) none (fun r => some (a :: r)) = some r := h
    cases hk : tke n l with
    | none => rw [hk] at h'; cases h'
    | some q =>
      rw [hk] at h'
      cases h'
      obtain ⟨h1, h2⟩ := tke_some n l q hk
      exact ⟨by simp [h1], by simp; exact h2⟩
theorem put0_some {α : Type} : ∀ (new l r : List α), put0 new l = some r → r = new ++ l.drop new.length ∧ new.length ≤ l.length
  | [], l, r, h => by cases h; simp
  | a :: new, [], r, h => by cases h
  | a :: new, b :: l, r, h => by
    have h' : cO (put0 new l) none (fun r => some (a :: r)) = some r := h
    cases hk : put0 new l with
    | none => rw [hk] at h'; cases h'
    | some q =>
      rw [hk] at h'
      cases h'
      obtain ⟨h1, h2⟩ := put0_some new l q hk
      exact ⟨by simp [h1], by simp; exact h2⟩
theorem put_some {α : Type} (new : List α) : ∀ (o : Nat) (l r : List α), put new o l = some r → r = l.take o ++ (new ++ l.drop (o + new.length)) ∧ o + new.length ≤ l.length
  | 0, l, r, h => by
    obtain ⟨h1, h2⟩ := put0_some new l r h
    exact ⟨by simpa using h1, by omega⟩
  | o + 1, [], r, h => by cases h
  | o + 1, a :: l, r, h => by
    have h' : cO (put new o l) none (fun r => some (a :: r)) = some r := h
    cases hk : put new o l with
    | none => rw [hk] at h'; cases h'
    | some q =>
      rw [hk] at h'
      cases h'
      obtain ⟨h1, h2⟩ := put_some new o l q hk
      refine ⟨?_, by simp; omega⟩
      rw [h1, Nat.add_right_comm]
      simp
theorem app_eq {α : Type} : ∀ (l m : List α), app l m = l ++ m
  | [], _ => rfl
  | a :: l, m => congrArg (a :: ·) (app_eq l m)
theorem len_eq {α : Type} : ∀ (l : List α), len l = l.length
  | [] => rfl
  | _ :: l => congrArg (· + 1) (len_eq l)
theorem rep_length {α : Type} (z : List α) : ∀ n, (rep z n).length = n * z.length
  | 0 => by show ([] : List α).length = _; simp
  | n + 1 => by
    have : rep z (n + 1) = app z (rep z n) := rfl
    rw [this, app_eq, List.length_append, rep_length z n, Nat.succ_mul, Nat.add_comm]

/-! ### Outcomes -/
/-- What may come. -/
noncomputable def R.has {α : Type} (x : R α) (a : α) : Prop := match x with
  | .no => False
  | .one b => a = b
  | .many l => a ∈ l
noncomputable def R.ok {α : Type} (x : R α) : Prop := match x with
  | .no => False
  | _ => True
theorem joinR_ok {α : Type} {x y : R α} (h : (joinR x y).ok) : x.ok ∧ y.ok := by
  cases x <;> cases y <;> first | exact h.elim | exact ⟨trivial, trivial⟩
theorem joinR_has {α : Type} {x y : R α} {a : α} (h : (joinR x y).ok) (ha : x.has a ∨ y.has a) : (joinR x y).has a := by
  cases x <;> cases y <;> first | exact h.elim | skip
  all_goals simp [joinR, R.has, app_eq] at ha ⊢
  all_goals (first | exact ha | (rcases ha with ha | ha <;> simp [ha]))
theorem gather_ok {α β : Type} {f : α → R β} : ∀ {l : List α}, (gather f l).ok → ∀ a ∈ l, (f a).ok ∧ ∀ b, (f a).has b → (gather f l).has b
  | [], _, _, h => by cases h
  | c :: l, h, a, ha => by
    have h' : (joinR (f c) (gather f l)).ok := h
    obtain ⟨h1, h2⟩ := joinR_ok h'
    rcases List.mem_cons.1 ha with rfl | ha
    · exact ⟨h1, fun b hb => joinR_has h' (.inl hb)⟩
    · obtain ⟨h3, h4⟩ := gather_ok h2 a ha
      exact ⟨h3, fun b hb => joinR_has h' (.inr (h4 b hb))⟩
theorem bindR_ok {α β : Type} {x : R α} {f : α → R β} (h : (bindR x f).ok) : x.ok ∧ ∀ a, x.has a → (f a).ok ∧ ∀ b, (f a).has b → (bindR x f).has b := by
  cases x with
  | no => exact h.elim
  | one c => exact ⟨trivial, fun a ha => by cases ha; exact ⟨h, fun b hb => hb⟩⟩
  | many l => exact ⟨trivial, fun a ha => gather_ok h a ha⟩
end Go.Proofs.YtfmaapbibmnfgaaGreatDoor.Ev
