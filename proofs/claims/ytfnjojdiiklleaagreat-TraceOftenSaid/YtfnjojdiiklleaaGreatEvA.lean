/- A run of a program on abstract memory: values, memory, operations. -/
import GoSem.Step
import Derived.Orders
import Derived.Test.YtfnjojdiiklleaaGreatEvH
namespace Go.Proofs.YtfnjojdiiklleaaGreat.Ev

/-- What is chosen ahead: which functions merge their outcomes, which name by a map's entries, how far apart rows are named, which temporaries are looked at often. -/
structure Cf where
  fl : FuncId → Bool
  ar : FuncId → Nat
  rs : FuncId → Nat
  vm : FuncId → Vm

/-! ### Static: constants -/
mutual
noncomputable def ofV : Value → Option AV
  | .bool b => some (.bool b)
  | .int k n => some (.int k n)
  | .string s => some (.str (s.data.toList.map UInt8.toNat))
  | .pointer none => some .nilp
  | .slice none 0 0 => some .nils
  | .map none => some .nilm
  | .nilFunc => some .nilf
  | .nilIface => some .nili
  | .agg ⟨cs⟩ => match ofVs cs with
    | some l => some (.agg l)
    | none => none
  | .tuple ⟨cs⟩ => match ofVs cs with
    | some l => some (.tuple l)
    | none => none
  | _ => none
noncomputable def ofVs : List Value → Option (List AV)
  | [] => some []
  | v :: l => match ofV v with
    | none => none
    | some a => match ofVs l with
      | none => none
      | some r => some (a :: r)
end
noncomputable def numT : Nat := 256
noncomputable def okX (ng : Nat) : Operand → Bool
  | .tmp i => Nat.blt i 256
  | .const v => match ofV v with
    | some _ => true
    | none => false
  | .global g => Nat.blt g ng
  | .func _ => true
noncomputable def cX1 (vm : Vm) : Operand → Cl (FrA → AV)
  | .tmp i => ⟨fun fr => (tgF vm i).f fr.t⟩
  | .const v => match ofV v with
    | some a => ⟨fun _ => a⟩
    | none => ⟨fun _ => .nilp⟩
  | .global g => ⟨fun _ => .ptr (nam g) 0⟩
  | .func f => ⟨fun _ => .func f [] []⟩
noncomputable def okXs (ng : Nat) (l : List Operand) : Bool := l.all (okX ng)
noncomputable def cXs (vm : Vm) : List Operand → Cl (FrA → List AV)
  | [] => ⟨fun _ => []⟩
  | x :: l => ⟨fun fr => (cX1 vm x).f fr :: (cXs vm l).f fr⟩
noncomputable def cXI (vm : Vm) : List (Nat × Operand) → Cl (FrA → List (Nat × AV))
  | [] => ⟨fun _ => []⟩
  | (i, x) :: l => ⟨fun fr => (i, (cX1 vm x).f fr) :: (cXI vm l).f fr⟩
noncomputable def okO (ng : Nat) : Option Operand → Bool
  | none => true
  | some x => okX ng x
noncomputable def cXO (vm : Vm) : Option Operand → Cl (FrA → Option AV)
  | none => ⟨fun _ => none⟩
  | some x => ⟨fun fr => some ((cX1 vm x).f fr)⟩
/-- Where a result goes. -/
noncomputable def okD (n : Nat) : Option Tmp → Bool
  | none => true
  | some i => Nat.ble n i || Nat.blt i 256
noncomputable def cD (vm : Vm) (n : Nat) : Option Tmp → Cl (FrA → AV → FrA)
  | none => ⟨fun fr _ => fr⟩
  | some i => match Nat.blt i n with
    | true => ⟨fun fr v => ⟨(tsF vm i).f fr.t v, fr.ds⟩⟩
    | false => ⟨fun fr _ => fr⟩

/-! ### Memory -/
noncomputable def Pth.num (p : Pth) : Nat := Nat.add (Nat.mul (Nat.add (Nat.mul (Nat.add (Nat.mul p.p4.num 16) p.p3.num) 16) p.p2.num) 16) p.p1.num
noncomputable def layG (l : List H6) (i : Nam) : AO := itL .free (fun h _ r => oFree (hget h i.p) (hget h i.p) r) l
noncomputable def getA (s : AS) (i : Nam) : AO := oFree (hget s.top i.p) (hget s.top i.p) (layG s.lay i)
noncomputable def logA (s : AS) (i : Nam) : List Nam := cL s.lay s.log fun _ _ => oFree (hget s.top i.p) s.log (i :: s.log)
noncomputable def putA (s : AS) (i : Nam) (o : AO) : AS := ⟨hput s.top i.p o, s.lay, logA s i, s.next⟩
noncomputable def maxN : Nat := 65536
/-- A new name; the next one that many further. -/
noncomputable def newI {β : Type} (s : AS) (i : Nam) (o : AO) (by_ : Nat) (no : β) (k : Nam → AS → β) : β :=
  oFree (getA s i) no (k i ⟨hput s.top i.p o, s.lay, logA s i, Nat.add s.next by_⟩)
noncomputable def newA {β : Type} (s : AS) (o : AO) (by_ : Nat) (no : β) (k : Nam → AS → β) : β :=
  cB (Nat.blt s.next 65536) (newI s (nam s.next) o by_ no k) no

/-! ### Numbers and texts -/
noncomputable def kn (k : IntKind) : Nat := k.ctorIdx
noncomputable def bits_ (k : IntKind) : Nat := k.bits
/-- From here on a number that is not negative is none of the kind's. -/
noncomputable def hlf (k : IntKind) : Nat := if k.signed then 2 ^ (k.bits - 1) else 2 ^ k.bits
noncomputable def neg_ (k : IntKind) : Nat := if k.signed then 2 ^ (k.bits - 1) else 0
noncomputable def pw (k : IntKind) : Nat := 2 ^ k.bits
noncomputable def kEq (a b : IntKind) : Bool := Nat.beq (kn a) (kn b)
noncomputable def wrapA (k : IntKind) (x : Int) : Int := cI x (fun m => cB (Nat.blt m (hlf k)) (.ofNat m) (k.wrap (.ofNat m))) fun m => cB (Nat.blt m (neg_ k)) (.negSucc m) (k.wrap (.negSucc m))
noncomputable def subN (m n : Nat) : Int := cB (Nat.ble n m) (.ofNat (Nat.sub m n)) (.negSucc (Nat.sub (Nat.sub n m) 1))
noncomputable def iadd (a b : Int) : Int := cI a (fun m => cI b (fun n => .ofNat (Nat.add m n)) fun n => subN m (Nat.add n 1)) fun m => cI b (fun n => subN n (Nat.add m 1)) fun n => .negSucc (Nat.add (Nat.add m n) 1)
noncomputable def isub (a b : Int) : Int := cI a (fun m => cI b (fun n => subN m n) fun n => .ofNat (Nat.add m (Nat.add n 1))) fun m => cI b (fun n => .negSucc (Nat.add m n)) fun n => subN (Nat.add n 1) (Nat.add m 1)
noncomputable def imul (a b : Int) : Int := cI a (fun m => cI b (fun n => .ofNat (Nat.mul m n)) fun n => Int.mul (.ofNat m) (.negSucc n)) fun m => Int.mul (.negSucc m) b
noncomputable def ieq (a b : Int) : Bool := cI a (fun m => cI b (fun n => Nat.beq m n) fun _ => false) fun m => cI b (fun _ => false) fun n => Nat.beq m n
noncomputable def ile (a b : Int) : Bool := cI a (fun m => cI b (fun n => Nat.ble m n) fun _ => false) fun m => cI b (fun _ => true) fun n => Nat.ble n m
noncomputable def iquo (a b : Int) : Int := cI a (fun m => cI b (fun n => .ofNat (Nat.div m n)) fun n => Int.tdiv (.ofNat m) (.negSucc n)) fun m => Int.tdiv (.negSucc m) b
noncomputable def irem (a b : Int) : Int := cI a (fun m => cI b (fun n => .ofNat (Nat.mod m n)) fun n => Int.tmod (.ofNat m) (.negSucc n)) fun m => Int.tmod (.negSucc m) b
noncomputable def natA (k : IntKind) (x : Int) : Nat := cI x (fun m => Nat.mod m (pw k)) fun m => (Int.negSucc m % (pw k : Int)).toNat
noncomputable def minN (a b : Nat) : Nat := cB (Nat.ble a b) a b
noncomputable def maxM (a b : Nat) : Nat := cB (Nat.ble a b) b a
noncomputable def natsEq (l : List Nat) : List Nat → Bool := itL (fun m => cL m true fun _ _ => false) (fun a _ ih m => cL m false fun b t => cB (Nat.beq a b) (ih t) false) l
noncomputable def small (n : Nat) : Bool := Nat.ble n 1000000000
noncomputable def bNot (b : Bool) : Bool := cB b false true
noncomputable def bOr (a b : Bool) : Bool := cB a true b
noncomputable def bAnd (a b : Bool) : Bool := cB a b false
noncomputable def bEq (a b : Bool) : Bool := cB a b (bNot b)
/-- What an operator makes of two numbers of a kind. -/
noncomputable def arithA : BinOp → Cl (IntKind → Int → Int → AN)
  | .add => ⟨fun k a b => .get (.int k (wrapA k (iadd a b)))⟩
  | .sub => ⟨fun k a b => .get (.int k (wrapA k (isub a b)))⟩
  | .mul => ⟨fun k a b => .get (.int k (wrapA k (imul a b)))⟩
  | .quo => ⟨fun k a b => cB (ieq b 0) .no (.get (.int k (wrapA k (iquo a b))))⟩
  | .rem => ⟨fun k a b => cB (ieq b 0) .no (.get (.int k (irem a b)))⟩
  | .and => ⟨fun k a b => .get (.int k (wrapA k (.ofNat (Nat.land (natA k a) (natA k b)))))⟩
  | .or => ⟨fun k a b => .get (.int k (wrapA k (.ofNat (Nat.lor (natA k a) (natA k b)))))⟩
  | .xor => ⟨fun k a b => .get (.int k (wrapA k (.ofNat (Nat.xor (natA k a) (natA k b)))))⟩
  | .andNot => ⟨fun k a b => .get (.int k (wrapA k (.ofNat (Nat.land (natA k a) (Nat.sub (Nat.sub (pw k) 1) (natA k b))))))⟩
  | .eql => ⟨fun _ a b => .get (.bool (ieq a b))⟩
  | .neq => ⟨fun _ a b => .get (.bool (bNot (ieq a b)))⟩
  | .lss => ⟨fun _ a b => .get (.bool (bNot (ile b a)))⟩
  | .leq => ⟨fun _ a b => .get (.bool (ile a b))⟩
  | .gtr => ⟨fun _ a b => .get (.bool (bNot (ile a b)))⟩
  | .geq => ⟨fun _ a b => .get (.bool (ile b a))⟩
  | _ => ⟨fun _ _ _ => .no⟩
noncomputable def shiftA : BinOp → Cl (IntKind → Int → Int → AN)
  | .shl => ⟨fun k a b => cI b (fun n => .get (.int k (wrapA k (imul a (.ofNat (Nat.pow 2 (minN n (bits_ k)))))))) fun _ => .no⟩
  | .shr => ⟨fun k a b => cI b (fun n => .get (.int k (cI a (fun m => .ofNat (Nat.div m (Nat.pow 2 (minN n (bits_ k))))) fun m => Int.fdiv (.negSucc m) (.ofNat (Nat.pow 2 (minN n (bits_ k))))))) fun _ => .no⟩
  | _ => ⟨fun _ _ _ => .no⟩
noncomputable def textA : BinOp → Cl (List Nat → List Nat → AN)
  | .eql => ⟨fun a b => .get (.bool (natsEq a b))⟩
  | .neq => ⟨fun a b => .get (.bool (bNot (natsEq a b)))⟩
  | _ => ⟨fun _ _ => .no⟩
noncomputable def unA (op : UnOp) : Cl (AV → AN) := match op with
  | .not => ⟨fun v => vBool v .no fun b => .get (.bool (bNot b))⟩
  | .neg => ⟨fun v => vInt v .no fun k n => .get (.int k (wrapA k (isub 0 n)))⟩
  | .xor => ⟨fun v => vInt v .no fun k n => .get (.int k (wrapA k (.ofNat (Nat.xor (natA k (if k.signed then -1 else k.max)) (natA k n)))))⟩
  | _ => ⟨fun _ => .no⟩

/-! ### Cells -/
noncomputable def ofO (x : Option AV) : AN := cO x .no .get
/-- Is a value that of one cell? -/
noncomputable def cell1 (v : AV) : Bool := v1 v true (fun _ => false) (fun _ => false)
noncomputable def allCell1 (l : List AV) : Bool := itL true (fun v _ r => cB (cell1 v) r false) l
noncomputable def cellsA (v : AV) : List AV := vAgg v [v] fun l => l
section
variable (P : Program)
noncomputable def sizeA (t : TypeId) : Option Nat := match P.info? t with
  | some i => some i.size
  | none => none
noncomputable def zeroA (t : TypeId) : Option AV := match P.info? t with
  | some i => match i.zero with
    | some v => ofV v
    | none => none
  | none => none
noncomputable def bytesA (t : TypeId) : Nat := match P.info? t with
  | some i => i.bytes
  | none => 0
noncomputable def aggT (t : TypeId) : Option Bool := match P.underlying t with
  | some (.struct _) => some true
  | some (.array _ _) => some true
  | some _ => some false
  | none => none
/-- A part of cells. -/
noncomputable def partA (t : TypeId) : Cl (List AV → Nat → Option AV) := match aggT P t, sizeA P t with
  | some true, some n => ⟨fun cs o => cO (tke n (drp o cs)) none fun l => some (.agg l)⟩
  | some false, some _ => ⟨fun cs o => nth o cs⟩
  | _, _ => ⟨fun _ _ => none⟩
noncomputable def loadA (t : TypeId) : Cl (AV → AS → Option AV) := ⟨fun v s => vPtr v none fun b o => oCells (getA s b) none fun _ _ cs => (partA P t).f cs o⟩
noncomputable def putC (m : Md) (e : TypeId) (s : AS) (b : Nam) (x : Option (List AV)) : AN := cO x .no fun cs => .val (.tuple []) (putA s b (.cells m e cs))
noncomputable def storeA (t : TypeId) : Cl (AV → AV → AS → AN) := match aggT P t, sizeA P t with
  | some true, some n => ⟨fun a v s => vPtr a .no fun b o => oCells (getA s b) .no fun m e cs => vAgg v .no fun l =>
      cB (bAnd (Nat.beq (len l) n) (allCell1 l)) (cMd m (putC m e s b (put l o cs)) (putC m e s b (put l o cs)) .no) .no⟩
  | some false, some 1 => ⟨fun a v s => vPtr a .no fun b o => oCells (getA s b) .no fun m e cs => cB (cell1 v) (cMd m (putC m e s b (put [v] o cs)) (putC m e s b (put [v] o cs)) .no) .no⟩
  | _, _ => ⟨fun _ _ _ => .no⟩
noncomputable def fillA (place : Nat → Option (Nat × Nat)) (l : List (Nat × AV)) : List AV → Option (List AV) := itL (fun cs => some cs)
  (fun x _ ih cs => cO (place x.1) none fun q => cB (Nat.beq (len (cellsA x.2)) q.2) (cO (put (cellsA x.2) q.1 cs) none ih) none) l
noncomputable def placeS (fs : Array Field) (i : Nat) : Option (Nat × Nat) := match fs[i]? with
  | some f => match sizeA P f.type with
    | some n => some (f.offset, n)
    | none => none
  | none => none
noncomputable def sizesOk (fs : List Field) : Bool := fs.all fun f => (sizeA P f.type).isSome
noncomputable def buildA (t : TypeId) : Cl (List (Nat × AV) → AN) := match zeroA P t, P.underlying t with
  | some z, some (.struct fs) => match sizesOk P fs.toList with
    | true => ⟨fun ps => cO (fillA (placeS P fs) ps (cellsA z)) .no fun l => .get (.agg l)⟩
    | false => ⟨fun _ => .no⟩
  | some z, some (.array _ e) => match sizeA P e with
    | some n => ⟨fun ps => cO (fillA (fun i => some (Nat.mul i n, n)) ps (cellsA z)) .no fun l => .get (.agg l)⟩
    | none => ⟨fun _ => .no⟩
  | _, _ => ⟨fun _ => .no⟩

/-! ### Sameness -/
noncomputable def eqB (x y : AV) : Option Bool := vBool x none fun a => vBool y none fun b => some (bEq a b)
noncomputable def eqI (x y : AV) : Option Bool := vInt x none fun k a => vInt y none fun j b => cB (kEq k j) (some (ieq a b)) none
noncomputable def eqS (x y : AV) : Option Bool := vStr x none fun a => vStr y none fun b => some (natsEq a b)
/-- Truths, numbers, texts. -/
noncomputable def eqK : Nat → Cl (AV → AV → Option Bool)
  | 0 => ⟨eqB⟩
  | 1 => ⟨eqI⟩
  | _ => ⟨eqS⟩
noncomputable def eqCs : List Nat → Cl (List AV → List AV → Option Bool)
  | [] => ⟨fun l m => cL l (cL m (some true) fun _ _ => none) fun _ _ => none⟩
  | k :: ks => ⟨fun l m => cL l none fun a l => cL m none fun b m => cO ((eqK k).f a b) none fun r => cB r ((eqCs ks).f l m) (some false)⟩
/-- The cells that a value is looked at by, in order, and of which kind they are. -/
noncomputable def lookFs (look : TypeId → Nat → Option (List (Nat × Nat))) (n o : Nat) : List Field → Option (List (Nat × Nat))
  | [] => some []
  | f :: fs => match f.name == "_", sizeA P f.type with
    | false, some m => match Nat.ble (f.offset + m) n, look f.type (o + f.offset), lookFs look n o fs with
      | true, some a, some b => some (a ++ b)
      | _, _, _ => none
    | _, _ => none
noncomputable def lookEs (look : Nat → Option (List (Nat × Nat))) (z o : Nat) : Nat → Nat → Option (List (Nat × Nat))
  | _, 0 => some []
  | i, k + 1 => match look (o + i * z), lookEs look z o (i + 1) k with
    | some a, some b => some (a ++ b)
    | _, _ => none
noncomputable def look1 (t : TypeId) (o k : Nat) : Option (List (Nat × Nat)) := match sizeA P t with
  | some 1 => some [(o, k)]
  | _ => none
noncomputable def lookT : Nat → TypeId → Nat → Option (List (Nat × Nat))
  | 0, _, _ => none
  | d + 1, t, o => match P.underlying t with
    | some .bool => look1 P t o 0
    | some (.int _) => look1 P t o 1
    | some .string => look1 P t o 2
    | some (.struct fs) => match P.stoodInHeld t, sizeA P t with
      | false, some n => lookFs P (lookT d) n o fs.toList
      | _, _ => none
    | some (.array n e) => match sizeA P e, sizeA P t with
      | some z, some s => match Nat.ble (n * z) s with
        | true => lookEs (lookT d e) z o 0 n
        | false => none
      | _, _ => none
    | _ => none
/-- Do a type's values lie cell by cell, all of them? Then: of which kinds they are. -/
noncomputable def flatT (t : TypeId) : Option (List Nat) := match lookT P 20 t 0, sizeA P t, P.eqGuardType P.depth t with
  | some l, some n, false => match decide (l.map (·.1) = List.range n) with
    | true => some (l.map (·.2))
    | false => none
  | _, _, _ => none
noncomputable def ownB (s : AS) (b : Nam) : Bool := oCells (getA s b) false fun m _ _ => cMd m true false false
noncomputable def vB (b : Bool) : Option Bool := some b
/-- How two values of a type are compared. -/
noncomputable def eqA (t : TypeId) : Cl (AV → AV → AS → Option Bool) := match P.underlying t with
  | some .bool => ⟨fun x y _ => eqB x y⟩
  | some (.struct _) => match flatT P t with
    | some ks => ⟨fun x y _ => vAgg x none fun a => vAgg y none fun b => (eqCs ks).f a b⟩
    | none => ⟨fun _ _ _ => none⟩
  | some (.array _ _) => match flatT P t with
    | some ks => ⟨fun x y _ => vAgg x none fun a => vAgg y none fun b => (eqCs ks).f a b⟩
    | none => ⟨fun _ _ _ => none⟩
  | some (.pointer e) => match sizeA P e with
    | some (_ + 1) => ⟨fun x y s => vPtrN x none (vPtrN y none (vB true) fun _ _ => vB false) fun a o => vPtrN y none (vB false) fun b p =>
        cB (bAnd (ownB s a) (ownB s b)) (cB (Nat.beq a.n b.n) (vB (Nat.beq o p)) (vB false)) none⟩
    | _ => ⟨fun x y _ => vPtrN x none (vPtrN y none (vB true) fun _ _ => vB false) fun _ _ => vPtrN y none (vB false) fun _ _ => none⟩
  | some (.slice _) => ⟨fun x y _ => vSlT x none (vSlT y none (vB true) (fun _ _ _ _ => vB false) (fun _ _ _ _ => vB false) fun _ _ _ _ => vB false) (fun _ _ _ _ => vSl y none (vB false) (fun _ _ _ _ => none) fun _ _ _ _ => none) (fun _ _ _ _ => vSl y none (vB false) (fun _ _ _ _ => none) fun _ _ _ _ => none) fun _ _ _ _ => vSl y none (vB false) (fun _ _ _ _ => none) fun _ _ _ _ => none⟩
  | some (.func _ _ _) => ⟨fun x y _ => vFnN x none (vFnN y none (vB true) (fun _ _ _ => vB false) fun _ => vB false) (fun _ _ _ => vFnN y none (vB false) (fun _ _ _ => none) fun _ => none) fun _ => vFnN y none (vB false) (fun _ _ _ => none) fun _ => none⟩
  | some (.map _ _) => ⟨fun x y _ => vMap x none (vMap y none (vB true) fun _ => vB false) fun _ => vMap y none (vB false) fun _ => none⟩
  | _ => ⟨fun _ _ _ => none⟩
noncomputable def binA (op : BinOp) (ty : TypeId) : Cl (AV → AV → AS → AN) := match P.underlying ty with
  | some (.int _) => match op with
    | .shl => ⟨fun x y _ => vInt x .no fun k a => vInt y .no fun _ b => (shiftA .shl).f k a b⟩
    | .shr => ⟨fun x y _ => vInt x .no fun k a => vInt y .no fun _ b => (shiftA .shr).f k a b⟩
    | op => ⟨fun x y _ => vInt x .no fun k a => vInt y .no fun j b => cB (kEq k j) ((arithA op).f k a b) .no⟩
  | some .string => ⟨fun x y _ => vStr x .no fun a => vStr y .no fun b => (textA op).f a b⟩
  | _ => match op with
    | .eql => ⟨fun x y s => cO ((eqA P ty).f x y s) .no fun b => .get (.bool b)⟩
    | .neq => ⟨fun x y s => cO ((eqA P ty).f x y s) .no fun b => .get (.bool (bNot b))⟩
    | _ => ⟨fun _ _ _ => .no⟩

/-! ### Slices -/
/-- A bound of a slice. -/
noncomputable def bndA (x : AV) (y : Nat) : Option Nat := vInt x none fun _ i => cI i (fun n => cB (Nat.ble n y) (some n) none) fun _ => none
noncomputable def bndO (x : Option AV) (d y : Nat) : Option Nat := cO x (some d) fun v => bndA v y
noncomputable def hasO (x : Option AV) : Bool := cO x false fun _ => true
noncomputable def offA (z o m l : Nat) : Nat := cB (Nat.beq m l) o (Nat.add o (Nat.mul l z))
noncomputable def cutN (lo hi mx : Option AV) : AN := cB (bAnd (hasO mx) (bNot (hasO hi))) .no (cO (bndO mx 0 0) .no fun m => cO (bndO hi 0 m) .no fun h => cO (bndO lo 0 h) .no fun _ => .get .nils)
noncomputable def cutA (z : Nat) (b : Nam) (o n c : Nat) (lo hi mx : Option AV) : AN := cB (bAnd (hasO mx) (bNot (hasO hi))) .no (cO (bndO mx c c) .no fun m => cO (bndO hi n m) .no fun h => cO (bndO lo 0 h) .no fun l =>
  .get (.slice b (offA z o m l) (Nat.sub h l) (Nat.sub m l)))
/-- How many elements a row's value is known to have room for. -/
noncomputable def topR (e z : Nat) (b : Nam) (o n c : Nat) (s : AS) : Nat := oCells (getA s b) n fun m e' cs => cMd m n (cB (bAnd (Nat.beq e e') (Nat.beq (Nat.mul c z) o)) (maxM n (Nat.div (Nat.sub (len cs) o) z)) n) n
noncomputable def cutR (e z : Nat) (b : Nam) (o n c : Nat) (lo hi mx : Option AV) (s : AS) : AN := cO mx
  (cO (cO (bndO hi n n) (bndO hi n (topR e z b o n c s)) some) .no fun h => cO (bndO lo 0 h) .no fun l => cB (Nat.beq l 0) (.get (.row b o h c))
    (cB (Nat.blt l n) (.get (.row b (Nat.add o (Nat.mul l z)) (Nat.sub h l) (Nat.add c l))) (cB (Nat.beq l h) (.get (.tail b o (Nat.add o (Nat.mul l z)) (Nat.add c l))) (.get (.row b (Nat.add o (Nat.mul l z)) (Nat.sub h l) (Nat.add c l))))))
  fun v => cO hi .no fun w => cO (bndA v n) .no fun m => cO (bndA w m) .no fun h => cO (bndO lo 0 h) .no fun l => .get (.slice b (offA z o m l) (Nat.sub h l) (Nat.sub m l))
noncomputable def sliceA (ty : TypeId) : Cl (AV → Option AV → Option AV → Option AV → AS → AN) := match P.underlying ty with
  | some (.slice e) => match sizeA P e with
    | some z => ⟨fun x lo hi mx s => vSl x .no (cutN lo hi mx) (fun b o n c => cutA z b o n c lo hi mx) fun b o n c => cutR e z b o n c lo hi mx s⟩
    | none => ⟨fun _ _ _ _ _ => .no⟩
  | some (.array n e) => match sizeA P e with
    | some z => ⟨fun x lo hi mx _ => vPtr x .no fun b o => cutA z b o n n lo hi mx⟩
    | none => ⟨fun _ _ _ _ _ => .no⟩
  | _ => ⟨fun _ _ _ _ _ => .no⟩
noncomputable def idxA (x : AV) (n : Nat) : Option Nat := vInt x none fun _ i => cI i (fun m => cB (Nat.blt m n) (some m) none) fun _ => none
noncomputable def atI (z : Nat) (b : Nam) (o n : Nat) (i : AV) : AN := cO (idxA i n) .no fun k => .get (.ptr b (Nat.add o (Nat.mul k z)))
noncomputable def indexAddrA (ty : TypeId) : Cl (AV → AV → AN) := match P.underlying ty with
  | some (.array n e) => match sizeA P e with
    | some z => ⟨fun x i => vPtr x .no fun b o => atI z b o n i⟩
    | none => ⟨fun _ _ => .no⟩
  | some (.slice e) => match sizeA P e with
    | some z => ⟨fun x i => vSl x .no .no (fun b o n _ => atI z b o n i) fun b o n _ => atI z b o n i⟩
    | none => ⟨fun _ _ => .no⟩
  | _ => ⟨fun _ _ => .no⟩
noncomputable def indexA (ty : TypeId) : Cl (AV → AV → AN) := match P.underlying ty with
  | some (.array n e) => match sizeA P e with
    | some z => ⟨fun x i => vAgg x .no fun cs => cO (idxA i n) .no fun k => ofO ((partA P e).f cs (Nat.mul k z))⟩
    | none => ⟨fun _ _ => .no⟩
  | some .string => ⟨fun x i => vStr x .no fun s => cO (idxA i (len s)) .no fun k => cO (nth k s) .no fun b => .get (.int .u8 (.ofNat b))⟩
  | _ => ⟨fun _ _ => .no⟩

/-! ### Maps -/
/-- How keys of a map are compared; is a value a key? -/
noncomputable def keyK (kt : TypeId) : Option (Cl (AV → AV → Option Bool) × Cl (AV → Bool)) := match P.underlying kt with
  | some (.struct _) => match flatT P kt with
    | some ks => some (⟨fun x y => vAgg x none fun a => vAgg y none fun b => (eqCs ks).f a b⟩, ⟨fun x => vAgg x false fun a => Nat.beq (len a) ks.length⟩)
    | none => none
  | some (.array _ _) => match flatT P kt with
    | some ks => some (⟨fun x y => vAgg x none fun a => vAgg y none fun b => (eqCs ks).f a b⟩, ⟨fun x => vAgg x false fun a => Nat.beq (len a) ks.length⟩)
    | none => none
  | some (.int _) => some (⟨eqI⟩, ⟨fun x => vInt x false fun _ _ => true⟩)
  | _ => none
noncomputable def findA (eq : AV → AV → Option Bool) (k : AV) (es : List Ent) : Option (Option Ent) := itL (some none) (fun x _ r => cO (eq k x.key) none fun b => cO r none fun q => cB b (some (some x)) (some q)) es
/-- The order in which entries of a map are kept. -/
noncomputable def ltG (x y : AV) : Bool := vInt x false fun _ a => vInt y false fun _ b => bNot (ile b a)
noncomputable def ltGs (l : List AV) : List AV → Bool := itL (fun _ => false) (fun a _ ih m => cL m false fun b t => bOr (ltG a b) (bAnd (bNot (ltG b a)) (ih t))) l
noncomputable def ltK (x y : AV) : Bool := vAgg x (ltG x y) fun a => vAgg y false fun b => ltGs a b
noncomputable def insA (k v : AV) (i : Nam) (es : List Ent) : List Ent := itL [⟨k, v, i⟩] (fun x l r => cB (ltK k x.key) (⟨k, v, i⟩ :: x :: l) (x :: r)) es
noncomputable def setSA (i : Nam) (v : AV) (es : List Ent) : Option (List Ent) := itL none (fun x l r => cB (Nat.beq x.id.n i.n) (some (⟨x.key, v, x.id⟩ :: l)) (cO r none fun q => some (x :: q))) es
noncomputable def delA (i : Nam) (es : List Ent) : Option (List Ent) := itL none (fun x l r => cB (Nat.beq x.id.n i.n) (some l) (cO r none fun q => some (x :: q))) es
noncomputable def unitV (s : AS) : AN := .val (.tuple []) s
noncomputable def mapPutA (ty : TypeId) : Cl (AV → AV → AV → AS → AN) := match P.underlying ty with
  | some (.map kt _) => match keyK P kt with
    | some (eq, ok) => ⟨fun m k v s => cB (ok.f k) (vMap m .no .no fun b => oMap (getA s b) .no fun es clk => cO (findA eq.f k es) .no fun q =>
        cO q (newA s .dead 1 .no fun i s1 => unitV (putA s1 b (.map (insA k v i es) (Nat.add clk 1))))
          fun x => cO (setSA x.id v es) .no fun es' => unitV (putA s b (.map es' clk))) .no⟩
    | none => ⟨fun _ _ _ _ => .no⟩
  | _ => ⟨fun _ _ _ _ => .no⟩
noncomputable def mapEntryA (ty : TypeId) : Cl (AV → AV → AS → AN) := match P.underlying ty with
  | some (.map kt e) => match keyK P kt, zeroA P e with
    | some (eq, ok), some z => ⟨fun m k s => cB (ok.f k) (vMap m .no .no fun b => oMap (getA s b) .no fun es clk => cO (findA eq.f k es) .no fun q =>
        cO q (newA s .dead 1 .no fun i s1 => .val (.tuple [z, .stamp i]) (putA s1 b (.map (insA k z i es) (Nat.add clk 1))))
          fun x => .val (.tuple [x.val, .stamp x.id]) (putA s b (.map es clk))) .no⟩
    | _, _ => ⟨fun _ _ _ => .no⟩
  | _ => ⟨fun _ _ _ => .no⟩
noncomputable def entryStoreA (m i v : AV) (s : AS) : AN := vMap m .no .no fun b => vStamp i .no fun j => oMap (getA s b) .no fun es clk => cO (setSA j v es) .no fun es' => unitV (putA s b (.map es' clk))
noncomputable def deleteA (ty : TypeId) : Cl (AV → AV → AS → AN) := match P.underlying ty with
  | some (.map kt _) => match keyK P kt with
    | some (eq, ok) => ⟨fun m k s => cB (ok.f k) (vMap m .no (unitV s) fun b => oMap (getA s b) .no fun es clk => cO (findA eq.f k es) .no fun q =>
        cO q (unitV s) fun x => cO (delA x.id es) .no fun es' => unitV (putA s b (.map es' clk))) .no⟩
    | none => ⟨fun _ _ _ => .no⟩
  | _ => ⟨fun _ _ _ => .no⟩
noncomputable def foundA (ok : Bool) (z : AV) (q : Option Ent) : AN := cO q (.get (cB ok (.tuple [z, .bool false]) z)) fun x => .get (cB ok (.tuple [x.val, .bool true]) x.val)
noncomputable def lookupA (ty : TypeId) (two : Bool) : Cl (AV → AV → AS → AN) := match P.underlying ty with
  | some (.map kt e) => match keyK P kt, zeroA P e with
    | some (eq, ok), some z => ⟨fun m k s => cB (ok.f k) (vMap m .no (foundA two z none) fun b => oMap (getA s b) .no fun es _ => cO (findA eq.f k es) .no (foundA two z)) .no⟩
    | _, _ => ⟨fun _ _ _ => .no⟩
  | _ => ⟨fun _ _ _ => .no⟩
/-- Where names go on within an iteration. -/
noncomputable def atA (s : AS) (base sp j : Nat) : AS := cB (Nat.beq sp 0) s ⟨s.top, s.lay, s.log, Nat.add base (Nat.mul j sp)⟩
noncomputable def ptrN (s : AS) (o : AO) (by_ : Nat) : AN := newA s o by_ .no fun i s => .val (.ptr i 0) s
noncomputable def rangeA (cf : Cf) (fn : FuncId) (ty : TypeId) : Cl (AV → AS → AN) := match P.underlying ty with
  | some (.map _ _) => ⟨fun x s => vMap x .no (ptrN s (.iter none 0 [] 0 0) 1) fun m => oMap (getA s m) .no fun es clk =>
      ptrN s (.iter (some m) clk [] (Nat.add s.next 1) (cf.ar fn)) (Nat.add 1 (Nat.mul (cf.ar fn) (Nat.add (len es) 1)))⟩
  | _ => ⟨fun _ _ => .no⟩
noncomputable def namIn (i : Nam) (l : List Nam) : Bool := itL false (fun j _ r => cB (Nat.beq i.n j.n) true r) l
/-- What may come up next. -/
noncomputable def unseen (b m : Nam) (since base sp : Nat) (seen : List Nam) (s : AS) (es : List Ent) : Nat → List (AV × AS) := itL (fun _ => [])
  (fun x _ ih j => cB (namIn x.id seen) (ih (Nat.add j 1)) ((.tuple [.bool true, x.key, x.val], atA (putA s b (.iter (some m) since (x.id :: seen) base sp)) base sp j) :: ih (Nat.add j 1))) es
noncomputable def overV : AN := .get (.tuple [.bool false])
noncomputable def nextA (isS : Bool) : Cl (AV → AS → AN) := match isS with
  | true => ⟨fun _ _ => .no⟩
  | false => ⟨fun it s => vPtr it .no fun b o => cB (Nat.beq o 0) (oIter (getA s b) .no fun m since seen base sp => cO m overV fun m => oMap (getA s m) .no fun es clk =>
      cB (Nat.beq since clk) (cL (unseen b m since base sp seen s es 0) (.val (.tuple [.bool false]) (atA s base sp (len es))) fun x l => .pick (x :: l)) .no) .no⟩

noncomputable def byId (i : Nam) (es : List Ent) : Option Ent := itL none (fun x _ r => cB (Nat.beq x.id.n i.n) (some x) r) es
/-- What the last step came upon. -/
noncomputable def entryA (it : AV) (s : AS) : AN := vPtr it .no fun b o => cB (Nat.beq o 0) (oIter (getA s b) .no fun m since seen _ _ => cO m .no fun m => oMap (getA s m) .no fun es clk =>
  cB (Nat.beq since clk) (cL seen .no fun i _ => cO (byId i es) .no fun x => .get (.tuple [x.key, x.val])) .no) .no

/-! ### Appending -/
noncomputable def lenS (x : AV) : Option Nat := vSlT x none (some 0) (fun _ _ n _ => some n) (fun _ _ n _ => some n) fun _ _ _ _ => some 0
noncomputable def firstS (z n : Nat) (x : AV) (s : AS) : Option (List AV) := vSlT x none (some []) (fun b o _ _ => oCells (getA s b) none fun _ _ cs => tke (Nat.mul n z) (drp o cs)) (fun b o _ _ => oCells (getA s b) none fun _ _ cs => tke (Nat.mul n z) (drp o cs)) fun _ _ _ _ => some []
/-- A row's next name. -/
noncomputable def rowI {β : Type} (rs : Nat) (b : Nam) (o : AO) (s : AS) (no : β) (k : Nam → AS → β) : β :=
  cB (bAnd (Nat.ble 2 rs) (bAnd (Nat.blt (Nat.add b.n 1) s.next) (Nat.blt (Nat.add b.n 1) 65536))) (oFree (getA s (nam (Nat.add b.n 1))) (newA s o 1 no k) (newI s (nam (Nat.add b.n 1)) o 0 no k)) (newA s o 1 no k)
noncomputable def rowV (l : Nat) (i : Nam) (s : AS) : AN := .val (.row i 0 l 0) s
noncomputable def growA (rs e z by_ : Nat) (x : AV) (n : Nat) (new : List AV) (s : AS) : AN := vSl x .no
  (cB (Nat.beq n 0) (.val .nils s) (cB (small (Nat.mul n by_)) (newA s (.cells .row e new) (maxM 1 rs) .no (rowV n)) .no))
  (fun b o l c => oCells (getA s b) .no fun m e' cs => cB (Nat.ble (Nat.add l n) c)
    (cMd m (cO (put new (Nat.add o (Nat.mul l z)) cs) .no fun cs' => .val (.slice b o (Nat.add l n) c) (putA s b (.cells m e' cs')))
      (cO (put new (Nat.add o (Nat.mul l z)) cs) .no fun cs' => .val (.slice b o (Nat.add l n) c) (putA s b (.cells m e' cs'))) .no)
    (cB (small (Nat.mul (Nat.add (Nat.add l n) c) by_)) (cO (tke (Nat.mul l z) (drp o cs)) .no fun old => newA s (.cells .row e (app old new)) (maxM 1 rs) .no (rowV (Nat.add l n))) .no))
  fun b o l c => cB (Nat.beq n 0) (.val (.row b o l c) s) (cB (small (Nat.mul (Nat.add l n) by_)) (oCells (getA s b) .no fun m e' cs => cMd m .no
    (cB (bAnd (Nat.beq e e') (Nat.beq (Nat.mul c z) o)) (cO (put new (Nat.add o (Nat.mul l z)) cs)
      (cO (tke (Nat.mul l z) (drp o cs)) .no fun old => rowI rs b (.cells .row e (app old new)) (putA s b .dead) .no (rowV (Nat.add l n)))
      fun cs' => .val (.row b o (Nat.add l n) c) (putA s b (.cells m e' cs'))) .no) .no) .no)
noncomputable def appendA (rs : Nat) (sT yT : TypeId) : Cl (AV → AV → AS → AN) := match P.underlying sT, P.underlying yT with
  | some (.slice e), some (.slice _) => match sizeA P e, zeroA P e with
    | some (z + 1), some zv => match Nat.beq (len (cellsA zv)) (z + 1) with
      | true => ⟨fun x v s => cO (lenS v) .no fun n => cO (firstS (z + 1) n v s) .no fun q => cB (allCell1 q) (growA rs e (z + 1) (bytesA P e + 1) x n q s) .no⟩
      | false => ⟨fun _ _ _ => .no⟩
    | _, _ => ⟨fun _ _ _ => .no⟩
  | _, _ => ⟨fun _ _ _ => .no⟩
noncomputable def copyTo (x : AV) (n : Nat) (new : List AV) (s : AS) : AN := vSl x .no (.val (.int .i64 (.ofNat n)) s)
  (fun b o _ _ => oCells (getA s b) .no fun m e cs => cMd m (cO (put new o cs) .no fun cs' => .val (.int .i64 (.ofNat n)) (putA s b (.cells m e cs'))) (cO (put new o cs) .no fun cs' => .val (.int .i64 (.ofNat n)) (putA s b (.cells m e cs'))) .no)
  fun b o _ _ => oCells (getA s b) .no fun m e cs => cMd m .no (cO (put new o cs) .no fun cs' => .val (.int .i64 (.ofNat n)) (putA s b (.cells m e cs'))) .no
noncomputable def copyA (dT yT : TypeId) : Cl (AV → AV → AS → AN) := match P.underlying dT, P.underlying yT with
  | some (.slice e), some (.slice _) => match sizeA P e with
    | some z => ⟨fun x v s => cO (lenS x) .no fun m => cO (lenS v) .no fun n => cO (firstS z (minN n m) v s) .no fun q => cB (allCell1 q) (copyTo x (minN n m) q s) .no⟩
    | none => ⟨fun _ _ _ => .no⟩
  | _, _ => ⟨fun _ _ _ => .no⟩
noncomputable def clearA (ty : TypeId) : Cl (AV → AS → AN) := match P.underlying ty with
  | some (.slice e) => match zeroA P e, sizeA P e with
    | some zv, some z => match Nat.beq (len (cellsA zv)) z && allCell1 (cellsA zv) with
      | true => ⟨fun x s => vSl x .no (.val (.tuple []) s) (fun b o n _ => oCells (getA s b) .no fun m e cs => cMd m (putC m e s b (put (rep (cellsA zv) n) o cs)) (putC m e s b (put (rep (cellsA zv) n) o cs)) .no)
          fun b o n _ => oCells (getA s b) .no fun m e cs => cMd m .no (putC m e s b (put (rep (cellsA zv) n) o cs)) .no⟩
      | false => ⟨fun _ _ => .no⟩
    | _, _ => ⟨fun _ _ => .no⟩
  | _ => ⟨fun _ _ => .no⟩

/-! ### Operations -/
abbrev KO := Cl (FrA → AS → AN)
noncomputable def bad : KO := ⟨fun _ _ => .no⟩
noncomputable def minA (l : List AV) : AV → AN := itL (fun v => .get v) (fun y _ ih v => vInt v .no fun k a => vInt y .no fun j b => cB (kEq k j) (ih (.int k (cB (ile a b) a b))) .no) l
noncomputable def maxA (l : List AV) : AV → AN := itL (fun v => .get v) (fun y _ ih v => vInt v .no fun k a => vInt y .no fun j b => cB (kEq k j) (ih (.int k (cB (ile b a) a b))) .no) l
noncomputable def intV (n : Nat) : AN := .get (.int .i64 (.ofNat n))
noncomputable def lenA (ty : TypeId) : Cl (AV → AS → AN) := match P.underlying ty with
  | some (.slice _) => ⟨fun x _ => vSlT x .no (intV 0) (fun _ _ n _ => intV n) (fun _ _ n _ => intV n) fun _ _ _ _ => intV 0⟩
  | some (.map _ _) => ⟨fun x s => vMap x .no (intV 0) fun b => oMap (getA s b) .no fun es _ => intV (len es)⟩
  | _ => ⟨fun _ _ => .no⟩
noncomputable def capA (ty : TypeId) : Cl (AV → AN) := match P.underlying ty with
  | some (.slice _) => ⟨fun x => vSl x .no (intV 0) (fun _ _ _ c => intV c) fun _ _ _ _ => .no⟩
  | _ => ⟨fun _ => .no⟩
noncomputable def byteN (l : List AV) : Option (List Nat) := itL (some []) (fun v _ r => vInt v none fun k i => cB (kEq k .u8) (cI i (fun n => cB (Nat.blt n 256) (cO r none fun q => some (n :: q)) none) fun _ => none) none) l
noncomputable def convA (src dst : TypeId) : Cl (AV → AS → AN) := match P.underlying src, P.underlying dst with
  | some (.int _), some (.int k) => ⟨fun x _ => vInt x .no fun _ n => .get (.int k (wrapA k n))⟩
  | some (.slice _), some (.slice e) => match src == dst, P.underlying e with
    | true, some (.int .u8) => ⟨fun x s => vSl x .no .no (fun b _ _ _ => oCells (getA s b) .no fun m t cs => cMd m (.val x (putA s b (.cells .lib t cs))) .no .no) fun _ _ _ _ => .no⟩
    | _, _ => ⟨fun _ _ => .no⟩
  | some (.slice e), some .string => match P.underlying e with
    | some (.int .u8) => ⟨fun x s => cO (lenS x) .no fun n => cO (firstS 1 n x s) .no fun l => cO (byteN l) .no fun r => .get (.str r)⟩
    | _ => ⟨fun _ _ => .no⟩
  | _, _ => ⟨fun _ _ => .no⟩
noncomputable def fieldAddrA (st : TypeId) (f : Nat) : Cl (AV → AN) := match P.underlying st with
  | some (.struct fs) => match fs[f]? with
    | some fd => match sizeA P fd.type with
      | some (_ + 1) => ⟨fun x => vPtr x .no fun b o => .get (.ptr b (Nat.add o fd.offset))⟩
      | _ => ⟨fun _ => .no⟩
    | none => ⟨fun _ => .no⟩
  | _ => ⟨fun _ => .no⟩
noncomputable def fieldA (st : TypeId) (f : Nat) : Cl (AV → AN) := match P.underlying st with
  | some (.struct fs) => match fs[f]? with
    | some fd => ⟨fun x => vAgg x .no fun cs => ofO ((partA P fd.type).f cs fd.offset)⟩
    | none => ⟨fun _ => .no⟩
  | _ => ⟨fun _ => .no⟩
noncomputable def makeSliceA (ty : TypeId) : Cl (AV → AV → AS → AN) := match P.underlying ty with
  | some (.slice e) => match sizeA P e, zeroA P e with
    | some z, some zv => match Nat.beq (len (cellsA zv)) z with
      | true => ⟨fun l c s => vInt l .no fun _ l => vInt c .no fun _ c => cI l (fun n => cI c (fun m =>
          cB (bAnd (Nat.ble n m) (small (Nat.mul m (Nat.add (Nat.add z 1) (bytesA P e))))) (newA s (.cells .own e (rep (cellsA zv) m)) 1 .no fun i s' => .val (.slice i 0 n m) s') .no) fun _ => .no) fun _ => .no⟩
      | false => ⟨fun _ _ _ => .no⟩
    | _, _ => ⟨fun _ _ _ => .no⟩
  | _ => ⟨fun _ _ _ => .no⟩
noncomputable def buildSliceA (ty : TypeId) (n : Nat) : Cl (List (Nat × AV) → AS → AN) := match P.underlying ty with
  | some (.slice e) => match sizeA P e, zeroA P e with
    | some z, some zv => match Nat.beq (len (cellsA zv)) z && Nat.ble (n * z) 16777216 with
      | true => ⟨fun ps s => cO (fillA (fun i => some (Nat.mul i z, z)) ps (rep (cellsA zv) n)) .no fun cs => newA s (.cells .own e cs) 1 .no fun i s' => .val (.slice i 0 n n) s'⟩
      | false => ⟨fun _ _ => .no⟩
    | _, _ => ⟨fun _ _ => .no⟩
  | _ => ⟨fun _ _ => .no⟩
noncomputable def nilCheckA (x : AV) : AN := cB (vPtr x false fun _ _ => true) (.get x) (vFn x .no (fun _ _ _ => .get x) fun _ => .get x)
noncomputable def newV (s : AS) (e : TypeId) (cs : List AV) : AN := newA s (.cells .own e cs) 1 .no fun i s => .val (.ptr i 0) s
/-! ### Interfaces -/
noncomputable def ifaceA (t : TypeId) : Cl (AV → AN) := match P.underlying t with
  | some (.interface _) => ⟨fun _ => .no⟩
  | some _ => ⟨fun x => .get (.iface t x)⟩
  | none => ⟨fun _ => .no⟩
noncomputable def assertA (a : TypeId) (two : Bool) : Cl (AV → AN) := match P.underlying a with
  | some (.interface _) => ⟨fun _ => .no⟩
  | some _ => ⟨fun x => vIf x .no .no fun t v => cB (Nat.beq t a) (.get (cB two (.tuple [v, .bool true]) v)) .no⟩
  | none => ⟨fun _ => .no⟩
/-- A method's function, and whether it is handed the pointer itself. -/
noncomputable def methA (name : String) (t : TypeId) : Option (FuncId × Bool) := match P.info? t with
  | some i => match i.methods.find? (·.name == name) with
    | some m => match m.path.isEmpty with
      | true => m.func
      | false => none
    | none => none
  | none => none
noncomputable def ptrE (t : TypeId) : Option TypeId := match P.underlying t with
  | some (.pointer e) => some e
  | _ => none
noncomputable def invokeA (name : String) (r : AV) (args : List AV) (s : AS) : AN := vIf r .no .no fun t v => cO (methA P name t) .no fun x => cO (ptrE P t) .no fun e =>
  cB x.2 (.enter x.1 (v :: args)) (vPtr v .no fun _ _ => cO ((loadA P e).f v s) .no fun u => .enter x.1 (u :: args))
/-! ### A copy of a map -/
noncomputable def cloneF (g : FuncId) : Bool := match P.funcs[g]? with
  | some fn => fn.body.isNone && (fn.name == "maps.clone" && fn.origin == "")
  | none => false
noncomputable def cloneL (es : List Ent) : AS → (List Ent → AS → AN) → AN := itL (fun s k => k [] s) (fun x _ ih s k => newA s .dead 1 .no fun i s1 => ih s1 fun r s2 => k (⟨x.key, x.val, i⟩ :: r) s2) es
noncomputable def cloneA (args : List AV) (s : AS) : AN := cL args .no fun a r => cL r (vIf a .no .no fun t v => vMap v .no .no fun b => oMap (getA s b) .no fun es clk =>
  newA s (.map [] clk) 1 .no fun j s1 => cloneL es s1 fun es' s2 => .val (.iface t (.map j)) (putA s2 j (.map es' clk))) fun _ _ => .no
variable (cf : Cf) (vm : Vm) (fn : FuncId)
noncomputable def kCall (c : Call) : KO := match okXs P.globals.size c.args.toList with
  | false => bad
  | true => match c.callee with
    | .builtin b => match b, c.argTypes.toList, c.args.toList with
      | .len, ty :: _, [x] => ⟨fun fr s => (lenA P ty).f ((cX1 vm x).f fr) s⟩
      | .cap, ty :: _, [x] => ⟨fun fr _ => (capA P ty).f ((cX1 vm x).f fr)⟩
      | .min, _, x :: l => ⟨fun fr _ => vInt ((cX1 vm x).f fr) .no fun _ _ => minA ((cXs vm l).f fr) ((cX1 vm x).f fr)⟩
      | .max, _, x :: l => ⟨fun fr _ => vInt ((cX1 vm x).f fr) .no fun _ _ => maxA ((cXs vm l).f fr) ((cX1 vm x).f fr)⟩
      | .append, sT :: yT :: _, [x, y] => ⟨fun fr s => (appendA P (cf.rs fn) sT yT).f ((cX1 vm x).f fr) ((cX1 vm y).f fr) s⟩
      | .copy, dT :: yT :: _, [x, y] => ⟨fun fr s => (copyA P dT yT).f ((cX1 vm x).f fr) ((cX1 vm y).f fr) s⟩
      | .clear, ty :: _, [x] => ⟨fun fr s => (clearA P ty).f ((cX1 vm x).f fr) s⟩
      | .delete, mT :: _, [m, k] => ⟨fun fr s => (deleteA P mT).f ((cX1 vm m).f fr) ((cX1 vm k).f fr) s⟩
      | _, _, _ => bad
    | .value f => match f, okX P.globals.size f with
      | .func g, _ => match cloneF P g with
        | true => ⟨fun fr s => cloneA ((cXs vm c.args.toList).f fr) s⟩
        | false => ⟨fun fr _ => .enter g ((cXs vm c.args.toList).f fr)⟩
      | f, true => ⟨fun fr _ => vFn ((cX1 vm f).f fr) .no (fun g first cap => .enter g (app first (app ((cXs vm c.args.toList).f fr) cap))) fun l => .round l ((cXs vm c.args.toList).f fr)⟩
      | _, false => bad
    | .invoke r name => match okX P.globals.size r with
      | true => ⟨fun fr s => invokeA P name ((cX1 vm r).f fr) ((cXs vm c.args.toList).f fr) s⟩
      | false => bad
/-- An operation, reckoned once. -/
noncomputable def kOp (o : Oper) : KO :=
  match o.op with
  | .move x => match okX P.globals.size x with
    | true => ⟨fun fr _ => .get ((cX1 vm x).f fr)⟩
    | false => bad
  | .assign x => match okX P.globals.size x with
    | true => ⟨fun fr _ => .get ((cX1 vm x).f fr)⟩
    | false => bad
  | .pick c a b => match okXs P.globals.size [c, a, b] with
    | true => ⟨fun fr _ => vBool ((cX1 vm c).f fr) .no fun t => cB t (.get ((cX1 vm a).f fr)) (.get ((cX1 vm b).f fr))⟩
    | false => bad
  | .alloc e => match zeroA P e with
    | some z => ⟨fun _ s => newV s e (cellsA z)⟩
    | none => bad
  | .box e x => match okX P.globals.size x with
    | true => ⟨fun fr s => newV s e (cellsA ((cX1 vm x).f fr))⟩
    | false => bad
  | .build ty ps => match okXs P.globals.size (ps.toList.map (·.2)) with
    | true => ⟨fun fr _ => (buildA P ty).f ((cXI vm ps.toList).f fr)⟩
    | false => bad
  | .buildSlice ty n ps => match okXs P.globals.size (ps.toList.map (·.2)) with
    | true => ⟨fun fr s => (buildSliceA P ty n).f ((cXI vm ps.toList).f fr) s⟩
    | false => bad
  | .load ty a => match okX P.globals.size a with
    | true => ⟨fun fr s => ofO ((loadA P ty).f ((cX1 vm a).f fr) s)⟩
    | false => bad
  | .store ty a x => match okXs P.globals.size [a, x] with
    | true => ⟨fun fr s => (storeA P ty).f ((cX1 vm a).f fr) ((cX1 vm x).f fr) s⟩
    | false => bad
  | .nilCheck x => match okX P.globals.size x with
    | true => ⟨fun fr _ => nilCheckA ((cX1 vm x).f fr)⟩
    | false => bad
  | .binOp op ty x y _ => match okXs P.globals.size [x, y] with
    | true => ⟨fun fr s => (binA P op ty).f ((cX1 vm x).f fr) ((cX1 vm y).f fr) s⟩
    | false => bad
  | .unOp op _ x => match okX P.globals.size x with
    | true => ⟨fun fr _ => (unA op).f ((cX1 vm x).f fr)⟩
    | false => bad
  | .convert src dst x => match okX P.globals.size x with
    | true => ⟨fun fr s => (convA P src dst).f ((cX1 vm x).f fr) s⟩
    | false => bad
  | .makeInterface t x => match okX P.globals.size x with
    | true => ⟨fun fr _ => (ifaceA P t).f ((cX1 vm x).f fr)⟩
    | false => bad
  | .typeAssert x _ a two => match okX P.globals.size x with
    | true => ⟨fun fr _ => (assertA P a two).f ((cX1 vm x).f fr)⟩
    | false => bad
  | .makeFunc f a b => match f, okXs P.globals.size a.toList && okXs P.globals.size b.toList with
    | .func g, true => ⟨fun fr _ => .get (.func g ((cXs vm a.toList).f fr) ((cXs vm b.toList).f fr))⟩
    | _, _ => bad
  | .makeMap _ r => match r with
    | none => ⟨fun _ s => newA s (.map [] 0) 1 .no fun i s => .val (.map i) s⟩
    | some _ => bad
  | .makeSlice ty l c => match okXs P.globals.size [l, c] with
    | true => ⟨fun fr s => (makeSliceA P ty).f ((cX1 vm l).f fr) ((cX1 vm c).f fr) s⟩
    | false => bad
  | .slice ty x lo hi mx => match okX P.globals.size x && okO P.globals.size lo && okO P.globals.size hi && okO P.globals.size mx with
    | true => ⟨fun fr s => (sliceA P ty).f ((cX1 vm x).f fr) ((cXO vm lo).f fr) ((cXO vm hi).f fr) ((cXO vm mx).f fr) s⟩
    | false => bad
  | .fieldAddr st x f => match okX P.globals.size x with
    | true => ⟨fun fr _ => (fieldAddrA P st f).f ((cX1 vm x).f fr)⟩
    | false => bad
  | .field st x f => match okX P.globals.size x with
    | true => ⟨fun fr _ => (fieldA P st f).f ((cX1 vm x).f fr)⟩
    | false => bad
  | .indexAddr ty x i => match okXs P.globals.size [x, i] with
    | true => ⟨fun fr _ => (indexAddrA P ty).f ((cX1 vm x).f fr) ((cX1 vm i).f fr)⟩
    | false => bad
  | .index ty x i => match okXs P.globals.size [x, i] with
    | true => ⟨fun fr _ => (indexA P ty).f ((cX1 vm x).f fr) ((cX1 vm i).f fr)⟩
    | false => bad
  | .lookup ty x i ok => match okXs P.globals.size [x, i] with
    | true => ⟨fun fr s => (lookupA P ty ok).f ((cX1 vm x).f fr) ((cX1 vm i).f fr) s⟩
    | false => bad
  | .mapUpdate ty m k v => match okXs P.globals.size [m, k, v] with
    | true => ⟨fun fr s => (mapPutA P ty).f ((cX1 vm m).f fr) ((cX1 vm k).f fr) ((cX1 vm v).f fr) s⟩
    | false => bad
  | .mapEntry ty m k => match okXs P.globals.size [m, k] with
    | true => ⟨fun fr s => (mapEntryA P ty).f ((cX1 vm m).f fr) ((cX1 vm k).f fr) s⟩
    | false => bad
  | .entryStore _ m i v => match okXs P.globals.size [m, i, v] with
    | true => ⟨fun fr s => entryStoreA ((cX1 vm m).f fr) ((cX1 vm i).f fr) ((cX1 vm v).f fr) s⟩
    | false => bad
  | .insert ty m k v => match okXs P.globals.size [m, k, v] with
    | true => ⟨fun fr s => (mapPutA P ty).f ((cX1 vm m).f fr) ((cX1 vm k).f fr) ((cX1 vm v).f fr) s⟩
    | false => bad
  | .range ty x => match okX P.globals.size x with
    | true => ⟨fun fr s => (rangeA P cf fn ty).f ((cX1 vm x).f fr) s⟩
    | false => bad
  | .next it isS => match okX P.globals.size it with
    | true => ⟨fun fr s => (nextA isS).f ((cX1 vm it).f fr) s⟩
    | false => bad
  | .entry it => match okX P.globals.size it with
    | true => ⟨fun fr s => entryA ((cX1 vm it).f fr) s⟩
    | false => bad
  | .extract x i => match okX P.globals.size x with
    | true => ⟨fun fr _ => vTup ((cX1 vm x).f fr) .no fun l => ofO (nth i l)⟩
    | false => bad
  | .call c => kCall P cf vm fn c
  | _ => bad
end
end Go.Proofs.YtfnjojdiiklleaaGreat.Ev
