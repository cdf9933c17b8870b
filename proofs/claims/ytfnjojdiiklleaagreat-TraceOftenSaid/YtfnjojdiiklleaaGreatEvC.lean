/- A run of a program on abstract memory: regions, code, calls. -/
import Derived.Test.YtfnjojdiiklleaaGreatEvA
import Derived.Laws.Sem
namespace Go.Proofs.YtfnjojdiiklleaaGreat.Ev
abbrev Ev := Task → AS → R (Out × AS)

/-! ### Sameness of values and memory -/
mutual
noncomputable def beqV : AV → AV → Bool
  | .bool a, .bool b => a == b
  | .int k a, .int j b => kEq k j && ieq a b
  | .str a, .str b => natsEq a b
  | .ptr a o, .ptr b p => Nat.beq a.n b.n && Nat.beq o p
  | .nilp, .nilp => true
  | .slice a o n c, .slice b p m d => Nat.beq a.n b.n && Nat.beq o p && Nat.beq n m && Nat.beq c d
  | .row a o n c, .row b p m d => Nat.beq a.n b.n && Nat.beq o p && Nat.beq n m && Nat.beq c d
  | .tail a o n c, .tail b p m d => Nat.beq a.n b.n && Nat.beq o p && Nat.beq n m && Nat.beq c d
  | .nils, .nils => true
  | .map a, .map b => Nat.beq a.n b.n
  | .nilm, .nilm => true
  | .func f a b, .func g c d => Nat.beq f g && beqVs a c && beqVs b d
  | .yld a, .yld b => Nat.beq a.n b.n
  | .nilf, .nilf => true
  | .iface a x, .iface b y => Nat.beq a b && beqV x y
  | .nili, .nili => true
  | .agg a, .agg b => beqVs a b
  | .tuple a, .tuple b => beqVs a b
  | .stamp a, .stamp b => Nat.beq a.n b.n
  | _, _ => false
noncomputable def beqVs : List AV → List AV → Bool
  | [], [] => true
  | a :: x, b :: y => beqV a b && beqVs x y
  | _, _ => false
end
mutual
/-- The names that a value leans on. -/
noncomputable def idsV : AV → List Nam → List Nam
  | .ptr b _, acc => b :: acc
  | .slice b _ _ _, acc => b :: acc
  | .row b _ _ _, acc => b :: acc
  | .tail b _ _ _, acc => b :: acc
  | .map b, acc => b :: acc
  | .func _ a b, acc => idsVs a (idsVs b acc)
  | .yld l, acc => l :: acc
  | .iface _ v, acc => idsV v acc
  | .agg l, acc => idsVs l acc
  | .tuple l, acc => idsVs l acc
  | .stamp i, acc => i :: acc
  | _, acc => acc
noncomputable def idsVs : List AV → List Nam → List Nam
  | [], acc => acc
  | v :: l, acc => idsV v (idsVs l acc)
end

/-! ### Regions -/
noncomputable def lateOp (o : Oper) : Bool := o.guard.isNone && match o.op with
  | .alloc _ | .box .. | .buildSlice .. | .makeMap _ none | .makeSlice .. => true
  | _ => false
noncomputable def lateAt (ops : Array Oper) (i : Nat) : Bool := match ops[i]? with
  | some o => lateOp o
  | none => false
/-- D: gone through; L: and those that may have come up. -/
noncomputable def okPlan (ops : Array Oper) : Plan → Array Bool → Array Bool → Bool
  | .done, D, L => decide (D = L) && decide (Region.ready .any ops L = [])
  | .flt i p, D, L => (Region.ready .any ops L).contains i && (Region.ready .any ops D).contains i && Region.free .any ops D i && okPlan ops p (D.setIfInBounds i true) (L.setIfInBounds i true)
  | .prep i p, D, L => (Region.ready .any ops L).contains i && (Region.ready .any ops D).contains i && Region.free .any ops D i && lateAt ops i && okPlan ops p D (L.setIfInBounds i true)
  | .bind i p, D, L => lateAt ops i && !D.getD i true && L.getD i false && decide (Region.ready .any ops (L.setIfInBounds i false) = [i]) && okPlan ops p (D.setIfInBounds i true) L
  | .eff i p, D, L => decide (Region.ready .any ops L = [i]) && (Region.ready .any ops D).contains i && okPlan ops p (D.setIfInBounds i true) (L.setIfInBounds i true)
section
variable (P : Program)
noncomputable def quietOp (o : Oper) : Bool := match o.op with
  | .move _ | .assign _ | .pick .. | .build .. | .nilCheck _ | .binOp .. | .unOp .. | .makeInterface .. | .makeFunc .. | .slice .. | .fieldAddr .. | .field .. | .indexAddr .. | .index .. | .extract .. | .typeAssert .. | .load .. | .lookup .. => true
  | .convert _ d _ => match P.underlying d with
    | some (.slice _) => false
    | _ => true
  | .call c => match c.callee with
    | .builtin .len | .builtin .cap | .builtin .min | .builtin .max => true
    | _ => false
  | _ => false
/-- Does an operation only reckon, whatever lies in memory? -/
noncomputable def pureOp (o : Oper) : Bool := match o.op with
  | .move _ | .assign _ | .pick .. | .build .. | .nilCheck _ | .unOp .. | .makeInterface .. | .makeFunc ..  | .fieldAddr .. | .field .. | .indexAddr .. | .index .. | .extract .. | .typeAssert .. => true
  | .binOp _ t _ _ _ => match P.underlying t with
    | some (.pointer _) => false
    | some _ => true
    | none => false
  | .convert s d _ => match P.underlying s, P.underlying d with
    | some (.slice _), _ => false
    | some _, some (.slice _) => false
    | some _, some _ => true
    | _, _ => false
  | _ => false
/-! A region by masks: what an operation waits for; its slot; the slots it looks at. -/
structure Mk where
  i : Nat
  dep : Nat
  wr : Nat
  rd : Nat
noncomputable def bitA (X i : Nat) : Bool := Nat.beq (Nat.land (Nat.shiftRight X i) 1) 1
noncomputable def onB (i : Nat) : Nat := Nat.shiftLeft 1 i
noncomputable def setB (X i : Nat) : Nat := Nat.lor X (onB i)
noncomputable def depL (l : List Edge) : Nat := itL 0 (fun e _ r => cB (Region.binds .any e) (Nat.lor r (onB e.on)) r) l
noncomputable def rdL (l : List Tmp) : Nat := itL 0 (fun d _ r => Nat.lor r (onB d)) l
noncomputable def mkOf (ops : Array Oper) (i : Nat) (o : Oper) : Mk := ⟨i, depL o.after.toList, cO o.dst 0 onB, rdL (o.looksAt ops)⟩
noncomputable def mks (ops : Array Oper) : List Oper → Nat → List Mk
  | [], _ => []
  | o :: l, i => mkOf ops i o :: mks ops l (i + 1)
noncomputable def apartM (x y : Mk) : Bool := bAnd (Nat.beq (Nat.land x.wr (Nat.lor y.rd y.wr)) 0) (Nat.beq (Nat.land y.wr x.rd) 0)
noncomputable def pairsM (ms : List Mk) : Bool := itL true (fun m l r => cB (itL true (fun k _ q => cB (bOr (apartM m k) (bOr (bitA k.dep m.i) (bitA m.dep k.i))) q false) l) r false) ms
noncomputable def rdyM (m : Mk) (X : Nat) : Bool := bAnd (bNot (bitA X m.i)) (Nat.beq (Nat.land m.dep X) m.dep)
noncomputable def rdyI (ms : List Mk) (i X : Nat) : Bool := itL false (fun m _ r => cB (Nat.beq m.i i) (rdyM m X) r) ms
noncomputable def onlyM (ms : List Mk) (i X : Nat) : Bool := itL true (fun m _ r => cB (bEq (Nat.beq m.i i) (rdyM m X)) r false) ms
noncomputable def noneM (ms : List Mk) (X : Nat) : Bool := itL true (fun m _ r => cB (rdyM m X) false r) ms
noncomputable def okPlanM (ops : Array Oper) (ms : List Mk) (p : Plan) : Nat → Nat → Bool := itP (fun D L => bAnd (Nat.beq D L) (noneM ms L))
  (fun i ih D L => cB (rdyI ms i L) (cB (rdyI ms i D) (ih (setB D i) (setB L i)) false) false)
  (fun i ih D L => cB (rdyI ms i L) (cB (rdyI ms i D) (cB (lateAt ops i) (ih D (setB L i)) false) false) false)
  (fun i ih D L => cB (lateAt ops i) (cB (bAnd (bNot (bitA D i)) (bitA L i)) (cB (bAnd (Nat.blt i ops.size) (onlyM ms i (Nat.xor L (onB i)))) (ih (setB D i) L) false) false) false)
  (fun i ih D L => cB (rdyI ms i L) (cB (rdyI ms i D) (cB (onlyM ms i L) (ih (setB D i) (setB L i)) false) false) false) p
noncomputable def okPlanF (ops : Array Oper) (ms : List Mk) (p : Plan) : Bool := cB (pairsM ms) (okPlanM ops ms p 0 0) false
/-- A row of a region: may it float; may it come late? -/
structure Rw where
  m : Mk
  q : Bool
  l : Bool
noncomputable def rows (l : List Oper) : List Mk → List Rw := itL (fun _ => []) (fun o _ ih ms => cL ms [] fun m t => ⟨m, quietOp P o, lateOp o⟩ :: ih t) l
abbrev FinP := List Rw → Nat → Nat → Plan
noncomputable def passP (l : List Rw) : List Rw → Nat → Nat → Bool → (List Rw → Nat → Nat → Bool → Plan) → Plan :=
  itL (fun acc D L pr k => k (itL (fun b => b) (fun a _ ih b => ih (a :: b)) acc []) D L pr)
    (fun r _ ih acc D L pr k => cB (bAnd r.q (bAnd (rdyM r.m L) (rdyM r.m D))) (.flt r.m.i (ih acc (setB D r.m.i) (setB L r.m.i) true k)) (ih (r :: acc) D L pr k)) l
noncomputable def lessP (i : Nat) (l : List Rw) : List Rw := itL [] (fun r t q => cB (Nat.beq r.m.i i) t (r :: q)) l
noncomputable def bindP (ms : List Mk) (go : FinP) (rest : List Rw) (D L : Nat) : Plan :=
  itL .done (fun r _ q => cB (bAnd (bitA L r.m.i) (onlyM ms r.m.i (Nat.xor L (onB r.m.i)))) (.bind r.m.i (go (lessP r.m.i rest) (setB D r.m.i) L)) q) rest
noncomputable def stepP (ms : List Mk) (go : FinP) (rest : List Rw) (D L : Nat) : Plan :=
  cL (itL [] (fun r _ q => cB (rdyM r.m L) (r :: q) q) rest) (bindP ms go rest D L) fun r t => cL t
    (cB (rdyM r.m D) (.eff r.m.i (go (lessP r.m.i rest) (setB D r.m.i) (setB L r.m.i))) (bindP ms go rest D L))
    fun _ _ => itL (bindP ms go rest D L) (fun r _ q => cB (bAnd r.l (rdyM r.m D)) (.prep r.m.i (go rest D (setB L r.m.i))) q) (r :: t)
noncomputable def planG (ms : List Mk) (rest : List Rw) : Plan :=
  iterF (fun _ => fun _ _ => Plan.done) (fun go rest D L => passP rest [] D L false fun rest D L pr => cL rest .done fun _ _ => cB pr (go rest D L) (stepP ms go rest D L)) 10000 rest 0 0
noncomputable def noneListed (ops : Array Oper) : Array Bool := Array.replicate ops.size false
variable (cf : Cf) (vm : Vm) (fn : FuncId) (n : Nat)
noncomputable def oneN (ev : Ev) (s : AS) (x : AN) : R (AV × AS) := cAN x .no (fun v => .one (v, s)) (fun v s' => .one (v, s')) (fun f args => bindR (ev (.call f args) s) fun y => cOut y.1 (fun v => .one (v, y.2)) fun _ _ => .no)
  (fun l args => bindR (ev (.round l args) s) fun y => cOut y.1 (fun v => .one (v, y.2)) fun _ _ => .no) fun l => .many l
abbrev KG := Cl (FrA → Bool)
/-- Is an operation wanted? -/
noncomputable def kWant (ops : Array Oper) (o : Oper) : Option KG := match o.guard with
  | none => none
  | some (j, want) => match ops[j]? with
    | some p => match p.dst with
      | some d => match Nat.blt d 256 with
        | true => some ⟨fun fr => vBool ((tgF vm d).f fr.t) false fun b => bEq b want⟩
        | false => some ⟨fun _ => false⟩
      | none => some ⟨fun _ => false⟩
    | none => some ⟨fun _ => false⟩
noncomputable def okG (ops : Array Oper) (o : Oper) : Bool := match o.guard with
  | none => true
  | some (j, _) => match ops[j]? with
    | some p => match p.dst with
      | some d => Nat.blt d 256 || Nat.ble n d
      | none => true
    | none => true
abbrev KE := Cl (Ev → FrA → AS → R (AV × AS))
noncomputable def kOne (ops : Array Oper) (o : Oper) : KE := match kWant vm ops o with
  | none => ⟨fun ev fr s => oneN ev s ((kOp P cf vm fn o).f fr s)⟩
  | some g => ⟨fun ev fr s => cB (g.f fr) (oneN ev s ((kOp P cf vm fn o).f fr s)) (.one (.tuple [], s))⟩
abbrev KS := Cl (Ev → FrA → AS → R (FrA × AS))
noncomputable def okOp (ops : Array Oper) (o : Oper) : Bool := okD n o.dst && okG n ops o
noncomputable def kOps (ops : Array Oper) : List Oper → KS
  | [] => ⟨fun _ fr s => .one (fr, s)⟩
  | o :: l => match okOp n ops o with
    | true => ⟨fun ev fr s => bindR ((kOne P cf vm fn ops o).f ev fr s) fun x => (kOps ops l).f ev ((cD vm n o.dst).f fr x.1) x.2⟩
    | false => ⟨fun _ _ _ => .no⟩
noncomputable def waits (o : Oper) (i : Nat) : Bool := o.after.any fun e => Region.binds .any e && e.on == i
/-- What is held: what it was read by, and its value. -/
structure Hd where
  i : Nat
  k : Cl (FrA → AS → AN)
  fr : FrA
  v : AV
/-- An operation's own reading, for what is held of it. -/
noncomputable def kSee (ops : Array Oper) (o : Oper) : KO := match kWant vm ops o with
  | none => kOp P cf vm fn o
  | some g => ⟨fun fr s => cB (g.f fr) ((kOp P cf vm fn o).f fr s) (.get (.tuple []))⟩
noncomputable def heldA (s : AS) (l : List Hd) : Bool := itL true (fun h _ r => cAN (h.k.f h.fr s) false (fun u => cB (beqV u h.v) r false) (fun _ _ => false) (fun _ _ => false) (fun _ _ => false) fun _ => false) l
/-- Those held that an operation does not wait for. -/
noncomputable def keepH (w : List Nat) (l : List Hd) : List Hd := itL [] (fun h _ r => cB (itL false (fun i _ r => cB (Nat.beq i h.i) true r) w) r (h :: r)) l
noncomputable def waitsOn (ops : Array Oper) (o : Oper) : List Nat := (List.range ops.size).filter (waits o)
abbrev KH := Cl (Ev → List Hd → FrA → AS → R (FrA × AS))
noncomputable def kPlan (ops : Array Oper) : Plan → KH
  | .done => ⟨fun _ _ fr s => .one (fr, s)⟩
  | .flt i p => match ops[i]? with
    | none => ⟨fun _ _ _ _ => .no⟩
    | some o => match okOp n ops o, pureOp P o with
      | true, true => ⟨fun ev hs fr s => cAN ((kSee P cf vm fn ops o).f fr s) .no (fun v => (kPlan ops p).f ev hs ((cD vm n o.dst).f fr v) s) (fun _ _ => .no) (fun _ _ => .no) (fun _ _ => .no) fun _ => .no⟩
      | true, false => ⟨fun ev hs fr s => cAN ((kSee P cf vm fn ops o).f fr s) .no (fun v => (kPlan ops p).f ev (⟨i, kSee P cf vm fn ops o, fr, v⟩ :: hs) ((cD vm n o.dst).f fr v) s) (fun _ _ => .no) (fun _ _ => .no) (fun _ _ => .no) fun _ => .no⟩
      | _, _ => ⟨fun _ _ _ _ => .no⟩
  | .prep i p => match ops[i]? with
    | none => ⟨fun _ _ _ _ => .no⟩
    | some o => match okOp n ops o with
      | true => ⟨fun ev hs fr s => cAN ((kOp P cf vm fn o).f fr s) .no (fun _ => .no) (fun _ _ => (kPlan ops p).f ev hs fr s) (fun _ _ => .no) (fun _ _ => .no) fun _ => .no⟩
      | false => ⟨fun _ _ _ _ => .no⟩
  | .bind i p => match ops[i]? with
    | none => ⟨fun _ _ _ _ => .no⟩
    | some o => match okOp n ops o with
      | true => ⟨fun ev hs fr s => bindR (oneN ev s ((kOp P cf vm fn o).f fr s)) fun x => cB (heldA x.2 hs) ((kPlan ops p).f ev hs ((cD vm n o.dst).f fr x.1) x.2) .no⟩
      | false => ⟨fun _ _ _ _ => .no⟩
  | .eff i p => match ops[i]? with
    | none => ⟨fun _ _ _ _ => .no⟩
    | some o => match okOp n ops o with
      | true => ⟨fun ev hs fr s => bindR ((kOne P cf vm fn ops o).f ev fr s) fun x => cB (heldA x.2 (keepH (waitsOn ops o) hs)) ((kPlan ops p).f ev (keepH (waitsOn ops o) hs) ((cD vm n o.dst).f fr x.1) x.2) .no⟩
      | false => ⟨fun _ _ _ _ => .no⟩
noncomputable def planD (ops : Array Oper) (ms : List Mk) : Plan := planG ms (rows P ops.toList ms)
noncomputable def noDS (ops : Array Oper) : Bool := ops.all fun o => match o.op with
  | .defer _ => false
  | .select .. => false
  | _ => true
noncomputable def kDrawM (ops : Array Oper) (ms : List Mk) : KS := match noDS ops && okPlanF ops ms (planD P ops ms) with
  | true => ⟨fun ev fr s => (kPlan P cf vm fn n ops (planD P ops ms)).f ev [] fr s⟩
  | false => ⟨fun _ _ _ => .no⟩
noncomputable def kDraw (ops : Array Oper) : KS := kDrawM P cf vm fn n ops (mks ops ops.toList 0)

/-! ### Calls' ends -/
noncomputable def idsE (l : List Ent) (acc : List Nam) : List Nam := itL acc (fun x _ r => x.id :: idsV x.key (idsV x.val r)) l
noncomputable def idsM (m : Option Nam) (acc : List Nam) : List Nam := cO m acc fun i => i :: acc
noncomputable def idsO (o : AO) (acc : List Nam) : List Nam := oCells o (oMap o (oIter o acc fun m _ seen _ _ => idsM m (app seen acc)) fun es _ => idsE es acc) fun _ _ cs => idsVs cs acc
noncomputable def isFree (o : AO) : Bool := oFree o false true
/-- Which of those made since are reached (a guess: what comes of it is looked through again). -/
noncomputable def reach (h : H6) : List Nam → H6 → H6 :=
  iterF (fun _ k => k) (fun go l k => cL l k fun i r => cB (bOr (isFree (hget h i.p)) (bNot (isFree (hget k i.p)))) (go r k) (go (idsO (hget h i.p) r) (hput k i.p .dead))) 100000
noncomputable def setL (h : H6) (l : List (Nam × AO)) : H6 := itL h (fun x _ r => hput r x.1.p x.2) l
noncomputable def allIn (s : AS) (l : List Nam) : Bool := itL true (fun i _ r => cB (isFree (getA s i)) false (cB (Nat.beq i.n i.p.num) r false)) l
/-- May it be kept? -/
noncomputable def okKeep (o : AO) : Bool := oFree o (oLoop o true fun _ => false) false
noncomputable def closedL (s : AS) (l : List (Nam × AO)) : Bool := itL true (fun x _ r => cB (okKeep x.2) (cB (allIn s (idsO x.2 [])) r false) false) l
noncomputable def mostL (l : List (Nam × AO)) (m : Nat) : Nat := itL m (fun x _ r => maxM (Nat.add x.1.n 1) r) l
noncomputable def beqES (l : List Ent) : List Ent → Bool := itL (fun m => cL m true fun _ _ => false) (fun x _ ih m => cL m false fun y t => cB (beqV x.key y.key) (cB (beqV x.val y.val) (cB (Nat.beq x.id.n y.id.n) (ih t) false) false) false) l
noncomputable def beqNs (l : List Nam) : List Nam → Bool := itL (fun m => cL m true fun _ _ => false) (fun x _ ih m => cL m false fun y t => cB (Nat.beq x.n y.n) (ih t) false) l
noncomputable def beqM : Option Nam → Option Nam → Bool
  | none, none => true
  | some a, some b => Nat.beq a.n b.n
  | _, _ => false
noncomputable def beqMd : Md → Md → Bool
  | .own, .own => true
  | .row, .row => true
  | .lib, .lib => true
  | _, _ => false
noncomputable def beqO : AO → AO → Bool
  | .cells m t a, .cells n u b => beqMd m n && Nat.beq t u && beqVs a b
  | .map a v, .map b u => beqES a b && Nat.beq v u
  | .iter m v s a b, .iter n u r c d => beqM m n && Nat.beq v u && beqNs s r && Nat.beq a c && Nat.beq b d
  | .siter a p, .siter b q => natsEq a b && Nat.beq p q
  | .defr, .defr => true
  | .dead, .dead => true
  | _, _ => false
/-- What a call that merges leaves: its value, and what it keeps. -/
abbrev Left := AV × List (Nam × AO)
noncomputable def endC (s0 : AS) (v : AV) (d : List (Nam × AO)) : Option Left := cB (allIn ⟨setL s0.top d, s0.lay, [], 0⟩ (idsV v [])) (cB (closedL ⟨setL s0.top d, s0.lay, [], 0⟩ d) (some (v, d)) none) none
noncomputable def keepL (s0 : AS) (h k : H6) (l : List Nam) : List (Nam × AO) := itL [] (fun i _ r => cB (isFree (getA s0 i)) (cB (isFree (hget k i.p)) r ((i, hget h i.p) :: r)) ((i, hget h i.p) :: r)) l
noncomputable def rootsL (s0 : AS) (h : H6) (v : AV) (l : List Nam) : List Nam := idsV v (itL [] (fun i _ r => cB (isFree (getA s0 i)) r (idsO (hget h i.p) r)) l)
noncomputable def endA (s0 : AS) (x : AV × AS) : Option Left := endC s0 x.1 (keepL s0 x.2.top (reach x.2.top (rootsL s0 x.2.top x.1 x.2.log) E6) x.2.log)
noncomputable def namesL (h : H6) (l : List (Nam × AO)) (acc : List Nam) : List Nam := itL acc (fun x _ r => oFree (hget h x.1.p) r (x.1 :: r)) l
noncomputable def outS (s0 : AS) (d : List (Nam × AO)) : AS := ⟨setL s0.top d, s0.lay, cL s0.lay s0.log fun _ _ => namesL s0.top d s0.log, mostL d s0.next⟩
noncomputable def sameN (a b : AS) (l : List (Nam × AO)) : Bool := itL true (fun x _ r => cB (beqO (getA a x.1) (getA b x.1)) r false) l
noncomputable def sameD (s0 : AS) (y z : Left) : Bool := cB (beqV y.1 z.1) (cB (sameN (outS s0 y.2) (outS s0 z.2) y.2) (sameN (outS s0 y.2) (outS s0 z.2) z.2) false) false
noncomputable def hasD (s0 : AS) (y : Left) (l : List Left) : Bool := itL false (fun z _ r => cB (sameD s0 z y) true r) l
noncomputable def addsD (s0 : AS) (l : List (AV × AS)) : List Left → Option (List Left) :=
  itL (fun acc => some acc) (fun x _ ih acc => cO (endA s0 x) none fun y => cB (hasD s0 y acc) (ih acc) (ih (app acc [y]))) l
noncomputable def outD (s0 : AS) (x : Left) : Out × AS := (.val x.1, outS s0 x.2)
noncomputable def outsD (s0 : AS) (l : List Left) : R (Out × AS) := cL l (.many []) fun x r => cL r (.one (outD s0 x)) fun _ _ => .many (itL [] (fun y _ q => outD s0 y :: q) l)
noncomputable def undoA (ds : List Nam) : AS → Option AS := itL (fun s => some s) (fun d _ ih s => oDefr (getA s d) none (ih (putA s d .dead))) ds
noncomputable def okRes : List ResultVar → Bool
  | [] => true
  | .tmp i :: l => Nat.blt i 256 && okRes l
  | .cell a _ :: l => Nat.blt a 256 && okRes l
noncomputable def kRes : List ResultVar → Cl (FrA → AS → Option (List AV))
  | [] => ⟨fun _ _ => some []⟩
  | .tmp i :: l => ⟨fun fr s => cO ((kRes l).f fr s) none fun r => some ((tgF vm i).f fr.t :: r)⟩
  | .cell a ty :: l => ⟨fun fr s => cO ((loadA P ty).f ((tgF vm a).f fr.t) s) none fun v => cO ((kRes l).f fr s) none fun r => some (v :: r)⟩
noncomputable def oneA (l : List AV) : AV := cL l (.tuple []) fun v r => cL r v fun _ _ => .tuple l
noncomputable def finA (rs : List ResultVar) (e : Ex) (fr : FrA) (s : AS) : R (AV × AS) := cX e (cO (undoA fr.ds s) .no fun s' => cO ((kRes P vm rs).f fr s') .no fun l => .one (oneA l, s')) (fun _ => .no)
  (cO (undoA fr.ds s) .no fun s' => cO ((kRes P vm rs).f fr s') .no fun l => .one (oneA l, s'))
noncomputable def finsA (rs : List ResultVar) (x : R (Out × AS)) : R (AV × AS) := bindR x fun y => cOut y.1 (fun _ => .no) fun e fr => finA P vm rs e fr y.2

/-! ### Code -/
noncomputable def thenA (x : R (Out × AS)) (f : FrA → AS → R (Out × AS)) : R (Out × AS) := bindR x fun y => cOut y.1 (fun _ => .no) fun e fr => cX e (f fr y.2) (fun _ => .one y) (.one y)
/-- Arguments into a frame's first places. -/
noncomputable def kArgs : Nat → Nat → Cl (List AV → TF → Option TF)
  | 0, _ => ⟨fun l t => cL l (some t) fun _ _ => none⟩
  | m + 1, i => ⟨fun l t => cL l (some t) fun a r => (kArgs m (i + 1)).f r ((tsF vm i).f t a)⟩
noncomputable def kParams (n : Nat) : List Tmp → Cl (List AV → TF → Option TF)
  | [] => ⟨fun l t => cL l (some t) fun _ _ => none⟩
  | p :: ps => match Nat.blt p n && Nat.blt p 256 with
    | true => ⟨fun l t => cL l none fun a r => (kParams n ps).f r ((tsF vm p).f t a)⟩
    | false => ⟨fun _ _ => none⟩
noncomputable def busyA (x : LoopState) : Bool := cLs x false true false false
abbrev KC := Cl (Option Nam → Ev → FrA → AS → R (Out × AS))
noncomputable def endLoopA (ev : Ev) (rd : Option Nam) (l : Nam) (fr : FrA) (s3 : AS) : R (Out × AS) := oLoop (getA s3 l) .no fun r => cB (busyA r.state) .no
  (cO r.pending (.one (.ex .normal fr, putA s3 l (.loop ⟨.exhausted, r.pending, r.st⟩))) fun c => ev (.code c fn vm n rd fr) (putA s3 l (.loop ⟨.exhausted, r.pending, r.st⟩)))
noncomputable def rangeIn (ev : Ev) (params : Array Tmp) (assign body : Code) (rd : Option Nam) (g : FuncId) (first cap : List AV) (t : TF) (d : Nam) (ds : List Nam) (s1 : AS) : R (Out × AS) :=
  newA s1 (.loop ⟨.ready, none, ⟨fn, vm, n, params, assign, body, t, d⟩⟩) 1 .no fun l s2 => bindR (ev (.call g (app first (.yld l :: cap))) s2) fun y => cOut y.1 (fun _ => endLoopA vm fn n ev rd l ⟨t, ds⟩ y.2) fun _ _ => .no
noncomputable def kCode : Code → KC
  | .skip => ⟨fun _ _ fr s => .one (.ex .normal fr, s)⟩
  | .label _ => ⟨fun _ _ fr s => .one (.ex .normal fr, s)⟩
  | .exit i => ⟨fun _ _ fr s => .one (.ex (.exit i) fr, s)⟩
  | .ret => ⟨fun _ _ fr s => .one (.ex .ret fr, s)⟩
  | .seq a b => ⟨fun rd ev fr s => thenA ((kCode a).f rd ev fr s) fun fr s => (kCode b).f rd ev fr s⟩
  | .cond x a b => match okX P.globals.size x with
    | true => ⟨fun rd ev fr s => vBool ((cX1 vm x).f fr) .no fun t => cB t ((kCode a).f rd ev fr s) ((kCode b).f rd ev fr s)⟩
    | false => ⟨fun _ _ _ _ => .no⟩
  | .block i b => ⟨fun rd ev fr s => bindR ((kCode b).f rd ev fr s) fun y => cOut y.1 (fun _ => .no) fun e fr => cX e (.one y) (fun j => cB (Nat.beq i j) (.one (.ex .normal fr, y.2)) (.one y)) (.one y)⟩
  | .loop b => ⟨fun rd ev fr s => thenA ((kCode b).f rd ev fr s) fun fr s => ev (.code (.loop b) fn vm n rd fr) s⟩
  | .scope b => ⟨fun rd ev fr s => (kCode b).f rd ev fr s⟩
  | .region _ ops draw => match draw with
    | false => ⟨fun _ ev fr s => bindR ((kOps P cf vm fn n ops ops.toList).f ev fr s) fun x => .one (.ex .normal x.1, x.2)⟩
    | true => ⟨fun _ ev fr s => bindR ((kDraw P cf vm fn n ops).f ev fr s) fun x => .one (.ex .normal x.1, x.2)⟩
  | .rangeFunc x params assign body => match okX P.globals.size x with
    | true => ⟨fun rd ev fr s => vFn ((cX1 vm x).f fr) .no (fun g first cap => cO rd
        (newA s .defr 1 .no fun d s1 => rangeIn vm fn n ev params assign body rd g first cap fr.t d (d :: fr.ds) s1)
        fun l => oLoop (getA s l) .no fun r => rangeIn vm fn n ev params assign body rd g first cap fr.t r.st.defers fr.ds s) fun _ => .no⟩
    | false => ⟨fun _ _ _ _ => .no⟩
  | _ => ⟨fun _ _ _ _ => .no⟩
end
section
variable (P : Program) (cf : Cf)
noncomputable def valR (x : R (AV × AS)) : R (Out × AS) := bindR x fun y => .one (.val y.1, y.2)
noncomputable def listR {α : Type} (x : R α) : Option (List α) := cR x none (fun a => some [a]) some
abbrev KF := Cl (Ev → List AV → AS → R (Out × AS))
noncomputable def kFun (f : FuncId) : KF := match P.funcs[f]? with
  | none => ⟨fun _ _ _ => .no⟩
  | some fn => match fn.body, fn.name == "runtime.NumGoroutine", okRes fn.results.toList, Nat.ble fn.ntmps 256 with
    | some c, false, true, true => match cf.fl f with
      | false => ⟨fun ev args s => cO ((kArgs (cf.vm f) fn.ntmps 0).f args UF) .no fun t => valR (finsA P (cf.vm f) fn.results.toList ((kCode P cf (cf.vm f) f fn.ntmps c).f none ev ⟨t, []⟩ s))⟩
      | true => ⟨fun ev args s => cO ((kArgs (cf.vm f) fn.ntmps 0).f args UF) .no fun t => cO (listR (finsA P (cf.vm f) fn.results.toList ((kCode P cf (cf.vm f) f fn.ntmps c).f none ev ⟨t, []⟩ ⟨E6, s.top :: s.lay, [], s.next⟩))) .no fun l =>
          cO (addsD s l []) .no fun d => outsD s d⟩
    | _, _, _, _ => ⟨fun _ _ _ => .no⟩
noncomputable def roundEnd (l : Nam) (e : Ex) (s2 : AS) : R (Out × AS) := oLoop (getA s2 l) .no fun r => cX e
  (.one (.val (.bool true), putA s2 l (.loop ⟨.ready, none, r.st⟩)))
  (fun i => .one (.val (.bool false), putA s2 l (.loop ⟨.done, some (.exit i), r.st⟩)))
  (.one (.val (.bool false), putA s2 l (.loop ⟨.done, some .ret, r.st⟩)))
noncomputable def readyA (x : LoopState) : Bool := cLs x true false false false
noncomputable def roundBody (ev : Ev) (l : Nam) (f : FuncId) (vm : Vm) (n : Nat) (body : Code) (fr : FrA) (s1 : AS) : R (Out × AS) := oLoop (getA s1 l) .no fun r => cB (readyA r.state)
  (bindR ((kCode P cf vm f n body).f (some l) ev fr (putA s1 l (.loop ⟨.busy, r.pending, r.st⟩))) fun x => cOut x.1 (fun _ => .no) fun e _ => roundEnd l e x.2) .no
noncomputable def evRound (ev : Ev) (l : Nam) (args : List AV) (s : AS) : R (Out × AS) := oLoop (getA s l) .no fun r => cLSt r.st fun f vm n params assign body tmps _ => cO ((kParams vm n params.toList).f args tmps) .no fun t =>
  bindR ((kCode P cf vm f n assign).f (some l) ev ⟨t, []⟩ s) fun y => cOut y.1 (fun _ => .no) fun e fr => cX e (roundBody P cf ev l f vm n body fr y.2) (fun _ => .no) .no
noncomputable def evF (ev : Ev) (k : Task) (s : AS) : R (Out × AS) := cTask k (fun f args => (kFun P cf f).f ev args s) (fun c f vm n rd fr => (kCode P cf vm f n c).f rd ev fr s) fun l args => evRound P cf ev l args s
noncomputable def ev (n : Nat) : Ev := iterF (fun _ _ => .no) (fun go => evF P cf go) n
end
end Go.Proofs.YtfnjojdiiklleaaGreat.Ev
namespace Go.Proofs.YtfnjojdiiklleaaGreat.Ev
noncomputable def isTrueO (y : Out × AS) : Bool := cOut y.1 (fun v => vBool v false fun b => b) fun _ _ => false
/-- All outcomes are true. -/
noncomputable def allTrue (x : R (Out × AS)) : Bool := cR x false isTrueO fun l => itL true (fun y _ r => cB (isTrueO y) r false) l
noncomputable def clean : AS := ⟨E6, [], [], 0⟩
end Go.Proofs.YtfnjojdiiklleaaGreat.Ev
namespace Go.Proofs.YtfnjojdiiklleaaGreat.Ev

/-! ### The cases' laws -/
@[simp] theorem cB_true {α : Type} (x y : α) : cB true x y = x := rfl
@[simp] theorem cB_false {α : Type} (x y : α) : cB false x y = y := rfl
@[simp] theorem cO_none {α β : Type} (n : β) (f : α → β) : cO none n f = n := rfl
@[simp] theorem cO_some {α β : Type} (a : α) (n : β) (f : α → β) : cO (some a) n f = f a := rfl
@[simp] theorem cL_nil {α β : Type} (n : β) (f : α → List α → β) : cL [] n f = n := rfl
@[simp] theorem cL_cons {α β : Type} (a : α) (l : List α) (n : β) (f : α → List α → β) : cL (a :: l) n f = f a l := rfl
@[simp] theorem cR_no {α β : Type} (n : β) (f : α → β) (g : List α → β) : cR .no n f g = n := rfl
@[simp] theorem cR_one {α β : Type} (a : α) (n : β) (f : α → β) (g : List α → β) : cR (.one a) n f g = f a := rfl
@[simp] theorem cR_many {α β : Type} (l : List α) (n : β) (f : α → β) (g : List α → β) : cR (.many l) n f g = g l := rfl
@[simp] theorem itL_nil {α β : Type} (n : β) (f : α → List α → β → β) : itL n f [] = n := rfl
@[simp] theorem itL_cons {α β : Type} (n : β) (f : α → List α → β → β) (a : α) (l : List α) : itL n f (a :: l) = f a l (itL n f l) := rfl
@[simp] theorem iterF_zero {α β : Type} (z : α → β) (s : (α → β) → α → β) : iterF z s 0 = z := rfl
@[simp] theorem iterF_succ {α β : Type} (z : α → β) (s : (α → β) → α → β) (n : Nat) : iterF z s (n + 1) = s (iterF z s n) := rfl
theorem bAnd_iff {a b : Bool} : bAnd a b = true ↔ a = true ∧ b = true := by cases a <;> cases b <;> simp [bAnd]
theorem bOr_iff {a b : Bool} : bOr a b = true ↔ a = true ∨ b = true := by cases a <;> cases b <;> simp [bOr]
theorem bNot_eq (a : Bool) : bNot a = !a := by cases a <;> rfl
theorem bEq_eq (a b : Bool) : bEq a b = (a == b) := by cases a <;> cases b <;> rfl

/-! ### Lists -/
theorem nth_eq {α : Type} : ∀ (n : Nat) (l : List α), nth n l = l[n]?
  | 0, [] => rfl
  | 0, _ :: _ => rfl
  | _ + 1, [] => rfl
  | n + 1, _ :: l => nth_eq n l
theorem drp_eq {α : Type} : ∀ (n : Nat) (l : List α), drp n l = l.drop n
  | 0, _ => rfl
  | _ + 1, [] => rfl
  | n + 1, _ :: l => drp_eq n l
theorem tke_some {α : Type} : ∀ (n : Nat) (l r : List α), tke n l = some r → r = l.take n ∧ n ≤ l.length
  | 0, l, r, h => by cases h; simp
  | n + 1, [], r, h => by cases h
  | n + 1, a :: l, r, h => by
    have h' : cO (tke n l) none (fun r => some (a :: r)) = some r := h
    cases hk : tke n l with
    | none => rw [hk] at h'; cases h'
    | some q =>
      rw [hk] at h'
      cases h'
      obtain ⟨h1, h2⟩ := tke_some n l q hk
      exact ⟨by simp [h1], by simp; exact h2⟩
theorem put0_some {α : Type} : ∀ (new l r : List α), put0 new l = some r → r = new ++ l.drop new.length ∧ new.length ≤ l.length
  | [], l, r, h => by cases h; simp
  | a :: new, [], r, h => by cases h
  | a :: new, b :: l, r, h => by
    have h' : cO (put0 new l) none (fun r => some (a :: r)) = some r := h
    cases hk : put0 new l with
    | none => rw [hk] at h'; cases h'
    | some q =>
      rw [hk] at h'
      cases h'
      obtain ⟨h1, h2⟩ := put0_some new l q hk
      exact ⟨by simp [h1], by simp; exact h2⟩
theorem put_some {α : Type} (new : List α) : ∀ (o : Nat) (l r : List α), put new o l = some r → r = l.take o ++ (new ++ l.drop (o + new.length)) ∧ o + new.length ≤ l.length
  | 0, l, r, h => by
    obtain ⟨h1, h2⟩ := put0_some new l r h
    exact ⟨by simpa using h1, by omega⟩
  | o + 1, [], r, h => by cases h
  | o + 1, a :: l, r, h => by
    have h' : cO (put new o l) none (fun r => some (a :: r)) = some r := h
    cases hk : put new o l with
    | none => rw [hk] at h'; cases h'
    | some q =>
      rw [hk] at h'
      cases h'
      obtain ⟨h1, h2⟩ := put_some new o l q hk
      refine ⟨?_, by simp; omega⟩
      rw [h1, Nat.add_right_comm]
      simp
theorem app_eq {α : Type} : ∀ (l m : List α), app l m = l ++ m
  | [], _ => rfl
  | a :: l, m => congrArg (a :: ·) (app_eq l m)
theorem len_eq {α : Type} : ∀ (l : List α), len l = l.length
  | [] => rfl
  | _ :: l => congrArg (· + 1) (len_eq l)
theorem rep_length {α : Type} (z : List α) : ∀ n, (rep z n).length = n * z.length
  | 0 => by show ([] : List α).length = _; simp
  | n + 1 => by
    have : rep z (n + 1) = app z (rep z n) := rfl
    rw [this, app_eq, List.length_append, rep_length z n, Nat.succ_mul, Nat.add_comm]

/-! ### Outcomes -/
/-- What may come. -/
noncomputable def R.has {α : Type} (x : R α) (a : α) : Prop := match x with
  | .no => False
  | .one b => a = b
  | .many l => a ∈ l
noncomputable def R.ok {α : Type} (x : R α) : Prop := match x with
  | .no => False
  | _ => True
theorem joinR_ok {α : Type} {x y : R α} (h : (joinR x y).ok) : x.ok ∧ y.ok := by
  cases x <;> cases y <;> first | exact h.elim | exact ⟨trivial, trivial⟩
theorem joinR_has {α : Type} {x y : R α} {a : α} (h : (joinR x y).ok) (ha : x.has a ∨ y.has a) : (joinR x y).has a := by
  cases x <;> cases y <;> first | exact h.elim | skip
  all_goals simp [joinR, R.has, app_eq] at ha ⊢
  all_goals (first | exact ha | (rcases ha with ha | ha <;> simp [ha]))
theorem gather_ok {α β : Type} {f : α → R β} : ∀ {l : List α}, (gather f l).ok → ∀ a ∈ l, (f a).ok ∧ ∀ b, (f a).has b → (gather f l).has b
  | [], _, _, h => by cases h
  | c :: l, h, a, ha => by
    have h' : (joinR (f c) (gather f l)).ok := h
    obtain ⟨h1, h2⟩ := joinR_ok h'
    rcases List.mem_cons.1 ha with rfl | ha
    · exact ⟨h1, fun b hb => joinR_has h' (.inl hb)⟩
    · obtain ⟨h3, h4⟩ := gather_ok h2 a ha
      exact ⟨h3, fun b hb => joinR_has h' (.inr (h4 b hb))⟩
theorem bindR_ok {α β : Type} {x : R α} {f : α → R β} (h : (bindR x f).ok) : x.ok ∧ ∀ a, x.has a → (f a).ok ∧ ∀ b, (f a).has b → (bindR x f).has b := by
  cases x with
  | no => exact h.elim
  | one c => exact ⟨trivial, fun a ha => by cases ha; exact ⟨h, fun b hb => hb⟩⟩
  | many l => exact ⟨trivial, fun a ha => gather_ok h a ha⟩
end Go.Proofs.YtfnjojdiiklleaaGreat.Ev
