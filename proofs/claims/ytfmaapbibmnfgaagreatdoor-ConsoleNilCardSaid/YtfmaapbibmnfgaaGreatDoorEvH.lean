/- Small trees, lists and cases, by recursors: what the evaluator of runs leans on. -/
import GoSem.Step
set_option linter.unusedSectionVars false
namespace Go.Proofs.YtfmaapbibmnfgaaGreatDoor.Ev
/-- A digit of a name. -/
inductive Dg where
  | d0
  | d1
  | d2
  | d3
  | d4
  | d5
  | d6
  | d7
  | d8
  | d9
  | d10
  | d11
  | d12
  | d13
  | d14
  | d15
/-- A path: a name's digits, the highest first. -/
structure Pth where
  p4 : Dg
  p3 : Dg
  p2 : Dg
  p1 : Dg
/-- A name: its number, and its digits. -/
structure Nam where
  n : Nat
  p : Pth
/-- Something that is reckoned once. -/
structure Cl (α : Type) where
  f : α
/-- An abstract value: blocks by names. 'slice b o n c': from cell o of block b on, n elements, capacity c; 'row': its capacity is what the block's row has, less c; 'tail': nothing behind a row's end, at p, or at o where the row has no more than c. -/
inductive AV where
  | bool (b : Bool)
  | int (k : IntKind) (n : Int)
  | str (l : List Nat)
  | rstr (n c : Nat)
  | ifo (i : Nam)
  | ptr (b : Nam) (o : Nat)
  | nilp
  | slice (b : Nam) (o n c : Nat)
  | row (b : Nam) (o n c : Nat)
  | tail (b : Nam) (o p c : Nat)
  | nils
  | map (b : Nam)
  | nilm
  | func (f : FuncId) (first cap : List AV)
  | yld (l : Nam)
  | nilf
  | iface (t : Nat) (v : AV)
  | nili
  | agg (l : List AV)
  | tuple (l : List AV)
  | stamp (i : Nam)
/-! Temporaries: a tree of pairs. -/
abbrev T0 := AV
structure T1 where
  a : T0
  b : T0
structure T2 where
  a : T1
  b : T1
structure T3 where
  a : T2
  b : T2
structure T4 where
  a : T3
  b : T3
structure T5 where
  a : T4
  b : T4
structure T6 where
  a : T5
  b : T5
structure T7 where
  a : T6
  b : T6
structure T8 where
  a : T7
  b : T7
/-- Some temporaries that are looked at often. -/
structure F8 where
  a0 : AV
  a1 : AV
  a2 : AV
  a3 : AV
  a4 : AV
  a5 : AV
  a6 : AV
  a7 : AV
/-- What the temporaries hold. -/
structure B4 where
  v0 : F8
  v1 : F8
  v2 : F8
  v3 : F8
structure TF where
  g : T8
  b : B4
/-- Which temporaries are looked at often. -/
abbrev Vm := List Tmp
/-- A frame: what the temporaries hold, the marks of loops. -/
structure FrA where
  t : TF
  ds : List Nam
/-- What of a loop over a function abides. -/
structure LSt where
  fn : FuncId
  vm : Vm
  n : Nat
  params : Array Tmp
  assign : Code
  body : Code
  tmps : TF
  defers : Nam
/-- A loop over a function, in memory. -/
structure ALoop where
  state : LoopState
  pending : Option Code
  st : LSt
/-- How a row of cells lies: a block of the run's own; a row that an append has made; a variable of the library. -/
inductive Md where
  | own
  | row
  | lib
structure Ent where
  key : AV
  val : AV
  id : Nam
inductive AO where
  | free
  | cells (m : Md) (t : TypeId) (cs : List AV)
  | map (es : List Ent) (clk : Nat)
  | iter (m : Option Nam) (since : Nat) (seen : List Nam) (base : Nat) (sp : Nat)
  | fill (n c : Nat)
  | loop (l : ALoop)
  | defr
  | dead
abbrev H0 := AO
structure H1 where
  a0 : H0
  a1 : H0
  a2 : H0
  a3 : H0
  a4 : H0
  a5 : H0
  a6 : H0
  a7 : H0
  a8 : H0
  a9 : H0
  a10 : H0
  a11 : H0
  a12 : H0
  a13 : H0
  a14 : H0
  a15 : H0
structure H2 where
  a0 : H1
  a1 : H1
  a2 : H1
  a3 : H1
  a4 : H1
  a5 : H1
  a6 : H1
  a7 : H1
  a8 : H1
  a9 : H1
  a10 : H1
  a11 : H1
  a12 : H1
  a13 : H1
  a14 : H1
  a15 : H1
structure H3 where
  a0 : H2
  a1 : H2
  a2 : H2
  a3 : H2
  a4 : H2
  a5 : H2
  a6 : H2
  a7 : H2
  a8 : H2
  a9 : H2
  a10 : H2
  a11 : H2
  a12 : H2
  a13 : H2
  a14 : H2
  a15 : H2
structure H4 where
  a0 : H3
  a1 : H3
  a2 : H3
  a3 : H3
  a4 : H3
  a5 : H3
  a6 : H3
  a7 : H3
  a8 : H3
  a9 : H3
  a10 : H3
  a11 : H3
  a12 : H3
  a13 : H3
  a14 : H3
  a15 : H3
abbrev H6 := H4
structure AS where
  top : H6
  lay : List H6
  log : List Nam
  next : Nat
/-- Outcomes: none that is known; one; many. -/
inductive R (α : Type) where
  | no
  | one (a : α)
  | many (l : List α)
inductive Ex where
  | normal
  | exit (id : Nat)
  | ret
inductive Task where
  | call (f : FuncId) (args : List AV)
  | code (c : Code) (f : FuncId) (vm : Vm) (n : Nat) (rd : Option Nam) (fr : FrA)
  | round (l : Nam) (args : List AV)
inductive Out where
  | val (v : AV)
  | ex (e : Ex) (fr : FrA)
/-- An order in which a region's operations may be gone through: one that only reads may come up at any time; one that only makes a new block may come up as soon as it is 'prep', and is told of as late as 'bind'; one that does more must be alone. -/
inductive Plan where
  | done
  | flt (i : Nat) (p : Plan)
  | prep (i : Nat) (p : Plan)
  | bind (i : Nat) (p : Plan)
  | eff (i : Nat) (p : Plan)
/-- What an operation is: a value that is read; a value, and what memory is then; a call; a round; one of many. -/
inductive AN where
  | no
  | get (v : AV)
  | val (v : AV) (s : AS)
  | enter (f : FuncId) (args : List AV)
  | round (l : Nam) (args : List AV)
  | pick (l : List (AV × AS))
noncomputable def Dg.num (d : Dg) : Nat := Dg.rec (motive := fun _ => Nat) 0 1 2 3 4 5 6 7 8 9 10 11 12 13 14 15 d
noncomputable def digit (k : Nat) : Dg := (Bool.rec (motive := fun _ => Dg) (Bool.rec (motive := fun _ => Dg) (Bool.rec (motive := fun _ => Dg) (Bool.rec (motive := fun _ => Dg) .d15 .d14 (Nat.beq (Nat.land k 1) 0)) (Bool.rec (motive := fun _ => Dg) .d13 .d12 (Nat.beq (Nat.land k 1) 0)) (Nat.beq (Nat.land k 2) 0)) (Bool.rec (motive := fun _ => Dg) (Bool.rec (motive := fun _ => Dg) .d11 .d10 (Nat.beq (Nat.land k 1) 0)) (Bool.rec (motive := fun _ => Dg) .d9 .d8 (Nat.beq (Nat.land k 1) 0)) (Nat.beq (Nat.land k 2) 0)) (Nat.beq (Nat.land k 4) 0)) (Bool.rec (motive := fun _ => Dg) (Bool.rec (motive := fun _ => Dg) (Bool.rec (motive := fun _ => Dg) .d7 .d6 (Nat.beq (Nat.land k 1) 0)) (Bool.rec (motive := fun _ => Dg) .d5 .d4 (Nat.beq (Nat.land k 1) 0)) (Nat.beq (Nat.land k 2) 0)) (Bool.rec (motive := fun _ => Dg) (Bool.rec (motive := fun _ => Dg) .d3 .d2 (Nat.beq (Nat.land k 1) 0)) (Bool.rec (motive := fun _ => Dg) .d1 .d0 (Nat.beq (Nat.land k 1) 0)) (Nat.beq (Nat.land k 2) 0)) (Nat.beq (Nat.land k 4) 0)) (Nat.beq (Nat.land k 8) 0))
noncomputable def digs (k : Nat) : Pth := ⟨digit (Nat.shiftRight k 12), digit (Nat.shiftRight k 8), digit (Nat.shiftRight k 4), digit k⟩
noncomputable def nam (k : Nat) : Nam := ⟨k, digs k⟩
noncomputable def sel1 (d : Dg) : H1 → H0 := Dg.rec (motive := fun _ => H1 → H0) (fun t => t.a0) (fun t => t.a1) (fun t => t.a2) (fun t => t.a3) (fun t => t.a4) (fun t => t.a5) (fun t => t.a6) (fun t => t.a7) (fun t => t.a8) (fun t => t.a9) (fun t => t.a10) (fun t => t.a11) (fun t => t.a12) (fun t => t.a13) (fun t => t.a14) (fun t => t.a15) d
noncomputable def upd1 (d : Dg) : H1 → H0 → H1 := Dg.rec (motive := fun _ => H1 → H0 → H1) (fun t x => H1.rec (motive := fun _ => H1) (fun _ a1 a2 a3 a4 a5 a6 a7 a8 a9 a10 a11 a12 a13 a14 a15 => ⟨x, a1, a2, a3, a4, a5, a6, a7, a8, a9, a10, a11, a12, a13, a14, a15⟩) t) (fun t x => H1.rec (motive := fun _ => H1) (fun a0 _ a2 a3 a4 a5 a6 a7 a8 a9 a10 a11 a12 a13 a14 a15 => ⟨a0, x, a2, a3, a4, a5, a6, a7, a8, a9, a10, a11, a12, a13, a14, a15⟩) t) (fun t x => H1.rec (motive := fun _ => H1) (fun a0 a1 _ a3 a4 a5 a6 a7 a8 a9 a10 a11 a12 a13 a14 a15 => ⟨a0, a1, x, a3, a4, a5, a6, a7, a8, a9, a10, a11, a12, a13, a14, a15⟩) t) (fun t x => H1.rec (motive := fun _ => H1) (fun a0 a1 a2 _ a4 a5 a6 a7 a8 a9 a10 a11 a12 a13 a14 a15 => ⟨a0, a1, a2, x, a4, a5, a6, a7, a8, a9, a10, a11, a12, a13, a14, a15⟩) t) (fun t x => H1.rec (motive := fun _ => H1) (fun a0 a1 a2 a3 _ a5 a6 a7 a8 a9 a10 a11 a12 a13 a14 a15 => ⟨a0, a1, a2, a3, x, a5, a6, a7, a8, a9, a10, a11, a12, a13, a14, a15⟩) t) (fun t x => H1.rec (motive := fun _ => H1) (fun a0 a1 a2 a3 a4 _ a6 a7 a8 a9 a10 a11 a12 a13 a14 a15 => ⟨a0, a1, a2, a3, a4, x, a6, a7, a8, a9, a10, a11, a12, a13, a14, a15⟩) t) (fun t x => H1.rec (motive := fun _ => H1) (fun a0 a1 a2 a3 a4 a5 _ a7 a8 a9 a10 a11 a12 a13 a14 a15 => ⟨a0, a1, a2, a3, a4, a5, x, a7, a8, a9, a10, a11, a12, a13, a14, a15⟩) t) (fun t x => H1.rec (motive := fun _ => H1) (fun a0 a1 a2 a3 a4 a5 a6 _ a8 a9 a10 a11 a12 a13 a14 a15 => ⟨a0, a1, a2, a3, a4, a5, a6, x, a8, a9, a10, a11, a12, a13, a14, a15⟩) t) (fun t x => H1.rec (motive := fun _ => H1) (fun a0 a1 a2 a3 a4 a5 a6 a7 _ a9 a10 a11 a12 a13 a14 a15 => ⟨a0, a1, a2, a3, a4, a5, a6, a7, x, a9, a10, a11, a12, a13, a14, a15⟩) t) (fun t x => H1.rec (motive := fun _ => H1) (fun a0 a1 a2 a3 a4 a5 a6 a7 a8 _ a10 a11 a12 a13 a14 a15 => ⟨a0, a1, a2, a3, a4, a5, a6, a7, a8, x, a10, a11, a12, a13, a14, a15⟩) t) (fun t x => H1.rec (motive := fun _ => H1) (fun a0 a1 a2 a3 a4 a5 a6 a7 a8 a9 _ a11 a12 a13 a14 a15 => ⟨a0, a1, a2, a3, a4, a5, a6, a7, a8, a9, x, a11, a12, a13, a14, a15⟩) t) (fun t x => H1.rec (motive := fun _ => H1) (fun a0 a1 a2 a3 a4 a5 a6 a7 a8 a9 a10 _ a12 a13 a14 a15 => ⟨a0, a1, a2, a3, a4, a5, a6, a7, a8, a9, a10, x, a12, a13, a14, a15⟩) t) (fun t x => H1.rec (motive := fun _ => H1) (fun a0 a1 a2 a3 a4 a5 a6 a7 a8 a9 a10 a11 _ a13 a14 a15 => ⟨a0, a1, a2, a3, a4, a5, a6, a7, a8, a9, a10, a11, x, a13, a14, a15⟩) t) (fun t x => H1.rec (motive := fun _ => H1) (fun a0 a1 a2 a3 a4 a5 a6 a7 a8 a9 a10 a11 a12 _ a14 a15 => ⟨a0, a1, a2, a3, a4, a5, a6, a7, a8, a9, a10, a11, a12, x, a14, a15⟩) t) (fun t x => H1.rec (motive := fun _ => H1) (fun a0 a1 a2 a3 a4 a5 a6 a7 a8 a9 a10 a11 a12 a13 _ a15 => ⟨a0, a1, a2, a3, a4, a5, a6, a7, a8, a9, a10, a11, a12, a13, x, a15⟩) t) (fun t x => H1.rec (motive := fun _ => H1) (fun a0 a1 a2 a3 a4 a5 a6 a7 a8 a9 a10 a11 a12 a13 a14 _ => ⟨a0, a1, a2, a3, a4, a5, a6, a7, a8, a9, a10, a11, a12, a13, a14, x⟩) t) d
noncomputable def sel2 (d : Dg) : H2 → H1 := Dg.rec (motive := fun _ => H2 → H1) (fun t => t.a0) (fun t => t.a1) (fun t => t.a2) (fun t => t.a3) (fun t => t.a4) (fun t => t.a5) (fun t => t.a6) (fun t => t.a7) (fun t => t.a8) (fun t => t.a9) (fun t => t.a10) (fun t => t.a11) (fun t => t.a12) (fun t => t.a13) (fun t => t.a14) (fun t => t.a15) d
noncomputable def upd2 (d : Dg) : H2 → H1 → H2 := Dg.rec (motive := fun _ => H2 → H1 → H2) (fun t x => H2.rec (motive := fun _ => H2) (fun _ a1 a2 a3 a4 a5 a6 a7 a8 a9 a10 a11 a12 a13 a14 a15 => ⟨x, a1, a2, a3, a4, a5, a6, a7, a8, a9, a10, a11, a12, a13, a14, a15⟩) t) (fun t x => H2.rec (motive := fun _ => H2) (fun a0 _ a2 a3 a4 a5 a6 a7 a8 a9 a10 a11 a12 a13 a14 a15 => ⟨a0, x, a2, a3, a4, a5, a6, a7, a8, a9, a10, a11, a12, a13, a14, a15⟩) t) (fun t x => H2.rec (motive := fun _ => H2) (fun a0 a1 _ a3 a4 a5 a6 a7 a8 a9 a10 a11 a12 a13 a14 a15 => ⟨a0, a1, x, a3, a4, a5, a6, a7, a8, a9, a10, a11, a12, a13, a14, a15⟩) t) (fun t x => H2.rec (motive := fun _ => H2) (fun a0 a1 a2 _ a4 a5 a6 a7 a8 a9 a10 a11 a12 a13 a14 a15 => ⟨a0, a1, a2, x, a4, a5, a6, a7, a8, a9, a10, a11, a12, a13, a14, a15⟩) t) (fun t x => H2.rec (motive := fun _ => H2) (fun a0 a1 a2 a3 _ a5 a6 a7 a8 a9 a10 a11 a12 a13 a14 a15 => ⟨a0, a1, a2, a3, x, a5, a6, a7, a8, a9, a10, a11, a12, a13, a14, a15⟩) t) (fun t x => H2.rec (motive := fun _ => H2) (fun a0 a1 a2 a3 a4 _ a6 a7 a8 a9 a10 a11 a12 a13 a14 a15 => ⟨a0, a1, a2, a3, a4, x, a6, a7, a8, a9, a10, a11, a12, a13, a14, a15⟩) t) (fun t x => H2.rec (motive := fun _ => H2) (fun a0 a1 a2 a3 a4 a5 _ a7 a8 a9 a10 a11 a12 a13 a14 a15 => ⟨a0, a1, a2, a3, a4, a5, x, a7, a8, a9, a10, a11, a12, a13, a14, a15⟩) t) (fun t x => H2.rec (motive := fun _ => H2) (fun a0 a1 a2 a3 a4 a5 a6 _ a8 a9 a10 a11 a12 a13 a14 a15 => ⟨a0, a1, a2, a3, a4, a5, a6, x, a8, a9, a10, a11, a12, a13, a14, a15⟩) t) (fun t x => H2.rec (motive := fun _ => H2) (fun a0 a1 a2 a3 a4 a5 a6 a7 _ a9 a10 a11 a12 a13 a14 a15 => ⟨a0, a1, a2, a3, a4, a5, a6, a7, x, a9, a10, a11, a12, a13, a14, a15⟩) t) (fun t x => H2.rec (motive := fun _ => H2) (fun a0 a1 a2 a3 a4 a5 a6 a7 a8 _ a10 a11 a12 a13 a14 a15 => ⟨a0, a1, a2, a3, a4, a5, a6, a7, a8, x, a10, a11, a12, a13, a14, a15⟩) t) (fun t x => H2.rec (motive := fun _ => H2) (fun a0 a1 a2 a3 a4 a5 a6 a7 a8 a9 _ a11 a12 a13 a14 a15 => ⟨a0, a1, a2, a3, a4, a5, a6, a7, a8, a9, x, a11, a12, a13, a14, a15⟩) t) (fun t x => H2.rec (motive := fun _ => H2) (fun a0 a1 a2 a3 a4 a5 a6 a7 a8 a9 a10 _ a12 a13 a14 a15 => ⟨a0, a1, a2, a3, a4, a5, a6, a7, a8, a9, a10, x, a12, a13, a14, a15⟩) t) (fun t x => H2.rec (motive := fun _ => H2) (fun a0 a1 a2 a3 a4 a5 a6 a7 a8 a9 a10 a11 _ a13 a14 a15 => ⟨a0, a1, a2, a3, a4, a5, a6, a7, a8, a9, a10, a11, x, a13, a14, a15⟩) t) (fun t x => H2.rec (motive := fun _ => H2) (fun a0 a1 a2 a3 a4 a5 a6 a7 a8 a9 a10 a11 a12 _ a14 a15 => ⟨a0, a1, a2, a3, a4, a5, a6, a7, a8, a9, a10, a11, a12, x, a14, a15⟩) t) (fun t x => H2.rec (motive := fun _ => H2) (fun a0 a1 a2 a3 a4 a5 a6 a7 a8 a9 a10 a11 a12 a13 _ a15 => ⟨a0, a1, a2, a3, a4, a5, a6, a7, a8, a9, a10, a11, a12, a13, x, a15⟩) t) (fun t x => H2.rec (motive := fun _ => H2) (fun a0 a1 a2 a3 a4 a5 a6 a7 a8 a9 a10 a11 a12 a13 a14 _ => ⟨a0, a1, a2, a3, a4, a5, a6, a7, a8, a9, a10, a11, a12, a13, a14, x⟩) t) d
noncomputable def sel3 (d : Dg) : H3 → H2 := Dg.rec (motive := fun _ => H3 → H2) (fun t => t.a0) (fun t => t.a1) (fun t => t.a2) (fun t => t.a3) (fun t => t.a4) (fun t => t.a5) (fun t => t.a6) (fun t => t.a7) (fun t => t.a8) (fun t => t.a9) (fun t => t.a10) (fun t => t.a11) (fun t => t.a12) (fun t => t.a13) (fun t => t.a14) (fun t => t.a15) d
noncomputable def upd3 (d : Dg) : H3 → H2 → H3 := Dg.rec (motive := fun _ => H3 → H2 → H3) (fun t x => H3.rec (motive := fun _ => H3) (fun _ a1 a2 a3 a4 a5 a6 a7 a8 a9 a10 a11 a12 a13 a14 a15 => ⟨x, a1, a2, a3, a4, a5, a6, a7, a8, a9, a10, a11, a12, a13, a14, a15⟩) t) (fun t x => H3.rec (motive := fun _ => H3) (fun a0 _ a2 a3 a4 a5 a6 a7 a8 a9 a10 a11 a12 a13 a14 a15 => ⟨a0, x, a2, a3, a4, a5, a6, a7, a8, a9, a10, a11, a12, a13, a14, a15⟩) t) (fun t x => H3.rec (motive := fun _ => H3) (fun a0 a1 _ a3 a4 a5 a6 a7 a8 a9 a10 a11 a12 a13 a14 a15 => ⟨a0, a1, x, a3, a4, a5, a6, a7, a8, a9, a10, a11, a12, a13, a14, a15⟩) t) (fun t x => H3.rec (motive := fun _ => H3) (fun a0 a1 a2 _ a4 a5 a6 a7 a8 a9 a10 a11 a12 a13 a14 a15 => ⟨a0, a1, a2, x, a4, a5, a6, a7, a8, a9, a10, a11, a12, a13, a14, a15⟩) t) (fun t x => H3.rec (motive := fun _ => H3) (fun a0 a1 a2 a3 _ a5 a6 a7 a8 a9 a10 a11 a12 a13 a14 a15 => ⟨a0, a1, a2, a3, x, a5, a6, a7, a8, a9, a10, a11, a12, a13, a14, a15⟩) t) (fun t x => H3.rec (motive := fun _ => H3) (fun a0 a1 a2 a3 a4 _ a6 a7 a8 a9 a10 a11 a12 a13 a14 a15 => ⟨a0, a1, a2, a3, a4, x, a6, a7, a8, a9, a10, a11, a12, a13, a14, a15⟩) t) (fun t x => H3.rec (motive := fun _ => H3) (fun a0 a1 a2 a3 a4 a5 _ a7 a8 a9 a10 a11 a12 a13 a14 a15 => ⟨a0, a1, a2, a3, a4, a5, x, a7, a8, a9, a10, a11, a12, a13, a14, a15⟩) t) (fun t x => H3.rec (motive := fun _ => H3) (fun a0 a1 a2 a3 a4 a5 a6 _ a8 a9 a10 a11 a12 a13 a14 a15 => ⟨a0, a1, a2, a3, a4, a5, a6, x, a8, a9, a10, a11, a12, a13, a14, a15⟩) t) (fun t x => H3.rec (motive := fun _ => H3) (fun a0 a1 a2 a3 a4 a5 a6 a7 _ a9 a10 a11 a12 a13 a14 a15 => ⟨a0, a1, a2, a3, a4, a5, a6, a7, x, a9, a10, a11, a12, a13, a14, a15⟩) t) (fun t x => H3.rec (motive := fun _ => H3) (fun a0 a1 a2 a3 a4 a5 a6 a7 a8 _ a10 a11 a12 a13 a14 a15 => ⟨a0, a1, a2, a3, a4, a5, a6, a7, a8, x, a10, a11, a12, a13, a14, a15⟩) t) (fun t x => H3.rec (motive := fun _ => H3) (fun a0 a1 a2 a3 a4 a5 a6 a7 a8 a9 _ a11 a12 a13 a14 a15 => ⟨a0, a1, a2, a3, a4, a5, a6, a7, a8, a9, x, a11, a12, a13, a14, a15⟩) t) (fun t x => H3.rec (motive := fun _ => H3) (fun a0 a1 a2 a3 a4 a5 a6 a7 a8 a9 a10 _ a12 a13 a14 a15 => ⟨a0, a1, a2, a3, a4, a5, a6, a7, a8, a9, a10, x, a12, a13, a14, a15⟩) t) (fun t x => H3.rec (motive := fun _ => H3) (fun a0 a1 a2 a3 a4 a5 a6 a7 a8 a9 a10 a11 _ a13 a14 a15 => ⟨a0, a1, a2, a3, a4, a5, a6, a7, a8, a9, a10, a11, x, a13, a14, a15⟩) t) (fun t x => H3.rec (motive := fun _ => H3) (fun a0 a1 a2 a3 a4 a5 a6 a7 a8 a9 a10 a11 a12 _ a14 a15 => ⟨a0, a1, a2, a3, a4, a5, a6, a7, a8, a9, a10, a11, a12, x, a14, a15⟩) t) (fun t x => H3.rec (motive := fun _ => H3) (fun a0 a1 a2 a3 a4 a5 a6 a7 a8 a9 a10 a11 a12 a13 _ a15 => ⟨a0, a1, a2, a3, a4, a5, a6, a7, a8, a9, a10, a11, a12, a13, x, a15⟩) t) (fun t x => H3.rec (motive := fun _ => H3) (fun a0 a1 a2 a3 a4 a5 a6 a7 a8 a9 a10 a11 a12 a13 a14 _ => ⟨a0, a1, a2, a3, a4, a5, a6, a7, a8, a9, a10, a11, a12, a13, a14, x⟩) t) d
noncomputable def sel4 (d : Dg) : H4 → H3 := Dg.rec (motive := fun _ => H4 → H3) (fun t => t.a0) (fun t => t.a1) (fun t => t.a2) (fun t => t.a3) (fun t => t.a4) (fun t => t.a5) (fun t => t.a6) (fun t => t.a7) (fun t => t.a8) (fun t => t.a9) (fun t => t.a10) (fun t => t.a11) (fun t => t.a12) (fun t => t.a13) (fun t => t.a14) (fun t => t.a15) d
noncomputable def upd4 (d : Dg) : H4 → H3 → H4 := Dg.rec (motive := fun _ => H4 → H3 → H4) (fun t x => H4.rec (motive := fun _ => H4) (fun _ a1 a2 a3 a4 a5 a6 a7 a8 a9 a10 a11 a12 a13 a14 a15 => ⟨x, a1, a2, a3, a4, a5, a6, a7, a8, a9, a10, a11, a12, a13, a14, a15⟩) t) (fun t x => H4.rec (motive := fun _ => H4) (fun a0 _ a2 a3 a4 a5 a6 a7 a8 a9 a10 a11 a12 a13 a14 a15 => ⟨a0, x, a2, a3, a4, a5, a6, a7, a8, a9, a10, a11, a12, a13, a14, a15⟩) t) (fun t x => H4.rec (motive := fun _ => H4) (fun a0 a1 _ a3 a4 a5 a6 a7 a8 a9 a10 a11 a12 a13 a14 a15 => ⟨a0, a1, x, a3, a4, a5, a6, a7, a8, a9, a10, a11, a12, a13, a14, a15⟩) t) (fun t x => H4.rec (motive := fun _ => H4) (fun a0 a1 a2 _ a4 a5 a6 a7 a8 a9 a10 a11 a12 a13 a14 a15 => ⟨a0, a1, a2, x, a4, a5, a6, a7, a8, a9, a10, a11, a12, a13, a14, a15⟩) t) (fun t x => H4.rec (motive := fun _ => H4) (fun a0 a1 a2 a3 _ a5 a6 a7 a8 a9 a10 a11 a12 a13 a14 a15 => ⟨a0, a1, a2, a3, x, a5, a6, a7, a8, a9, a10, a11, a12, a13, a14, a15⟩) t) (fun t x => H4.rec (motive := fun _ => H4) (fun a0 a1 a2 a3 a4 _ a6 a7 a8 a9 a10 a11 a12 a13 a14 a15 => ⟨a0, a1, a2, a3, a4, x, a6, a7, a8, a9, a10, a11, a12, a13, a14, a15⟩) t) (fun t x => H4.rec (motive := fun _ => H4) (fun a0 a1 a2 a3 a4 a5 _ a7 a8 a9 a10 a11 a12 a13 a14 a15 => ⟨a0, a1, a2, a3, a4, a5, x, a7, a8, a9, a10, a11, a12, a13, a14, a15⟩) t) (fun t x => H4.rec (motive := fun _ => H4) (fun a0 a1 a2 a3 a4 a5 a6 _ a8 a9 a10 a11 a12 a13 a14 a15 => ⟨a0, a1, a2, a3, a4, a5, a6, x, a8, a9, a10, a11, a12, a13, a14, a15⟩) t) (fun t x => H4.rec (motive := fun _ => H4) (fun a0 a1 a2 a3 a4 a5 a6 a7 _ a9 a10 a11 a12 a13 a14 a15 => ⟨a0, a1, a2, a3, a4, a5, a6, a7, x, a9, a10, a11, a12, a13, a14, a15⟩) t) (fun t x => H4.rec (motive := fun _ => H4) (fun a0 a1 a2 a3 a4 a5 a6 a7 a8 _ a10 a11 a12 a13 a14 a15 => ⟨a0, a1, a2, a3, a4, a5, a6, a7, a8, x, a10, a11, a12, a13, a14, a15⟩) t) (fun t x => H4.rec (motive := fun _ => H4) (fun a0 a1 a2 a3 a4 a5 a6 a7 a8 a9 _ a11 a12 a13 a14 a15 => ⟨a0, a1, a2, a3, a4, a5, a6, a7, a8, a9, x, a11, a12, a13, a14, a15⟩) t) (fun t x => H4.rec (motive := fun _ => H4) (fun a0 a1 a2 a3 a4 a5 a6 a7 a8 a9 a10 _ a12 a13 a14 a15 => ⟨a0, a1, a2, a3, a4, a5, a6, a7, a8, a9, a10, x, a12, a13, a14, a15⟩) t) (fun t x => H4.rec (motive := fun _ => H4) (fun a0 a1 a2 a3 a4 a5 a6 a7 a8 a9 a10 a11 _ a13 a14 a15 => ⟨a0, a1, a2, a3, a4, a5, a6, a7, a8, a9, a10, a11, x, a13, a14, a15⟩) t) (fun t x => H4.rec (motive := fun _ => H4) (fun a0 a1 a2 a3 a4 a5 a6 a7 a8 a9 a10 a11 a12 _ a14 a15 => ⟨a0, a1, a2, a3, a4, a5, a6, a7, a8, a9, a10, a11, a12, x, a14, a15⟩) t) (fun t x => H4.rec (motive := fun _ => H4) (fun a0 a1 a2 a3 a4 a5 a6 a7 a8 a9 a10 a11 a12 a13 _ a15 => ⟨a0, a1, a2, a3, a4, a5, a6, a7, a8, a9, a10, a11, a12, a13, x, a15⟩) t) (fun t x => H4.rec (motive := fun _ => H4) (fun a0 a1 a2 a3 a4 a5 a6 a7 a8 a9 a10 a11 a12 a13 a14 _ => ⟨a0, a1, a2, a3, a4, a5, a6, a7, a8, a9, a10, a11, a12, a13, a14, x⟩) t) d
def E0 : H0 := .free
def E1 : H1 := ⟨E0, E0, E0, E0, E0, E0, E0, E0, E0, E0, E0, E0, E0, E0, E0, E0⟩
def E2 : H2 := ⟨E1, E1, E1, E1, E1, E1, E1, E1, E1, E1, E1, E1, E1, E1, E1, E1⟩
def E3 : H3 := ⟨E2, E2, E2, E2, E2, E2, E2, E2, E2, E2, E2, E2, E2, E2, E2, E2⟩
def E4 : H4 := ⟨E3, E3, E3, E3, E3, E3, E3, E3, E3, E3, E3, E3, E3, E3, E3, E3⟩
abbrev E6 : H6 := E4
noncomputable def hget (h : H4) (p : Pth) : AO := (sel1 p.p1 (sel2 p.p2 (sel3 p.p3 (sel4 p.p4 h))))
noncomputable def hput (h : H4) (p : Pth) (x : AO) : H4 := (upd4 p.p4 h (upd3 p.p3 (sel4 p.p4 h) (upd2 p.p2 (sel3 p.p3 (sel4 p.p4 h)) (upd1 p.p1 (sel2 p.p2 (sel3 p.p3 (sel4 p.p4 h))) x))))
noncomputable def cB {α : Type} (b : Bool) (x y : α) : α := Bool.rec (motive := fun _ => α) y x b
noncomputable def cO {α β : Type} (x : Option α) (n : β) (f : α → β) : β := Option.rec (motive := fun _ => β) n f x
noncomputable def cL {α β : Type} (l : List α) (n : β) (f : α → List α → β) : β := List.rec (motive := fun _ => β) n (fun a r _ => f a r) l
noncomputable def cI {β : Type} (x : Int) (f g : Nat → β) : β := Int.rec (motive := fun _ => β) f g x
noncomputable def cR {α β : Type} (x : R α) (n : β) (f : α → β) (g : List α → β) : β := R.rec (motive := fun _ => β) n f g x
noncomputable def cX {β : Type} (x : Ex) (n : β) (e : Nat → β) (r : β) : β := Ex.rec (motive := fun _ => β) n e r x
noncomputable def cOut {β : Type} (x : Out) (v : AV → β) (e : Ex → FrA → β) : β := Out.rec (motive := fun _ => β) v e x
noncomputable def cMd {β : Type} (x : Md) (a b c : β) : β := Md.rec (motive := fun _ => β) a b c x
noncomputable def cTask {β : Type} (x : Task) (f : FuncId → List AV → β) (g : Code → FuncId → Vm → Nat → Option Nam → FrA → β) (h : Nam → List AV → β) : β := Task.rec (motive := fun _ => β) f g h x
noncomputable def cLs {β : Type} (x : LoopState) (ready busy done exhausted : β) : β := LoopState.rec (motive := fun _ => β) ready busy done exhausted x
noncomputable def cLSt {β : Type} (x : LSt) (k : FuncId → Vm → Nat → Array Tmp → Code → Code → TF → Nam → β) : β := LSt.rec (motive := fun _ => β) k x
/-- By a list's elements. -/
noncomputable def itL {α β : Type} (n : β) (f : α → List α → β → β) (l : List α) : β := List.rec (motive := fun _ => β) n f l
noncomputable def itP {β : Type} (d : β) (a b c e : Nat → β → β) (p : Plan) : β := Plan.rec (motive := fun _ => β) d (fun i _ r => a i r) (fun i _ r => b i r) (fun i _ r => c i r) (fun i _ r => e i r) p
/-- By fuel. -/
noncomputable def iter {α : Type} (z : α) (s : α → α) (n : Nat) : α := Nat.rec (motive := fun _ => α) z (fun _ r => s r) n
noncomputable def iterF {α β : Type} (z : α → β) (s : (α → β) → α → β) (n : Nat) : α → β := Nat.rec (motive := fun _ => α → β) z (fun _ r => s r) n
noncomputable def vBool {α : Type} (v : AV) (no : α) (fbool : Bool → α) : α := AV.rec (motive_1 := fun _ => α) (motive_2 := fun _ => Unit) fbool (fun _ _ => no) (fun _ => no) (fun _ _ => no) (fun _ => no) (fun _ _ => no) no (fun _ _ _ _ => no) (fun _ _ _ _ => no) (fun _ _ _ _ => no) no (fun _ => no) no (fun _ _ _ _ _ => no) (fun _ => no) no (fun _ _ _ => no) no (fun _ _ => no) (fun _ _ => no) (fun _ => no) () (fun _ _ _ _ => ()) v
noncomputable def vInt {α : Type} (v : AV) (no : α) (fint : IntKind → Int → α) : α := AV.rec (motive_1 := fun _ => α) (motive_2 := fun _ => Unit) (fun _ => no) fint (fun _ => no) (fun _ _ => no) (fun _ => no) (fun _ _ => no) no (fun _ _ _ _ => no) (fun _ _ _ _ => no) (fun _ _ _ _ => no) no (fun _ => no) no (fun _ _ _ _ _ => no) (fun _ => no) no (fun _ _ _ => no) no (fun _ _ => no) (fun _ _ => no) (fun _ => no) () (fun _ _ _ _ => ()) v
noncomputable def vStr {α : Type} (v : AV) (no : α) (fstr : List Nat → α) : α := AV.rec (motive_1 := fun _ => α) (motive_2 := fun _ => Unit) (fun _ => no) (fun _ _ => no) fstr (fun _ _ => no) (fun _ => no) (fun _ _ => no) no (fun _ _ _ _ => no) (fun _ _ _ _ => no) (fun _ _ _ _ => no) no (fun _ => no) no (fun _ _ _ _ _ => no) (fun _ => no) no (fun _ _ _ => no) no (fun _ _ => no) (fun _ _ => no) (fun _ => no) () (fun _ _ _ _ => ()) v
noncomputable def vTx {α : Type} (v : AV) (no : α) (fstr : List Nat → α) (frstr : Nat → Nat → α) : α := AV.rec (motive_1 := fun _ => α) (motive_2 := fun _ => Unit) (fun _ => no) (fun _ _ => no) fstr frstr (fun _ => no) (fun _ _ => no) no (fun _ _ _ _ => no) (fun _ _ _ _ => no) (fun _ _ _ _ => no) no (fun _ => no) no (fun _ _ _ _ _ => no) (fun _ => no) no (fun _ _ _ => no) no (fun _ _ => no) (fun _ _ => no) (fun _ => no) () (fun _ _ _ _ => ()) v
noncomputable def vPtr {α : Type} (v : AV) (no : α) (fptr : Nam → Nat → α) : α := AV.rec (motive_1 := fun _ => α) (motive_2 := fun _ => Unit) (fun _ => no) (fun _ _ => no) (fun _ => no) (fun _ _ => no) (fun _ => no) fptr no (fun _ _ _ _ => no) (fun _ _ _ _ => no) (fun _ _ _ _ => no) no (fun _ => no) no (fun _ _ _ _ _ => no) (fun _ => no) no (fun _ _ _ => no) no (fun _ _ => no) (fun _ _ => no) (fun _ => no) () (fun _ _ _ _ => ()) v
noncomputable def vPtrN {α : Type} (v : AV) (no : α) (fnilp : α) (fptr : Nam → Nat → α) : α := AV.rec (motive_1 := fun _ => α) (motive_2 := fun _ => Unit) (fun _ => no) (fun _ _ => no) (fun _ => no) (fun _ _ => no) (fun _ => no) fptr fnilp (fun _ _ _ _ => no) (fun _ _ _ _ => no) (fun _ _ _ _ => no) no (fun _ => no) no (fun _ _ _ _ _ => no) (fun _ => no) no (fun _ _ _ => no) no (fun _ _ => no) (fun _ _ => no) (fun _ => no) () (fun _ _ _ _ => ()) v
noncomputable def vSl {α : Type} (v : AV) (no : α) (fnils : α) (fslice : Nam → Nat → Nat → Nat → α) (frow : Nam → Nat → Nat → Nat → α) : α := AV.rec (motive_1 := fun _ => α) (motive_2 := fun _ => Unit) (fun _ => no) (fun _ _ => no) (fun _ => no) (fun _ _ => no) (fun _ => no) (fun _ _ => no) no fslice frow (fun _ _ _ _ => no) fnils (fun _ => no) no (fun _ _ _ _ _ => no) (fun _ => no) no (fun _ _ _ => no) no (fun _ _ => no) (fun _ _ => no) (fun _ => no) () (fun _ _ _ _ => ()) v
noncomputable def vSlT {α : Type} (v : AV) (no : α) (fnils : α) (fslice : Nam → Nat → Nat → Nat → α) (frow : Nam → Nat → Nat → Nat → α) (ftail : Nam → Nat → Nat → Nat → α) : α := AV.rec (motive_1 := fun _ => α) (motive_2 := fun _ => Unit) (fun _ => no) (fun _ _ => no) (fun _ => no) (fun _ _ => no) (fun _ => no) (fun _ _ => no) no fslice frow ftail fnils (fun _ => no) no (fun _ _ _ _ _ => no) (fun _ => no) no (fun _ _ _ => no) no (fun _ _ => no) (fun _ _ => no) (fun _ => no) () (fun _ _ _ _ => ()) v
noncomputable def vMap {α : Type} (v : AV) (no : α) (fnilm : α) (fmap : Nam → α) : α := AV.rec (motive_1 := fun _ => α) (motive_2 := fun _ => Unit) (fun _ => no) (fun _ _ => no) (fun _ => no) (fun _ _ => no) (fun _ => no) (fun _ _ => no) no (fun _ _ _ _ => no) (fun _ _ _ _ => no) (fun _ _ _ _ => no) no fmap fnilm (fun _ _ _ _ _ => no) (fun _ => no) no (fun _ _ _ => no) no (fun _ _ => no) (fun _ _ => no) (fun _ => no) () (fun _ _ _ _ => ()) v
noncomputable def vFn {α : Type} (v : AV) (no : α) (ffunc : FuncId → List AV → List AV → α) (fyld : Nam → α) : α := AV.rec (motive_1 := fun _ => α) (motive_2 := fun _ => Unit) (fun _ => no) (fun _ _ => no) (fun _ => no) (fun _ _ => no) (fun _ => no) (fun _ _ => no) no (fun _ _ _ _ => no) (fun _ _ _ _ => no) (fun _ _ _ _ => no) no (fun _ => no) no (fun x0 x1 x2 _ _ => ffunc x0 x1 x2) fyld no (fun _ _ _ => no) no (fun _ _ => no) (fun _ _ => no) (fun _ => no) () (fun _ _ _ _ => ()) v
noncomputable def vFnN {α : Type} (v : AV) (no : α) (fnilf : α) (ffunc : FuncId → List AV → List AV → α) (fyld : Nam → α) : α := AV.rec (motive_1 := fun _ => α) (motive_2 := fun _ => Unit) (fun _ => no) (fun _ _ => no) (fun _ => no) (fun _ _ => no) (fun _ => no) (fun _ _ => no) no (fun _ _ _ _ => no) (fun _ _ _ _ => no) (fun _ _ _ _ => no) no (fun _ => no) no (fun x0 x1 x2 _ _ => ffunc x0 x1 x2) fyld fnilf (fun _ _ _ => no) no (fun _ _ => no) (fun _ _ => no) (fun _ => no) () (fun _ _ _ _ => ()) v
noncomputable def vIf {α : Type} (v : AV) (no : α) (fnili : α) (fiface : Nat → AV → α) : α := AV.rec (motive_1 := fun _ => α) (motive_2 := fun _ => Unit) (fun _ => no) (fun _ _ => no) (fun _ => no) (fun _ _ => no) (fun _ => no) (fun _ _ => no) no (fun _ _ _ _ => no) (fun _ _ _ _ => no) (fun _ _ _ _ => no) no (fun _ => no) no (fun _ _ _ _ _ => no) (fun _ => no) no (fun x0 x1 _ => fiface x0 x1) fnili (fun _ _ => no) (fun _ _ => no) (fun _ => no) () (fun _ _ _ _ => ()) v
noncomputable def vIfo {α : Type} (v : AV) (no : α) (fnili : α) (fiface : Nat → AV → α) (fifo : Nam → α) : α := AV.rec (motive_1 := fun _ => α) (motive_2 := fun _ => Unit) (fun _ => no) (fun _ _ => no) (fun _ => no) (fun _ _ => no) fifo (fun _ _ => no) no (fun _ _ _ _ => no) (fun _ _ _ _ => no) (fun _ _ _ _ => no) no (fun _ => no) no (fun _ _ _ _ _ => no) (fun _ => no) no (fun x0 x1 _ => fiface x0 x1) fnili (fun _ _ => no) (fun _ _ => no) (fun _ => no) () (fun _ _ _ _ => ()) v
noncomputable def vAgg {α : Type} (v : AV) (no : α) (fagg : List AV → α) : α := AV.rec (motive_1 := fun _ => α) (motive_2 := fun _ => Unit) (fun _ => no) (fun _ _ => no) (fun _ => no) (fun _ _ => no) (fun _ => no) (fun _ _ => no) no (fun _ _ _ _ => no) (fun _ _ _ _ => no) (fun _ _ _ _ => no) no (fun _ => no) no (fun _ _ _ _ _ => no) (fun _ => no) no (fun _ _ _ => no) no (fun x0 _ => fagg x0) (fun _ _ => no) (fun _ => no) () (fun _ _ _ _ => ()) v
noncomputable def vTup {α : Type} (v : AV) (no : α) (ftuple : List AV → α) : α := AV.rec (motive_1 := fun _ => α) (motive_2 := fun _ => Unit) (fun _ => no) (fun _ _ => no) (fun _ => no) (fun _ _ => no) (fun _ => no) (fun _ _ => no) no (fun _ _ _ _ => no) (fun _ _ _ _ => no) (fun _ _ _ _ => no) no (fun _ => no) no (fun _ _ _ _ _ => no) (fun _ => no) no (fun _ _ _ => no) no (fun _ _ => no) (fun x0 _ => ftuple x0) (fun _ => no) () (fun _ _ _ _ => ()) v
noncomputable def vStamp {α : Type} (v : AV) (no : α) (fstamp : Nam → α) : α := AV.rec (motive_1 := fun _ => α) (motive_2 := fun _ => Unit) (fun _ => no) (fun _ _ => no) (fun _ => no) (fun _ _ => no) (fun _ => no) (fun _ _ => no) no (fun _ _ _ _ => no) (fun _ _ _ _ => no) (fun _ _ _ _ => no) no (fun _ => no) no (fun _ _ _ _ _ => no) (fun _ => no) no (fun _ _ _ => no) no (fun _ _ => no) (fun _ _ => no) fstamp () (fun _ _ _ _ => ()) v
noncomputable def vG {α : Type} (v : AV) (no : α) (fbool : Bool → α) (fint : IntKind → Int → α) (fstr : List Nat → α) : α := AV.rec (motive_1 := fun _ => α) (motive_2 := fun _ => Unit) fbool fint fstr (fun _ _ => no) (fun _ => no) (fun _ _ => no) no (fun _ _ _ _ => no) (fun _ _ _ _ => no) (fun _ _ _ _ => no) no (fun _ => no) no (fun _ _ _ _ _ => no) (fun _ => no) no (fun _ _ _ => no) no (fun _ _ => no) (fun _ _ => no) (fun _ => no) () (fun _ _ _ _ => ()) v
noncomputable def v1 {α : Type} (v : AV) (no : α) (fagg : List AV → α) (ftuple : List AV → α) : α := AV.rec (motive_1 := fun _ => α) (motive_2 := fun _ => Unit) (fun _ => no) (fun _ _ => no) (fun _ => no) (fun _ _ => no) (fun _ => no) (fun _ _ => no) no (fun _ _ _ _ => no) (fun _ _ _ _ => no) (fun _ _ _ _ => no) no (fun _ => no) no (fun _ _ _ _ _ => no) (fun _ => no) no (fun _ _ _ => no) no (fun x0 _ => fagg x0) (fun x0 _ => ftuple x0) (fun _ => no) () (fun _ _ _ _ => ()) v
noncomputable def oFree {α : Type} (v : AO) (no : α) (ffree : α) : α := AO.rec (motive := fun _ => α) ffree (fun _ _ _ => no) (fun _ _ => no) (fun _ _ _ _ _ => no) (fun _ _ => no) (fun _ => no) no no v
noncomputable def oCells {α : Type} (v : AO) (no : α) (fcells : Md → TypeId → List AV → α) : α := AO.rec (motive := fun _ => α) no fcells (fun _ _ => no) (fun _ _ _ _ _ => no) (fun _ _ => no) (fun _ => no) no no v
noncomputable def oMap {α : Type} (v : AO) (no : α) (fmap : List Ent → Nat → α) : α := AO.rec (motive := fun _ => α) no (fun _ _ _ => no) fmap (fun _ _ _ _ _ => no) (fun _ _ => no) (fun _ => no) no no v
noncomputable def oIter {α : Type} (v : AO) (no : α) (fiter : Option Nam → Nat → List Nam → Nat → Nat → α) : α := AO.rec (motive := fun _ => α) no (fun _ _ _ => no) (fun _ _ => no) fiter (fun _ _ => no) (fun _ => no) no no v
noncomputable def oFill {α : Type} (v : AO) (no : α) (ffill : Nat → Nat → α) : α := AO.rec (motive := fun _ => α) no (fun _ _ _ => no) (fun _ _ => no) (fun _ _ _ _ _ => no) ffill (fun _ => no) no no v
noncomputable def oLoop {α : Type} (v : AO) (no : α) (floop : ALoop → α) : α := AO.rec (motive := fun _ => α) no (fun _ _ _ => no) (fun _ _ => no) (fun _ _ _ _ _ => no) (fun _ _ => no) floop no no v
noncomputable def oDefr {α : Type} (v : AO) (no : α) (fdefr : α) : α := AO.rec (motive := fun _ => α) no (fun _ _ _ => no) (fun _ _ => no) (fun _ _ _ _ _ => no) (fun _ _ => no) (fun _ => no) fdefr no v
noncomputable def cAN {α : Type} (v : AN) (fno : α) (fget : AV → α) (fval : AV → AS → α) (fenter : FuncId → List AV → α) (fround : Nam → List AV → α) (fpick : List (AV × AS) → α) : α := AN.rec (motive := fun _ => α) fno fget fval fenter fround fpick v
noncomputable def nth {α : Type} (n : Nat) : List α → Option α :=
  iterF (fun l => cL l none fun a _ => some a) (fun ih l => cL l none fun _ t => ih t) n
noncomputable def drp {α : Type} (n : Nat) : List α → List α := iterF (fun l => l) (fun ih l => cL l [] fun _ t => ih t) n
noncomputable def tke {α : Type} (n : Nat) : List α → Option (List α) :=
  iterF (fun _ => some []) (fun ih l => cL l none fun a t => cO (ih t) none fun r => some (a :: r)) n
noncomputable def put0 {α : Type} (new : List α) : List α → Option (List α) :=
  itL (fun l => some l) (fun a _ ih l => cL l none fun _ t => cO (ih t) none fun r => some (a :: r)) new
/-- The elements from o on replaced. -/
noncomputable def put {α : Type} (new : List α) (o : Nat) : List α → Option (List α) :=
  iterF (put0 new) (fun ih l => cL l none fun a t => cO (ih t) none fun r => some (a :: r)) o
noncomputable def app {α : Type} (l m : List α) : List α := itL m (fun a _ r => a :: r) l
noncomputable def len {α : Type} (l : List α) : Nat := itL 0 (fun _ _ r => Nat.add r 1) l
noncomputable def rep {α : Type} (z : List α) (n : Nat) : List α := iter [] (fun r => app z r) n
noncomputable def joinR {α : Type} (x : R α) (y : R α) : R α := cR x .no (fun a => cR y .no (fun b => .many [a, b]) fun m => .many (a :: m)) fun l => cR y .no (fun b => .many (app l [b])) fun m => .many (app l m)
noncomputable def gather {α β : Type} (f : α → R β) (l : List α) : R β := itL (.many []) (fun a _ r => joinR (f a) r) l
noncomputable def bindR {α β : Type} (x : R α) (f : α → R β) : R β := cR x .no f fun l => gather f l
def U0 : T0 := .tuple []
def U1 : T1 := ⟨U0, U0⟩
def U2 : T2 := ⟨U1, U1⟩
def U3 : T3 := ⟨U2, U2⟩
def U4 : T4 := ⟨U3, U3⟩
def U5 : T5 := ⟨U4, U4⟩
def U6 : T6 := ⟨U5, U5⟩
def U7 : T7 := ⟨U6, U6⟩
def U8 : T8 := ⟨U7, U7⟩
def tg0 (_ : Nat) : Cl (T0 → AV) := ⟨fun t => t⟩
def ts0 (_ : Nat) : Cl (T0 → AV → T0) := ⟨fun _ v => v⟩
def tg1 (k : Nat) : Cl (T1 → AV) := match k.testBit 0 with
  | true => ⟨fun t => (tg0 k).f t.b⟩
  | false => ⟨fun t => (tg0 k).f t.a⟩
def ts1 (k : Nat) : Cl (T1 → AV → T1) := match k.testBit 0 with
  | true => ⟨fun t v => ⟨t.a, (ts0 k).f t.b v⟩⟩
  | false => ⟨fun t v => ⟨(ts0 k).f t.a v, t.b⟩⟩
def tg2 (k : Nat) : Cl (T2 → AV) := match k.testBit 1 with
  | true => ⟨fun t => (tg1 k).f t.b⟩
  | false => ⟨fun t => (tg1 k).f t.a⟩
def ts2 (k : Nat) : Cl (T2 → AV → T2) := match k.testBit 1 with
  | true => ⟨fun t v => ⟨t.a, (ts1 k).f t.b v⟩⟩
  | false => ⟨fun t v => ⟨(ts1 k).f t.a v, t.b⟩⟩
def tg3 (k : Nat) : Cl (T3 → AV) := match k.testBit 2 with
  | true => ⟨fun t => (tg2 k).f t.b⟩
  | false => ⟨fun t => (tg2 k).f t.a⟩
def ts3 (k : Nat) : Cl (T3 → AV → T3) := match k.testBit 2 with
  | true => ⟨fun t v => ⟨t.a, (ts2 k).f t.b v⟩⟩
  | false => ⟨fun t v => ⟨(ts2 k).f t.a v, t.b⟩⟩
def tg4 (k : Nat) : Cl (T4 → AV) := match k.testBit 3 with
  | true => ⟨fun t => (tg3 k).f t.b⟩
  | false => ⟨fun t => (tg3 k).f t.a⟩
def ts4 (k : Nat) : Cl (T4 → AV → T4) := match k.testBit 3 with
  | true => ⟨fun t v => ⟨t.a, (ts3 k).f t.b v⟩⟩
  | false => ⟨fun t v => ⟨(ts3 k).f t.a v, t.b⟩⟩
def tg5 (k : Nat) : Cl (T5 → AV) := match k.testBit 4 with
  | true => ⟨fun t => (tg4 k).f t.b⟩
  | false => ⟨fun t => (tg4 k).f t.a⟩
def ts5 (k : Nat) : Cl (T5 → AV → T5) := match k.testBit 4 with
  | true => ⟨fun t v => ⟨t.a, (ts4 k).f t.b v⟩⟩
  | false => ⟨fun t v => ⟨(ts4 k).f t.a v, t.b⟩⟩
def tg6 (k : Nat) : Cl (T6 → AV) := match k.testBit 5 with
  | true => ⟨fun t => (tg5 k).f t.b⟩
  | false => ⟨fun t => (tg5 k).f t.a⟩
def ts6 (k : Nat) : Cl (T6 → AV → T6) := match k.testBit 5 with
  | true => ⟨fun t v => ⟨t.a, (ts5 k).f t.b v⟩⟩
  | false => ⟨fun t v => ⟨(ts5 k).f t.a v, t.b⟩⟩
def tg7 (k : Nat) : Cl (T7 → AV) := match k.testBit 6 with
  | true => ⟨fun t => (tg6 k).f t.b⟩
  | false => ⟨fun t => (tg6 k).f t.a⟩
def ts7 (k : Nat) : Cl (T7 → AV → T7) := match k.testBit 6 with
  | true => ⟨fun t v => ⟨t.a, (ts6 k).f t.b v⟩⟩
  | false => ⟨fun t v => ⟨(ts6 k).f t.a v, t.b⟩⟩
def tg8 (k : Nat) : Cl (T8 → AV) := match k.testBit 7 with
  | true => ⟨fun t => (tg7 k).f t.b⟩
  | false => ⟨fun t => (tg7 k).f t.a⟩
def ts8 (k : Nat) : Cl (T8 → AV → T8) := match k.testBit 7 with
  | true => ⟨fun t v => ⟨t.a, (ts7 k).f t.b v⟩⟩
  | false => ⟨fun t v => ⟨(ts7 k).f t.a v, t.b⟩⟩
def f8g (k : Nat) : Cl (F8 → AV) := match k % 8 with
  | 0 => ⟨fun t => t.a0⟩
  | 1 => ⟨fun t => t.a1⟩
  | 2 => ⟨fun t => t.a2⟩
  | 3 => ⟨fun t => t.a3⟩
  | 4 => ⟨fun t => t.a4⟩
  | 5 => ⟨fun t => t.a5⟩
  | 6 => ⟨fun t => t.a6⟩
  | _ => ⟨fun t => t.a7⟩
noncomputable def f8s (k : Nat) : Cl (F8 → AV → F8) := match k % 8 with
  | 0 => ⟨fun t v => F8.rec (motive := fun _ => F8) (fun _ a1 a2 a3 a4 a5 a6 a7 => ⟨v, a1, a2, a3, a4, a5, a6, a7⟩) t⟩
  | 1 => ⟨fun t v => F8.rec (motive := fun _ => F8) (fun a0 _ a2 a3 a4 a5 a6 a7 => ⟨a0, v, a2, a3, a4, a5, a6, a7⟩) t⟩
  | 2 => ⟨fun t v => F8.rec (motive := fun _ => F8) (fun a0 a1 _ a3 a4 a5 a6 a7 => ⟨a0, a1, v, a3, a4, a5, a6, a7⟩) t⟩
  | 3 => ⟨fun t v => F8.rec (motive := fun _ => F8) (fun a0 a1 a2 _ a4 a5 a6 a7 => ⟨a0, a1, a2, v, a4, a5, a6, a7⟩) t⟩
  | 4 => ⟨fun t v => F8.rec (motive := fun _ => F8) (fun a0 a1 a2 a3 _ a5 a6 a7 => ⟨a0, a1, a2, a3, v, a5, a6, a7⟩) t⟩
  | 5 => ⟨fun t v => F8.rec (motive := fun _ => F8) (fun a0 a1 a2 a3 a4 _ a6 a7 => ⟨a0, a1, a2, a3, a4, v, a6, a7⟩) t⟩
  | 6 => ⟨fun t v => F8.rec (motive := fun _ => F8) (fun a0 a1 a2 a3 a4 a5 _ a7 => ⟨a0, a1, a2, a3, a4, a5, v, a7⟩) t⟩
  | _ => ⟨fun t v => F8.rec (motive := fun _ => F8) (fun a0 a1 a2 a3 a4 a5 a6 _ => ⟨a0, a1, a2, a3, a4, a5, a6, v⟩) t⟩
def idxT : List Tmp → Nat → Nat → Option Nat
  | [], _, _ => none
  | x :: l, k, j => match Nat.beq x k with
    | true => some j
    | false => idxT l k (j + 1)
def vIdx (vm : Vm) (k : Nat) : Option Nat := match idxT vm k 0 with
  | some j => match Nat.blt j 32 with
    | true => some j
    | false => none
  | none => none
def b4g (j : Nat) : Cl (B4 → AV) := match j / 8 with
  | 0 => ⟨fun b => (f8g j).f b.v0⟩
  | 1 => ⟨fun b => (f8g j).f b.v1⟩
  | 2 => ⟨fun b => (f8g j).f b.v2⟩
  | _ => ⟨fun b => (f8g j).f b.v3⟩
noncomputable def b4s (j : Nat) : Cl (B4 → AV → B4) := match j / 8 with
  | 0 => ⟨fun b v => ⟨(f8s j).f b.v0 v, b.v1, b.v2, b.v3⟩⟩
  | 1 => ⟨fun b v => ⟨b.v0, (f8s j).f b.v1 v, b.v2, b.v3⟩⟩
  | 2 => ⟨fun b v => ⟨b.v0, b.v1, (f8s j).f b.v2 v, b.v3⟩⟩
  | _ => ⟨fun b v => ⟨b.v0, b.v1, b.v2, (f8s j).f b.v3 v⟩⟩
def tgF (vm : Vm) (k : Nat) : Cl (TF → AV) := match vIdx vm k with
  | some j => ⟨fun t => (b4g j).f t.b⟩
  | none => ⟨fun t => (tg8 k).f t.g⟩
noncomputable def tsF (vm : Vm) (k : Nat) : Cl (TF → AV → TF) := match vIdx vm k with
  | some j => ⟨fun t v => ⟨t.g, (b4s j).f t.b v⟩⟩
  | none => ⟨fun t v => ⟨(ts8 k).f t.g v, t.b⟩⟩
def V0 : F8 := ⟨U0, U0, U0, U0, U0, U0, U0, U0⟩
def UF : TF := ⟨U8, ⟨V0, V0, V0, V0⟩⟩
end Go.Proofs.YtfmaapbibmnfgaaGreatDoor.Ev
