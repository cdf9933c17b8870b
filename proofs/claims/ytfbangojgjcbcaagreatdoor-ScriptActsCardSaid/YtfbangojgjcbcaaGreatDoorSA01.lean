/- Part 1 of the proof: PlainP, Base, Frame, Open, PlainO, PlainQ, PlainT, PlainA, PlainS, PlainG, PlainK, ConfA, OpenC, PlainX, PlainY, PlainH, PlainZ. -/
import Derived.WalkKit
import Derived.Test.YtfbangojgjcbcaaGreatDoorChecked
import Derived.WalkSpells
import Derived.WalkLawsBesides
import Derived.StillTactics
import Derived.Deep.QuietTactic
import Derived.BigQuiet
import Derived.Deep.RegionHeld3
import Derived.Deep.AppendLies
import Derived.Deep.Draws
import Derived.Deep.OwnRows
import Derived.Deep.DeepFit
import Derived.Maps.AppendAt
import Derived.Lib.Hide
import Derived.Lib.LaidTab
import Derived.Lib.ItoaNum
import Derived.Lib.ConvBytes
import Derived.RowKit3
import Derived.OwnWalk
import Derived.Laws.OwnMore
import Derived.Laws.IdiomStrings
import Derived.Test.YtfbangojgjcbcaaGreatDoorRows
import Derived.Test.YtfbangojgjcbcaaGreatDoorCards
import Derived.Test.YtfbangojgjcbcaaGreatDoorTie
import Derived.ProofKit
import Derived.OpenShut
import Derived.ShutString
import Derived.ChangeOld
import Derived.Deep.DeepHandedRow
import Derived.Deep.DeepWitnessRowRef
import Derived.Lib.LaidU8
import Derived.Lib.LaidIn
import Derived.Lib.SmallJoins
import Derived.SevenTiedAt
import Derived.Shelf.LaysM
import Derived.Lib.Join
import Derived.Lib.JoinLaws
import Derived.Lib.Split
import Derived.Lib.SplitLaws
import Derived.Lib.ParseIntB
import Derived.Lib.CutLaws
import Derived.Deep.Slices
import Derived.Lib.AtoiAll
import Derived.Lib.Bytealg
namespace Go.Proofs.YtfbangojgjcbcaaGreatDoor.Pl
/-- 2 to the number of bits behind the first n. -/
def blk (n : Int) : Int := ((2 ^ (32 - n.toNat) : Nat) : Int)
/-- May the prefix be? -/
def mayP (a n : Int) : Bool := decide (0 ≤ n) && (decide (n ≤ 32) && decide (a % blk n = 0))
/-- The first n bits, the others noughts. -/
def firstP (a n : Int) : Int := a / blk n * blk n
def hasP (a n x : Int) : Bool := mayP a n && decide (firstP x n = a)
def cmpI (x y : Int) : Int := if x < y then -1 else if y < x then 1 else 0
def cmpP (a n b m : Int) : Int := if cmpI a b = 0 then cmpI n m else cmpI a b
end Go.Proofs.YtfbangojgjcbcaaGreatDoor.Pl
namespace Go.Proofs.YtfbangojgjcbcaaGreatDoor
open Go.RowKit Pl
/-- A byte list as cells. -/
def cellsB (l : List UInt8) : List Value := l.map fun b => .int .u8 (b.toNat : Int)
theorem cellsB_length (l : List UInt8) : (cellsB l).length = l.length := by simp [cellsB]
theorem cellsB_append (l m : List UInt8) : cellsB (l ++ m) = cellsB l ++ cellsB m := by simp [cellsB]
/-- The slice value v reads as the bytes l in world w. -/
def Bs (w : World) (v : Value) (l : List UInt8) : Prop :=
  ∃ (A : Option Addr) (c : Nat), v = .slice A l.length c ∧ l.length ≤ c ∧ (A = none → c = 0) ∧
    (0 < l.length → ∃ b off, A = some ⟨b, off, none⟩ ∧ b < w.heap.size ∧ ∀ j u, (cellsB l)[j]? = some u → w.cell? ⟨b, off + j, none⟩ = some u)
theorem Bs.keep {w w' : World} {v : Value} {l : List UInt8} (h : Bs w v l) (hs : w.heap.size ≤ w'.heap.size) (hk : ∀ p : Addr, p.block < w.heap.size → w'.cell? p = w.cell? p) : Bs w' v l := by
  obtain ⟨A, c, rfl, hc, hn, hA⟩ := h
  refine ⟨A, c, rfl, hc, hn, fun hp => ?_⟩
  obtain ⟨b, off, rfl, hb, hcell⟩ := hA hp
  exact ⟨b, off, rfl, by omega, fun j u hu => (hk _ hb).trans (hcell j u hu)⟩
theorem Bs.below {w w' : World} {v : Value} {l : List UInt8} (h : Bs w v l) (hb : Below w.heap.size w w') : Bs w' v l := h.keep hb.size fun _ hp => hb.cell hp
theorem Bs.alloc {w : World} {v : Value} {l : List UInt8} (h : Bs w v l) (o : Obj) : Bs (w.alloc o) v l := h.keep (by simp) fun p hp => World.cell?_alloc_lt w o p hp
theorem Bs.drewN {w : World} {v : Value} {l : List UInt8} (h : Bs w v l) (n : Nat) : Bs (w.drewN n) v l := h
theorem Bs.nil (w : World) : Bs w (.slice none 0 0) [] := ⟨none, 0, rfl, Nat.le_refl _, fun _ => rfl, fun h => absurd h (by simp)⟩
theorem Bs.own {w : World} {base : Nat} {v : Value} {n : Nat} {l : List UInt8} (h : w.ownsRow base 5 1 v n (cellsB l)) : Bs w v l := by
  have hn : n = l.length := by have := h.1; simp [cellsB_length] at this; omega
  subst hn
  rcases h.2 with ⟨rfl, h0⟩ | ⟨g, cap, cur, rfl, hg, hh, hnc, _⟩
  · have h0' : l = [] := by simpa [cellsB] using h0
    subst h0'; exact Bs.nil w
  · refine ⟨_, cap, rfl, hnc, (fun h => by cases h), fun hp => ⟨g, 0, rfl, ?_, fun j u hu => ?_⟩⟩
    · exact (h.lt g rfl).2
    · have := h.cells (g := g) rfl j u hu
      rw [show ((⟨g, 0, none⟩ : Addr).add j) = ⟨g, 0 + j, none⟩ from by unfold Addr.add; by_cases hj : j = 0 <;> simp [hj]] at this
      exact this
/-- 'string(v)'. -/
theorem Bs.conv {w : World} {v : Value} {l : List UInt8} (h : Bs w v l) : (convert 37 9 v).run Tryz.prog w = .ok (.string ⟨l.toArray⟩) w := by
  obtain ⟨A, c, rfl, hc, hn, hA⟩ := h
  by_cases hp : 0 < l.length
  · obtain ⟨b, off, rfl, hb, hcell⟩ := hA hp
    refine run_convert_bytes_back w 37 9 5 ⟨b, off, none⟩ c l Tryz.underlying37 Tryz.underlying5 Tryz.underlying9 (fun j hj => ?_)
    have h1 := hcell j (.int .u8 (l[j].toNat : Int)) (by simp [cellsB, hj])
    rw [show ((⟨b, off, none⟩ : Addr).add j) = ⟨b, off + j, none⟩ from by unfold Addr.add; by_cases hj : j = 0 <;> simp [hj]]
    exact h1
  · have h0 : l = [] := List.eq_nil_of_length_eq_zero (by omega)
    subst h0
    rw [run_convert_bytes_string w 37 9 5 A _ c Tryz.underlying37 Tryz.underlying5 Tryz.underlying9]
    cases A with
    | none => simp [Conv.bytesToString, Sem.run_pure]; rfl
    | some a => exact run_bytesToString w a 0 c [] (by simpa using run_loadCells_list (P := Tryz.prog) w a [] (by simp))
/-- What the package-level variables of Go's library hold. -/
structure Env (w : World) : Prop where
  size : 8 ≤ w.heap.size
  maxlen : ∃ m, w.cell? ⟨0, 0, none⟩ = some (.int .i64 m)
  pow : Lib.TabIs Tryz.prog w "internal/strconv.uint64pow10" .u64 Lib.pow10Tab
  syn : ∃ t p, w.cell? ⟨2, 0, none⟩ = some (.iface t p)
  rng : ∃ t p, w.cell? ⟨3, 0, none⟩ = some (.iface t p)
theorem Env.below {w w' : World} {B : Nat} (h : Env w) (hB : 8 ≤ B) (hb : Below B w w') : Env w' := by
  obtain ⟨h0, ⟨m, h1⟩, h2, ⟨t1, p1, h3⟩, ⟨t2, p2, h4⟩⟩ := h
  refine ⟨Nat.le_trans h0 hb.size, ⟨m, (hb.cell (show _ < _ by dsimp only; omega)).trans h1⟩, ?_, ⟨t1, p1, (hb.cell (show _ < _ by dsimp only; omega)).trans h3⟩, ⟨t2, p2, (hb.cell (show _ < _ by dsimp only; omega)).trans h4⟩⟩
  exact var?_below hb (show Tryz.prog.globalNamed "internal/strconv.uint64pow10" = some 1 by kernel_rfl) (by omega) h2
theorem Env.here {w w' : World} (h : Env w) (hb : Below w.heap.size w w') : Env w' := h.below h.size hb
theorem info_u8 : (Tryz.prog.info? 5).map (fun i => (i.zero, i.size, i.bytes)) = some (some (.int .u8 0), 1, 1) := by kernel_rfl
theorem info_str : (Tryz.prog.info? 9).map (fun i => (i.zero, i.size, i.bytes)) = some (some (.string ⟨#[]⟩), 1, 16) := by kernel_rfl
theorem ret_int {k : IntKind} {a b : Int} (h : a = b) : Ending.returned (.int k a) = .returned (.int k b) := by rw [h]
theorem grownBy_alloc {w w' : World} {o : Obj} {row : Option Nat} (h : (w.alloc o).grownBy w' row) : w.grownBy w' row :=
  ⟨h.os, h.tape, h.output, Nat.le_trans (by simp) h.size, fun i hi hne => (h.block i (by simp; omega) hne).trans (Below.heap_alloc w o i hi)⟩
theorem grownBy_drew {w w' : World} {row : Option Nat} (h : w.drew.grownBy w' row) : w.grownBy w' row := ⟨h.os, h.tape, h.output, h.size, h.block⟩
/-- 'out = append(out, x)', out the call's own, one cell an element: x lies in a new block of its own. -/
theorem wpList_push {P : Program} {ops : Array Oper} {rest : List Oper} {o : Oper} {a : Act} {Q : Exit → Act → World → Prop} {w0 : World} {e0 : TypeId} {u : Value} (hgd : o.guard = none) (s x : Operand) (t : TypeId)
    (ho : o.op = .call { callee := .builtin .append, args := #[s, x], argTypes := #[t, t] })
    (base : Nat) (e : TypeId) {z : Value} {bytes : Nat} (hinfo : (P.info? e).map (fun i => (i.zero, i.size, i.bytes)) = some (some z, 1, bytes)) (hzs : z.cells.size = 1) (hby : bytes ≤ 1000) (ht : P.underlying t = some (.slice e))
    (v : Value) (n : Nat) (xs : List Value) (hs : a.eval s = v) (hown : w0.ownsRow base e 1 v n xs) (hx : a.eval x = .slice (some ⟨w0.heap.size, 0, none⟩) 1 1) (hu : u.oneCell' = true)
    (hn : n ≤ 1000000000) (hbase : base ≤ w0.heap.size)
    (h : ∀ v' w', w'.ownsRow base e 1 v' (n + 1) (xs ++ [u]) → w0.grownBy w' v.ownBlock → wpList P ops Q rest (a.put o.dst v') w') : wpList P ops Q (o :: rest) a (w0.alloc (.cells #[u] e0)) := by
  obtain ⟨i0, hi, hz0, hz1, hz2⟩ := info_parts hinfo
  refine wpList_append_own _ hgd s x t ho base e i0 z 1 bytes ht hi hz0 hz1 hz2 hzs (by decide) v n xs hs (hown.alloc _) ⟨w0.heap.size, 0, none⟩ 1 1 [u] hx rfl (cell_one_new _ _ _) (by intro y hy; simp at hy; subst hy; exact hu) (by unfold maxLen; omega) ?_ (by simp; omega) fun v' w' h1 h2 _ => h v' w' h1 (grownBy_alloc h2)
  have : (n + 1) * bytes ≤ (n + 1) * 1000 := Nat.mul_le_mul_left _ hby
  omega
/-! ### Regions that draw their order, whose operations read what was there and whose callees make memory: one walk, in the order of the text. -/
/-- A world that keeps all that W holds. -/
structure Ext (W : World) where
  w : World
  below : Below W.heap.size W w
instance (W : World) : Nonempty (Ext W) := ⟨⟨W, Below.refl _ _⟩⟩
theorem wp_region_ext {P : Program} {id : Nat} {Q : Exit → Act → World → Prop} {a : Act} {W : World} {l : List Oper} (hm : P.follows .mixedOrders = true) (hB : Region.lexB .any l.toArray = true)
    (h : wpQuiet P l.toArray (fun w' => ∃ x : Ext W, w' = x.w) (fun a' => ∀ w', (∃ x : Ext W, w' = x.w) → Q .normal a' w') l a) : (Code.region id l.toArray true).wp P Q a W :=
  wp_region_quiet (C := fun w' => ∃ x : Ext W, w' = x.w) hm hB ⟨⟨_, (Below.refl _ W).drew⟩, rfl⟩ (by simpa using h)
theorem Ext.call {P : Program} {f : FuncId} {args : Array Value} {W : World} {x : Ext W} {v : Value}
    (h : Calls P f args x.w fun e w' => e = .returned v ∧ Below x.w.heap.size x.w w') : Calls P f args x.w fun e w'' => e = .returned v ∧ ∃ y : Ext W, w'' = y.w :=
  h.mono fun _ w' ⟨he, hb⟩ => ⟨he, ⟨w', x.below.trans (hb.mono x.below.size)⟩, rfl⟩
theorem Ext.callq {P : Program} {f : FuncId} {args : Array Value} {W : World} {x : Ext W} {v : Value}
    (h : Calls P f args x.w fun e w' => e = .returned v ∧ x.w = w') : Calls P f args x.w fun e w'' => e = .returned v ∧ ∃ y : Ext W, w'' = y.w :=
  h.mono fun _ _ ⟨he, hb⟩ => ⟨he, x, hb.symm⟩
@[go_sem] theorem Ext.cell {W : World} (x : Ext W) (p : Addr) (h : p.block < W.heap.size) : x.w.cell? p = W.cell? p := x.below.cell h
@[go_sem] theorem Ext.frozen {W : World} (x : Ext W) (p : Addr) (h : p.block < W.heap.size) : x.w.frozen? p = W.frozen? p := x.below.frozen h
theorem Ext.env {W : World} (x : Ext W) (h : Env W) : Env x.w := h.here x.below
theorem Env.alloc {W : World} (h : Env W) (o : Obj) : Env (W.alloc o) := h.here ((Below.refl _ _).alloc (Nat.le_refl _) o)
theorem Bs.ext {W : World} {v : Value} {l : List UInt8} (h : Bs W v l) (x : Ext W) : Bs x.w v l := h.below x.below
theorem Ext.lift {w W : World} (y : Ext W) (h : Below w.heap.size w W) : Below w.heap.size w y.w := h.trans (y.below.mono h.size)
theorem bel_alloc {w W : World} (h : Below w.heap.size w W) (o : Obj) : Below w.heap.size w (W.alloc o) := h.alloc h.size o
theorem ext_of {P : Program} {f : FuncId} {args : Array Value} {W : World} {v : Value} (h : Calls P f args W fun e w' => e = .returned v ∧ Below W.heap.size W w') :
    Calls P f args W fun e w' => e = .returned v ∧ ∃ y : Ext W, w' = y.w := h.mono fun _ w' ⟨he, hb⟩ => ⟨he, ⟨w', hb⟩, rfl⟩
theorem own_below {w w' : World} {base : Nat} {e : TypeId} {size n : Nat} {v : Value} {xs : List Value} (h : w.ownsRow base e size v n xs) (hb : Below w.heap.size w w') : w'.ownsRow base e size v n xs :=
  h.kept (row := none) ⟨hb.os, hb.tape, hb.output, hb.size, fun i hi _ => hb.block i hi⟩ (by
    cases hv : v.ownBlock with
    | none => exact .inl rfl
    | some g => exact .inr (by simp))
theorem bel_set {w W : World} (h : Below w.heap.size w W) (k i : Nat) (u : Value) : Below w.heap.size w (W.setCell ⟨w.heap.size + k, i, none⟩ u) := h.setCell (Nat.le_add_right _ _) u
theorem bel_set0 {w W : World} (h : Below w.heap.size w W) (i : Nat) (u : Value) : Below w.heap.size w (W.setCell ⟨w.heap.size, i, none⟩ u) := h.setCell (Nat.le_refl _) u
theorem Bs.drew {w : World} {v : Value} {l : List UInt8} (h : Bs w v l) : Bs w.drew v l := h
theorem below_undrew {B : Nat} {w w' : World} (h : Below B w.drew w') : Below B w w' := ⟨h.os, h.tape, h.output, h.size, h.block⟩
/-- A list of bytes as a string. -/
def str (l : List UInt8) : ByteArray := ⟨l.toArray⟩
end Go.Proofs.YtfbangojgjcbcaaGreatDoor
namespace Go.Proofs.YtfbangojgjcbcaaGreatDoor
open Go.ChangeShapes Go.WideShapes Go.ChangeAt Go.RowKit
theorem own : ownKnob Tryz.prog.godebug = none := by kernel_rfl
theorem laidOut : laidOutB Tryz.prog = true := by kernel_rfl
theorem var?_lt {W : World} {n : String} {g : Nat} {cs : Array Value} (hg : Tryz.prog.globalNamed n = some g) (h : W.var? Tryz.prog n = some cs) : g < W.heap.size := by
  rcases Nat.lt_or_ge g W.heap.size with hlt | hge
  · exact hlt
  · exfalso
    simp only [World.var?, hg, Option.bind_some] at h
    rw [Array.getElem?_eq_none hge] at h
    cases h
theorem env_of {W : World} (hL : laidMetH Tryz.prog Rows.confParsesRow.laid W) (hsh : W.ShapedOpen Tryz.prog) : Env W := by
  have hM : laidMet Tryz.prog Rows.confParsesRow.laid W := hL
  have hsz : 8 ≤ W.heap.size := by
    obtain ⟨ps, hv, _⟩ := hM.filter (fun x => x.1 == "math/bits.deBruijn64tab")
    obtain ⟨g, t, cs, fuel, p, q, e1, e2, e3, e4, _, _⟩ := (show DataW.LaidVars Tryz.prog W [("math/bits.deBruijn64tab", Rows.laid_math_bits_deBruijn64tab)] ps from hv)
    have h1 := var?_lt e1 e3
    obtain rfl : 7 = g := Option.some.inj ((show Tryz.prog.globalNamed "math/bits.deBruijn64tab" = some 7 by kernel_rfl).symm.trans e1)
    omega
  refine ⟨hsz, Go.Proofs.cell_of_shapedOpen_int (zero := #[.int .i64 0]) (t := 3) hsh (of_decide_eq_true (by kernel_rfl)) (by kernel_rfl) rfl (by kernel_rfl) (by kernel_rfl) Tryz.underlying3, ?_, ?_, ?_⟩
  · have h := hM.filter (fun x => x.1 == "internal/strconv.uint64pow10")
    exact Lib.tabIs_of_head (rest := []) (g := 1) (t := 260) (e := 169) (n := 20) (by kernel_rfl) (by kernel_rfl) (by kernel_rfl) (by kernel_rfl) (by kernel_rfl) (by kernel_rfl) h
  · obtain ⟨ps, hv, _⟩ := hM.filter (fun x => x.1 == "strconv.ErrSyntax")
    obtain ⟨g, t, cs, fuel, p, q, e1, e2, e3, e4, _, _⟩ := (show DataW.LaidVars Tryz.prog W [("strconv.ErrSyntax", Rows.laid_strconv_ErrSyntax)] ps from hv)
    obtain rfl : 2 = g := Option.some.inj ((show Tryz.prog.globalNamed "strconv.ErrSyntax" = some 2 by kernel_rfl).symm.trans e1)
    obtain rfl : 116 = t := Option.some.inj ((show (Tryz.prog.globals[2]?).map (·.type) = some 116 by kernel_rfl).symm.trans e2)
    obtain ⟨_, u, x, hcs, _⟩ := iface_of_trod Tryz.underlying116 e4
    refine ⟨u, x, ?_⟩
    rw [World.var?_cell e1 e3 0, ← Array.getElem?_toList, hcs]; rfl
  · obtain ⟨ps, hv, _⟩ := hM.filter (fun x => x.1 == "strconv.ErrRange")
    obtain ⟨g, t, cs, fuel, p, q, e1, e2, e3, e4, _, _⟩ := (show DataW.LaidVars Tryz.prog W [("strconv.ErrRange", Rows.laid_strconv_ErrRange)] ps from hv)
    obtain rfl : 3 = g := Option.some.inj ((show Tryz.prog.globalNamed "strconv.ErrRange" = some 3 by kernel_rfl).symm.trans e1)
    obtain rfl : 116 = t := Option.some.inj ((show (Tryz.prog.globals[3]?).map (·.type) = some 116 by kernel_rfl).symm.trans e2)
    obtain ⟨_, u, x, hcs, _⟩ := iface_of_trod Tryz.underlying116 e4
    refine ⟨u, x, ?_⟩
    rw [World.var?_cell e1 e3 0, ← Array.getElem?_toList, hcs]; rfl
/-- A start: the settled world with two blocks more (the two errors' texts), the listed variables holding what their initialisers lay. -/
noncomputable def laidWorld (os : Os) : World :=
  let N := (World.settled Tryz.prog os).heap.size
  let w0 := World.holding Tryz.prog os ⟨#[.cells #[.string ⟨#[118, 97, 108, 117, 101, 32, 111, 117, 116, 32, 111, 102, 32, 114, 97, 110, 103, 101]⟩] 275, .cells #[.string ⟨#[105, 110, 118, 97, 108, 105, 100, 32, 115, 121, 110, 116, 97, 120]⟩] 275], #[], []⟩
  let put (h : Array Obj) (g : Nat) (cs : Array Value) : Array Obj := h.modify g fun
    | .cells _ t frozen => .cells cs t frozen
    | o => o
  let h0 := put w0.heap 3 #[.iface 273 (.pointer (some ⟨N, 0, none⟩))]
  let h1 := put h0 2 #[.iface 273 (.pointer (some ⟨N + 1, 0, none⟩))]
  let h2 := put h1 1 #[.int .u64 1, .int .u64 10, .int .u64 100, .int .u64 1000, .int .u64 10000, .int .u64 100000, .int .u64 1000000, .int .u64 10000000, .int .u64 100000000, .int .u64 1000000000, .int .u64 10000000000, .int .u64 100000000000, .int .u64 1000000000000, .int .u64 10000000000000, .int .u64 100000000000000, .int .u64 1000000000000000, .int .u64 10000000000000000, .int .u64 100000000000000000, .int .u64 1000000000000000000, .int .u64 10000000000000000000]
  let h3 := put h2 4 (Lib.firstTab.map fun z => Value.int .u8 z).toArray
  let h4 := put h3 5 #[.int .u8 128, .int .u8 191, .int .u8 160, .int .u8 191, .int .u8 128, .int .u8 159, .int .u8 144, .int .u8 191, .int .u8 128, .int .u8 143, .int .u8 0, .int .u8 0, .int .u8 0, .int .u8 0, .int .u8 0, .int .u8 0, .int .u8 0, .int .u8 0, .int .u8 0, .int .u8 0, .int .u8 0, .int .u8 0, .int .u8 0, .int .u8 0, .int .u8 0, .int .u8 0, .int .u8 0, .int .u8 0, .int .u8 0, .int .u8 0, .int .u8 0, .int .u8 0]
  let h5 := put h4 6 #[.int .u8 0, .int .u8 1, .int .u8 28, .int .u8 2, .int .u8 29, .int .u8 14, .int .u8 24, .int .u8 3, .int .u8 30, .int .u8 22, .int .u8 20, .int .u8 15, .int .u8 25, .int .u8 17, .int .u8 4, .int .u8 8, .int .u8 31, .int .u8 27, .int .u8 13, .int .u8 23, .int .u8 21, .int .u8 19, .int .u8 16, .int .u8 7, .int .u8 26, .int .u8 12, .int .u8 18, .int .u8 6, .int .u8 11, .int .u8 5, .int .u8 10, .int .u8 9]
  let h6 := put h5 7 #[.int .u8 0, .int .u8 1, .int .u8 56, .int .u8 2, .int .u8 57, .int .u8 49, .int .u8 28, .int .u8 3, .int .u8 61, .int .u8 58, .int .u8 42, .int .u8 50, .int .u8 38, .int .u8 29, .int .u8 17, .int .u8 4, .int .u8 62, .int .u8 47, .int .u8 59, .int .u8 36, .int .u8 45, .int .u8 43, .int .u8 51, .int .u8 22, .int .u8 53, .int .u8 39, .int .u8 33, .int .u8 30, .int .u8 24, .int .u8 18, .int .u8 12, .int .u8 5, .int .u8 63, .int .u8 55, .int .u8 48, .int .u8 27, .int .u8 60, .int .u8 41, .int .u8 37, .int .u8 16, .int .u8 46, .int .u8 35, .int .u8 44, .int .u8 21, .int .u8 52, .int .u8 32, .int .u8 23, .int .u8 11, .int .u8 54, .int .u8 26, .int .u8 40, .int .u8 15, .int .u8 34, .int .u8 20, .int .u8 31, .int .u8 10, .int .u8 25, .int .u8 14, .int .u8 19, .int .u8 9, .int .u8 13, .int .u8 8, .int .u8 7, .int .u8 6]
  { w0 with heap := h6 }
set_option maxRecDepth 1000000 in
theorem laid_met (os : Os) (args : Array Value) : laidMet Tryz.prog Rows.confParsesRow.laid ((laidWorld os).forCall (fun _ _ => 0) ⟨#[], args, []⟩).memory :=
  laidMet_of_run' 8 (by kernel_rfl) (by kernel_rfl)
end Go.Proofs.YtfbangojgjcbcaaGreatDoor
namespace Go.Proofs.YtfbangojgjcbcaaGreatDoor
open Go.ChangeShapes Go.WideShapes Go.ChangeAt Go.RowKit
section
variable {H : Type} {enc : TypeId × Value → H} {W : World} {base b0 : Nat} {sp : Nat → Bool} {held : Bool} {r : Reach}
set_option maxRecDepth 100000 in
theorem open_i64 {v : Value} {d : DataW H} {p : List MemPlace} (hv : Value.okWide Tryz.prog W r b0 3 v) (h : DataW.Trod enc Tryz.prog W base sp held 3 v d p) :
    ∃ a, v = .int .i64 a := by
  obtain ⟨a, rfl, _, _, _⟩ := open_int Tryz.underlying3 hv h
  exact ⟨a, rfl⟩
set_option maxRecDepth 100000 in
theorem open_str {v : Value} {d : DataW H} {p : List MemPlace} (hv : Value.okWide Tryz.prog W r b0 9 v) (h : DataW.Trod enc Tryz.prog W base sp held 9 v d p) :
    ∃ l : List UInt8, v = .string (str l) ∧ l.length ≤ maxLen := by
  obtain ⟨s, rfl, _, _, hs⟩ := Go.ChangeMaps.open_string Tryz.underlying9 hv h
  refine ⟨s.data.toList, by simp [str], ?_⟩
  have e : s.data.toList.length = s.size := Array.length_toList
  rw [e]; exact hs
end
end Go.Proofs.YtfbangojgjcbcaaGreatDoor
namespace Go.Proofs.YtfbangojgjcbcaaGreatDoor.Pl
theorem mayP_iff (a n : Int) : mayP a n = true ↔ 0 ≤ n ∧ n ≤ 32 ∧ a % blk n = 0 := by unfold mayP; simp
theorem hasP_iff (a n x : Int) : hasP a n x = true ↔ mayP a n = true ∧ firstP x n = a := by unfold hasP; simp
end Go.Proofs.YtfbangojgjcbcaaGreatDoor.Pl
namespace Go.Proofs.YtfbangojgjcbcaaGreatDoor.Pl
/-- The longest common front. -/
def lcp : List Bool → List Bool → List Bool
  | a :: l, b :: m => if a = b then a :: lcp l m else []
  | _, _ => []
theorem lcp_left : ∀ l m, lcp l m <+: l
  | [], m => by simp [lcp]
  | a :: l, [] => by simp [lcp]
  | a :: l, b :: m => by
    unfold lcp; split
    · exact List.cons_prefix_cons.2 ⟨rfl, lcp_left l m⟩
    · exact List.nil_prefix
/-- Where neither is ahead of the other they part behind the common front. -/
theorem lcp_parts : ∀ l m, ¬ l <+: m → ¬ m <+: l → ∃ a, lcp l m ++ [a] <+: l ∧ lcp l m ++ [!a] <+: m
  | [], m, h, _ => absurd List.nil_prefix h
  | a :: l, [], _, h => absurd List.nil_prefix h
  | a :: l, b :: m, h1, h2 => by
    unfold lcp
    by_cases h : a = b
    · subst h
      obtain ⟨x, h3, h4⟩ := lcp_parts l m (fun k => h1 (List.cons_prefix_cons.2 ⟨rfl, k⟩)) (fun k => h2 (List.cons_prefix_cons.2 ⟨rfl, k⟩))
      refine ⟨x, ?_, ?_⟩ <;> simp [*]
    · refine ⟨a, ?_, ?_⟩
      · simp [h]
      · simp only [if_neg h, List.nil_append]
        have : b = !a := by cases a <;> cases b <;> simp_all
        rw [this]; simp
theorem next_prefix {k p : List Bool} (h : k <+: p) (hne : ¬ k = p) : ∃ b, p[k.length]? = some b ∧ k ++ [b] <+: p := by
  obtain ⟨t, rfl⟩ := h
  cases t with
  | nil => simp at hne
  | cons b t => exact ⟨b, by simp, ⟨t, by simp⟩⟩
/-- A tree of prefixes: each node's block, its bits, whether it is one, what lies below. -/
inductive Tree where
  | nil
  | node (b : Nat) (k : List Bool) (has : Bool) (l r : Tree)
def Tree.all : Tree → List (List Bool)
  | .nil => []
  | .node _ k _ l r => k :: (l.all ++ r.all)
def Tree.keys : Tree → List (List Bool)
  | .nil => []
  | .node _ k has l r => (if has then [k] else []) ++ (l.keys ++ r.keys)
def Tree.blocks : Tree → List Nat
  | .nil => []
  | .node b _ _ l r => b :: (l.blocks ++ r.blocks)
def Tree.Inv : Tree → Prop
  | .nil => True
  | .node _ k _ l r => k.length ≤ 32 ∧ (∀ q ∈ l.all, k ++ [false] <+: q) ∧ (∀ q ∈ r.all, k ++ [true] <+: q) ∧ l.Inv ∧ r.Inv
theorem Tree.keys_all : ∀ {t : Tree} {q}, q ∈ t.keys → q ∈ t.all
  | .nil, q, h => by simp [keys] at h
  | .node b k has l r, q, h => by
    simp only [keys, List.mem_append] at h
    simp only [all, List.mem_cons, List.mem_append]
    rcases h with h | h | h
    · cases has <;> simp at h; exact .inl h
    · exact .inr (.inl (keys_all h))
    · exact .inr (.inr (keys_all h))
/-- A prefix put in: b1 the new node's block, b2 a fork's. -/
def Tree.ins (b1 b2 : Nat) (p : List Bool) : Tree → Tree
  | .nil => .node b1 p true .nil .nil
  | .node b k has l r =>
    if k = p then .node b k true l r
    else if k <+: p then (if p[k.length]? = some true then .node b k has l (ins b1 b2 p r) else .node b k has (ins b1 b2 p l) r)
    else if p <+: k then (if k[p.length]? = some true then .node b1 p true .nil (.node b k has l r) else .node b1 p true (.node b k has l r) .nil)
    else (if p[(lcp k p).length]? = some true then .node b2 (lcp k p) false (.node b k has l r) (.node b1 p true .nil .nil) else .node b2 (lcp k p) false (.node b1 p true .nil .nil) (.node b k has l r))
theorem Tree.ins_all {b1 b2 : Nat} {p x : List Bool} (hx : x <+: p) : ∀ {t : Tree}, (∀ q ∈ t.all, x <+: q) → ∀ q ∈ (t.ins b1 b2 p).all, x <+: q
  | .nil, _, q, hq => by simp [ins, all] at hq; subst hq; exact hx
  | .node b k has l r, h, q, hq => by
    have hk := h k (by simp [all])
    have hl : ∀ q ∈ l.all, x <+: q := fun q hq => h q (by simp [all, hq])
    have hr : ∀ q ∈ r.all, x <+: q := fun q hq => h q (by simp [all, hq])
    have hlc : ¬ k <+: p → ¬ p <+: k → x <+: lcp k p := fun _ _ => by
      obtain ⟨s, rfl⟩ := hk
      obtain ⟨u, rfl⟩ := hx
      have : ∀ (x s u : List Bool), lcp (x ++ s) (x ++ u) = x ++ lcp s u := by
        intro x s u
        induction x with
        | nil => rfl
        | cons a x ih => simp [lcp, ih]
      rw [this]; exact List.prefix_append _ _
    unfold ins at hq
    split at hq
    · simp only [all, List.mem_cons, List.mem_append] at hq
      rcases hq with rfl | hq | hq
      · exact hk
      · exact hl q hq
      · exact hr q hq
    · split at hq
      · split at hq <;> simp only [all, List.mem_cons, List.mem_append] at hq
        · rcases hq with rfl | hq | hq
          · exact hk
          · exact hl q hq
          · exact ins_all hx hr q hq
        · rcases hq with rfl | hq | hq
          · exact hk
          · exact ins_all hx hl q hq
          · exact hr q hq
      · split at hq
        · split at hq <;> simp only [all, List.mem_cons, List.mem_append, List.not_mem_nil, false_or, or_false] at hq
          · rcases hq with rfl | rfl | hq | hq
            · exact hx
            · exact hk
            · exact hl q hq
            · exact hr q hq
          · rcases hq with rfl | rfl | hq | hq
            · exact hx
            · exact hk
            · exact hl q hq
            · exact hr q hq
        · rename_i h2 h3
          split at hq <;> simp only [all, List.mem_cons, List.mem_append, List.not_mem_nil, or_false] at hq
          · rcases hq with rfl | (rfl | hq | hq) | rfl
            · exact hlc h2 h3
            · exact hk
            · exact hl q hq
            · exact hr q hq
            · exact hx
          · rcases hq with rfl | rfl | rfl | hq | hq
            · exact hlc h2 h3
            · exact hx
            · exact hk
            · exact hl q hq
            · exact hr q hq
theorem at_prefix {k p : List Bool} {b : Bool} (h : k <+: p) (hb : p[k.length]? = some b) : k ++ [b] <+: p := by
  obtain ⟨t, rfl⟩ := h
  cases t with
  | nil => simp at hb
  | cons c t => simp at hb; subst hb; exact ⟨t, by simp⟩
theorem prefix_at {x p : List Bool} {b : Bool} (h : x ++ [b] <+: p) : p[x.length]? = some b := by
  obtain ⟨s, rfl⟩ := h; simp
theorem not_true_false {o : Option Bool} {b : Bool} (h : o = some b) (hn : ¬ o = some true) : o = some false := by
  subst h; cases b <;> simp_all
theorem Tree.ins_inv {b1 b2 : Nat} {p : List Bool} (hp : p.length ≤ 32) : ∀ {t : Tree}, t.Inv → (t.ins b1 b2 p).Inv
  | .nil, _ => by simp [ins, Inv, all, hp]
  | .node b k has l r, h => by
    obtain ⟨hk, h1, h2, h3, h4⟩ := h
    unfold ins
    split
    · exact ⟨hk, h1, h2, h3, h4⟩
    · rename_i hne
      split
      · rename_i hkp
        obtain ⟨c, hc, _⟩ := next_prefix hkp hne
        split
        · rename_i ht
          exact ⟨hk, h1, ins_all (at_prefix hkp ht) h2, h3, ins_inv hp h4⟩
        · rename_i ht
          exact ⟨hk, ins_all (at_prefix hkp (not_true_false hc ht)) h1, h2, ins_inv hp h3, h4⟩
      · split
        · rename_i hkp hpk
          obtain ⟨c, hc, _⟩ := next_prefix hpk (fun e => hne e.symm)
          have hall : ∀ {x : List Bool}, x <+: k → ∀ q ∈ (Tree.node b k has l r).all, x <+: q := fun hx q hq => by
            simp only [all, List.mem_cons, List.mem_append] at hq
            rcases hq with rfl | hq | hq
            · exact hx
            · exact hx.trans ((List.prefix_append _ _).trans (h1 q hq))
            · exact hx.trans ((List.prefix_append _ _).trans (h2 q hq))
          split
          · rename_i ht
            exact ⟨hp, by simp [all], hall (at_prefix hpk ht), trivial, hk, h1, h2, h3, h4⟩
          · rename_i ht
            exact ⟨hp, hall (at_prefix hpk (not_true_false hc ht)), by simp [all], ⟨hk, h1, h2, h3, h4⟩, trivial⟩
        · rename_i hkp hpk
          obtain ⟨c, e1, e2⟩ := lcp_parts k p hkp hpk
          have hlen : (lcp k p).length ≤ 32 := by have := (lcp_left k p).length_le; omega
          have hall : ∀ {x : List Bool}, x <+: k → ∀ q ∈ (Tree.node b k has l r).all, x <+: q := fun hx q hq => by
            simp only [all, List.mem_cons, List.mem_append] at hq
            rcases hq with rfl | hq | hq
            · exact hx
            · exact hx.trans ((List.prefix_append _ _).trans (h1 q hq))
            · exact hx.trans ((List.prefix_append _ _).trans (h2 q hq))
          have hpc : p[(lcp k p).length]? = some (!c) := prefix_at e2
          split
          · rename_i ht
            have hc0 : c = false := by rw [ht] at hpc; cases c <;> simp_all
            subst hc0
            refine ⟨hlen, hall e1, fun q hq => ?_, ⟨hk, h1, h2, h3, h4⟩, hp, by simp [all], by simp [all], trivial, trivial⟩
            simp [all] at hq; subst hq; exact e2
          · rename_i ht
            have hc0 : c = true := by rw [hpc] at ht; cases c <;> simp_all
            subst hc0
            refine ⟨hlen, fun q hq => ?_, hall e1, ⟨hp, by simp [all], by simp [all], trivial, trivial⟩, hk, h1, h2, h3, h4⟩
            simp [all] at hq; subst hq; exact e2
/-- The prefixes that were, and the one put in. -/
theorem Tree.ins_keys {b1 b2 : Nat} {p : List Bool} : ∀ {t : Tree} {q}, q ∈ (t.ins b1 b2 p).keys ↔ q = p ∨ q ∈ t.keys
  | .nil, q => by simp [ins, keys]
  | .node b k has l r, q => by
    unfold ins
    split
    · rename_i h; subst h; cases has <;> simp [keys]
    · split
      · split <;> simp only [keys, List.mem_append, ins_keys (t := l), ins_keys (t := r)]
        · constructor
          · rintro (h | h | h | h)
            · exact .inr (.inl h)
            · exact .inr (.inr (.inl h))
            · exact .inl h
            · exact .inr (.inr (.inr h))
          · rintro (h | h | h | h)
            · exact .inr (.inr (.inl h))
            · exact .inl h
            · exact .inr (.inl h)
            · exact .inr (.inr (.inr h))
        · constructor
          · rintro (h | (h | h) | h)
            · exact .inr (.inl h)
            · exact .inl h
            · exact .inr (.inr (.inl h))
            · exact .inr (.inr (.inr h))
          · rintro (h | h | h | h)
            · exact .inr (.inl (.inl h))
            · exact .inl h
            · exact .inr (.inl (.inr h))
            · exact .inr (.inr h)
      · split
        · split <;> simp [keys]
        · split
          · simp only [keys, List.mem_append, Bool.false_eq_true, if_false, if_true, List.not_mem_nil, false_or, or_false, List.mem_singleton]
            exact or_comm
          · simp only [keys, List.mem_append, Bool.false_eq_true, if_false, if_true, List.not_mem_nil, false_or, or_false, List.mem_singleton]
/-- Is a prefix one of the tree's, by going down? -/
def Tree.find (p : List Bool) : Tree → Bool
  | .nil => false
  | .node _ k has l r => if k = p then has else if k <+: p then (if p[k.length]? = some true then r.find p else l.find p) else false
/-- How many have an address, on the way down. -/
def Tree.cover (x : List Bool) : Tree → Nat
  | .nil => 0
  | .node _ k has l r => if k <+: x then (if has then 1 else 0) + (if k.length = 32 then 0 else if x[k.length]? = some true then r.cover x else l.cover x) else 0
theorem Tree.cover_iff {x : List Bool} (hx : x.length = 32) : ∀ {t : Tree}, t.Inv → (0 < t.cover x ↔ ∃ q ∈ t.keys, q <+: x)
  | .nil, _ => by simp [cover, keys]
  | .node b k has l r, h => by
    obtain ⟨hk, h1, h2, h3, h4⟩ := h
    unfold cover
    simp only [keys, List.mem_append]
    split
    · rename_i hkx
      cases has with
      | true =>
        simp only [if_true]
        exact ⟨fun _ => ⟨k, .inl (by simp), hkx⟩, fun _ => by omega⟩
      | false =>
        simp only [Bool.false_eq_true, if_false, List.not_mem_nil, false_or, Nat.zero_add]
        split
        · rename_i h32
          refine ⟨fun hh => by omega, fun ⟨q, hq, hqx⟩ => ?_⟩
          exfalso
          have hle := hqx.length_le
          rcases hq with hq | hq
          · have := (h1 q (keys_all hq)).length_le; simp at this; omega
          · have := (h2 q (keys_all hq)).length_le; simp at this; omega
        · have hpref : ∀ c : Bool, k ++ [c] <+: x → x[k.length]? = some c := fun c ⟨s, hs⟩ => by rw [← hs]; simp
          split
          · rename_i ht
            rw [cover_iff hx h4]
            refine ⟨fun ⟨q, hq, hqx⟩ => ⟨q, .inr hq, hqx⟩, fun ⟨q, hq, hqx⟩ => ?_⟩
            rcases hq with hq | hq
            · have := hpref _ ((h1 q (keys_all hq)).trans hqx); rw [ht] at this; cases this
            · exact ⟨q, hq, hqx⟩
          · rename_i ht
            rw [cover_iff hx h3]
            refine ⟨fun ⟨q, hq, hqx⟩ => ⟨q, .inl hq, hqx⟩, fun ⟨q, hq, hqx⟩ => ?_⟩
            rcases hq with hq | hq
            · exact ⟨q, hq, hqx⟩
            · exact absurd (hpref _ ((h2 q (keys_all hq)).trans hqx)) ht
    · rename_i hkx
      refine ⟨fun hh => by omega, fun ⟨q, hq, hqx⟩ => ?_⟩
      exfalso
      rcases hq with hq | hq | hq
      · cases has <;> simp at hq; subst hq; exact hkx hqx
      · exact hkx ((List.prefix_append _ _).trans ((h1 q (keys_all hq)).trans hqx))
      · exact hkx ((List.prefix_append _ _).trans ((h2 q (keys_all hq)).trans hqx))
end Go.Proofs.YtfbangojgjcbcaaGreatDoor.Pl
namespace Go.Proofs.YtfbangojgjcbcaaGreatDoor.Pl
theorem Tree.ins_length {b1 b2 : Nat} {p : List Bool} : ∀ {t : Tree}, (t.ins b1 b2 p).keys.length = t.keys.length + if t.find p = true then 0 else 1
  | .nil => by simp [ins, keys, find]
  | .node b k has l r => by
    unfold ins find
    split
    · cases has <;> simp [keys] <;> try omega
    · split
      · split
        · simp only [keys, List.length_append, ins_length (t := r)]; omega
        · simp only [keys, List.length_append, ins_length (t := l)]; omega
      · simp only [Bool.false_eq_true, if_false]
        split
        · split <;> simp only [keys, List.length_append, if_true, List.length_cons, List.length_nil] <;> omega
        · split <;> simp only [keys, List.length_append, if_true, Bool.false_eq_true, if_false, List.length_cons, List.length_nil] <;> omega
/-- The first n bits of an address. -/
def bitsP (a n : Nat) : List Bool := (List.range n).map fun i => a.testBit (31 - i)
theorem bitsP_length (a n : Nat) : (bitsP a n).length = n := by simp [bitsP]
theorem bitsP_at (a n i : Nat) (h : i < n) : (bitsP a n)[i]? = some (a.testBit (31 - i)) := by
  simp [bitsP, h]
theorem bitsP_take (a n k : Nat) (h : k ≤ n) : (bitsP a n).take k = bitsP a k := by
  unfold bitsP
  rw [← List.map_take, List.take_range, Nat.min_eq_left h]
theorem blk_nat (n : Nat) : blk (n : Int) = ((2 ^ (32 - n) : Nat) : Int) := by unfold blk; rfl
theorem may_mod {a n : Nat} (h : mayP a n = true) : n ≤ 32 ∧ a % 2 ^ (32 - n) = 0 := by
  obtain ⟨_, h1, h2⟩ := (mayP_iff _ _).1 h
  rw [blk_nat, ← Int.natCast_emod] at h2
  exact ⟨by omega, by omega⟩
theorem may_of_mod {a n : Nat} (h1 : n ≤ 32) (h2 : a % 2 ^ (32 - n) = 0) : mayP a n = true := by
  refine (mayP_iff _ _).2 ⟨by omega, by omega, ?_⟩
  rw [blk_nat, ← Int.natCast_emod, h2]; rfl
theorem low_zero {a n : Nat} (h : mayP a n = true) {j : Nat} (hj : j < 32 - n) : a.testBit j = false := by
  obtain ⟨_, h2⟩ := may_mod h
  have e : a = 2 ^ (32 - n) * (a / 2 ^ (32 - n)) := by
    have := Nat.div_add_mod a (2 ^ (32 - n)); omega
  rw [e, Nat.testBit_two_pow_mul]; simp; omega
theorem high_zero {a j : Nat} (h : a < 4294967296) (hj : 32 ≤ j) : a.testBit j = false :=
  Nat.testBit_lt_two_pow (Nat.lt_of_lt_of_le h (Nat.pow_le_pow_right (show 0 < 2 by decide) (show 32 ≤ j from hj)))
theorem bitsP_inj {a n b m : Nat} (ha : a < 4294967296) (hb : b < 4294967296) (h1 : mayP a n = true) (h2 : mayP b m = true) (h : bitsP a n = bitsP b m) : a = b ∧ n = m := by
  have hn : n = m := by rw [← bitsP_length a n, h, bitsP_length]
  subst hn
  refine ⟨Nat.eq_of_testBit_eq fun j => ?_, rfl⟩
  by_cases hj : 32 ≤ j
  · rw [high_zero ha hj, high_zero hb hj]
  · by_cases hi : 31 - j < n
    · have := bitsP_at a n (31 - j) hi
      rw [h, bitsP_at b n (31 - j) hi] at this
      injection this with this
      rw [show 31 - (31 - j) = j by omega] at this; exact this.symm
    · rw [low_zero h1 (by omega), low_zero h2 (by omega)]
theorem first_nat (a k : Nat) : firstP a k = ((a / 2 ^ (32 - k) * 2 ^ (32 - k) : Nat) : Int) := by
  unfold firstP; rw [blk_nat]; simp
theorem first_may (a k : Nat) (hk : k ≤ 32) : mayP ((a / 2 ^ (32 - k) * 2 ^ (32 - k) : Nat) : Int) k = true :=
  may_of_mod hk (Nat.mul_mod_left _ _)
theorem first_bits (a k : Nat) (hk : k ≤ 32) : bitsP (a / 2 ^ (32 - k) * 2 ^ (32 - k)) k = bitsP a k := by
  unfold bitsP
  apply List.map_congr_left
  intro i hi
  rw [List.mem_range] at hi
  rw [Nat.mul_comm, Nat.testBit_two_pow_mul, Nat.testBit_div_two_pow]
  simp only [show 32 - k ≤ 31 - i by omega, decide_true, Bool.true_and]
  congr 1; omega
theorem first_lt (a k : Nat) (ha : a < 4294967296) : a / 2 ^ (32 - k) * 2 ^ (32 - k) < 4294967296 := Nat.lt_of_le_of_lt (Nat.div_mul_le_self _ _) ha
theorem has_bits {a n x : Nat} (ha : a < 4294967296) (hx : x < 4294967296) (h : mayP a n = true) : firstP x n = a ↔ bitsP a n <+: bitsP x 32 := by
  have hn := (may_mod h).1
  have e32 : (bitsP x 32).take n = bitsP x n := bitsP_take x 32 n hn
  constructor
  · intro e
    rw [first_nat] at e
    have e' : x / 2 ^ (32 - n) * 2 ^ (32 - n) = a := by omega
    rw [← e', first_bits x n hn, ← e32]
    exact List.take_prefix _ _
  · intro hp
    rw [List.prefix_iff_eq_take, bitsP_length, e32, ← first_bits x n hn] at hp
    have := (bitsP_inj ha (first_lt x n hx) h (first_may x n hn) hp).1
    rw [first_nat]; omega
end Go.Proofs.YtfbangojgjcbcaaGreatDoor.Pl
namespace Go.Proofs.YtfbangojgjcbcaaGreatDoor.Pl
open Go.Lib (decDigits itoa join)
theorem itoa_nat (n : Nat) : itoa (n : Int) = decDigits n := by simp [itoa]
end Go.Proofs.YtfbangojgjcbcaaGreatDoor.Pl
namespace Go.Proofs.YtfbangojgjcbcaaGreatDoor.Pl
open Go.Lib (decDigits itoa join)
def consHd (x : UInt8) : List (List UInt8) → List (List UInt8)
  | [] => [[x]]
  | h :: t => (x :: h) :: t
/-- A text's parts, between bytes. -/
def splitOn (c : UInt8) : List UInt8 → List (List UInt8)
  | [] => [[]]
  | x :: r => if x = c then [] :: splitOn c r else consHd x (splitOn c r)
theorem splitOn_ne (c : UInt8) (l : List UInt8) : splitOn c l ≠ [] := by
  cases l with
  | nil => simp [splitOn]
  | cons x r =>
    simp only [splitOn]
    split
    · simp
    · cases splitOn c r <;> simp [consHd]
theorem index_cons (c x : UInt8) (r : List UInt8) : Lib.index (x :: r) [c] = if x = c then 0 else if Lib.index r [c] == -1 then -1 else Lib.index r [c] + 1 := by
  rw [Lib.index]
  by_cases h : x = c
  · simp [h]
  · have : ¬ c = x := fun e => h e.symm
    simp [h, this]
theorem split_eq (c : UInt8) : ∀ s : List UInt8, Lib.splitK [c] 0 (Lib.count s [c]) s = splitOn c s := by
  intro s
  induction s with
  | nil => rw [Lib.count_one]; rfl
  | cons x r ih =>
    by_cases h : x = c
    · subst h
      rw [Lib.count_cons_eq, Nat.add_comm, Lib.splitK, index_cons]
      simp [splitOn, ih]
    · rw [Lib.count_cons_ne x c r h]
      simp only [splitOn, if_neg h]
      rw [← ih]
      cases hk : Lib.count r [c] with
      | zero => rfl
      | succ k =>
        have hge := Lib.index_ge r [c]
        rw [Lib.splitK, Lib.splitK, index_cons, if_neg h]
        by_cases hi : Lib.index r [c] = -1
        · simp [hi, consHd]
        · have hi' : (Lib.index r [c] == -1) = false := by simpa using hi
          have hn : (Lib.index r [c] + 1 == -1) = false := by simp; omega
          rw [hi']
          simp only [Bool.false_eq_true, if_false, hn, consHd, Nat.add_zero, List.length_singleton]
          have e1 : (Lib.index r [c] + 1).toNat = (Lib.index r [c]).toNat + 1 := by omega
          rw [e1, List.take_succ_cons]
          simp [Nat.add_assoc]
/-- What a byte list is without the byte. -/
theorem splitOn_none (c : UInt8) (l : List UInt8) (h : c ∉ l) : splitOn c l = [l] := by
  induction l with
  | nil => rfl
  | cons x r ih =>
    have hx : ¬ x = c := fun e => h (by simp [e])
    rw [splitOn, if_neg hx, ih (fun hm => h (by simp [hm]))]; rfl
theorem splitOn_app (c : UInt8) (l m : List UInt8) (h : c ∉ l) : splitOn c (l ++ c :: m) = l :: splitOn c m := by
  induction l with
  | nil => simp [splitOn]
  | cons x r ih =>
    have hx : ¬ x = c := fun e => h (by simp [e])
    rw [List.cons_append, splitOn, if_neg hx, ih (fun hm => h (by simp [hm]))]; rfl
def isDig (c : UInt8) : Bool := decide (48 ≤ c.toNat) && decide (c.toNat ≤ 57)
def numVal (l : List UInt8) : Nat := l.foldl (fun a c => a * 10 + (c.toNat - 48)) 0
theorem numVal_snoc (l : List UInt8) (c : UInt8) : numVal (l ++ [c]) = numVal l * 10 + (c.toNat - 48) := by simp [numVal, List.foldl_append]
theorem dec_big (n : Nat) (h : 10 ≤ n) : decDigits n = decDigits (n / 10) ++ [UInt8.ofNat (48 + n % 10)] := by rw [decDigits, dif_neg (by omega)]
theorem dec_dig (n : Nat) : (decDigits n).all isDig = true ∧ numVal (decDigits n) = n ∧ 1 ≤ (decDigits n).length ∧ (1 ≤ n → (decDigits n).head? ≠ some 48) ∧ (n = 0 → decDigits n = [48]) := by
  induction n using Nat.strongRecOn with
  | _ n ih =>
    by_cases h : n < 10
    · rw [Lib.decDigits_one h]
      have e : (UInt8.ofNat (48 + n)).toNat = 48 + n := by rw [UInt8.toNat_ofNat']; omega
      refine ⟨by simp [isDig]; omega, by simp [numVal]; omega, by simp, ?_, ?_⟩
      · intro h1 h2
        have h3 : UInt8.ofNat (48 + n) = 48 := by simpa using h2
        have : (UInt8.ofNat (48 + n)).toNat = 48 := by rw [h3]; rfl
        omega
      · intro h0; subst h0; rfl
    · obtain ⟨a, b, c, d, _⟩ := ih (n / 10) (by omega)
      rw [dec_big n (by omega)]
      have e : (UInt8.ofNat (48 + n % 10)).toNat = 48 + n % 10 := by rw [UInt8.toNat_ofNat']; omega
      refine ⟨?_, ?_, by simp, ?_, by omega⟩
      · rw [List.all_append, a]; simp [isDig]; omega
      · rw [numVal_snoc, b, e]; omega
      · intro _
        rw [List.head?_append]
        cases hd : (decDigits (n / 10)).head? with
        | none => rw [List.head?_eq_none_iff] at hd; rw [hd] at c; simp at c
        | some x => rw [← hd]; simpa [hd] using d (by omega)
theorem dig_nodot (c : UInt8) (hc : isDig c = false) (l : List UInt8) (h : l.all isDig = true) : c ∉ l := by
  intro hm
  have := List.all_eq_true.1 h c hm
  rw [hc] at this; cases this
theorem dec_no (c : UInt8) (hc : isDig c = false) (n : Nat) : c ∉ decDigits n := dig_nodot c hc _ (dec_dig n).1
theorem splitOn_len (c : UInt8) (l : List UInt8) : (splitOn c l).length ≤ l.length + 1 ∧ ∀ x ∈ splitOn c l, x.length ≤ l.length := by
  induction l with
  | nil => simp [splitOn]
  | cons y r ih =>
    obtain ⟨h1, h2⟩ := ih
    by_cases h : y = c
    · rw [splitOn, if_pos h]
      refine ⟨by simp; omega, fun x hx => ?_⟩
      rcases List.mem_cons.1 hx with rfl | hx
      · simp
      · have := h2 x hx; simp; omega
    · rw [splitOn, if_neg h]
      cases hs : splitOn c r with
      | nil => exact absurd hs (splitOn_ne _ _)
      | cons a t =>
        rw [hs] at h1 h2
        refine ⟨by simp only [consHd, List.length_cons] at h1 ⊢; omega, fun x hx => ?_⟩
        rcases List.mem_cons.1 hx with rfl | hx
        · have := h2 a (by simp); simp; omega
        · have := h2 x (by simp [hx]); simp; omega
/-- The part ahead of the first such byte, and the part behind it. -/
def cutA (c : UInt8) (l : List UInt8) : List UInt8 := (Lib.cut l [c]).1
def cutB (c : UInt8) (l : List UInt8) : List UInt8 := (Lib.cut l [c]).2.1
end Go.Proofs.YtfbangojgjcbcaaGreatDoor.Pl
namespace Go.Proofs.YtfbangojgjcbcaaGreatDoor.Pl
/-- What holds of the reference's loop over a text: 'done' parts, the next begins at f, no such byte from f to i. -/
def SpInv (c : UInt8) (l : List UInt8) (i f : Nat) (done : List (List UInt8)) : Prop :=
  (i ≤ l.length ∧ f ≤ i ∧ splitOn c l = done ++ splitOn c (l.drop f) ∧ c ∉ (l.drop f).take (i - f)) ∨ (i = l.length + 1 ∧ splitOn c l = done)
theorem SpInv.start (c : UInt8) (l : List UInt8) : SpInv c l 0 0 [] := .inl ⟨Nat.zero_le _, Nat.le_refl _, by simp, by simp⟩
theorem drop_cut (l : List UInt8) (f i : Nat) (hf : f ≤ i) (hi : i < l.length) : l.drop f = (l.drop f).take (i - f) ++ l[i] :: l.drop (i + 1) := by
  have h1 := (List.take_append_drop (i - f) (l.drop f)).symm
  rw [List.drop_drop, show f + (i - f) = i by omega, List.drop_eq_getElem_cons hi] at h1
  exact h1
theorem SpInv.hit {c : UInt8} {l : List UInt8} {i f : Nat} {done : List (List UInt8)} (h : SpInv c l i f done) (hi : i < l.length) (hc : l[i] = c) : SpInv c l (i + 1) (i + 1) (done ++ [(l.drop f).take (i - f)]) := by
  rcases h with ⟨_, hf, he, hn⟩ | ⟨h, _⟩
  · refine .inl ⟨hi, Nat.le_refl _, ?_, by simp⟩
    rw [he, drop_cut l f i hf hi, hc, splitOn_app _ _ _ hn]
    have : ((l.drop f).take (i - f) ++ c :: l.drop (i + 1)).take (i - f) = (l.drop f).take (i - f) := by
      rw [← hc, ← drop_cut l f i hf hi]
    rw [this]
    simp
  · omega
theorem SpInv.miss {c : UInt8} {l : List UInt8} {i f : Nat} {done : List (List UInt8)} (h : SpInv c l i f done) (hi : i < l.length) (hc : ¬ l[i] = c) : SpInv c l (i + 1) f done := by
  rcases h with ⟨_, hf, he, hn⟩ | ⟨h, _⟩
  · refine .inl ⟨hi, by omega, he, ?_⟩
    have hlt : i - f < (l.drop f).length := by simp; omega
    rw [show i + 1 - f = i - f + 1 by omega, List.take_succ_eq_append_getElem hlt]
    intro hm
    rcases List.mem_append.1 hm with hm | hm
    · exact hn hm
    · simp only [List.mem_singleton, List.getElem_drop] at hm
      have e : f + (i - f) = i := by omega
      simp only [e] at hm
      exact hc hm.symm
  · omega
theorem SpInv.last {c : UInt8} {l : List UInt8} {f : Nat} {done : List (List UInt8)} (h : SpInv c l l.length f done) : SpInv c l (l.length + 1) (l.length + 1) (done ++ [(l.drop f).take (l.length - f)]) := by
  rcases h with ⟨_, hf, he, hn⟩ | ⟨h, _⟩
  · refine .inr ⟨rfl, ?_⟩
    have e : (l.drop f).take (l.length - f) = l.drop f := List.take_of_length_le (by simp)
    rw [e] at hn ⊢
    rw [he, splitOn_none _ _ hn]
  · omega
theorem SpInv.out {c : UInt8} {l : List UInt8} {f : Nat} {done : List (List UInt8)} (h : SpInv c l (l.length + 1) f done) : splitOn c l = done := by
  rcases h with ⟨h, _⟩ | ⟨_, h⟩
  · omega
  · exact h
theorem SpInv.len {c : UInt8} {l : List UInt8} {i f : Nat} {done : List (List UInt8)} (h : SpInv c l i f done) : done.length ≤ l.length + 1 := by
  have h1 := (splitOn_len c l).1
  rcases h with ⟨_, _, he, _⟩ | ⟨_, he⟩
  · rw [he, List.length_append] at h1; omega
  · rw [he] at h1; exact h1
open Go.Lib (decDigits itoa join)
end Go.Proofs.YtfbangojgjcbcaaGreatDoor.Pl
namespace Go.Proofs.YtfbangojgjcbcaaGreatDoor.Pl
open Go.Lib (decDigits)
structure Cfg where
  node : Int := 0
  addr : Int := 0
  own : List (Int × Int) := []
  ports : List (Int × Int) := []
  hello : Int := 0
  dead : Int := 0
  again : Int := 0
  room : Int := 0
  queue : Int := 0
  tokens : Int := 0
  refill : Int := 0
/-- Do prefixes rise? -/
def rising : List (Int × Int) → Bool
  | p :: q :: l => decide (cmpP p.1 p.2 q.1 q.2 < 0) && rising (q :: l)
  | _ => true
def ownOk (l : List (Int × Int)) : Bool := decide (1 ≤ l.length) && decide (l.length ≤ 8) && l.all (fun p => mayP p.1 p.2) && rising l
def hasAny (l : List (Int × Int)) (a : Int) : Bool := l.any fun p => hasP p.1 p.2 a
def wNode : List UInt8 := [110, 111, 100, 101]
def wAddress : List UInt8 := [97, 100, 100, 114, 101, 115, 115]
def wOwn : List UInt8 := [111, 119, 110]
def wPort : List UInt8 := [112, 111, 114, 116]
def wHello : List UInt8 := [104, 101, 108, 108, 111]
def wDead : List UInt8 := [100, 101, 97, 100]
def wAgain : List UInt8 := [97, 103, 97, 105, 110]
def wRoom : List UInt8 := [114, 111, 111, 109]
def wQueue : List UInt8 := [113, 117, 101, 117, 101]
def wTokens : List UInt8 := [116, 111, 107, 101, 110, 115]
def wRefill : List UInt8 := [114, 101, 102, 105, 108, 108]
/-- How the two stand to each other. -/
def Goes (c : Cfg) (st at' t : Nat) : Prop :=
  (t = 0 ∧ at' < 3 ∧ st = at' ∧ c.own = [] ∧ c.ports = []) ∨ (3 ≤ at' ∧ c.own ≠ [] ∧ st = 3 + t ∧ t ≤ 7 ∧ (1 ≤ t → hasAny c.own c.addr = true))
theorem Goes.start : Goes {} 0 0 0 := .inl ⟨rfl, by omega, rfl, rfl, rfl⟩
theorem Goes.done {c : Cfg} {st at' t : Nat} (h : Goes c st at' t) : st = 10 ↔ t = 7 := by
  rcases h with ⟨rfl, h1, rfl, _⟩ | ⟨_, _, rfl, _⟩ <;> omega
end Go.Proofs.YtfbangojgjcbcaaGreatDoor.Pl
namespace Go.Proofs.YtfbangojgjcbcaaGreatDoor.Pl
open Go.Lib (decDigits itoa)
def inI (n lo hi : Int) : Bool := decide (lo ≤ n) && decide (n ≤ hi)
def portOk (p : Int × Int) : Bool := inI p.1 1 50 && inI p.2 68 1500
/-- Its addresses are some. -/
def Addrs4 (c : Cfg) : Prop := (0 ≤ c.addr ∧ c.addr < 4294967296) ∧ ∀ p ∈ c.own, 0 ≤ p.1 ∧ p.1 < 4294967296
end Go.Proofs.YtfbangojgjcbcaaGreatDoor.Pl
namespace Go.Proofs.YtfbangojgjcbcaaGreatDoor.Pl
theorem Tree.ins_blocks {b1 b2 : Nat} {p : List Bool} : ∀ {t : Tree} {x : Nat}, x ∈ (t.ins b1 b2 p).blocks → x = b1 ∨ x = b2 ∨ x ∈ t.blocks
  | .nil, x, h => by simp [ins, blocks] at h; exact .inl h
  | .node b k has l r, x, h => by
    have il := @ins_blocks b1 b2 p l x
    have ir := @ins_blocks b1 b2 p r x
    unfold ins at h
    split at h
    · exact .inr (.inr h)
    · split at h
      · split at h <;> simp only [blocks, List.mem_cons, List.mem_append] at h ⊢ <;> grind
      · split at h <;> split at h <;> simp only [blocks, List.mem_cons, List.mem_append, List.not_mem_nil] at h ⊢ <;> grind
theorem Tree.ins_nodup {b1 b2 : Nat} {p : List Bool} (h12 : b1 ≠ b2) : ∀ {t : Tree}, t.blocks.Nodup → b1 ∉ t.blocks → b2 ∉ t.blocks → (t.ins b1 b2 p).blocks.Nodup
  | .nil, _, _, _ => by simp [ins, blocks]
  | .node b k has l r, hn, h1, h2 => by
    simp only [blocks, List.nodup_cons, List.nodup_append, List.mem_cons, List.mem_append, not_or] at hn h1 h2
    obtain ⟨⟨n1, n2⟩, nl, nr, nd⟩ := hn
    have il := ins_nodup (p := p) h12 nl h1.2.1 h2.2.1
    have ir := ins_nodup (p := p) h12 nr h1.2.2 h2.2.2
    have bl := fun x => @ins_blocks b1 b2 p l x
    have br := fun x => @ins_blocks b1 b2 p r x
    unfold ins
    split
    · simp only [blocks, List.nodup_cons, List.nodup_append, List.mem_append, not_or]; exact ⟨⟨n1, n2⟩, nl, nr, nd⟩
    · split
      · split <;> simp only [blocks, List.nodup_cons, List.nodup_append, List.mem_append, not_or] <;> grind
      · split <;> split <;> simp only [blocks, List.nodup_cons, List.nodup_append, List.mem_cons, List.mem_append, not_or, List.not_mem_nil, List.nodup_nil, List.nil_append, List.append_nil] <;> grind
end Go.Proofs.YtfbangojgjcbcaaGreatDoor.Pl
namespace Go.Proofs.YtfbangojgjcbcaaGreatDoor.Pl
abbrev Pr := Int × Int
/-- A prefix's bits. -/
def bitsI (p : Pr) : List Bool := bitsP p.1.toNat p.2.toNat
theorem rising_snoc2 : ∀ (l : List Pr) (z p : Pr), rising (l ++ [z, p]) = (rising (l ++ [z]) && decide (cmpP z.1 z.2 p.1 p.2 < 0))
  | [], z, p => by simp [rising]
  | [a], z, p => by simp [rising]
  | a :: b :: l, z, p => by
    have := rising_snoc2 (b :: l) z p
    simp only [List.cons_append] at this
    simp only [List.cons_append, rising, this, Bool.and_assoc]
theorem take_two {l : List Pr} {j : Nat} {z p : Pr} (hz : l[j]? = some z) (hp : l[j + 1]? = some p) : l.take (j + 1 + 1) = l.take j ++ [z, p] := by
  rw [List.take_add_one, List.take_add_one, hz, hp]; simp
theorem ownOk_len {l : List Pr} (h : 8 < l.length) : ownOk l = false := by
  unfold ownOk
  rw [show decide (l.length ≤ 8) = false from by simp; omega]; simp
/-- What the tree holds when some have been read. -/
structure OwnInv (l : List Pr) (j : Nat) (t : Tree) : Prop where
  le : j ≤ l.length
  may : (l.take j).all (fun p => mayP p.1 p.2) = true
  rise : rising (l.take j) = true
  keys : ∀ q, q ∈ t.keys ↔ q ∈ (l.take j).map bitsI
  n : t.keys.length = j
  le8 : j ≤ 8
theorem OwnInv.start (l : List Pr) : OwnInv l 0 .nil := ⟨Nat.zero_le _, rfl, rfl, by simp [Tree.keys], rfl, by omega⟩
def AddrsOk (l : List Pr) : Prop := ∀ p ∈ l, 0 ≤ p.1 ∧ p.1 < 4294967296
theorem OwnInv.next {l : List Pr} {j : Nat} {t : Tree} {p : Pr} (h : OwnInv l j t) (_hi : t.Inv) (hp : l[j]? = some p) (hm : mayP p.1 p.2 = true) (hf : t.find (bitsI p) = false) (h8 : j < 8)
    (hc : ∀ i z, j = i + 1 → l[i]? = some z → cmpP z.1 z.2 p.1 p.2 < 0) (b1 b2 : Nat) : OwnInv l (j + 1) (t.ins b1 b2 (bitsI p)) := by
  have hlt := (List.getElem?_eq_some_iff.1 hp).1
  have e : l.take (j + 1) = l.take j ++ [p] := by rw [List.take_add_one, hp]; rfl
  refine ⟨hlt, ?_, ?_, fun q => ?_, ?_, by omega⟩
  · rw [e, List.all_append, h.may]; simp [hm]
  · cases j with
    | zero => rw [e]; simp [rising]
    | succ i =>
      have hli : i < l.length := by omega
      have hz := List.getElem?_eq_getElem hli
      rw [take_two hz hp, rising_snoc2]
      have hr := h.rise
      rw [List.take_add_one, hz] at hr
      simp only [Option.toList_some] at hr
      rw [hr]
      simpa using hc i _ rfl hz
  · rw [Tree.ins_keys, h.keys, e]
    simp only [List.map_append, List.map_cons, List.map_nil, List.mem_append, List.mem_singleton]
    exact or_comm
  · rw [Tree.ins_length, hf, h.n]; simp
theorem OwnInv.ok {l : List Pr} {t : Tree} (h : OwnInv l l.length t) : ownOk l = decide (0 < l.length) := by
  have h1 := h.may
  have h2 := h.rise
  have h3 := h.le8
  rw [List.take_length] at h1 h2
  unfold ownOk
  rw [h1, h2, show decide (l.length ≤ 8) = true from by simpa using h3]
  simp; omega
/-- The tree has an address when one of them has. -/
theorem OwnInv.any {l : List Pr} {t : Tree} (h : OwnInv l l.length t) (hA : AddrsOk l) (hi : t.Inv) (x : Nat) (hx : x < 4294967296) : decide (0 < t.cover (bitsP x 32)) = hasAny l x := by
  rw [Bool.eq_iff_iff, decide_eq_true_eq, Tree.cover_iff (bitsP_length _ _) hi]
  unfold hasAny
  rw [List.any_eq_true]
  have hm := h.may
  rw [List.take_length, List.all_eq_true] at hm
  have key : ∀ p ∈ l, (hasP p.1 p.2 x = true ↔ bitsI p <+: bitsP x 32) := by
    intro p hp
    have hp1 := hA p hp
    have hmp := hm p hp
    obtain ⟨a, n⟩ := p
    simp only at hp1 hmp
    obtain ⟨n0, _, _⟩ := (mayP_iff _ _).1 hmp
    obtain ⟨A, rfl⟩ := Int.eq_ofNat_of_zero_le hp1.1
    obtain ⟨N, rfl⟩ := Int.eq_ofNat_of_zero_le n0
    rw [hasP_iff]
    have := has_bits (a := A) (n := N) (x := x) (by omega) hx hmp
    simp only [bitsI, Int.toNat_natCast]
    rw [← this]
    exact ⟨fun hh => hh.2, fun hh => ⟨hmp, hh⟩⟩
  constructor
  · rintro ⟨q, hq, hqx⟩
    rw [h.keys, List.take_length] at hq
    obtain ⟨p, hp, rfl⟩ := List.mem_map.1 hq
    exact ⟨p, hp, (key p hp).2 hqx⟩
  · rintro ⟨p, hp, hh⟩
    exact ⟨bitsI p, (h.keys _).2 (by rw [List.take_length]; exact List.mem_map_of_mem hp), (key p hp).1 hh⟩
end Go.Proofs.YtfbangojgjcbcaaGreatDoor.Pl
namespace Go.Proofs.YtfbangojgjcbcaaGreatDoor
open Go.RowKit Pl
/-- The slice value v reads as the pairs ps in world w: two cells each, the first of kind k. -/
def Rs (k : IntKind) (w : World) (v : Value) (ps : List Pr) : Prop :=
  ∃ (A : Option Addr) (c : Nat), v = .slice A ps.length c ∧ ps.length ≤ c ∧ (A = none → c = 0) ∧
    (0 < ps.length → ∃ b off, A = some ⟨b, off, none⟩ ∧ b < w.heap.size ∧ ∀ j u, ps[j]? = some u →
      w.cell? ⟨b, off + j * 2, none⟩ = some (.int k u.1) ∧ w.cell? ⟨b, off + j * 2 + 1, none⟩ = some (.int .i64 u.2))
theorem Rs.below {k : IntKind} {w w' : World} {v : Value} {ps : List Pr} (h : Rs k w v ps) (hb : Below w.heap.size w w') : Rs k w' v ps := by
  obtain ⟨A, c, rfl, hc, hn, hA⟩ := h
  refine ⟨A, c, rfl, hc, hn, fun hp => ?_⟩
  obtain ⟨b, off, rfl, hlt, hcell⟩ := hA hp
  refine ⟨b, off, rfl, Nat.lt_of_lt_of_le hlt hb.size, fun j u hu => ?_⟩
  obtain ⟨h1, h2⟩ := hcell j u hu
  exact ⟨(hb.cell (show b < _ from hlt)).trans h1, (hb.cell (show b < _ from hlt)).trans h2⟩
theorem Rs.alloc {k : IntKind} {w : World} {v : Value} {ps : List Pr} (h : Rs k w v ps) (o : Obj) : Rs k (w.alloc o) v ps := h.below ((Below.refl _ _).alloc (Nat.le_refl _) o)
theorem Rs.drew {k : IntKind} {w : World} {v : Value} {ps : List Pr} (h : Rs k w v ps) : Rs k w.drew v ps := h
theorem Rs.drewN {k : IntKind} {w : World} {v : Value} {ps : List Pr} (h : Rs k w v ps) (n : Nat) : Rs k (w.drewN n) v ps := h
theorem Rs.nil (k : IntKind) (w : World) : Rs k w (.slice none 0 0) [] := ⟨none, 0, rfl, Nat.le_refl _, fun _ => rfl, fun h => absurd h (by simp)⟩
theorem Rs.len {k : IntKind} {w : World} {A : Option Addr} {n c : Nat} {ps : List Pr} (h : Rs k w (.slice A n c) ps) : n = ps.length ∧ ps.length ≤ c := by
  obtain ⟨A', c', hv, hc, _, _⟩ := h
  injection hv with h1 h2 h3
  exact ⟨h2, by omega⟩
/-- Its cells. -/
theorem Rs.at {k : IntKind} {w : World} {A : Option Addr} {n c : Nat} {ps : List Pr} (h : Rs k w (.slice A n c) ps) {j : Nat} {u : Pr} (hu : ps[j]? = some u) :
    ∃ b off, A = some ⟨b, off, none⟩ ∧ b < w.heap.size ∧ w.cell? ⟨b, off + j * 2, none⟩ = some (.int k u.1) ∧ w.cell? ⟨b, off + j * 2 + 1, none⟩ = some (.int .i64 u.2) := by
  obtain ⟨A', c', hv, hc, _, hA⟩ := h
  injection hv with h1 h2 h3
  subst h1
  obtain ⟨b, off, rfl, hb, hcell⟩ := hA (by have := (List.getElem?_eq_some_iff.1 hu).1; omega)
  obtain ⟨h1, h2⟩ := hcell j u hu
  exact ⟨b, off, rfl, hb, h1, h2⟩
theorem Rs.take {k : IntKind} {w : World} {A : Option Addr} {n c : Nat} {ps : List Pr} (h : Rs k w (.slice A n c) ps) : ∀ {j : Nat} {b off : Nat}, A = some ⟨b, off, none⟩ → ∀ {u}, ps[j]? = some u →
    w.cell? ⟨b, off + j * 2, none⟩ = some (.int k u.1) ∧ w.cell? ⟨b, off + j * 2 + 1, none⟩ = some (.int .i64 u.2) := by
  intro j b off hA u hu
  obtain ⟨b', off', h1, _, h2, h3⟩ := h.at hu
  rw [hA] at h1; cases h1
  exact ⟨h2, h3⟩
def cells2 (k : IntKind) (ps : List Pr) : List Value := ps.flatMap fun p => [.int k p.1, .int .i64 p.2]
theorem cells2_at (k : IntKind) (ps : List Pr) (j : Nat) (u : Pr) (h : ps[j]? = some u) : (cells2 k ps)[j * 2]? = some (.int k u.1) ∧ (cells2 k ps)[j * 2 + 1]? = some (.int .i64 u.2) := by
  induction ps generalizing j with
  | nil => simp at h
  | cons x ps ih =>
    cases j with
    | zero => simp at h; subst h; simp [cells2]
    | succ j =>
      simp only [List.getElem?_cons_succ] at h
      obtain ⟨h1, h2⟩ := ih j h
      have e : cells2 k (x :: ps) = [.int k x.1, .int .i64 x.2] ++ cells2 k ps := by unfold cells2; rw [List.flatMap_cons]
      rw [e]
      refine ⟨?_, ?_⟩
      · rw [List.getElem?_append_right (by simp; omega)]; simpa [show (j + 1) * 2 - 2 = j * 2 by omega] using h1
      · rw [List.getElem?_append_right (by simp; omega)]; simpa [show (j + 1) * 2 + 1 - 2 = j * 2 + 1 by omega] using h2
theorem Rs.own {w : World} {base : Nat} {v : Value} {k : IntKind} {e : TypeId} {n : Nat} {ps : List Pr} (hn : n = ps.length) (h : w.ownsRow base e 2 v n (cells2 k ps)) : Rs k w v ps := by
  subst hn
  rcases h.2 with ⟨rfl, h0⟩ | ⟨g, cap, cur, rfl, hg, hh, hnc, _⟩
  · have h0' : ps = [] := by
      cases ps with
      | nil => rfl
      | cons u us => simp at h0
    subst h0'; exact Rs.nil k w
  · refine ⟨_, cap, rfl, hnc, (fun h => by cases h), fun hp => ⟨g, 0, rfl, (h.lt g rfl).2, fun j u hu => ?_⟩⟩
    have hc := h.cells (g := g) rfl
    have key : ∀ i u, (cells2 k ps)[i]? = some u → w.cell? ⟨g, 0 + i, none⟩ = some u := fun i u hu => by
      have := hc i u hu
      rw [show ((⟨g, 0, none⟩ : Addr).add i) = ⟨g, 0 + i, none⟩ from by unfold Addr.add; by_cases hj : i = 0 <;> simp [hj]] at this
      exact this
    obtain ⟨h1, h2⟩ := cells2_at k ps j u hu
    refine ⟨key _ _ h1, ?_⟩
    have := key _ _ h2; rwa [← Nat.add_assoc] at this
/-- A configuration in memory. -/
def cfgV (c : Cfg) (own ports : Value) : Value := .agg #[.int .i64 c.node, .int .u32 c.addr, own, ports, .int .i64 c.hello, .int .i64 c.dead, .int .i64 c.again, .int .i64 c.room, .int .i64 c.queue, .int .i64 c.tokens, .int .i64 c.refill]
structure CfgIs (w : World) (v : Value) (c : Cfg) : Prop where
  is : ∃ own ports, v = cfgV c own ports ∧ Rs .u32 w own c.own ∧ Rs .i64 w ports c.ports
theorem CfgIs.below {w w' : World} {v : Value} {c : Cfg} (h : CfgIs w v c) (hb : Below w.heap.size w w') : CfgIs w' v c := by
  obtain ⟨own, ports, h1, h2, h3⟩ := h.is
  exact ⟨own, ports, h1, h2.below hb, h3.below hb⟩
end Go.Proofs.YtfbangojgjcbcaaGreatDoor
namespace Go.Proofs.YtfbangojgjcbcaaGreatDoor
open Go.ChangeShapes Go.WideShapes Go.ChangeAt Go.RowKit Pl
theorem addC (b off j : Nat) : ((⟨b, off, none⟩ : Addr).add j) = ⟨b, off + j, none⟩ := by unfold Addr.add; by_cases hj : j = 0 <;> simp [hj]
section
variable {H : Type} {enc : TypeId × Value → H} {W : World} {base b0 : Nat} {sp : Nat → Bool} {held : Bool} {r : Reach}
end
end Go.Proofs.YtfbangojgjcbcaaGreatDoor
namespace Go.Proofs.YtfbangojgjcbcaaGreatDoor.Pl
open Go.Lib (decDigits itoa)
theorem parse10_all : ∀ (l : List UInt8) (acc : Nat), l.all isDig = true → l.foldl (fun a c => a * 10 + (c.toNat - 48)) acc ≤ 9223372036854775808 →
    Lib.parseUint10 acc l = .ok (l.foldl (fun a c => a * 10 + (c.toNat - 48)) acc) := by
  have mono : ∀ (l : List UInt8) (a : Nat), a ≤ l.foldl (fun a c => a * 10 + (c.toNat - 48)) a := by
    intro l
    induction l with
    | nil => intro a; exact Nat.le_refl _
    | cons c l ih => intro a; rw [List.foldl_cons]; exact Nat.le_trans (by omega) (ih (a * 10 + (c.toNat - 48)))
  intro l
  induction l with
  | nil => intro acc _ _; rfl
  | cons c l ih =>
    intro acc hd hv
    simp only [List.all_cons, isDig, Bool.and_eq_true, decide_eq_true_eq] at hd
    rw [List.foldl_cons] at hv ⊢
    have h1 := mono l (acc * 10 + (c.toNat - 48))
    rw [Lib.parseUint10, if_pos hd.1, if_neg (by omega), if_neg (by omega)]
    exact ih _ hd.2 hv
theorem mag_dec (n : Nat) (h : n ≤ 9223372036854775808) : Lib.parseMag (decDigits n) = .ok n := by
  obtain ⟨a, b, c, _⟩ := dec_dig n
  unfold Lib.parseMag
  rw [if_neg (fun e => by rw [e] at c; simp at c)]
  have hp := parse10_all (decDigits n) 0 a (by show numVal _ ≤ _; rw [b]; exact h)
  rw [show List.foldl (fun a c => a * 10 + (c.toNat - 48)) 0 (decDigits n) = n from b] at hp
  exact hp
/-- strconv.Atoi at a number's own text. -/
theorem atoi_itoa (n : Int) (h0 : -9223372036854775808 ≤ n) (h1 : n ≤ 9223372036854775807) : Lib.atoiAll (itoa n) = .ok n := by
  by_cases hn : n < 0
  · obtain ⟨m, rfl⟩ : ∃ m : Nat, n = -(m : Int) := ⟨n.natAbs, by omega⟩
    have e : itoa (-(m : Int)) = 45 :: decDigits m := by unfold itoa; rw [if_pos hn]; congr 2; omega
    rw [e]
    unfold Lib.atoiAll
    have hm := mag_dec m (by omega)
    simp only [show (45 : UInt8).toNat = 45 from rfl, or_true, if_true, hm, not_true_eq_false, false_and, if_false, true_and]
    rw [if_neg (by omega)]
  · obtain ⟨m, rfl⟩ := Int.eq_ofNat_of_zero_le (show 0 ≤ n by omega)
    rw [itoa_nat]
    have hm := mag_dec m (by omega)
    obtain ⟨a, b, c, _⟩ := dec_dig m
    cases hl : decDigits m with
    | nil => rw [hl] at c; simp at c
    | cons x r =>
      rw [hl] at a hm
      have hx := (List.all_eq_true.1 a) x (by simp)
      simp only [isDig, Bool.and_eq_true, decide_eq_true_eq] at hx
      unfold Lib.atoiAll
      have e1 : ¬ x.toNat = 43 := by omega
      have e2 : ¬ x.toNat = 45 := by omega
      simp only [e1, e2, or_self, not_false_eq_true, true_and, false_and, if_false, hm]
      rw [if_neg (by omega)]
theorem atoi_bd {l : List UInt8} {v : Int} (h : Lib.atoiAll l = .ok v) : -9223372036854775808 ≤ v ∧ v ≤ 9223372036854775807 := by
  cases l with
  | nil => cases h
  | cons c r =>
    unfold Lib.atoiAll at h
    simp only at h
    split at h
    · cases h
    · cases h
    · split at h
      · cases h
      · split at h
        · cases h
        · injection h with h
          subst h
          split <;> omega
end Go.Proofs.YtfbangojgjcbcaaGreatDoor.Pl
namespace Go.Proofs.YtfbangojgjcbcaaGreatDoor.Pl
open Go.Lib (decDigits itoa)
end Go.Proofs.YtfbangojgjcbcaaGreatDoor.Pl
namespace Go.Proofs.YtfbangojgjcbcaaGreatDoor.Pl
open Go.Lib (decDigits itoa)
theorem index_ge (c : UInt8) : ∀ l : List UInt8, -1 ≤ Lib.index l [c]
  | [] => Int.le_of_eq rfl
  | y :: r => by
    have ih := index_ge c r
    rw [index_cons]
    split
    · decide
    · split
      · decide
      · omega
/-- What is kept while lines are read. -/
structure CInv (c : Cfg) : Prop where
  addrs : Addrs4 c
  own : c.own.length ≤ 8
  ports : c.ports.length ≤ 8
  hello : 0 ≤ c.hello ∧ c.hello ≤ 100
theorem CInv.start : CInv {} := ⟨⟨⟨by decide, by decide⟩, by simp⟩, by simp, by simp, by decide, by decide⟩
end Go.Proofs.YtfbangojgjcbcaaGreatDoor.Pl
namespace Go.Proofs.YtfbangojgjcbcaaGreatDoor.Pl
open Go.Lib (decDigits itoa join)
def In64 (n : Int) : Prop := -9223372036854775808 ≤ n ∧ n ≤ 9223372036854775807
/-- The code's reading of a number; of none 0. -/
def numC (s : List UInt8) : Int := match Lib.atoiAll s with
  | .ok v => v
  | _ => 0
theorem numC_itoa {n : Int} (h : In64 n) : numC (itoa n) = n := by unfold numC; rw [atoi_itoa n h.1 h.2]
theorem numC_in (s : List UInt8) : In64 (numC s) := by
  unfold numC
  cases h : Lib.atoiAll s with
  | ok v => exact atoi_bd h
  | _ => exact ⟨by decide, by decide⟩
/-- The document's reading of a number: twenty bytes at most, whatever they are. -/
def numStep (x : Nat) (b : UInt8) : Nat := (x * 10 + b.toNat + 18446744073709551568) % 18446744073709551616
def toI64 (x : Nat) : Int := if x < 9223372036854775808 then (x : Int) else (x : Int) - 18446744073709551616
def isNeg (s : List UInt8) : Bool := decide (s.head? = some 45)
def numU (s : List UInt8) : Nat := ((s.take 20).drop (if isNeg s then 1 else 0)).foldl numStep 0
def numR (s : List UInt8) : Int := if isNeg s then toI64 ((18446744073709551616 - numU s) % 18446744073709551616) else toI64 (numU s)
theorem numStep_lt (x : Nat) (b : UInt8) : numStep x b < 18446744073709551616 := Nat.mod_lt _ (by decide)
theorem numU_lt (s : List UInt8) : numU s < 18446744073709551616 := by
  have : ∀ (l : List UInt8) (a : Nat), a < 18446744073709551616 → l.foldl numStep a < 18446744073709551616 := by
    intro l
    induction l with
    | nil => intro a h; exact h
    | cons c l ih => intro a _; rw [List.foldl_cons]; exact ih _ (numStep_lt a c)
  exact this _ 0 (by decide)
theorem toI64_in {x : Nat} (h : x < 18446744073709551616) : In64 (toI64 x) := by
  unfold toI64 In64
  split <;> omega
theorem numR_in (s : List UInt8) : In64 (numR s) := by
  have h := numU_lt s
  unfold numR
  split
  · exact toI64_in (Nat.mod_lt _ (by decide))
  · exact toI64_in h
theorem dec_long (k : Nat) : ∀ n : Nat, 1 ≤ k → n < 10 ^ k → (decDigits n).length ≤ k := by
  induction k with
  | zero => intro n h _; omega
  | succ k ih =>
    intro n _ h
    by_cases h10 : 10 ≤ n
    · rw [dec_big n h10, List.length_append]
      have hk : 1 ≤ k := by
        rcases Nat.eq_zero_or_pos k with rfl | hk
        · simp at h; omega
        · exact hk
      have := ih (n / 10) hk (by rw [Nat.pow_succ] at h; omega)
      simp; omega
    · rw [decDigits, dif_pos (by omega)]; simp
theorem fold_num : ∀ (l : List UInt8) (a : Nat), l.all isDig = true → l.foldl (fun a c => a * 10 + (c.toNat - 48)) a < 18446744073709551616 →
    l.foldl numStep a = l.foldl (fun a c => a * 10 + (c.toNat - 48)) a := by
  have mono : ∀ (l : List UInt8) (a : Nat), a ≤ l.foldl (fun a c => a * 10 + (c.toNat - 48)) a := by
    intro l
    induction l with
    | nil => intro a; exact Nat.le_refl _
    | cons c l ih => intro a; rw [List.foldl_cons]; exact Nat.le_trans (by omega) (ih (a * 10 + (c.toNat - 48)))
  intro l
  induction l with
  | nil => intro a _ _; rw [List.foldl_nil, List.foldl_nil]
  | cons c l ih =>
    intro a hd hv
    simp only [List.all_cons, isDig, Bool.and_eq_true, decide_eq_true_eq] at hd
    rw [List.foldl_cons] at hv
    have h1 := mono l (a * 10 + (c.toNat - 48))
    have e : numStep a c = a * 10 + (c.toNat - 48) := by unfold numStep; omega
    rw [List.foldl_cons, List.foldl_cons, e]
    exact ih _ hd.2 hv
theorem numR_itoa {n : Int} (h : In64 n) : numR (itoa n) = n := by
  obtain ⟨h0, h1⟩ := h
  by_cases hn : n < 0
  · obtain ⟨m, rfl⟩ : ∃ m : Nat, n = -(m : Int) := ⟨n.natAbs, by omega⟩
    have e : itoa (-(m : Int)) = 45 :: decDigits m := by unfold itoa; rw [if_pos hn]; congr 2; omega
    obtain ⟨a, b, c, _⟩ := dec_dig m
    have hl := dec_long 19 m (by decide) (by omega)
    have hneg : isNeg (45 :: decDigits m) = true := by simp [isNeg]
    have hu : numU (45 :: decDigits m) = m := by
      unfold numU
      rw [hneg, if_pos rfl, List.take_of_length_le (by simp; omega)]
      show (decDigits m).foldl numStep 0 = m
      have hb : (decDigits m).foldl (fun a c => a * 10 + (c.toNat - 48)) 0 = m := b
      rw [fold_num _ 0 a (by rw [hb]; omega), hb]
    rw [e]
    unfold numR
    rw [hneg, if_pos rfl, hu]
    unfold toI64
    have : (18446744073709551616 - m) % 18446744073709551616 = 18446744073709551616 - m := Nat.mod_eq_of_lt (by omega)
    rw [this, if_neg (by omega)]
    omega
  · obtain ⟨m, rfl⟩ := Int.eq_ofNat_of_zero_le (show 0 ≤ n by omega)
    rw [itoa_nat]
    obtain ⟨a, b, c, _⟩ := dec_dig m
    have hl := dec_long 19 m (by decide) (by omega)
    have hneg : isNeg (decDigits m) = false := by
      cases hd : decDigits m with
      | nil => rfl
      | cons x r =>
        rw [hd] at a
        have hx := (List.all_eq_true.1 a) x (by simp)
        simp only [isDig, Bool.and_eq_true, decide_eq_true_eq] at hx
        unfold isNeg
        simp only [List.head?_cons, Option.some.injEq, decide_eq_false_iff_not]
        rintro rfl
        simp at hx
    have hu : numU (decDigits m) = m := by
      unfold numU
      rw [hneg]
      show ((decDigits m).take 20).foldl numStep 0 = m
      rw [List.take_of_length_le (by omega)]
      have hb : (decDigits m).foldl (fun a c => a * 10 + (c.toNat - 48)) 0 = m := b
      rw [fold_num _ 0 a (by rw [hb]; omega), hb]
    unfold numR
    rw [hneg, hu]
    show toI64 m = m
    unfold toI64
    rw [if_pos (by omega)]
theorem itoa_no' (n : Int) (c : UInt8) (hc : isDig c = false) (h : ¬ c = 45) : c ∉ itoa n := by
  unfold itoa
  split
  · intro hm
    rcases List.mem_cons.1 hm with rfl | hm
    · exact h rfl
    · exact dec_no c hc _ hm
  · exact dec_no c hc _
theorem itoa_len20 {n : Int} (h : In64 n) : (itoa n).length ≤ 20 := by
  obtain ⟨h0, h1⟩ := h
  unfold itoa
  split
  · have := dec_long 19 n.natAbs (by decide) (by omega)
    simp; omega
  · have := dec_long 19 n.toNat (by decide) (by omega)
    omega
/-! ### Links -/
abbrev Lk := Int × Int × Int × Int
def wLink : List UInt8 := [108, 105, 110, 107]
def In4 (l : Lk) : Prop := In64 l.1 ∧ In64 l.2.1 ∧ In64 l.2.2.1 ∧ In64 l.2.2.2
def linkText (l : Lk) : List UInt8 := wLink ++ 32 :: (itoa l.1 ++ 32 :: (itoa l.2.1 ++ 32 :: (itoa l.2.2.1 ++ 32 :: itoa l.2.2.2)))
def linkW (f : List UInt8 → Int) (s : List UInt8) : Option Lk := match splitOn 32 s with
  | [_, x, y, z, t] => if linkText (f x, f y, f z, f t) = s then some (f x, f y, f z, f t) else none
  | _ => none
theorem itoa_no32 (n : Int) : (32 : UInt8) ∉ itoa n := itoa_no' n 32 (by decide) (by decide)
def linkC (s : List UInt8) : Option Lk := linkW numC s
theorem linkText_len {l : Lk} (h : In4 l) : (linkText l).length ≤ 100 := by
  obtain ⟨h1, h2, h3, h4⟩ := h
  have := itoa_len20 h1
  have := itoa_len20 h2
  have := itoa_len20 h3
  have := itoa_len20 h4
  unfold linkText wLink
  simp; omega
end Go.Proofs.YtfbangojgjcbcaaGreatDoor.Pl
namespace Go.Proofs.YtfbangojgjcbcaaGreatDoor.Pl
def digitsB : List UInt8 := [48, 49, 50, 51, 52, 53, 54, 55, 56, 57, 97, 98, 99, 100, 101, 102]
def hx (n : Nat) : UInt8 := digitsB.getD n 0
def hex1 (b : UInt8) : List UInt8 := [hx (b.toNat / 16), hx (b.toNat % 16)]
def hexText (l : List UInt8) : List UInt8 := l.flatMap hex1
def dig (b : UInt8) : Option Nat :=
  if 48 ≤ b.toNat ∧ b.toNat ≤ 57 then some (b.toNat - 48) else if 97 ≤ b.toNat ∧ b.toNat ≤ 102 then some (b.toNat - 87) else none
def unhex : List UInt8 → Option (List UInt8)
  | [] => some []
  | [_] => none
  | a :: b :: t => match dig a, dig b with
    | some x, some y => (unhex t).map fun r => UInt8.ofNat (16 * x + y) :: r
    | _, _ => none
theorem hexText_length (l : List UInt8) : (hexText l).length = 2 * l.length := by
  induction l with
  | nil => rfl
  | cons a t ih => simp only [hexText, List.flatMap_cons, List.length_append, List.length_cons] at ih ⊢; rw [ih]; simp [hex1]; omega
theorem hexText_take (l : List UInt8) (j : Nat) (h : j < l.length) : hexText (l.take (j + 1)) = hexText (l.take j) ++ hex1 l[j] := by
  unfold hexText; rw [List.take_succ_eq_append_getElem h, List.flatMap_append, List.flatMap_cons, List.flatMap_nil, List.append_nil]
theorem dig_hx (n : Nat) (h : n < 16) : dig (hx n) = some n := by
  have : ∀ m < 16, dig (hx m) = some m := by decide
  exact this n h
theorem dig_lt {b : UInt8} {x : Nat} (h : dig b = some x) : x < 16 := by
  unfold dig at h
  split at h
  · injection h with h; omega
  · split at h
    · injection h with h; omega
    · cases h
theorem unhex_hex (l : List UInt8) : unhex (hexText l) = some l := by
  induction l with
  | nil => rfl
  | cons a t ih =>
    have ha := a.toNat_lt
    show unhex (hx (a.toNat / 16) :: hx (a.toNat % 16) :: hexText t) = _
    rw [unhex, dig_hx _ (by omega), dig_hx _ (by omega)]
    show (unhex (hexText t)).map _ = _
    rw [ih]
    simp only [Option.map_some]
    rw [show 16 * (a.toNat / 16) + a.toNat % 16 = a.toNat from by omega]
    simp
theorem unhex_odd : ∀ l : List UInt8, l.length % 2 = 1 → unhex l = none
  | [], h => by simp at h
  | [_], _ => rfl
  | a :: b :: t, h => by
    have ih := unhex_odd t (by simp at h; omega)
    rw [unhex, ih]
    cases dig a <;> cases dig b <;> rfl
theorem indexByte_dig (c : UInt8) : Lib.indexByte digitsB c = match dig c with | some n => (n : Int) | none => -1 := by
  have h : ∀ n : Fin 256, Lib.indexByte digitsB (UInt8.ofNat n.1) = match dig (UInt8.ofNat n.1) with | some n => (n : Int) | none => -1 := by decide +kernel
  have := h ⟨c.toNat, c.toNat_lt⟩
  simpa using this
/-- One round. -/
theorem unhex_step (l : List UInt8) (j : Nat) (h : j + 1 < l.length) :
    unhex (l.drop j) = match dig l[j], dig l[j + 1] with
      | some x, some y => (unhex (l.drop (j + 2))).map fun r => UInt8.ofNat (16 * x + y) :: r
      | _, _ => none := by
  rw [List.drop_eq_getElem_cons (show j < l.length by omega), List.drop_eq_getElem_cons h, unhex]
end Go.Proofs.YtfbangojgjcbcaaGreatDoor.Pl
namespace Go.Proofs.YtfbangojgjcbcaaGreatDoor.Pl
open Go.Lib (decDigits itoa join)
structure ActP where
  kind : Int
  node : Int := 0
  port : Int := 0
  cost : Int := 0
  n : Int := 0
  up : Bool := false
  by_ : UInt8 := 0
  unread : Bool := false
  bytes : List UInt8 := []
  deriving DecidableEq
/-- What a kind names. -/
inductive Pt where
  | n | p | c | i | u | b | r | x
  deriving DecidableEq
def nameA : Nat → List UInt8
  | 1 => [116, 105, 99, 107]
  | 2 => [104, 101, 97, 114]
  | 3 => [108, 111, 115, 101]
  | 4 => [100, 111, 117, 98, 108, 101]
  | 5 => [99, 111, 115, 116]
  | 6 => [108, 105, 110, 107]
  | 7 => [99, 114, 97, 115, 104]
  | 8 => [115, 116, 97, 114, 116]
  | 9 => [112, 97, 99, 107, 101, 116]
  | _ => []
def partsA : Nat → List Pt
  | 1 => [.n]
  | 2 => [.i]
  | 3 => [.i]
  | 4 => [.i]
  | 5 => [.n, .p, .c]
  | 6 => [.i, .u]
  | 7 => [.n]
  | 8 => [.n, .i, .b, .r]
  | 9 => [.n, .x]
  | _ => []
def wUp : List UInt8 := [117, 112]
def wDown : List UInt8 := [100, 111, 119, 110]
def wUnread : List UInt8 := [117, 110, 114, 101, 97, 100]
def wRead : List UInt8 := [114, 101, 97, 100]
def hexD (l : List UInt8) : List UInt8 := if l = [] then [45] else hexText l
def unhexD (l : List UInt8) : List UInt8 := (unhex l).getD []
def told (a : ActP) : Pt → List UInt8
  | .n => itoa a.node
  | .p => itoa a.port
  | .c => itoa a.cost
  | .i => itoa a.n
  | .b => itoa (a.by_.toNat : Int)
  | .u => if a.up then wUp else wDown
  | .r => if a.unread then wUnread else wRead
  | .x => hexD a.bytes
def actWords (a : ActP) : List (List UInt8) := nameA a.kind.toNat :: (partsA a.kind.toNat).map (told a)
def actText (a : ActP) : List UInt8 := join (actWords a) [32]
/-- What its kind does not name is nothing. -/
def bareOk (a : ActP) : Bool :=
  let p := partsA a.kind.toNat
  (decide (a.node = 0) || p.contains .n) && (decide (a.port = 0) || p.contains .p) && (decide (a.cost = 0) || p.contains .c) && (decide (a.n = 0) || p.contains .i) &&
    (!a.up || p.contains .u) && (decide (a.by_ = 0) || p.contains .b) && (!a.unread || p.contains .r) && (decide (a.bytes = []) || p.contains .x)
def mayA (a : ActP) : Bool := decide (1 ≤ a.kind) && decide (a.kind ≤ 9) && bareOk a && decide (a.bytes.length ≤ 2048)
def InA (a : ActP) : Prop := In64 a.kind ∧ In64 a.node ∧ In64 a.port ∧ In64 a.cost ∧ In64 a.n
def byteI (n : Int) : UInt8 := UInt8.ofNat (n % 256).toNat
theorem byteI_of (b : UInt8) : byteI (b.toNat : Int) = b := by
  unfold byteI
  have := b.toNat_lt
  rw [show ((b.toNat : Int) % 256).toNat = b.toNat by omega]
  simp
def wd (w : List (List UInt8)) (i : Nat) : List UInt8 := w.getD i []
def guessA (f : List UInt8 → Int) (k : Nat) (w : List (List UInt8)) : ActP := match k with
  | 1 => { kind := 1, node := f (wd w 1) }
  | 2 => { kind := 2, n := f (wd w 1) }
  | 3 => { kind := 3, n := f (wd w 1) }
  | 4 => { kind := 4, n := f (wd w 1) }
  | 5 => { kind := 5, node := f (wd w 1), port := f (wd w 2), cost := f (wd w 3) }
  | 6 => { kind := 6, n := f (wd w 1), up := decide (wd w 2 = wUp) }
  | 7 => { kind := 7, node := f (wd w 1) }
  | 8 => { kind := 8, node := f (wd w 1), n := f (wd w 2), by_ := byteI (f (wd w 3)), unread := decide (wd w 4 = wUnread) }
  | 9 => { kind := 9, node := f (wd w 1), bytes := unhexD (wd w 2) }
  | k => { kind := (k : Int) }
def kindA (w : List UInt8) : Option Nat :=
  if w = nameA 1 then some 1 else if w = nameA 2 then some 2 else if w = nameA 3 then some 3 else if w = nameA 4 then some 4 else if w = nameA 5 then some 5 else
  if w = nameA 6 then some 6 else if w = nameA 7 then some 7 else if w = nameA 8 then some 8 else if w = nameA 9 then some 9 else none
def isA (a : ActP) (s : List UInt8) : Bool := mayA a && decide (actText a = s)
def actW (f : List UInt8 → Int) (s : List UInt8) : Option ActP := match kindA (wd (splitOn 32 s) 0) with
  | some k => if isA (guessA f k (splitOn 32 s)) s then some (guessA f k (splitOn 32 s)) else none
  | none => none
def actC (s : List UInt8) : Option ActP := actW numC s
theorem join_two (x y : List UInt8) (r : List (List UInt8)) (c : UInt8) : join (x :: y :: r) [c] = x ++ c :: join (y :: r) [c] := by simp [join]
theorem split_of_join (c : UInt8) : ∀ (ws : List (List UInt8)), ws ≠ [] → (∀ w ∈ ws, c ∉ w) → splitOn c (join ws [c]) = ws
  | [], h, _ => absurd rfl h
  | [x], _, h => by
    have : join [x] [c] = x := by simp [join]
    rw [this, splitOn_none c x (h x (by simp))]
  | x :: y :: r, _, h => by
    rw [join_two, splitOn_app c _ _ (h x (by simp)), split_of_join c (y :: r) (by simp) (fun w hw => h w (List.mem_cons_of_mem _ hw))]
theorem hx_no (n : Nat) (h : n < 16) (c : UInt8) (hc : dig c = none) : hx n ≠ c := by
  rintro rfl
  rw [dig_hx n h] at hc
  cases hc
theorem hex_no (l : List UInt8) (c : UInt8) (hc : dig c = none) : c ∉ hexText l := by
  unfold hexText
  intro h
  obtain ⟨b, _, hb⟩ := List.mem_flatMap.1 h
  have := b.toNat_lt
  unfold hex1 at hb
  simp only [List.mem_cons, List.not_mem_nil, or_false] at hb
  rcases hb with hb | hb
  · exact hx_no _ (by omega) c hc hb.symm
  · exact hx_no _ (by omega) c hc hb.symm
theorem hexD_no (l : List UInt8) : (32 : UInt8) ∉ hexD l := by
  unfold hexD
  split
  · decide
  · exact hex_no l 32 (by decide)
theorem unhexD_hexD (l : List UInt8) : unhexD (hexD l) = l := by
  unfold hexD unhexD
  split
  · rename_i h; rw [h]; rfl
  · rw [unhex_hex]; rfl
theorem told_no (a : ActP) (q : Pt) : (32 : UInt8) ∉ told a q := by
  cases q with
  | n => exact itoa_no32 _
  | p => exact itoa_no32 _
  | c => exact itoa_no32 _
  | i => exact itoa_no32 _
  | u => show (32 : UInt8) ∉ (if a.up then wUp else wDown); cases a.up <;> decide
  | b => exact itoa_no32 _
  | r => show (32 : UInt8) ∉ (if a.unread then wUnread else wRead); cases a.unread <;> decide
  | x => exact hexD_no _
theorem name_no : ∀ k : Nat, (32 : UInt8) ∉ nameA k
  | 0 | 1 | 2 | 3 | 4 | 5 | 6 | 7 | 8 | 9 => by decide
  | _ + 10 => by simp [nameA]
theorem actText_split (a : ActP) : splitOn 32 (actText a) = actWords a := by
  unfold actText
  refine split_of_join 32 _ (by simp [actWords]) fun w hw => ?_
  unfold actWords at hw
  rcases List.mem_cons.1 hw with rfl | hw
  · exact name_no _
  · obtain ⟨pt, _, rfl⟩ := List.mem_map.1 hw
    exact told_no a pt
theorem kind_cases {a : ActP} (h : mayA a = true) : a.kind = 1 ∨ a.kind = 2 ∨ a.kind = 3 ∨ a.kind = 4 ∨ a.kind = 5 ∨ a.kind = 6 ∨ a.kind = 7 ∨ a.kind = 8 ∨ a.kind = 9 := by
  unfold mayA at h
  simp only [Bool.and_eq_true, decide_eq_true_eq] at h
  omega
theorem actWords_len {a : ActP} : (actWords a).length = 1 + (partsA a.kind.toNat).length := by unfold actWords; simp; omega
theorem guess_kind (f : List UInt8 → Int) {k : Nat} (w : List (List UInt8)) : (guessA f k w).kind = (k : Int) := by
  unfold guessA
  split <;> rfl
theorem guess_in {f : List UInt8 → Int} (hf : ∀ s, In64 (f s)) (k : Nat) (hk : k ≤ 9) (w : List (List UInt8)) : InA (guessA f k w) := by
  have h0 : In64 0 := ⟨by decide, by decide⟩
  have hk' : In64 (guessA f k w).kind := by rw [guess_kind]; exact ⟨by omega, by omega⟩
  refine ⟨hk', ?_⟩
  clear hk'
  unfold guessA
  split <;> exact ⟨by first | exact hf _ | exact h0, by first | exact hf _ | exact h0, by first | exact hf _ | exact h0, by first | exact hf _ | exact h0⟩
theorem kindA_le {w : List UInt8} {k : Nat} (h : kindA w = some k) : 1 ≤ k ∧ k ≤ 9 ∧ w = nameA k := by
  unfold kindA at h
  repeat (split at h; (rename_i he; injection h with h; subst h; exact ⟨by decide, by decide, he⟩))
  cases h
theorem guess_self {f : List UInt8 → Int} (hf : ∀ n, In64 n → f (itoa n) = n) {a : ActP} (h : mayA a = true) (hi : InA a) : guessA f a.kind.toNat (actWords a) = a := by
  have hk := kind_cases h
  unfold mayA at h
  simp only [Bool.and_eq_true] at h
  obtain ⟨⟨⟨_, _⟩, hb⟩, _⟩ := h
  obtain ⟨k, node, port, cost, n, up, by_, unread, bytes⟩ := a
  obtain ⟨_, h1, h2, h3, h4⟩ := hi
  have hy : f (itoa (by_.toNat : Int)) = (by_.toNat : Int) := hf _ ⟨by omega, by have := by_.toNat_lt; omega⟩
  unfold bareOk at hb
  simp only at hk h1 h2 h3 h4 hb
  have e1 := hf _ h1
  have e2 := hf _ h2
  have e3 := hf _ h3
  have e4 := hf _ h4
  rcases hk with rfl | rfl | rfl | rfl | rfl | rfl | rfl | rfl | rfl <;>
    simp [partsA] at hb <;>
    simp_all [actWords, partsA, guessA, wd, told, unhexD_hexD, byteI_of, wUp, wDown, wUnread, wRead]
  all_goals (first | (cases up <;> simp) | (cases unread <;> simp))
theorem kind_self {a : ActP} (h : mayA a = true) : kindA (wd (actWords a) 0) = some a.kind.toNat := by
  have hk := kind_cases h
  unfold actWords wd
  simp only [List.getD_cons_zero]
  rcases hk with hk | hk | hk | hk | hk | hk | hk | hk | hk <;> rw [hk] <;> decide
theorem actW_text {f : List UInt8 → Int} (hf : ∀ n, In64 n → f (itoa n) = n) {a : ActP} (h : mayA a = true) (hi : InA a) : actW f (actText a) = some a := by
  unfold actW
  rw [actText_split, kind_self h]
  simp only
  rw [guess_self hf h hi]
  unfold isA
  rw [h]
  simp
theorem actW_some {f : List UInt8 → Int} (hf : ∀ s, In64 (f s)) {s : List UInt8} {a : ActP} (h : actW f s = some a) : mayA a = true ∧ actText a = s ∧ InA a := by
  unfold actW at h
  cases hk : kindA (wd (splitOn 32 s) 0) with
  | none => rw [hk] at h; cases h
  | some k =>
    rw [hk] at h
    simp only at h
    split at h
    · rename_i hc
      injection h with h
      unfold isA at hc
      simp only [Bool.and_eq_true, decide_eq_true_eq] at hc
      rw [h] at hc
      refine ⟨hc.1, hc.2, ?_⟩
      rw [← h]
      exact guess_in hf k (kindA_le hk).2.1 _
    · cases h
theorem act_same (s : List UInt8) : actW numR s = actC s := by
  cases h : actC s with
  | some a =>
    obtain ⟨hm, rfl, hi⟩ := actW_some numC_in h
    exact actW_text (fun n hn => numR_itoa hn) hm hi
  | none =>
    cases h' : actW numR s with
    | none => rfl
    | some a =>
      obtain ⟨hm, rfl, hi⟩ := actW_some numR_in h'
      have h2 : actC (actText a) = some a := actW_text (fun n hn => numC_itoa hn) hm hi
      rw [h2] at h
      cases h
/-- The document asks for the number of words, too. -/
theorem is_len {f : List UInt8 → Int} {k : Nat} {s : List UInt8} (h : isA (guessA f k (splitOn 32 s)) s = true) : (splitOn 32 s).length = 1 + (partsA k).length := by
  unfold isA at h
  simp only [Bool.and_eq_true, decide_eq_true_eq] at h
  obtain ⟨_, h2⟩ := h
  have h3 := actText_split (guessA f k (splitOn 32 s))
  rw [h2] at h3
  have h4 := congrArg List.length h3
  rw [actWords_len, guess_kind] at h4
  simpa using h4
end Go.Proofs.YtfbangojgjcbcaaGreatDoor.Pl
