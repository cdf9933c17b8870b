/- Part 1 of the proof: PlainP, Base, Frame, PlainN, PlainT, PlainA, PlainS, PlainO, PlainG, PlainX, PlainY, PlainH, PlainZ, PreR. -/
import Derived.WalkKit
import Derived.Test.YtfbangojgjcbcaaGreatDoorChecked
import Derived.WalkSpells
import Derived.WalkLawsBesides
import Derived.StillTactics
import Derived.Deep.QuietTactic
import Derived.BigQuiet
import Derived.Deep.RegionHeld3
import Derived.Deep.AppendLies
import Derived.Deep.Draws
import Derived.Deep.OwnRows
import Derived.Deep.DeepFit
import Derived.Maps.AppendAt
import Derived.Lib.Hide
import Derived.Lib.LaidTab
import Derived.Lib.ItoaNum
import Derived.Lib.ConvBytes
import Derived.RowKit3
import Derived.OwnWalk
import Derived.Laws.OwnMore
import Derived.Laws.IdiomStrings
import Derived.Test.YtfbangojgjcbcaaGreatDoorRows
import Derived.Test.YtfbangojgjcbcaaGreatDoorCards
import Derived.Test.YtfbangojgjcbcaaGreatDoorTie
import Derived.ProofKit
import Derived.OpenShut
import Derived.ShutString
import Derived.ChangeOld
import Derived.Deep.DeepHandedRow
import Derived.Deep.DeepWitnessRowRef
import Derived.Lib.LaidU8
import Derived.Lib.LaidIn
import Derived.Lib.SmallJoins
import Derived.SevenTiedAt
import Derived.Shelf.LaysM
import Derived.Lib.Join
import Derived.Lib.JoinLaws
import Derived.Lib.Split
import Derived.Lib.SplitLaws
import Derived.Lib.ParseIntB
import Derived.Lib.CutLaws
import Derived.Lib.AtoiAll
import Derived.Lib.Bytealg
namespace Go.Proofs.YtfbangojgjcbcaaGreatDoor.Pl
/-- 2 to the number of bits behind the first n. -/
def blk (n : Int) : Int := ((2 ^ (32 - n.toNat) : Nat) : Int)
/-- May the prefix be? -/
def mayP (a n : Int) : Bool := decide (0 ≤ n) && (decide (n ≤ 32) && decide (a % blk n = 0))
/-- The first n bits, the others noughts. -/
def firstP (a n : Int) : Int := a / blk n * blk n
def hasP (a n x : Int) : Bool := mayP a n && decide (firstP x n = a)
def cmpI (x y : Int) : Int := if x < y then -1 else if y < x then 1 else 0
def cmpP (a n b m : Int) : Int := if cmpI a b = 0 then cmpI n m else cmpI a b
theorem blk_pos (n : Int) : 1 ≤ blk n := by
  unfold blk; have := Nat.pow_pos (n := 32 - n.toNat) (show 0 < 2 by decide); omega
theorem blk_le (n : Int) : blk n ≤ 4294967296 := by
  unfold blk; have := Nat.pow_le_pow_right (show 0 < 2 by decide) (show 32 - n.toNat ≤ 32 by omega); omega
/-- x & (2^32 - 2^k) = x / 2^k * 2^k below 2^32 -/
theorem and_mask (x k : Nat) (hx : x < 4294967296) (hk : k ≤ 32) : x &&& (4294967296 - 2 ^ k) = x / 2 ^ k * 2 ^ k := by
  apply Nat.eq_of_testBit_eq
  intro i
  have h1 : (4294967296 : Nat) - 2 ^ k = 2 ^ 32 - (2 ^ k - 1 + 1) := by
    have := Nat.pow_pos (n := k) (show 0 < 2 by decide); omega
  rw [Nat.testBit_and, h1, Nat.testBit_two_pow_sub_succ (by have := Nat.pow_le_pow_right (show 0 < 2 by decide) hk; have := Nat.pow_pos (n := k) (show 0 < 2 by decide); omega), Nat.testBit_two_pow_sub_one, Nat.mul_comm, Nat.testBit_two_pow_mul, Nat.testBit_div_two_pow]
  by_cases hi : i < 32
  · by_cases hik : i < k
    · simp [hik]; intro; omega
    · rw [Nat.sub_add_cancel (by omega)]; simp [hi, hik]; omega
  · have : x.testBit i = false := Nat.testBit_lt_two_pow (Nat.lt_of_lt_of_le hx (Nat.pow_le_pow_right (show 0 < 2 by decide) (show 32 ≤ i by omega)))
    by_cases hki : k ≤ i
    · rw [Nat.sub_add_cancel hki]; simp [this]
    · simp [this, hki]
theorem and_low (x k : Nat) : x &&& (2 ^ k - 1) = x % 2 ^ k := Nat.and_two_pow_sub_one_eq_mod x k
end Go.Proofs.YtfbangojgjcbcaaGreatDoor.Pl
namespace Go.Proofs.YtfbangojgjcbcaaGreatDoor
open Go.RowKit Pl
/-- A byte list as cells. -/
def cellsB (l : List UInt8) : List Value := l.map fun b => .int .u8 (b.toNat : Int)
theorem cellsB_length (l : List UInt8) : (cellsB l).length = l.length := by simp [cellsB]
theorem cellsB_append (l m : List UInt8) : cellsB (l ++ m) = cellsB l ++ cellsB m := by simp [cellsB]
/-- The slice value v reads as the bytes l in world w. -/
def Bs (w : World) (v : Value) (l : List UInt8) : Prop :=
  ∃ (A : Option Addr) (c : Nat), v = .slice A l.length c ∧ l.length ≤ c ∧ (A = none → c = 0) ∧
    (0 < l.length → ∃ b off, A = some ⟨b, off, none⟩ ∧ b < w.heap.size ∧ ∀ j u, (cellsB l)[j]? = some u → w.cell? ⟨b, off + j, none⟩ = some u)
theorem Bs.keep {w w' : World} {v : Value} {l : List UInt8} (h : Bs w v l) (hs : w.heap.size ≤ w'.heap.size) (hk : ∀ p : Addr, p.block < w.heap.size → w'.cell? p = w.cell? p) : Bs w' v l := by
  obtain ⟨A, c, rfl, hc, hn, hA⟩ := h
  refine ⟨A, c, rfl, hc, hn, fun hp => ?_⟩
  obtain ⟨b, off, rfl, hb, hcell⟩ := hA hp
  exact ⟨b, off, rfl, by omega, fun j u hu => (hk _ hb).trans (hcell j u hu)⟩
theorem Bs.below {w w' : World} {v : Value} {l : List UInt8} (h : Bs w v l) (hb : Below w.heap.size w w') : Bs w' v l := h.keep hb.size fun _ hp => hb.cell hp
theorem Bs.alloc {w : World} {v : Value} {l : List UInt8} (h : Bs w v l) (o : Obj) : Bs (w.alloc o) v l := h.keep (by simp) fun p hp => World.cell?_alloc_lt w o p hp
theorem Bs.drewN {w : World} {v : Value} {l : List UInt8} (h : Bs w v l) (n : Nat) : Bs (w.drewN n) v l := h
theorem Bs.nil (w : World) : Bs w (.slice none 0 0) [] := ⟨none, 0, rfl, Nat.le_refl _, fun _ => rfl, fun h => absurd h (by simp)⟩
theorem Bs.own {w : World} {base : Nat} {v : Value} {n : Nat} {l : List UInt8} (h : w.ownsRow base 5 1 v n (cellsB l)) : Bs w v l := by
  have hn : n = l.length := by have := h.1; simp [cellsB_length] at this; omega
  subst hn
  rcases h.2 with ⟨rfl, h0⟩ | ⟨g, cap, cur, rfl, hg, hh, hnc, _⟩
  · have h0' : l = [] := by simpa [cellsB] using h0
    subst h0'; exact Bs.nil w
  · refine ⟨_, cap, rfl, hnc, (fun h => by cases h), fun hp => ⟨g, 0, rfl, ?_, fun j u hu => ?_⟩⟩
    · exact (h.lt g rfl).2
    · have := h.cells (g := g) rfl j u hu
      rw [show ((⟨g, 0, none⟩ : Addr).add j) = ⟨g, 0 + j, none⟩ from by unfold Addr.add; by_cases hj : j = 0 <;> simp [hj]] at this
      exact this
/-- 'string(v)'. -/
theorem Bs.conv {w : World} {v : Value} {l : List UInt8} (h : Bs w v l) : (convert 37 9 v).run Tryz.prog w = .ok (.string ⟨l.toArray⟩) w := by
  obtain ⟨A, c, rfl, hc, hn, hA⟩ := h
  by_cases hp : 0 < l.length
  · obtain ⟨b, off, rfl, hb, hcell⟩ := hA hp
    refine run_convert_bytes_back w 37 9 5 ⟨b, off, none⟩ c l Tryz.underlying37 Tryz.underlying5 Tryz.underlying9 (fun j hj => ?_)
    have h1 := hcell j (.int .u8 (l[j].toNat : Int)) (by simp [cellsB, hj])
    rw [show ((⟨b, off, none⟩ : Addr).add j) = ⟨b, off + j, none⟩ from by unfold Addr.add; by_cases hj : j = 0 <;> simp [hj]]
    exact h1
  · have h0 : l = [] := List.eq_nil_of_length_eq_zero (by omega)
    subst h0
    rw [run_convert_bytes_string w 37 9 5 A _ c Tryz.underlying37 Tryz.underlying5 Tryz.underlying9]
    cases A with
    | none => simp [Conv.bytesToString, Sem.run_pure]; rfl
    | some a => exact run_bytesToString w a 0 c [] (by simpa using run_loadCells_list (P := Tryz.prog) w a [] (by simp))
/-- What the package-level variables of Go's library hold. -/
structure Env (w : World) : Prop where
  size : 8 ≤ w.heap.size
  maxlen : ∃ m, w.cell? ⟨0, 0, none⟩ = some (.int .i64 m)
  pow : Lib.TabIs Tryz.prog w "internal/strconv.uint64pow10" .u64 Lib.pow10Tab
  syn : ∃ t p, w.cell? ⟨2, 0, none⟩ = some (.iface t p)
  rng : ∃ t p, w.cell? ⟨3, 0, none⟩ = some (.iface t p)
theorem Env.below {w w' : World} {B : Nat} (h : Env w) (hB : 8 ≤ B) (hb : Below B w w') : Env w' := by
  obtain ⟨h0, ⟨m, h1⟩, h2, ⟨t1, p1, h3⟩, ⟨t2, p2, h4⟩⟩ := h
  refine ⟨Nat.le_trans h0 hb.size, ⟨m, (hb.cell (show _ < _ by dsimp only; omega)).trans h1⟩, ?_, ⟨t1, p1, (hb.cell (show _ < _ by dsimp only; omega)).trans h3⟩, ⟨t2, p2, (hb.cell (show _ < _ by dsimp only; omega)).trans h4⟩⟩
  exact var?_below hb (show Tryz.prog.globalNamed "internal/strconv.uint64pow10" = some 1 by kernel_rfl) (by omega) h2
theorem Env.here {w w' : World} (h : Env w) (hb : Below w.heap.size w w') : Env w' := h.below h.size hb
theorem info_u8 : (Tryz.prog.info? 5).map (fun i => (i.zero, i.size, i.bytes)) = some (some (.int .u8 0), 1, 1) := by kernel_rfl
theorem info_str : (Tryz.prog.info? 9).map (fun i => (i.zero, i.size, i.bytes)) = some (some (.string ⟨#[]⟩), 1, 16) := by kernel_rfl
theorem ret_int {k : IntKind} {a b : Int} (h : a = b) : Ending.returned (.int k a) = .returned (.int k b) := by rw [h]
theorem grownBy_alloc {w w' : World} {o : Obj} {row : Option Nat} (h : (w.alloc o).grownBy w' row) : w.grownBy w' row :=
  ⟨h.os, h.tape, h.output, Nat.le_trans (by simp) h.size, fun i hi hne => (h.block i (by simp; omega) hne).trans (Below.heap_alloc w o i hi)⟩
theorem grownBy_drew {w w' : World} {row : Option Nat} (h : w.drew.grownBy w' row) : w.grownBy w' row := ⟨h.os, h.tape, h.output, h.size, h.block⟩
/-- 'out = append(out, x)', out the call's own, one cell an element: x lies in a new block of its own. -/
theorem wpList_push {P : Program} {ops : Array Oper} {rest : List Oper} {o : Oper} {a : Act} {Q : Exit → Act → World → Prop} {w0 : World} {e0 : TypeId} {u : Value} (hgd : o.guard = none) (s x : Operand) (t : TypeId)
    (ho : o.op = .call { callee := .builtin .append, args := #[s, x], argTypes := #[t, t] })
    (base : Nat) (e : TypeId) {z : Value} {bytes : Nat} (hinfo : (P.info? e).map (fun i => (i.zero, i.size, i.bytes)) = some (some z, 1, bytes)) (hzs : z.cells.size = 1) (hby : bytes ≤ 1000) (ht : P.underlying t = some (.slice e))
    (v : Value) (n : Nat) (xs : List Value) (hs : a.eval s = v) (hown : w0.ownsRow base e 1 v n xs) (hx : a.eval x = .slice (some ⟨w0.heap.size, 0, none⟩) 1 1) (hu : u.oneCell' = true)
    (hn : n ≤ 1000000000) (hbase : base ≤ w0.heap.size)
    (h : ∀ v' w', w'.ownsRow base e 1 v' (n + 1) (xs ++ [u]) → w0.grownBy w' v.ownBlock → wpList P ops Q rest (a.put o.dst v') w') : wpList P ops Q (o :: rest) a (w0.alloc (.cells #[u] e0)) := by
  obtain ⟨i0, hi, hz0, hz1, hz2⟩ := info_parts hinfo
  refine wpList_append_own _ hgd s x t ho base e i0 z 1 bytes ht hi hz0 hz1 hz2 hzs (by decide) v n xs hs (hown.alloc _) ⟨w0.heap.size, 0, none⟩ 1 1 [u] hx rfl (cell_one_new _ _ _) (by intro y hy; simp at hy; subst hy; exact hu) (by unfold maxLen; omega) ?_ (by simp; omega) fun v' w' h1 h2 _ => h v' w' h1 (grownBy_alloc h2)
  have : (n + 1) * bytes ≤ (n + 1) * 1000 := Nat.mul_le_mul_left _ hby
  omega
/-! ### Regions that draw their order, whose operations read what was there and whose callees make memory: one walk, in the order of the text. -/
/-- A world that keeps all that W holds. -/
structure Ext (W : World) where
  w : World
  below : Below W.heap.size W w
instance (W : World) : Nonempty (Ext W) := ⟨⟨W, Below.refl _ _⟩⟩
theorem wp_region_ext {P : Program} {id : Nat} {Q : Exit → Act → World → Prop} {a : Act} {W : World} {l : List Oper} (hm : P.follows .mixedOrders = true) (hB : Region.lexB .any l.toArray = true)
    (h : wpQuiet P l.toArray (fun w' => ∃ x : Ext W, w' = x.w) (fun a' => ∀ w', (∃ x : Ext W, w' = x.w) → Q .normal a' w') l a) : (Code.region id l.toArray true).wp P Q a W :=
  wp_region_quiet (C := fun w' => ∃ x : Ext W, w' = x.w) hm hB ⟨⟨_, (Below.refl _ W).drew⟩, rfl⟩ (by simpa using h)
theorem Ext.call {P : Program} {f : FuncId} {args : Array Value} {W : World} {x : Ext W} {v : Value}
    (h : Calls P f args x.w fun e w' => e = .returned v ∧ Below x.w.heap.size x.w w') : Calls P f args x.w fun e w'' => e = .returned v ∧ ∃ y : Ext W, w'' = y.w :=
  h.mono fun _ w' ⟨he, hb⟩ => ⟨he, ⟨w', x.below.trans (hb.mono x.below.size)⟩, rfl⟩
theorem Ext.callq {P : Program} {f : FuncId} {args : Array Value} {W : World} {x : Ext W} {v : Value}
    (h : Calls P f args x.w fun e w' => e = .returned v ∧ x.w = w') : Calls P f args x.w fun e w'' => e = .returned v ∧ ∃ y : Ext W, w'' = y.w :=
  h.mono fun _ _ ⟨he, hb⟩ => ⟨he, x, hb.symm⟩
@[go_sem] theorem Ext.cell {W : World} (x : Ext W) (p : Addr) (h : p.block < W.heap.size) : x.w.cell? p = W.cell? p := x.below.cell h
@[go_sem] theorem Ext.frozen {W : World} (x : Ext W) (p : Addr) (h : p.block < W.heap.size) : x.w.frozen? p = W.frozen? p := x.below.frozen h
theorem Ext.env {W : World} (x : Ext W) (h : Env W) : Env x.w := h.here x.below
theorem Env.alloc {W : World} (h : Env W) (o : Obj) : Env (W.alloc o) := h.here ((Below.refl _ _).alloc (Nat.le_refl _) o)
theorem Bs.ext {W : World} {v : Value} {l : List UInt8} (h : Bs W v l) (x : Ext W) : Bs x.w v l := h.below x.below
theorem Ext.lift {w W : World} (y : Ext W) (h : Below w.heap.size w W) : Below w.heap.size w y.w := h.trans (y.below.mono h.size)
theorem bel_alloc {w W : World} (h : Below w.heap.size w W) (o : Obj) : Below w.heap.size w (W.alloc o) := h.alloc h.size o
theorem ext_of {P : Program} {f : FuncId} {args : Array Value} {W : World} {v : Value} (h : Calls P f args W fun e w' => e = .returned v ∧ Below W.heap.size W w') :
    Calls P f args W fun e w' => e = .returned v ∧ ∃ y : Ext W, w' = y.w := h.mono fun _ w' ⟨he, hb⟩ => ⟨he, ⟨w', hb⟩, rfl⟩
theorem own_below {w w' : World} {base : Nat} {e : TypeId} {size n : Nat} {v : Value} {xs : List Value} (h : w.ownsRow base e size v n xs) (hb : Below w.heap.size w w') : w'.ownsRow base e size v n xs :=
  h.kept (row := none) ⟨hb.os, hb.tape, hb.output, hb.size, fun i hi _ => hb.block i hi⟩ (by
    cases hv : v.ownBlock with
    | none => exact .inl rfl
    | some g => exact .inr (by simp))
theorem bel_set {w W : World} (h : Below w.heap.size w W) (k i : Nat) (u : Value) : Below w.heap.size w (W.setCell ⟨w.heap.size + k, i, none⟩ u) := h.setCell (Nat.le_add_right _ _) u
theorem bel_set0 {w W : World} (h : Below w.heap.size w W) (i : Nat) (u : Value) : Below w.heap.size w (W.setCell ⟨w.heap.size, i, none⟩ u) := h.setCell (Nat.le_refl _) u
theorem Bs.drew {w : World} {v : Value} {l : List UInt8} (h : Bs w v l) : Bs w.drew v l := h
theorem below_undrew {B : Nat} {w w' : World} (h : Below B w.drew w') : Below B w w' := ⟨h.os, h.tape, h.output, h.size, h.block⟩
/-- A list of bytes as a string. -/
def str (l : List UInt8) : ByteArray := ⟨l.toArray⟩
end Go.Proofs.YtfbangojgjcbcaaGreatDoor
namespace Go.Proofs.YtfbangojgjcbcaaGreatDoor
open Go.ChangeShapes Go.WideShapes Go.ChangeAt Go.RowKit
theorem own : ownKnob Tryz.prog.godebug = none := by kernel_rfl
theorem laidOut : laidOutB Tryz.prog = true := by kernel_rfl
theorem var?_lt {W : World} {n : String} {g : Nat} {cs : Array Value} (hg : Tryz.prog.globalNamed n = some g) (h : W.var? Tryz.prog n = some cs) : g < W.heap.size := by
  rcases Nat.lt_or_ge g W.heap.size with hlt | hge
  · exact hlt
  · exfalso
    simp only [World.var?, hg, Option.bind_some] at h
    rw [Array.getElem?_eq_none hge] at h
    cases h
theorem env_of {W : World} (hL : laidMetH Tryz.prog Rows.confParsesRow.laid W) (hsh : W.ShapedOpen Tryz.prog) : Env W := by
  have hM : laidMet Tryz.prog Rows.confParsesRow.laid W := hL
  have hsz : 8 ≤ W.heap.size := by
    obtain ⟨ps, hv, _⟩ := hM.filter (fun x => x.1 == "math/bits.deBruijn64tab")
    obtain ⟨g, t, cs, fuel, p, q, e1, e2, e3, e4, _, _⟩ := (show DataW.LaidVars Tryz.prog W [("math/bits.deBruijn64tab", Rows.laid_math_bits_deBruijn64tab)] ps from hv)
    have h1 := var?_lt e1 e3
    obtain rfl : 7 = g := Option.some.inj ((show Tryz.prog.globalNamed "math/bits.deBruijn64tab" = some 7 by kernel_rfl).symm.trans e1)
    omega
  refine ⟨hsz, Go.Proofs.cell_of_shapedOpen_int (zero := #[.int .i64 0]) (t := 3) hsh (of_decide_eq_true (by kernel_rfl)) (by kernel_rfl) rfl (by kernel_rfl) (by kernel_rfl) Tryz.underlying3, ?_, ?_, ?_⟩
  · have h := hM.filter (fun x => x.1 == "internal/strconv.uint64pow10")
    exact Lib.tabIs_of_head (rest := []) (g := 1) (t := 260) (e := 169) (n := 20) (by kernel_rfl) (by kernel_rfl) (by kernel_rfl) (by kernel_rfl) (by kernel_rfl) (by kernel_rfl) h
  · obtain ⟨ps, hv, _⟩ := hM.filter (fun x => x.1 == "strconv.ErrSyntax")
    obtain ⟨g, t, cs, fuel, p, q, e1, e2, e3, e4, _, _⟩ := (show DataW.LaidVars Tryz.prog W [("strconv.ErrSyntax", Rows.laid_strconv_ErrSyntax)] ps from hv)
    obtain rfl : 2 = g := Option.some.inj ((show Tryz.prog.globalNamed "strconv.ErrSyntax" = some 2 by kernel_rfl).symm.trans e1)
    obtain rfl : 116 = t := Option.some.inj ((show (Tryz.prog.globals[2]?).map (·.type) = some 116 by kernel_rfl).symm.trans e2)
    obtain ⟨_, u, x, hcs, _⟩ := iface_of_trod Tryz.underlying116 e4
    refine ⟨u, x, ?_⟩
    rw [World.var?_cell e1 e3 0, ← Array.getElem?_toList, hcs]; rfl
  · obtain ⟨ps, hv, _⟩ := hM.filter (fun x => x.1 == "strconv.ErrRange")
    obtain ⟨g, t, cs, fuel, p, q, e1, e2, e3, e4, _, _⟩ := (show DataW.LaidVars Tryz.prog W [("strconv.ErrRange", Rows.laid_strconv_ErrRange)] ps from hv)
    obtain rfl : 3 = g := Option.some.inj ((show Tryz.prog.globalNamed "strconv.ErrRange" = some 3 by kernel_rfl).symm.trans e1)
    obtain rfl : 116 = t := Option.some.inj ((show (Tryz.prog.globals[3]?).map (·.type) = some 116 by kernel_rfl).symm.trans e2)
    obtain ⟨_, u, x, hcs, _⟩ := iface_of_trod Tryz.underlying116 e4
    refine ⟨u, x, ?_⟩
    rw [World.var?_cell e1 e3 0, ← Array.getElem?_toList, hcs]; rfl
/-- A start: the settled world with two blocks more (the two errors' texts), the listed variables holding what their initialisers lay. -/
noncomputable def laidWorld (os : Os) : World :=
  let N := (World.settled Tryz.prog os).heap.size
  let w0 := World.holding Tryz.prog os ⟨#[.cells #[.string ⟨#[118, 97, 108, 117, 101, 32, 111, 117, 116, 32, 111, 102, 32, 114, 97, 110, 103, 101]⟩] 275, .cells #[.string ⟨#[105, 110, 118, 97, 108, 105, 100, 32, 115, 121, 110, 116, 97, 120]⟩] 275], #[], []⟩
  let put (h : Array Obj) (g : Nat) (cs : Array Value) : Array Obj := h.modify g fun
    | .cells _ t frozen => .cells cs t frozen
    | o => o
  let h0 := put w0.heap 3 #[.iface 273 (.pointer (some ⟨N, 0, none⟩))]
  let h1 := put h0 2 #[.iface 273 (.pointer (some ⟨N + 1, 0, none⟩))]
  let h2 := put h1 1 #[.int .u64 1, .int .u64 10, .int .u64 100, .int .u64 1000, .int .u64 10000, .int .u64 100000, .int .u64 1000000, .int .u64 10000000, .int .u64 100000000, .int .u64 1000000000, .int .u64 10000000000, .int .u64 100000000000, .int .u64 1000000000000, .int .u64 10000000000000, .int .u64 100000000000000, .int .u64 1000000000000000, .int .u64 10000000000000000, .int .u64 100000000000000000, .int .u64 1000000000000000000, .int .u64 10000000000000000000]
  let h3 := put h2 4 (Lib.firstTab.map fun z => Value.int .u8 z).toArray
  let h4 := put h3 5 #[.int .u8 128, .int .u8 191, .int .u8 160, .int .u8 191, .int .u8 128, .int .u8 159, .int .u8 144, .int .u8 191, .int .u8 128, .int .u8 143, .int .u8 0, .int .u8 0, .int .u8 0, .int .u8 0, .int .u8 0, .int .u8 0, .int .u8 0, .int .u8 0, .int .u8 0, .int .u8 0, .int .u8 0, .int .u8 0, .int .u8 0, .int .u8 0, .int .u8 0, .int .u8 0, .int .u8 0, .int .u8 0, .int .u8 0, .int .u8 0, .int .u8 0, .int .u8 0]
  let h5 := put h4 6 #[.int .u8 0, .int .u8 1, .int .u8 28, .int .u8 2, .int .u8 29, .int .u8 14, .int .u8 24, .int .u8 3, .int .u8 30, .int .u8 22, .int .u8 20, .int .u8 15, .int .u8 25, .int .u8 17, .int .u8 4, .int .u8 8, .int .u8 31, .int .u8 27, .int .u8 13, .int .u8 23, .int .u8 21, .int .u8 19, .int .u8 16, .int .u8 7, .int .u8 26, .int .u8 12, .int .u8 18, .int .u8 6, .int .u8 11, .int .u8 5, .int .u8 10, .int .u8 9]
  let h6 := put h5 7 #[.int .u8 0, .int .u8 1, .int .u8 56, .int .u8 2, .int .u8 57, .int .u8 49, .int .u8 28, .int .u8 3, .int .u8 61, .int .u8 58, .int .u8 42, .int .u8 50, .int .u8 38, .int .u8 29, .int .u8 17, .int .u8 4, .int .u8 62, .int .u8 47, .int .u8 59, .int .u8 36, .int .u8 45, .int .u8 43, .int .u8 51, .int .u8 22, .int .u8 53, .int .u8 39, .int .u8 33, .int .u8 30, .int .u8 24, .int .u8 18, .int .u8 12, .int .u8 5, .int .u8 63, .int .u8 55, .int .u8 48, .int .u8 27, .int .u8 60, .int .u8 41, .int .u8 37, .int .u8 16, .int .u8 46, .int .u8 35, .int .u8 44, .int .u8 21, .int .u8 52, .int .u8 32, .int .u8 23, .int .u8 11, .int .u8 54, .int .u8 26, .int .u8 40, .int .u8 15, .int .u8 34, .int .u8 20, .int .u8 31, .int .u8 10, .int .u8 25, .int .u8 14, .int .u8 19, .int .u8 9, .int .u8 13, .int .u8 8, .int .u8 7, .int .u8 6]
  { w0 with heap := h6 }
set_option maxRecDepth 1000000 in
theorem laid_met (os : Os) (args : Array Value) : laidMet Tryz.prog Rows.confParsesRow.laid ((laidWorld os).forCall (fun _ _ => 0) ⟨#[], args, []⟩).memory :=
  laidMet_of_run' 8 (by kernel_rfl) (by kernel_rfl)
end Go.Proofs.YtfbangojgjcbcaaGreatDoor
namespace Go.Proofs.YtfbangojgjcbcaaGreatDoor.Pl
/-- Has a number room? -/
def fits (n k : Nat) : Bool := decide (n / 2 ^ (8 * k) = 0)
theorem or_low (a b : Nat) (hb : b < 256) : a * 256 ||| b = a * 256 + b := by
  have := Nat.two_pow_add_eq_or_of_lt (i := 8) (b := b) (by simpa using hb) a
  rw [Nat.mul_comm a 256]
  exact this.symm
end Go.Proofs.YtfbangojgjcbcaaGreatDoor.Pl
namespace Go.Proofs.YtfbangojgjcbcaaGreatDoor.Pl
open Go.Lib (decDigits itoa join)
/-- An address's bytes. -/
def oct (a i : Nat) : Nat := a / 2 ^ (8 * (3 - i)) % 256
def octs (a : Nat) : List (List UInt8) := (List.range 4).map fun i => decDigits (oct a i)
def addrText (a : Nat) : List UInt8 := join (octs a) [46]
def prefixText (a n : Nat) : List UInt8 := addrText a ++ 47 :: decDigits n
theorem itoa_nat (n : Nat) : itoa (n : Int) = decDigits n := by simp [itoa]
theorem oct_lt (a i : Nat) : oct a i < 256 := Nat.mod_lt _ (by decide)
theorem octs_length (a : Nat) : (octs a).length = 4 := by simp [octs]
theorem octs_take (a j : Nat) (h : j < 4) : (octs a).take (j + 1) = (octs a).take j ++ [decDigits (oct a j)] := by
  rw [List.take_add_one]; simp [octs, h]
theorem dec_len (n : Nat) (h : n < 1000) : (decDigits n).length ≤ 3 := by
  rw [Lib.decDigits_length]
  by_cases h1 : n < 10
  · rw [Lib.nDigits_small h1]; omega
  · rw [Lib.nDigits_big h1]
    by_cases h2 : n / 10 < 10
    · rw [Lib.nDigits_small h2]; omega
    · rw [Lib.nDigits_big h2, Lib.nDigits_small (by omega)]; omega
theorem octs_eq (a : Nat) : octs a = [decDigits (oct a 0), decDigits (oct a 1), decDigits (oct a 2), decDigits (oct a 3)] := by
  simp [octs, List.range_succ]
theorem addrText_eq (a : Nat) : addrText a = decDigits (oct a 0) ++ (46 :: (decDigits (oct a 1) ++ (46 :: (decDigits (oct a 2) ++ (46 :: decDigits (oct a 3)))))) := by
  rw [addrText, octs_eq]; simp [join, List.intercalate]
theorem addrText_len (a : Nat) : (addrText a).length ≤ 15 := by
  have h0 := dec_len _ (Nat.lt_trans (oct_lt a 0) (by decide))
  have h1 := dec_len _ (Nat.lt_trans (oct_lt a 1) (by decide))
  have h2 := dec_len _ (Nat.lt_trans (oct_lt a 2) (by decide))
  have h3 := dec_len _ (Nat.lt_trans (oct_lt a 3) (by decide))
  rw [addrText_eq]; simp; omega
end Go.Proofs.YtfbangojgjcbcaaGreatDoor.Pl
namespace Go.Proofs.YtfbangojgjcbcaaGreatDoor.Pl
open Go.Lib (decDigits itoa join)
def consHd (x : UInt8) : List (List UInt8) → List (List UInt8)
  | [] => [[x]]
  | h :: t => (x :: h) :: t
/-- A text's parts, between bytes. -/
def splitOn (c : UInt8) : List UInt8 → List (List UInt8)
  | [] => [[]]
  | x :: r => if x = c then [] :: splitOn c r else consHd x (splitOn c r)
theorem splitOn_ne (c : UInt8) (l : List UInt8) : splitOn c l ≠ [] := by
  cases l with
  | nil => simp [splitOn]
  | cons x r =>
    simp only [splitOn]
    split
    · simp
    · cases splitOn c r <;> simp [consHd]
theorem index_cons (c x : UInt8) (r : List UInt8) : Lib.index (x :: r) [c] = if x = c then 0 else if Lib.index r [c] == -1 then -1 else Lib.index r [c] + 1 := by
  rw [Lib.index]
  by_cases h : x = c
  · simp [h]
  · have : ¬ c = x := fun e => h e.symm
    simp [h, this]
theorem split_eq (c : UInt8) : ∀ s : List UInt8, Lib.splitK [c] 0 (Lib.count s [c]) s = splitOn c s := by
  intro s
  induction s with
  | nil => rw [Lib.count_one]; rfl
  | cons x r ih =>
    by_cases h : x = c
    · subst h
      rw [Lib.count_cons_eq, Nat.add_comm, Lib.splitK, index_cons]
      simp [splitOn, ih]
    · rw [Lib.count_cons_ne x c r h]
      simp only [splitOn, if_neg h]
      rw [← ih]
      cases hk : Lib.count r [c] with
      | zero => rfl
      | succ k =>
        have hge := Lib.index_ge r [c]
        rw [Lib.splitK, Lib.splitK, index_cons, if_neg h]
        by_cases hi : Lib.index r [c] = -1
        · simp [hi, consHd]
        · have hi' : (Lib.index r [c] == -1) = false := by simpa using hi
          have hn : (Lib.index r [c] + 1 == -1) = false := by simp; omega
          rw [hi']
          simp only [Bool.false_eq_true, if_false, hn, consHd, Nat.add_zero, List.length_singleton]
          have e1 : (Lib.index r [c] + 1).toNat = (Lib.index r [c]).toNat + 1 := by omega
          rw [e1, List.take_succ_cons]
          simp [Nat.add_assoc]
/-- What a byte list is without the byte. -/
theorem splitOn_none (c : UInt8) (l : List UInt8) (h : c ∉ l) : splitOn c l = [l] := by
  induction l with
  | nil => rfl
  | cons x r ih =>
    have hx : ¬ x = c := fun e => h (by simp [e])
    rw [splitOn, if_neg hx, ih (fun hm => h (by simp [hm]))]; rfl
theorem splitOn_app (c : UInt8) (l m : List UInt8) (h : c ∉ l) : splitOn c (l ++ c :: m) = l :: splitOn c m := by
  induction l with
  | nil => simp [splitOn]
  | cons x r ih =>
    have hx : ¬ x = c := fun e => h (by simp [e])
    rw [List.cons_append, splitOn, if_neg hx, ih (fun hm => h (by simp [hm]))]; rfl
/-- The parts joined again. -/
theorem splitOn_join (c : UInt8) (l : List UInt8) : join (splitOn c l) [c] = l := by
  induction l with
  | nil => rfl
  | cons x r ih =>
    by_cases h : x = c
    · subst h
      rw [splitOn, if_pos rfl]
      cases hs : splitOn x r with
      | nil => exact absurd hs (splitOn_ne _ _)
      | cons a t => rw [hs] at ih; rw [← ih]; simp [join, List.intercalate, List.intersperse]
    · rw [splitOn, if_neg h]
      cases hs : splitOn c r with
      | nil => exact absurd hs (splitOn_ne _ _)
      | cons a t => rw [hs] at ih; rw [← ih]; cases t <;> simp [join, List.intercalate, consHd]
def isDig (c : UInt8) : Bool := decide (48 ≤ c.toNat) && decide (c.toNat ≤ 57)
def numVal (l : List UInt8) : Nat := l.foldl (fun a c => a * 10 + (c.toNat - 48)) 0
/-- Digits, without noughts ahead, at most nine. -/
def isNum (l : List UInt8) : Bool := decide (1 ≤ l.length) && decide (l.length ≤ 9) && !(decide (1 < l.length) && decide (l.head? = some 48)) && l.all isDig
theorem numVal_snoc (l : List UInt8) (c : UInt8) : numVal (l ++ [c]) = numVal l * 10 + (c.toNat - 48) := by simp [numVal, List.foldl_append]
theorem dec_big (n : Nat) (h : 10 ≤ n) : decDigits n = decDigits (n / 10) ++ [UInt8.ofNat (48 + n % 10)] := by rw [decDigits, dif_neg (by omega)]
theorem dec_dig (n : Nat) : (decDigits n).all isDig = true ∧ numVal (decDigits n) = n ∧ 1 ≤ (decDigits n).length ∧ (1 ≤ n → (decDigits n).head? ≠ some 48) ∧ (n = 0 → decDigits n = [48]) := by
  induction n using Nat.strongRecOn with
  | _ n ih =>
    by_cases h : n < 10
    · rw [Lib.decDigits_one h]
      have e : (UInt8.ofNat (48 + n)).toNat = 48 + n := by rw [UInt8.toNat_ofNat']; omega
      refine ⟨by simp [isDig]; omega, by simp [numVal]; omega, by simp, ?_, ?_⟩
      · intro h1 h2
        have h3 : UInt8.ofNat (48 + n) = 48 := by simpa using h2
        have : (UInt8.ofNat (48 + n)).toNat = 48 := by rw [h3]; rfl
        omega
      · intro h0; subst h0; rfl
    · obtain ⟨a, b, c, d, _⟩ := ih (n / 10) (by omega)
      rw [dec_big n (by omega)]
      have e : (UInt8.ofNat (48 + n % 10)).toNat = 48 + n % 10 := by rw [UInt8.toNat_ofNat']; omega
      refine ⟨?_, ?_, by simp, ?_, by omega⟩
      · rw [List.all_append, a]; simp [isDig]; omega
      · rw [numVal_snoc, b, e]; omega
      · intro _
        rw [List.head?_append]
        cases hd : (decDigits (n / 10)).head? with
        | none => rw [List.head?_eq_none_iff] at hd; rw [hd] at c; simp at c
        | some x => rw [← hd]; simpa [hd] using d (by omega)
theorem numVal_pos (l : List UInt8) (hd : l.all isDig = true) (hn : 1 ≤ l.length) (h0 : l.head? ≠ some 48) : 1 ≤ numVal l := by
  have mono : ∀ (l : List UInt8) (a : Nat), a ≤ l.foldl (fun a c => a * 10 + (c.toNat - 48)) a := by
    intro l
    induction l with
    | nil => intro a; exact Nat.le_refl _
    | cons c l ih => intro a; rw [List.foldl_cons]; exact Nat.le_trans (by omega) (ih (a * 10 + (c.toNat - 48)))
  cases l with
  | nil => simp at hn
  | cons c l =>
    simp only [List.all_cons, isDig, Bool.and_eq_true, decide_eq_true_eq] at hd
    have hc : c.toNat ≠ 48 := fun e => h0 (by have : c = 48 := UInt8.toNat_inj.1 (by simpa using e); simp [this])
    have := mono l (0 * 10 + (c.toNat - 48))
    unfold numVal
    rw [List.foldl_cons]
    omega
/-- Digits without noughts ahead are the text of their number. -/
theorem dec_of (l : List UInt8) : l.all isDig = true → 1 ≤ l.length → (1 < l.length → l.head? ≠ some 48) → decDigits (numVal l) = l := by
  induction hk : l.length generalizing l with
  | zero => intro _ h; omega
  | succ k ih =>
    intro hd _ h0
    rcases List.eq_nil_or_concat l with rfl | ⟨m, c, rfl⟩
    · simp at hk
    rw [List.concat_eq_append] at *
    have hm : m.length = k := by simpa using hk
    rw [List.all_append] at hd
    simp only [List.all_cons, List.all_nil, Bool.and_true, Bool.and_eq_true, isDig, decide_eq_true_eq] at hd
    obtain ⟨hd1, hc1, hc2⟩ := hd
    rw [numVal_snoc]
    have e : UInt8.ofNat (48 + (c.toNat - 48)) = c := by
      apply UInt8.toNat_inj.1; rw [UInt8.toNat_ofNat']; omega
    cases m with
    | nil => simp only [numVal, List.foldl_nil, Nat.zero_mul, Nat.zero_add, List.nil_append]; rw [Lib.decDigits_one (by omega), e]
    | cons x m =>
      have h0' : (x :: m).head? ≠ some 48 := by simpa using h0 (by simp at hm; omega)
      have hp := numVal_pos (x :: m) hd1 (by simp) h0'
      have hi := ih (x :: m) hm hd1 (by simp at hm; omega) (fun _ => h0')
      rw [dec_big _ (by omega)]
      have e2 : (numVal (x :: m) * 10 + (c.toNat - 48)) / 10 = numVal (x :: m) := by omega
      have e3 : (numVal (x :: m) * 10 + (c.toNat - 48)) % 10 = c.toNat - 48 := by omega
      rw [e2, e3, hi, e]
theorem isNum_dec (l : List UInt8) (h : isNum l = true) : decDigits (numVal l) = l := by
  simp only [isNum, Bool.and_eq_true, Bool.not_eq_true', decide_eq_true_eq, Bool.and_eq_false_iff, decide_eq_false_iff_not] at h
  obtain ⟨⟨⟨h1, h2⟩, h3⟩, h4⟩ := h
  exact dec_of l h4 h1 (fun hl he => by rcases h3 with h | h <;> contradiction)
theorem dec_isNum (n : Nat) (h : n < 1000000000) : isNum (decDigits n) = true ∧ numVal (decDigits n) = n := by
  obtain ⟨a, b, c, d, e⟩ := dec_dig n
  refine ⟨?_, b⟩
  have hl : (decDigits n).length ≤ 9 := by
    rw [Lib.decDigits_length]
    rcases Nat.lt_or_ge (Lib.nDigits n) 10 with h9 | h9
    · omega
    · exfalso
      have key : ∀ k n, k + 1 ≤ Lib.nDigits n → 10 ^ k ≤ n ∨ k = 0 := by
        intro k
        induction k with
        | zero => intro n _; exact .inr rfl
        | succ k ih =>
          intro n hn
          left
          by_cases hs : n < 10
          · rw [Lib.nDigits_small hs] at hn; omega
          · rw [Lib.nDigits_big hs] at hn
            rcases ih (n / 10) (by omega) with h | h
            · rw [Nat.pow_succ]; omega
            · subst h; simp; omega
      rcases key 9 n h9 with h' | h'
      · have : (10 : Nat) ^ 9 = 1000000000 := by decide
        omega
      · omega
  unfold isNum
  simp only [a, Bool.and_true, Bool.and_eq_true, decide_eq_true_eq, Bool.not_eq_true', Bool.and_eq_false_iff, decide_eq_false_iff_not]
  refine ⟨⟨c, hl⟩, ?_⟩
  by_cases h0 : n = 0
  · left; rw [e h0]; simp
  · right; exact d (by omega)
theorem parse_le (M : Nat) : ∀ (l : List UInt8) (acc u : Nat), acc ≤ M → Lib.parseUintM M acc l = .ok u → u ≤ M := by
  intro l
  induction l with
  | nil => intro acc u ha h; simp only [Lib.parseUintM] at h; injection h with h; omega
  | cons c l ih =>
    intro acc u ha h
    rw [Lib.parseUintM] at h
    split at h
    · split at h
      · cases h
      · split at h
        · cases h
        · exact ih _ u (by omega) h
    · cases h
theorem parse8_le (l : List UInt8) (u : Nat) (h : Lib.parseUintB 8 l = .ok u) : u ≤ 255 := by
  unfold Lib.parseUintB at h
  split at h
  · cases h
  · exact parse_le 255 l 0 u (by decide) h
/-- The program's walk over the words. -/
def addrLoop : List (List UInt8) → Nat → Option Nat
  | [], a => some a
  | x :: r, a => match Lib.parseUintB 8 x with
    | .ok u => addrLoop r ((a * 256 + u) % 4294967296)
    | _ => none
/-- The address of a text. -/
def addrOf (s : List UInt8) : Option Nat := match addrLoop (splitOn 46 s) 0 with
  | some a => if addrText a = s then some a else none
  | none => none
theorem addrLoop_lt : ∀ (l : List (List UInt8)) (a b : Nat), a < 4294967296 → addrLoop l a = some b → b < 4294967296 := by
  intro l
  induction l with
  | nil => intro a b ha h; simp only [addrLoop] at h; injection h with h; omega
  | cons x r ih =>
    intro a b ha h
    rw [addrLoop] at h
    split at h
    · exact ih _ b (Nat.mod_lt _ (by decide)) h
    · cases h
theorem dig_nodot (c : UInt8) (hc : isDig c = false) (l : List UInt8) (h : l.all isDig = true) : c ∉ l := by
  intro hm
  have := List.all_eq_true.1 h c hm
  rw [hc] at this; cases this
theorem dec_no (c : UInt8) (hc : isDig c = false) (n : Nat) : c ∉ decDigits n := dig_nodot c hc _ (dec_dig n).1
theorem addrOf_some (s : List UInt8) (a : Nat) (h : addrOf s = some a) : addrText a = s ∧ a < 4294967296 := by
  unfold addrOf at h
  cases hl : addrLoop (splitOn 46 s) 0 with
  | none => rw [hl] at h; cases h
  | some b =>
    rw [hl] at h
    simp only at h
    split at h
    · injection h with h; subst h; exact ⟨by assumption, addrLoop_lt _ 0 b (by decide) hl⟩
    · cases h
theorem splitOn_len (c : UInt8) (l : List UInt8) : (splitOn c l).length ≤ l.length + 1 ∧ ∀ x ∈ splitOn c l, x.length ≤ l.length := by
  induction l with
  | nil => simp [splitOn]
  | cons y r ih =>
    obtain ⟨h1, h2⟩ := ih
    by_cases h : y = c
    · rw [splitOn, if_pos h]
      refine ⟨by simp; omega, fun x hx => ?_⟩
      rcases List.mem_cons.1 hx with rfl | hx
      · simp
      · have := h2 x hx; simp; omega
    · rw [splitOn, if_neg h]
      cases hs : splitOn c r with
      | nil => exact absurd hs (splitOn_ne _ _)
      | cons a t =>
        rw [hs] at h1 h2
        refine ⟨by simp only [consHd, List.length_cons] at h1 ⊢; omega, fun x hx => ?_⟩
        rcases List.mem_cons.1 hx with rfl | hx
        · have := h2 a (by simp); simp; omega
        · have := h2 x (by simp [hx]); simp; omega
theorem addrLoop_at (ws : List (List UInt8)) (j a : Nat) (x : List UInt8) (hx : ws[j]? = some x) : addrLoop (ws.drop j) a = match Lib.parseUintB 8 x with
    | .ok u => addrLoop (ws.drop (j + 1)) ((a * 256 + u) % 4294967296)
    | _ => none := by
  have hj : j < ws.length := (List.getElem?_eq_some_iff.1 hx).1
  rw [List.drop_eq_getElem_cons hj, addrLoop]
  have : ws[j] = x := (List.getElem?_eq_some_iff.1 hx).2
  rw [this]
/-- The part ahead of the first such byte, and the part behind it. -/
def cutA (c : UInt8) (l : List UInt8) : List UInt8 := (Lib.cut l [c]).1
def cutB (c : UInt8) (l : List UInt8) : List UInt8 := (Lib.cut l [c]).2.1
theorem cut_len (c : UInt8) (l : List UInt8) : (cutA c l).length ≤ l.length ∧ (cutB c l).length ≤ l.length := by
  unfold cutA cutB Lib.cut
  split <;> simp <;> omega
theorem cut_app (c : UInt8) (l m : List UInt8) (h : c ∉ l) : cutA c (l ++ c :: m) = l ∧ cutB c (l ++ c :: m) = m := by
  have hi : Lib.index (l ++ c :: m) [c] = l.length := by
    induction l with
    | nil => rw [List.nil_append, index_cons, if_pos rfl]; rfl
    | cons x r ih =>
      have hx : ¬ x = c := fun e => h (by simp [e])
      rw [List.cons_append, index_cons, if_neg hx, ih (fun hm => h (by simp [hm]))]
      have : ((r.length : Int) == -1) = false := by simp
      rw [this]; simp
  unfold cutA cutB Lib.cut
  rw [hi]
  simp
/-- The prefix of a text. -/
def prefixOf (l : List UInt8) : Option (Nat × Nat) := match addrOf (cutA 47 l), Lib.parseUintB 8 (cutB 47 l) with
  | some a, .ok n => if mayP a n = true ∧ prefixText a n = l then some (a, n) else none
  | _, _ => none
theorem prefixOf_some (l : List UInt8) (a n : Nat) (h : prefixOf l = some (a, n)) : prefixText a n = l ∧ a < 4294967296 ∧ mayP a n = true := by
  unfold prefixOf at h
  split at h
  · split at h
    · rename_i a' n' h1 h2 hc
      injection h with h; injection h with h3 h4; subst h3; subst h4
      exact ⟨hc.2, (addrOf_some _ _ h1).2, hc.1⟩
    · cases h
  · cases h
theorem addr_stop (x : List UInt8) (k : Nat → Option Nat) (h : ∀ u, Lib.parseUintB 8 x ≠ .ok u) : (match Lib.parseUintB 8 x with
    | .ok u => k u
    | _ => none) = none := by
  cases hp : Lib.parseUintB 8 x
  · exact absurd hp (h _)
  · rfl
  · rfl
theorem prefix_stop (o : Option Nat) (x : List UInt8) (k : Nat → Nat → Option (Nat × Nat)) (h : ∀ u, Lib.parseUintB 8 x ≠ .ok u) : (match o, Lib.parseUintB 8 x with
    | some a, .ok n => k a n
    | _, _ => none) = none := by
  cases hp : Lib.parseUintB 8 x
  · exact absurd hp (h _)
  · cases o <;> rfl
  · cases o <;> rfl
end Go.Proofs.YtfbangojgjcbcaaGreatDoor.Pl
namespace Go.Proofs.YtfbangojgjcbcaaGreatDoor.Pl
/-- What holds of the reference's loop over a text: 'done' parts, the next begins at f, no such byte from f to i. -/
def SpInv (c : UInt8) (l : List UInt8) (i f : Nat) (done : List (List UInt8)) : Prop :=
  (i ≤ l.length ∧ f ≤ i ∧ splitOn c l = done ++ splitOn c (l.drop f) ∧ c ∉ (l.drop f).take (i - f)) ∨ (i = l.length + 1 ∧ splitOn c l = done)
theorem SpInv.start (c : UInt8) (l : List UInt8) : SpInv c l 0 0 [] := .inl ⟨Nat.zero_le _, Nat.le_refl _, by simp, by simp⟩
theorem SpInv.last {c : UInt8} {l : List UInt8} {f : Nat} {done : List (List UInt8)} (h : SpInv c l l.length f done) : SpInv c l (l.length + 1) (l.length + 1) (done ++ [(l.drop f).take (l.length - f)]) := by
  rcases h with ⟨_, hf, he, hn⟩ | ⟨h, _⟩
  · refine .inr ⟨rfl, ?_⟩
    have e : (l.drop f).take (l.length - f) = l.drop f := List.take_of_length_le (by simp)
    rw [e] at hn ⊢
    rw [he, splitOn_none _ _ hn]
  · omega
theorem SpInv.out {c : UInt8} {l : List UInt8} {f : Nat} {done : List (List UInt8)} (h : SpInv c l (l.length + 1) f done) : splitOn c l = done := by
  rcases h with ⟨h, _⟩ | ⟨_, h⟩
  · omega
  · exact h
theorem SpInv.len {c : UInt8} {l : List UInt8} {i f : Nat} {done : List (List UInt8)} (h : SpInv c l i f done) : done.length ≤ l.length + 1 := by
  have h1 := (splitOn_len c l).1
  rcases h with ⟨_, _, he, _⟩ | ⟨_, he⟩
  · rw [he, List.length_append] at h1; omega
  · rw [he] at h1; exact h1
open Go.Lib (decDigits itoa join)
def numOk (l : List UInt8) (most : Nat) : Bool := isNum l && decide (numVal l ≤ most)
theorem numOk_dec (l : List UInt8) (most : Nat) (h : numOk l most = true) : decDigits (numVal l) = l ∧ numVal l ≤ most ∧ isNum l = true := by
  simp only [numOk, Bool.and_eq_true, decide_eq_true_eq] at h
  exact ⟨isNum_dec l h.1, h.2, h.1⟩
theorem numOk_of (n most : Nat) (h : n ≤ most) (hn : n < 1000000000) : numOk (decDigits n) most = true ∧ numVal (decDigits n) = n := by
  obtain ⟨a, b⟩ := dec_isNum n hn
  exact ⟨by unfold numOk; rw [a, b]; simpa using h, b⟩
end Go.Proofs.YtfbangojgjcbcaaGreatDoor.Pl
namespace Go.Proofs.YtfbangojgjcbcaaGreatDoor.Pl
theorem cmpP_lt (a n b m : Int) : cmpP a n b m < 0 ↔ a < b ∨ (a = b ∧ n < m) := by
  unfold cmpP cmpI
  by_cases h1 : a < b
  · simp [h1]
  · by_cases h2 : b < a
    · simp [h1, h2]; omega
    · have : a = b := by omega
      subst this
      by_cases h3 : n < m
      · simp [h3]
      · by_cases h4 : m < n <;> simp [h3, h4]
theorem cmpP_zero (a n b m : Int) : cmpP a n b m = 0 ↔ a = b ∧ n = m := by
  unfold cmpP cmpI
  by_cases h1 : a < b
  · simp [h1]; omega
  · by_cases h2 : b < a
    · simp [h1, h2]; omega
    · have : a = b := by omega
      subst this
      by_cases h3 : n < m
      · simp [h3]; omega
      · by_cases h4 : m < n
        · simp [h3, h4]; omega
        · simp [h3, h4]; omega
theorem cmpP_trans (a n b m c k : Int) (h1 : cmpP a n b m < 0) (h2 : cmpP b m c k < 0) : cmpP a n c k < 0 := by
  rw [cmpP_lt] at *; omega
theorem mayP_iff (a n : Int) : mayP a n = true ↔ 0 ≤ n ∧ n ≤ 32 ∧ a % blk n = 0 := by unfold mayP; simp
theorem hasP_iff (a n x : Int) : hasP a n x = true ↔ mayP a n = true ∧ firstP x n = a := by unfold hasP; simp
end Go.Proofs.YtfbangojgjcbcaaGreatDoor.Pl
namespace Go.Proofs.YtfbangojgjcbcaaGreatDoor.Pl
open Go.Lib (decDigits)
structure Cfg where
  node : Int := 0
  addr : Int := 0
  own : List (Int × Int) := []
  ports : List (Int × Int) := []
  hello : Int := 0
  dead : Int := 0
  again : Int := 0
  room : Int := 0
  queue : Int := 0
  tokens : Int := 0
  refill : Int := 0
/-- Do prefixes rise? -/
def rising : List (Int × Int) → Bool
  | p :: q :: l => decide (cmpP p.1 p.2 q.1 q.2 < 0) && rising (q :: l)
  | _ => true
def ownOk (l : List (Int × Int)) : Bool := decide (1 ≤ l.length) && decide (l.length ≤ 8) && l.all (fun p => mayP p.1 p.2) && rising l
def hasAny (l : List (Int × Int)) (a : Int) : Bool := l.any fun p => hasP p.1 p.2 a
/-- A number of a line, between two others. -/
def numIn (s : List UInt8) (lo hi : Nat) : Option Int := if numOk s hi = true ∧ lo ≤ numVal s then some (numVal s : Int) else none
/-- A port's two numbers. -/
def portIn (s : List UInt8) : Option (Int × Int) := match splitOn 32 s with
  | [x, y] => match numIn x 1 50, numIn y 68 1500 with
    | some c, some m => some (c, m)
    | _, _ => none
  | _ => none
def wNode : List UInt8 := [110, 111, 100, 101]
def wAddress : List UInt8 := [97, 100, 100, 114, 101, 115, 115]
def wOwn : List UInt8 := [111, 119, 110]
def wPort : List UInt8 := [112, 111, 114, 116]
def wHello : List UInt8 := [104, 101, 108, 108, 111]
def wDead : List UInt8 := [100, 101, 97, 100]
def wAgain : List UInt8 := [97, 103, 97, 105, 110]
def wRoom : List UInt8 := [114, 111, 111, 109]
def wQueue : List UInt8 := [113, 117, 101, 117, 101]
def wTokens : List UInt8 := [116, 111, 107, 101, 110, 115]
def wRefill : List UInt8 := [114, 101, 102, 105, 108, 108]
/-- A line, by the code's stages. -/
def stepC (c : Cfg) (st : Nat) (w s : List UInt8) : Option (Cfg × Nat) :=
  if w = wNode then (if st = 0 then (numIn s 1 16).map fun n => ({ c with node := n }, 1) else none)
  else if w = wAddress then (if st = 1 then (addrOf s).map fun (a : Nat) => ({ c with addr := (a : Int) }, 2) else none)
  else if w = wOwn then (if st = 2 ∨ (st = 3 ∧ c.ports = []) then (match prefixOf s with
    | some (a, n) => if ownOk (c.own ++ [((a : Int), (n : Int))]) = true then some ({ c with own := c.own ++ [((a : Int), (n : Int))] }, 3) else none
    | none => none) else none)
  else if w = wPort then (if st = 3 ∧ hasAny c.own c.addr = true ∧ c.ports.length + 1 ≤ 8 then (portIn s).map fun p => ({ c with ports := c.ports ++ [p] }, 3) else none)
  else if w = wHello then (if st = 3 ∧ hasAny c.own c.addr = true then (numIn s 1 100).map fun n => ({ c with hello := n }, 4) else none)
  else if w = wDead then (if st = 4 then (numIn s (c.hello + 1).toNat 100).map fun n => ({ c with dead := n }, 5) else none)
  else if w = wAgain then (if st = 5 then (numIn s 1 100).map fun n => ({ c with again := n }, 6) else none)
  else if w = wRoom then (if st = 6 then (numIn s 0 64).map fun n => ({ c with room := n }, 7) else none)
  else if w = wQueue then (if st = 7 then (numIn s 1 64).map fun n => ({ c with queue := n }, 8) else none)
  else if w = wTokens then (if st = 8 then (numIn s 0 64).map fun n => ({ c with tokens := n }, 9) else none)
  else if w = wRefill then (if st = 9 then (numIn s 1 100).map fun n => ({ c with refill := n }, 10) else none)
  else none
/-- How the two stand to each other. -/
def Goes (c : Cfg) (st at' t : Nat) : Prop :=
  (t = 0 ∧ at' < 3 ∧ st = at' ∧ c.own = [] ∧ c.ports = []) ∨ (3 ≤ at' ∧ c.own ≠ [] ∧ st = 3 + t ∧ t ≤ 7 ∧ (1 ≤ t → hasAny c.own c.addr = true))
theorem Goes.start : Goes {} 0 0 0 := .inl ⟨rfl, by omega, rfl, rfl, rfl⟩
theorem Goes.done {c : Cfg} {st at' t : Nat} (h : Goes c st at' t) : st = 10 ↔ t = 7 := by
  rcases h with ⟨rfl, h1, rfl, _⟩ | ⟨_, _, rfl, _⟩ <;> omega
theorem stepC_none {c : Cfg} {st : Nat} {w s : List UInt8} (h0 : w = wNode → ¬ st = 0) (h1 : w = wAddress → ¬ st = 1) (h2 : w = wOwn → ¬ (st = 2 ∨ (st = 3 ∧ c.ports = []))) (h3 : w = wPort → ¬ (st = 3 ∧ hasAny c.own c.addr = true ∧ c.ports.length + 1 ≤ 8)) (h4 : w = wHello → ¬ (st = 3 ∧ hasAny c.own c.addr = true)) (h5 : w = wDead → ¬ st = 4) (h6 : w = wAgain → ¬ st = 5) (h7 : w = wRoom → ¬ st = 6) (h8 : w = wQueue → ¬ st = 7) (h9 : w = wTokens → ¬ st = 8) (h10 : w = wRefill → ¬ st = 9) : stepC c st w s = none := by
  unfold stepC
  by_cases e0 : w = wNode
  · rw [if_pos e0, if_neg (h0 e0)]
  rw [if_neg e0]
  by_cases e1 : w = wAddress
  · rw [if_pos e1, if_neg (h1 e1)]
  rw [if_neg e1]
  by_cases e2 : w = wOwn
  · rw [if_pos e2, if_neg (h2 e2)]
  rw [if_neg e2]
  by_cases e3 : w = wPort
  · rw [if_pos e3, if_neg (h3 e3)]
  rw [if_neg e3]
  by_cases e4 : w = wHello
  · rw [if_pos e4, if_neg (h4 e4)]
  rw [if_neg e4]
  by_cases e5 : w = wDead
  · rw [if_pos e5, if_neg (h5 e5)]
  rw [if_neg e5]
  by_cases e6 : w = wAgain
  · rw [if_pos e6, if_neg (h6 e6)]
  rw [if_neg e6]
  by_cases e7 : w = wRoom
  · rw [if_pos e7, if_neg (h7 e7)]
  rw [if_neg e7]
  by_cases e8 : w = wQueue
  · rw [if_pos e8, if_neg (h8 e8)]
  rw [if_neg e8]
  by_cases e9 : w = wTokens
  · rw [if_pos e9, if_neg (h9 e9)]
  rw [if_neg e9]
  by_cases e10 : w = wRefill
  · rw [if_pos e10, if_neg (h10 e10)]
  rw [if_neg e10]
/-- A text's lines, by the code's stages: the configuration, the line, the error. -/
def runC : List (List UInt8) → Cfg → Nat → Nat → Cfg × Nat × Int
  | [], _, _, n => ({}, n, 4)
  | [l], c, st, n => if l = [] ∧ st = 10 then (c, 0, 0) else ({}, n, 4)
  | l :: l' :: ls, c, st, n => if 32 ∈ l then (match stepC c st (cutA 32 l) (cutB 32 l) with
    | some (c', st') => runC (l' :: ls) c' st' (n + 1)
    | none => ({}, n, 4)) else ({}, n, 4)
def parseC (text : List UInt8) : Cfg × Nat × Int := if 4096 < text.length then ({}, 0, 3) else runC (splitOn 10 text) {} 0 0
end Go.Proofs.YtfbangojgjcbcaaGreatDoor.Pl
namespace Go.Proofs.YtfbangojgjcbcaaGreatDoor.Pl
open Go.Lib (decDigits itoa)
def inI (n lo hi : Int) : Bool := decide (lo ≤ n) && decide (n ≤ hi)
def portOk (p : Int × Int) : Bool := inI p.1 1 50 && inI p.2 68 1500
def mayC (c : Cfg) : Bool := ownOk c.own && decide (c.ports.length ≤ 8) && c.ports.all portOk && hasAny c.own c.addr && inI c.node 1 16 && inI c.hello 1 100 && inI c.dead (c.hello + 1) 100 && inI c.again 1 100 && inI c.room 0 64 && inI c.queue 1 64 && inI c.tokens 0 64 && inI c.refill 1 100
/-- Its addresses are some. -/
def Addrs4 (c : Cfg) : Prop := (0 ≤ c.addr ∧ c.addr < 4294967296) ∧ ∀ p ∈ c.own, 0 ≤ p.1 ∧ p.1 < 4294967296
def lnNum (w : List UInt8) (n : Int) : List UInt8 := w ++ 32 :: itoa n
def lnAddr (a : Int) : List UInt8 := wAddress ++ 32 :: addrText a.toNat
def lnOwn (p : Int × Int) : List UInt8 := wOwn ++ 32 :: prefixText p.1.toNat p.2.toNat
def lnPort (p : Int × Int) : List UInt8 := wPort ++ 32 :: (itoa p.1 ++ 32 :: itoa p.2)
def tails (c : Cfg) : List (List UInt8) := [lnNum wHello c.hello, lnNum wDead c.dead, lnNum wAgain c.again, lnNum wRoom c.room, lnNum wQueue c.queue, lnNum wTokens c.tokens, lnNum wRefill c.refill]
def heads (c : Cfg) : List (List UInt8) := [lnNum wNode c.node, lnAddr c.addr] ++ c.own.map lnOwn ++ c.ports.map lnPort
def linesP (c : Cfg) : List (List UInt8) := heads c ++ tails c
def textP (c : Cfg) : List UInt8 := (linesP c).flatMap (· ++ [10])
theorem numIn_some {s : List UInt8} {lo hi : Nat} {n : Int} (h : numIn s lo hi = some n) : s = itoa n ∧ (lo : Int) ≤ n ∧ n ≤ hi := by
  unfold numIn at h
  split at h
  · rename_i hc
    injection h with h
    subst h
    obtain ⟨h1, h2, _⟩ := numOk_dec s hi hc.1
    exact ⟨by rw [itoa_nat]; exact h1.symm, by have := hc.2; omega, by omega⟩
  · cases h
theorem numIn_itoa {n : Int} {lo hi : Nat} (h1 : (lo : Int) ≤ n) (h2 : n ≤ hi) (hh : hi < 1000000000) : numIn (itoa n) lo hi = some n := by
  obtain ⟨m, rfl⟩ := Int.eq_ofNat_of_zero_le (show 0 ≤ n by omega)
  rw [itoa_nat]
  obtain ⟨k1, k2⟩ := numOk_of m hi (by omega) (by omega)
  unfold numIn
  rw [if_pos ⟨k1, by omega⟩, k2]
theorem itoa_no (n : Int) (h : 0 ≤ n) (c : UInt8) (hc : isDig c = false) : c ∉ itoa n := by
  obtain ⟨m, rfl⟩ := Int.eq_ofNat_of_zero_le h
  rw [itoa_nat]; exact dec_no c hc m
/-- Lines, one behind the other. -/
def runL : List (List UInt8) → Cfg → Nat → Option (Cfg × Nat)
  | [], c, st => some (c, st)
  | l :: ls, c, st => if 32 ∈ l then (match stepC c st (cutA 32 l) (cutB 32 l) with
    | some (c', st') => runL ls c' st'
    | none => none) else none
theorem inI_iff {n lo hi : Int} : inI n lo hi = true ↔ lo ≤ n ∧ n ≤ hi := by unfold inI; simp
end Go.Proofs.YtfbangojgjcbcaaGreatDoor.Pl
namespace Go.Proofs.YtfbangojgjcbcaaGreatDoor.Pl
open Go.Lib (decDigits itoa)
theorem parse10_all : ∀ (l : List UInt8) (acc : Nat), l.all isDig = true → l.foldl (fun a c => a * 10 + (c.toNat - 48)) acc ≤ 9223372036854775808 →
    Lib.parseUint10 acc l = .ok (l.foldl (fun a c => a * 10 + (c.toNat - 48)) acc) := by
  have mono : ∀ (l : List UInt8) (a : Nat), a ≤ l.foldl (fun a c => a * 10 + (c.toNat - 48)) a := by
    intro l
    induction l with
    | nil => intro a; exact Nat.le_refl _
    | cons c l ih => intro a; rw [List.foldl_cons]; exact Nat.le_trans (by omega) (ih (a * 10 + (c.toNat - 48)))
  intro l
  induction l with
  | nil => intro acc _ _; rfl
  | cons c l ih =>
    intro acc hd hv
    simp only [List.all_cons, isDig, Bool.and_eq_true, decide_eq_true_eq] at hd
    rw [List.foldl_cons] at hv ⊢
    have h1 := mono l (acc * 10 + (c.toNat - 48))
    rw [Lib.parseUint10, if_pos hd.1, if_neg (by omega), if_neg (by omega)]
    exact ih _ hd.2 hv
theorem mag_dec (n : Nat) (h : n ≤ 9223372036854775808) : Lib.parseMag (decDigits n) = .ok n := by
  obtain ⟨a, b, c, _⟩ := dec_dig n
  unfold Lib.parseMag
  rw [if_neg (fun e => by rw [e] at c; simp at c)]
  have hp := parse10_all (decDigits n) 0 a (by show numVal _ ≤ _; rw [b]; exact h)
  rw [show List.foldl (fun a c => a * 10 + (c.toNat - 48)) 0 (decDigits n) = n from b] at hp
  exact hp
/-- strconv.Atoi at a number's own text. -/
theorem atoi_itoa (n : Int) (h0 : -9223372036854775808 ≤ n) (h1 : n ≤ 9223372036854775807) : Lib.atoiAll (itoa n) = .ok n := by
  by_cases hn : n < 0
  · obtain ⟨m, rfl⟩ : ∃ m : Nat, n = -(m : Int) := ⟨n.natAbs, by omega⟩
    have e : itoa (-(m : Int)) = 45 :: decDigits m := by unfold itoa; rw [if_pos hn]; congr 2; omega
    rw [e]
    unfold Lib.atoiAll
    have hm := mag_dec m (by omega)
    simp only [show (45 : UInt8).toNat = 45 from rfl, or_true, if_true, hm, not_true_eq_false, false_and, if_false, true_and]
    rw [if_neg (by omega)]
  · obtain ⟨m, rfl⟩ := Int.eq_ofNat_of_zero_le (show 0 ≤ n by omega)
    rw [itoa_nat]
    have hm := mag_dec m (by omega)
    obtain ⟨a, b, c, _⟩ := dec_dig m
    cases hl : decDigits m with
    | nil => rw [hl] at c; simp at c
    | cons x r =>
      rw [hl] at a hm
      have hx := (List.all_eq_true.1 a) x (by simp)
      simp only [isDig, Bool.and_eq_true, decide_eq_true_eq] at hx
      unfold Lib.atoiAll
      have e1 : ¬ x.toNat = 43 := by omega
      have e2 : ¬ x.toNat = 45 := by omega
      simp only [e1, e2, or_self, not_false_eq_true, true_and, false_and, if_false, hm]
      rw [if_neg (by omega)]
theorem atoi_bd {l : List UInt8} {v : Int} (h : Lib.atoiAll l = .ok v) : -9223372036854775808 ≤ v ∧ v ≤ 9223372036854775807 := by
  cases l with
  | nil => cases h
  | cons c r =>
    unfold Lib.atoiAll at h
    simp only at h
    split at h
    · cases h
    · cases h
    · split at h
      · cases h
      · split at h
        · cases h
        · injection h with h
          subst h
          split <;> omega
theorem numIn_atoi {s : List UInt8} {lo hi : Nat} {n : Int} (h : numIn s lo hi = some n) (hh : hi ≤ 1000000000) : Lib.atoiAll s = .ok n := by
  obtain ⟨e, h1, h2⟩ := numIn_some h
  rw [e]; exact atoi_itoa n (by omega) (by omega)
/-- Atoi's number fits just where the line's number does. -/
theorem numIn_of_atoi {s : List UInt8} {lo hi : Nat} {v : Int} (h : Lib.atoiAll s = .ok v) (hh : hi < 1000000000) :
    numIn s lo hi = if itoa v = s ∧ (lo : Int) ≤ v ∧ v ≤ hi then some v else none := by
  by_cases hc : itoa v = s ∧ (lo : Int) ≤ v ∧ v ≤ hi
  · rw [if_pos hc]; obtain ⟨h1, h2, h3⟩ := hc; rw [← h1]; exact numIn_itoa h2 h3 hh
  · rw [if_neg hc]
    cases hn : numIn s lo hi with
    | none => rfl
    | some n =>
      exfalso
      have h2 := numIn_atoi hn (by omega)
      rw [h] at h2; injection h2 with h2; subst h2
      obtain ⟨e, k1, k2⟩ := numIn_some hn
      exact hc ⟨e.symm, k1, k2⟩
theorem numIn_no_atoi {s : List UInt8} {lo hi : Nat} (h : ∀ u, Lib.atoiAll s ≠ .ok u) (hh : hi ≤ 1000000000) : numIn s lo hi = none := by
  cases hn : numIn s lo hi with
  | none => rfl
  | some n => exact absurd (numIn_atoi hn hh) (h n)
end Go.Proofs.YtfbangojgjcbcaaGreatDoor.Pl
namespace Go.Proofs.YtfbangojgjcbcaaGreatDoor.Pl
open Go.Lib (decDigits itoa)
theorem numIn_noblank {s : List UInt8} {lo hi : Nat} {n : Int} (h : numIn s lo hi = some n) : (32 : UInt8) ∉ s := by
  obtain ⟨e, h1, _⟩ := numIn_some h
  rw [e]; exact itoa_no n (by omega) 32 (by decide)
theorem splitOn_two (c : UInt8) (l : List UInt8) (h : c ∈ l) : ∃ x y r, splitOn c l = x :: y :: r := by
  obtain ⟨a, b, rfl, ha⟩ := List.eq_append_cons_of_mem h
  rw [splitOn_app c a b ha]
  cases hb : splitOn c b with
  | nil => exact absurd hb (splitOn_ne c b)
  | cons y r => exact ⟨a, y, r, rfl⟩
theorem cut_none (c : UInt8) : ∀ l : List UInt8, c ∉ l → cutA c l = l ∧ cutB c l = [] := by
  intro l h
  have hi : Lib.index l [c] = -1 := by
    induction l with
    | nil => rfl
    | cons x r ih =>
      rw [index_cons, if_neg (fun e => h (by simp [e])), ih (fun k => h (by simp [k]))]; rfl
  unfold cutA cutB Lib.cut
  simp [hi]
theorem portIn_cut (s : List UInt8) : portIn s = match numIn (cutA 32 s) 1 50, numIn (cutB 32 s) 68 1500 with
    | some c, some m => some (c, m)
    | _, _ => none := by
  by_cases h : (32 : UInt8) ∈ s
  · obtain ⟨a, b, rfl, ha⟩ := List.eq_append_cons_of_mem h
    obtain ⟨e1, e2⟩ := cut_app 32 a b ha
    unfold portIn
    rw [e1, e2, splitOn_app 32 a b ha]
    by_cases hb : (32 : UInt8) ∈ b
    · obtain ⟨x, y, r, hxy⟩ := splitOn_two 32 b hb
      rw [hxy]
      have : numIn b 68 1500 = none := by
        cases hn : numIn b 68 1500 with
        | none => rfl
        | some n => exact absurd hb (numIn_noblank hn)
      rw [this]
      cases numIn a 1 50 <;> rfl
    · rw [splitOn_none 32 b hb] <;> rfl
  · obtain ⟨e1, e2⟩ := cut_none 32 s h
    unfold portIn
    rw [splitOn_none 32 s h, e1, e2]
    have : numIn [] 68 1500 = none := by decide +kernel
    rw [this]
    cases numIn s 1 50 <;> rfl
end Go.Proofs.YtfbangojgjcbcaaGreatDoor.Pl
namespace Go.Proofs.YtfbangojgjcbcaaGreatDoor.Pl
open Go.Lib (decDigits itoa)
theorem cut_mem (c : UInt8) (l : List UInt8) (h : c ∈ l) : ∃ a b, l = a ++ c :: b ∧ c ∉ a ∧ cutA c l = a ∧ cutB c l = b := by
  obtain ⟨a, b, rfl, ha⟩ := List.eq_append_cons_of_mem h
  exact ⟨a, b, rfl, ha, (cut_app c a b ha).1, (cut_app c a b ha).2⟩
theorem splitOn_cut (c : UInt8) (l : List UInt8) (h : c ∈ l) : splitOn c l = cutA c l :: splitOn c (cutB c l) ∧ (cutB c l).length < l.length := by
  obtain ⟨a, b, rfl, ha, e1, e2⟩ := cut_mem c l h
  rw [e1, e2, splitOn_app c a b ha]
  exact ⟨rfl, by simp; omega⟩
theorem index_ge (c : UInt8) : ∀ l : List UInt8, -1 ≤ Lib.index l [c]
  | [] => Int.le_of_eq rfl
  | y :: r => by
    have ih := index_ge c r
    rw [index_cons]
    split
    · decide
    · split
      · decide
      · omega
theorem index_mem (c : UInt8) : ∀ l : List UInt8, (Lib.index l [c] == -1) = !decide (c ∈ l)
  | [] => rfl
  | x :: r => by
    rw [index_cons]
    by_cases hx : x = c
    · rw [if_pos hx]; simp [hx]
    · rw [if_neg hx]
      have ih := index_mem c r
      have hge := index_ge c r
      by_cases hr : c ∈ r
      · rw [decide_eq_true hr] at ih
        have hne : ¬ Lib.index r [c] = -1 := by simpa using ih
        rw [show (Lib.index r [c] == -1) = false by simpa using hne]
        simp only [Bool.false_eq_true, if_false]
        rw [decide_eq_true (List.mem_cons_of_mem x hr)]
        simp; omega
      · rw [decide_eq_false hr] at ih
        rw [ih]
        simp [hr, Ne.symm hx]
theorem cut_found (c : UInt8) (l : List UInt8) : (Lib.cut l [c]).2.2 = decide (c ∈ l) := by
  have h := index_mem c l
  unfold Lib.cut
  by_cases hm : c ∈ l
  · rw [decide_eq_true hm] at h ⊢
    have h1 : ¬ Lib.index l [c] = -1 := by simpa using h
    have h2 : 0 ≤ Lib.index l [c] := by have := index_ge c l; omega
    simp [h2]
  · rw [decide_eq_false hm] at h ⊢
    have : Lib.index l [c] = -1 := by simpa using h
    simp [this]
/-- What is kept while lines are read. -/
structure CInv (c : Cfg) : Prop where
  addrs : Addrs4 c
  own : c.own.length ≤ 8
  ports : c.ports.length ≤ 8
  hello : 0 ≤ c.hello ∧ c.hello ≤ 100
theorem CInv.start : CInv {} := ⟨⟨⟨by decide, by decide⟩, by simp⟩, by simp, by simp, by decide, by decide⟩
theorem ownOk_le {l : List (Int × Int)} (h : ownOk l = true) : l.length ≤ 8 := by
  unfold ownOk at h
  simp only [Bool.and_eq_true, decide_eq_true_eq] at h
  exact h.1.1.2
theorem stepC_inv {c c' : Cfg} {st st' : Nat} {w s : List UInt8} (h : CInv c) (hs : stepC c st w s = some (c', st')) : CInv c' := by
  unfold stepC at hs
  by_cases e0 : w = wNode
  · rw [if_pos e0] at hs
    by_cases hc : st = 0
    · rw [if_pos hc] at hs
      obtain ⟨n, _, hn⟩ := Option.map_eq_some_iff.1 hs
      injection hn with h1 _; subst h1; exact ⟨h.addrs, h.own, h.ports, h.hello⟩
    · rw [if_neg hc] at hs; cases hs
  rw [if_neg e0] at hs
  by_cases e1 : w = wAddress
  · rw [if_pos e1] at hs
    by_cases hc : st = 1
    · rw [if_pos hc] at hs
      obtain ⟨a, ha, hn⟩ := Option.map_eq_some_iff.1 hs
      injection hn with h1 _; subst h1
      have := (addrOf_some s a ha).2
      exact ⟨⟨⟨Int.natCast_nonneg a, by show (a : Int) < 4294967296; omega⟩, h.addrs.2⟩, h.own, h.ports, h.hello⟩
    · rw [if_neg hc] at hs; cases hs
  rw [if_neg e1] at hs
  by_cases e2 : w = wOwn
  · rw [if_pos e2] at hs
    by_cases hc : st = 2 ∨ (st = 3 ∧ c.ports = [])
    · rw [if_pos hc] at hs
      cases hq : prefixOf s with
      | none => rw [hq] at hs; cases hs
      | some q =>
        obtain ⟨a, n⟩ := q
        rw [hq] at hs
        by_cases hok : ownOk (c.own ++ [((a : Int), (n : Int))]) = true
        · simp only [if_pos hok] at hs
          injection hs with hs; injection hs with h1 _; subst h1
          have ha := (prefixOf_some s a n hq).2.1
          refine ⟨⟨h.addrs.1, fun p hp => ?_⟩, ownOk_le hok, h.ports, h.hello⟩
          rcases List.mem_append.1 hp with hp | hp
          · exact h.addrs.2 p hp
          · have : p = ((a : Int), (n : Int)) := by simpa using hp
            subst this; exact ⟨Int.natCast_nonneg a, by show (a : Int) < 4294967296; omega⟩
        · simp only [if_neg hok] at hs; cases hs
    · rw [if_neg hc] at hs; cases hs
  rw [if_neg e2] at hs
  by_cases e3 : w = wPort
  · rw [if_pos e3] at hs
    by_cases hc : st = 3 ∧ hasAny c.own c.addr = true ∧ c.ports.length + 1 ≤ 8
    · rw [if_pos hc] at hs
      obtain ⟨p, _, hn⟩ := Option.map_eq_some_iff.1 hs
      injection hn with h1 _; subst h1
      have := hc.2.2
      exact ⟨h.addrs, h.own, by simp; omega, h.hello⟩
    · rw [if_neg hc] at hs; cases hs
  rw [if_neg e3] at hs
  by_cases e4 : w = wHello
  · rw [if_pos e4] at hs
    by_cases hc : st = 3 ∧ hasAny c.own c.addr = true
    · rw [if_pos hc] at hs
      obtain ⟨n, hn0, hn⟩ := Option.map_eq_some_iff.1 hs
      injection hn with h1 _; subst h1
      obtain ⟨_, k1, k2⟩ := numIn_some hn0
      exact ⟨h.addrs, h.own, h.ports, by simp only; omega, by simp only; omega⟩
    · rw [if_neg hc] at hs; cases hs
  rw [if_neg e4] at hs
  by_cases e5 : w = wDead
  · rw [if_pos e5] at hs
    by_cases hc : st = 4
    · rw [if_pos hc] at hs
      obtain ⟨n, _, hn⟩ := Option.map_eq_some_iff.1 hs
      injection hn with h1 _; subst h1; exact ⟨h.addrs, h.own, h.ports, h.hello⟩
    · rw [if_neg hc] at hs; cases hs
  rw [if_neg e5] at hs
  by_cases e6 : w = wAgain
  · rw [if_pos e6] at hs
    by_cases hc : st = 5
    · rw [if_pos hc] at hs
      obtain ⟨n, _, hn⟩ := Option.map_eq_some_iff.1 hs
      injection hn with h1 _; subst h1; exact ⟨h.addrs, h.own, h.ports, h.hello⟩
    · rw [if_neg hc] at hs; cases hs
  rw [if_neg e6] at hs
  by_cases e7 : w = wRoom
  · rw [if_pos e7] at hs
    by_cases hc : st = 6
    · rw [if_pos hc] at hs
      obtain ⟨n, _, hn⟩ := Option.map_eq_some_iff.1 hs
      injection hn with h1 _; subst h1; exact ⟨h.addrs, h.own, h.ports, h.hello⟩
    · rw [if_neg hc] at hs; cases hs
  rw [if_neg e7] at hs
  by_cases e8 : w = wQueue
  · rw [if_pos e8] at hs
    by_cases hc : st = 7
    · rw [if_pos hc] at hs
      obtain ⟨n, _, hn⟩ := Option.map_eq_some_iff.1 hs
      injection hn with h1 _; subst h1; exact ⟨h.addrs, h.own, h.ports, h.hello⟩
    · rw [if_neg hc] at hs; cases hs
  rw [if_neg e8] at hs
  by_cases e9 : w = wTokens
  · rw [if_pos e9] at hs
    by_cases hc : st = 8
    · rw [if_pos hc] at hs
      obtain ⟨n, _, hn⟩ := Option.map_eq_some_iff.1 hs
      injection hn with h1 _; subst h1; exact ⟨h.addrs, h.own, h.ports, h.hello⟩
    · rw [if_neg hc] at hs; cases hs
  rw [if_neg e9] at hs
  by_cases e10 : w = wRefill
  · rw [if_pos e10] at hs
    by_cases hc : st = 9
    · rw [if_pos hc] at hs
      obtain ⟨n, _, hn⟩ := Option.map_eq_some_iff.1 hs
      injection hn with h1 _; subst h1; exact ⟨h.addrs, h.own, h.ports, h.hello⟩
    · rw [if_neg hc] at hs; cases hs
  rw [if_neg e10] at hs
  cases hs
/-- The code's loop over a text: what is left of it, one line at a time. -/
theorem runC_nil (c : Cfg) (st n : Nat) : runC (splitOn 10 []) c st n = if st = 10 then (c, 0, 0) else ({}, n, 4) := by
  show runC [[]] c st n = _
  unfold runC
  by_cases h : st = 10
  · rw [if_pos ⟨rfl, h⟩, if_pos h]
  · rw [if_neg (fun k => h k.2), if_neg h]
theorem runC_open (l : List UInt8) (c : Cfg) (st n : Nat) (hl : l ≠ []) (h : (10 : UInt8) ∉ l) : runC (splitOn 10 l) c st n = ({}, n, 4) := by
  rw [splitOn_none 10 l h]
  unfold runC
  rw [if_neg (fun k => hl k.1)]
theorem runC_cut (l : List UInt8) (c : Cfg) (st n : Nat) (h : (10 : UInt8) ∈ l) : runC (splitOn 10 l) c st n =
    if 32 ∈ cutA 10 l then (match stepC c st (cutA 32 (cutA 10 l)) (cutB 32 (cutA 10 l)) with
      | some (c', st') => runC (splitOn 10 (cutB 10 l)) c' st' (n + 1)
      | none => ({}, n, 4)) else ({}, n, 4) := by
  rw [(splitOn_cut 10 l h).1]
  cases hs : splitOn 10 (cutB 10 l) with
  | nil => exact absurd hs (splitOn_ne _ _)
  | cons x r =>
    (conv => lhs; unfold runC) <;> rfl
end Go.Proofs.YtfbangojgjcbcaaGreatDoor.Pl
namespace Go.Proofs.YtfbangojgjcbcaaGreatDoor.Pl
open Go.Lib (decDigits itoa join)
def In64 (n : Int) : Prop := -9223372036854775808 ≤ n ∧ n ≤ 9223372036854775807
/-- The code's reading of a number; of none 0. -/
def numC (s : List UInt8) : Int := match Lib.atoiAll s with
  | .ok v => v
  | _ => 0
theorem numC_in (s : List UInt8) : In64 (numC s) := by
  unfold numC
  cases h : Lib.atoiAll s with
  | ok v => exact atoi_bd h
  | _ => exact ⟨by decide, by decide⟩
theorem dec_long (k : Nat) : ∀ n : Nat, 1 ≤ k → n < 10 ^ k → (decDigits n).length ≤ k := by
  induction k with
  | zero => intro n h _; omega
  | succ k ih =>
    intro n _ h
    by_cases h10 : 10 ≤ n
    · rw [dec_big n h10, List.length_append]
      have hk : 1 ≤ k := by
        rcases Nat.eq_zero_or_pos k with rfl | hk
        · simp at h; omega
        · exact hk
      have := ih (n / 10) hk (by rw [Nat.pow_succ] at h; omega)
      simp; omega
    · rw [decDigits, dif_pos (by omega)]; simp
theorem itoa_len20 {n : Int} (h : In64 n) : (itoa n).length ≤ 20 := by
  obtain ⟨h0, h1⟩ := h
  unfold itoa
  split
  · have := dec_long 19 n.natAbs (by decide) (by omega)
    simp; omega
  · have := dec_long 19 n.toNat (by decide) (by omega)
    omega
/-! ### Links -/
abbrev Lk := Int × Int × Int × Int
def wLink : List UInt8 := [108, 105, 110, 107]
def In4 (l : Lk) : Prop := In64 l.1 ∧ In64 l.2.1 ∧ In64 l.2.2.1 ∧ In64 l.2.2.2
def linkText (l : Lk) : List UInt8 := wLink ++ 32 :: (itoa l.1 ++ 32 :: (itoa l.2.1 ++ 32 :: (itoa l.2.2.1 ++ 32 :: itoa l.2.2.2)))
def linkW (f : List UInt8 → Int) (s : List UInt8) : Option Lk := match splitOn 32 s with
  | [_, x, y, z, t] => if linkText (f x, f y, f z, f t) = s then some (f x, f y, f z, f t) else none
  | _ => none
theorem linkW_some {f : List UInt8 → Int} (hf : ∀ s, In64 (f s)) {s : List UInt8} {l : Lk} (h : linkW f s = some l) : linkText l = s ∧ In4 l := by
  unfold linkW at h
  split at h
  · split at h
    · rename_i he
      injection h with h
      subst h
      exact ⟨he, hf _, hf _, hf _, hf _⟩
    · cases h
  · cases h
def linkC (s : List UInt8) : Option Lk := linkW numC s
theorem linkText_len {l : Lk} (h : In4 l) : (linkText l).length ≤ 100 := by
  obtain ⟨h1, h2, h3, h4⟩ := h
  have := itoa_len20 h1
  have := itoa_len20 h2
  have := itoa_len20 h3
  have := itoa_len20 h4
  unfold linkText wLink
  simp; omega
end Go.Proofs.YtfbangojgjcbcaaGreatDoor.Pl
namespace Go.Proofs.YtfbangojgjcbcaaGreatDoor.Pl
def digitsB : List UInt8 := [48, 49, 50, 51, 52, 53, 54, 55, 56, 57, 97, 98, 99, 100, 101, 102]
def hx (n : Nat) : UInt8 := digitsB.getD n 0
def hex1 (b : UInt8) : List UInt8 := [hx (b.toNat / 16), hx (b.toNat % 16)]
def hexText (l : List UInt8) : List UInt8 := l.flatMap hex1
def dig (b : UInt8) : Option Nat :=
  if 48 ≤ b.toNat ∧ b.toNat ≤ 57 then some (b.toNat - 48) else if 97 ≤ b.toNat ∧ b.toNat ≤ 102 then some (b.toNat - 87) else none
def unhex : List UInt8 → Option (List UInt8)
  | [] => some []
  | [_] => none
  | a :: b :: t => match dig a, dig b with
    | some x, some y => (unhex t).map fun r => UInt8.ofNat (16 * x + y) :: r
    | _, _ => none
theorem hexText_length (l : List UInt8) : (hexText l).length = 2 * l.length := by
  induction l with
  | nil => rfl
  | cons a t ih => simp only [hexText, List.flatMap_cons, List.length_append, List.length_cons] at ih ⊢; rw [ih]; simp [hex1]; omega
theorem hexText_take (l : List UInt8) (j : Nat) (h : j < l.length) : hexText (l.take (j + 1)) = hexText (l.take j) ++ hex1 l[j] := by
  unfold hexText; rw [List.take_succ_eq_append_getElem h, List.flatMap_append, List.flatMap_cons, List.flatMap_nil, List.append_nil]
theorem dig_lt {b : UInt8} {x : Nat} (h : dig b = some x) : x < 16 := by
  unfold dig at h
  split at h
  · injection h with h; omega
  · split at h
    · injection h with h; omega
    · cases h
theorem unhex_odd : ∀ l : List UInt8, l.length % 2 = 1 → unhex l = none
  | [], h => by simp at h
  | [_], _ => rfl
  | a :: b :: t, h => by
    have ih := unhex_odd t (by simp at h; omega)
    rw [unhex, ih]
    cases dig a <;> cases dig b <;> rfl
theorem indexByte_dig (c : UInt8) : Lib.indexByte digitsB c = match dig c with | some n => (n : Int) | none => -1 := by
  have h : ∀ n : Fin 256, Lib.indexByte digitsB (UInt8.ofNat n.1) = match dig (UInt8.ofNat n.1) with | some n => (n : Int) | none => -1 := by decide +kernel
  have := h ⟨c.toNat, c.toNat_lt⟩
  simpa using this
/-- One round. -/
theorem unhex_step (l : List UInt8) (j : Nat) (h : j + 1 < l.length) :
    unhex (l.drop j) = match dig l[j], dig l[j + 1] with
      | some x, some y => (unhex (l.drop (j + 2))).map fun r => UInt8.ofNat (16 * x + y) :: r
      | _, _ => none := by
  rw [List.drop_eq_getElem_cons (show j < l.length by omega), List.drop_eq_getElem_cons h, unhex]
end Go.Proofs.YtfbangojgjcbcaaGreatDoor.Pl
namespace Go.Proofs.YtfbangojgjcbcaaGreatDoor.Pl
open Go.Lib (decDigits itoa join)
structure ActP where
  kind : Int
  node : Int := 0
  port : Int := 0
  cost : Int := 0
  n : Int := 0
  up : Bool := false
  by_ : UInt8 := 0
  unread : Bool := false
  bytes : List UInt8 := []
  deriving DecidableEq
/-- What a kind names. -/
inductive Pt where
  | n | p | c | i | u | b | r | x
  deriving DecidableEq
def nameA : Nat → List UInt8
  | 1 => [116, 105, 99, 107]
  | 2 => [104, 101, 97, 114]
  | 3 => [108, 111, 115, 101]
  | 4 => [100, 111, 117, 98, 108, 101]
  | 5 => [99, 111, 115, 116]
  | 6 => [108, 105, 110, 107]
  | 7 => [99, 114, 97, 115, 104]
  | 8 => [115, 116, 97, 114, 116]
  | 9 => [112, 97, 99, 107, 101, 116]
  | _ => []
def partsA : Nat → List Pt
  | 1 => [.n]
  | 2 => [.i]
  | 3 => [.i]
  | 4 => [.i]
  | 5 => [.n, .p, .c]
  | 6 => [.i, .u]
  | 7 => [.n]
  | 8 => [.n, .i, .b, .r]
  | 9 => [.n, .x]
  | _ => []
def wUp : List UInt8 := [117, 112]
def wDown : List UInt8 := [100, 111, 119, 110]
def wUnread : List UInt8 := [117, 110, 114, 101, 97, 100]
def wRead : List UInt8 := [114, 101, 97, 100]
def hexD (l : List UInt8) : List UInt8 := if l = [] then [45] else hexText l
def unhexD (l : List UInt8) : List UInt8 := (unhex l).getD []
def told (a : ActP) : Pt → List UInt8
  | .n => itoa a.node
  | .p => itoa a.port
  | .c => itoa a.cost
  | .i => itoa a.n
  | .b => itoa (a.by_.toNat : Int)
  | .u => if a.up then wUp else wDown
  | .r => if a.unread then wUnread else wRead
  | .x => hexD a.bytes
def actWords (a : ActP) : List (List UInt8) := nameA a.kind.toNat :: (partsA a.kind.toNat).map (told a)
def actText (a : ActP) : List UInt8 := join (actWords a) [32]
/-- What its kind does not name is nothing. -/
def bareOk (a : ActP) : Bool :=
  let p := partsA a.kind.toNat
  (decide (a.node = 0) || p.contains .n) && (decide (a.port = 0) || p.contains .p) && (decide (a.cost = 0) || p.contains .c) && (decide (a.n = 0) || p.contains .i) &&
    (!a.up || p.contains .u) && (decide (a.by_ = 0) || p.contains .b) && (!a.unread || p.contains .r) && (decide (a.bytes = []) || p.contains .x)
def mayA (a : ActP) : Bool := decide (1 ≤ a.kind) && decide (a.kind ≤ 9) && bareOk a && decide (a.bytes.length ≤ 2048)
def InA (a : ActP) : Prop := In64 a.kind ∧ In64 a.node ∧ In64 a.port ∧ In64 a.cost ∧ In64 a.n
def byteI (n : Int) : UInt8 := UInt8.ofNat (n % 256).toNat
def wd (w : List (List UInt8)) (i : Nat) : List UInt8 := w.getD i []
def guessA (f : List UInt8 → Int) (k : Nat) (w : List (List UInt8)) : ActP := match k with
  | 1 => { kind := 1, node := f (wd w 1) }
  | 2 => { kind := 2, n := f (wd w 1) }
  | 3 => { kind := 3, n := f (wd w 1) }
  | 4 => { kind := 4, n := f (wd w 1) }
  | 5 => { kind := 5, node := f (wd w 1), port := f (wd w 2), cost := f (wd w 3) }
  | 6 => { kind := 6, n := f (wd w 1), up := decide (wd w 2 = wUp) }
  | 7 => { kind := 7, node := f (wd w 1) }
  | 8 => { kind := 8, node := f (wd w 1), n := f (wd w 2), by_ := byteI (f (wd w 3)), unread := decide (wd w 4 = wUnread) }
  | 9 => { kind := 9, node := f (wd w 1), bytes := unhexD (wd w 2) }
  | k => { kind := (k : Int) }
def kindA (w : List UInt8) : Option Nat :=
  if w = nameA 1 then some 1 else if w = nameA 2 then some 2 else if w = nameA 3 then some 3 else if w = nameA 4 then some 4 else if w = nameA 5 then some 5 else
  if w = nameA 6 then some 6 else if w = nameA 7 then some 7 else if w = nameA 8 then some 8 else if w = nameA 9 then some 9 else none
def isA (a : ActP) (s : List UInt8) : Bool := mayA a && decide (actText a = s)
def actW (f : List UInt8 → Int) (s : List UInt8) : Option ActP := match kindA (wd (splitOn 32 s) 0) with
  | some k => if isA (guessA f k (splitOn 32 s)) s then some (guessA f k (splitOn 32 s)) else none
  | none => none
def actC (s : List UInt8) : Option ActP := actW numC s
theorem join_two (x y : List UInt8) (r : List (List UInt8)) (c : UInt8) : join (x :: y :: r) [c] = x ++ c :: join (y :: r) [c] := by simp [join]
theorem guess_kind (f : List UInt8 → Int) {k : Nat} (w : List (List UInt8)) : (guessA f k w).kind = (k : Int) := by
  unfold guessA
  split <;> rfl
theorem guess_in {f : List UInt8 → Int} (hf : ∀ s, In64 (f s)) (k : Nat) (hk : k ≤ 9) (w : List (List UInt8)) : InA (guessA f k w) := by
  have h0 : In64 0 := ⟨by decide, by decide⟩
  have hk' : In64 (guessA f k w).kind := by rw [guess_kind]; exact ⟨by omega, by omega⟩
  refine ⟨hk', ?_⟩
  clear hk'
  unfold guessA
  split <;> exact ⟨by first | exact hf _ | exact h0, by first | exact hf _ | exact h0, by first | exact hf _ | exact h0, by first | exact hf _ | exact h0⟩
theorem kindA_le {w : List UInt8} {k : Nat} (h : kindA w = some k) : 1 ≤ k ∧ k ≤ 9 ∧ w = nameA k := by
  unfold kindA at h
  repeat (split at h; (rename_i he; injection h with h; subst h; exact ⟨by decide, by decide, he⟩))
  cases h
theorem actW_some {f : List UInt8 → Int} (hf : ∀ s, In64 (f s)) {s : List UInt8} {a : ActP} (h : actW f s = some a) : mayA a = true ∧ actText a = s ∧ InA a := by
  unfold actW at h
  cases hk : kindA (wd (splitOn 32 s) 0) with
  | none => rw [hk] at h; cases h
  | some k =>
    rw [hk] at h
    simp only at h
    split at h
    · rename_i hc
      injection h with h
      unfold isA at hc
      simp only [Bool.and_eq_true, decide_eq_true_eq] at hc
      rw [h] at hc
      refine ⟨hc.1, hc.2, ?_⟩
      rw [← h]
      exact guess_in hf k (kindA_le hk).2.1 _
    · cases h
end Go.Proofs.YtfbangojgjcbcaaGreatDoor.Pl
namespace Go.Proofs.YtfbangojgjcbcaaGreatDoor
open Go.RowKit Pl
theorem quiet_sym {P : Program} {f : FuncId} {args : Array Value} {w : World} {v : Value} (h : Calls P f args w fun e w' => e = .returned v ∧ w = w') : Calls P f args w fun e w' => e = .returned v ∧ w' = w :=
  h.mono fun _ _ ⟨a, b⟩ => ⟨a, b.symm⟩
theorem mask_num (n : Int) (h0 : 0 ≤ n) (h1 : n ≤ 32) : IntKind.u64.wrap (18446744073709551615 * 2 ^ (32 - n).toNat) % 4294967296 = 4294967296 - blk n := by
  have hle := blk_le n
  have hpos := blk_pos n
  have e : ((2 : Int) ^ (32 - n).toNat) = blk n := by
    unfold blk; rw [show (32 - n).toNat = 32 - n.toNat by omega]; simp
  rw [e, IntKind.wrap_u64]
  omega
set_option maxHeartbeats 400000 in
theorem mask_any (n : Int) (w : World) (h0 : 0 ≤ n) (h1 : n ≤ 32) :
    Calls Tryz.prog 135 #[.int .i64 n] w fun e w' => e = .returned (.int .u32 (4294967296 - blk n)) ∧ w = w' := by
  have H := Lib.hid (mask_num n h0 h1)
  go_enter Tryz.func135, Tryz.ntmps135
  go_wp2
  go_ret
  exact ⟨ret_int H.out, rfl⟩
theorem andNot_mask (a n : Int) (ha : 0 ≤ a) (ha' : a < 4294967296) : bits .andNot .u32 a (4294967296 - blk n) = a % blk n := by
  have hle := blk_le n
  have hpos := blk_pos n
  rw [u32_andNot a _ ha ha' (by omega) (by omega)]
  obtain ⟨A, rfl⟩ := Int.eq_ofNat_of_zero_le ha
  have e : blk n = ((2 ^ (32 - n.toNat) : Nat) : Int) := rfl
  rw [e]
  have hb := Nat.pow_pos (n := 32 - n.toNat) (show 0 < 2 by decide)
  rw [e] at hle hpos
  rw [show (4294967295 - (4294967296 - ((2 ^ (32 - n.toNat) : Nat) : Int)).toNat) = 2 ^ (32 - n.toNat) - 1 by omega, Int.toNat_natCast, and_low]
  exact Int.natCast_emod _ _
theorem and_maskI (a n : Int) (ha : 0 ≤ a) (ha' : a < 4294967296) : bits .and .u32 a (4294967296 - blk n) = firstP a n := by
  have hle := blk_le n
  have hpos := blk_pos n
  rw [u32_and a _ ha ha' (by omega) (by omega)]
  obtain ⟨A, rfl⟩ := Int.eq_ofNat_of_zero_le ha
  have e : blk n = ((2 ^ (32 - n.toNat) : Nat) : Int) := rfl
  unfold firstP
  rw [e]
  rw [e] at hle hpos
  rw [show (4294967296 - ((2 ^ (32 - n.toNat) : Nat) : Int)).toNat = 4294967296 - 2 ^ (32 - n.toNat) by omega, Int.toNat_natCast, and_mask A _ (by omega) (by omega)]
  simp
/-- An address. -/
def IsAddr (a : Int) : Prop := 0 ≤ a ∧ a < 4294967296
theorem mayP_out (a n : Int) (h : n < 0 ∨ 32 < n) : mayP a n = false := by
  unfold mayP; rcases h with h | h
  · simp [show ¬ 0 ≤ n by omega]
  · simp [show ¬ n ≤ 32 by omega]
theorem mayP_in (a n : Int) (h0 : 0 ≤ n) (h1 : n ≤ 32) : mayP a n = (a % blk n == 0) := by
  unfold mayP; simp [h0, h1]; rfl
set_option maxHeartbeats 400000 in
theorem may_any (a n : Int) (w : World) (ha : IsAddr a) :
    Calls Tryz.prog 134 #[.agg #[.int .u32 a, .int .i64 n]] w fun e w' => e = .returned (.bool (mayP a n)) ∧ Below w.heap.size w w' := by
  obtain ⟨ha0, ha1⟩ := ha
  by_cases h0 : 0 ≤ n
  · by_cases h1 : n ≤ 32
    · have HM := Lib.hid (mayP_in a n h0 h1)
      have hbn := andNot_mask a n ha0 ha1
      go_enter Tryz.func134, Tryz.ntmps134
      go_wp2
      go_quiet ((go_at_call 135; exact Calls.quiet_of_same (quiet_sym (mask_any n _ h0 h1))))
      go_wp2
      go_ret
      exact ⟨by rw [HM.out]; rfl, Go.below_drewN ((Below.refl _ _).alloc (Nat.le_refl _) _) _⟩
    · have HM := Lib.hid (mayP_out a n (by omega))
      have d : decide (n ≤ 32) = false := by simpa using h1
      go_enter Tryz.func134, Tryz.ntmps134
      go_wp2
      go_quiet (fail)
      go_wp2
      go_ret
      exact ⟨by rw [HM.out]; rfl, Go.below_drewN ((Below.refl _ _).alloc (Nat.le_refl _) _) _⟩
  · have HM := Lib.hid (mayP_out a n (by omega))
    have d : decide (0 ≤ n) = false := by simpa using h0
    go_enter Tryz.func134, Tryz.ntmps134
    go_wp2
    go_quiet (fail)
    go_wp2
    go_ret
    exact ⟨by rw [HM.out]; rfl, Go.below_drewN ((Below.refl _ _).alloc (Nat.le_refl _) _) _⟩
theorem may_true (a n : Int) (w : World) (ha : IsAddr a) (h : mayP a n = true) :
    Calls Tryz.prog 134 #[.agg #[.int .u32 a, .int .i64 n]] w fun e w' => e = .returned (.bool true) ∧ Below w.heap.size w w' :=
  (may_any a n w ha).mono fun _ _ ⟨h1, h2⟩ => ⟨by rw [h1, h], h2⟩
theorem may_false (a n : Int) (w : World) (ha : IsAddr a) (h : mayP a n = false) :
    Calls Tryz.prog 134 #[.agg #[.int .u32 a, .int .i64 n]] w fun e w' => e = .returned (.bool false) ∧ Below w.heap.size w w' :=
  (may_any a n w ha).mono fun _ _ ⟨h1, h2⟩ => ⟨by rw [h1, h], h2⟩
theorem mayP_len {a n : Int} (h : mayP a n = true) : 0 ≤ n ∧ n ≤ 32 := by
  unfold mayP at h; simp at h; exact ⟨h.1, h.2.1⟩
set_option maxHeartbeats 400000 in
theorem has_any (a n x : Int) (w : World) (ha : IsAddr a) (hx : IsAddr x) :
    Calls Tryz.prog 72 #[.agg #[.int .u32 a, .int .i64 n], .int .u32 x] w fun e w' => e = .returned (.bool (hasP a n x)) ∧ Below w.heap.size w w' := by
  by_cases hm : mayP a n = true
  · obtain ⟨h0, h1⟩ := mayP_len hm
    have HH : Hid (hasP a n x = (firstP x n == a)) := by unfold hasP; rw [hm]; exact Lib.hid (by simp; rfl)
    have hfm := and_maskI x n hx.1 hx.2
    have HM := Lib.hid hm; clear hm
    go_enter Tryz.func72, Tryz.ntmps72
    go_wp2
    refine wp_region_ext (by kernel_rfl) (by kernel_rfl) ?_
    repeat (go_big_quiet_step (first | (go_at_call 134; exact Ext.call (may_true a n _ ha HM.out)) | (go_at_call 135; exact Ext.callq (mask_any n _ h0 h1))))
    refine wpQuiet_nil ?_
    rintro _ ⟨y, rfl⟩
    go_wp2
    go_ret
    exact ⟨by rw [HH.out]; rfl, (by repeat (first | exact Below.refl _ _ | apply Below.drew | apply Go.below_drewN | apply bel_alloc | apply Ext.lift | apply bel_set0 | apply bel_set))⟩
  · have HH : Hid (hasP a n x = false) := by unfold hasP; simp only [Bool.not_eq_true] at hm; rw [hm]; exact Lib.hid rfl
    have HM := Lib.hid (show mayP a n = false by simpa using hm); clear hm
    go_enter Tryz.func72, Tryz.ntmps72
    go_wp2
    refine wp_region_ext (by kernel_rfl) (by kernel_rfl) ?_
    repeat (go_big_quiet_step (first | (go_at_call 134; exact Ext.call (may_false a n _ ha HM.out))))
    refine wpQuiet_nil ?_
    rintro _ ⟨y, rfl⟩
    go_wp2
    go_ret
    exact ⟨by rw [HH.out]; rfl, (by repeat (first | exact Below.refl _ _ | apply Below.drew | apply Go.below_drewN | apply bel_alloc | apply Ext.lift | apply bel_set0 | apply bel_set))⟩
end Go.Proofs.YtfbangojgjcbcaaGreatDoor
namespace Go.Proofs.YtfbangojgjcbcaaGreatDoor
open Go.RowKit Pl
end Go.Proofs.YtfbangojgjcbcaaGreatDoor
