/- Part 1 of the proof: PlainP, Base, Frame, Open, PlainO, PlainQ, PlainN, PlainT, PlainA, PlainS, PlainG, PlainH2, PlainK, ConfA, OpenC, PlainX, PlainY, PlainH. -/
import Derived.WalkKit
import Derived.Test.YtfbangojgjcbcaaGreatDoorChecked
import Derived.WalkSpells
import Derived.WalkLawsBesides
import Derived.StillTactics
import Derived.Deep.QuietTactic
import Derived.BigQuiet
import Derived.Deep.RegionHeld3
import Derived.Deep.AppendLies
import Derived.Deep.Draws
import Derived.Deep.OwnRows
import Derived.Deep.DeepFit
import Derived.Maps.AppendAt
import Derived.Lib.Hide
import Derived.Lib.LaidTab
import Derived.Lib.ItoaNum
import Derived.Lib.ConvBytes
import Derived.RowKit3
import Derived.OwnWalk
import Derived.Laws.OwnMore
import Derived.Laws.IdiomStrings
import Derived.Test.YtfbangojgjcbcaaGreatDoorRows
import Derived.Test.YtfbangojgjcbcaaGreatDoorCards
import Derived.Test.YtfbangojgjcbcaaGreatDoorTie
import Derived.ProofKit
import Derived.OpenShut
import Derived.ShutString
import Derived.ChangeOld
import Derived.Deep.DeepHandedRow
import Derived.Deep.DeepWitnessRowRef
import Derived.Lib.LaidU8
import Derived.Lib.LaidIn
import Derived.Lib.SmallJoins
import Derived.SevenTiedAt
import Derived.Shelf.LaysM
import Derived.Lib.Join
import Derived.Lib.JoinLaws
import Derived.Lib.Split
import Derived.Lib.SplitLaws
import Derived.Lib.ParseIntB
import Derived.Lib.CutLaws
import Derived.Deep.Slices
import Derived.Lib.AtoiAll
import Derived.Lib.Bytealg
namespace Go.Proofs.YtfbangojgjcbcaaGreatDoor.Pl
/-- 2 to the number of bits behind the first n. -/
def blk (n : Int) : Int := ((2 ^ (32 - n.toNat) : Nat) : Int)
/-- May the prefix be? -/
def mayP (a n : Int) : Bool := decide (0 ≤ n) && (decide (n ≤ 32) && decide (a % blk n = 0))
/-- The first n bits, the others noughts. -/
def firstP (a n : Int) : Int := a / blk n * blk n
def hasP (a n x : Int) : Bool := mayP a n && decide (firstP x n = a)
def cmpI (x y : Int) : Int := if x < y then -1 else if y < x then 1 else 0
def cmpP (a n b m : Int) : Int := if cmpI a b = 0 then cmpI n m else cmpI a b
theorem blk_pos (n : Int) : 1 ≤ blk n := by
  unfold blk; have := Nat.pow_pos (n := 32 - n.toNat) (show 0 < 2 by decide); omega
theorem blk_le (n : Int) : blk n ≤ 4294967296 := by
  unfold blk; have := Nat.pow_le_pow_right (show 0 < 2 by decide) (show 32 - n.toNat ≤ 32 by omega); omega
/-- x & (2^32 - 2^k) = x / 2^k * 2^k below 2^32 -/
theorem and_mask (x k : Nat) (hx : x < 4294967296) (hk : k ≤ 32) : x &&& (4294967296 - 2 ^ k) = x / 2 ^ k * 2 ^ k := by
  apply Nat.eq_of_testBit_eq
  intro i
  have h1 : (4294967296 : Nat) - 2 ^ k = 2 ^ 32 - (2 ^ k - 1 + 1) := by
    have := Nat.pow_pos (n := k) (show 0 < 2 by decide); omega
  rw [Nat.testBit_and, h1, Nat.testBit_two_pow_sub_succ (by have := Nat.pow_le_pow_right (show 0 < 2 by decide) hk; have := Nat.pow_pos (n := k) (show 0 < 2 by decide); omega), Nat.testBit_two_pow_sub_one, Nat.mul_comm, Nat.testBit_two_pow_mul, Nat.testBit_div_two_pow]
  by_cases hi : i < 32
  · by_cases hik : i < k
    · simp [hik]; intro; omega
    · rw [Nat.sub_add_cancel (by omega)]; simp [hi, hik]; omega
  · have : x.testBit i = false := Nat.testBit_lt_two_pow (Nat.lt_of_lt_of_le hx (Nat.pow_le_pow_right (show 0 < 2 by decide) (show 32 ≤ i by omega)))
    by_cases hki : k ≤ i
    · rw [Nat.sub_add_cancel hki]; simp [this]
    · simp [this, hki]
theorem and_low (x k : Nat) : x &&& (2 ^ k - 1) = x % 2 ^ k := Nat.and_two_pow_sub_one_eq_mod x k
end Go.Proofs.YtfbangojgjcbcaaGreatDoor.Pl
namespace Go.Proofs.YtfbangojgjcbcaaGreatDoor
open Go.RowKit Pl
/-- A byte list as cells. -/
def cellsB (l : List UInt8) : List Value := l.map fun b => .int .u8 (b.toNat : Int)
theorem cellsB_length (l : List UInt8) : (cellsB l).length = l.length := by simp [cellsB]
theorem cellsB_append (l m : List UInt8) : cellsB (l ++ m) = cellsB l ++ cellsB m := by simp [cellsB]
/-- The slice value v reads as the bytes l in world w. -/
def Bs (w : World) (v : Value) (l : List UInt8) : Prop :=
  ∃ (A : Option Addr) (c : Nat), v = .slice A l.length c ∧ l.length ≤ c ∧ (A = none → c = 0) ∧
    (0 < l.length → ∃ b off, A = some ⟨b, off, none⟩ ∧ b < w.heap.size ∧ ∀ j u, (cellsB l)[j]? = some u → w.cell? ⟨b, off + j, none⟩ = some u)
theorem Bs.keep {w w' : World} {v : Value} {l : List UInt8} (h : Bs w v l) (hs : w.heap.size ≤ w'.heap.size) (hk : ∀ p : Addr, p.block < w.heap.size → w'.cell? p = w.cell? p) : Bs w' v l := by
  obtain ⟨A, c, rfl, hc, hn, hA⟩ := h
  refine ⟨A, c, rfl, hc, hn, fun hp => ?_⟩
  obtain ⟨b, off, rfl, hb, hcell⟩ := hA hp
  exact ⟨b, off, rfl, by omega, fun j u hu => (hk _ hb).trans (hcell j u hu)⟩
theorem Bs.below {w w' : World} {v : Value} {l : List UInt8} (h : Bs w v l) (hb : Below w.heap.size w w') : Bs w' v l := h.keep hb.size fun _ hp => hb.cell hp
theorem Bs.alloc {w : World} {v : Value} {l : List UInt8} (h : Bs w v l) (o : Obj) : Bs (w.alloc o) v l := h.keep (by simp) fun p hp => World.cell?_alloc_lt w o p hp
theorem Bs.drewN {w : World} {v : Value} {l : List UInt8} (h : Bs w v l) (n : Nat) : Bs (w.drewN n) v l := h
theorem Bs.nil (w : World) : Bs w (.slice none 0 0) [] := ⟨none, 0, rfl, Nat.le_refl _, fun _ => rfl, fun h => absurd h (by simp)⟩
theorem Bs.own {w : World} {base : Nat} {v : Value} {n : Nat} {l : List UInt8} (h : w.ownsRow base 5 1 v n (cellsB l)) : Bs w v l := by
  have hn : n = l.length := by have := h.1; simp [cellsB_length] at this; omega
  subst hn
  rcases h.2 with ⟨rfl, h0⟩ | ⟨g, cap, cur, rfl, hg, hh, hnc, _⟩
  · have h0' : l = [] := by simpa [cellsB] using h0
    subst h0'; exact Bs.nil w
  · refine ⟨_, cap, rfl, hnc, (fun h => by cases h), fun hp => ⟨g, 0, rfl, ?_, fun j u hu => ?_⟩⟩
    · exact (h.lt g rfl).2
    · have := h.cells (g := g) rfl j u hu
      rw [show ((⟨g, 0, none⟩ : Addr).add j) = ⟨g, 0 + j, none⟩ from by unfold Addr.add; by_cases hj : j = 0 <;> simp [hj]] at this
      exact this
/-- 'string(v)'. -/
theorem Bs.conv {w : World} {v : Value} {l : List UInt8} (h : Bs w v l) : (convert 37 9 v).run Tryz.prog w = .ok (.string ⟨l.toArray⟩) w := by
  obtain ⟨A, c, rfl, hc, hn, hA⟩ := h
  by_cases hp : 0 < l.length
  · obtain ⟨b, off, rfl, hb, hcell⟩ := hA hp
    refine run_convert_bytes_back w 37 9 5 ⟨b, off, none⟩ c l Tryz.underlying37 Tryz.underlying5 Tryz.underlying9 (fun j hj => ?_)
    have h1 := hcell j (.int .u8 (l[j].toNat : Int)) (by simp [cellsB, hj])
    rw [show ((⟨b, off, none⟩ : Addr).add j) = ⟨b, off + j, none⟩ from by unfold Addr.add; by_cases hj : j = 0 <;> simp [hj]]
    exact h1
  · have h0 : l = [] := List.eq_nil_of_length_eq_zero (by omega)
    subst h0
    rw [run_convert_bytes_string w 37 9 5 A _ c Tryz.underlying37 Tryz.underlying5 Tryz.underlying9]
    cases A with
    | none => simp [Conv.bytesToString, Sem.run_pure]; rfl
    | some a => exact run_bytesToString w a 0 c [] (by simpa using run_loadCells_list (P := Tryz.prog) w a [] (by simp))
/-- What the package-level variables of Go's library hold. -/
structure Env (w : World) : Prop where
  size : 8 ≤ w.heap.size
  maxlen : ∃ m, w.cell? ⟨0, 0, none⟩ = some (.int .i64 m)
  pow : Lib.TabIs Tryz.prog w "internal/strconv.uint64pow10" .u64 Lib.pow10Tab
  syn : ∃ t p, w.cell? ⟨2, 0, none⟩ = some (.iface t p)
  rng : ∃ t p, w.cell? ⟨3, 0, none⟩ = some (.iface t p)
theorem Env.below {w w' : World} {B : Nat} (h : Env w) (hB : 8 ≤ B) (hb : Below B w w') : Env w' := by
  obtain ⟨h0, ⟨m, h1⟩, h2, ⟨t1, p1, h3⟩, ⟨t2, p2, h4⟩⟩ := h
  refine ⟨Nat.le_trans h0 hb.size, ⟨m, (hb.cell (show _ < _ by dsimp only; omega)).trans h1⟩, ?_, ⟨t1, p1, (hb.cell (show _ < _ by dsimp only; omega)).trans h3⟩, ⟨t2, p2, (hb.cell (show _ < _ by dsimp only; omega)).trans h4⟩⟩
  exact var?_below hb (show Tryz.prog.globalNamed "internal/strconv.uint64pow10" = some 1 by kernel_rfl) (by omega) h2
theorem Env.here {w w' : World} (h : Env w) (hb : Below w.heap.size w w') : Env w' := h.below h.size hb
theorem info_u8 : (Tryz.prog.info? 5).map (fun i => (i.zero, i.size, i.bytes)) = some (some (.int .u8 0), 1, 1) := by kernel_rfl
theorem info_str : (Tryz.prog.info? 9).map (fun i => (i.zero, i.size, i.bytes)) = some (some (.string ⟨#[]⟩), 1, 16) := by kernel_rfl
theorem ret_int {k : IntKind} {a b : Int} (h : a = b) : Ending.returned (.int k a) = .returned (.int k b) := by rw [h]
theorem grownBy_alloc {w w' : World} {o : Obj} {row : Option Nat} (h : (w.alloc o).grownBy w' row) : w.grownBy w' row :=
  ⟨h.os, h.tape, h.output, Nat.le_trans (by simp) h.size, fun i hi hne => (h.block i (by simp; omega) hne).trans (Below.heap_alloc w o i hi)⟩
theorem grownBy_drew {w w' : World} {row : Option Nat} (h : w.drew.grownBy w' row) : w.grownBy w' row := ⟨h.os, h.tape, h.output, h.size, h.block⟩
/-- 'out = append(out, x)', out the call's own, one cell an element: x lies in a new block of its own. -/
theorem wpList_push {P : Program} {ops : Array Oper} {rest : List Oper} {o : Oper} {a : Act} {Q : Exit → Act → World → Prop} {w0 : World} {e0 : TypeId} {u : Value} (hgd : o.guard = none) (s x : Operand) (t : TypeId)
    (ho : o.op = .call { callee := .builtin .append, args := #[s, x], argTypes := #[t, t] })
    (base : Nat) (e : TypeId) {z : Value} {bytes : Nat} (hinfo : (P.info? e).map (fun i => (i.zero, i.size, i.bytes)) = some (some z, 1, bytes)) (hzs : z.cells.size = 1) (hby : bytes ≤ 1000) (ht : P.underlying t = some (.slice e))
    (v : Value) (n : Nat) (xs : List Value) (hs : a.eval s = v) (hown : w0.ownsRow base e 1 v n xs) (hx : a.eval x = .slice (some ⟨w0.heap.size, 0, none⟩) 1 1) (hu : u.oneCell' = true)
    (hn : n ≤ 1000000000) (hbase : base ≤ w0.heap.size)
    (h : ∀ v' w', w'.ownsRow base e 1 v' (n + 1) (xs ++ [u]) → w0.grownBy w' v.ownBlock → wpList P ops Q rest (a.put o.dst v') w') : wpList P ops Q (o :: rest) a (w0.alloc (.cells #[u] e0)) := by
  obtain ⟨i0, hi, hz0, hz1, hz2⟩ := info_parts hinfo
  refine wpList_append_own _ hgd s x t ho base e i0 z 1 bytes ht hi hz0 hz1 hz2 hzs (by decide) v n xs hs (hown.alloc _) ⟨w0.heap.size, 0, none⟩ 1 1 [u] hx rfl (cell_one_new _ _ _) (by intro y hy; simp at hy; subst hy; exact hu) (by unfold maxLen; omega) ?_ (by simp; omega) fun v' w' h1 h2 _ => h v' w' h1 (grownBy_alloc h2)
  have : (n + 1) * bytes ≤ (n + 1) * 1000 := Nat.mul_le_mul_left _ hby
  omega
/-! ### Regions that draw their order, whose operations read what was there and whose callees make memory: one walk, in the order of the text. -/
/-- A world that keeps all that W holds. -/
structure Ext (W : World) where
  w : World
  below : Below W.heap.size W w
instance (W : World) : Nonempty (Ext W) := ⟨⟨W, Below.refl _ _⟩⟩
theorem wp_region_ext {P : Program} {id : Nat} {Q : Exit → Act → World → Prop} {a : Act} {W : World} {l : List Oper} (hm : P.follows .mixedOrders = true) (hB : Region.lexB .any l.toArray = true)
    (h : wpQuiet P l.toArray (fun w' => ∃ x : Ext W, w' = x.w) (fun a' => ∀ w', (∃ x : Ext W, w' = x.w) → Q .normal a' w') l a) : (Code.region id l.toArray true).wp P Q a W :=
  wp_region_quiet (C := fun w' => ∃ x : Ext W, w' = x.w) hm hB ⟨⟨_, (Below.refl _ W).drew⟩, rfl⟩ (by simpa using h)
theorem Ext.call {P : Program} {f : FuncId} {args : Array Value} {W : World} {x : Ext W} {v : Value}
    (h : Calls P f args x.w fun e w' => e = .returned v ∧ Below x.w.heap.size x.w w') : Calls P f args x.w fun e w'' => e = .returned v ∧ ∃ y : Ext W, w'' = y.w :=
  h.mono fun _ w' ⟨he, hb⟩ => ⟨he, ⟨w', x.below.trans (hb.mono x.below.size)⟩, rfl⟩
theorem Ext.callq {P : Program} {f : FuncId} {args : Array Value} {W : World} {x : Ext W} {v : Value}
    (h : Calls P f args x.w fun e w' => e = .returned v ∧ x.w = w') : Calls P f args x.w fun e w'' => e = .returned v ∧ ∃ y : Ext W, w'' = y.w :=
  h.mono fun _ _ ⟨he, hb⟩ => ⟨he, x, hb.symm⟩
@[go_sem] theorem Ext.cell {W : World} (x : Ext W) (p : Addr) (h : p.block < W.heap.size) : x.w.cell? p = W.cell? p := x.below.cell h
@[go_sem] theorem Ext.frozen {W : World} (x : Ext W) (p : Addr) (h : p.block < W.heap.size) : x.w.frozen? p = W.frozen? p := x.below.frozen h
theorem Ext.env {W : World} (x : Ext W) (h : Env W) : Env x.w := h.here x.below
theorem Env.alloc {W : World} (h : Env W) (o : Obj) : Env (W.alloc o) := h.here ((Below.refl _ _).alloc (Nat.le_refl _) o)
theorem Bs.ext {W : World} {v : Value} {l : List UInt8} (h : Bs W v l) (x : Ext W) : Bs x.w v l := h.below x.below
theorem Ext.lift {w W : World} (y : Ext W) (h : Below w.heap.size w W) : Below w.heap.size w y.w := h.trans (y.below.mono h.size)
theorem bel_alloc {w W : World} (h : Below w.heap.size w W) (o : Obj) : Below w.heap.size w (W.alloc o) := h.alloc h.size o
theorem ext_of {P : Program} {f : FuncId} {args : Array Value} {W : World} {v : Value} (h : Calls P f args W fun e w' => e = .returned v ∧ Below W.heap.size W w') :
    Calls P f args W fun e w' => e = .returned v ∧ ∃ y : Ext W, w' = y.w := h.mono fun _ w' ⟨he, hb⟩ => ⟨he, ⟨w', hb⟩, rfl⟩
theorem own_below {w w' : World} {base : Nat} {e : TypeId} {size n : Nat} {v : Value} {xs : List Value} (h : w.ownsRow base e size v n xs) (hb : Below w.heap.size w w') : w'.ownsRow base e size v n xs :=
  h.kept (row := none) ⟨hb.os, hb.tape, hb.output, hb.size, fun i hi _ => hb.block i hi⟩ (by
    cases hv : v.ownBlock with
    | none => exact .inl rfl
    | some g => exact .inr (by simp))
theorem bel_set {w W : World} (h : Below w.heap.size w W) (k i : Nat) (u : Value) : Below w.heap.size w (W.setCell ⟨w.heap.size + k, i, none⟩ u) := h.setCell (Nat.le_add_right _ _) u
theorem bel_set0 {w W : World} (h : Below w.heap.size w W) (i : Nat) (u : Value) : Below w.heap.size w (W.setCell ⟨w.heap.size, i, none⟩ u) := h.setCell (Nat.le_refl _) u
theorem Bs.drew {w : World} {v : Value} {l : List UInt8} (h : Bs w v l) : Bs w.drew v l := h
theorem below_undrew {B : Nat} {w w' : World} (h : Below B w.drew w') : Below B w w' := ⟨h.os, h.tape, h.output, h.size, h.block⟩
/-- A list of bytes as a string. -/
def str (l : List UInt8) : ByteArray := ⟨l.toArray⟩
end Go.Proofs.YtfbangojgjcbcaaGreatDoor
namespace Go.Proofs.YtfbangojgjcbcaaGreatDoor
open Go.ChangeShapes Go.WideShapes Go.ChangeAt Go.RowKit
theorem own : ownKnob Tryz.prog.godebug = none := by kernel_rfl
theorem laidOut : laidOutB Tryz.prog = true := by kernel_rfl
theorem var?_lt {W : World} {n : String} {g : Nat} {cs : Array Value} (hg : Tryz.prog.globalNamed n = some g) (h : W.var? Tryz.prog n = some cs) : g < W.heap.size := by
  rcases Nat.lt_or_ge g W.heap.size with hlt | hge
  · exact hlt
  · exfalso
    simp only [World.var?, hg, Option.bind_some] at h
    rw [Array.getElem?_eq_none hge] at h
    cases h
theorem env_of {W : World} (hL : laidMetH Tryz.prog Rows.confParsesRow.laid W) (hsh : W.ShapedOpen Tryz.prog) : Env W := by
  have hM : laidMet Tryz.prog Rows.confParsesRow.laid W := hL
  have hsz : 8 ≤ W.heap.size := by
    obtain ⟨ps, hv, _⟩ := hM.filter (fun x => x.1 == "math/bits.deBruijn64tab")
    obtain ⟨g, t, cs, fuel, p, q, e1, e2, e3, e4, _, _⟩ := (show DataW.LaidVars Tryz.prog W [("math/bits.deBruijn64tab", Rows.laid_math_bits_deBruijn64tab)] ps from hv)
    have h1 := var?_lt e1 e3
    obtain rfl : 7 = g := Option.some.inj ((show Tryz.prog.globalNamed "math/bits.deBruijn64tab" = some 7 by kernel_rfl).symm.trans e1)
    omega
  refine ⟨hsz, Go.Proofs.cell_of_shapedOpen_int (zero := #[.int .i64 0]) (t := 3) hsh (of_decide_eq_true (by kernel_rfl)) (by kernel_rfl) rfl (by kernel_rfl) (by kernel_rfl) Tryz.underlying3, ?_, ?_, ?_⟩
  · have h := hM.filter (fun x => x.1 == "internal/strconv.uint64pow10")
    exact Lib.tabIs_of_head (rest := []) (g := 1) (t := 260) (e := 169) (n := 20) (by kernel_rfl) (by kernel_rfl) (by kernel_rfl) (by kernel_rfl) (by kernel_rfl) (by kernel_rfl) h
  · obtain ⟨ps, hv, _⟩ := hM.filter (fun x => x.1 == "strconv.ErrSyntax")
    obtain ⟨g, t, cs, fuel, p, q, e1, e2, e3, e4, _, _⟩ := (show DataW.LaidVars Tryz.prog W [("strconv.ErrSyntax", Rows.laid_strconv_ErrSyntax)] ps from hv)
    obtain rfl : 2 = g := Option.some.inj ((show Tryz.prog.globalNamed "strconv.ErrSyntax" = some 2 by kernel_rfl).symm.trans e1)
    obtain rfl : 116 = t := Option.some.inj ((show (Tryz.prog.globals[2]?).map (·.type) = some 116 by kernel_rfl).symm.trans e2)
    obtain ⟨_, u, x, hcs, _⟩ := iface_of_trod Tryz.underlying116 e4
    refine ⟨u, x, ?_⟩
    rw [World.var?_cell e1 e3 0, ← Array.getElem?_toList, hcs]; rfl
  · obtain ⟨ps, hv, _⟩ := hM.filter (fun x => x.1 == "strconv.ErrRange")
    obtain ⟨g, t, cs, fuel, p, q, e1, e2, e3, e4, _, _⟩ := (show DataW.LaidVars Tryz.prog W [("strconv.ErrRange", Rows.laid_strconv_ErrRange)] ps from hv)
    obtain rfl : 3 = g := Option.some.inj ((show Tryz.prog.globalNamed "strconv.ErrRange" = some 3 by kernel_rfl).symm.trans e1)
    obtain rfl : 116 = t := Option.some.inj ((show (Tryz.prog.globals[3]?).map (·.type) = some 116 by kernel_rfl).symm.trans e2)
    obtain ⟨_, u, x, hcs, _⟩ := iface_of_trod Tryz.underlying116 e4
    refine ⟨u, x, ?_⟩
    rw [World.var?_cell e1 e3 0, ← Array.getElem?_toList, hcs]; rfl
/-- A start: the settled world with two blocks more (the two errors' texts), the listed variables holding what their initialisers lay. -/
noncomputable def laidWorld (os : Os) : World :=
  let N := (World.settled Tryz.prog os).heap.size
  let w0 := World.holding Tryz.prog os ⟨#[.cells #[.string ⟨#[118, 97, 108, 117, 101, 32, 111, 117, 116, 32, 111, 102, 32, 114, 97, 110, 103, 101]⟩] 275, .cells #[.string ⟨#[105, 110, 118, 97, 108, 105, 100, 32, 115, 121, 110, 116, 97, 120]⟩] 275], #[], []⟩
  let put (h : Array Obj) (g : Nat) (cs : Array Value) : Array Obj := h.modify g fun
    | .cells _ t frozen => .cells cs t frozen
    | o => o
  let h0 := put w0.heap 3 #[.iface 273 (.pointer (some ⟨N, 0, none⟩))]
  let h1 := put h0 2 #[.iface 273 (.pointer (some ⟨N + 1, 0, none⟩))]
  let h2 := put h1 1 #[.int .u64 1, .int .u64 10, .int .u64 100, .int .u64 1000, .int .u64 10000, .int .u64 100000, .int .u64 1000000, .int .u64 10000000, .int .u64 100000000, .int .u64 1000000000, .int .u64 10000000000, .int .u64 100000000000, .int .u64 1000000000000, .int .u64 10000000000000, .int .u64 100000000000000, .int .u64 1000000000000000, .int .u64 10000000000000000, .int .u64 100000000000000000, .int .u64 1000000000000000000, .int .u64 10000000000000000000]
  let h3 := put h2 4 (Lib.firstTab.map fun z => Value.int .u8 z).toArray
  let h4 := put h3 5 #[.int .u8 128, .int .u8 191, .int .u8 160, .int .u8 191, .int .u8 128, .int .u8 159, .int .u8 144, .int .u8 191, .int .u8 128, .int .u8 143, .int .u8 0, .int .u8 0, .int .u8 0, .int .u8 0, .int .u8 0, .int .u8 0, .int .u8 0, .int .u8 0, .int .u8 0, .int .u8 0, .int .u8 0, .int .u8 0, .int .u8 0, .int .u8 0, .int .u8 0, .int .u8 0, .int .u8 0, .int .u8 0, .int .u8 0, .int .u8 0, .int .u8 0, .int .u8 0]
  let h5 := put h4 6 #[.int .u8 0, .int .u8 1, .int .u8 28, .int .u8 2, .int .u8 29, .int .u8 14, .int .u8 24, .int .u8 3, .int .u8 30, .int .u8 22, .int .u8 20, .int .u8 15, .int .u8 25, .int .u8 17, .int .u8 4, .int .u8 8, .int .u8 31, .int .u8 27, .int .u8 13, .int .u8 23, .int .u8 21, .int .u8 19, .int .u8 16, .int .u8 7, .int .u8 26, .int .u8 12, .int .u8 18, .int .u8 6, .int .u8 11, .int .u8 5, .int .u8 10, .int .u8 9]
  let h6 := put h5 7 #[.int .u8 0, .int .u8 1, .int .u8 56, .int .u8 2, .int .u8 57, .int .u8 49, .int .u8 28, .int .u8 3, .int .u8 61, .int .u8 58, .int .u8 42, .int .u8 50, .int .u8 38, .int .u8 29, .int .u8 17, .int .u8 4, .int .u8 62, .int .u8 47, .int .u8 59, .int .u8 36, .int .u8 45, .int .u8 43, .int .u8 51, .int .u8 22, .int .u8 53, .int .u8 39, .int .u8 33, .int .u8 30, .int .u8 24, .int .u8 18, .int .u8 12, .int .u8 5, .int .u8 63, .int .u8 55, .int .u8 48, .int .u8 27, .int .u8 60, .int .u8 41, .int .u8 37, .int .u8 16, .int .u8 46, .int .u8 35, .int .u8 44, .int .u8 21, .int .u8 52, .int .u8 32, .int .u8 23, .int .u8 11, .int .u8 54, .int .u8 26, .int .u8 40, .int .u8 15, .int .u8 34, .int .u8 20, .int .u8 31, .int .u8 10, .int .u8 25, .int .u8 14, .int .u8 19, .int .u8 9, .int .u8 13, .int .u8 8, .int .u8 7, .int .u8 6]
  { w0 with heap := h6 }
set_option maxRecDepth 1000000 in
theorem laid_met (os : Os) (args : Array Value) : laidMet Tryz.prog Rows.confParsesRow.laid ((laidWorld os).forCall (fun _ _ => 0) ⟨#[], args, []⟩).memory :=
  laidMet_of_run' 8 (by kernel_rfl) (by kernel_rfl)
end Go.Proofs.YtfbangojgjcbcaaGreatDoor
namespace Go.Proofs.YtfbangojgjcbcaaGreatDoor
open Go.ChangeShapes Go.WideShapes Go.ChangeAt Go.RowKit
theorem isAddr_of_wf {a : Int} (h : (Lit.int .u32 a).wf = true) : 0 ≤ a ∧ a < 4294967296 := by
  simp [Lit.wf, IntKind.min, IntKind.max, IntKind.signed, IntKind.bits] at h
  exact ⟨by omega, by omega⟩
section
variable {H : Type} {enc : TypeId × Value → H} {W : World} {base b0 : Nat} {sp : Nat → Bool} {held : Bool} {r : Reach}
end
end Go.Proofs.YtfbangojgjcbcaaGreatDoor
namespace Go.Proofs.YtfbangojgjcbcaaGreatDoor.Pl
theorem cmpI_bd (x y : Int) : -1 ≤ cmpI x y ∧ cmpI x y ≤ 1 := by
  unfold cmpI; split
  · omega
  · split <;> omega
theorem cmpP_bd (a n b m : Int) : -1 ≤ cmpP a n b m ∧ cmpP a n b m ≤ 1 := by
  unfold cmpP; split <;> exact cmpI_bd _ _
theorem cmpP_lt (a n b m : Int) : cmpP a n b m < 0 ↔ a < b ∨ (a = b ∧ n < m) := by
  unfold cmpP cmpI
  by_cases h1 : a < b
  · simp [h1]
  · by_cases h2 : b < a
    · simp [h1, h2]; omega
    · have : a = b := by omega
      subst this
      by_cases h3 : n < m
      · simp [h3]
      · by_cases h4 : m < n <;> simp [h3, h4]
theorem cmpP_zero (a n b m : Int) : cmpP a n b m = 0 ↔ a = b ∧ n = m := by
  unfold cmpP cmpI
  by_cases h1 : a < b
  · simp [h1]; omega
  · by_cases h2 : b < a
    · simp [h1, h2]; omega
    · have : a = b := by omega
      subst this
      by_cases h3 : n < m
      · simp [h3]; omega
      · by_cases h4 : m < n
        · simp [h3, h4]; omega
        · simp [h3, h4]; omega
theorem cmpP_trans (a n b m c k : Int) (h1 : cmpP a n b m < 0) (h2 : cmpP b m c k < 0) : cmpP a n c k < 0 := by
  rw [cmpP_lt] at *; omega
theorem mayP_iff (a n : Int) : mayP a n = true ↔ 0 ≤ n ∧ n ≤ 32 ∧ a % blk n = 0 := by unfold mayP; simp
theorem hasP_iff (a n x : Int) : hasP a n x = true ↔ mayP a n = true ∧ firstP x n = a := by unfold hasP; simp
end Go.Proofs.YtfbangojgjcbcaaGreatDoor.Pl
namespace Go.Proofs.YtfbangojgjcbcaaGreatDoor.Pl
/-- The longest common front. -/
def lcp : List Bool → List Bool → List Bool
  | a :: l, b :: m => if a = b then a :: lcp l m else []
  | _, _ => []
theorem lcp_left : ∀ l m, lcp l m <+: l
  | [], m => by simp [lcp]
  | a :: l, [] => by simp [lcp]
  | a :: l, b :: m => by
    unfold lcp; split
    · exact List.cons_prefix_cons.2 ⟨rfl, lcp_left l m⟩
    · exact List.nil_prefix
theorem lcp_comm : ∀ l m, lcp l m = lcp m l
  | [], [] => rfl
  | [], b :: m => rfl
  | a :: l, [] => rfl
  | a :: l, b :: m => by
    unfold lcp
    by_cases h : a = b
    · subst h; simp [lcp_comm l m]
    · rw [if_neg h, if_neg (fun e => h e.symm)]
theorem lcp_right (l m : List Bool) : lcp l m <+: m := by rw [lcp_comm]; exact lcp_left m l
theorem lcp_eq_left_iff : ∀ l m, lcp l m = l ↔ l <+: m
  | [], m => by simp [lcp]
  | a :: l, [] => by simp [lcp]
  | a :: l, b :: m => by
    unfold lcp
    by_cases h : a = b
    · subst h; simp [lcp_eq_left_iff l m]
    · simp [h]
theorem lcp_eq_right_iff (l m : List Bool) : lcp l m = m ↔ m <+: l := by rw [lcp_comm]; exact lcp_eq_left_iff m l
/-- Where neither is ahead of the other they part behind the common front. -/
theorem lcp_parts : ∀ l m, ¬ l <+: m → ¬ m <+: l → ∃ a, lcp l m ++ [a] <+: l ∧ lcp l m ++ [!a] <+: m
  | [], m, h, _ => absurd List.nil_prefix h
  | a :: l, [], _, h => absurd List.nil_prefix h
  | a :: l, b :: m, h1, h2 => by
    unfold lcp
    by_cases h : a = b
    · subst h
      obtain ⟨x, h3, h4⟩ := lcp_parts l m (fun k => h1 (List.cons_prefix_cons.2 ⟨rfl, k⟩)) (fun k => h2 (List.cons_prefix_cons.2 ⟨rfl, k⟩))
      refine ⟨x, ?_, ?_⟩ <;> simp [*]
    · refine ⟨a, ?_, ?_⟩
      · simp [h]
      · simp only [if_neg h, List.nil_append]
        have : b = !a := by cases a <;> cases b <;> simp_all
        rw [this]; simp
theorem next_prefix {k p : List Bool} (h : k <+: p) (hne : ¬ k = p) : ∃ b, p[k.length]? = some b ∧ k ++ [b] <+: p := by
  obtain ⟨t, rfl⟩ := h
  cases t with
  | nil => simp at hne
  | cons b t => exact ⟨b, by simp, ⟨t, by simp⟩⟩
/-- A tree of prefixes: each node's block, its bits, whether it is one, what lies below. -/
inductive Tree where
  | nil
  | node (b : Nat) (k : List Bool) (has : Bool) (l r : Tree)
def Tree.all : Tree → List (List Bool)
  | .nil => []
  | .node _ k _ l r => k :: (l.all ++ r.all)
def Tree.keys : Tree → List (List Bool)
  | .nil => []
  | .node _ k has l r => (if has then [k] else []) ++ (l.keys ++ r.keys)
def Tree.blocks : Tree → List Nat
  | .nil => []
  | .node b _ _ l r => b :: (l.blocks ++ r.blocks)
def Tree.Inv : Tree → Prop
  | .nil => True
  | .node _ k _ l r => k.length ≤ 32 ∧ (∀ q ∈ l.all, k ++ [false] <+: q) ∧ (∀ q ∈ r.all, k ++ [true] <+: q) ∧ l.Inv ∧ r.Inv
theorem Tree.keys_all : ∀ {t : Tree} {q}, q ∈ t.keys → q ∈ t.all
  | .nil, q, h => by simp [keys] at h
  | .node b k has l r, q, h => by
    simp only [keys, List.mem_append] at h
    simp only [all, List.mem_cons, List.mem_append]
    rcases h with h | h | h
    · cases has <;> simp at h; exact .inl h
    · exact .inr (.inl (keys_all h))
    · exact .inr (.inr (keys_all h))
/-- A prefix put in: b1 the new node's block, b2 a fork's. -/
def Tree.ins (b1 b2 : Nat) (p : List Bool) : Tree → Tree
  | .nil => .node b1 p true .nil .nil
  | .node b k has l r =>
    if k = p then .node b k true l r
    else if k <+: p then (if p[k.length]? = some true then .node b k has l (ins b1 b2 p r) else .node b k has (ins b1 b2 p l) r)
    else if p <+: k then (if k[p.length]? = some true then .node b1 p true .nil (.node b k has l r) else .node b1 p true (.node b k has l r) .nil)
    else (if p[(lcp k p).length]? = some true then .node b2 (lcp k p) false (.node b k has l r) (.node b1 p true .nil .nil) else .node b2 (lcp k p) false (.node b1 p true .nil .nil) (.node b k has l r))
theorem Tree.ins_all {b1 b2 : Nat} {p x : List Bool} (hx : x <+: p) : ∀ {t : Tree}, (∀ q ∈ t.all, x <+: q) → ∀ q ∈ (t.ins b1 b2 p).all, x <+: q
  | .nil, _, q, hq => by simp [ins, all] at hq; subst hq; exact hx
  | .node b k has l r, h, q, hq => by
    have hk := h k (by simp [all])
    have hl : ∀ q ∈ l.all, x <+: q := fun q hq => h q (by simp [all, hq])
    have hr : ∀ q ∈ r.all, x <+: q := fun q hq => h q (by simp [all, hq])
    have hlc : ¬ k <+: p → ¬ p <+: k → x <+: lcp k p := fun _ _ => by
      obtain ⟨s, rfl⟩ := hk
      obtain ⟨u, rfl⟩ := hx
      have : ∀ (x s u : List Bool), lcp (x ++ s) (x ++ u) = x ++ lcp s u := by
        intro x s u
        induction x with
        | nil => rfl
        | cons a x ih => simp [lcp, ih]
      rw [this]; exact List.prefix_append _ _
    unfold ins at hq
    split at hq
    · simp only [all, List.mem_cons, List.mem_append] at hq
      rcases hq with rfl | hq | hq
      · exact hk
      · exact hl q hq
      · exact hr q hq
    · split at hq
      · split at hq <;> simp only [all, List.mem_cons, List.mem_append] at hq
        · rcases hq with rfl | hq | hq
          · exact hk
          · exact hl q hq
          · exact ins_all hx hr q hq
        · rcases hq with rfl | hq | hq
          · exact hk
          · exact ins_all hx hl q hq
          · exact hr q hq
      · split at hq
        · split at hq <;> simp only [all, List.mem_cons, List.mem_append, List.not_mem_nil, false_or, or_false] at hq
          · rcases hq with rfl | rfl | hq | hq
            · exact hx
            · exact hk
            · exact hl q hq
            · exact hr q hq
          · rcases hq with rfl | rfl | hq | hq
            · exact hx
            · exact hk
            · exact hl q hq
            · exact hr q hq
        · rename_i h2 h3
          split at hq <;> simp only [all, List.mem_cons, List.mem_append, List.not_mem_nil, or_false] at hq
          · rcases hq with rfl | (rfl | hq | hq) | rfl
            · exact hlc h2 h3
            · exact hk
            · exact hl q hq
            · exact hr q hq
            · exact hx
          · rcases hq with rfl | rfl | rfl | hq | hq
            · exact hlc h2 h3
            · exact hx
            · exact hk
            · exact hl q hq
            · exact hr q hq
theorem at_prefix {k p : List Bool} {b : Bool} (h : k <+: p) (hb : p[k.length]? = some b) : k ++ [b] <+: p := by
  obtain ⟨t, rfl⟩ := h
  cases t with
  | nil => simp at hb
  | cons c t => simp at hb; subst hb; exact ⟨t, by simp⟩
theorem prefix_at {x p : List Bool} {b : Bool} (h : x ++ [b] <+: p) : p[x.length]? = some b := by
  obtain ⟨s, rfl⟩ := h; simp
theorem not_true_false {o : Option Bool} {b : Bool} (h : o = some b) (hn : ¬ o = some true) : o = some false := by
  subst h; cases b <;> simp_all
theorem Tree.ins_inv {b1 b2 : Nat} {p : List Bool} (hp : p.length ≤ 32) : ∀ {t : Tree}, t.Inv → (t.ins b1 b2 p).Inv
  | .nil, _ => by simp [ins, Inv, all, hp]
  | .node b k has l r, h => by
    obtain ⟨hk, h1, h2, h3, h4⟩ := h
    unfold ins
    split
    · exact ⟨hk, h1, h2, h3, h4⟩
    · rename_i hne
      split
      · rename_i hkp
        obtain ⟨c, hc, _⟩ := next_prefix hkp hne
        split
        · rename_i ht
          exact ⟨hk, h1, ins_all (at_prefix hkp ht) h2, h3, ins_inv hp h4⟩
        · rename_i ht
          exact ⟨hk, ins_all (at_prefix hkp (not_true_false hc ht)) h1, h2, ins_inv hp h3, h4⟩
      · split
        · rename_i hkp hpk
          obtain ⟨c, hc, _⟩ := next_prefix hpk (fun e => hne e.symm)
          have hall : ∀ {x : List Bool}, x <+: k → ∀ q ∈ (Tree.node b k has l r).all, x <+: q := fun hx q hq => by
            simp only [all, List.mem_cons, List.mem_append] at hq
            rcases hq with rfl | hq | hq
            · exact hx
            · exact hx.trans ((List.prefix_append _ _).trans (h1 q hq))
            · exact hx.trans ((List.prefix_append _ _).trans (h2 q hq))
          split
          · rename_i ht
            exact ⟨hp, by simp [all], hall (at_prefix hpk ht), trivial, hk, h1, h2, h3, h4⟩
          · rename_i ht
            exact ⟨hp, hall (at_prefix hpk (not_true_false hc ht)), by simp [all], ⟨hk, h1, h2, h3, h4⟩, trivial⟩
        · rename_i hkp hpk
          obtain ⟨c, e1, e2⟩ := lcp_parts k p hkp hpk
          have hlen : (lcp k p).length ≤ 32 := by have := (lcp_left k p).length_le; omega
          have hall : ∀ {x : List Bool}, x <+: k → ∀ q ∈ (Tree.node b k has l r).all, x <+: q := fun hx q hq => by
            simp only [all, List.mem_cons, List.mem_append] at hq
            rcases hq with rfl | hq | hq
            · exact hx
            · exact hx.trans ((List.prefix_append _ _).trans (h1 q hq))
            · exact hx.trans ((List.prefix_append _ _).trans (h2 q hq))
          have hpc : p[(lcp k p).length]? = some (!c) := prefix_at e2
          split
          · rename_i ht
            have hc0 : c = false := by rw [ht] at hpc; cases c <;> simp_all
            subst hc0
            refine ⟨hlen, hall e1, fun q hq => ?_, ⟨hk, h1, h2, h3, h4⟩, hp, by simp [all], by simp [all], trivial, trivial⟩
            simp [all] at hq; subst hq; exact e2
          · rename_i ht
            have hc0 : c = true := by rw [hpc] at ht; cases c <;> simp_all
            subst hc0
            refine ⟨hlen, fun q hq => ?_, hall e1, ⟨hp, by simp [all], by simp [all], trivial, trivial⟩, hk, h1, h2, h3, h4⟩
            simp [all] at hq; subst hq; exact e2
/-- The prefixes that were, and the one put in. -/
theorem Tree.ins_keys {b1 b2 : Nat} {p : List Bool} : ∀ {t : Tree} {q}, q ∈ (t.ins b1 b2 p).keys ↔ q = p ∨ q ∈ t.keys
  | .nil, q => by simp [ins, keys]
  | .node b k has l r, q => by
    unfold ins
    split
    · rename_i h; subst h; cases has <;> simp [keys]
    · split
      · split <;> simp only [keys, List.mem_append, ins_keys (t := l), ins_keys (t := r)]
        · constructor
          · rintro (h | h | h | h)
            · exact .inr (.inl h)
            · exact .inr (.inr (.inl h))
            · exact .inl h
            · exact .inr (.inr (.inr h))
          · rintro (h | h | h | h)
            · exact .inr (.inr (.inl h))
            · exact .inl h
            · exact .inr (.inl h)
            · exact .inr (.inr (.inr h))
        · constructor
          · rintro (h | (h | h) | h)
            · exact .inr (.inl h)
            · exact .inl h
            · exact .inr (.inr (.inl h))
            · exact .inr (.inr (.inr h))
          · rintro (h | h | h | h)
            · exact .inr (.inl (.inl h))
            · exact .inl h
            · exact .inr (.inl (.inr h))
            · exact .inr (.inr h)
      · split
        · split <;> simp [keys]
        · split
          · simp only [keys, List.mem_append, Bool.false_eq_true, if_false, if_true, List.not_mem_nil, false_or, or_false, List.mem_singleton]
            exact or_comm
          · simp only [keys, List.mem_append, Bool.false_eq_true, if_false, if_true, List.not_mem_nil, false_or, or_false, List.mem_singleton]
/-- Is a prefix one of the tree's, by going down? -/
def Tree.find (p : List Bool) : Tree → Bool
  | .nil => false
  | .node _ k has l r => if k = p then has else if k <+: p then (if p[k.length]? = some true then r.find p else l.find p) else false
theorem Tree.find_iff {p : List Bool} : ∀ {t : Tree}, t.Inv → (t.find p = true ↔ p ∈ t.keys)
  | .nil, _ => by simp [find, keys]
  | .node b k has l r, h => by
    obtain ⟨hk, h1, h2, h3, h4⟩ := h
    have nl : ∀ {c : Bool} {t : Tree}, (∀ q ∈ t.all, k ++ [c] <+: q) → p ∈ t.keys → k ++ [c] <+: p := fun ha hp => ha p (keys_all hp)
    have hself : ∀ c : Bool, ¬ p ++ [c] <+: p := fun c hc => by have := hc.length_le; simp at this; omega
    unfold find
    simp only [keys, List.mem_append]
    split
    · rename_i e
      subst e
      constructor
      · intro hh; subst hh; exact .inl (by simp)
      · rintro (hh | hh | hh)
        · cases has <;> simp_all
        · exact absurd (nl h1 hh) (hself _)
        · exact absurd (nl h2 hh) (hself _)
    · rename_i hne
      have hnk : ¬ p ∈ (if has = true then [k] else []) := by
        cases has <;> simp; exact fun e => hne e.symm
      split
      · rename_i hkp
        have hpref : ∀ c : Bool, k ++ [c] <+: p → p[k.length]? = some c := fun c ⟨s, hs⟩ => by rw [← hs]; simp
        split
        · rename_i ht
          rw [find_iff h4]
          constructor
          · intro hh; exact .inr (.inr hh)
          · rintro (hh | hh | hh)
            · exact absurd hh hnk
            · have := hpref _ (nl h1 hh); rw [ht] at this; cases this
            · exact hh
        · rename_i ht
          rw [find_iff h3]
          constructor
          · intro hh; exact .inr (.inl hh)
          · rintro (hh | hh | hh)
            · exact absurd hh hnk
            · exact hh
            · exact absurd (hpref _ (nl h2 hh)) ht
      · rename_i hkp
        constructor
        · intro hh; cases hh
        · rintro (hh | hh | hh)
          · exact absurd hh hnk
          · exact absurd ((List.prefix_append _ _).trans (nl h1 hh)) hkp
          · exact absurd ((List.prefix_append _ _).trans (nl h2 hh)) hkp
/-- How many have an address, on the way down. -/
def Tree.cover (x : List Bool) : Tree → Nat
  | .nil => 0
  | .node _ k has l r => if k <+: x then (if has then 1 else 0) + (if k.length = 32 then 0 else if x[k.length]? = some true then r.cover x else l.cover x) else 0
theorem Tree.cover_iff {x : List Bool} (hx : x.length = 32) : ∀ {t : Tree}, t.Inv → (0 < t.cover x ↔ ∃ q ∈ t.keys, q <+: x)
  | .nil, _ => by simp [cover, keys]
  | .node b k has l r, h => by
    obtain ⟨hk, h1, h2, h3, h4⟩ := h
    unfold cover
    simp only [keys, List.mem_append]
    split
    · rename_i hkx
      cases has with
      | true =>
        simp only [if_true]
        exact ⟨fun _ => ⟨k, .inl (by simp), hkx⟩, fun _ => by omega⟩
      | false =>
        simp only [Bool.false_eq_true, if_false, List.not_mem_nil, false_or, Nat.zero_add]
        split
        · rename_i h32
          refine ⟨fun hh => by omega, fun ⟨q, hq, hqx⟩ => ?_⟩
          exfalso
          have hle := hqx.length_le
          rcases hq with hq | hq
          · have := (h1 q (keys_all hq)).length_le; simp at this; omega
          · have := (h2 q (keys_all hq)).length_le; simp at this; omega
        · have hpref : ∀ c : Bool, k ++ [c] <+: x → x[k.length]? = some c := fun c ⟨s, hs⟩ => by rw [← hs]; simp
          split
          · rename_i ht
            rw [cover_iff hx h4]
            refine ⟨fun ⟨q, hq, hqx⟩ => ⟨q, .inr hq, hqx⟩, fun ⟨q, hq, hqx⟩ => ?_⟩
            rcases hq with hq | hq
            · have := hpref _ ((h1 q (keys_all hq)).trans hqx); rw [ht] at this; cases this
            · exact ⟨q, hq, hqx⟩
          · rename_i ht
            rw [cover_iff hx h3]
            refine ⟨fun ⟨q, hq, hqx⟩ => ⟨q, .inl hq, hqx⟩, fun ⟨q, hq, hqx⟩ => ?_⟩
            rcases hq with hq | hq
            · exact ⟨q, hq, hqx⟩
            · exact absurd (hpref _ ((h2 q (keys_all hq)).trans hqx)) ht
    · rename_i hkx
      refine ⟨fun hh => by omega, fun ⟨q, hq, hqx⟩ => ?_⟩
      exfalso
      rcases hq with hq | hq | hq
      · cases has <;> simp at hq; subst hq; exact hkx hqx
      · exact hkx ((List.prefix_append _ _).trans ((h1 q (keys_all hq)).trans hqx))
      · exact hkx ((List.prefix_append _ _).trans ((h2 q (keys_all hq)).trans hqx))
end Go.Proofs.YtfbangojgjcbcaaGreatDoor.Pl
namespace Go.Proofs.YtfbangojgjcbcaaGreatDoor.Pl
theorem Tree.ins_length {b1 b2 : Nat} {p : List Bool} : ∀ {t : Tree}, (t.ins b1 b2 p).keys.length = t.keys.length + if t.find p = true then 0 else 1
  | .nil => by simp [ins, keys, find]
  | .node b k has l r => by
    unfold ins find
    split
    · cases has <;> simp [keys] <;> try omega
    · split
      · split
        · simp only [keys, List.length_append, ins_length (t := r)]; omega
        · simp only [keys, List.length_append, ins_length (t := l)]; omega
      · simp only [Bool.false_eq_true, if_false]
        split
        · split <;> simp only [keys, List.length_append, if_true, List.length_cons, List.length_nil] <;> omega
        · split <;> simp only [keys, List.length_append, if_true, Bool.false_eq_true, if_false, List.length_cons, List.length_nil] <;> omega
/-- The first n bits of an address. -/
def bitsP (a n : Nat) : List Bool := (List.range n).map fun i => a.testBit (31 - i)
theorem bitsP_length (a n : Nat) : (bitsP a n).length = n := by simp [bitsP]
theorem bitsP_at (a n i : Nat) (h : i < n) : (bitsP a n)[i]? = some (a.testBit (31 - i)) := by
  simp [bitsP, h]
theorem bitsP_take (a n k : Nat) (h : k ≤ n) : (bitsP a n).take k = bitsP a k := by
  unfold bitsP
  rw [← List.map_take, List.take_range, Nat.min_eq_left h]
theorem blk_nat (n : Nat) : blk (n : Int) = ((2 ^ (32 - n) : Nat) : Int) := by unfold blk; rfl
theorem may_mod {a n : Nat} (h : mayP a n = true) : n ≤ 32 ∧ a % 2 ^ (32 - n) = 0 := by
  obtain ⟨_, h1, h2⟩ := (mayP_iff _ _).1 h
  rw [blk_nat, ← Int.natCast_emod] at h2
  exact ⟨by omega, by omega⟩
theorem may_of_mod {a n : Nat} (h1 : n ≤ 32) (h2 : a % 2 ^ (32 - n) = 0) : mayP a n = true := by
  refine (mayP_iff _ _).2 ⟨by omega, by omega, ?_⟩
  rw [blk_nat, ← Int.natCast_emod, h2]; rfl
theorem low_zero {a n : Nat} (h : mayP a n = true) {j : Nat} (hj : j < 32 - n) : a.testBit j = false := by
  obtain ⟨_, h2⟩ := may_mod h
  have e : a = 2 ^ (32 - n) * (a / 2 ^ (32 - n)) := by
    have := Nat.div_add_mod a (2 ^ (32 - n)); omega
  rw [e, Nat.testBit_two_pow_mul]; simp; omega
theorem high_zero {a j : Nat} (h : a < 4294967296) (hj : 32 ≤ j) : a.testBit j = false :=
  Nat.testBit_lt_two_pow (Nat.lt_of_lt_of_le h (Nat.pow_le_pow_right (show 0 < 2 by decide) (show 32 ≤ j from hj)))
theorem bitsP_inj {a n b m : Nat} (ha : a < 4294967296) (hb : b < 4294967296) (h1 : mayP a n = true) (h2 : mayP b m = true) (h : bitsP a n = bitsP b m) : a = b ∧ n = m := by
  have hn : n = m := by rw [← bitsP_length a n, h, bitsP_length]
  subst hn
  refine ⟨Nat.eq_of_testBit_eq fun j => ?_, rfl⟩
  by_cases hj : 32 ≤ j
  · rw [high_zero ha hj, high_zero hb hj]
  · by_cases hi : 31 - j < n
    · have := bitsP_at a n (31 - j) hi
      rw [h, bitsP_at b n (31 - j) hi] at this
      injection this with this
      rw [show 31 - (31 - j) = j by omega] at this; exact this.symm
    · rw [low_zero h1 (by omega), low_zero h2 (by omega)]
theorem first_nat (a k : Nat) : firstP a k = ((a / 2 ^ (32 - k) * 2 ^ (32 - k) : Nat) : Int) := by
  unfold firstP; rw [blk_nat]; simp
theorem first_may (a k : Nat) (hk : k ≤ 32) : mayP ((a / 2 ^ (32 - k) * 2 ^ (32 - k) : Nat) : Int) k = true :=
  may_of_mod hk (Nat.mul_mod_left _ _)
theorem first_bits (a k : Nat) (hk : k ≤ 32) : bitsP (a / 2 ^ (32 - k) * 2 ^ (32 - k)) k = bitsP a k := by
  unfold bitsP
  apply List.map_congr_left
  intro i hi
  rw [List.mem_range] at hi
  rw [Nat.mul_comm, Nat.testBit_two_pow_mul, Nat.testBit_div_two_pow]
  simp only [show 32 - k ≤ 31 - i by omega, decide_true, Bool.true_and]
  congr 1; omega
theorem first_lt (a k : Nat) (ha : a < 4294967296) : a / 2 ^ (32 - k) * 2 ^ (32 - k) < 4294967296 := Nat.lt_of_le_of_lt (Nat.div_mul_le_self _ _) ha
theorem lcp_take : ∀ (k : Nat) (l m : List Bool), k ≤ l.length → k ≤ m.length → l.take k = m.take k → (k = l.length ∨ k = m.length ∨ l[k]? ≠ m[k]?) → lcp l m = l.take k
  | 0, [], m, _, _, _, _ => by simp [lcp]
  | 0, a :: l, [], _, _, _, _ => by simp [lcp]
  | 0, a :: l, b :: m, _, _, _, h => by
    unfold lcp
    rw [if_neg]; rfl
    rcases h with h | h | h
    · simp at h
    · simp at h
    · simpa using h
  | k + 1, [], m, h, _, _, _ => by simp at h
  | k + 1, a :: l, [], _, h, _, _ => by simp at h
  | k + 1, a :: l, b :: m, h1, h2, h3, h4 => by
    simp only [List.take_succ_cons, List.cons.injEq] at h3
    obtain ⟨rfl, h3⟩ := h3
    simp only [List.length_cons, List.getElem?_cons_succ] at h1 h2 h4
    unfold lcp
    rw [if_pos rfl, lcp_take k l m (by omega) (by omega) h3 (by rcases h4 with h | h | h; exact .inl (by omega); exact .inr (.inl (by omega)); exact .inr (.inr h))]
    rfl
/-- How many bits a number has. -/
def bitlen (x : Nat) : Nat := if x = 0 then 0 else Nat.log2 x + 1
theorem bitlen_lt (x : Nat) : x < 2 ^ bitlen x := by
  unfold bitlen; split
  · omega
  · exact Nat.lt_log2_self
theorem bitlen_le {x : Nat} (h : x < 4294967296) : bitlen x ≤ 32 := by
  unfold bitlen; split
  · omega
  · rename_i hx
    have := (Nat.log2_lt hx).2 (show x < 2 ^ 32 from h)
    omega
/-- The length of the common front of two prefixes. -/
def comLen (a n b m : Nat) : Nat := min (min n m) (32 - bitlen (a ^^^ b))
theorem com_bits {a n b m : Nat} (ha : a < 4294967296) (hb : b < 4294967296) (_hn : n ≤ 32) (_hm : m ≤ 32) : bitsP a (comLen a n b m) = lcp (bitsP a n) (bitsP b m) := by
  have hx : a ^^^ b < 4294967296 := Nat.xor_lt_two_pow (n := 32) ha hb
  have hl := bitlen_le hx
  have hkn : comLen a n b m ≤ n := by unfold comLen; omega
  have hkm : comLen a n b m ≤ m := by unfold comLen; omega
  have same : ∀ i, i < 32 - bitlen (a ^^^ b) → a.testBit (31 - i) = b.testBit (31 - i) := fun i hi => by
    have h1 : (a ^^^ b).testBit (31 - i) = false := Nat.testBit_lt_two_pow (Nat.lt_of_lt_of_le (bitlen_lt _) (Nat.pow_le_pow_right (by decide) (by omega)))
    rw [Nat.testBit_xor] at h1
    simpa using h1
  rw [lcp_take (comLen a n b m) _ _ (by rw [bitsP_length]; exact hkn) (by rw [bitsP_length]; exact hkm) ?_ ?_, bitsP_take _ _ _ hkn]
  · rw [bitsP_take _ _ _ hkn, bitsP_take _ _ _ hkm]
    unfold bitsP
    apply List.map_congr_left
    intro i hi
    rw [List.mem_range] at hi
    exact same i (by unfold comLen at hi; omega)
  · rw [bitsP_length, bitsP_length]
    by_cases h1 : comLen a n b m = n
    · exact .inl h1
    · by_cases h2 : comLen a n b m = m
      · exact .inr (.inl h2)
      · right; right
        rw [bitsP_at _ _ _ (by omega), bitsP_at _ _ _ (by omega)]
        have hk : comLen a n b m = 32 - bitlen (a ^^^ b) := by unfold comLen at *; omega
        have h0 : a ^^^ b ≠ 0 := fun e => by rw [e] at hk; simp [bitlen] at hk; omega
        have hpos : 0 < bitlen (a ^^^ b) := by unfold bitlen; rw [if_neg h0]; omega
        have htop : (a ^^^ b).testBit (bitlen (a ^^^ b) - 1) = true := by
          unfold bitlen; rw [if_neg h0, Nat.add_sub_cancel]
          rw [Nat.testBit_eq_decide_div_mod_eq]
          have h1 := Nat.log2_self_le h0
          have h2 : a ^^^ b < 2 ^ (Nat.log2 (a ^^^ b) + 1) := Nat.lt_log2_self
          have h3 : (a ^^^ b) / 2 ^ Nat.log2 (a ^^^ b) = 1 := by
            apply Nat.div_eq_of_lt_le
            · omega
            · rw [Nat.pow_succ] at h2; omega
          rw [h3]; rfl
        rw [Nat.testBit_xor] at htop
        rw [hk, show 31 - (32 - bitlen (a ^^^ b)) = bitlen (a ^^^ b) - 1 by omega]
        intro e
        injection e with e
        rw [e] at htop; simp at htop
theorem has_bits {a n x : Nat} (ha : a < 4294967296) (hx : x < 4294967296) (h : mayP a n = true) : firstP x n = a ↔ bitsP a n <+: bitsP x 32 := by
  have hn := (may_mod h).1
  have e32 : (bitsP x 32).take n = bitsP x n := bitsP_take x 32 n hn
  constructor
  · intro e
    rw [first_nat] at e
    have e' : x / 2 ^ (32 - n) * 2 ^ (32 - n) = a := by omega
    rw [← e', first_bits x n hn, ← e32]
    exact List.take_prefix _ _
  · intro hp
    rw [List.prefix_iff_eq_take, bitsP_length, e32, ← first_bits x n hn] at hp
    have := (bitsP_inj ha (first_lt x n hx) h (first_may x n hn) hp).1
    rw [first_nat]; omega
end Go.Proofs.YtfbangojgjcbcaaGreatDoor.Pl
namespace Go.Proofs.YtfbangojgjcbcaaGreatDoor.Pl
/-- A number's bytes, so many, the highest first. -/
def putB (n k : Nat) : List UInt8 := (List.range k).map fun i => UInt8.ofNat (n / 2 ^ (8 * (k - 1 - i)))
theorem putB_length (n k : Nat) : (putB n k).length = k := by simp [putB]
theorem putB_get (n k j : Nat) (h : j < k) : (putB n k)[j]? = some (UInt8.ofNat (n / 2 ^ (8 * (k - 1 - j)))) := by
  simp [putB, h]
theorem putB_drop (n k j : Nat) (h : j < k) : (putB n k).drop j = UInt8.ofNat (n / 2 ^ (8 * (k - 1 - j))) :: (putB n k).drop (j + 1) := by
  have hl : j < (putB n k).length := by rw [putB_length]; exact h
  rw [List.drop_eq_getElem_cons hl]
  congr 1
  have := putB_get n k j h
  rw [List.getElem?_eq_getElem hl] at this
  exact Option.some.inj this
end Go.Proofs.YtfbangojgjcbcaaGreatDoor.Pl
namespace Go.Proofs.YtfbangojgjcbcaaGreatDoor.Pl
open Go.Lib (decDigits itoa join)
/-- An address's bytes. -/
def oct (a i : Nat) : Nat := a / 2 ^ (8 * (3 - i)) % 256
def octs (a : Nat) : List (List UInt8) := (List.range 4).map fun i => decDigits (oct a i)
def addrText (a : Nat) : List UInt8 := join (octs a) [46]
def prefixText (a n : Nat) : List UInt8 := addrText a ++ 47 :: decDigits n
theorem itoa_nat (n : Nat) : itoa (n : Int) = decDigits n := by simp [itoa]
theorem oct_lt (a i : Nat) : oct a i < 256 := Nat.mod_lt _ (by decide)
theorem octs_length (a : Nat) : (octs a).length = 4 := by simp [octs]
theorem octs_take (a j : Nat) (h : j < 4) : (octs a).take (j + 1) = (octs a).take j ++ [decDigits (oct a j)] := by
  rw [List.take_add_one]; simp [octs, h]
theorem dec_len (n : Nat) (h : n < 1000) : (decDigits n).length ≤ 3 := by
  rw [Lib.decDigits_length]
  by_cases h1 : n < 10
  · rw [Lib.nDigits_small h1]; omega
  · rw [Lib.nDigits_big h1]
    by_cases h2 : n / 10 < 10
    · rw [Lib.nDigits_small h2]; omega
    · rw [Lib.nDigits_big h2, Lib.nDigits_small (by omega)]; omega
theorem octs_eq (a : Nat) : octs a = [decDigits (oct a 0), decDigits (oct a 1), decDigits (oct a 2), decDigits (oct a 3)] := by
  simp [octs, List.range_succ]
theorem addrText_eq (a : Nat) : addrText a = decDigits (oct a 0) ++ (46 :: (decDigits (oct a 1) ++ (46 :: (decDigits (oct a 2) ++ (46 :: decDigits (oct a 3)))))) := by
  rw [addrText, octs_eq]; simp [join, List.intercalate]
theorem addrText_len (a : Nat) : (addrText a).length ≤ 15 := by
  have h0 := dec_len _ (Nat.lt_trans (oct_lt a 0) (by decide))
  have h1 := dec_len _ (Nat.lt_trans (oct_lt a 1) (by decide))
  have h2 := dec_len _ (Nat.lt_trans (oct_lt a 2) (by decide))
  have h3 := dec_len _ (Nat.lt_trans (oct_lt a 3) (by decide))
  rw [addrText_eq]; simp; omega
end Go.Proofs.YtfbangojgjcbcaaGreatDoor.Pl
namespace Go.Proofs.YtfbangojgjcbcaaGreatDoor.Pl
open Go.Lib (decDigits itoa join)
def consHd (x : UInt8) : List (List UInt8) → List (List UInt8)
  | [] => [[x]]
  | h :: t => (x :: h) :: t
/-- A text's parts, between bytes. -/
def splitOn (c : UInt8) : List UInt8 → List (List UInt8)
  | [] => [[]]
  | x :: r => if x = c then [] :: splitOn c r else consHd x (splitOn c r)
theorem splitOn_ne (c : UInt8) (l : List UInt8) : splitOn c l ≠ [] := by
  cases l with
  | nil => simp [splitOn]
  | cons x r =>
    simp only [splitOn]
    split
    · simp
    · cases splitOn c r <;> simp [consHd]
theorem index_cons (c x : UInt8) (r : List UInt8) : Lib.index (x :: r) [c] = if x = c then 0 else if Lib.index r [c] == -1 then -1 else Lib.index r [c] + 1 := by
  rw [Lib.index]
  by_cases h : x = c
  · simp [h]
  · have : ¬ c = x := fun e => h e.symm
    simp [h, this]
theorem split_eq (c : UInt8) : ∀ s : List UInt8, Lib.splitK [c] 0 (Lib.count s [c]) s = splitOn c s := by
  intro s
  induction s with
  | nil => rw [Lib.count_one]; rfl
  | cons x r ih =>
    by_cases h : x = c
    · subst h
      rw [Lib.count_cons_eq, Nat.add_comm, Lib.splitK, index_cons]
      simp [splitOn, ih]
    · rw [Lib.count_cons_ne x c r h]
      simp only [splitOn, if_neg h]
      rw [← ih]
      cases hk : Lib.count r [c] with
      | zero => rfl
      | succ k =>
        have hge := Lib.index_ge r [c]
        rw [Lib.splitK, Lib.splitK, index_cons, if_neg h]
        by_cases hi : Lib.index r [c] = -1
        · simp [hi, consHd]
        · have hi' : (Lib.index r [c] == -1) = false := by simpa using hi
          have hn : (Lib.index r [c] + 1 == -1) = false := by simp; omega
          rw [hi']
          simp only [Bool.false_eq_true, if_false, hn, consHd, Nat.add_zero, List.length_singleton]
          have e1 : (Lib.index r [c] + 1).toNat = (Lib.index r [c]).toNat + 1 := by omega
          rw [e1, List.take_succ_cons]
          simp [Nat.add_assoc]
def isDig (c : UInt8) : Bool := decide (48 ≤ c.toNat) && decide (c.toNat ≤ 57)
def numVal (l : List UInt8) : Nat := l.foldl (fun a c => a * 10 + (c.toNat - 48)) 0
/-- Digits, without noughts ahead, at most nine. -/
def isNum (l : List UInt8) : Bool := decide (1 ≤ l.length) && decide (l.length ≤ 9) && !(decide (1 < l.length) && decide (l.head? = some 48)) && l.all isDig
theorem numVal_snoc (l : List UInt8) (c : UInt8) : numVal (l ++ [c]) = numVal l * 10 + (c.toNat - 48) := by simp [numVal, List.foldl_append]
theorem dec_big (n : Nat) (h : 10 ≤ n) : decDigits n = decDigits (n / 10) ++ [UInt8.ofNat (48 + n % 10)] := by rw [decDigits, dif_neg (by omega)]
theorem dec_dig (n : Nat) : (decDigits n).all isDig = true ∧ numVal (decDigits n) = n ∧ 1 ≤ (decDigits n).length ∧ (1 ≤ n → (decDigits n).head? ≠ some 48) ∧ (n = 0 → decDigits n = [48]) := by
  induction n using Nat.strongRecOn with
  | _ n ih =>
    by_cases h : n < 10
    · rw [Lib.decDigits_one h]
      have e : (UInt8.ofNat (48 + n)).toNat = 48 + n := by rw [UInt8.toNat_ofNat']; omega
      refine ⟨by simp [isDig]; omega, by simp [numVal]; omega, by simp, ?_, ?_⟩
      · intro h1 h2
        have h3 : UInt8.ofNat (48 + n) = 48 := by simpa using h2
        have : (UInt8.ofNat (48 + n)).toNat = 48 := by rw [h3]; rfl
        omega
      · intro h0; subst h0; rfl
    · obtain ⟨a, b, c, d, _⟩ := ih (n / 10) (by omega)
      rw [dec_big n (by omega)]
      have e : (UInt8.ofNat (48 + n % 10)).toNat = 48 + n % 10 := by rw [UInt8.toNat_ofNat']; omega
      refine ⟨?_, ?_, by simp, ?_, by omega⟩
      · rw [List.all_append, a]; simp [isDig]; omega
      · rw [numVal_snoc, b, e]; omega
      · intro _
        rw [List.head?_append]
        cases hd : (decDigits (n / 10)).head? with
        | none => rw [List.head?_eq_none_iff] at hd; rw [hd] at c; simp at c
        | some x => rw [← hd]; simpa [hd] using d (by omega)
theorem dec_isNum (n : Nat) (h : n < 1000000000) : isNum (decDigits n) = true ∧ numVal (decDigits n) = n := by
  obtain ⟨a, b, c, d, e⟩ := dec_dig n
  refine ⟨?_, b⟩
  have hl : (decDigits n).length ≤ 9 := by
    rw [Lib.decDigits_length]
    rcases Nat.lt_or_ge (Lib.nDigits n) 10 with h9 | h9
    · omega
    · exfalso
      have key : ∀ k n, k + 1 ≤ Lib.nDigits n → 10 ^ k ≤ n ∨ k = 0 := by
        intro k
        induction k with
        | zero => intro n _; exact .inr rfl
        | succ k ih =>
          intro n hn
          left
          by_cases hs : n < 10
          · rw [Lib.nDigits_small hs] at hn; omega
          · rw [Lib.nDigits_big hs] at hn
            rcases ih (n / 10) (by omega) with h | h
            · rw [Nat.pow_succ]; omega
            · subst h; simp; omega
      rcases key 9 n h9 with h' | h'
      · have : (10 : Nat) ^ 9 = 1000000000 := by decide
        omega
      · omega
  unfold isNum
  simp only [a, Bool.and_true, Bool.and_eq_true, decide_eq_true_eq, Bool.not_eq_true', Bool.and_eq_false_iff, decide_eq_false_iff_not]
  refine ⟨⟨c, hl⟩, ?_⟩
  by_cases h0 : n = 0
  · left; rw [e h0]; simp
  · right; exact d (by omega)
theorem splitOn_len (c : UInt8) (l : List UInt8) : (splitOn c l).length ≤ l.length + 1 ∧ ∀ x ∈ splitOn c l, x.length ≤ l.length := by
  induction l with
  | nil => simp [splitOn]
  | cons y r ih =>
    obtain ⟨h1, h2⟩ := ih
    by_cases h : y = c
    · rw [splitOn, if_pos h]
      refine ⟨by simp; omega, fun x hx => ?_⟩
      rcases List.mem_cons.1 hx with rfl | hx
      · simp
      · have := h2 x hx; simp; omega
    · rw [splitOn, if_neg h]
      cases hs : splitOn c r with
      | nil => exact absurd hs (splitOn_ne _ _)
      | cons a t =>
        rw [hs] at h1 h2
        refine ⟨by simp only [consHd, List.length_cons] at h1 ⊢; omega, fun x hx => ?_⟩
        rcases List.mem_cons.1 hx with rfl | hx
        · have := h2 a (by simp); simp; omega
        · have := h2 x (by simp [hx]); simp; omega
/-- The part ahead of the first such byte, and the part behind it. -/
def cutA (c : UInt8) (l : List UInt8) : List UInt8 := (Lib.cut l [c]).1
def cutB (c : UInt8) (l : List UInt8) : List UInt8 := (Lib.cut l [c]).2.1
end Go.Proofs.YtfbangojgjcbcaaGreatDoor.Pl
namespace Go.Proofs.YtfbangojgjcbcaaGreatDoor.Pl
/-- What holds of the reference's loop over a text: 'done' parts, the next begins at f, no such byte from f to i. -/
def SpInv (c : UInt8) (l : List UInt8) (i f : Nat) (done : List (List UInt8)) : Prop :=
  (i ≤ l.length ∧ f ≤ i ∧ splitOn c l = done ++ splitOn c (l.drop f) ∧ c ∉ (l.drop f).take (i - f)) ∨ (i = l.length + 1 ∧ splitOn c l = done)
theorem SpInv.start (c : UInt8) (l : List UInt8) : SpInv c l 0 0 [] := .inl ⟨Nat.zero_le _, Nat.le_refl _, by simp, by simp⟩
theorem SpInv.out {c : UInt8} {l : List UInt8} {f : Nat} {done : List (List UInt8)} (h : SpInv c l (l.length + 1) f done) : splitOn c l = done := by
  rcases h with ⟨h, _⟩ | ⟨_, h⟩
  · omega
  · exact h
theorem SpInv.len {c : UInt8} {l : List UInt8} {i f : Nat} {done : List (List UInt8)} (h : SpInv c l i f done) : done.length ≤ l.length + 1 := by
  have h1 := (splitOn_len c l).1
  rcases h with ⟨_, _, he, _⟩ | ⟨_, he⟩
  · rw [he, List.length_append] at h1; omega
  · rw [he] at h1; exact h1
open Go.Lib (decDigits itoa join)
end Go.Proofs.YtfbangojgjcbcaaGreatDoor.Pl
namespace Go.Proofs.YtfbangojgjcbcaaGreatDoor.Pl
open Go.Lib (decDigits)
structure Cfg where
  node : Int := 0
  addr : Int := 0
  own : List (Int × Int) := []
  ports : List (Int × Int) := []
  hello : Int := 0
  dead : Int := 0
  again : Int := 0
  room : Int := 0
  queue : Int := 0
  tokens : Int := 0
  refill : Int := 0
/-- Do prefixes rise? -/
def rising : List (Int × Int) → Bool
  | p :: q :: l => decide (cmpP p.1 p.2 q.1 q.2 < 0) && rising (q :: l)
  | _ => true
def ownOk (l : List (Int × Int)) : Bool := decide (1 ≤ l.length) && decide (l.length ≤ 8) && l.all (fun p => mayP p.1 p.2) && rising l
def hasAny (l : List (Int × Int)) (a : Int) : Bool := l.any fun p => hasP p.1 p.2 a
def wNode : List UInt8 := [110, 111, 100, 101]
def wAddress : List UInt8 := [97, 100, 100, 114, 101, 115, 115]
def wOwn : List UInt8 := [111, 119, 110]
def wPort : List UInt8 := [112, 111, 114, 116]
def wHello : List UInt8 := [104, 101, 108, 108, 111]
def wDead : List UInt8 := [100, 101, 97, 100]
def wAgain : List UInt8 := [97, 103, 97, 105, 110]
def wRoom : List UInt8 := [114, 111, 111, 109]
def wQueue : List UInt8 := [113, 117, 101, 117, 101]
def wTokens : List UInt8 := [116, 111, 107, 101, 110, 115]
def wRefill : List UInt8 := [114, 101, 102, 105, 108, 108]
/-- How the two stand to each other. -/
def Goes (c : Cfg) (st at' t : Nat) : Prop :=
  (t = 0 ∧ at' < 3 ∧ st = at' ∧ c.own = [] ∧ c.ports = []) ∨ (3 ≤ at' ∧ c.own ≠ [] ∧ st = 3 + t ∧ t ≤ 7 ∧ (1 ≤ t → hasAny c.own c.addr = true))
theorem Goes.start : Goes {} 0 0 0 := .inl ⟨rfl, by omega, rfl, rfl, rfl⟩
theorem Goes.done {c : Cfg} {st at' t : Nat} (h : Goes c st at' t) : st = 10 ↔ t = 7 := by
  rcases h with ⟨rfl, h1, rfl, _⟩ | ⟨_, _, rfl, _⟩ <;> omega
end Go.Proofs.YtfbangojgjcbcaaGreatDoor.Pl
namespace Go.Proofs.YtfbangojgjcbcaaGreatDoor.Pl
open Go.Lib (decDigits itoa)
def inI (n lo hi : Int) : Bool := decide (lo ≤ n) && decide (n ≤ hi)
def portOk (p : Int × Int) : Bool := inI p.1 1 50 && inI p.2 68 1500
def mayC (c : Cfg) : Bool := ownOk c.own && decide (c.ports.length ≤ 8) && c.ports.all portOk && hasAny c.own c.addr && inI c.node 1 16 && inI c.hello 1 100 && inI c.dead (c.hello + 1) 100 && inI c.again 1 100 && inI c.room 0 64 && inI c.queue 1 64 && inI c.tokens 0 64 && inI c.refill 1 100
/-- Its addresses are some. -/
def Addrs4 (c : Cfg) : Prop := (0 ≤ c.addr ∧ c.addr < 4294967296) ∧ ∀ p ∈ c.own, 0 ≤ p.1 ∧ p.1 < 4294967296
def lnNum (w : List UInt8) (n : Int) : List UInt8 := w ++ 32 :: itoa n
def lnAddr (a : Int) : List UInt8 := wAddress ++ 32 :: addrText a.toNat
def lnOwn (p : Int × Int) : List UInt8 := wOwn ++ 32 :: prefixText p.1.toNat p.2.toNat
def lnPort (p : Int × Int) : List UInt8 := wPort ++ 32 :: (itoa p.1 ++ 32 :: itoa p.2)
def tails (c : Cfg) : List (List UInt8) := [lnNum wHello c.hello, lnNum wDead c.dead, lnNum wAgain c.again, lnNum wRoom c.room, lnNum wQueue c.queue, lnNum wTokens c.tokens, lnNum wRefill c.refill]
def heads (c : Cfg) : List (List UInt8) := [lnNum wNode c.node, lnAddr c.addr] ++ c.own.map lnOwn ++ c.ports.map lnPort
def linesP (c : Cfg) : List (List UInt8) := heads c ++ tails c
def textP (c : Cfg) : List UInt8 := (linesP c).flatMap (· ++ [10])
theorem inI_iff {n lo hi : Int} : inI n lo hi = true ↔ lo ≤ n ∧ n ≤ hi := by unfold inI; simp
end Go.Proofs.YtfbangojgjcbcaaGreatDoor.Pl
namespace Go.Proofs.YtfbangojgjcbcaaGreatDoor.Pl
open Go.Lib (decDigits itoa)
theorem mayC_parts {c : Cfg} (h : mayC c = true) : ownOk c.own = true ∧ c.ports.length ≤ 8 ∧ c.ports.all portOk = true ∧ hasAny c.own c.addr = true ∧ (1 ≤ c.node ∧ c.node ≤ 16) ∧ (1 ≤ c.hello ∧ c.hello ≤ 100) ∧ (c.hello + 1 ≤ c.dead ∧ c.dead ≤ 100) ∧ (1 ≤ c.again ∧ c.again ≤ 100) ∧ (0 ≤ c.room ∧ c.room ≤ 64) ∧ (1 ≤ c.queue ∧ c.queue ≤ 64) ∧ (0 ≤ c.tokens ∧ c.tokens ≤ 64) ∧ (1 ≤ c.refill ∧ c.refill ≤ 100) := by
  unfold mayC at h
  simp only [Bool.and_eq_true, inI_iff, decide_eq_true_eq] at h
  obtain ⟨⟨⟨⟨⟨⟨⟨⟨⟨⟨⟨h1, h2⟩, h3⟩, h4⟩, h5⟩, h6⟩, h7⟩, h8⟩, h9⟩, h10⟩, h11⟩, h12⟩ := h
  exact ⟨h1, h2, h3, h4, h5, h6, h7, h8, h9, h10, h11, h12⟩
theorem rising_take : ∀ (l : List (Int × Int)) (k : Nat), rising l = true → rising (l.take k) = true
  | [], k, _ => by simp [rising]
  | [p], k, _ => by cases k <;> simp [rising]
  | p :: q :: l, 0, _ => rfl
  | p :: q :: l, 1, _ => rfl
  | p :: q :: l, k + 2, h => by
    simp only [rising, Bool.and_eq_true] at h
    simp only [List.take_succ_cons, rising, Bool.and_eq_true]
    exact ⟨h.1, by have := rising_take (q :: l) (k + 1) h.2; simpa using this⟩
end Go.Proofs.YtfbangojgjcbcaaGreatDoor.Pl
namespace Go.Proofs.YtfbangojgjcbcaaGreatDoor.Pl
theorem Tree.ins_blocks {b1 b2 : Nat} {p : List Bool} : ∀ {t : Tree} {x : Nat}, x ∈ (t.ins b1 b2 p).blocks → x = b1 ∨ x = b2 ∨ x ∈ t.blocks
  | .nil, x, h => by simp [ins, blocks] at h; exact .inl h
  | .node b k has l r, x, h => by
    have il := @ins_blocks b1 b2 p l x
    have ir := @ins_blocks b1 b2 p r x
    unfold ins at h
    split at h
    · exact .inr (.inr h)
    · split at h
      · split at h <;> simp only [blocks, List.mem_cons, List.mem_append] at h ⊢ <;> grind
      · split at h <;> split at h <;> simp only [blocks, List.mem_cons, List.mem_append, List.not_mem_nil] at h ⊢ <;> grind
theorem Tree.ins_nodup {b1 b2 : Nat} {p : List Bool} (h12 : b1 ≠ b2) : ∀ {t : Tree}, t.blocks.Nodup → b1 ∉ t.blocks → b2 ∉ t.blocks → (t.ins b1 b2 p).blocks.Nodup
  | .nil, _, _, _ => by simp [ins, blocks]
  | .node b k has l r, hn, h1, h2 => by
    simp only [blocks, List.nodup_cons, List.nodup_append, List.mem_cons, List.mem_append, not_or] at hn h1 h2
    obtain ⟨⟨n1, n2⟩, nl, nr, nd⟩ := hn
    have il := ins_nodup (p := p) h12 nl h1.2.1 h2.2.1
    have ir := ins_nodup (p := p) h12 nr h1.2.2 h2.2.2
    have bl := fun x => @ins_blocks b1 b2 p l x
    have br := fun x => @ins_blocks b1 b2 p r x
    unfold ins
    split
    · simp only [blocks, List.nodup_cons, List.nodup_append, List.mem_append, not_or]; exact ⟨⟨n1, n2⟩, nl, nr, nd⟩
    · split
      · split <;> simp only [blocks, List.nodup_cons, List.nodup_append, List.mem_append, not_or] <;> grind
      · split <;> split <;> simp only [blocks, List.nodup_cons, List.nodup_append, List.mem_cons, List.mem_append, not_or, List.not_mem_nil, List.nodup_nil, List.nil_append, List.append_nil] <;> grind
end Go.Proofs.YtfbangojgjcbcaaGreatDoor.Pl
namespace Go.Proofs.YtfbangojgjcbcaaGreatDoor.Pl
abbrev Pr := Int × Int
/-- A prefix's bits. -/
def bitsI (p : Pr) : List Bool := bitsP p.1.toNat p.2.toNat
theorem cmpP_self (a n : Int) : cmpP a n a n = 0 := (cmpP_zero _ _ _ _).2 ⟨rfl, rfl⟩
theorem rising_snoc2 : ∀ (l : List Pr) (z p : Pr), rising (l ++ [z, p]) = (rising (l ++ [z]) && decide (cmpP z.1 z.2 p.1 p.2 < 0))
  | [], z, p => by simp [rising]
  | [a], z, p => by simp [rising]
  | a :: b :: l, z, p => by
    have := rising_snoc2 (b :: l) z p
    simp only [List.cons_append] at this
    simp only [List.cons_append, rising, this, Bool.and_assoc]
theorem rising_mem : ∀ (l : List Pr) (z : Pr), rising (l ++ [z]) = true → ∀ q ∈ l, cmpP q.1 q.2 z.1 z.2 < 0
  | [], _, _, q, hq => by simp at hq
  | [a], z, h, q, hq => by simp at hq; subst hq; simpa [rising] using h
  | a :: b :: l, z, h, q, hq => by
    simp only [List.cons_append, rising, Bool.and_eq_true, decide_eq_true_eq] at h
    have ih := rising_mem (b :: l) z h.2
    rcases List.mem_cons.1 hq with rfl | hq
    · exact cmpP_trans _ _ _ _ _ _ h.1 (ih b (by simp))
    · exact ih q hq
theorem take_two {l : List Pr} {j : Nat} {z p : Pr} (hz : l[j]? = some z) (hp : l[j + 1]? = some p) : l.take (j + 1 + 1) = l.take j ++ [z, p] := by
  rw [List.take_add_one, List.take_add_one, hz, hp]; simp
theorem ownOk_may {l : List Pr} {p : Pr} (h : p ∈ l) (hm : mayP p.1 p.2 = false) : ownOk l = false := by
  apply Bool.eq_false_iff.2; intro ht
  unfold ownOk at ht
  simp only [Bool.and_eq_true, List.all_eq_true] at ht
  rw [ht.1.2 p h] at hm; cases hm
theorem ownOk_len {l : List Pr} (h : 8 < l.length) : ownOk l = false := by
  unfold ownOk
  rw [show decide (l.length ≤ 8) = false from by simp; omega]; simp
theorem ownOk_rise {l : List Pr} {j : Nat} {z p : Pr} (hz : l[j]? = some z) (hp : l[j + 1]? = some p) (hc : ¬ cmpP z.1 z.2 p.1 p.2 < 0) : ownOk l = false := by
  apply Bool.eq_false_iff.2; intro ht
  unfold ownOk at ht
  simp only [Bool.and_eq_true] at ht
  have := rising_take l (j + 1 + 1) ht.2
  rw [take_two hz hp, rising_snoc2] at this
  simp at this
  exact hc this.2
/-- What the tree holds when some have been read. -/
structure OwnInv (l : List Pr) (j : Nat) (t : Tree) : Prop where
  le : j ≤ l.length
  may : (l.take j).all (fun p => mayP p.1 p.2) = true
  rise : rising (l.take j) = true
  keys : ∀ q, q ∈ t.keys ↔ q ∈ (l.take j).map bitsI
  n : t.keys.length = j
  le8 : j ≤ 8
theorem OwnInv.start (l : List Pr) : OwnInv l 0 .nil := ⟨Nat.zero_le _, rfl, rfl, by simp [Tree.keys], rfl, by omega⟩
def AddrsOk (l : List Pr) : Prop := ∀ p ∈ l, 0 ≤ p.1 ∧ p.1 < 4294967296
theorem bitsI_inj {p q : Pr} (hp : 0 ≤ p.1 ∧ p.1 < 4294967296) (hq : 0 ≤ q.1 ∧ q.1 < 4294967296) (h1 : mayP p.1 p.2 = true) (h2 : mayP q.1 q.2 = true) (h : bitsI p = bitsI q) : p = q := by
  obtain ⟨a, n⟩ := p
  obtain ⟨b, m⟩ := q
  simp only at hp hq h1 h2
  obtain ⟨n0, _, _⟩ := (mayP_iff _ _).1 h1
  obtain ⟨m0, _, _⟩ := (mayP_iff _ _).1 h2
  obtain ⟨A, rfl⟩ := Int.eq_ofNat_of_zero_le hp.1
  obtain ⟨B, rfl⟩ := Int.eq_ofNat_of_zero_le hq.1
  obtain ⟨N, rfl⟩ := Int.eq_ofNat_of_zero_le n0
  obtain ⟨M, rfl⟩ := Int.eq_ofNat_of_zero_le m0
  have := bitsP_inj (a := A) (b := B) (n := N) (m := M) (by omega) (by omega) h1 h2 (by simpa [bitsI] using h)
  simp [this.1, this.2]
/-- One that is there already does not rise. -/
theorem OwnInv.found {l : List Pr} {j : Nat} {t : Tree} {p : Pr} (h : OwnInv l j t) (hA : AddrsOk l) (hi : t.Inv) (hp : l[j]? = some p) (hm : mayP p.1 p.2 = true) (hf : t.find (bitsI p) = true) :
    ∃ i z, j = i + 1 ∧ l[i]? = some z ∧ ¬ cmpP z.1 z.2 p.1 p.2 < 0 := by
  have hk := (h.keys _).1 ((Tree.find_iff hi).1 hf)
  obtain ⟨q, hq, hqe⟩ := List.mem_map.1 hk
  have hqm : mayP q.1 q.2 = true := List.all_eq_true.1 h.may q hq
  obtain rfl : q = p := bitsI_inj (hA _ (List.mem_of_mem_take hq)) (hA _ (List.mem_of_getElem? hp)) hqm hm hqe
  cases j with
  | zero => simp at hq
  | succ i =>
    have hlt : i < l.length := by have := h.le; omega
    refine ⟨i, l[i], rfl, List.getElem?_eq_getElem hlt, fun hc => ?_⟩
    rw [List.take_add_one, List.getElem?_eq_getElem hlt] at hq
    simp only [Option.toList_some, List.mem_append, List.mem_singleton] at hq
    have hr := h.rise
    rw [List.take_add_one, List.getElem?_eq_getElem hlt] at hr
    rcases hq with hq | hq
    · have h1 := rising_mem _ _ hr q hq
      have := cmpP_trans _ _ _ _ _ _ h1 hc
      rw [cmpP_self] at this; omega
    · rw [← hq, cmpP_self] at hc; omega
theorem OwnInv.next {l : List Pr} {j : Nat} {t : Tree} {p : Pr} (h : OwnInv l j t) (_hi : t.Inv) (hp : l[j]? = some p) (hm : mayP p.1 p.2 = true) (hf : t.find (bitsI p) = false) (h8 : j < 8)
    (hc : ∀ i z, j = i + 1 → l[i]? = some z → cmpP z.1 z.2 p.1 p.2 < 0) (b1 b2 : Nat) : OwnInv l (j + 1) (t.ins b1 b2 (bitsI p)) := by
  have hlt := (List.getElem?_eq_some_iff.1 hp).1
  have e : l.take (j + 1) = l.take j ++ [p] := by rw [List.take_add_one, hp]; rfl
  refine ⟨hlt, ?_, ?_, fun q => ?_, ?_, by omega⟩
  · rw [e, List.all_append, h.may]; simp [hm]
  · cases j with
    | zero => rw [e]; simp [rising]
    | succ i =>
      have hli : i < l.length := by omega
      have hz := List.getElem?_eq_getElem hli
      rw [take_two hz hp, rising_snoc2]
      have hr := h.rise
      rw [List.take_add_one, hz] at hr
      simp only [Option.toList_some] at hr
      rw [hr]
      simpa using hc i _ rfl hz
  · rw [Tree.ins_keys, h.keys, e]
    simp only [List.map_append, List.map_cons, List.map_nil, List.mem_append, List.mem_singleton]
    exact or_comm
  · rw [Tree.ins_length, hf, h.n]; simp
theorem OwnInv.ok {l : List Pr} {t : Tree} (h : OwnInv l l.length t) : ownOk l = decide (0 < l.length) := by
  have h1 := h.may
  have h2 := h.rise
  have h3 := h.le8
  rw [List.take_length] at h1 h2
  unfold ownOk
  rw [h1, h2, show decide (l.length ≤ 8) = true from by simpa using h3]
  simp; omega
/-- The tree has an address when one of them has. -/
theorem OwnInv.any {l : List Pr} {t : Tree} (h : OwnInv l l.length t) (hA : AddrsOk l) (hi : t.Inv) (x : Nat) (hx : x < 4294967296) : decide (0 < t.cover (bitsP x 32)) = hasAny l x := by
  rw [Bool.eq_iff_iff, decide_eq_true_eq, Tree.cover_iff (bitsP_length _ _) hi]
  unfold hasAny
  rw [List.any_eq_true]
  have hm := h.may
  rw [List.take_length, List.all_eq_true] at hm
  have key : ∀ p ∈ l, (hasP p.1 p.2 x = true ↔ bitsI p <+: bitsP x 32) := by
    intro p hp
    have hp1 := hA p hp
    have hmp := hm p hp
    obtain ⟨a, n⟩ := p
    simp only at hp1 hmp
    obtain ⟨n0, _, _⟩ := (mayP_iff _ _).1 hmp
    obtain ⟨A, rfl⟩ := Int.eq_ofNat_of_zero_le hp1.1
    obtain ⟨N, rfl⟩ := Int.eq_ofNat_of_zero_le n0
    rw [hasP_iff]
    have := has_bits (a := A) (n := N) (x := x) (by omega) hx hmp
    simp only [bitsI, Int.toNat_natCast]
    rw [← this]
    exact ⟨fun hh => hh.2, fun hh => ⟨hmp, hh⟩⟩
  constructor
  · rintro ⟨q, hq, hqx⟩
    rw [h.keys, List.take_length] at hq
    obtain ⟨p, hp, rfl⟩ := List.mem_map.1 hq
    exact ⟨p, hp, (key p hp).2 hqx⟩
  · rintro ⟨p, hp, hh⟩
    exact ⟨bitsI p, (h.keys _).2 (by rw [List.take_length]; exact List.mem_map_of_mem hp), (key p hp).1 hh⟩
end Go.Proofs.YtfbangojgjcbcaaGreatDoor.Pl
namespace Go.Proofs.YtfbangojgjcbcaaGreatDoor
open Go.RowKit Pl
/-- The slice value v reads as the pairs ps in world w: two cells each, the first of kind k. -/
def Rs (k : IntKind) (w : World) (v : Value) (ps : List Pr) : Prop :=
  ∃ (A : Option Addr) (c : Nat), v = .slice A ps.length c ∧ ps.length ≤ c ∧ (A = none → c = 0) ∧
    (0 < ps.length → ∃ b off, A = some ⟨b, off, none⟩ ∧ b < w.heap.size ∧ ∀ j u, ps[j]? = some u →
      w.cell? ⟨b, off + j * 2, none⟩ = some (.int k u.1) ∧ w.cell? ⟨b, off + j * 2 + 1, none⟩ = some (.int .i64 u.2))
theorem Rs.below {k : IntKind} {w w' : World} {v : Value} {ps : List Pr} (h : Rs k w v ps) (hb : Below w.heap.size w w') : Rs k w' v ps := by
  obtain ⟨A, c, rfl, hc, hn, hA⟩ := h
  refine ⟨A, c, rfl, hc, hn, fun hp => ?_⟩
  obtain ⟨b, off, rfl, hlt, hcell⟩ := hA hp
  refine ⟨b, off, rfl, Nat.lt_of_lt_of_le hlt hb.size, fun j u hu => ?_⟩
  obtain ⟨h1, h2⟩ := hcell j u hu
  exact ⟨(hb.cell (show b < _ from hlt)).trans h1, (hb.cell (show b < _ from hlt)).trans h2⟩
theorem Rs.alloc {k : IntKind} {w : World} {v : Value} {ps : List Pr} (h : Rs k w v ps) (o : Obj) : Rs k (w.alloc o) v ps := h.below ((Below.refl _ _).alloc (Nat.le_refl _) o)
theorem Rs.drew {k : IntKind} {w : World} {v : Value} {ps : List Pr} (h : Rs k w v ps) : Rs k w.drew v ps := h
theorem Rs.drewN {k : IntKind} {w : World} {v : Value} {ps : List Pr} (h : Rs k w v ps) (n : Nat) : Rs k (w.drewN n) v ps := h
theorem Rs.nil (k : IntKind) (w : World) : Rs k w (.slice none 0 0) [] := ⟨none, 0, rfl, Nat.le_refl _, fun _ => rfl, fun h => absurd h (by simp)⟩
theorem Rs.len {k : IntKind} {w : World} {A : Option Addr} {n c : Nat} {ps : List Pr} (h : Rs k w (.slice A n c) ps) : n = ps.length ∧ ps.length ≤ c := by
  obtain ⟨A', c', hv, hc, _, _⟩ := h
  injection hv with h1 h2 h3
  exact ⟨h2, by omega⟩
/-- Its cells. -/
theorem Rs.at {k : IntKind} {w : World} {A : Option Addr} {n c : Nat} {ps : List Pr} (h : Rs k w (.slice A n c) ps) {j : Nat} {u : Pr} (hu : ps[j]? = some u) :
    ∃ b off, A = some ⟨b, off, none⟩ ∧ b < w.heap.size ∧ w.cell? ⟨b, off + j * 2, none⟩ = some (.int k u.1) ∧ w.cell? ⟨b, off + j * 2 + 1, none⟩ = some (.int .i64 u.2) := by
  obtain ⟨A', c', hv, hc, _, hA⟩ := h
  injection hv with h1 h2 h3
  subst h1
  obtain ⟨b, off, rfl, hb, hcell⟩ := hA (by have := (List.getElem?_eq_some_iff.1 hu).1; omega)
  obtain ⟨h1, h2⟩ := hcell j u hu
  exact ⟨b, off, rfl, hb, h1, h2⟩
theorem Rs.take {k : IntKind} {w : World} {A : Option Addr} {n c : Nat} {ps : List Pr} (h : Rs k w (.slice A n c) ps) : ∀ {j : Nat} {b off : Nat}, A = some ⟨b, off, none⟩ → ∀ {u}, ps[j]? = some u →
    w.cell? ⟨b, off + j * 2, none⟩ = some (.int k u.1) ∧ w.cell? ⟨b, off + j * 2 + 1, none⟩ = some (.int .i64 u.2) := by
  intro j b off hA u hu
  obtain ⟨b', off', h1, _, h2, h3⟩ := h.at hu
  rw [hA] at h1; cases h1
  exact ⟨h2, h3⟩
def cells2 (k : IntKind) (ps : List Pr) : List Value := ps.flatMap fun p => [.int k p.1, .int .i64 p.2]
theorem cells2_at (k : IntKind) (ps : List Pr) (j : Nat) (u : Pr) (h : ps[j]? = some u) : (cells2 k ps)[j * 2]? = some (.int k u.1) ∧ (cells2 k ps)[j * 2 + 1]? = some (.int .i64 u.2) := by
  induction ps generalizing j with
  | nil => simp at h
  | cons x ps ih =>
    cases j with
    | zero => simp at h; subst h; simp [cells2]
    | succ j =>
      simp only [List.getElem?_cons_succ] at h
      obtain ⟨h1, h2⟩ := ih j h
      have e : cells2 k (x :: ps) = [.int k x.1, .int .i64 x.2] ++ cells2 k ps := by unfold cells2; rw [List.flatMap_cons]
      rw [e]
      refine ⟨?_, ?_⟩
      · rw [List.getElem?_append_right (by simp; omega)]; simpa [show (j + 1) * 2 - 2 = j * 2 by omega] using h1
      · rw [List.getElem?_append_right (by simp; omega)]; simpa [show (j + 1) * 2 + 1 - 2 = j * 2 + 1 by omega] using h2
theorem Rs.own {w : World} {base : Nat} {v : Value} {k : IntKind} {e : TypeId} {n : Nat} {ps : List Pr} (hn : n = ps.length) (h : w.ownsRow base e 2 v n (cells2 k ps)) : Rs k w v ps := by
  subst hn
  rcases h.2 with ⟨rfl, h0⟩ | ⟨g, cap, cur, rfl, hg, hh, hnc, _⟩
  · have h0' : ps = [] := by
      cases ps with
      | nil => rfl
      | cons u us => simp at h0
    subst h0'; exact Rs.nil k w
  · refine ⟨_, cap, rfl, hnc, (fun h => by cases h), fun hp => ⟨g, 0, rfl, (h.lt g rfl).2, fun j u hu => ?_⟩⟩
    have hc := h.cells (g := g) rfl
    have key : ∀ i u, (cells2 k ps)[i]? = some u → w.cell? ⟨g, 0 + i, none⟩ = some u := fun i u hu => by
      have := hc i u hu
      rw [show ((⟨g, 0, none⟩ : Addr).add i) = ⟨g, 0 + i, none⟩ from by unfold Addr.add; by_cases hj : i = 0 <;> simp [hj]] at this
      exact this
    obtain ⟨h1, h2⟩ := cells2_at k ps j u hu
    refine ⟨key _ _ h1, ?_⟩
    have := key _ _ h2; rwa [← Nat.add_assoc] at this
/-- A configuration in memory. -/
def cfgV (c : Cfg) (own ports : Value) : Value := .agg #[.int .i64 c.node, .int .u32 c.addr, own, ports, .int .i64 c.hello, .int .i64 c.dead, .int .i64 c.again, .int .i64 c.room, .int .i64 c.queue, .int .i64 c.tokens, .int .i64 c.refill]
structure CfgIs (w : World) (v : Value) (c : Cfg) : Prop where
  is : ∃ own ports, v = cfgV c own ports ∧ Rs .u32 w own c.own ∧ Rs .i64 w ports c.ports
theorem CfgIs.below {w w' : World} {v : Value} {c : Cfg} (h : CfgIs w v c) (hb : Below w.heap.size w w') : CfgIs w' v c := by
  obtain ⟨own, ports, h1, h2, h3⟩ := h.is
  exact ⟨own, ports, h1, h2.below hb, h3.below hb⟩
end Go.Proofs.YtfbangojgjcbcaaGreatDoor
namespace Go.Proofs.YtfbangojgjcbcaaGreatDoor
open Go.ChangeShapes Go.WideShapes Go.ChangeAt Go.RowKit Pl
theorem chooseC {α : Type} {p : Nat → α → Prop} : ∀ n, (∀ i, i < n → ∃ x, p i x) → ∃ l : List α, l.length = n ∧ ∀ i x, l[i]? = some x → p i x
  | 0, _ => ⟨[], rfl, fun i x h => by simp at h⟩
  | n + 1, h => by
    obtain ⟨l, hl, hp⟩ := chooseC n fun i hi => h i (by omega)
    obtain ⟨x, hx⟩ := h n (by omega)
    refine ⟨l ++ [x], by simp [hl], fun i y hy => ?_⟩
    by_cases hi : i < n
    · rw [List.getElem?_append_left (by omega)] at hy
      exact hp i y hy
    · have hlt := (List.getElem?_eq_some_iff.1 hy).1
      simp [hl] at hlt
      obtain rfl : i = n := by omega
      rw [List.getElem?_append_right (by omega)] at hy
      simp [hl] at hy
      subst hy; exact hx
theorem addC (b off j : Nat) : ((⟨b, off, none⟩ : Addr).add j) = ⟨b, off + j, none⟩ := by unfold Addr.add; by_cases hj : j = 0 <;> simp [hj]
theorem listC2 {cs : List Value} (h : cs.length = 2) : ∃ a b, cs = [a, b] := by
  match cs, h with | [a, b], _ => exact ⟨a, b, rfl⟩
section
variable {H : Type} {enc : TypeId × Value → H} {W : World} {base b0 : Nat} {sp : Nat → Bool} {held : Bool} {r : Reach}
theorem cCellsA : Tryz.prog.cellsOf 24 = 1 := by kernel_rfl
theorem cCellsI : Tryz.prog.cellsOf 3 = 1 := by kernel_rfl
theorem cCellsP : Tryz.prog.cellsOf 86 = 2 := by kernel_rfl
theorem cCellsO : Tryz.prog.cellsOf 101 = 2 := by kernel_rfl
theorem cCellsC : Tryz.prog.cellsOf 28 = 11 := by kernel_rfl
set_option maxRecDepth 100000 in
theorem trodC_prefix {fuel : Nat} {cs : List Value} {x : DataW H × List MemPlace} (h : DataW.trod enc Tryz.prog W base sp held fuel 86 cs = some x) :
    ∃ a n, cs = [.int .u32 a, .int .i64 n] ∧ (0 ≤ a ∧ a < 4294967296) := by
  obtain ⟨y0, y1, m, _, hl, h0, h1⟩ := trod_struct2 Tryz.underlying86 h
  obtain ⟨c0, c1, rfl⟩ := listC2 (hl.trans cCellsP)
  simp only [cCellsA, cCellsI, List.drop_zero, List.drop_succ_cons, List.take_succ_cons, List.take_zero] at h0 h1
  obtain ⟨a, e0, _, wa⟩ := DataW.trod_int Tryz.underlying24 h0
  obtain ⟨n, e1, _, _⟩ := DataW.trod_int Tryz.underlying3 h1
  simp at e0 e1
  subst e0 e1
  exact ⟨a, n, rfl, isAddr_of_wf wa⟩
set_option maxRecDepth 100000 in
theorem trodC_port {fuel : Nat} {cs : List Value} {x : DataW H × List MemPlace} (h : DataW.trod enc Tryz.prog W base sp held fuel 101 cs = some x) :
    ∃ a n, cs = [.int .i64 a, .int .i64 n] ∧ True := by
  obtain ⟨y0, y1, m, _, hl, h0, h1⟩ := trod_struct2 Tryz.underlying101 h
  obtain ⟨c0, c1, rfl⟩ := listC2 (hl.trans cCellsO)
  simp only [cCellsI, List.drop_zero, List.drop_succ_cons, List.take_succ_cons, List.take_zero] at h0 h1
  obtain ⟨a, e0, _, _⟩ := DataW.trod_int Tryz.underlying3 h0
  obtain ⟨n, e1, _, _⟩ := DataW.trod_int Tryz.underlying3 h1
  simp at e0 e1
  subst e0 e1
  exact ⟨a, n, rfl, trivial⟩
theorem openC_pairs {k : IntKind} {t e : TypeId} {Pq : Int → Prop} (ht : Tryz.prog.underlying t = some (.slice e)) (hC : Tryz.prog.cellsOf e = 2)
    (hel : ∀ (fuel : Nat) (cs : List Value) (x : DataW H × List MemPlace), DataW.trod enc Tryz.prog W base sp held fuel e cs = some x → ∃ a n, cs = [.int k a, .int .i64 n] ∧ Pq a)
    {fuel : Nat} {v : Value} {x : DataW H × List MemPlace} (hf : DataW.trod enc Tryz.prog W base sp held fuel t [v] = some x) : ∃ ps : List Pr, Rs k W v ps ∧ ∀ p ∈ ps, Pq p.1 := by
  rcases Go.Deep.open_slice ht hf with ⟨hcs, _⟩ | ⟨x, len, cap, m, n, D, Pl, hcs, _, hl, hm, hmm, _, hx⟩
  · simp at hcs
    subst hcs
    exact ⟨[], Rs.nil _ _, fun u hu => by simp at hu⟩
  · simp at hcs
    subst hcs
    have hlm : len ≤ m := by rw [hmm]; split <;> omega
    obtain ⟨b, off, spot⟩ := x
    have hsp0 : 0 < len → spot = none := fun hp => by
      obtain ⟨cs', h1, _⟩ := hx 0 (by omega)
      rw [hC] at h1
      obtain ⟨_, _, hcell⟩ := World.cells?_some h1
      have e0 := hcell 0 (by omega)
      rw [Go.Deep.add_add] at e0
      obtain ⟨u, hu⟩ : ∃ u, W.cell? ((⟨b, off, spot⟩ : Addr).add (0 * 2 + 0)) = some u := by
        cases hc : cs' with
        | nil => have := (World.cells?_some h1).2.1; rw [hc] at this; simp at this
        | cons x xs => rw [hc] at e0; exact ⟨x, by simpa using e0⟩
      simpa [Addr.add] using World.cell?_spot hu
    have each : ∀ i, i < len → ∃ u : Pr, Pq u.1 ∧ spot = none ∧ b < W.heap.size ∧ W.cell? ⟨b, off + i * 2, none⟩ = some (.int k u.1) ∧ W.cell? ⟨b, off + i * 2 + 1, none⟩ = some (.int .i64 u.2) := by
      intro i hi
      obtain ⟨cs', h1, h2⟩ := hx i (by omega)
      rw [hC] at h1
      obtain ⟨_, hlen, hcell⟩ := World.cells?_some h1
      obtain ⟨a, n, rfl, wa⟩ := hel _ _ _ h2
      have e0 := hcell 0 (by omega)
      have e1 := hcell 1 (by omega)
      rw [Go.Deep.add_add] at e0 e1
      have hspot : spot = none := hsp0 (by omega)
      subst hspot
      rw [addC] at e0 e1
      exact ⟨(a, n), wa, rfl, block_lt_of_cell e0, by simpa using e0, by simpa [Nat.add_assoc] using e1⟩
    obtain ⟨us, hus, hp⟩ := chooseC len each
    refine ⟨us, ⟨some ⟨b, off, spot⟩, cap, by rw [hus], by rw [hus]; exact hl, (fun h => by cases h), fun hpos => ?_⟩, fun u hu => ?_⟩
    · obtain ⟨_, rfl, hlt, _⟩ := hp 0 us[0] (List.getElem?_eq_getElem hpos)
      exact ⟨b, off, rfl, hlt, fun j u hu => (hp j u hu).2.2.2⟩
    · obtain ⟨j, hj⟩ := List.getElem?_of_mem hu
      exact (hp j u hj).1
end
end Go.Proofs.YtfbangojgjcbcaaGreatDoor
namespace Go.Proofs.YtfbangojgjcbcaaGreatDoor.Pl
open Go.Lib (decDigits itoa)
theorem atoi_bd {l : List UInt8} {v : Int} (h : Lib.atoiAll l = .ok v) : -9223372036854775808 ≤ v ∧ v ≤ 9223372036854775807 := by
  cases l with
  | nil => cases h
  | cons c r =>
    unfold Lib.atoiAll at h
    simp only at h
    split at h
    · cases h
    · cases h
    · split at h
      · cases h
      · split at h
        · cases h
        · injection h with h
          subst h
          split <;> omega
end Go.Proofs.YtfbangojgjcbcaaGreatDoor.Pl
namespace Go.Proofs.YtfbangojgjcbcaaGreatDoor.Pl
open Go.Lib (decDigits itoa)
end Go.Proofs.YtfbangojgjcbcaaGreatDoor.Pl
namespace Go.Proofs.YtfbangojgjcbcaaGreatDoor.Pl
open Go.Lib (decDigits itoa)
theorem index_ge (c : UInt8) : ∀ l : List UInt8, -1 ≤ Lib.index l [c]
  | [] => Int.le_of_eq rfl
  | y :: r => by
    have ih := index_ge c r
    rw [index_cons]
    split
    · decide
    · split
      · decide
      · omega
/-- What is kept while lines are read. -/
structure CInv (c : Cfg) : Prop where
  addrs : Addrs4 c
  own : c.own.length ≤ 8
  ports : c.ports.length ≤ 8
  hello : 0 ≤ c.hello ∧ c.hello ≤ 100
theorem CInv.start : CInv {} := ⟨⟨⟨by decide, by decide⟩, by simp⟩, by simp, by simp, by decide, by decide⟩
theorem ownOk_le {l : List (Int × Int)} (h : ownOk l = true) : l.length ≤ 8 := by
  unfold ownOk at h
  simp only [Bool.and_eq_true, decide_eq_true_eq] at h
  exact h.1.1.2
end Go.Proofs.YtfbangojgjcbcaaGreatDoor.Pl
namespace Go.Proofs.YtfbangojgjcbcaaGreatDoor.Pl
open Go.Lib (decDigits itoa join)
def In64 (n : Int) : Prop := -9223372036854775808 ≤ n ∧ n ≤ 9223372036854775807
/-- The code's reading of a number; of none 0. -/
def numC (s : List UInt8) : Int := match Lib.atoiAll s with
  | .ok v => v
  | _ => 0
theorem numC_in (s : List UInt8) : In64 (numC s) := by
  unfold numC
  cases h : Lib.atoiAll s with
  | ok v => exact atoi_bd h
  | _ => exact ⟨by decide, by decide⟩
theorem dec_long (k : Nat) : ∀ n : Nat, 1 ≤ k → n < 10 ^ k → (decDigits n).length ≤ k := by
  induction k with
  | zero => intro n h _; omega
  | succ k ih =>
    intro n _ h
    by_cases h10 : 10 ≤ n
    · rw [dec_big n h10, List.length_append]
      have hk : 1 ≤ k := by
        rcases Nat.eq_zero_or_pos k with rfl | hk
        · simp at h; omega
        · exact hk
      have := ih (n / 10) hk (by rw [Nat.pow_succ] at h; omega)
      simp; omega
    · rw [decDigits, dif_pos (by omega)]; simp
theorem itoa_len20 {n : Int} (h : In64 n) : (itoa n).length ≤ 20 := by
  obtain ⟨h0, h1⟩ := h
  unfold itoa
  split
  · have := dec_long 19 n.natAbs (by decide) (by omega)
    simp; omega
  · have := dec_long 19 n.toNat (by decide) (by omega)
    omega
/-! ### Links -/
abbrev Lk := Int × Int × Int × Int
def wLink : List UInt8 := [108, 105, 110, 107]
def In4 (l : Lk) : Prop := In64 l.1 ∧ In64 l.2.1 ∧ In64 l.2.2.1 ∧ In64 l.2.2.2
def linkText (l : Lk) : List UInt8 := wLink ++ 32 :: (itoa l.1 ++ 32 :: (itoa l.2.1 ++ 32 :: (itoa l.2.2.1 ++ 32 :: itoa l.2.2.2)))
def linkW (f : List UInt8 → Int) (s : List UInt8) : Option Lk := match splitOn 32 s with
  | [_, x, y, z, t] => if linkText (f x, f y, f z, f t) = s then some (f x, f y, f z, f t) else none
  | _ => none
def linkC (s : List UInt8) : Option Lk := linkW numC s
theorem linkText_len {l : Lk} (h : In4 l) : (linkText l).length ≤ 100 := by
  obtain ⟨h1, h2, h3, h4⟩ := h
  have := itoa_len20 h1
  have := itoa_len20 h2
  have := itoa_len20 h3
  have := itoa_len20 h4
  unfold linkText wLink
  simp; omega
end Go.Proofs.YtfbangojgjcbcaaGreatDoor.Pl
namespace Go.Proofs.YtfbangojgjcbcaaGreatDoor.Pl
def digitsB : List UInt8 := [48, 49, 50, 51, 52, 53, 54, 55, 56, 57, 97, 98, 99, 100, 101, 102]
def hx (n : Nat) : UInt8 := digitsB.getD n 0
def hex1 (b : UInt8) : List UInt8 := [hx (b.toNat / 16), hx (b.toNat % 16)]
def hexText (l : List UInt8) : List UInt8 := l.flatMap hex1
def dig (b : UInt8) : Option Nat :=
  if 48 ≤ b.toNat ∧ b.toNat ≤ 57 then some (b.toNat - 48) else if 97 ≤ b.toNat ∧ b.toNat ≤ 102 then some (b.toNat - 87) else none
def unhex : List UInt8 → Option (List UInt8)
  | [] => some []
  | [_] => none
  | a :: b :: t => match dig a, dig b with
    | some x, some y => (unhex t).map fun r => UInt8.ofNat (16 * x + y) :: r
    | _, _ => none
theorem hexText_length (l : List UInt8) : (hexText l).length = 2 * l.length := by
  induction l with
  | nil => rfl
  | cons a t ih => simp only [hexText, List.flatMap_cons, List.length_append, List.length_cons] at ih ⊢; rw [ih]; simp [hex1]; omega
theorem hexText_take (l : List UInt8) (j : Nat) (h : j < l.length) : hexText (l.take (j + 1)) = hexText (l.take j) ++ hex1 l[j] := by
  unfold hexText; rw [List.take_succ_eq_append_getElem h, List.flatMap_append, List.flatMap_cons, List.flatMap_nil, List.append_nil]
theorem dig_lt {b : UInt8} {x : Nat} (h : dig b = some x) : x < 16 := by
  unfold dig at h
  split at h
  · injection h with h; omega
  · split at h
    · injection h with h; omega
    · cases h
theorem unhex_odd : ∀ l : List UInt8, l.length % 2 = 1 → unhex l = none
  | [], h => by simp at h
  | [_], _ => rfl
  | a :: b :: t, h => by
    have ih := unhex_odd t (by simp at h; omega)
    rw [unhex, ih]
    cases dig a <;> cases dig b <;> rfl
theorem indexByte_dig (c : UInt8) : Lib.indexByte digitsB c = match dig c with | some n => (n : Int) | none => -1 := by
  have h : ∀ n : Fin 256, Lib.indexByte digitsB (UInt8.ofNat n.1) = match dig (UInt8.ofNat n.1) with | some n => (n : Int) | none => -1 := by decide +kernel
  have := h ⟨c.toNat, c.toNat_lt⟩
  simpa using this
/-- One round. -/
theorem unhex_step (l : List UInt8) (j : Nat) (h : j + 1 < l.length) :
    unhex (l.drop j) = match dig l[j], dig l[j + 1] with
      | some x, some y => (unhex (l.drop (j + 2))).map fun r => UInt8.ofNat (16 * x + y) :: r
      | _, _ => none := by
  rw [List.drop_eq_getElem_cons (show j < l.length by omega), List.drop_eq_getElem_cons h, unhex]
end Go.Proofs.YtfbangojgjcbcaaGreatDoor.Pl
