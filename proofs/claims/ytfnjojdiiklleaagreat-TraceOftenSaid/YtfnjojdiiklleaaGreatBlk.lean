/- Plain arithmetic of prefixes: an address is a number below 2^32, a length from 0 to 32. Nothing of the program. -/
/- What all walks of this seat lean on: worlds that keep all, appending one. -/
/- Blocks that are known whole. -/
import Derived.WalkKit
import Derived.Test.YtfnjojdiiklleaaGreatChecked
import Derived.WalkSpells
import Derived.WalkLawsBesides
import Derived.StillTactics
import Derived.Deep.QuietTactic
import Derived.BigQuiet
import Derived.Deep.RegionHeld3
import Derived.Deep.AppendLies
import Derived.Deep.Draws
import Derived.Deep.OwnRows
import Derived.Deep.DeepFit
import Derived.Maps.AppendAt
import Derived.Lib.Hide
import Derived.Lib.LaidTab
import Derived.Lib.ItoaNum
import Derived.Lib.ConvBytes
import Derived.RowKit3
import Derived.OwnWalk
import Derived.Laws.OwnMore
import Derived.Laws.IdiomStrings
import Derived.RangeFuncNested
import Derived.RangeFuncBox
namespace Go.Proofs.YtfnjojdiiklleaaGreat.Pl

/-- 2 to the number of bits behind the first n. -/
def blk (n : Int) : Int := ((2 ^ (32 - n.toNat) : Nat) : Int)
/-- May the prefix be? -/
def mayP (a n : Int) : Bool := decide (0 ≤ n) && (decide (n ≤ 32) && decide (a % blk n = 0))
/-- The first n bits, the others noughts. -/
def firstP (a n : Int) : Int := a / blk n * blk n
def hasP (a n x : Int) : Bool := mayP a n && decide (firstP x n = a)
def withinP (a n b m : Int) : Bool := mayP a n && (mayP b m && (decide (n ≤ m) && decide (firstP b n = a)))
def cmpI (x y : Int) : Int := if x < y then -1 else if y < x then 1 else 0
def cmpP (a n b m : Int) : Int := if cmpI a b = 0 then cmpI n m else cmpI a b

theorem blk_pos (n : Int) : 1 ≤ blk n := by
  unfold blk; have := Nat.pow_pos (n := 32 - n.toNat) (show 0 < 2 by decide); omega
theorem blk_le (n : Int) : blk n ≤ 4294967296 := by
  unfold blk; have := Nat.pow_le_pow_right (show 0 < 2 by decide) (show 32 - n.toNat ≤ 32 by omega); omega
/-- x & (2^32 - 2^k) = x / 2^k * 2^k below 2^32 -/
theorem and_mask (x k : Nat) (hx : x < 4294967296) (hk : k ≤ 32) : x &&& (4294967296 - 2 ^ k) = x / 2 ^ k * 2 ^ k := by
  apply Nat.eq_of_testBit_eq
  intro i
  have h1 : (4294967296 : Nat) - 2 ^ k = 2 ^ 32 - (2 ^ k - 1 + 1) := by
    have := Nat.pow_pos (n := k) (show 0 < 2 by decide); omega
  rw [Nat.testBit_and, h1, Nat.testBit_two_pow_sub_succ (by have := Nat.pow_le_pow_right (show 0 < 2 by decide) hk; have := Nat.pow_pos (n := k) (show 0 < 2 by decide); omega), Nat.testBit_two_pow_sub_one, Nat.mul_comm, Nat.testBit_two_pow_mul, Nat.testBit_div_two_pow]
  by_cases hi : i < 32
  · by_cases hik : i < k
    · simp [hik]; intro; omega
    · rw [Nat.sub_add_cancel (by omega)]; simp [hi, hik]; omega
  · have : x.testBit i = false := Nat.testBit_lt_two_pow (Nat.lt_of_lt_of_le hx (Nat.pow_le_pow_right (show 0 < 2 by decide) (show 32 ≤ i by omega)))
    by_cases hki : k ≤ i
    · rw [Nat.sub_add_cancel hki]; simp [this]
    · simp [this, hki]
theorem and_low (x k : Nat) : x &&& (2 ^ k - 1) = x % 2 ^ k := Nat.and_two_pow_sub_one_eq_mod x k
end Go.Proofs.YtfnjojdiiklleaaGreat.Pl
namespace Go.Proofs.YtfnjojdiiklleaaGreat
open Go.RowKit Pl

theorem ret_int {k : IntKind} {a b : Int} (h : a = b) : Ending.returned (.int k a) = .returned (.int k b) := by rw [h]

theorem grownBy_alloc {w w' : World} {o : Obj} {row : Option Nat} (h : (w.alloc o).grownBy w' row) : w.grownBy w' row :=
  ⟨h.os, h.tape, h.output, Nat.le_trans (by simp) h.size, fun i hi hne => (h.block i (by simp; omega) hne).trans (Below.heap_alloc w o i hi)⟩
theorem grownBy_drew {w w' : World} {row : Option Nat} (h : w.drew.grownBy w' row) : w.grownBy w' row := ⟨h.os, h.tape, h.output, h.size, h.block⟩

/-- 'out = append(out, x)', out the call's own, one cell an element: x lies in a new block of its own. -/
theorem wpList_push {P : Program} {ops : Array Oper} {rest : List Oper} {o : Oper} {a : Act} {Q : Exit → Act → World → Prop} {w0 : World} {e0 : TypeId} {u : Value} (hgd : o.guard = none) (s x : Operand) (t : TypeId)
    (ho : o.op = .call { callee := .builtin .append, args := #[s, x], argTypes := #[t, t] })
    (base : Nat) (e : TypeId) {z : Value} {bytes : Nat} (hinfo : (P.info? e).map (fun i => (i.zero, i.size, i.bytes)) = some (some z, 1, bytes)) (hzs : z.cells.size = 1) (hby : bytes ≤ 1000) (ht : P.underlying t = some (.slice e))
    (v : Value) (n : Nat) (xs : List Value) (hs : a.eval s = v) (hown : w0.ownsRow base e 1 v n xs) (hx : a.eval x = .slice (some ⟨w0.heap.size, 0, none⟩) 1 1) (hu : u.oneCell' = true)
    (hn : n ≤ 1000000000) (hbase : base ≤ w0.heap.size)
    (h : ∀ v' w', w'.ownsRow base e 1 v' (n + 1) (xs ++ [u]) → w0.grownBy w' v.ownBlock → wpList P ops Q rest (a.put o.dst v') w') : wpList P ops Q (o :: rest) a (w0.alloc (.cells #[u] e0)) := by
  obtain ⟨i0, hi, hz0, hz1, hz2⟩ := info_parts hinfo
  refine wpList_append_own _ hgd s x t ho base e i0 z 1 bytes ht hi hz0 hz1 hz2 hzs (by decide) v n xs hs (hown.alloc _) ⟨w0.heap.size, 0, none⟩ 1 1 [u] hx rfl (cell_one_new _ _ _) (by intro y hy; simp at hy; subst hy; exact hu) (by unfold maxLen; omega) ?_ (by simp; omega) fun v' w' h1 h2 _ => h v' w' h1 (grownBy_alloc h2)
  have : (n + 1) * bytes ≤ (n + 1) * 1000 := Nat.mul_le_mul_left _ hby
  omega

/-! ### Regions that draw their order, whose operations read what was there and whose callees make memory: one walk, in the order of the text. -/
/-- A world that keeps all that W holds. -/
structure Ext (W : World) where
  w : World
  below : Below W.heap.size W w
instance (W : World) : Nonempty (Ext W) := ⟨⟨W, Below.refl _ _⟩⟩
theorem wp_region_ext {P : Program} {id : Nat} {Q : Exit → Act → World → Prop} {a : Act} {W : World} {l : List Oper} (hm : P.follows .mixedOrders = true) (hB : Region.lexB .any l.toArray = true)
    (h : wpQuiet P l.toArray (fun w' => ∃ x : Ext W, w' = x.w) (fun a' => ∀ w', (∃ x : Ext W, w' = x.w) → Q .normal a' w') l a) : (Code.region id l.toArray true).wp P Q a W :=
  wp_region_quiet (C := fun w' => ∃ x : Ext W, w' = x.w) hm hB ⟨⟨_, (Below.refl _ W).drew⟩, rfl⟩ (by simpa using h)
theorem Ext.call {P : Program} {f : FuncId} {args : Array Value} {W : World} {x : Ext W} {v : Value}
    (h : Calls P f args x.w fun e w' => e = .returned v ∧ Below x.w.heap.size x.w w') : Calls P f args x.w fun e w'' => e = .returned v ∧ ∃ y : Ext W, w'' = y.w :=
  h.mono fun _ w' ⟨he, hb⟩ => ⟨he, ⟨w', x.below.trans (hb.mono x.below.size)⟩, rfl⟩
theorem Ext.callq {P : Program} {f : FuncId} {args : Array Value} {W : World} {x : Ext W} {v : Value}
    (h : Calls P f args x.w fun e w' => e = .returned v ∧ x.w = w') : Calls P f args x.w fun e w'' => e = .returned v ∧ ∃ y : Ext W, w'' = y.w :=
  h.mono fun _ _ ⟨he, hb⟩ => ⟨he, x, hb.symm⟩
@[go_sem] theorem Ext.cell {W : World} (x : Ext W) (p : Addr) (h : p.block < W.heap.size) : x.w.cell? p = W.cell? p := x.below.cell h
@[go_sem] theorem Ext.frozen {W : World} (x : Ext W) (p : Addr) (h : p.block < W.heap.size) : x.w.frozen? p = W.frozen? p := x.below.frozen h
theorem Ext.lift {w W : World} (y : Ext W) (h : Below w.heap.size w W) : Below w.heap.size w y.w := h.trans (y.below.mono h.size)
theorem bel_alloc {w W : World} (h : Below w.heap.size w W) (o : Obj) : Below w.heap.size w (W.alloc o) := h.alloc h.size o
theorem ext_of {P : Program} {f : FuncId} {args : Array Value} {W : World} {v : Value} (h : Calls P f args W fun e w' => e = .returned v ∧ Below W.heap.size W w') :
    Calls P f args W fun e w' => e = .returned v ∧ ∃ y : Ext W, w' = y.w := h.mono fun _ w' ⟨he, hb⟩ => ⟨he, ⟨w', hb⟩, rfl⟩
theorem own_below {w w' : World} {base : Nat} {e : TypeId} {size n : Nat} {v : Value} {xs : List Value} (h : w.ownsRow base e size v n xs) (hb : Below w.heap.size w w') : w'.ownsRow base e size v n xs :=
  h.kept (row := none) ⟨hb.os, hb.tape, hb.output, hb.size, fun i hi _ => hb.block i hi⟩ (by
    cases hv : v.ownBlock with
    | none => exact .inl rfl
    | some g => exact .inr (by simp))
theorem bel_set {w W : World} (h : Below w.heap.size w W) (k i : Nat) (u : Value) : Below w.heap.size w (W.setCell ⟨w.heap.size + k, i, none⟩ u) := h.setCell (Nat.le_add_right _ _) u
theorem bel_set0 {w W : World} (h : Below w.heap.size w W) (i : Nat) (u : Value) : Below w.heap.size w (W.setCell ⟨w.heap.size, i, none⟩ u) := h.setCell (Nat.le_refl _) u
def InExt (W wx : World) : Prop := ∃ y : Ext W, wx = y.w
theorem below_undrew {B : Nat} {w w' : World} (h : Below B w.drew w') : Below B w w' := ⟨h.os, h.tape, h.output, h.size, h.block⟩
def IsU64 (n : Int) : Prop := 0 ≤ n ∧ n < 18446744073709551616
/-- A list of bytes as a string. -/
def str (l : List UInt8) : ByteArray := ⟨l.toArray⟩
end Go.Proofs.YtfnjojdiiklleaaGreat
namespace Go.Proofs.YtfnjojdiiklleaaGreat
open Go.RowKit Pl

/-- Block g holds just the cells cs, of element type t, none of them frozen. -/
structure Whole (w : World) (g : Nat) (t : TypeId) (cs : Array Value) : Prop where
  is : w.heap[g]? = some (.cells cs t (0, 0))
section
variable {w w' : World} {g : Nat} {t : TypeId} {cs : Array Value}
theorem Whole.lt (h : Whole w g t cs) : g < w.heap.size := (Array.getElem?_eq_some_iff.1 h.is).1
theorem Whole.cell (h : Whole w g t cs) (i : Nat) : w.cell? ⟨g, i, none⟩ = cs[i]? := cell_of_row w g i cs t (0, 0) h.is
theorem Whole.frozen (h : Whole w g t cs) (i : Nat) : w.frozen? ⟨g, i, none⟩ = false := by simp [World.frozen?, h.is]
theorem Whole.new (w : World) (t : TypeId) (cs : Array Value) : Whole (w.alloc (.cells cs t)) w.heap.size t cs := ⟨heap_alloc_new w _⟩
theorem Whole.kept {row : Option Nat} (h : Whole w g t cs) (hg : w.grownBy w' row) (hne : some g ≠ row) : Whole w' g t cs := ⟨(hg.block g h.lt hne).trans h.is⟩
theorem Whole.below {B : Nat} (h : Whole w g t cs) (hb : Below B w w') (hg : g < B) : Whole w' g t cs := ⟨(hb.block g hg).trans h.is⟩
theorem Whole.here (h : Whole w g t cs) (hb : Below w.heap.size w w') : Whole w' g t cs := h.below hb h.lt
theorem Whole.drew (h : Whole w g t cs) : Whole w.drew g t cs := ⟨h.is⟩
theorem Whole.drewN (h : Whole w g t cs) (n : Nat) : Whole (w.drewN n) g t cs := ⟨h.is⟩
theorem Whole.alloc (h : Whole w g t cs) (o : Obj) : Whole (w.alloc o) g t cs := h.here ((Below.refl _ _).alloc (Nat.le_refl _) o)
theorem Whole.set (h : Whole w g t cs) (i : Nat) (u : Value) : Whole (w.setCell ⟨g, i, none⟩ u) g t (cs.setIfInBounds i u) := by
  have h1 := h.is
  exact ⟨by simp [World.setCell, Array.getElem?_modify, h1]⟩
theorem Whole.far (h : Whole w g t cs) {p : Addr} (hp : g ≠ p.block) (u : Value) : Whole (w.setCell p u) g t cs := ⟨(Below.heap_setCell w p u g hp).trans h.is⟩
theorem Whole.apart {g' : Nat} {t' : TypeId} {cs' : Array Value} (h : Whole w g t cs) (h' : Whole w g' t' cs') (hne : t ≠ t') : g ≠ g' := by
  rintro rfl
  have h1 := h.is
  rw [h'.is] at h1
  injection h1 with h1
  injection h1 with _ ht
  exact hne ht.symm
/-- A row of another element type lies elsewhere. -/
theorem Whole.notRow {base size n : Nat} {e : TypeId} {v : Value} {xs : List Value} (hg : Whole w g t cs) (h : w.ownsRow base e size v n xs) (hne : t ≠ e) : v.ownBlock ≠ some g := by
  rcases h.2 with ⟨rfl, _⟩ | ⟨g', cap, cur, rfl, _, hh, _⟩
  · simp [Value.ownBlock]
  · intro he
    have : g' = g := by simpa [Value.ownBlock] using he
    subst this
    exact hg.apart (g' := g') ⟨hh⟩ hne rfl
end
theorem whole_own {β : Type} (B : Nat) (t : TypeId) (f : β → Array Value) : Own (fun s W => Whole W B t (f s)) := fun s X Y row hs hg hrow =>
  hs.kept hg (fun e => by
    obtain ⟨o, ho, hc⟩ := hrow _ e.symm
    rw [hs.is] at ho
    injection ho with ho
    subst ho
    simp [Obj.isCells] at hc)
end Go.Proofs.YtfnjojdiiklleaaGreat
