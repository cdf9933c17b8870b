/- Part 4 of the proof: ConfR, PlainJ, ConfS, LinesC, ConfTx, Hex, ActD, ActE, ActF, PlainU. -/
import Derived.WalkMore
import Derived.Deep.LoopGhost
import Derived.Deep.DeepCutAuto
import Derived.Lib.AppendStr
import Derived.Lib.UnsafeStr
import Derived.Test.YtfbangojgjcbcaaGreatDoorShelf2
import Derived.OwnWalkIn
import Derived.Test.YtfbangojgjcbcaaGreatDoorSL01
import Derived.Test.YtfbangojgjcbcaaGreatDoorSL02
import Derived.Test.YtfbangojgjcbcaaGreatDoorSL03
namespace Go.Proofs.YtfbangojgjcbcaaGreatDoor.Pl
def goodTo (l : List Pr) (j : Nat) : Prop := rising (l.take j) = true ∧ (l.take j).all (fun p => mayP p.1 p.2) = true
theorem goodTo.start (l : List Pr) : goodTo l 0 := ⟨rfl, rfl⟩
theorem goodTo.first {l : List Pr} {p : Pr} (hp : l[0]? = some p) (hm : mayP p.1 p.2 = true) : goodTo l (0 + 1) := by
  have e : l.take (0 + 1) = [p] := by
    cases l with
    | nil => simp at hp
    | cons x l => simp at hp; subst hp; simp
  unfold goodTo
  rw [e]
  exact ⟨rfl, by simp [hm]⟩
theorem goodTo.next {l : List Pr} {j : Nat} {z p : Pr} (h : goodTo l (j + 1)) (hz : l[j]? = some z) (hp : l[j + 1]? = some p) (hm : mayP p.1 p.2 = true) (hc : cmpP z.1 z.2 p.1 p.2 = -1) : goodTo l (j + 1 + 1) := by
  obtain ⟨h1, h2⟩ := h
  have e1 : l.take (j + 1) = l.take j ++ [z] := by rw [List.take_add_one, hz]; rfl
  have e2 := take_two hz hp
  unfold goodTo
  rw [e2, rising_snoc2, ← e1, h1]
  refine ⟨by rw [hc]; rfl, ?_⟩
  rw [show l.take j ++ [z, p] = l.take (j + 1) ++ [p] by rw [e1]; simp, List.all_append, h2]
  simp [hm]
theorem goodTo.done {l : List Pr} {j : Nat} (h : goodTo l j) (hj : j = l.length ∨ (j = 9 ∧ 9 ≤ l.length)) : ownOk l = inI l.length 1 8 := by
  rcases hj with rfl | ⟨rfl, hl⟩
  · obtain ⟨h1, h2⟩ := h
    rw [List.take_length] at h1 h2
    unfold ownOk inI
    rw [h1, h2]
    simp
    rw [Bool.eq_iff_iff]; simp; omega
  · have : inI l.length 1 8 = false := by unfold inI; simp; omega
    rw [this]; exact ownOk_len (by omega)
end Go.Proofs.YtfbangojgjcbcaaGreatDoor.Pl
namespace Go.Proofs.YtfbangojgjcbcaaGreatDoor
open Go.RowKit Pl
end Go.Proofs.YtfbangojgjcbcaaGreatDoor
namespace Go.Proofs.YtfbangojgjcbcaaGreatDoor
open Go.RowKit Pl
end Go.Proofs.YtfbangojgjcbcaaGreatDoor
namespace Go.Proofs.YtfbangojgjcbcaaGreatDoor.Pl
open Go.Lib (decDigits itoa)
end Go.Proofs.YtfbangojgjcbcaaGreatDoor.Pl
namespace Go.Proofs.YtfbangojgjcbcaaGreatDoor.Pl
open Go.Lib (decDigits itoa)
structure SInv (c : Cfg) (st : Nat) : Prop where
  le : st ≤ 10
  node : 1 ≤ st → 1 ≤ c.node ∧ c.node ≤ 16
  addr : 2 ≤ st → 0 ≤ c.addr ∧ c.addr < 4294967296
  own0 : st < 3 → c.own = []
  own : 3 ≤ st → ownOk c.own = true
  ports0 : st < 3 → c.ports = []
  ports : c.ports.length ≤ 8 ∧ c.ports.all portOk = true
  owns : ∀ p ∈ c.own, 0 ≤ p.1 ∧ p.1 < 4294967296
  hello : 4 ≤ st → hasAny c.own c.addr = true ∧ 1 ≤ c.hello ∧ c.hello ≤ 100
  dead : 5 ≤ st → c.hello + 1 ≤ c.dead ∧ c.dead ≤ 100
  again : 6 ≤ st → 1 ≤ c.again ∧ c.again ≤ 100
  room : 7 ≤ st → 0 ≤ c.room ∧ c.room ≤ 64
  queue : 8 ≤ st → 1 ≤ c.queue ∧ c.queue ≤ 64
  tokens : 9 ≤ st → 0 ≤ c.tokens ∧ c.tokens ≤ 64
  refill : 10 ≤ st → 1 ≤ c.refill ∧ c.refill ≤ 100
theorem SInv.start : SInv {} 0 := ⟨by omega, fun h => by omega, fun h => by omega, fun _ => rfl, fun h => by omega, fun _ => rfl, by simp, by simp, fun h => by omega, fun h => by omega, fun h => by omega, fun h => by omega, fun h => by omega, fun h => by omega, fun h => by omega⟩
end Go.Proofs.YtfbangojgjcbcaaGreatDoor.Pl
namespace Go.Proofs.YtfbangojgjcbcaaGreatDoor.Pl
end Go.Proofs.YtfbangojgjcbcaaGreatDoor.Pl
namespace Go.Proofs.YtfbangojgjcbcaaGreatDoor
open Go.RowKit Pl
def Sv (l : List UInt8) : Value := .string (str l)
end Go.Proofs.YtfbangojgjcbcaaGreatDoor
namespace Go.Proofs.YtfbangojgjcbcaaGreatDoor
open Go.RowKit Pl
/-- Box R holds a slice of the call's own (from B on), which holds the lines ls. -/
structure LinesIs (B R : Nat) (ls : List (List UInt8)) (w : World) : Prop where
  is : ∃ v, B ≤ R ∧ Whole w R 40 #[v] ∧ w.ownsRow B 9 1 v ls.length (ls.map Sv)
theorem LinesIs.below {B R : Nat} {ls : List (List UInt8)} {w w' : World} (h : LinesIs B R ls w) (hb : Below w.heap.size w w') : LinesIs B R ls w' := by
  obtain ⟨v, h0, h1, h2⟩ := h.is
  exact ⟨v, h0, h1.here hb, own_below h2 hb⟩
end Go.Proofs.YtfbangojgjcbcaaGreatDoor
namespace Go.Proofs.YtfbangojgjcbcaaGreatDoor
open Go.RowKit Pl
/-- The slice value v holds the texts ls, in a block from lo on, below hi; or there are none. -/
def Ss (lo hi : Nat) (W : World) (v : Value) (ls : List (List UInt8)) : Prop :=
  ∃ (A : Option Addr) (c : Nat), v = .slice A ls.length c ∧ (0 < ls.length → ∃ b off, A = some ⟨b, off, none⟩ ∧ (lo ≤ b ∧ b < hi) ∧ ∀ j l, ls[j]? = some l → W.cell? ⟨b, off + j, none⟩ = some (.string (str l)))
theorem Ss.own {w : World} {base : Nat} {e : TypeId} {v : Value} {ls : List (List UInt8)} {n : Nat} (h : w.ownsRow base e 1 v n (ls.map Sv)) : Ss base w.heap.size w v ls := by
  have hn : n = ls.length := by have := h.1; simp at this; omega
  subst hn
  rcases h.2 with ⟨rfl, h0⟩ | ⟨g, cap, cur, rfl, hg, hh, hnc, _⟩
  · have h0' : ls = [] := by simpa using h0
    subst h0'; exact ⟨none, 0, rfl, fun h => absurd h (by simp)⟩
  · refine ⟨_, cap, rfl, fun hp => ⟨g, 0, rfl, ⟨(h.lt g rfl).1, (h.lt g rfl).2⟩, fun j l hl => ?_⟩⟩
    have := h.cells (g := g) rfl j (Sv l) (by rw [List.getElem?_map, hl]; rfl)
    rw [show ((⟨g, 0, none⟩ : Addr).add j) = ⟨g, 0 + j, none⟩ from by unfold Addr.add; by_cases hj : j = 0 <;> simp [hj]] at this
    exact this
theorem Ss.here {lo hi hi' : Nat} {w w' : World} {v : Value} {ls : List (List UInt8)} (h : Ss lo hi w v ls) (hh : hi ≤ w.heap.size) (hi2 : hi ≤ hi') (hb : Below w.heap.size w w') : Ss lo hi' w' v ls := by
  obtain ⟨A, c, rfl, hA⟩ := h
  refine ⟨A, c, rfl, fun hp => ?_⟩
  obtain ⟨b, off, h1, h2, h3⟩ := hA hp
  exact ⟨b, off, h1, ⟨h2.1, by omega⟩, fun j l hj => (hb.cell (p := ⟨b, off + j, none⟩) (show b < _ by omega)).trans (h3 j l hj)⟩
end Go.Proofs.YtfbangojgjcbcaaGreatDoor
namespace Go.Proofs.YtfbangojgjcbcaaGreatDoor
open Go.RowKit Pl
theorem LinesIs.push {B R : Nat} {ls : List (List UInt8)} {l : List UInt8} {w z w3 : World} {v v' : Value} (hW : Whole w R 40 #[v]) (hO : w.ownsRow B 9 1 v ls.length (ls.map Sv)) (hz : Below w.heap.size w z)
    (hO3 : w3.ownsRow B 9 1 v' (ls.length + 1) (ls.map Sv ++ [Sv l])) (hg : z.grownBy w3 v.ownBlock) (hBR : B ≤ R) (hBw : B ≤ w.heap.size) :
    ∃ g n k, v' = .slice (some ⟨g, 0, none⟩) n k ∧ w3.cell? ⟨R, 0, none⟩ = some v ∧ w3.frozen? ⟨R, 0, none⟩ = false ∧ LinesIs B R (ls ++ [l]) (w3.setCell ⟨R, 0, none⟩ v') ∧ Below B w (w3.setCell ⟨R, 0, none⟩ v') := by
  obtain ⟨g3, k3, rfl, _, _⟩ := hO3.form (by omega)
  have hno := hW.notRow hO (by decide)
  have hW3 := (hW.here hz).kept hg (Ne.symm hno)
  have hs := hz.size
  refine ⟨g3, _, k3, rfl, hW3.cell 0, hW3.frozen 0, ⟨_, hBR, hW3.set 0 _, ?_⟩, ?_⟩
  · rw [List.length_append, List.map_append]
    exact own_grown hW3 hO3 (by decide) (grown_set w3 R 0 _)
  · exact ((hz.mono hBw).grown hg (by omega) fun g hg' => (hO.lt g hg').1).setCell (p := ⟨R, 0, none⟩) hBR _
end Go.Proofs.YtfbangojgjcbcaaGreatDoor
namespace Go.Proofs.YtfbangojgjcbcaaGreatDoor
open Go.RowKit Pl
/-- Block b is a builder that holds the bytes l, in a row from base on. -/
structure BAt (base b : Nat) (l : List UInt8) (w : World) : Prop where
  is : ∃ p v, Whole w b 111 #[p, v] ∧ (p = .pointer none ∨ p = .pointer (some ⟨b, 0, none⟩)) ∧ w.ownsRow base 5 1 v l.length (cellsB l)
/-- All but block b, and but rows of cells from base on, lies as it lay. -/
structure Moves (base b : Nat) (w w' : World) : Prop where
  os : w'.os = w.os
  tape : w'.tape = w.tape
  output : w'.output = w.output
  size : w.heap.size ≤ w'.heap.size
  at_ : ∀ k o, w.heap[k]? = some o → k ≠ b → (k < base ∨ o.isCells = false) → w'.heap[k]? = some o
theorem Moves.refl (base b : Nat) (w : World) : Moves base b w w := ⟨rfl, rfl, rfl, Nat.le_refl _, fun _ _ h _ _ => h⟩
theorem Moves.trans {base b : Nat} {w w' w'' : World} (h : Moves base b w w') (h' : Moves base b w' w'') : Moves base b w w'' :=
  ⟨h'.os.trans h.os, h'.tape.trans h.tape, h'.output.trans h.output, Nat.le_trans h.size h'.size, fun k o ho hk hc => h'.at_ k o (h.at_ k o ho hk hc) hk hc⟩
theorem Moves.set (base b : Nat) (w : World) (i : Nat) (u : Value) : Moves base b w (w.setCell ⟨b, i, none⟩ u) :=
  ⟨rfl, rfl, rfl, by simp [World.setCell], fun k o ho hk _ => (Below.heap_setCell w ⟨b, i, none⟩ u k hk).trans ho⟩
theorem Moves.of_below {base b : Nat} {w w' : World} (h : Below w.heap.size w w') : Moves base b w w' :=
  ⟨h.os, h.tape, h.output, h.size, fun k _o ho _ _ => (h.block k (Array.getElem?_eq_some_iff.1 ho).1).trans ho⟩
/-- A row that the call owns, grown. -/
theorem Moves.grown {base b : Nat} {w w' : World} {e : TypeId} {size n : Nat} {v : Value} {xs : List Value} (hO : w.ownsRow base e size v n xs) (hg : w.grownBy w' v.ownBlock) : Moves base b w w' :=
  ⟨hg.os, hg.tape, hg.output, hg.size, fun k o ho _ hc => (hg.block k (Array.getElem?_eq_some_iff.1 ho).1 (fun e => by
    rcases hO.2 with ⟨rfl, _⟩ | ⟨g, cap, cur, rfl, hbg, hh, _⟩
    · simp [Value.ownBlock] at e
    · have : k = g := by simpa [Value.ownBlock] using e
      subst this
      rw [hh] at ho
      injection ho with ho
      subst ho
      rcases hc with hc | hc
      · omega
      · simp [Obj.isCells] at hc)).trans ho⟩
theorem BAt.here {base b : Nat} {l : List UInt8} {w w' : World} (h : BAt base b l w) (hb : Below w.heap.size w w') : BAt base b l w' := by
  obtain ⟨p, v, h1, h2, h3⟩ := h.is
  exact ⟨p, v, h1.here hb, h2, own_below h3 hb⟩
theorem Moves.drew {base b : Nat} {w w' : World} (h : Moves base b w w') : Moves base b w w'.drew := ⟨h.os, h.tape, h.output, h.size, h.at_⟩
end Go.Proofs.YtfbangojgjcbcaaGreatDoor
namespace Go.Proofs.YtfbangojgjcbcaaGreatDoor
open Go.RowKit Pl Go.Shelf
attribute [local go_sem] Oper.semAt_some
theorem Ss.keep {lo hi : Nat} {A B : World} (hb : Between lo hi A B) {v : Value} {ls : List (List UInt8)} (h : Ss lo hi A v ls) : Ss lo hi B v ls := by
  obtain ⟨P, c, rfl, hA⟩ := h
  refine ⟨P, c, rfl, fun hp => ?_⟩
  obtain ⟨b, off, rfl, hlt, hcell⟩ := hA hp
  exact ⟨b, off, rfl, hlt, fun j l hl => (hb.cell (p := ⟨b, off + j, none⟩) hlt.1 hlt.2).trans (hcell j l hl)⟩
end Go.Proofs.YtfbangojgjcbcaaGreatDoor
namespace Go.Proofs.YtfbangojgjcbcaaGreatDoor
open Go.RowKit Pl Go.Shelf
attribute [local go_sem] Oper.semAt_some
theorem BAt.own {α : Type} (base b : Nat) (f : α → List UInt8) : Own (fun s W => BAt base b (f s) W) := fun s X Y row hs hg hr => by
  obtain ⟨p, v, h1, h2, h3⟩ := hs.is
  refine ⟨p, v, whole_own b _ (fun (_ : Unit) => #[p, v]) () X Y row h1 hg hr, h2, h3.kept hg ?_⟩
  rcases h3.2 with ⟨rfl, _⟩ | ⟨g, cap, cur, rfl, _, hh, _⟩
  · exact .inl rfl
  · right
    intro e
    obtain ⟨o, ho, hc⟩ := hr g e.symm
    rw [hh] at ho
    injection ho with ho
    subst ho
    simp [Obj.isCells] at hc
theorem Moves.keeps {base b B : Nat} {w w' : World} (h : Moves base b w w') (hb : ∃ cs t fr, w.heap[b]? = some (.cells cs t fr)) : KeepsFrom B w w' :=
  KeepsOthers.from ⟨h.size, fun k o ho hc => h.at_ k o ho (by rintro rfl; obtain ⟨cs, t, fr, e⟩ := hb; rw [ho] at e; injection e with e; subst e; simp [Obj.isCells] at hc) (.inr hc)⟩ B
theorem Moves.between {base b lo hi : Nat} {w w' : World} (h : Moves base b w w') (hb : b < lo) (hh : hi ≤ base) (hs : hi ≤ w.heap.size) : Between lo hi w w' :=
  ⟨h.size, fun g h1 h2 => by
    obtain ⟨o, ho⟩ : ∃ o, w.heap[g]? = some o := ⟨_, Array.getElem?_eq_getElem (by omega)⟩
    rw [h.at_ g o ho (by omega) (.inl (by omega)), ho]⟩
theorem Moves.below {base b : Nat} {w w' : World} {B : Nat} (h : Moves base b w w') (hb : B ≤ b) (hB : B ≤ base) (hs : B ≤ w.heap.size) : Below B w w' :=
  ⟨h.os, h.tape, h.output, h.size, fun k hk => by
    obtain ⟨o, ho⟩ : ∃ o, w.heap[k]? = some o := ⟨_, Array.getElem?_eq_getElem (by omega)⟩
    rw [h.at_ k o ho (by omega) (.inl (by omega)), ho]⟩
end Go.Proofs.YtfbangojgjcbcaaGreatDoor
namespace Go.Proofs.YtfbangojgjcbcaaGreatDoor
open Go.RowKit Pl
theorem hx_ba (n : Nat) (h : n < (ByteArray.mk #[48, 49, 50, 51, 52, 53, 54, 55, 56, 57, 97, 98, 99, 100, 101, 102]).size) :
    (ByteArray.mk #[48, 49, 50, 51, 52, 53, 54, 55, 56, 57, 97, 98, 99, 100, 101, 102])[n] = hx n := by
  have k : ∀ m : Fin 16, (ByteArray.mk #[48, 49, 50, 51, 52, 53, 54, 55, 56, 57, 97, 98, 99, 100, 101, 102])[m.1]'m.2 = hx m.1 := by decide +kernel
  exact k ⟨n, h⟩
theorem and15 (x : UInt8) : bits .and .u8 (x.toNat : Int) 15 = ((x.toNat % 16 : Nat) : Int) := by
  have k : ∀ m : Fin 256, bits .and .u8 (m.1 : Int) 15 = ((m.1 % 16 : Nat) : Int) := by decide +kernel
  exact k ⟨x.toNat, x.toNat_lt⟩
theorem hex_two (l m : List UInt8) (x : UInt8) (h : m = l ++ hex1 x) : cellsB (l ++ [hx (x.toNat / 16)] ++ [hx (x.toNat % 16)]) = cellsB m := by
  subst h; simp [hex1]
set_option maxRecDepth 100000 in
set_option maxHeartbeats 1000000 in
theorem hex_any (v : Value) (l : List UInt8) (w : World) (hb : Bs w v l) (hl : l.length ≤ 1000000) :
    Calls Tryz.prog 172 #[v] w fun e w' => e = .returned (.string (str (hexText l))) ∧ Below w.heap.size w w' := by
  have HB := Lib.hid hb
  obtain ⟨A, c, rfl, hc, _, _⟩ := hb
  go_enter Tryz.func172, Tryz.ntmps172
  go_wp2
  go_loopw [8] (fun i wr => ∃ j : Nat, j ≤ l.length ∧ i = .int .i64 j ∧ Lib.IsBuilder 111 5 w.heap.size w.heap.size (cellsB (hexText (l.take j))) wr ∧ Below w.heap.size w wr) (fun i _ => l.length - (intOf i).toNat)
  case atStart =>
    exact ⟨0, Nat.zero_le _, rfl, Lib.fresh_isBuilder 111 5 w, bel_alloc (Below.refl _ _) _⟩
  case round =>
    obtain ⟨j, hj, rfl, hbu, hb⟩ := hrel
    by_cases hlt : j < l.length
    · obtain ⟨A', c', hv, _, _, hA⟩ := HB.out.below hb
      injection hv with hv1 hv2 hv3
      subst hv1 hv3
      obtain ⟨b, off, rfl, hbs, hcell⟩ := hA (by omega)
      have hcj : wr.cell? ⟨b, off + j, none⟩ = some (.int .u8 (l[j].toNat : Int)) := hcell j _ (by simp [cellsB, hlt])
      clear hcell hA
      have hlen : (hexText (l.take j)).length ≤ 2000000 := by rw [hexText_length, List.length_take]; omega
      have ht := hexText_take l j hlt
      obtain ⟨x, hx⟩ : ∃ x, l[j] = x := ⟨_, rfl⟩
      rw [hx] at hcj ht
      clear hx
      have hxl : (x.toNat : Int) < 256 := by have := x.toNat_lt; omega
      have hand := and15 x
      have HW := Lib.hid hbu
      clear hbu
      have hbz := hb.size
      go_wp2_with (go_at_call 195; rw [hx_ba]; refine (writeByte_any _ _ _ _ _ HW.out (by omega) hbz).mono ?_)
      rintro e w1 ⟨rfl, hw1, hb1⟩
      have hbz1 := hb1.size
      have HW1 := Lib.hid hw1
      clear hw1
      go_wp2_with (go_at_call 195; rw [hx_ba]; refine (writeByte_any _ _ _ _ _ HW1.out (by simp; omega) (by omega)).mono ?_)
      rintro e w2 ⟨rfl, hw2, hb2⟩
      rw [hex_two _ _ _ ht] at hw2
      have HW2 := Lib.hid hw2
      clear hw2
      go_wp2
      go_roundw
      case rel => exact ⟨j + 1, by omega, by go_num, HW2.out, hb.trans (hb1.trans hb2)⟩
      case measure => simp [intOf]; omega
    · obtain rfl : j = l.length := by omega
      rw [List.take_length] at hbu
      have hbz := hb.size
      have HW := Lib.hid hbu
      clear hbu
      go_wp2_with (go_at_call 63; refine (Tryz.Builder_String_any _ _ (hexText l) _ HW.out hbz).mono ?_)
      rintro e w1 ⟨rfl, hb1⟩
      go_wp2
      go_ret
      exact ⟨rfl, hb.trans hb1⟩
end Go.Proofs.YtfbangojgjcbcaaGreatDoor
namespace Go.Proofs.YtfbangojgjcbcaaGreatDoor
open Go.RowKit Pl Go.Shelf
theorem either_any (b : Bool) (s t : ByteArray) (w : World) : Calls Tryz.prog 137 #[.bool b, .string s, .string t] w fun e w' => e = .returned (.string (if b then s else t)) ∧ w = w' := by
  cases b with
  | true =>
    go_enter Tryz.func137, Tryz.ntmps137
    go_wp2
    go_ret
    exact ⟨rfl, rfl⟩
  | false =>
    go_enter Tryz.func137, Tryz.ntmps137
    go_wp2
    go_ret
    exact ⟨rfl, rfl⟩
theorem chex_any (v : Value) (l : List UInt8) (w : World) (h : Bs w v l) (hl : l.length ≤ 1000000) :
    Calls Tryz.prog 138 #[v] w fun e w' => e = .returned (.string (str (hexD l))) ∧ Below w.heap.size w w' := by
  have HH := Lib.hid (hex_any v l w h hl)
  obtain ⟨A, c, rfl, -⟩ := h
  by_cases h0 : 0 < l.length
  · have HR : Hid (str (hexText l) = str (hexD l)) := Lib.hid (by
      unfold hexD
      rw [if_neg (by intro e; rw [e] at h0; simp at h0)])
    go_enter Tryz.func138, Tryz.ntmps138
    go_wp2_with fail
    refine HH.out.mono ?_
    rintro e w1 ⟨rfl, hb⟩
    have HB := Lib.hid hb
    clear hb
    go_wp2_with fail
    refine (either_any _ _ _ _).mono ?_
    rintro e w2 ⟨rfl, rfl⟩
    go_wp2
    go_ret
    exact ⟨by rw [← HR.out]; rfl, HB.out⟩
  · have h1 : l = [] := List.eq_nil_of_length_eq_zero (by omega)
    subst h1
    go_enter Tryz.func138, Tryz.ntmps138
    go_wp2_with fail
    refine HH.out.mono ?_
    rintro e w1 ⟨rfl, hb⟩
    have HB := Lib.hid hb
    clear hb
    go_wp2_with fail
    refine (either_any _ _ _ _).mono ?_
    rintro e w2 ⟨rfl, rfl⟩
    go_wp2
    go_ret
    exact ⟨rfl, HB.out⟩
def kinds9 : List Nat := [1, 2, 3, 4, 5, 6, 7, 8, 9]
def names9 : List (List UInt8) := kinds9.map nameA
/-- What script.Names answers: its closure over a box that holds the slice of the first words. -/
def NamesOf (lo : Nat) (e : Ending) (w' : World) : Prop :=
  ∃ Bs v, e = .returned (.func (.func 141) #[] #[.pointer (some ⟨Bs, 0, none⟩)]) ∧ (lo ≤ Bs ∧ Bs < w'.heap.size) ∧ w'.cell? ⟨Bs, 0, none⟩ = some v ∧ Ss lo w'.heap.size w' v names9
set_option maxRecDepth 100000 in
theorem names_any (w : World) :
    Calls Tryz.prog 80 #[] w fun e w' => NamesOf w.heap.size e w' ∧ Below w.heap.size w w' := by
  go_enter Tryz.func80, Tryz.ntmps80
  go_wp2
  go_ret
  refine ⟨⟨w.heap.size + 1, .slice (some ⟨w.heap.size, 0, none⟩) 9 9, rfl, ⟨by omega, by simp⟩, ?_, ?_⟩, (by repeat (first | exact Below.refl _ _ | apply Below.drew | apply Go.below_drewN | apply bel_alloc | apply Ext.lift | apply bel_set0 | apply bel_set))⟩
  · exact World.cell?_alloc_at _ _ _ _ (by simp)
  · refine ⟨_, _, rfl, fun _ => ⟨w.heap.size, 0, rfl, ⟨Nat.le_refl _, by simp; omega⟩, fun j l hl => ?_⟩⟩
    rw [World.cell?_alloc_lt _ _ _ (by simp), Nat.zero_add, (Whole.new w 9 _).cell j]
    have hj : j < 9 := (List.getElem?_eq_some_iff.1 hl).1
    rcases (by omega : j = 0 ∨ j = 1 ∨ j = 2 ∨ j = 3 ∨ j = 4 ∨ j = 5 ∨ j = 6 ∨ j = 7 ∨ j = 8) with rfl | rfl | rfl | rfl | rfl | rfl | rfl | rfl | rfl <;> (injection hl with hl; subst hl; rfl)
set_option maxRecDepth 100000 in
set_option maxHeartbeats 4000000 in
theorem names1_in (F : Fence) (n : Nat) (hF : F.fn 141) (hro : F.round = none) (hn : 1 ≤ n) (l Bs lo hi : Nat) (v : Value) (J Jx : List Nat → World → Prop)
    (hY : ∀ (pre : List Nat) (x : Nat) (W : World), J pre W → pre.length < 9 → YieldAt F (n - 1) Tryz.prog l #[.int .i64 (x : Int), .string (str (nameA x))] W fun e W' =>
      (e = .returned (.bool true) ∧ J (pre ++ [x]) W' ∧ Between lo hi W W') ∨ (e = .returned (.bool false) ∧ Jx (pre ++ [x]) W'))
    (W : World) (hBs : W.cell? ⟨Bs, 0, none⟩ = some v) (hE : Ss lo hi W v names9) (h0 : J [] W) :
    CallsIn F n Tryz.prog 141 #[.func (.yield l) #[] #[], .pointer (some ⟨Bs, 0, none⟩)] W fun e W' => (∃ v, e = .returned v) ∧
      ((∃ ys, ys = kinds9 ∧ J ys W') ∨ (∃ pre, pre <+: kinds9 ∧ Jx pre W')) := by
  have HE := Lib.hid hE
  obtain ⟨A, c, rfl, _⟩ := hE
  change W.cell? ⟨Bs, 0, none⟩ = some (.slice A 9 c) at hBs
  refine callsIn_of_wp Tryz.func141 rfl hF ?_ hro
  simp only [Tryz.ntmps141, List.size_toArray, List.length_cons, List.length_nil, Nat.reduceAdd, Nat.reduceSub, Array.replicate_succ, Array.replicate_zero, List.push_toArray, List.append_toArray, List.nil_append, List.cons_append]
  gi_wp2
  gi_loopw [7] (fun i wr => ∃ k : Nat, k ≤ 9 ∧ i = .int .i64 k ∧ J (kinds9.take k) wr ∧ Between lo hi W wr) (fun i _ => 9 - (intOf i).toNat)
  case atStart => exact ⟨0, Nat.zero_le _, rfl, h0, Between.refl _⟩
  case round =>
    obtain ⟨k, hk, rfl, hJs, hnx⟩ := hrel
    by_cases hlt : k < 9
    · obtain ⟨A', c', hv, hA⟩ := HE.out.keep hnx
      injection hv with hv1 hv2 hv3
      subst hv1 hv3
      obtain ⟨b, off, rfl, hb, hcell⟩ := hA (by decide)
      have hu : kinds9[k]? = some (k + 1) := by rcases (by omega : k = 0 ∨ k = 1 ∨ k = 2 ∨ k = 3 ∨ k = 4 ∨ k = 5 ∨ k = 6 ∨ k = 7 ∨ k = 8) with rfl | rfl | rfl | rfl | rfl | rfl | rfl | rfl | rfl <;> rfl
      have c0 := hcell k (nameA (k + 1)) (by unfold names9; rw [List.getElem?_map, hu]; rfl)
      have HT : Hid (kinds9.take (k + 1) = kinds9.take k ++ [k + 1]) := Lib.hid (by rw [List.take_add_one, hu]; rfl)
      clear hcell hA hu hv2
      have hkl : (kinds9.take k).length < 9 := by
        have : kinds9.length = 9 := rfl
        rw [List.length_take, this]; omega
      obtain ⟨fn, tmps, assign, body, hy, hR⟩ := hY (kinds9.take k) (k + 1) _ hJs hkl
      have ek : ((k + 1 : Nat) : Int) = (k : Int) + 1 := by omega
      rw [ek] at hy
      clear hkl ek
      gi_wp2
      refine hR.mono ?_
      rintro e W3 (⟨rfl, hJ3, hk3⟩ | ⟨rfl, hJx3⟩)
      · gi_wp2
        go_roundw
        case rel => exact ⟨k + 1, by omega, by go_num, by rw [HT.out]; exact hJ3, hnx.trans hk3⟩
        case measure => simp [intOf]; omega
      · gi_wp2
        refine bodyPost_ret (results_none rfl _ _ _) rfl ?_
        exact ⟨⟨_, rfl⟩, .inr ⟨kinds9.take k ++ [k + 1], by rw [← HT.out]; exact List.take_prefix _ _, hJx3⟩⟩
    · obtain rfl : k = 9 := by omega
      have e9 : kinds9.take 9 = kinds9 := rfl
      rw [e9] at hJs
      gi_wp2
      go_end0
      exact ⟨⟨_, rfl⟩, .inl ⟨_, rfl, hJs⟩⟩
theorem names1_stops (F : Fence) (n : Nat) (hF : F.fn 141) (hro : F.round = none) (hn : 1 ≤ n) (Bs lo hi : Nat) (v : Value) (w : World) (hBn : Bs < w.heap.size) (hhi : hi ≤ w.heap.size)
    (hc : w.cell? ⟨Bs, 0, none⟩ = some v) (hE : Ss lo hi w v names9) :
    SeqStopsK F n Tryz.prog 141 #[.pointer (some ⟨Bs, 0, none⟩)] (fun x : Nat => #[.int .i64 (x : Int), .string (str (nameA x))]) (Between lo hi) (fun ys => ys = kinds9) (fun pre => pre <+: kinds9) 9 w := fun l J Jx W hW _ _ hY h0 =>
  names1_in F n hF hro hn l Bs lo hi v J Jx hY W ((hW.cell (p := ⟨Bs, 0, none⟩) hBn).trans hc) (hE.keep (Between.of_below (hW.mono hhi))) h0
end Go.Proofs.YtfbangojgjcbcaaGreatDoor
namespace Go.Proofs.YtfbangojgjcbcaaGreatDoor
open Go.RowKit Pl Go.Shelf
open Go.Lib (itoa)
theorem keeps_below {w w' : World} (h : Below w.heap.size w w') : KeepsOthers w w' := ⟨h.size, fun k o hk _ => (h.block k (Array.getElem?_eq_some_iff.1 hk).1).trans hk⟩
theorem keeps_row {z w3 : World} {base size n : Nat} {e : TypeId} {v : Value} {xs : List Value} (h : z.ownsRow base e size v n xs) (hg : z.grownBy w3 v.ownBlock) : KeepsOthers z w3 :=
  KeepsOthers.of_grownBy hg fun j o hj ho => by
    rcases h.2 with ⟨rfl, _⟩ | ⟨g, cap, cur, rfl, _, hh, _⟩
    · simp [Value.ownBlock] at hj
    · have : g = j := by simpa [Value.ownBlock] using hj
      subst this
      rw [hh] at ho
      injection ho with ho
      subst ho
      rfl
theorem LinesIs.push' {B R : Nat} {ls : List (List UInt8)} {l : List UInt8} {w z w3 : World} {v v' : Value} (hW : Whole w R 40 #[v]) (hO : w.ownsRow B 9 1 v ls.length (ls.map Sv)) (hz : Below w.heap.size w z)
    (hO3 : w3.ownsRow B 9 1 v' (ls.length + 1) (ls.map Sv ++ [Sv l])) (hg : z.grownBy w3 v.ownBlock) (hBR : B ≤ R) (hBw : B ≤ w.heap.size) :
    ∃ g n k, v' = .slice (some ⟨g, 0, none⟩) n k ∧ w3.cell? ⟨R, 0, none⟩ = some v ∧ w3.frozen? ⟨R, 0, none⟩ = false ∧ LinesIs B R (ls ++ [l]) (w3.setCell ⟨R, 0, none⟩ v') ∧ Below B w (w3.setCell ⟨R, 0, none⟩ v') ∧ KeepsOthers w (w3.setCell ⟨R, 0, none⟩ v') := by
  obtain ⟨g, n, k, h1, h2, h3, h4, h5⟩ := LinesIs.push hW hO hz hO3 hg hBR hBw
  exact ⟨g, n, k, h1, h2, h3, h4, h5, ((keeps_below hz).trans (keeps_row (own_below hO hz) hg)).trans (KeepsOthers.setCell _ _ _)⟩
set_option maxRecDepth 100000 in
set_option maxHeartbeats 4000000 in
theorem put_any (B R g c : Nat) (ns : List Int) (ls : List (List UInt8)) (w : World) (h : LinesIs B R ls w) (hg : Whole w g 3 (ns.map (Value.int .i64)).toArray) (hn : ∀ n ∈ ns, In64 n) (hnl : ns.length ≤ 4) (hll : ls.length ≤ 4) (hc : ns.length ≤ c) (E : Env w) (hB0 : 8 ≤ B) (hBw : B ≤ w.heap.size) :
    Calls Tryz.prog 136 #[.slice (some ⟨g, 0, none⟩) ns.length c, .pointer (some ⟨R, 0, none⟩)] w fun e w' => e = .returned (.tuple #[]) ∧ LinesIs B R (ls ++ ns.map itoa) w' ∧ Below B w w' ∧ KeepsOthers w w' := by
  have HG := Lib.hid hg
  have HL := Lib.hid h
  have HN := Lib.hid hn
  have E0 := Lib.hid E
  clear hg h hn E
  go_enter Tryz.func136, Tryz.ntmps136
  go_wp2
  go_loopw [7] (fun i wr => ∃ k : Nat, k ≤ ns.length ∧ i = .int .i64 k ∧ Hid (LinesIs B R (ls ++ (ns.take k).map itoa) wr) ∧ Hid (Whole wr g 3 (ns.map (Value.int .i64)).toArray) ∧ Hid (Below B w wr) ∧ Hid (KeepsOthers w wr)) (fun i _ => ns.length - (intOf i).toNat)
  case atStart => exact ⟨0, Nat.zero_le _, rfl, Lib.hid (by simpa using HL.out), HG, Lib.hid (Below.refl _ _), Lib.hid (KeepsOthers.refl _)⟩
  case round =>
    obtain ⟨k, hk, rfl, HLr, HGr, HB, HKO⟩ := hrel
    by_cases hlt : k < ns.length
    · obtain ⟨n, hnk⟩ : ∃ n, ns[k]? = some n := ⟨_, List.getElem?_eq_getElem hlt⟩
      have hin := HN.out n (List.mem_of_getElem? hnk)
      have hck : wr.cell? ⟨g, k, none⟩ = some (.int .i64 n) := by
        rw [HGr.out.cell k]
        simp [hnk]
      have HNK : Hid ((ls ++ (ns.take (k + 1)).map itoa) = (ls ++ (ns.take k).map itoa) ++ [itoa n]) := Lib.hid (by rw [List.take_add_one, hnk]; simp)
      have hll2 : (ls ++ (ns.take k).map itoa).length ≤ 8 := by simp; omega
      have s1 : (str (itoa n)).size ≤ 20 := by rw [str_size]; exact itoa_len20 hin
      obtain ⟨lt, hlt'⟩ : ∃ lt, ls ++ (ns.take k).map itoa = lt := ⟨_, rfl⟩
      rw [hlt'] at HLr HNK hll2
      obtain ⟨v, hBR, hW, hO⟩ := HLr.out.is
      have hGr := HGr.out
      have HW := Lib.hid hW
      have HO := Lib.hid hO
      have hR := hW.lt
      have c0 : wr.cell? ⟨R, 0, none⟩ = some v := hW.cell 0
      have hno := hW.notRow hO (by decide)
      have hgR := hGr.apart hW (by decide)
      have hgO := hGr.notRow hO (by decide)
      have hBr := HB.out.size
      clear hnk hlt' hW hO hGr
      go_upto_region 3 with fail
      refine wp_region_ext_load (v := v) 3 (by kernel_rfl) (by kernel_rfl) rfl rfl (.inl ⟨rfl, ?_⟩) (fun _ _ _ h => h) ?_
      · rintro _ ⟨x, rfl⟩
        have cx := (x.cell ⟨R, 0, none⟩ hR).trans c0
        go_simp
      simp only [List.take_succ_cons, List.take_zero, List.drop_succ_cons, List.drop_zero, Act.put, List.setIfInBounds_toArray, List.set_cons_succ, List.set_cons_zero]
      repeat (go_big_quiet_step (first | (go_at_call 58; exact Ext.call (itoa_all _ _ hin.1 hin.2 (Ext.env _ (E0.out.below hB0 HB.out))))))
      refine wpQuiet_nil ?_
      rintro _ ⟨z, rfl⟩
      go_wp2
      have hb2 := z.below.size
      refine ⟨⟨⟨_, bel_alloc z.below _⟩, rfl⟩, ?_⟩
      have hown2 := own_below HO.out z.below
      go_wp2_with (at_builtin; refine wpList_push rfl _ _ 40 rfl B 9 info_str rfl (by decide) Tryz.underlying40 _ _ _ rfl hown2 rfl rfl (by omega) (by omega) ?_)
      intro v' w3 hown3 hg
      obtain ⟨g3, n3, k3, rfl, c3, f3, hL3, hB3, hK3⟩ := LinesIs.push' (l := itoa n) HW.out HO.out z.below hown3 hg hBR (by omega)
      have HL3 : Hid (LinesIs B R (lt ++ [itoa n]) (w3.setCell ⟨R, 0, none⟩ (.slice (some ⟨g3, 0, none⟩) n3 k3))) := Lib.hid hL3
      have HG3 : Hid (Whole (w3.setCell ⟨R, 0, none⟩ (.slice (some ⟨g3, 0, none⟩) n3 k3)) g 3 (ns.map (Value.int .i64)).toArray) := Lib.hid (((HGr.out.here z.below).kept hg (Ne.symm hgO)).far hgR _)
      have HB3 : Hid (Below B w (w3.setCell ⟨R, 0, none⟩ (.slice (some ⟨g3, 0, none⟩) n3 k3))) := Lib.hid (HB.out.trans hB3)
      have HK3 : Hid (KeepsOthers w (w3.setCell ⟨R, 0, none⟩ (.slice (some ⟨g3, 0, none⟩) n3 k3))) := Lib.hid (HKO.out.trans hK3)
      clear hown2 hown3 hg hL3 hB3 hK3 hno hgR hgO
      go_wp2
      go_roundw
      case rel => exact ⟨k + 1, by omega, by go_num, by rw [HNK.out]; exact HL3, HG3, HB3, HK3⟩
      case measure => simp [intOf]; omega
    · obtain rfl : k = ns.length := by omega
      have HLE : Hid (LinesIs B R (ls ++ ns.map itoa) wr) := Lib.hid (by have := HLr.out; rw [List.take_length] at this; exact this)
      go_wp2
      go_end0
      exact ⟨rfl, HLE.out, HB.out, HKO.out⟩
end Go.Proofs.YtfbangojgjcbcaaGreatDoor
namespace Go.Proofs.YtfbangojgjcbcaaGreatDoor
open Go.RowKit Pl Go.Shelf
open Go.Lib (itoa)
attribute [local go_sem] Oper.semAt_some
/-- 'out = append(out, x)' within a fence. -/
theorem wpListIn_push {F : Fence} {n : Nat} {P : Program} {ops : Array Oper} {rest : List Oper} {o : Oper} {a : Act} {Q : Exit → Act → World → Prop} {w0 : World} {e0 : TypeId} {u : Value} (hgd : o.guard = none) (s x : Operand) (t : TypeId)
    (ho : o.op = .call { callee := .builtin .append, args := #[s, x], argTypes := #[t, t] })
    (base : Nat) (e : TypeId) {z : Value} {bytes : Nat} (hinfo : (P.info? e).map (fun i => (i.zero, i.size, i.bytes)) = some (some z, 1, bytes)) (hzs : z.cells.size = 1) (hby : bytes ≤ 1000) (ht : P.underlying t = some (.slice e))
    (v : Value) (k : Nat) (xs : List Value) (hs : a.eval s = v) (hown : w0.ownsRow base e 1 v k xs) (hx : a.eval x = .slice (some ⟨w0.heap.size, 0, none⟩) 1 1) (hu : u.oneCell' = true)
    (hk : k ≤ 1000000000) (hbase : base ≤ w0.heap.size)
    (h : ∀ v' w', w'.ownsRow base e 1 v' (k + 1) (xs ++ [u]) → w0.grownBy w' v.ownBlock → wpListIn F n P ops Q rest (a.put o.dst v') w') : wpListIn F n P ops Q (o :: rest) a (w0.alloc (.cells #[u] e0)) := by
  obtain ⟨i0, hi, hz0, hz1, hz2⟩ := info_parts hinfo
  refine wpListIn_append_own _ hgd s x t ho base e i0 z 1 bytes ht hi hz0 hz1 hz2 hzs (by decide) v k xs hs (hown.alloc _) ⟨w0.heap.size, 0, none⟩ 1 1 [u] hx rfl (cell_one_new _ _ _) (by intro y hy; simp at hy; subst hy; exact hu) (by unfold maxLen; omega) ?_ (by simp; omega) fun v' w' h1 h2 _ => h v' w' h1 (grownBy_alloc h2)
  have : (k + 1) * bytes ≤ (k + 1) * 1000 := Nat.mul_le_mul_left _ hby
  omega
/-- Box R holds a slice of the words ls, its row from base on. -/
structure WordsAt (base R : Nat) (ls : List (List UInt8)) (w : World) : Prop where
  is : ∃ v, Whole w R 40 #[v] ∧ w.ownsRow base 9 1 v ls.length (ls.map Sv)
theorem WordsAt.own {α : Type} (base R : Nat) (f : α → List (List UInt8)) : Own (fun s W => WordsAt base R (f s) W) := fun s X Y row hs hg hr => by
  obtain ⟨v, h1, h2⟩ := hs.is
  refine ⟨v, whole_own R _ (fun (_ : Unit) => #[v]) () X Y row h1 hg hr, h2.kept hg ?_⟩
  rcases h2.2 with ⟨rfl, _⟩ | ⟨g, cap, cur, rfl, _, hh, _⟩
  · exact .inl rfl
  · right
    intro e
    obtain ⟨o, ho, hc⟩ := hr g e.symm
    rw [hh] at ho
    injection ho with ho
    subst ho
    simp [Obj.isCells] at hc
theorem WordsAt.lines {base B R : Nat} {ls : List (List UInt8)} {w : World} (h : WordsAt base R ls w) (hB : B ≤ base) (hR : B ≤ R := by omega) : LinesIs B R ls w := by
  obtain ⟨v, h1, h2⟩ := h.is
  refine ⟨v, hR, h1, h2.1, ?_⟩
  rcases h2.2 with h3 | ⟨g, cap, cur, a1, a2, a3⟩
  · exact .inl h3
  · exact .inr ⟨g, cap, cur, a1, Nat.le_trans hB a2, a3⟩
theorem join_len (c : UInt8) (M : Nat) : ∀ ls : List (List UInt8), (∀ l ∈ ls, l.length ≤ M) → (Lib.join ls [c]).length ≤ (M + 1) * ls.length
  | [], _ => by simp [Lib.join]
  | [x], h => by have := h x (by simp); simp [Lib.join]; omega
  | x :: y :: r, h => by
    have ih := join_len c M (y :: r) (fun l hl => h l (List.mem_cons_of_mem _ hl))
    have hx := h x (by simp)
    rw [Pl.join_two, List.length_append, List.length_cons, List.length_cons, Nat.mul_add]
    omega
theorem in_byte (b : UInt8) : In64 (b.toNat : Int) := by
  have := b.toNat_lt
  constructor <;> omega
theorem name_len : ∀ k : Nat, (nameA k).length ≤ 6
  | 0 | 1 | 2 | 3 | 4 | 5 | 6 | 7 | 8 | 9 => by decide
  | _ + 10 => by simp [nameA]
theorem words_len {k : Nat} {ns : List Int} (hn : ∀ x ∈ ns, In64 x) : ∀ l ∈ [nameA k] ++ ns.map itoa, l.length ≤ 100 := by
  intro l hl
  rcases List.mem_append.1 hl with h | h
  · simp only [List.mem_singleton] at h
    subst h
    have := name_len k
    omega
  · obtain ⟨x, hx, rfl⟩ := List.mem_map.1 h
    have := itoa_len20 (hn x hx)
    omega
/-- A region that ends in no other way than behind itself. -/
theorem wp_calm {P : Program} {c : Code} {Q : Exit → Act → World → Prop} {a : Act} {w : World} (h : c.wp P (Exit.then (fun a w => Q .normal a w) (fun _ _ _ => False)) a w) : c.wp P Q a w :=
  wp_mono h fun e _ _ h => by cases e <;> first | exact h | exact h.elim
theorem words_more {M : Nat} {ws : List (List UInt8)} {x : List UInt8} (h : ∀ l ∈ ws, l.length ≤ M) (hx : x.length ≤ M) : ∀ l ∈ ws ++ [x], l.length ≤ M := by
  intro l hl
  rcases List.mem_append.1 hl with h' | h'
  · exact h l h'
  · simp only [List.mem_singleton] at h'
    rw [h']; exact hx
theorem hexD_len (l : List UInt8) : (hexD l).length ≤ 2 * l.length + 1 := by
  unfold hexD
  split
  · simp
  · have : (hexText l).length = 2 * l.length := by
      unfold hexText
      induction l with
      | nil => rfl
      | cons x r ih =>
        rw [List.flatMap_cons, List.length_append]
        by_cases hr : r = []
        · subst hr; rfl
        · rw [ih hr]
          simp [hex1]; omega
    omega
/-- The first word, once it has come. -/
def wordOf (k : Int) (pre : List Nat) : List (List UInt8) := (pre.filter fun (x : Nat) => decide ((x : Int) = k)).map nameA
theorem wordOf_next (k : Int) (pre : List Nat) (x : Nat) : wordOf k (pre ++ [x]) = if (x : Int) = k then wordOf k pre ++ [nameA x] else wordOf k pre := by
  unfold wordOf
  rw [List.filter_append, List.map_append]
  by_cases h : (x : Int) = k <;> simp [h]
theorem wordOf_len (k : Int) (pre : List Nat) : (wordOf k pre).length ≤ pre.length := by
  unfold wordOf
  rw [List.length_map]
  exact List.length_filter_le _ _
theorem wordOf_all {k : Int} (h0 : 1 ≤ k) (h1 : k ≤ 9) : wordOf k kinds9 = [nameA k.toNat] := by
  rcases (by omega : k = 1 ∨ k = 2 ∨ k = 3 ∨ k = 4 ∨ k = 5 ∨ k = 6 ∨ k = 7 ∨ k = 8 ∨ k = 9) with rfl | rfl | rfl | rfl | rfl | rfl | rfl | rfl | rfl <;> rfl
/-- One word more. -/
theorem WordsAt.push {base R : Nat} {ls : List (List UInt8)} {l : List UInt8} {w w3 : World} {v v' : Value} (hW : Whole w R 40 #[v]) (hO : w.ownsRow base 9 1 v ls.length (ls.map Sv))
    (hO3 : w3.ownsRow base 9 1 v' (ls.length + 1) (ls.map Sv ++ [Sv l])) (hg : w.grownBy w3 v.ownBlock) (hRb : R < base) (hbw : base ≤ w.heap.size) :
    ∃ g n k, v' = .slice (some ⟨g, 0, none⟩) n k ∧ w3.cell? ⟨R, 0, none⟩ = some v ∧ w3.frozen? ⟨R, 0, none⟩ = false ∧ WordsAt base R (ls ++ [l]) (w3.setCell ⟨R, 0, none⟩ v') ∧ Below R w (w3.setCell ⟨R, 0, none⟩ v') ∧
      KeepsOthers w (w3.setCell ⟨R, 0, none⟩ v') ∧ (∀ lo hi, R < lo → hi ≤ base → hi ≤ w.heap.size → Between lo hi w (w3.setCell ⟨R, 0, none⟩ v')) ∧ w.heap.size ≤ (w3.setCell ⟨R, 0, none⟩ v').heap.size := by
  obtain ⟨g3, k3, rfl, _, _⟩ := hO3.form (by omega)
  have hno := hW.notRow hO (by decide)
  have hW3 := hW.kept hg (Ne.symm hno)
  refine ⟨g3, _, k3, rfl, hW3.cell 0, hW3.frozen 0, ⟨_, hW3.set 0 _, ?_⟩, ?_, (keeps_row hO hg).trans (KeepsOthers.setCell _ _ _), fun lo hi h1 h2 h3 => ⟨by rw [size_setCell]; exact hg.size, fun g ha hb => ?_⟩, by rw [size_setCell]; exact hg.size⟩
  · rw [List.length_append, List.map_append]
    exact own_grown hW3 hO3 (by decide) (grown_set w3 R 0 _)
  · exact ((Below.refl R w).grown hg (by omega) fun g hg' => by have := (hO.lt g hg').1; omega).setCell (p := ⟨R, 0, none⟩) (Nat.le_refl _) _
  · rw [Below.heap_setCell w3 _ _ g (by show g ≠ R; omega)]
    refine hg.block g (by omega) ?_
    intro he
    have := (hO.lt g he.symm).1
    omega
set_option maxRecDepth 100000 in
set_option maxHeartbeats 8000000 in
theorem cactText_any (a : ActP) (bv : Value) (w : World) (hk : K9 a) (h : Bs w bv a.bytes) (hi : InA a) (hl : a.bytes.length ≤ 100000) (E : Env w) :
    Calls Tryz.prog 75 #[actV a bv] w fun e w' => e = .returned (.string (str (actText a))) ∧ Below w.heap.size w w' := by
  have HBV := Lib.hid h
  have HI := Lib.hid hi
  obtain ⟨A, c, rfl, -⟩ := h
  obtain ⟨k, node, port, cost, n, up, by_, unread, bytes⟩ := a
  obtain ⟨W0, hW0⟩ : ∃ W0, (w.alloc (.cells #[.int .i64 k, .int .i64 node, .int .i64 port, .int .i64 cost, .int .i64 n, .bool up, .int .u8 (by_.toNat : Int), .bool unread, .slice A bytes.length c] 51)).alloc (.cells #[.slice none 0 0] 40) = W0 := ⟨_, rfl⟩
  have HB0 : Hid (Below w.heap.size w W0) := Lib.hid (by rw [← hW0]; exact ((Below.refl _ _).alloc (Nat.le_refl _) _).alloc (by simp) _)
  have HX : Hid (Whole W0 w.heap.size 51 #[.int .i64 k, .int .i64 node, .int .i64 port, .int .i64 cost, .int .i64 n, .bool up, .int .u8 (by_.toNat : Int), .bool unread, .slice A bytes.length c]) := Lib.hid (by rw [← hW0]; exact (Whole.new w _ _).alloc _)
  have HR : Hid (Whole W0 (w.heap.size + 1) 40 #[.slice none 0 0]) := Lib.hid (by
    rw [← hW0]
    have := Whole.new (w.alloc (.cells #[.int .i64 k, .int .i64 node, .int .i64 port, .int .i64 cost, .int .i64 n, .bool up, .int .u8 (by_.toNat : Int), .bool unread, .slice A bytes.length c] 51)) 40 #[.slice none 0 0]
    simpa using this)
  have hs0 : W0.heap.size = w.heap.size + 2 := by rw [← hW0]; simp
  have HW0 := Lib.hid hW0
  have E0 := Lib.hid (E.here HB0.out)
  have hNB := E.size
  have HK := Lib.hid hk
  clear hW0 E hi hk
  refine (callsIn_wide (n := 3)).1 ?_
  refine callsIn_of_wp_marks Tryz.func75 rfl trivial ?_ rfl
  simp only [Tryz.ntmps75, List.size_toArray, List.length_cons, List.length_nil, Nat.reduceAdd, Nat.reduceSub, Array.replicate_succ, Array.replicate_zero, List.push_toArray, List.append_toArray, List.nil_append, List.cons_append]
  gi_wp2
  rw [HW0.out]
  refine ⟨trivial, (callsIn_wide.2 (names_any W0)).mono ?_⟩
  rintro e W3 ⟨⟨Bq, vs, rfl, ⟨hlo, hBq⟩, hc, hS⟩, hb3⟩
  have HB3 := Lib.hid hb3
  have HS := Lib.hid hS
  have HBW : Hid (Below (w.heap.size + 1) W0 W3) := Lib.hid (hb3.mono (by omega))
  have HX3 := Lib.hid (HX.out.here hb3)
  have HR3 := Lib.hid (HR.out.here hb3)
  have hs3 := hb3.size
  have HW3 : Hid (WordsAt W3.heap.size (w.heap.size + 1) [] W3) := Lib.hid ⟨_, HR3.out, by simpa using World.ownsRow_nil _ _ _ _⟩
  clear hb3 hS
  gi_wp2
  refine wpIn_rangeFunc_ownH (F := Fence.wide) rfl (by decide) (gf := 141) (lb := #[.pointer (some ⟨Bq, 0, none⟩)]) rfl trivial (enters_of Tryz.func141 (by kernel_rfl) rfl)
    (names1_stops Fence.wide 2 trivial rfl (by decide) Bq W0.heap.size W3.heap.size vs W3 hBq (Nat.le_refl _) hc HS.out) Between.trans (fun W l o o' hl _ _ _ => Between.put hl) (Below.refl _ _) (fun _ => rfl)
    (fun pre W => (WordsAt W3.heap.size (w.heap.size + 1) (wordOf k pre) W ∧ Below (w.heap.size + 1) W3 W) ∧ W3.heap.size ≤ W.heap.size)
    (fun _ _ _ => False)
    (OwnFrom.and (OwnFrom.and (Own.from (WordsAt.own _ _ (fun pre : List Nat => wordOf k pre)) _) (ownFrom_below (by omega) (by omega))) (fun _ _ _ _ hs hg _ => Nat.le_trans hs hg.size))
    (fun _ _ _ _ _ hs _ _ => hs)
    ⟨⟨HW3.out, Below.refl _ _⟩, Nat.le_refl _⟩
    (fun x a' _ => a' = { tmps := #[.agg #[.int .i64 k, .int .i64 node, .int .i64 port, .int .i64 cost, .int .i64 n, .bool up, .int .u8 (by_.toNat : Int), .bool unread, .slice A bytes.length c], .pointer (some ⟨w.heap.size, 0, none⟩), .string ⟨#[]⟩, .pointer (some ⟨w.heap.size + 1, 0, none⟩), .int .i64 (x : Int), .string (str (nameA x)), undef, .func (.func 141) #[] #[.pointer (some ⟨Bq, 0, none⟩)], .int .i64 (x : Int), .string (str (nameA x)), undef, undef, undef, undef, undef, undef, undef, undef, undef, undef, undef, undef, undef, undef, undef, undef, undef, undef, undef, undef, undef, undef, undef, undef, undef, undef, undef, undef, undef, undef, undef, undef, undef, undef, undef, undef, undef, undef, undef, undef, undef, undef, undef, undef, undef, undef, undef, undef, undef, undef, undef, undef, undef, undef, undef, undef, undef, undef, undef, undef, undef, undef, undef, undef, undef, undef, undef, undef, undef, undef, undef, undef, undef, undef, undef, undef, undef, undef, undef, undef, undef], defers := [] })
    (fun x a' _ X Y row hs hg hr => hs)
    ?assign ?body ?done ?stop
  case assign =>
    rintro l pre x W K hI hK
    gi_wp2
    exact hK _ _ ((KeepsOthers.refl _).from _) (Between.refl W) hI rfl
  case body =>
    rintro l pre x a' W hl _ ⟨⟨hA, hB⟩, hz⟩ rfl hlt
    have HKW := Lib.hid (wordOf_next k pre x)
    have hwl := wordOf_len k pre
    have x0 : W.cell? ⟨w.heap.size, 0, none⟩ = some (.int .i64 k) := (HX3.out.below hB (by omega)).cell 0
    have hWz : w.heap.size < W.heap.size := by omega
    dsimp only
    by_cases he : (x : Int) = k
    · have HE : Hid (wordOf k (pre ++ [x]) = wordOf k pre ++ [nameA x]) := Lib.hid (by rw [HKW.out, if_pos he])
      have q : ((x : Int) == k) = true := by simpa using he
      obtain ⟨v, hW, hO⟩ := hA.is
      have c0 : W.cell? ⟨w.heap.size + 1, 0, none⟩ = some v := hW.cell 0
      have HWW := Lib.hid hW
      have HOO := Lib.hid hO
      have HBB := Lib.hid hB
      clear he hA hW hO hB
      gi_wp2_with (gi_at_builtin; refine wpListIn_push rfl _ _ 40 rfl W3.heap.size 9 info_str rfl (by decide) Tryz.underlying40 _ _ _ rfl HOO.out rfl rfl (by omega) hz ?_)
      intro v' w3 hown3 hg
      obtain ⟨g3, n3, k3, rfl, c3, f3, hW3, hB3, hK3, hBt, hsz⟩ := WordsAt.push (l := nameA x) HWW.out HOO.out hown3 hg (by omega) hz
      have HW4 := Lib.hid hW3
      have HB4 := Lib.hid (HBB.out.trans (hB3.mono (Nat.le_refl _)))
      have HK4 := Lib.hid hK3
      have HBT := Lib.hid (hBt W0.heap.size W3.heap.size (by omega) (Nat.le_refl _) hz)
      have HSZ := Lib.hid (Nat.le_trans hz hsz)
      clear hown3 hg hW3 hB3 hK3 hBt hsz
      gi_wp2
      refine ⟨HK4.out.from _, HBT.out, ⟨⟨?_, HB4.out⟩, HSZ.out⟩⟩
      rw [HE.out]
      exact HW4.out
    · have HE : Hid (wordOf k (pre ++ [x]) = wordOf k pre) := Lib.hid (by rw [HKW.out, if_neg he])
      have q : ((x : Int) == k) = false := by simpa using he
      clear he
      gi_wp2
      refine ⟨(KeepsOthers.refl _).from _, Between.refl _, ⟨⟨?_, hB⟩, hz⟩⟩
      rw [HE.out]
      exact hA
  case done =>
    rintro D ys W hD rfl ⟨⟨hA, hB⟩, hzW⟩ hKD
    obtain ⟨k0, k1⟩ := HK.out
    simp only at k0 k1
    rw [wordOf_all k0 k1] at hA
    have HLW : Hid (LinesIs (w.heap.size + 1) (w.heap.size + 1) [nameA k.toNat] W) := Lib.hid (hA.lines (by omega))
    have HBW2 : Hid (Below (w.heap.size + 1) W0 W) := Lib.hid (HBW.out.trans hB)
    have HKDW := Lib.hid hKD
    have HXW := Lib.hid (HX3.out.below hB (by omega))
    have x0 : W.cell? ⟨w.heap.size, 0, none⟩ = some (.int .i64 k) := HXW.out.cell 0
    have x1 : W.cell? ⟨w.heap.size, 1, none⟩ = some (.int .i64 node) := HXW.out.cell 1
    have x2 : W.cell? ⟨w.heap.size, 2, none⟩ = some (.int .i64 port) := HXW.out.cell 2
    have x3 : W.cell? ⟨w.heap.size, 3, none⟩ = some (.int .i64 cost) := HXW.out.cell 3
    have x4 : W.cell? ⟨w.heap.size, 4, none⟩ = some (.int .i64 n) := HXW.out.cell 4
    have x6 : W.cell? ⟨w.heap.size, 6, none⟩ = some (.int .u8 (by_.toNat : Int)) := HXW.out.cell 6
    have hWz : w.heap.size < W.heap.size := by omega
    have hby : by_.toNat < 256 := by_.toNat_lt
    have EW := Lib.hid (E0.out.below (by omega) HBW2.out)
    clear HBW hKD
    have HBW := HBW2
    clear HBW2
    dsimp only
    rcases (by omega : k = 1 ∨ k = 2 ∨ k = 3 ∨ k = 4 ∨ k = 5 ∨ k = 6 ∨ k = 7 ∨ k = 8 ∨ k = 9) with rfl | rfl | rfl | rfl | rfl | rfl | rfl | rfl | rfl
    · have HIN : Hid (∀ y ∈ [node], In64 y) := Lib.hid (by
        intro y hy
        simp only [List.mem_cons, List.not_mem_nil, or_false] at hy
        rcases hy with rfl <;> first | exact HI.out.2.1 | exact HI.out.2.2.1 | exact HI.out.2.2.2.1 | exact HI.out.2.2.2.2 | exact in_byte _)
      have HWL : Hid (∀ l ∈ ([nameA (Int.toNat 1)] ++ [node].map itoa), l.length ≤ 100) := Lib.hid (words_len HIN.out)
      clear HR HW0 HB3 HS HR3 HW3 HX3 HXW hA hB hc
      gi_wp2
      refine ⟨trivial, (callsIn_wide.2 (put_any (w.heap.size + 1) (w.heap.size + 1) W.heap.size 1 [node] ([nameA (Int.toNat 1)]) _ (HLW.out.below ((Below.refl _ _).alloc (Nat.le_refl _) _)) (Whole.new W 3 #[.int .i64 node]) HIN.out (by simp) (by simp) (by simp) (EW.out.here ((Below.refl _ _).alloc (Nat.le_refl _) _)) (by omega) (by simp; omega))).mono ?_⟩
      rintro e w5 ⟨rfl, hLw5, hBw5, hOw5⟩
      have HLw5 := Lib.hid hLw5
      have HBw5 : Hid (Below (w.heap.size + 1) W0 w5) := Lib.hid ((HBW.out.alloc (by omega) _).trans hBw5)
      have HKDw5 : Hid (w5.heap[D]? = some (.deferred (some []))) := Lib.hid (hOw5.same D _ ((Below.heap_alloc W _ D (Array.getElem?_eq_some_iff.1 HKDW.out).1).trans HKDW.out) rfl)
      have hzw5 : W3.heap.size ≤ w5.heap.size := by have := hOw5.size; simp at this; omega
      have Ew5 := Lib.hid (E0.out.below (by omega) HBw5.out)
      clear hLw5 hBw5 hOw5
      obtain ⟨vJ, -, hWJ, hOJ⟩ := HLw5.out.is
      have cJ : w5.cell? ⟨w.heap.size + 1, 0, none⟩ = some vJ := hWJ.cell 0
      have hRJ : w.heap.size + 1 < w5.heap.size := by omega
      have HJ := Lib.hid (join_own (sep := [32]) w5 hOJ (by simp) (by simp) (by
        refine Nat.le_trans (join_len 32 100 _ ?_) (by simp)
        exact HWL.out))
      clear hWJ hOJ
      gi_wp2
      refine ⟨trivial, (callsIn_wide.2 HJ.out).mono ?_⟩
      rintro e WE ⟨rfl, hbE⟩
      have hkE : WE.heap[D]? = some (.deferred (some [])) := (hbE.block D (Array.getElem?_eq_some_iff.1 HKDw5.out).1).trans HKDw5.out
      have HBE : Hid (Below w.heap.size w WE) := Lib.hid ((HB0.out.trans (HBw5.out.mono (by omega))).trans (hbE.mono (by omega)))
      clear hbE
      gi_wp2
      refine ⟨by simp, .inl ⟨_, _, rfl, run_takeDeferred hkE, ?_⟩⟩
      refine ⟨.string (str (actText ⟨1, node, port, cost, n, up, by_, unread, bytes⟩)), ?_, rfl, HBE.out.trans (belowK_b (w := w) (Nat.le_refl _) WE D _ _ (by omega) hkE rfl rfl)⟩
      simp [results, Tryz.results75, go_sem]
      rfl
    · have HIN : Hid (∀ y ∈ [n], In64 y) := Lib.hid (by
        intro y hy
        simp only [List.mem_cons, List.not_mem_nil, or_false] at hy
        rcases hy with rfl <;> first | exact HI.out.2.1 | exact HI.out.2.2.1 | exact HI.out.2.2.2.1 | exact HI.out.2.2.2.2 | exact in_byte _)
      have HWL : Hid (∀ l ∈ ([nameA (Int.toNat 2)] ++ [n].map itoa), l.length ≤ 100) := Lib.hid (words_len HIN.out)
      clear HR HW0 HB3 HS HR3 HW3 HX3 HXW hA hB hc
      gi_wp2
      refine ⟨trivial, (callsIn_wide.2 (put_any (w.heap.size + 1) (w.heap.size + 1) W.heap.size 1 [n] ([nameA (Int.toNat 2)]) _ (HLW.out.below ((Below.refl _ _).alloc (Nat.le_refl _) _)) (Whole.new W 3 #[.int .i64 n]) HIN.out (by simp) (by simp) (by simp) (EW.out.here ((Below.refl _ _).alloc (Nat.le_refl _) _)) (by omega) (by simp; omega))).mono ?_⟩
      rintro e w5 ⟨rfl, hLw5, hBw5, hOw5⟩
      have HLw5 := Lib.hid hLw5
      have HBw5 : Hid (Below (w.heap.size + 1) W0 w5) := Lib.hid ((HBW.out.alloc (by omega) _).trans hBw5)
      have HKDw5 : Hid (w5.heap[D]? = some (.deferred (some []))) := Lib.hid (hOw5.same D _ ((Below.heap_alloc W _ D (Array.getElem?_eq_some_iff.1 HKDW.out).1).trans HKDW.out) rfl)
      have hzw5 : W3.heap.size ≤ w5.heap.size := by have := hOw5.size; simp at this; omega
      have Ew5 := Lib.hid (E0.out.below (by omega) HBw5.out)
      clear hLw5 hBw5 hOw5
      obtain ⟨vJ, -, hWJ, hOJ⟩ := HLw5.out.is
      have cJ : w5.cell? ⟨w.heap.size + 1, 0, none⟩ = some vJ := hWJ.cell 0
      have hRJ : w.heap.size + 1 < w5.heap.size := by omega
      have HJ := Lib.hid (join_own (sep := [32]) w5 hOJ (by simp) (by simp) (by
        refine Nat.le_trans (join_len 32 100 _ ?_) (by simp)
        exact HWL.out))
      clear hWJ hOJ
      gi_wp2
      refine ⟨trivial, (callsIn_wide.2 HJ.out).mono ?_⟩
      rintro e WE ⟨rfl, hbE⟩
      have hkE : WE.heap[D]? = some (.deferred (some [])) := (hbE.block D (Array.getElem?_eq_some_iff.1 HKDw5.out).1).trans HKDw5.out
      have HBE : Hid (Below w.heap.size w WE) := Lib.hid ((HB0.out.trans (HBw5.out.mono (by omega))).trans (hbE.mono (by omega)))
      clear hbE
      gi_wp2
      refine ⟨by simp, .inl ⟨_, _, rfl, run_takeDeferred hkE, ?_⟩⟩
      refine ⟨.string (str (actText ⟨2, node, port, cost, n, up, by_, unread, bytes⟩)), ?_, rfl, HBE.out.trans (belowK_b (w := w) (Nat.le_refl _) WE D _ _ (by omega) hkE rfl rfl)⟩
      simp [results, Tryz.results75, go_sem]
      rfl
    · have HIN : Hid (∀ y ∈ [n], In64 y) := Lib.hid (by
        intro y hy
        simp only [List.mem_cons, List.not_mem_nil, or_false] at hy
        rcases hy with rfl <;> first | exact HI.out.2.1 | exact HI.out.2.2.1 | exact HI.out.2.2.2.1 | exact HI.out.2.2.2.2 | exact in_byte _)
      have HWL : Hid (∀ l ∈ ([nameA (Int.toNat 3)] ++ [n].map itoa), l.length ≤ 100) := Lib.hid (words_len HIN.out)
      clear HR HW0 HB3 HS HR3 HW3 HX3 HXW hA hB hc
      gi_wp2
      refine ⟨trivial, (callsIn_wide.2 (put_any (w.heap.size + 1) (w.heap.size + 1) W.heap.size 1 [n] ([nameA (Int.toNat 3)]) _ (HLW.out.below ((Below.refl _ _).alloc (Nat.le_refl _) _)) (Whole.new W 3 #[.int .i64 n]) HIN.out (by simp) (by simp) (by simp) (EW.out.here ((Below.refl _ _).alloc (Nat.le_refl _) _)) (by omega) (by simp; omega))).mono ?_⟩
      rintro e w5 ⟨rfl, hLw5, hBw5, hOw5⟩
      have HLw5 := Lib.hid hLw5
      have HBw5 : Hid (Below (w.heap.size + 1) W0 w5) := Lib.hid ((HBW.out.alloc (by omega) _).trans hBw5)
      have HKDw5 : Hid (w5.heap[D]? = some (.deferred (some []))) := Lib.hid (hOw5.same D _ ((Below.heap_alloc W _ D (Array.getElem?_eq_some_iff.1 HKDW.out).1).trans HKDW.out) rfl)
      have hzw5 : W3.heap.size ≤ w5.heap.size := by have := hOw5.size; simp at this; omega
      have Ew5 := Lib.hid (E0.out.below (by omega) HBw5.out)
      clear hLw5 hBw5 hOw5
      obtain ⟨vJ, -, hWJ, hOJ⟩ := HLw5.out.is
      have cJ : w5.cell? ⟨w.heap.size + 1, 0, none⟩ = some vJ := hWJ.cell 0
      have hRJ : w.heap.size + 1 < w5.heap.size := by omega
      have HJ := Lib.hid (join_own (sep := [32]) w5 hOJ (by simp) (by simp) (by
        refine Nat.le_trans (join_len 32 100 _ ?_) (by simp)
        exact HWL.out))
      clear hWJ hOJ
      gi_wp2
      refine ⟨trivial, (callsIn_wide.2 HJ.out).mono ?_⟩
      rintro e WE ⟨rfl, hbE⟩
      have hkE : WE.heap[D]? = some (.deferred (some [])) := (hbE.block D (Array.getElem?_eq_some_iff.1 HKDw5.out).1).trans HKDw5.out
      have HBE : Hid (Below w.heap.size w WE) := Lib.hid ((HB0.out.trans (HBw5.out.mono (by omega))).trans (hbE.mono (by omega)))
      clear hbE
      gi_wp2
      refine ⟨by simp, .inl ⟨_, _, rfl, run_takeDeferred hkE, ?_⟩⟩
      refine ⟨.string (str (actText ⟨3, node, port, cost, n, up, by_, unread, bytes⟩)), ?_, rfl, HBE.out.trans (belowK_b (w := w) (Nat.le_refl _) WE D _ _ (by omega) hkE rfl rfl)⟩
      simp [results, Tryz.results75, go_sem]
      rfl
    · have HIN : Hid (∀ y ∈ [n], In64 y) := Lib.hid (by
        intro y hy
        simp only [List.mem_cons, List.not_mem_nil, or_false] at hy
        rcases hy with rfl <;> first | exact HI.out.2.1 | exact HI.out.2.2.1 | exact HI.out.2.2.2.1 | exact HI.out.2.2.2.2 | exact in_byte _)
      have HWL : Hid (∀ l ∈ ([nameA (Int.toNat 4)] ++ [n].map itoa), l.length ≤ 100) := Lib.hid (words_len HIN.out)
      clear HR HW0 HB3 HS HR3 HW3 HX3 HXW hA hB hc
      gi_wp2
      refine ⟨trivial, (callsIn_wide.2 (put_any (w.heap.size + 1) (w.heap.size + 1) W.heap.size 1 [n] ([nameA (Int.toNat 4)]) _ (HLW.out.below ((Below.refl _ _).alloc (Nat.le_refl _) _)) (Whole.new W 3 #[.int .i64 n]) HIN.out (by simp) (by simp) (by simp) (EW.out.here ((Below.refl _ _).alloc (Nat.le_refl _) _)) (by omega) (by simp; omega))).mono ?_⟩
      rintro e w5 ⟨rfl, hLw5, hBw5, hOw5⟩
      have HLw5 := Lib.hid hLw5
      have HBw5 : Hid (Below (w.heap.size + 1) W0 w5) := Lib.hid ((HBW.out.alloc (by omega) _).trans hBw5)
      have HKDw5 : Hid (w5.heap[D]? = some (.deferred (some []))) := Lib.hid (hOw5.same D _ ((Below.heap_alloc W _ D (Array.getElem?_eq_some_iff.1 HKDW.out).1).trans HKDW.out) rfl)
      have hzw5 : W3.heap.size ≤ w5.heap.size := by have := hOw5.size; simp at this; omega
      have Ew5 := Lib.hid (E0.out.below (by omega) HBw5.out)
      clear hLw5 hBw5 hOw5
      obtain ⟨vJ, -, hWJ, hOJ⟩ := HLw5.out.is
      have cJ : w5.cell? ⟨w.heap.size + 1, 0, none⟩ = some vJ := hWJ.cell 0
      have hRJ : w.heap.size + 1 < w5.heap.size := by omega
      have HJ := Lib.hid (join_own (sep := [32]) w5 hOJ (by simp) (by simp) (by
        refine Nat.le_trans (join_len 32 100 _ ?_) (by simp)
        exact HWL.out))
      clear hWJ hOJ
      gi_wp2
      refine ⟨trivial, (callsIn_wide.2 HJ.out).mono ?_⟩
      rintro e WE ⟨rfl, hbE⟩
      have hkE : WE.heap[D]? = some (.deferred (some [])) := (hbE.block D (Array.getElem?_eq_some_iff.1 HKDw5.out).1).trans HKDw5.out
      have HBE : Hid (Below w.heap.size w WE) := Lib.hid ((HB0.out.trans (HBw5.out.mono (by omega))).trans (hbE.mono (by omega)))
      clear hbE
      gi_wp2
      refine ⟨by simp, .inl ⟨_, _, rfl, run_takeDeferred hkE, ?_⟩⟩
      refine ⟨.string (str (actText ⟨4, node, port, cost, n, up, by_, unread, bytes⟩)), ?_, rfl, HBE.out.trans (belowK_b (w := w) (Nat.le_refl _) WE D _ _ (by omega) hkE rfl rfl)⟩
      simp [results, Tryz.results75, go_sem]
      rfl
    · have HIN : Hid (∀ y ∈ [node, port, cost], In64 y) := Lib.hid (by
        intro y hy
        simp only [List.mem_cons, List.not_mem_nil, or_false] at hy
        rcases hy with rfl | rfl | rfl <;> first | exact HI.out.2.1 | exact HI.out.2.2.1 | exact HI.out.2.2.2.1 | exact HI.out.2.2.2.2 | exact in_byte _)
      have HWL : Hid (∀ l ∈ ([nameA (Int.toNat 5)] ++ [node, port, cost].map itoa), l.length ≤ 100) := Lib.hid (words_len HIN.out)
      clear HR HW0 HB3 HS HR3 HW3 HX3 HXW hA hB hc
      gi_wp2
      refine ⟨trivial, (callsIn_wide.2 (put_any (w.heap.size + 1) (w.heap.size + 1) W.heap.size 3 [node, port, cost] ([nameA (Int.toNat 5)]) _ (HLW.out.below ((Below.refl _ _).alloc (Nat.le_refl _) _)) (Whole.new W 3 #[.int .i64 node, .int .i64 port, .int .i64 cost]) HIN.out (by simp) (by simp) (by simp) (EW.out.here ((Below.refl _ _).alloc (Nat.le_refl _) _)) (by omega) (by simp; omega))).mono ?_⟩
      rintro e w5 ⟨rfl, hLw5, hBw5, hOw5⟩
      have HLw5 := Lib.hid hLw5
      have HBw5 : Hid (Below (w.heap.size + 1) W0 w5) := Lib.hid ((HBW.out.alloc (by omega) _).trans hBw5)
      have HKDw5 : Hid (w5.heap[D]? = some (.deferred (some []))) := Lib.hid (hOw5.same D _ ((Below.heap_alloc W _ D (Array.getElem?_eq_some_iff.1 HKDW.out).1).trans HKDW.out) rfl)
      have hzw5 : W3.heap.size ≤ w5.heap.size := by have := hOw5.size; simp at this; omega
      have Ew5 := Lib.hid (E0.out.below (by omega) HBw5.out)
      clear hLw5 hBw5 hOw5
      obtain ⟨vJ, -, hWJ, hOJ⟩ := HLw5.out.is
      have cJ : w5.cell? ⟨w.heap.size + 1, 0, none⟩ = some vJ := hWJ.cell 0
      have hRJ : w.heap.size + 1 < w5.heap.size := by omega
      have HJ := Lib.hid (join_own (sep := [32]) w5 hOJ (by simp) (by simp) (by
        refine Nat.le_trans (join_len 32 100 _ ?_) (by simp)
        exact HWL.out))
      clear hWJ hOJ
      gi_wp2
      refine ⟨trivial, (callsIn_wide.2 HJ.out).mono ?_⟩
      rintro e WE ⟨rfl, hbE⟩
      have hkE : WE.heap[D]? = some (.deferred (some [])) := (hbE.block D (Array.getElem?_eq_some_iff.1 HKDw5.out).1).trans HKDw5.out
      have HBE : Hid (Below w.heap.size w WE) := Lib.hid ((HB0.out.trans (HBw5.out.mono (by omega))).trans (hbE.mono (by omega)))
      clear hbE
      gi_wp2
      refine ⟨by simp, .inl ⟨_, _, rfl, run_takeDeferred hkE, ?_⟩⟩
      refine ⟨.string (str (actText ⟨5, node, port, cost, n, up, by_, unread, bytes⟩)), ?_, rfl, HBE.out.trans (belowK_b (w := w) (Nat.le_refl _) WE D _ _ (by omega) hkE rfl rfl)⟩
      simp [results, Tryz.results75, go_sem]
      rfl
    · have HIN : Hid (∀ y ∈ [n], In64 y) := Lib.hid (by
        intro y hy
        simp only [List.mem_cons, List.not_mem_nil, or_false] at hy
        rcases hy with rfl <;> first | exact HI.out.2.1 | exact HI.out.2.2.1 | exact HI.out.2.2.2.1 | exact HI.out.2.2.2.2 | exact in_byte _)
      have HWL : Hid (∀ l ∈ ([nameA (Int.toNat 6)] ++ [n].map itoa), l.length ≤ 100) := Lib.hid (words_len HIN.out)
      clear HR HW0 HB3 HS HR3 HW3 HX3 HXW hA hB hc
      cases up with
      | false =>
        gi_wp2
        refine ⟨trivial, (callsIn_wide.2 (put_any (w.heap.size + 1) (w.heap.size + 1) W.heap.size 1 [n] ([nameA (Int.toNat 6)]) _ (HLW.out.below ((Below.refl _ _).alloc (Nat.le_refl _) _)) (Whole.new W 3 #[.int .i64 n]) HIN.out (by simp) (by simp) (by simp) (EW.out.here ((Below.refl _ _).alloc (Nat.le_refl _) _)) (by omega) (by simp; omega))).mono ?_⟩
        rintro e w5 ⟨rfl, hLw5, hBw5, hOw5⟩
        have HLw5 := Lib.hid hLw5
        have HBw5 : Hid (Below (w.heap.size + 1) W0 w5) := Lib.hid ((HBW.out.alloc (by omega) _).trans hBw5)
        have HKDw5 : Hid (w5.heap[D]? = some (.deferred (some []))) := Lib.hid (hOw5.same D _ ((Below.heap_alloc W _ D (Array.getElem?_eq_some_iff.1 HKDW.out).1).trans HKDW.out) rfl)
        have hzw5 : W3.heap.size ≤ w5.heap.size := by have := hOw5.size; simp at this; omega
        have Ew5 := Lib.hid (E0.out.below (by omega) HBw5.out)
        clear hLw5 hBw5 hOw5
        obtain ⟨vw6, hBRw6, hWw6, hOw6⟩ := HLw5.out.is
        have cRw6 : w5.cell? ⟨w.heap.size + 1, 0, none⟩ = some vw6 := hWw6.cell 0
        have hXw6 := HX.out.below HBw5.out (by omega)
        have xFw6 : w5.cell? ⟨w.heap.size, 5, none⟩ = some (.bool false) := hXw6.cell 5
        have hRw6 : w.heap.size + 1 < w5.heap.size := by omega
        have hFw6 : w.heap.size < w5.heap.size := by omega
        have HWw6 := Lib.hid hWw6
        have HOw6 := Lib.hid hOw6
        have HBVw6 : Hid (Bs w5 (.slice A bytes.length c) bytes) := Lib.hid (HBV.out.keep (by omega) fun p hp => (HBw5.out.cell (show p.block < _ by omega)).trans (HB0.out.cell hp))
        clear hWw6 hOw6 hXw6
        gi_wp2
        refine wpIn_wide.2 (wp_calm ?_)
        refine wp_region_ext_load (v := vw6) 4 (by kernel_rfl) (by kernel_rfl) rfl rfl (.inl ⟨rfl, ?_⟩) (fun _ _ _ h => h) ?_
        · rintro _ ⟨x, rfl⟩
          have cx := (x.cell ⟨w.heap.size + 1, 0, none⟩ hRw6).trans cRw6
          go_simp
        simp only [List.take_succ_cons, List.take_zero, List.drop_succ_cons, List.drop_zero, Act.put, List.setIfInBounds_toArray, List.set_cons_succ, List.set_cons_zero]
        repeat (go_big_quiet_step (first | (go_at_call 137; exact Ext.callq (either_any _ _ _ _))))
        refine wpQuiet_nil ?_
        rintro _ ⟨zw6, rfl⟩
        go_wp2
        have hzb := zw6.below.size
        refine ⟨⟨⟨_, bel_alloc zw6.below _⟩, rfl⟩, ?_⟩
        have hown2 := own_below HOw6.out zw6.below
        go_wp2_with (at_builtin; refine wpList_push rfl _ _ 40 rfl (w.heap.size + 1) 9 info_str rfl (by decide) Tryz.underlying40 _ _ _ rfl hown2 rfl rfl (by simp) (by omega) ?_)
        intro v' ww6' hown3 hg
        rw [show Value.string { data := #[100, 111, 119, 110] } = Sv (wDown) from rfl] at hown3
        obtain ⟨g3, n3, k3, rfl, c3, f3, hL3, hB3, hK3⟩ := LinesIs.push' (l := wDown) HWw6.out HOw6.out zw6.below hown3 hg hBRw6 (by omega)
        obtain ⟨w6, hnw6⟩ : ∃ X, ww6'.setCell ⟨w.heap.size + 1, 0, none⟩ (.slice (some ⟨g3, 0, none⟩) n3 k3) = X := ⟨_, rfl⟩
        rw [hnw6] at hL3 hB3 hK3
        have HNw6 := Lib.hid hnw6
        have HLw6 := Lib.hid hL3
        have HBw6 : Hid (Below (w.heap.size + 1) W0 w6) := Lib.hid (HBw5.out.trans hB3)
        have HKDw6 : Hid (w6.heap[D]? = some (.deferred (some []))) := Lib.hid (hK3.same D _ HKDw5.out rfl)
        have hzw6 : W3.heap.size ≤ w6.heap.size := by have := hK3.size; omega
        clear hown2 hown3 hg hL3 hB3 hK3 hnw6
        go_wp2
        rw [HNw6.out]
        have HWL6 : Hid (∀ l ∈ [nameA (Int.toNat 6)] ++ [n].map itoa ++ [wDown], l.length ≤ 100) := Lib.hid (words_more HWL.out (by decide))
        obtain ⟨vJ, -, hWJ, hOJ⟩ := HLw6.out.is
        have cJ : w6.cell? ⟨w.heap.size + 1, 0, none⟩ = some vJ := hWJ.cell 0
        have hRJ : w.heap.size + 1 < w6.heap.size := by omega
        have HJ := Lib.hid (join_own (sep := [32]) w6 hOJ (by simp) (by simp) (by
          refine Nat.le_trans (join_len 32 100 _ ?_) (by simp)
          exact HWL6.out))
        clear hWJ hOJ
        gi_wp2
        refine ⟨trivial, (callsIn_wide.2 HJ.out).mono ?_⟩
        rintro e WE ⟨rfl, hbE⟩
        have hkE : WE.heap[D]? = some (.deferred (some [])) := (hbE.block D (Array.getElem?_eq_some_iff.1 HKDw6.out).1).trans HKDw6.out
        have HBE : Hid (Below w.heap.size w WE) := Lib.hid ((HB0.out.trans (HBw6.out.mono (by omega))).trans (hbE.mono (by omega)))
        clear hbE
        gi_wp2
        refine ⟨by simp, .inl ⟨_, _, rfl, run_takeDeferred hkE, ?_⟩⟩
        refine ⟨.string (str (actText ⟨6, node, port, cost, n, false, by_, unread, bytes⟩)), ?_, rfl, HBE.out.trans (belowK_b (w := w) (Nat.le_refl _) WE D _ _ (by omega) hkE rfl rfl)⟩
        simp [results, Tryz.results75, go_sem]
        rfl
      | true =>
        gi_wp2
        refine ⟨trivial, (callsIn_wide.2 (put_any (w.heap.size + 1) (w.heap.size + 1) W.heap.size 1 [n] ([nameA (Int.toNat 6)]) _ (HLW.out.below ((Below.refl _ _).alloc (Nat.le_refl _) _)) (Whole.new W 3 #[.int .i64 n]) HIN.out (by simp) (by simp) (by simp) (EW.out.here ((Below.refl _ _).alloc (Nat.le_refl _) _)) (by omega) (by simp; omega))).mono ?_⟩
        rintro e w5 ⟨rfl, hLw5, hBw5, hOw5⟩
        have HLw5 := Lib.hid hLw5
        have HBw5 : Hid (Below (w.heap.size + 1) W0 w5) := Lib.hid ((HBW.out.alloc (by omega) _).trans hBw5)
        have HKDw5 : Hid (w5.heap[D]? = some (.deferred (some []))) := Lib.hid (hOw5.same D _ ((Below.heap_alloc W _ D (Array.getElem?_eq_some_iff.1 HKDW.out).1).trans HKDW.out) rfl)
        have hzw5 : W3.heap.size ≤ w5.heap.size := by have := hOw5.size; simp at this; omega
        have Ew5 := Lib.hid (E0.out.below (by omega) HBw5.out)
        clear hLw5 hBw5 hOw5
        obtain ⟨vw6, hBRw6, hWw6, hOw6⟩ := HLw5.out.is
        have cRw6 : w5.cell? ⟨w.heap.size + 1, 0, none⟩ = some vw6 := hWw6.cell 0
        have hXw6 := HX.out.below HBw5.out (by omega)
        have xFw6 : w5.cell? ⟨w.heap.size, 5, none⟩ = some (.bool true) := hXw6.cell 5
        have hRw6 : w.heap.size + 1 < w5.heap.size := by omega
        have hFw6 : w.heap.size < w5.heap.size := by omega
        have HWw6 := Lib.hid hWw6
        have HOw6 := Lib.hid hOw6
        have HBVw6 : Hid (Bs w5 (.slice A bytes.length c) bytes) := Lib.hid (HBV.out.keep (by omega) fun p hp => (HBw5.out.cell (show p.block < _ by omega)).trans (HB0.out.cell hp))
        clear hWw6 hOw6 hXw6
        gi_wp2
        refine wpIn_wide.2 (wp_calm ?_)
        refine wp_region_ext_load (v := vw6) 4 (by kernel_rfl) (by kernel_rfl) rfl rfl (.inl ⟨rfl, ?_⟩) (fun _ _ _ h => h) ?_
        · rintro _ ⟨x, rfl⟩
          have cx := (x.cell ⟨w.heap.size + 1, 0, none⟩ hRw6).trans cRw6
          go_simp
        simp only [List.take_succ_cons, List.take_zero, List.drop_succ_cons, List.drop_zero, Act.put, List.setIfInBounds_toArray, List.set_cons_succ, List.set_cons_zero]
        repeat (go_big_quiet_step (first | (go_at_call 137; exact Ext.callq (either_any _ _ _ _))))
        refine wpQuiet_nil ?_
        rintro _ ⟨zw6, rfl⟩
        go_wp2
        have hzb := zw6.below.size
        refine ⟨⟨⟨_, bel_alloc zw6.below _⟩, rfl⟩, ?_⟩
        have hown2 := own_below HOw6.out zw6.below
        go_wp2_with (at_builtin; refine wpList_push rfl _ _ 40 rfl (w.heap.size + 1) 9 info_str rfl (by decide) Tryz.underlying40 _ _ _ rfl hown2 rfl rfl (by simp) (by omega) ?_)
        intro v' ww6' hown3 hg
        rw [show Value.string { data := #[117, 112] } = Sv (wUp) from rfl] at hown3
        obtain ⟨g3, n3, k3, rfl, c3, f3, hL3, hB3, hK3⟩ := LinesIs.push' (l := wUp) HWw6.out HOw6.out zw6.below hown3 hg hBRw6 (by omega)
        obtain ⟨w6, hnw6⟩ : ∃ X, ww6'.setCell ⟨w.heap.size + 1, 0, none⟩ (.slice (some ⟨g3, 0, none⟩) n3 k3) = X := ⟨_, rfl⟩
        rw [hnw6] at hL3 hB3 hK3
        have HNw6 := Lib.hid hnw6
        have HLw6 := Lib.hid hL3
        have HBw6 : Hid (Below (w.heap.size + 1) W0 w6) := Lib.hid (HBw5.out.trans hB3)
        have HKDw6 : Hid (w6.heap[D]? = some (.deferred (some []))) := Lib.hid (hK3.same D _ HKDw5.out rfl)
        have hzw6 : W3.heap.size ≤ w6.heap.size := by have := hK3.size; omega
        clear hown2 hown3 hg hL3 hB3 hK3 hnw6
        go_wp2
        rw [HNw6.out]
        have HWL6 : Hid (∀ l ∈ [nameA (Int.toNat 6)] ++ [n].map itoa ++ [wUp], l.length ≤ 100) := Lib.hid (words_more HWL.out (by decide))
        obtain ⟨vJ, -, hWJ, hOJ⟩ := HLw6.out.is
        have cJ : w6.cell? ⟨w.heap.size + 1, 0, none⟩ = some vJ := hWJ.cell 0
        have hRJ : w.heap.size + 1 < w6.heap.size := by omega
        have HJ := Lib.hid (join_own (sep := [32]) w6 hOJ (by simp) (by simp) (by
          refine Nat.le_trans (join_len 32 100 _ ?_) (by simp)
          exact HWL6.out))
        clear hWJ hOJ
        gi_wp2
        refine ⟨trivial, (callsIn_wide.2 HJ.out).mono ?_⟩
        rintro e WE ⟨rfl, hbE⟩
        have hkE : WE.heap[D]? = some (.deferred (some [])) := (hbE.block D (Array.getElem?_eq_some_iff.1 HKDw6.out).1).trans HKDw6.out
        have HBE : Hid (Below w.heap.size w WE) := Lib.hid ((HB0.out.trans (HBw6.out.mono (by omega))).trans (hbE.mono (by omega)))
        clear hbE
        gi_wp2
        refine ⟨by simp, .inl ⟨_, _, rfl, run_takeDeferred hkE, ?_⟩⟩
        refine ⟨.string (str (actText ⟨6, node, port, cost, n, true, by_, unread, bytes⟩)), ?_, rfl, HBE.out.trans (belowK_b (w := w) (Nat.le_refl _) WE D _ _ (by omega) hkE rfl rfl)⟩
        simp [results, Tryz.results75, go_sem]
        rfl
    · have HIN : Hid (∀ y ∈ [node], In64 y) := Lib.hid (by
        intro y hy
        simp only [List.mem_cons, List.not_mem_nil, or_false] at hy
        rcases hy with rfl <;> first | exact HI.out.2.1 | exact HI.out.2.2.1 | exact HI.out.2.2.2.1 | exact HI.out.2.2.2.2 | exact in_byte _)
      have HWL : Hid (∀ l ∈ ([nameA (Int.toNat 7)] ++ [node].map itoa), l.length ≤ 100) := Lib.hid (words_len HIN.out)
      clear HR HW0 HB3 HS HR3 HW3 HX3 HXW hA hB hc
      gi_wp2
      refine ⟨trivial, (callsIn_wide.2 (put_any (w.heap.size + 1) (w.heap.size + 1) W.heap.size 1 [node] ([nameA (Int.toNat 7)]) _ (HLW.out.below ((Below.refl _ _).alloc (Nat.le_refl _) _)) (Whole.new W 3 #[.int .i64 node]) HIN.out (by simp) (by simp) (by simp) (EW.out.here ((Below.refl _ _).alloc (Nat.le_refl _) _)) (by omega) (by simp; omega))).mono ?_⟩
      rintro e w5 ⟨rfl, hLw5, hBw5, hOw5⟩
      have HLw5 := Lib.hid hLw5
      have HBw5 : Hid (Below (w.heap.size + 1) W0 w5) := Lib.hid ((HBW.out.alloc (by omega) _).trans hBw5)
      have HKDw5 : Hid (w5.heap[D]? = some (.deferred (some []))) := Lib.hid (hOw5.same D _ ((Below.heap_alloc W _ D (Array.getElem?_eq_some_iff.1 HKDW.out).1).trans HKDW.out) rfl)
      have hzw5 : W3.heap.size ≤ w5.heap.size := by have := hOw5.size; simp at this; omega
      have Ew5 := Lib.hid (E0.out.below (by omega) HBw5.out)
      clear hLw5 hBw5 hOw5
      obtain ⟨vJ, -, hWJ, hOJ⟩ := HLw5.out.is
      have cJ : w5.cell? ⟨w.heap.size + 1, 0, none⟩ = some vJ := hWJ.cell 0
      have hRJ : w.heap.size + 1 < w5.heap.size := by omega
      have HJ := Lib.hid (join_own (sep := [32]) w5 hOJ (by simp) (by simp) (by
        refine Nat.le_trans (join_len 32 100 _ ?_) (by simp)
        exact HWL.out))
      clear hWJ hOJ
      gi_wp2
      refine ⟨trivial, (callsIn_wide.2 HJ.out).mono ?_⟩
      rintro e WE ⟨rfl, hbE⟩
      have hkE : WE.heap[D]? = some (.deferred (some [])) := (hbE.block D (Array.getElem?_eq_some_iff.1 HKDw5.out).1).trans HKDw5.out
      have HBE : Hid (Below w.heap.size w WE) := Lib.hid ((HB0.out.trans (HBw5.out.mono (by omega))).trans (hbE.mono (by omega)))
      clear hbE
      gi_wp2
      refine ⟨by simp, .inl ⟨_, _, rfl, run_takeDeferred hkE, ?_⟩⟩
      refine ⟨.string (str (actText ⟨7, node, port, cost, n, up, by_, unread, bytes⟩)), ?_, rfl, HBE.out.trans (belowK_b (w := w) (Nat.le_refl _) WE D _ _ (by omega) hkE rfl rfl)⟩
      simp [results, Tryz.results75, go_sem]
      rfl
    · have HIN : Hid (∀ y ∈ [node, n, (by_.toNat : Int)], In64 y) := Lib.hid (by
        intro y hy
        simp only [List.mem_cons, List.not_mem_nil, or_false] at hy
        rcases hy with rfl | rfl | rfl <;> first | exact HI.out.2.1 | exact HI.out.2.2.1 | exact HI.out.2.2.2.1 | exact HI.out.2.2.2.2 | exact in_byte _)
      have HWL : Hid (∀ l ∈ ([nameA (Int.toNat 8)] ++ [node, n, (by_.toNat : Int)].map itoa), l.length ≤ 100) := Lib.hid (words_len HIN.out)
      clear HR HW0 HB3 HS HR3 HW3 HX3 HXW hA hB hc
      cases unread with
      | false =>
        gi_wp2
        refine ⟨trivial, (callsIn_wide.2 (put_any (w.heap.size + 1) (w.heap.size + 1) W.heap.size 3 [node, n, (by_.toNat : Int)] ([nameA (Int.toNat 8)]) _ (HLW.out.below ((Below.refl _ _).alloc (Nat.le_refl _) _)) (Whole.new W 3 #[.int .i64 node, .int .i64 n, .int .i64 (by_.toNat : Int)]) HIN.out (by simp) (by simp) (by simp) (EW.out.here ((Below.refl _ _).alloc (Nat.le_refl _) _)) (by omega) (by simp; omega))).mono ?_⟩
        rintro e w5 ⟨rfl, hLw5, hBw5, hOw5⟩
        have HLw5 := Lib.hid hLw5
        have HBw5 : Hid (Below (w.heap.size + 1) W0 w5) := Lib.hid ((HBW.out.alloc (by omega) _).trans hBw5)
        have HKDw5 : Hid (w5.heap[D]? = some (.deferred (some []))) := Lib.hid (hOw5.same D _ ((Below.heap_alloc W _ D (Array.getElem?_eq_some_iff.1 HKDW.out).1).trans HKDW.out) rfl)
        have hzw5 : W3.heap.size ≤ w5.heap.size := by have := hOw5.size; simp at this; omega
        have Ew5 := Lib.hid (E0.out.below (by omega) HBw5.out)
        clear hLw5 hBw5 hOw5
        obtain ⟨vw6, hBRw6, hWw6, hOw6⟩ := HLw5.out.is
        have cRw6 : w5.cell? ⟨w.heap.size + 1, 0, none⟩ = some vw6 := hWw6.cell 0
        have hXw6 := HX.out.below HBw5.out (by omega)
        have xFw6 : w5.cell? ⟨w.heap.size, 7, none⟩ = some (.bool false) := hXw6.cell 7
        have hRw6 : w.heap.size + 1 < w5.heap.size := by omega
        have hFw6 : w.heap.size < w5.heap.size := by omega
        have HWw6 := Lib.hid hWw6
        have HOw6 := Lib.hid hOw6
        have HBVw6 : Hid (Bs w5 (.slice A bytes.length c) bytes) := Lib.hid (HBV.out.keep (by omega) fun p hp => (HBw5.out.cell (show p.block < _ by omega)).trans (HB0.out.cell hp))
        clear hWw6 hOw6 hXw6
        gi_wp2
        refine wpIn_wide.2 (wp_calm ?_)
        refine wp_region_ext_load (v := vw6) 4 (by kernel_rfl) (by kernel_rfl) rfl rfl (.inl ⟨rfl, ?_⟩) (fun _ _ _ h => h) ?_
        · rintro _ ⟨x, rfl⟩
          have cx := (x.cell ⟨w.heap.size + 1, 0, none⟩ hRw6).trans cRw6
          go_simp
        simp only [List.take_succ_cons, List.take_zero, List.drop_succ_cons, List.drop_zero, Act.put, List.setIfInBounds_toArray, List.set_cons_succ, List.set_cons_zero]
        repeat (go_big_quiet_step (first | (go_at_call 137; exact Ext.callq (either_any _ _ _ _))))
        refine wpQuiet_nil ?_
        rintro _ ⟨zw6, rfl⟩
        go_wp2
        have hzb := zw6.below.size
        refine ⟨⟨⟨_, bel_alloc zw6.below _⟩, rfl⟩, ?_⟩
        have hown2 := own_below HOw6.out zw6.below
        go_wp2_with (at_builtin; refine wpList_push rfl _ _ 40 rfl (w.heap.size + 1) 9 info_str rfl (by decide) Tryz.underlying40 _ _ _ rfl hown2 rfl rfl (by simp) (by omega) ?_)
        intro v' ww6' hown3 hg
        rw [show Value.string { data := #[114, 101, 97, 100] } = Sv (wRead) from rfl] at hown3
        obtain ⟨g3, n3, k3, rfl, c3, f3, hL3, hB3, hK3⟩ := LinesIs.push' (l := wRead) HWw6.out HOw6.out zw6.below hown3 hg hBRw6 (by omega)
        obtain ⟨w6, hnw6⟩ : ∃ X, ww6'.setCell ⟨w.heap.size + 1, 0, none⟩ (.slice (some ⟨g3, 0, none⟩) n3 k3) = X := ⟨_, rfl⟩
        rw [hnw6] at hL3 hB3 hK3
        have HNw6 := Lib.hid hnw6
        have HLw6 := Lib.hid hL3
        have HBw6 : Hid (Below (w.heap.size + 1) W0 w6) := Lib.hid (HBw5.out.trans hB3)
        have HKDw6 : Hid (w6.heap[D]? = some (.deferred (some []))) := Lib.hid (hK3.same D _ HKDw5.out rfl)
        have hzw6 : W3.heap.size ≤ w6.heap.size := by have := hK3.size; omega
        clear hown2 hown3 hg hL3 hB3 hK3 hnw6
        go_wp2
        rw [HNw6.out]
        have HWL6 : Hid (∀ l ∈ [nameA (Int.toNat 8)] ++ [node, n, (by_.toNat : Int)].map itoa ++ [wRead], l.length ≤ 100) := Lib.hid (words_more HWL.out (by decide))
        obtain ⟨vJ, -, hWJ, hOJ⟩ := HLw6.out.is
        have cJ : w6.cell? ⟨w.heap.size + 1, 0, none⟩ = some vJ := hWJ.cell 0
        have hRJ : w.heap.size + 1 < w6.heap.size := by omega
        have HJ := Lib.hid (join_own (sep := [32]) w6 hOJ (by simp) (by simp) (by
          refine Nat.le_trans (join_len 32 100 _ ?_) (by simp)
          exact HWL6.out))
        clear hWJ hOJ
        gi_wp2
        refine ⟨trivial, (callsIn_wide.2 HJ.out).mono ?_⟩
        rintro e WE ⟨rfl, hbE⟩
        have hkE : WE.heap[D]? = some (.deferred (some [])) := (hbE.block D (Array.getElem?_eq_some_iff.1 HKDw6.out).1).trans HKDw6.out
        have HBE : Hid (Below w.heap.size w WE) := Lib.hid ((HB0.out.trans (HBw6.out.mono (by omega))).trans (hbE.mono (by omega)))
        clear hbE
        gi_wp2
        refine ⟨by simp, .inl ⟨_, _, rfl, run_takeDeferred hkE, ?_⟩⟩
        refine ⟨.string (str (actText ⟨8, node, port, cost, n, up, by_, false, bytes⟩)), ?_, rfl, HBE.out.trans (belowK_b (w := w) (Nat.le_refl _) WE D _ _ (by omega) hkE rfl rfl)⟩
        simp [results, Tryz.results75, go_sem]
        rfl
      | true =>
        gi_wp2
        refine ⟨trivial, (callsIn_wide.2 (put_any (w.heap.size + 1) (w.heap.size + 1) W.heap.size 3 [node, n, (by_.toNat : Int)] ([nameA (Int.toNat 8)]) _ (HLW.out.below ((Below.refl _ _).alloc (Nat.le_refl _) _)) (Whole.new W 3 #[.int .i64 node, .int .i64 n, .int .i64 (by_.toNat : Int)]) HIN.out (by simp) (by simp) (by simp) (EW.out.here ((Below.refl _ _).alloc (Nat.le_refl _) _)) (by omega) (by simp; omega))).mono ?_⟩
        rintro e w5 ⟨rfl, hLw5, hBw5, hOw5⟩
        have HLw5 := Lib.hid hLw5
        have HBw5 : Hid (Below (w.heap.size + 1) W0 w5) := Lib.hid ((HBW.out.alloc (by omega) _).trans hBw5)
        have HKDw5 : Hid (w5.heap[D]? = some (.deferred (some []))) := Lib.hid (hOw5.same D _ ((Below.heap_alloc W _ D (Array.getElem?_eq_some_iff.1 HKDW.out).1).trans HKDW.out) rfl)
        have hzw5 : W3.heap.size ≤ w5.heap.size := by have := hOw5.size; simp at this; omega
        have Ew5 := Lib.hid (E0.out.below (by omega) HBw5.out)
        clear hLw5 hBw5 hOw5
        obtain ⟨vw6, hBRw6, hWw6, hOw6⟩ := HLw5.out.is
        have cRw6 : w5.cell? ⟨w.heap.size + 1, 0, none⟩ = some vw6 := hWw6.cell 0
        have hXw6 := HX.out.below HBw5.out (by omega)
        have xFw6 : w5.cell? ⟨w.heap.size, 7, none⟩ = some (.bool true) := hXw6.cell 7
        have hRw6 : w.heap.size + 1 < w5.heap.size := by omega
        have hFw6 : w.heap.size < w5.heap.size := by omega
        have HWw6 := Lib.hid hWw6
        have HOw6 := Lib.hid hOw6
        have HBVw6 : Hid (Bs w5 (.slice A bytes.length c) bytes) := Lib.hid (HBV.out.keep (by omega) fun p hp => (HBw5.out.cell (show p.block < _ by omega)).trans (HB0.out.cell hp))
        clear hWw6 hOw6 hXw6
        gi_wp2
        refine wpIn_wide.2 (wp_calm ?_)
        refine wp_region_ext_load (v := vw6) 4 (by kernel_rfl) (by kernel_rfl) rfl rfl (.inl ⟨rfl, ?_⟩) (fun _ _ _ h => h) ?_
        · rintro _ ⟨x, rfl⟩
          have cx := (x.cell ⟨w.heap.size + 1, 0, none⟩ hRw6).trans cRw6
          go_simp
        simp only [List.take_succ_cons, List.take_zero, List.drop_succ_cons, List.drop_zero, Act.put, List.setIfInBounds_toArray, List.set_cons_succ, List.set_cons_zero]
        repeat (go_big_quiet_step (first | (go_at_call 137; exact Ext.callq (either_any _ _ _ _))))
        refine wpQuiet_nil ?_
        rintro _ ⟨zw6, rfl⟩
        go_wp2
        have hzb := zw6.below.size
        refine ⟨⟨⟨_, bel_alloc zw6.below _⟩, rfl⟩, ?_⟩
        have hown2 := own_below HOw6.out zw6.below
        go_wp2_with (at_builtin; refine wpList_push rfl _ _ 40 rfl (w.heap.size + 1) 9 info_str rfl (by decide) Tryz.underlying40 _ _ _ rfl hown2 rfl rfl (by simp) (by omega) ?_)
        intro v' ww6' hown3 hg
        rw [show Value.string { data := #[117, 110, 114, 101, 97, 100] } = Sv (wUnread) from rfl] at hown3
        obtain ⟨g3, n3, k3, rfl, c3, f3, hL3, hB3, hK3⟩ := LinesIs.push' (l := wUnread) HWw6.out HOw6.out zw6.below hown3 hg hBRw6 (by omega)
        obtain ⟨w6, hnw6⟩ : ∃ X, ww6'.setCell ⟨w.heap.size + 1, 0, none⟩ (.slice (some ⟨g3, 0, none⟩) n3 k3) = X := ⟨_, rfl⟩
        rw [hnw6] at hL3 hB3 hK3
        have HNw6 := Lib.hid hnw6
        have HLw6 := Lib.hid hL3
        have HBw6 : Hid (Below (w.heap.size + 1) W0 w6) := Lib.hid (HBw5.out.trans hB3)
        have HKDw6 : Hid (w6.heap[D]? = some (.deferred (some []))) := Lib.hid (hK3.same D _ HKDw5.out rfl)
        have hzw6 : W3.heap.size ≤ w6.heap.size := by have := hK3.size; omega
        clear hown2 hown3 hg hL3 hB3 hK3 hnw6
        go_wp2
        rw [HNw6.out]
        have HWL6 : Hid (∀ l ∈ [nameA (Int.toNat 8)] ++ [node, n, (by_.toNat : Int)].map itoa ++ [wUnread], l.length ≤ 100) := Lib.hid (words_more HWL.out (by decide))
        obtain ⟨vJ, -, hWJ, hOJ⟩ := HLw6.out.is
        have cJ : w6.cell? ⟨w.heap.size + 1, 0, none⟩ = some vJ := hWJ.cell 0
        have hRJ : w.heap.size + 1 < w6.heap.size := by omega
        have HJ := Lib.hid (join_own (sep := [32]) w6 hOJ (by simp) (by simp) (by
          refine Nat.le_trans (join_len 32 100 _ ?_) (by simp)
          exact HWL6.out))
        clear hWJ hOJ
        gi_wp2
        refine ⟨trivial, (callsIn_wide.2 HJ.out).mono ?_⟩
        rintro e WE ⟨rfl, hbE⟩
        have hkE : WE.heap[D]? = some (.deferred (some [])) := (hbE.block D (Array.getElem?_eq_some_iff.1 HKDw6.out).1).trans HKDw6.out
        have HBE : Hid (Below w.heap.size w WE) := Lib.hid ((HB0.out.trans (HBw6.out.mono (by omega))).trans (hbE.mono (by omega)))
        clear hbE
        gi_wp2
        refine ⟨by simp, .inl ⟨_, _, rfl, run_takeDeferred hkE, ?_⟩⟩
        refine ⟨.string (str (actText ⟨8, node, port, cost, n, up, by_, true, bytes⟩)), ?_, rfl, HBE.out.trans (belowK_b (w := w) (Nat.le_refl _) WE D _ _ (by omega) hkE rfl rfl)⟩
        simp [results, Tryz.results75, go_sem]
        rfl
    · have HIN : Hid (∀ y ∈ [node], In64 y) := Lib.hid (by
        intro y hy
        simp only [List.mem_cons, List.not_mem_nil, or_false] at hy
        rcases hy with rfl <;> first | exact HI.out.2.1 | exact HI.out.2.2.1 | exact HI.out.2.2.2.1 | exact HI.out.2.2.2.2 | exact in_byte _)
      have HWL : Hid (∀ l ∈ ([nameA (Int.toNat 9)] ++ [node].map itoa), l.length ≤ 100) := Lib.hid (words_len HIN.out)
      clear HR HW0 HB3 HS HR3 HW3 HX3 HXW hA hB hc
      gi_wp2
      refine ⟨trivial, (callsIn_wide.2 (put_any (w.heap.size + 1) (w.heap.size + 1) W.heap.size 1 [node] ([nameA (Int.toNat 9)]) _ (HLW.out.below ((Below.refl _ _).alloc (Nat.le_refl _) _)) (Whole.new W 3 #[.int .i64 node]) HIN.out (by simp) (by simp) (by simp) (EW.out.here ((Below.refl _ _).alloc (Nat.le_refl _) _)) (by omega) (by simp; omega))).mono ?_⟩
      rintro e w5 ⟨rfl, hLw5, hBw5, hOw5⟩
      have HLw5 := Lib.hid hLw5
      have HBw5 : Hid (Below (w.heap.size + 1) W0 w5) := Lib.hid ((HBW.out.alloc (by omega) _).trans hBw5)
      have HKDw5 : Hid (w5.heap[D]? = some (.deferred (some []))) := Lib.hid (hOw5.same D _ ((Below.heap_alloc W _ D (Array.getElem?_eq_some_iff.1 HKDW.out).1).trans HKDW.out) rfl)
      have hzw5 : W3.heap.size ≤ w5.heap.size := by have := hOw5.size; simp at this; omega
      have Ew5 := Lib.hid (E0.out.below (by omega) HBw5.out)
      clear hLw5 hBw5 hOw5
      obtain ⟨vw6, hBRw6, hWw6, hOw6⟩ := HLw5.out.is
      have cRw6 : w5.cell? ⟨w.heap.size + 1, 0, none⟩ = some vw6 := hWw6.cell 0
      have hXw6 := HX.out.below HBw5.out (by omega)
      have xFw6 : w5.cell? ⟨w.heap.size, 8, none⟩ = some (.slice A bytes.length c) := hXw6.cell 8
      have hRw6 : w.heap.size + 1 < w5.heap.size := by omega
      have hFw6 : w.heap.size < w5.heap.size := by omega
      have HWw6 := Lib.hid hWw6
      have HOw6 := Lib.hid hOw6
      have HBVw6 : Hid (Bs w5 (.slice A bytes.length c) bytes) := Lib.hid (HBV.out.keep (by omega) fun p hp => (HBw5.out.cell (show p.block < _ by omega)).trans (HB0.out.cell hp))
      clear hWw6 hOw6 hXw6
      gi_wp2
      refine wpIn_wide.2 (wp_calm ?_)
      refine wp_region_ext_load (v := vw6) 4 (by kernel_rfl) (by kernel_rfl) rfl rfl (.inl ⟨rfl, ?_⟩) (fun _ _ _ h => h) ?_
      · rintro _ ⟨x, rfl⟩
        have cx := (x.cell ⟨w.heap.size + 1, 0, none⟩ hRw6).trans cRw6
        go_simp
      simp only [List.take_succ_cons, List.take_zero, List.drop_succ_cons, List.drop_zero, Act.put, List.setIfInBounds_toArray, List.set_cons_succ, List.set_cons_zero]
      repeat (go_big_quiet_step (first | (go_at_call 138; exact Ext.call (chex_any _ bytes _ (HBVw6.out.ext _) (by omega)))))
      refine wpQuiet_nil ?_
      rintro _ ⟨zw6, rfl⟩
      go_wp2
      have hzb := zw6.below.size
      refine ⟨⟨⟨_, bel_alloc zw6.below _⟩, rfl⟩, ?_⟩
      have hown2 := own_below HOw6.out zw6.below
      go_wp2_with (at_builtin; refine wpList_push rfl _ _ 40 rfl (w.heap.size + 1) 9 info_str rfl (by decide) Tryz.underlying40 _ _ _ rfl hown2 rfl rfl (by simp) (by omega) ?_)
      intro v' ww6' hown3 hg
      rw [show Value.string (str (hexD bytes)) = Sv (hexD bytes) from rfl] at hown3
      obtain ⟨g3, n3, k3, rfl, c3, f3, hL3, hB3, hK3⟩ := LinesIs.push' (l := hexD bytes) HWw6.out HOw6.out zw6.below hown3 hg hBRw6 (by omega)
      obtain ⟨w6, hnw6⟩ : ∃ X, ww6'.setCell ⟨w.heap.size + 1, 0, none⟩ (.slice (some ⟨g3, 0, none⟩) n3 k3) = X := ⟨_, rfl⟩
      rw [hnw6] at hL3 hB3 hK3
      have HNw6 := Lib.hid hnw6
      have HLw6 := Lib.hid hL3
      have HBw6 : Hid (Below (w.heap.size + 1) W0 w6) := Lib.hid (HBw5.out.trans hB3)
      have HKDw6 : Hid (w6.heap[D]? = some (.deferred (some []))) := Lib.hid (hK3.same D _ HKDw5.out rfl)
      have hzw6 : W3.heap.size ≤ w6.heap.size := by have := hK3.size; omega
      clear hown2 hown3 hg hL3 hB3 hK3 hnw6
      go_wp2
      rw [HNw6.out]
      have HWL6 : Hid (∀ l ∈ [nameA (Int.toNat 9)] ++ [node].map itoa ++ [hexD bytes], l.length ≤ 200001) := Lib.hid (words_more (fun l hl => Nat.le_trans (HWL.out l hl) (by omega)) (by have := hexD_len bytes; omega))
      obtain ⟨vJ, -, hWJ, hOJ⟩ := HLw6.out.is
      have cJ : w6.cell? ⟨w.heap.size + 1, 0, none⟩ = some vJ := hWJ.cell 0
      have hRJ : w.heap.size + 1 < w6.heap.size := by omega
      have HJ := Lib.hid (join_own (sep := [32]) w6 hOJ (by simp) (by simp) (by
        refine Nat.le_trans (join_len 32 200001 _ ?_) (by simp)
        exact HWL6.out))
      clear hWJ hOJ
      gi_wp2
      refine ⟨trivial, (callsIn_wide.2 HJ.out).mono ?_⟩
      rintro e WE ⟨rfl, hbE⟩
      have hkE : WE.heap[D]? = some (.deferred (some [])) := (hbE.block D (Array.getElem?_eq_some_iff.1 HKDw6.out).1).trans HKDw6.out
      have HBE : Hid (Below w.heap.size w WE) := Lib.hid ((HB0.out.trans (HBw6.out.mono (by omega))).trans (hbE.mono (by omega)))
      clear hbE
      gi_wp2
      refine ⟨by simp, .inl ⟨_, _, rfl, run_takeDeferred hkE, ?_⟩⟩
      refine ⟨.string (str (actText ⟨9, node, port, cost, n, up, by_, unread, bytes⟩)), ?_, rfl, HBE.out.trans (belowK_b (w := w) (Nat.le_refl _) WE D _ _ (by omega) hkE rfl rfl)⟩
      simp [results, Tryz.results75, go_sem]
      rfl
  case stop =>
    rintro D c pre W _ _ h _
    exact h.elim
end Go.Proofs.YtfbangojgjcbcaaGreatDoor
namespace Go.Proofs.YtfbangojgjcbcaaGreatDoor.Pl
/-- Ahead of the byte i, acc read. -/
def UnInv (l : List UInt8) (i : Nat) (acc : List UInt8) : Prop := unhex l = (unhex (l.drop i)).map fun r => acc ++ r
theorem UnInv.start (l : List UInt8) : UnInv l 0 [] := by simp [UnInv]
theorem UnInv.done {l : List UInt8} {acc : List UInt8} (h : UnInv l l.length acc) : unhex l = some acc := by
  unfold UnInv at h; rw [h, List.drop_length]; simp [unhex]
theorem UnInv.good {l : List UInt8} {i : Nat} {acc : List UInt8} (h : UnInv l i acc) (hi : i + 1 < l.length) {a b : UInt8} (ha : l[i] = a) (hb : l[i + 1] = b) {p q : Nat} (hp : dig a = some p) (hq : dig b = some q) :
    UnInv l (i + 2) (acc ++ [UInt8.ofNat (16 * p + q)]) := by
  unfold UnInv at h ⊢
  rw [h, unhex_step l i hi, ha, hb, hp, hq]
  cases unhex (l.drop (i + 2)) <;> simp
theorem UnInv.bad {l : List UInt8} {i : Nat} {acc : List UInt8} (h : UnInv l i acc) (hi : i + 1 < l.length) {a b : UInt8} (ha : l[i] = a) (hb : l[i + 1] = b) (hn : dig a = none ∨ dig b = none) : unhex l = none := by
  unfold UnInv at h
  rw [h, unhex_step l i hi, ha, hb]
  rcases hn with hn | hn
  · rw [hn]; rfl
  · rw [hn]; cases dig a <;> rfl
end Go.Proofs.YtfbangojgjcbcaaGreatDoor.Pl
