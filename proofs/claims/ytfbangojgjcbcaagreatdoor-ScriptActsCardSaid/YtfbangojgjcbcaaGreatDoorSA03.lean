/- Part 3 of the proof: ActA, OpenS, ActB, ActC, Builder, TrieD, TrieE, TrieH, ConfH, ConfK, ConfM, ConfR, PlainJ, ConfS, LinesC, ConfTx, Hex. -/
import Derived.Test.YtfbangojgjcbcaaGreatDoorShelf2
import Derived.Lib.Builder
import Derived.Test.YtfbangojgjcbcaaGreatDoorShelf3
import Derived.WalkMore
import Derived.Deep.LoopGhost
import Derived.Deep.DeepCutAuto
import Derived.RangeFuncNested
import Derived.RangeFuncBound
import Derived.RangeFuncCalls
import Derived.RangeFuncLeaves
import Derived.RangeFuncBox
import Derived.Shelf.Abstract
import Derived.OwnWalkIn
import Derived.TacticsInMore
import Derived.LoopNIn
import Derived.LoopIn
import Derived.Deep.RegionLaw
import Derived.MapKept
import Derived.Lib.AppendStr
import Derived.Lib.UnsafeStr
import Derived.Test.YtfbangojgjcbcaaGreatDoorSA01
import Derived.Test.YtfbangojgjcbcaaGreatDoorSA02
namespace Go.Proofs.YtfbangojgjcbcaaGreatDoor
open Go.RowKit Pl
/-- An act as a value: its bytes are whatever slice. -/
abbrev actV (a : ActP) (bv : Value) : Value := .agg #[.int .i64 a.kind, .int .i64 a.node, .int .i64 a.port, .int .i64 a.cost, .int .i64 a.n, .bool a.up, .int .u8 (a.by_.toNat : Int), .bool a.unread, bv]
def bareA (a : ActP) : ActP := match a.kind with
  | 1 => { kind := 1, node := a.node }
  | 2 => { kind := 2, n := a.n }
  | 3 => { kind := 3, n := a.n }
  | 4 => { kind := 4, n := a.n }
  | 5 => { kind := 5, node := a.node, port := a.port, cost := a.cost }
  | 6 => { kind := 6, n := a.n, up := a.up }
  | 7 => { kind := 7, node := a.node }
  | 8 => { kind := 8, node := a.node, n := a.n, by_ := a.by_, unread := a.unread }
  | 9 => { kind := 9, node := a.node, bytes := a.bytes }
  | k => { kind := k }
def bareV (a : ActP) (bv : Value) : Value := if a.kind = 9 then bv else .slice none 0 0
def K9 (a : ActP) : Prop := 1 ≤ a.kind ∧ a.kind ≤ 9
theorem K9.cases {a : ActP} (h : K9 a) : a.kind = 1 ∨ a.kind = 2 ∨ a.kind = 3 ∨ a.kind = 4 ∨ a.kind = 5 ∨ a.kind = 6 ∨ a.kind = 7 ∨ a.kind = 8 ∨ a.kind = 9 := by
  obtain ⟨h0, h1⟩ := h
  omega
theorem Bs.bare {w : World} {a : ActP} {bv : Value} (h : Bs w bv a.bytes) (hk : K9 a) : Bs w (bareV a bv) (bareA a).bytes := by
  rcases hk.cases with e | e | e | e | e | e | e | e | e <;> simp only [bareV, bareA, e] <;> first | exact Bs.nil w | exact h
set_option maxRecDepth 100000 in
set_option maxHeartbeats 4000000 in
theorem bare_any (a : ActP) (bv : Value) (w : World) (hk : K9 a) (h : Bs w bv a.bytes) :
    Calls Tryz.prog 77 #[actV a bv] w fun e w' => e = .returned (actV (bareA a) (bareV a bv)) ∧ Below w.heap.size w w' := by
  obtain ⟨k, node, port, cost, n, up, by_, unread, bytes⟩ := a
  obtain ⟨A, c, rfl, -⟩ := h
  have hs2 : w.heap.size < w.heap.size + 1 + 1 := by omega
  have hs3 : w.heap.size + 1 < w.heap.size + 1 + 1 + 1 := by omega
  rcases hk.cases with e | e | e | e | e | e | e | e | e <;> simp only at e <;> subst e
  · go_enter Tryz.func77, Tryz.ntmps77
    go_wp2
    exact bodyPost_ret (v := .agg #[.int .i64 1, .int .i64 node, .int .i64 0, .int .i64 0, .int .i64 0, .bool false, .int .u8 0, .bool false, .slice none 0 0]) (by simp [results, Tryz.results77, go_sem]) rfl ⟨rfl, (by repeat (first | exact Below.refl _ _ | apply Below.drew | apply Go.below_drewN | apply bel_alloc | apply Ext.lift | apply bel_set0 | apply bel_set))⟩
  · go_enter Tryz.func77, Tryz.ntmps77
    go_wp2
    exact bodyPost_ret (v := .agg #[.int .i64 2, .int .i64 0, .int .i64 0, .int .i64 0, .int .i64 n, .bool false, .int .u8 0, .bool false, .slice none 0 0]) (by simp [results, Tryz.results77, go_sem]) rfl ⟨rfl, (by repeat (first | exact Below.refl _ _ | apply Below.drew | apply Go.below_drewN | apply bel_alloc | apply Ext.lift | apply bel_set0 | apply bel_set))⟩
  · go_enter Tryz.func77, Tryz.ntmps77
    go_wp2
    exact bodyPost_ret (v := .agg #[.int .i64 3, .int .i64 0, .int .i64 0, .int .i64 0, .int .i64 n, .bool false, .int .u8 0, .bool false, .slice none 0 0]) (by simp [results, Tryz.results77, go_sem]) rfl ⟨rfl, (by repeat (first | exact Below.refl _ _ | apply Below.drew | apply Go.below_drewN | apply bel_alloc | apply Ext.lift | apply bel_set0 | apply bel_set))⟩
  · go_enter Tryz.func77, Tryz.ntmps77
    go_wp2
    exact bodyPost_ret (v := .agg #[.int .i64 4, .int .i64 0, .int .i64 0, .int .i64 0, .int .i64 n, .bool false, .int .u8 0, .bool false, .slice none 0 0]) (by simp [results, Tryz.results77, go_sem]) rfl ⟨rfl, (by repeat (first | exact Below.refl _ _ | apply Below.drew | apply Go.below_drewN | apply bel_alloc | apply Ext.lift | apply bel_set0 | apply bel_set))⟩
  · go_enter Tryz.func77, Tryz.ntmps77
    go_wp2
    go_region_held3 (fun w' => w'.cell? ⟨w.heap.size, 1, none⟩ = some (.int .i64 node) ∧ w'.cell? ⟨w.heap.size, 2, none⟩ = some (.int .i64 port) ∧ w'.cell? ⟨w.heap.size, 3, none⟩ = some (.int .i64 cost)) (go_keep) (fail)
    all_goals
      go_wp2
      exact bodyPost_ret (v := .agg #[.int .i64 5, .int .i64 node, .int .i64 port, .int .i64 cost, .int .i64 0, .bool false, .int .u8 0, .bool false, .slice none 0 0]) (by simp [results, Tryz.results77, go_sem]) rfl ⟨rfl, (by repeat (first | assumption | exact Below.refl _ _ | apply Below.drew | apply Go.below_drewN | apply bel_alloc | apply Ext.lift | refine bel_setge ?_ (by omega) _ _))⟩
  · go_enter Tryz.func77, Tryz.ntmps77
    go_wp2
    go_region_held3 (fun w' => w'.cell? ⟨w.heap.size, 4, none⟩ = some (.int .i64 n) ∧ w'.cell? ⟨w.heap.size, 5, none⟩ = some (.bool up)) (go_keep) (fail)
    all_goals
      go_wp2
      exact bodyPost_ret (v := .agg #[.int .i64 6, .int .i64 0, .int .i64 0, .int .i64 0, .int .i64 n, .bool up, .int .u8 0, .bool false, .slice none 0 0]) (by simp [results, Tryz.results77, go_sem]) rfl ⟨rfl, (by repeat (first | assumption | exact Below.refl _ _ | apply Below.drew | apply Go.below_drewN | apply bel_alloc | apply Ext.lift | refine bel_setge ?_ (by omega) _ _))⟩
  · go_enter Tryz.func77, Tryz.ntmps77
    go_wp2
    exact bodyPost_ret (v := .agg #[.int .i64 7, .int .i64 node, .int .i64 0, .int .i64 0, .int .i64 0, .bool false, .int .u8 0, .bool false, .slice none 0 0]) (by simp [results, Tryz.results77, go_sem]) rfl ⟨rfl, (by repeat (first | exact Below.refl _ _ | apply Below.drew | apply Go.below_drewN | apply bel_alloc | apply Ext.lift | apply bel_set0 | apply bel_set))⟩
  · go_enter Tryz.func77, Tryz.ntmps77
    go_wp2
    go_region_held3 (fun w' => w'.cell? ⟨w.heap.size, 1, none⟩ = some (.int .i64 node) ∧ w'.cell? ⟨w.heap.size, 4, none⟩ = some (.int .i64 n) ∧ w'.cell? ⟨w.heap.size, 6, none⟩ = some (.int .u8 (by_.toNat : Int)) ∧ w'.cell? ⟨w.heap.size, 7, none⟩ = some (.bool unread)) (go_keep) (fail)
    all_goals
      go_wp2
      exact bodyPost_ret (v := .agg #[.int .i64 8, .int .i64 node, .int .i64 0, .int .i64 0, .int .i64 n, .bool false, .int .u8 (by_.toNat : Int), .bool unread, .slice none 0 0]) (by simp [results, Tryz.results77, go_sem]) rfl ⟨rfl, (by repeat (first | assumption | exact Below.refl _ _ | apply Below.drew | apply Go.below_drewN | apply bel_alloc | apply Ext.lift | refine bel_setge ?_ (by omega) _ _))⟩
  · go_enter Tryz.func77, Tryz.ntmps77
    go_wp2
    go_region_held3 (fun w' => w'.cell? ⟨w.heap.size, 1, none⟩ = some (.int .i64 node) ∧ w'.cell? ⟨w.heap.size, 8, none⟩ = some (.slice A bytes.length c)) (go_keep) (fail)
    all_goals
      go_wp2
      exact bodyPost_ret (v := .agg #[.int .i64 9, .int .i64 node, .int .i64 0, .int .i64 0, .int .i64 0, .bool false, .int .u8 0, .bool false, .slice A bytes.length c]) (by simp [results, Tryz.results77, go_sem]) rfl ⟨rfl, (by repeat (first | assumption | exact Below.refl _ _ | apply Below.drew | apply Go.below_drewN | apply bel_alloc | apply Ext.lift | refine bel_setge ?_ (by omega) _ _))⟩
end Go.Proofs.YtfbangojgjcbcaaGreatDoor
namespace Go.Proofs.YtfbangojgjcbcaaGreatDoor
open Go.ChangeShapes Go.WideShapes Go.ChangeAt Go.RowKit Pl
theorem in64_of_wf {a : Int} (h : (Lit.int .i64 a).wf = true) : In64 a := by
  simp [Lit.wf, IntKind.min, IntKind.max, IntKind.signed, IntKind.bits] at h
  exact ⟨by omega, by omega⟩
theorem byte_of_wf {a : Int} (h : (Lit.int .u8 a).wf = true) : a = ((UInt8.ofNat a.toNat).toNat : Int) := by
  simp [Lit.wf, IntKind.min, IntKind.max, IntKind.signed, IntKind.bits] at h
  rw [UInt8.toNat_ofNat']
  omega
theorem arrayS9 {cs : Array Value} (h : cs.size = 9) : ∃ c0 c1 c2 c3 c4 c5 c6 c7 c8, cs = #[c0, c1, c2, c3, c4, c5, c6, c7, c8] := by
  obtain ⟨l⟩ := cs
  match l, h with
  | [c0, c1, c2, c3, c4, c5, c6, c7, c8], _ => exact ⟨c0, c1, c2, c3, c4, c5, c6, c7, c8, rfl⟩
section
variable {H : Type} {enc : TypeId × Value → H} {W : World} {base b0 : Nat} {sp : Nat → Bool} {held : Bool} {r : Reach}
theorem sCellsK : Tryz.prog.cellsOf 49 = 1 := by kernel_rfl
theorem sCellsI : Tryz.prog.cellsOf 3 = 1 := by kernel_rfl
theorem sCellsB : Tryz.prog.cellsOf 4 = 1 := by kernel_rfl
theorem sCellsY : Tryz.prog.cellsOf 5 = 1 := by kernel_rfl
theorem sCellsA : Tryz.prog.cellsOf 51 = 9 := by kernel_rfl
set_option maxRecDepth 100000 in
theorem openS_bytes {fuel : Nat} {v : Value} {x : DataW H × List MemPlace} (hf : DataW.trod enc Tryz.prog W base sp held fuel 37 [v] = some x) :
    ∃ l : List UInt8, Bs W v l := by
  rcases open_ints Tryz.underlying37 Tryz.underlying5 (by kernel_rfl) hf with ⟨hcs, _⟩ | ⟨x, len, cap, zs, hcs, _, hl, hm, hz, _, hcell, hwz⟩
  · simp at hcs
    subst hcs
    exact ⟨[], Bs.nil W⟩
  · simp at hcs
    subst hcs
    have hzl : len ≤ zs.length := by rw [hz]; split <;> omega
    obtain ⟨L, hL, hLe⟩ : ∃ L : List UInt8, L.length = len ∧ ∀ j, j < len → (zs.getD j 0) = ((L.getD j 0).toNat : Int) := by
      refine ⟨(zs.take len).map fun z => UInt8.ofNat z.toNat, by simp; omega, fun j hj => ?_⟩
      have hjz : j < zs.length := by omega
      have hw := hwz zs[j] (List.getElem_mem hjz)
      simp [Lit.wf, IntKind.min, IntKind.max, IntKind.signed, IntKind.bits] at hw
      simp only [List.getD_eq_getElem?_getD, List.getElem?_map, List.getElem?_take, if_pos hj, List.getElem?_eq_getElem hjz, Option.map_some, Option.getD_some]
      rw [UInt8.toNat_ofNat']
      omega
    refine ⟨L, some x, cap, by rw [hL], by rw [hL]; exact hl, (fun h => by cases h), fun hp => ?_⟩
    obtain ⟨b, off, spot⟩ := x
    have hc0 := hcell 0 (by omega)
    have hcB := hc0
    rw [show ((⟨b, off, spot⟩ : Addr).add 0) = ⟨b, off, spot⟩ from by simp [Addr.add]] at hcB
    have hspot : spot = none := by simpa [Addr.add] using World.cell?_spot hc0
    subst hspot
    refine ⟨b, off, rfl, ?_, fun j u hu => ?_⟩
    · exact block_lt_of_cell hcB
    · have hj : j < len := by have := (List.getElem?_eq_some_iff.1 hu).1; rw [cellsB_length] at this; omega
      have hcj := hcell j (by omega)
      rw [hLe j hj] at hcj
      have hu' : u = .int .u8 ((L.getD j 0).toNat : Int) := by
        have hjl : j < L.length := by omega
        simp [cellsB, List.getElem?_eq_getElem hjl] at hu
        rw [← hu]; simp [List.getD_eq_getElem?_getD, List.getElem?_eq_getElem hjl]
      rw [hu', ← hcj, addC]
set_option maxRecDepth 100000 in
theorem open_act {v : Value} {d : DataW H} {p : List MemPlace} (hv : Value.okWide Tryz.prog W r b0 51 v) (h : DataW.Trod enc Tryz.prog W base sp held 51 v d p) :
    ∃ a bv, v = actV a bv ∧ Bs W bv a.bytes ∧ InA a := by
  obtain ⟨cs, rfl, hsz⟩ := okWide_struct Tryz.underlying51 hv
  obtain ⟨c0, c1, c2, c3, c4, c5, c6, c7, c8, rfl⟩ := arrayS9 (hsz.trans sCellsA)
  obtain ⟨fuel, hf⟩ := h
  obtain ⟨xs, n, _, _, _, hlen, hx⟩ := DataW.trod_struct Tryz.underlying51 hf
  have some_at : ∀ i : Nat, i < 9 → ∃ y, xs[i]? = some y := fun i hi => ⟨_, List.getElem?_eq_getElem (by rw [hlen]; exact hi)⟩
  have i0 := hx 0 _ rfl
  have i1 := hx 1 _ rfl
  have i2 := hx 2 _ rfl
  have i3 := hx 3 _ rfl
  have i4 := hx 4 _ rfl
  have i5 := hx 5 _ rfl
  have i6 := hx 6 _ rfl
  have i7 := hx 7 _ rfl
  have i8 := hx 8 _ rfl
  simp only [Value.cells] at i0 i1 i2 i3 i4 i5 i6 i7 i8
  obtain ⟨y0, e0⟩ := some_at 0 (by decide)
  obtain ⟨y1, e1⟩ := some_at 1 (by decide)
  obtain ⟨y2, e2⟩ := some_at 2 (by decide)
  obtain ⟨y3, e3⟩ := some_at 3 (by decide)
  obtain ⟨y4, e4⟩ := some_at 4 (by decide)
  obtain ⟨y5, e5⟩ := some_at 5 (by decide)
  obtain ⟨y6, e6⟩ := some_at 6 (by decide)
  obtain ⟨y7, e7⟩ := some_at 7 (by decide)
  obtain ⟨y8, e8⟩ := some_at 8 (by decide)
  rw [e0] at i0
  rw [e1] at i1
  rw [e2] at i2
  rw [e3] at i3
  rw [e4] at i4
  rw [e5] at i5
  rw [e6] at i6
  rw [e7] at i7
  rw [e8] at i8
  obtain ⟨a0, f0, _, w0⟩ := DataW.trod_int Tryz.underlying49 i0
  obtain ⟨a1, f1, _, w1⟩ := DataW.trod_int Tryz.underlying3 i1
  obtain ⟨a2, f2, _, w2⟩ := DataW.trod_int Tryz.underlying3 i2
  obtain ⟨a3, f3, _, w3⟩ := DataW.trod_int Tryz.underlying3 i3
  obtain ⟨a4, f4, _, w4⟩ := DataW.trod_int Tryz.underlying3 i4
  obtain ⟨a5, f5, _⟩ := DataW.trod_bool Tryz.underlying4 i5
  obtain ⟨a6, f6, _, w6⟩ := DataW.trod_int Tryz.underlying5 i6
  obtain ⟨a7, f7, _⟩ := DataW.trod_bool Tryz.underlying4 i7
  obtain ⟨l8, hb⟩ := openS_bytes i8
  simp [sCellsI, sCellsK, sCellsB, sCellsY] at f0 f1 f2 f3 f4 f5 f6 f7
  subst f0 f1 f2 f3 f4 f5 f6 f7
  have e6' := byte_of_wf w6
  exact ⟨⟨a0, a1, a2, a3, a4, a5, UInt8.ofNat a6.toNat, a7, l8⟩, c8, by unfold actV; simp only [← e6'], hb, in64_of_wf w0, in64_of_wf w1, in64_of_wf w2, in64_of_wf w3, in64_of_wf w4⟩
end
end Go.Proofs.YtfbangojgjcbcaaGreatDoor
namespace Go.Proofs.YtfbangojgjcbcaaGreatDoor
open Go.RowKit Pl
theorem takeB_ne {ps qs : List UInt8} {j : Nat} {u v : UInt8} (hu : ps[j]? = some u) (hv : qs[j]? = some v) (h : u ≠ v) : decide (ps = qs) = false :=
  decide_eq_false fun e => h (by subst e; rw [hu] at hv; injection hv)
theorem takeB_next {ps qs : List UInt8} {j : Nat} {u : UInt8} (hu : ps[j]? = some u) (hv : qs[j]? = some u) (h : ps.take j = qs.take j) : ps.take (j + 1) = qs.take (j + 1) := by
  rw [List.take_add_one, List.take_add_one, hu, hv, h]
theorem takeB_all {ps qs : List UInt8} (hl : ps.length = qs.length) (h : ps.take ps.length = qs.take ps.length) : decide (ps = qs) = true := by
  rw [List.take_length] at h
  rw [hl, List.take_length] at h
  exact decide_eq_true h
theorem Bs.at {w : World} {A : Option Addr} {k : Nat} {l : List UInt8} (h : Bs w (.slice A l.length k) l) {j : Nat} {u : UInt8} (hu : l[j]? = some u) :
    ∃ b o, A = some ⟨b, o, none⟩ ∧ b < w.heap.size ∧ l.length ≤ k ∧ w.cell? ⟨b, o + j, none⟩ = some (.int .u8 (u.toNat : Int)) := by
  obtain ⟨A', c, hv, hc, _, hA⟩ := h
  injection hv with h1 h2 h3
  subst h1; subst h3
  have hj : j < l.length := (List.getElem?_eq_some_iff.1 hu).1
  obtain ⟨b, o, rfl, hb, hcell⟩ := hA (by omega)
  exact ⟨b, o, rfl, hb, hc, hcell j _ (by simp [cellsB, hu])⟩
set_option maxRecDepth 100000 in
set_option maxHeartbeats 2000000 in
theorem equalB_any (v v' : Value) (ps qs : List UInt8) (w : World) (h : Bs w v ps) (h' : Bs w v' qs) (hl : ps.length ≤ 1000000000) :
    Calls Tryz.prog 140 #[v, v'] w fun e w' => e = .returned (.bool (decide (ps = qs))) ∧ Below w.heap.size w w' := by
  have HP := Lib.hid h
  have HQ := Lib.hid h'
  obtain ⟨A, k1, rfl, _⟩ := h
  obtain ⟨B, k2, rfl, _⟩ := h'
  by_cases hn : ps.length = qs.length
  · have HN := Lib.hid hn
    have d1 : ((ps.length : Int) != (qs.length : Int)) = false := by simp [hn]
    clear hn
    go_enter Tryz.func140, Tryz.ntmps140
    go_wp2
    go_loopw [13] (fun i wr => ∃ j : Nat, j ≤ ps.length ∧ i = .int .i64 j ∧ Hid (ps.take j = qs.take j) ∧ Hid (Below w.heap.size w wr)) (fun i _ => ps.length - (intOf i).toNat)
    case atStart => exact ⟨0, Nat.zero_le _, rfl, Lib.hid rfl, Lib.hid (Below.refl _ _)⟩
    case round =>
      obtain ⟨j, hj, rfl, HT, HB⟩ := hrel
      by_cases hlt : j < ps.length
      · have hlt' : j < qs.length := by have := HN.out; omega
        obtain ⟨u, hu⟩ : ∃ u, ps[j]? = some u := ⟨_, List.getElem?_eq_getElem hlt⟩
        obtain ⟨v, hv⟩ : ∃ u, qs[j]? = some u := ⟨_, List.getElem?_eq_getElem hlt'⟩
        obtain ⟨b1, o1, rfl, hb1, -, p0⟩ := (HP.out.below HB.out).at hu
        obtain ⟨b2, o2, rfl, hb2, -, q0⟩ := (HQ.out.below HB.out).at hv
        have HU := Lib.hid hu
        have HV := Lib.hid hv
        clear hu hv
        by_cases e1 : u = v
        · subst e1
          have HT2 := Lib.hid (takeB_next HU.out HV.out HT.out)
          generalize (u.toNat : Int) = x at *
          go_wp2
          go_region
          go_wp2
          go_roundw
          case rel => exact ⟨j + 1, by omega, by go_num, HT2, Lib.hid HB.out.drew⟩
          case measure => simp [intOf]; omega
        · have HF := Lib.hid (takeB_ne HU.out HV.out e1)
          have d2 : ((u.toNat : Int) == (v.toNat : Int)) = false := by
            rw [beq_eq_false_iff_ne]
            intro h
            exact e1 (UInt8.toNat_inj.1 (by omega))
          generalize (u.toNat : Int) = x at *
          generalize (v.toNat : Int) = y at *
          clear e1
          go_wp2
          go_region
          go_wp2
          go_ret
          exact ⟨by rw [HF.out]; rfl, HB.out.drew⟩
      · obtain rfl : j = ps.length := by omega
        have HF := Lib.hid (takeB_all HN.out HT.out)
        go_wp2
        go_ret
        exact ⟨by rw [HF.out]; rfl, HB.out⟩
  · have d1 : ((ps.length : Int) != (qs.length : Int)) = true := by simp; omega
    have HF : Hid (decide (ps = qs) = false) := Lib.hid (decide_eq_false fun e => hn (by rw [e]))
    clear hn
    go_enter Tryz.func140, Tryz.ntmps140
    go_wp2
    go_ret
    exact ⟨by rw [HF.out]; rfl, Below.refl _ _⟩
-- printed by actb.py
/-- Are two acts the same? -/
def sameA (a b : ActP) : Bool := decide (a = b)
set_option maxRecDepth 100000 in
set_option maxHeartbeats 4000000 in
theorem csameAct_any (a b : ActP) (va vb : Value) (w : World) (h : Bs w va a.bytes) (h' : Bs w vb b.bytes) (hl : a.bytes.length ≤ 1000000000) :
    Calls Tryz.prog 76 #[actV a va, actV b vb] w fun e w' => e = .returned (.bool (sameA a b)) ∧ Below w.heap.size w w' := by
  have HEQ := Lib.hid (fun W (hb : Below w.heap.size w W) => equalB_any va vb a.bytes b.bytes W (h.below hb) (h'.below hb) hl)
  obtain ⟨A, c, rfl, -⟩ := h
  obtain ⟨B, c', rfl, -⟩ := h'
  obtain ⟨k, node, port, cost, n, up, by_, unread, bytes⟩ := a
  obtain ⟨k', node', port', cost', n', up', by_', unread', bytes'⟩ := b
  simp only at HEQ hl ⊢
  obtain ⟨W0, hW0⟩ : ∃ W0, (w.alloc (.cells #[.int .i64 k, .int .i64 node, .int .i64 port, .int .i64 cost, .int .i64 n, .bool up, .int .u8 (by_.toNat : Int), .bool unread, .slice A bytes.length c] 51)).alloc (.cells #[.int .i64 k', .int .i64 node', .int .i64 port', .int .i64 cost', .int .i64 n', .bool up', .int .u8 (by_'.toNat : Int), .bool unread', .slice B bytes'.length c'] 51) = W0 := ⟨_, rfl⟩
  have HB0 : Hid (Below w.heap.size w W0) := Lib.hid (by rw [← hW0]; exact ((Below.refl _ _).alloc (Nat.le_refl _) _).alloc (by simp) _)
  have HX1 : Whole W0 w.heap.size 51 #[.int .i64 k, .int .i64 node, .int .i64 port, .int .i64 cost, .int .i64 n, .bool up, .int .u8 (by_.toNat : Int), .bool unread, .slice A bytes.length c] := by rw [← hW0]; exact (Whole.new w _ _).alloc _
  have HX2 : Whole W0 (w.heap.size + 1) 51 #[.int .i64 k', .int .i64 node', .int .i64 port', .int .i64 cost', .int .i64 n', .bool up', .int .u8 (by_'.toNat : Int), .bool unread', .slice B bytes'.length c'] := by
    rw [← hW0]
    have := Whole.new (w.alloc (.cells #[.int .i64 k, .int .i64 node, .int .i64 port, .int .i64 cost, .int .i64 n, .bool up, .int .u8 (by_.toNat : Int), .bool unread, .slice A bytes.length c] 51)) 51 #[.int .i64 k', .int .i64 node', .int .i64 port', .int .i64 cost', .int .i64 n', .bool up', .int .u8 (by_'.toNat : Int), .bool unread', .slice B bytes'.length c']
    simpa using this
  have hlt1 := HX1.lt
  have hlt2 := HX2.lt
  have y0 : W0.cell? ⟨w.heap.size, 0, none⟩ = some (.int .i64 k) := HX1.cell 0
  have z0 : W0.cell? ⟨w.heap.size + 1, 0, none⟩ = some (.int .i64 k') := HX2.cell 0
  have y1 : W0.cell? ⟨w.heap.size, 1, none⟩ = some (.int .i64 node) := HX1.cell 1
  have z1 : W0.cell? ⟨w.heap.size + 1, 1, none⟩ = some (.int .i64 node') := HX2.cell 1
  have y2 : W0.cell? ⟨w.heap.size, 2, none⟩ = some (.int .i64 port) := HX1.cell 2
  have z2 : W0.cell? ⟨w.heap.size + 1, 2, none⟩ = some (.int .i64 port') := HX2.cell 2
  have y3 : W0.cell? ⟨w.heap.size, 3, none⟩ = some (.int .i64 cost) := HX1.cell 3
  have z3 : W0.cell? ⟨w.heap.size + 1, 3, none⟩ = some (.int .i64 cost') := HX2.cell 3
  have y4 : W0.cell? ⟨w.heap.size, 4, none⟩ = some (.int .i64 n) := HX1.cell 4
  have z4 : W0.cell? ⟨w.heap.size + 1, 4, none⟩ = some (.int .i64 n') := HX2.cell 4
  have y5 : W0.cell? ⟨w.heap.size, 5, none⟩ = some (.bool up) := HX1.cell 5
  have z5 : W0.cell? ⟨w.heap.size + 1, 5, none⟩ = some (.bool up') := HX2.cell 5
  have y6 : W0.cell? ⟨w.heap.size, 6, none⟩ = some (.int .u8 (by_.toNat : Int)) := HX1.cell 6
  have z6 : W0.cell? ⟨w.heap.size + 1, 6, none⟩ = some (.int .u8 (by_'.toNat : Int)) := HX2.cell 6
  have y7 : W0.cell? ⟨w.heap.size, 7, none⟩ = some (.bool unread) := HX1.cell 7
  have z7 : W0.cell? ⟨w.heap.size + 1, 7, none⟩ = some (.bool unread') := HX2.cell 7
  have y8 : W0.cell? ⟨w.heap.size, 8, none⟩ = some (.slice A bytes.length c) := HX1.cell 8
  have z8 : W0.cell? ⟨w.heap.size + 1, 8, none⟩ = some (.slice B bytes'.length c') := HX2.cell 8
  have HW0 := Lib.hid hW0
  clear hW0 HX1 HX2
  by_cases e0 : k = k'
  · subst e0
    by_cases e1 : node = node'
    · subst e1
      by_cases e2 : port = port'
      · subst e2
        by_cases e3 : cost = cost'
        · subst e3
          by_cases e4 : n = n'
          · subst e4
            by_cases e5 : up = up'
            · subst e5
              by_cases e6 : by_ = by_'
              · subst e6
                by_cases e7 : unread = unread'
                · subst e7
                  go_enter Tryz.func76, Tryz.ntmps76
                  go_upto_region 1 with fail
                  rw [HW0.out]
                  go_wp2_with fail
                  refine (HEQ.out W0 HB0.out).mono ?_
                  rintro e w' ⟨rfl, hb⟩
                  have HB1 := Lib.hid (HB0.out.trans (hb.mono HB0.out.size))
                  have HS : Hid (sameA ⟨k, node, port, cost, n, up, by_, unread, bytes⟩ ⟨k, node, port, cost, n, up, by_, unread, bytes'⟩ = decide (bytes = bytes')) := Lib.hid (by simp [sameA])
                  clear hb
                  go_wp2
                  go_ret
                  exact ⟨by rw [HS.out]; rfl, HB1.out⟩
                · have d : (unread == unread') = false := by simpa using e7
                  have HS : Hid (sameA ⟨k, node, port, cost, n, up, by_, unread, bytes⟩ ⟨k, node, port, cost, n, up, by_, unread', bytes'⟩ = false) := Lib.hid (by simp [sameA, e7])
                  clear e7
                  go_enter Tryz.func76, Tryz.ntmps76
                  go_upto_region 1 with fail
                  rw [HW0.out]
                  go_wp2
                  go_ret
                  exact ⟨by rw [HS.out]; rfl, HB0.out⟩
              · have d : ((by_.toNat : Int) == (by_'.toNat : Int)) = false := by
                  rw [beq_eq_false_iff_ne]
                  intro h
                  exact e6 (UInt8.toNat_inj.1 (by omega))
                have HS : Hid (sameA ⟨k, node, port, cost, n, up, by_, unread, bytes⟩ ⟨k, node, port, cost, n, up, by_', unread', bytes'⟩ = false) := Lib.hid (by simp [sameA, e6])
                clear e6
                go_enter Tryz.func76, Tryz.ntmps76
                go_upto_region 1 with fail
                rw [HW0.out]
                go_wp2
                go_ret
                exact ⟨by rw [HS.out]; rfl, HB0.out⟩
            · have d : (up == up') = false := by simpa using e5
              have HS : Hid (sameA ⟨k, node, port, cost, n, up, by_, unread, bytes⟩ ⟨k, node, port, cost, n, up', by_', unread', bytes'⟩ = false) := Lib.hid (by simp [sameA, e5])
              clear e5
              go_enter Tryz.func76, Tryz.ntmps76
              go_upto_region 1 with fail
              rw [HW0.out]
              go_wp2
              go_ret
              exact ⟨by rw [HS.out]; rfl, HB0.out⟩
          · have d : (n == n') = false := by simpa using e4
            have HS : Hid (sameA ⟨k, node, port, cost, n, up, by_, unread, bytes⟩ ⟨k, node, port, cost, n', up', by_', unread', bytes'⟩ = false) := Lib.hid (by simp [sameA, e4])
            clear e4
            go_enter Tryz.func76, Tryz.ntmps76
            go_upto_region 1 with fail
            rw [HW0.out]
            go_wp2
            go_ret
            exact ⟨by rw [HS.out]; rfl, HB0.out⟩
        · have d : (cost == cost') = false := by simpa using e3
          have HS : Hid (sameA ⟨k, node, port, cost, n, up, by_, unread, bytes⟩ ⟨k, node, port, cost', n', up', by_', unread', bytes'⟩ = false) := Lib.hid (by simp [sameA, e3])
          clear e3
          go_enter Tryz.func76, Tryz.ntmps76
          go_upto_region 1 with fail
          rw [HW0.out]
          go_wp2
          go_ret
          exact ⟨by rw [HS.out]; rfl, HB0.out⟩
      · have d : (port == port') = false := by simpa using e2
        have HS : Hid (sameA ⟨k, node, port, cost, n, up, by_, unread, bytes⟩ ⟨k, node, port', cost', n', up', by_', unread', bytes'⟩ = false) := Lib.hid (by simp [sameA, e2])
        clear e2
        go_enter Tryz.func76, Tryz.ntmps76
        go_upto_region 1 with fail
        rw [HW0.out]
        go_wp2
        go_ret
        exact ⟨by rw [HS.out]; rfl, HB0.out⟩
    · have d : (node == node') = false := by simpa using e1
      have HS : Hid (sameA ⟨k, node, port, cost, n, up, by_, unread, bytes⟩ ⟨k, node', port', cost', n', up', by_', unread', bytes'⟩ = false) := Lib.hid (by simp [sameA, e1])
      clear e1
      go_enter Tryz.func76, Tryz.ntmps76
      go_upto_region 1 with fail
      rw [HW0.out]
      go_wp2
      go_ret
      exact ⟨by rw [HS.out]; rfl, HB0.out⟩
  · have d : (k == k') = false := by simpa using e0
    have HS : Hid (sameA ⟨k, node, port, cost, n, up, by_, unread, bytes⟩ ⟨k', node', port', cost', n', up', by_', unread', bytes'⟩ = false) := Lib.hid (by simp [sameA, e0])
    clear e0
    go_enter Tryz.func76, Tryz.ntmps76
    go_upto_region 1 with fail
    rw [HW0.out]
    go_wp2
    go_ret
    exact ⟨by rw [HS.out]; rfl, HB0.out⟩
end Go.Proofs.YtfbangojgjcbcaaGreatDoor
namespace Go.Proofs.YtfbangojgjcbcaaGreatDoor
open Go.RowKit Pl
theorem same_bare {a : ActP} (hk : K9 a) : sameA a (bareA a) = bareOk a := by
  obtain ⟨k, node, port, cost, n, up, by_, unread, bytes⟩ := a
  rcases hk.cases with e | e | e | e | e | e | e | e | e <;> simp only at e <;> subst e <;> rw [Bool.eq_iff_iff] <;> simp [sameA, bareA, bareOk, partsA] <;> grind
set_option maxRecDepth 100000 in
set_option maxHeartbeats 4000000 in
theorem cmayAct_any (a : ActP) (bv : Value) (w : World) (h : Bs w bv a.bytes) (hl : a.bytes.length ≤ 1000000000) :
    Calls Tryz.prog 31 #[actV a bv] w fun e w' => e = .returned (.bool (mayA a)) ∧ Below w.heap.size w w' := by
  have HB := Lib.hid h
  have HBV := Lib.hid h
  obtain ⟨A, c, rfl, -⟩ := h
  obtain ⟨W0, hW0⟩ : ∃ W0, w.alloc (.cells #[.int .i64 a.kind, .int .i64 a.node, .int .i64 a.port, .int .i64 a.cost, .int .i64 a.n, .bool a.up, .int .u8 (a.by_.toNat : Int), .bool a.unread, .slice A a.bytes.length c] 51) = W0 := ⟨_, rfl⟩
  have HB0 : Hid (Below w.heap.size w W0) := Lib.hid (by rw [← hW0]; exact (Below.refl _ _).alloc (Nat.le_refl _) _)
  have HX : Whole W0 w.heap.size 51 #[.int .i64 a.kind, .int .i64 a.node, .int .i64 a.port, .int .i64 a.cost, .int .i64 a.n, .bool a.up, .int .u8 (a.by_.toNat : Int), .bool a.unread, .slice A a.bytes.length c] := by rw [← hW0]; exact Whole.new w _ _
  have hlt1 := HX.lt
  have y0 : W0.cell? ⟨w.heap.size, 0, none⟩ = some (.int .i64 a.kind) := HX.cell 0
  have y1 : W0.cell? ⟨w.heap.size, 1, none⟩ = some (.int .i64 a.node) := HX.cell 1
  have y2 : W0.cell? ⟨w.heap.size, 2, none⟩ = some (.int .i64 a.port) := HX.cell 2
  have y3 : W0.cell? ⟨w.heap.size, 3, none⟩ = some (.int .i64 a.cost) := HX.cell 3
  have y4 : W0.cell? ⟨w.heap.size, 4, none⟩ = some (.int .i64 a.n) := HX.cell 4
  have y5 : W0.cell? ⟨w.heap.size, 5, none⟩ = some (.bool a.up) := HX.cell 5
  have y6 : W0.cell? ⟨w.heap.size, 6, none⟩ = some (.int .u8 (a.by_.toNat : Int)) := HX.cell 6
  have y7 : W0.cell? ⟨w.heap.size, 7, none⟩ = some (.bool a.unread) := HX.cell 7
  have y8 : W0.cell? ⟨w.heap.size, 8, none⟩ = some (.slice A a.bytes.length c) := HX.cell 8
  have HW0 := Lib.hid hW0
  clear hW0 HX
  by_cases h1 : 1 ≤ a.kind
  · have q1 : decide (1 ≤ a.kind) = true := decide_eq_true h1
    by_cases h9 : a.kind ≤ 9
    · have q9 : decide (a.kind ≤ 9) = true := decide_eq_true h9
      have HK : Hid (K9 a) := Lib.hid ⟨h1, h9⟩
      have HBA : Hid (∀ y : Ext W0, Calls Tryz.prog 77 #[.agg #[.int .i64 a.kind, .int .i64 a.node, .int .i64 a.port, .int .i64 a.cost, .int .i64 a.n, .bool a.up, .int .u8 (a.by_.toNat : Int), .bool a.unread, .slice A a.bytes.length c]] y.w fun e w' => e = .returned (actV (bareA a) (bareV a (.slice A a.bytes.length c))) ∧ Below y.w.heap.size y.w w') :=
        Lib.hid (fun y => bare_any a _ y.w HK.out ((HBV.out.below HB0.out).below y.below))
      have HSA : Hid (∀ y : Ext W0, Calls Tryz.prog 76 #[.agg #[.int .i64 a.kind, .int .i64 a.node, .int .i64 a.port, .int .i64 a.cost, .int .i64 a.n, .bool a.up, .int .u8 (a.by_.toNat : Int), .bool a.unread, .slice A a.bytes.length c], actV (bareA a) (bareV a (.slice A a.bytes.length c))] y.w fun e w' => e = .returned (.bool (bareOk a)) ∧ Below y.w.heap.size y.w w') :=
        Lib.hid (fun y => by
          have hb := (HBV.out.below HB0.out).below y.below
          have := csameAct_any a (bareA a) _ _ y.w hb (hb.bare HK.out) hl
          rw [same_bare HK.out] at this
          exact this)
      have HM : Hid (mayA a = (bareOk a && decide (a.bytes.length ≤ 2048))) := Lib.hid (by unfold mayA; rw [q1, q9]; rfl)
      cases hb : bareOk a with
      | false =>
        rw [hb] at HSA HM
        clear h1 h9 hb
        go_enter Tryz.func31, Tryz.ntmps31
        go_upto_region 1 with fail
        rw [HW0.out]
        refine wp_region_ext (by kernel_rfl) (by kernel_rfl) ?_
        repeat (go_big_quiet_step (first
          | (go_at_call 77; exact Ext.call (HBA.out _))
          | (go_at_call 76; exact Ext.call (HSA.out _))))
        refine wpQuiet_nil ?_
        rintro _ ⟨y, rfl⟩
        go_wp2
        go_ret
        exact ⟨by rw [HM.out]; rfl, HB0.out.trans (y.below.mono HB0.out.size)⟩
      | true =>
        rw [hb] at HSA HM
        clear h1 h9 hb
        go_enter Tryz.func31, Tryz.ntmps31
        go_upto_region 1 with fail
        rw [HW0.out]
        refine wp_region_ext (by kernel_rfl) (by kernel_rfl) ?_
        repeat (go_big_quiet_step (first
          | (go_at_call 77; exact Ext.call (HBA.out _))
          | (go_at_call 76; exact Ext.call (HSA.out _))))
        refine wpQuiet_nil ?_
        rintro _ ⟨y, rfl⟩
        go_wp2
        go_ret
        refine ⟨?_, HB0.out.trans (y.below.mono HB0.out.size)⟩
        rw [HM.out]
        have hd : decide ((a.bytes.length : Int) ≤ 2048) = decide (a.bytes.length ≤ 2048) := decide_eq_decide.2 (by omega)
        show Ending.returned (.bool (decide ((a.bytes.length : Int) ≤ 2048))) = _
        rw [hd]
        rfl
    · have q9 : decide (a.kind ≤ 9) = false := decide_eq_false h9
      have HM : Hid (mayA a = false) := Lib.hid (by unfold mayA; rw [q9]; simp)
      clear h9
      go_enter Tryz.func31, Tryz.ntmps31
      go_upto_region 1 with fail
      rw [HW0.out]
      refine wp_region_ext (by kernel_rfl) (by kernel_rfl) ?_
      repeat (go_big_quiet_step (fail))
      refine wpQuiet_nil ?_
      rintro _ ⟨y, rfl⟩
      go_wp2
      go_ret
      exact ⟨by rw [HM.out]; rfl, HB0.out.trans (y.below.mono HB0.out.size)⟩
  · have q1 : decide (1 ≤ a.kind) = false := decide_eq_false h1
    have HM : Hid (mayA a = false) := Lib.hid (by unfold mayA; rw [q1]; simp)
    clear h1
    go_enter Tryz.func31, Tryz.ntmps31
    go_upto_region 1 with fail
    rw [HW0.out]
    refine wp_region_ext (by kernel_rfl) (by kernel_rfl) ?_
    repeat (go_big_quiet_step (fail))
    refine wpQuiet_nil ?_
    rintro _ ⟨y, rfl⟩
    go_wp2
    go_ret
    exact ⟨by rw [HM.out]; rfl, HB0.out.trans (y.below.mono HB0.out.size)⟩
end Go.Proofs.YtfbangojgjcbcaaGreatDoor
namespace Go.Proofs.YtfbangojgjcbcaaGreatDoor
open Go.RowKit Pl
theorem bl_info : (Tryz.prog.info? 111).map (·.size) = some 2 := by kernel_rfl
theorem bl_lies : liesAt Tryz.prog Tryz.prog.depth 111 (2 / Tryz.prog.cellsOf 111) 0 111 1 = true := by kernel_rfl
set_option maxHeartbeats 1000000 in
set_option maxRecDepth 100000 in
theorem copyCheck_used (b : Nat) (w : World) (h0 : w.cell? ⟨b, 0, none⟩ = some (.pointer (some ⟨b, 0, none⟩))) :
    Calls Tryz.prog 127 #[.pointer (some ⟨b, 0, none⟩)] w fun e w' => e = .returned (.tuple #[]) ∧ w = w' := by
  obtain ⟨j, hj, _⟩ := Option.map_eq_some_iff.1 bl_info
  have hne := Lib.run_neq_ptr_same (P := Tryz.prog) w ⟨b, 0, none⟩ Tryz.underlying109 hj
  go_enter Tryz.func127, Tryz.ntmps127
  go_wp2
  go_end0
  exact ⟨rfl, rfl⟩
set_option maxHeartbeats 1000000 in
set_option maxRecDepth 100000 in
theorem copyCheck_fresh (b : Nat) (w : World) (h0 : w.cell? ⟨b, 0, none⟩ = some (.pointer none)) (hsh : w.shape? b = some (111, 2)) (hfz : w.frozen? ⟨b, 0, none⟩ = false) :
    Calls Tryz.prog 127 #[.pointer (some ⟨b, 0, none⟩)] w fun e w' => e = .returned (.tuple #[]) ∧ w.setCell ⟨b, 0, none⟩ (.pointer (some ⟨b, 0, none⟩)) = w' := by
  obtain ⟨j, hj, hjs⟩ := Option.map_eq_some_iff.1 bl_info
  have hto := Lib.run_to_unsafe (P := Tryz.prog) w ⟨b, 0, none⟩ Tryz.underlying109 Tryz.underlying209 hj (by rw [hjs]; decide) hsh (Nat.zero_lt_succ 1)
  have hfrom := Lib.run_from_unsafe (P := Tryz.prog) w ⟨b, 0, none⟩ Tryz.underlying209 Tryz.underlying109 hj hsh bl_lies
  go_enter Tryz.func127, Tryz.ntmps127
  go_wp2
  rw [run_callFunc_extern Tryz.func161 (by kernel_rfl) (by kernel_rfl) (by kernel_rfl) (e := Extern.AbiNoEscape.same) (by kernel_rfl)]
  rw [Lib.run_noEscape]
  simp only [Result.andThen]
  rw [Oper.upon_value]
  go_wp2
  go_end0
  exact ⟨rfl, rfl⟩
theorem copyCheck_any (B b : Nat) (bs : List Value) (w : World) (h : Lib.IsBuilder 111 5 B b bs w) :
    Calls Tryz.prog 127 #[.pointer (some ⟨b, 0, none⟩)] w fun e w' => e = .returned (.tuple #[]) ∧ (Lib.BuilderAt 111 5 B b (.pointer (some ⟨b, 0, none⟩)) bs w' ∧ Below B w w') := by
  rcases h with h | h
  · refine (copyCheck_fresh b w h.cell0 h.shape h.frozen0).mono ?_
    rintro e w' ⟨rfl, rfl⟩
    exact ⟨rfl, h.used _, (Below.refl B w).setCell (p := ⟨b, 0, none⟩) h.1 _⟩
  · refine (copyCheck_used b w h.cell0).mono ?_
    rintro e w' ⟨rfl, rfl⟩
    exact ⟨rfl, h, Below.refl B _⟩
set_option maxHeartbeats 2000000 in
set_option maxRecDepth 100000 in
theorem writeByte_any (B b : Nat) (l : List UInt8) (c : UInt8) (w : World) (h : Lib.IsBuilder 111 5 B b (cellsB l) w) (hlen : l.length ≤ 100000000) (hBw : B ≤ w.heap.size) :
    Calls Tryz.prog 195 #[.pointer (some ⟨b, 0, none⟩), .int .u8 (c.toNat : Int)] w fun e w' => e = .returned .nilIface ∧ (Lib.IsBuilder 111 5 B b (cellsB (l ++ [c])) w' ∧ Below B w w') := by
  have HC := Lib.hid (copyCheck_any B b (cellsB l) w h)
  go_enter Tryz.func195, Tryz.ntmps195
  go_wp2_with (go_at_call 127; refine HC.out.mono ?_)
  rintro e w1 ⟨rfl, h1, hb1⟩
  obtain ⟨hB, v, hbk, hown, hne⟩ := h1
  have c0 : w1.cell? ⟨b, 0, none⟩ = some (.pointer (some ⟨b, 0, none⟩)) := by rw [Lib.cell_of_heap hbk]; rfl
  have c1 : w1.cell? ⟨b, 1, none⟩ = some v := by rw [Lib.cell_of_heap hbk]; rfl
  have hBs : B ≤ w1.heap.size := by have := hb1.size; omega
  rw [cellsB_length] at hown
  have HO := Lib.hid hown
  have HK := Lib.hid hbk
  clear hbk
  go_wp2_with (at_builtin; refine wpList_push rfl _ _ 37 rfl B 5 info_u8 rfl (by decide) Tryz.underlying37 _ _ _ rfl hown rfl rfl (by omega) hBs ?_)
  intro v' w2 hown' hg
  have hlt : b < w1.heap.size := block_lt_of_cell c0
  have hb2 : w2.heap[b]? = some (.cells #[.pointer (some ⟨b, 0, none⟩), v] 111 (0, 0)) := by
    rw [hg.block b hlt (fun e => hne e.symm)]; exact HK.out
  have d0 : w2.cell? ⟨b, 0, none⟩ = some (.pointer (some ⟨b, 0, none⟩)) := by rw [Lib.cell_of_heap hb2]; rfl
  have d1 : w2.cell? ⟨b, 1, none⟩ = some v := by rw [Lib.cell_of_heap hb2]; rfl
  have f1 : w2.frozen? ⟨b, 1, none⟩ = false := Lib.frozen_of_heap hb2 1
  obtain ⟨g, cap, hv, _, _⟩ := hown'.form (by omega)
  subst hv
  have HO' := Lib.hid hown'
  have HG := Lib.hid hg
  have HB2 := Lib.hid hb2
  clear hown hown' hg hb2 c0 c1
  go_wp2
  go_ret
  refine ⟨rfl, .inr ?_, ?_⟩
  · exact Lib.BuilderAt.put (T := 111) (e := 5) hB HB2.out (bs' := cellsB (l ++ [c])) (by rw [cellsB_append]; simpa [cellsB] using HO'.out) (by decide)
  · exact (hb1.grown HG.out hBs (fun k hk => (HO.out.lt k hk).1)).setCell (p := ⟨b, 1, none⟩) hB _
end Go.Proofs.YtfbangojgjcbcaaGreatDoor
namespace Go.Proofs.YtfbangojgjcbcaaGreatDoor
open Go.RowKit Pl
/-- The pointer p reads as the tree t in world w. -/
def Tr (w : World) : Option Addr → Tree → Prop
  | p, .nil => p = none
  | p, .node b k has l r => p = some ⟨b, 0, none⟩ ∧ b < w.heap.size ∧ ∃ (a : Nat) (v : Bool) (p0 p1 : Option Addr), a < 4294967296 ∧ mayP a k.length = true ∧ bitsP a k.length = k ∧
      w.cell? ⟨b, 0, none⟩ = some (.int .u32 (a : Int)) ∧ w.cell? ⟨b, 1, none⟩ = some (.int .i64 (k.length : Int)) ∧ w.cell? ⟨b, 2, none⟩ = some (.bool v) ∧ w.cell? ⟨b, 3, none⟩ = some (.bool has) ∧
      w.cell? ⟨b, 4, none⟩ = some (.pointer p0) ∧ w.cell? ⟨b, 5, none⟩ = some (.pointer p1) ∧ (∀ i, w.frozen? ⟨b, i, none⟩ = false) ∧ Tr w p0 l ∧ Tr w p1 r
theorem Tr.keep {w w' : World} (hs : w.heap.size ≤ w'.heap.size) : ∀ {t : Tree} {p : Option Addr}, Tr w p t → (∀ x : Addr, x.block ∈ t.blocks → w'.cell? x = w.cell? x ∧ w'.frozen? x = w.frozen? x) → Tr w' p t
  | .nil, _, h, _ => h
  | .node b k has l r, p, h, hk => by
    obtain ⟨rfl, hb, a, v, p0, p1, ha, hm, hbits, c0, c1, c2, c3, c4, c5, hf, hl, hr⟩ := h
    have hb' : ∀ i, w'.cell? ⟨b, i, none⟩ = w.cell? ⟨b, i, none⟩ ∧ w'.frozen? ⟨b, i, none⟩ = w.frozen? ⟨b, i, none⟩ := fun i => hk _ (by simp [Tree.blocks])
    exact ⟨rfl, by omega, a, v, p0, p1, ha, hm, hbits, (hb' 0).1.trans c0, (hb' 1).1.trans c1, (hb' 2).1.trans c2, (hb' 3).1.trans c3, (hb' 4).1.trans c4, (hb' 5).1.trans c5, fun i => (hb' i).2.trans (hf i),
      Tr.keep hs hl fun x hx => hk x (by simp [Tree.blocks, hx]), Tr.keep hs hr fun x hx => hk x (by simp [Tree.blocks, hx])⟩
theorem Tr.lt {w : World} : ∀ {t : Tree} {p : Option Addr}, Tr w p t → ∀ b ∈ t.blocks, b < w.heap.size
  | .nil, _, _, b, hb => by simp [Tree.blocks] at hb
  | .node b k has l r, p, h, x, hx => by
    obtain ⟨rfl, hb, a, v, p0, p1, ha, hm, hbits, c0, c1, c2, c3, c4, c5, hf, hl, hr⟩ := h
    simp only [Tree.blocks, List.mem_cons, List.mem_append] at hx
    rcases hx with rfl | hx | hx
    · exact hb
    · exact Tr.lt hl x hx
    · exact Tr.lt hr x hx
theorem Tr.below {w w' : World} {t : Tree} {p : Option Addr} (h : Tr w p t) (hb : Below w.heap.size w w') : Tr w' p t :=
  h.keep hb.size fun _ hx => ⟨hb.cell (h.lt _ hx), hb.frozen (h.lt _ hx)⟩
/-- The place A, on the way down to a prefix from A0: what lies there is s; what is put in there is put into the whole. -/
structure Hole (w : World) (A0 A : Addr) (t s : Tree) (p : List Bool) : Prop where
  find : s.find p = t.find p
  inv : s.Inv
  sub : ∀ b ∈ s.blocks, b ∈ t.blocks
  nodup : s.blocks.Nodup
  out : A.block ∉ s.blocks
  here : A = A0 ∨ A.block ∈ t.blocks
  put : ∀ (b1 b2 : Nat) (w' : World) (ptr' : Option Addr), w.heap.size ≤ w'.heap.size → w'.cell? A = some (.pointer ptr') → Tr w' ptr' (s.ins b1 b2 p) →
    (∀ x : Addr, x ≠ A → x.block ∉ s.blocks → (x.block ∈ t.blocks ∨ x = A0) → w'.cell? x = w.cell? x) → (∀ x : Addr, x.block ∈ t.blocks → w'.frozen? x = w.frozen? x) → ∃ root, w'.cell? A0 = some (.pointer root) ∧ Tr w' root (t.ins b1 b2 p)
theorem Hole.start {w : World} {A0 : Addr} {t : Tree} {p : List Bool} (hi : t.Inv) (hn : t.blocks.Nodup) (ho : A0.block ∉ t.blocks) : Hole w A0 A0 t t p :=
  ⟨rfl, hi, fun _ h => h, hn, ho, .inl rfl, fun _ _ _ ptr' _ h1 h2 _ _ => ⟨ptr', h1, h2⟩⟩
def Tree.kid (c : Bool) (l r : Tree) : Tree := if c = true then r else l
theorem Hole.step {w : World} {A0 A : Addr} {t : Tree} {p : List Bool} {b : Nat} {k : List Bool} {has : Bool} {l r : Tree} {q : Option Addr} {c : Bool} (h : Hole w A0 A t (.node b k has l r) p) (hA : w.cell? A = some (.pointer q)) (hT : Tr w q (.node b k has l r))
    (hne : ¬ k = p) (hkp : k <+: p) (hc : p[k.length]? = some c) : Hole w A0 ⟨b, 4 + (if c = true then 1 else 0), none⟩ t (Tree.kid c l r) p := by
  obtain ⟨hfind, ⟨hk, i1, i2, i3, i4⟩, hsub, hnd, hout, hhere, hput⟩ := h
  obtain ⟨rfl, hb, a, v, p0, p1, ha, hm, hbits, c0, c1, c2, c3, c4, c5, hf, hl, hr⟩ := hT
  simp only [Tree.blocks, List.nodup_cons, List.nodup_append, List.mem_append, not_or] at hnd
  obtain ⟨⟨nb1, nb2⟩, nl, nr, ndis⟩ := hnd
  have hbt : b ∈ t.blocks := hsub b (by simp [Tree.blocks])
  have hAb : ¬ A.block = b := fun e => hout (by simp [Tree.blocks, e])
  cases c with
  | true =>
    simp only [Tree.kid, if_true]
    refine ⟨?_, i4, fun x hx => hsub x (by simp [Tree.blocks, hx]), nr, nb2, .inr hbt, ?_⟩
    · rw [← hfind]
      conv => rhs; unfold Tree.find
      rw [if_neg hne, if_pos hkp, if_pos hc]
    · intro b1 b2 w' ptr' hs hA' hT' hx hfz
      have hAx : w'.cell? A = some (.pointer (some ⟨b, 0, none⟩)) := by
        rw [← hA]
        exact hx A (fun e => hAb (by rw [e])) (fun e => hout (by simp [Tree.blocks, e])) (by rcases hhere with h | h; exact .inr h; exact .inl h)
      have hbx : ∀ i, ¬ i = 5 → w'.cell? ⟨b, i, none⟩ = w.cell? ⟨b, i, none⟩ := fun i hi => hx _ (fun e => hi (by injection e)) nb2 (.inl hbt)
      refine hput b1 b2 w' _ hs hAx ?_ (fun x _ h2 h3 => hx x (fun e => h2 (by rw [e]; simp [Tree.blocks])) (fun e => h2 (by simp [Tree.blocks, e])) h3) hfz
      have e : (Tree.node b k has l r).ins b1 b2 p = .node b k has l (r.ins b1 b2 p) := by
        conv => lhs; unfold Tree.ins
        rw [if_neg hne, if_pos hkp, if_pos hc]
      rw [e]
      refine ⟨rfl, by omega, a, v, p0, ptr', ha, hm, hbits, (hbx 0 (by decide)).trans c0, (hbx 1 (by decide)).trans c1, (hbx 2 (by decide)).trans c2, (hbx 3 (by decide)).trans c3, (hbx 4 (by decide)).trans c4, hA', fun i => (hfz _ hbt).trans (hf i), ?_, hT'⟩
      exact hl.keep hs fun x hxl => ⟨hx x (fun e => nb1 (by rw [e] at hxl; exact hxl)) (fun e => ndis _ hxl _ e rfl) (.inl (hsub _ (by simp [Tree.blocks, hxl]))), hfz x (hsub _ (by simp [Tree.blocks, hxl]))⟩
  | false =>
    simp only [Tree.kid, Bool.false_eq_true, if_false]
    have hct : ¬ p[k.length]? = some true := by rw [hc]; decide
    refine ⟨?_, i3, fun x hx => hsub x (by simp [Tree.blocks, hx]), nl, nb1, .inr hbt, ?_⟩
    · rw [← hfind]
      conv => rhs; unfold Tree.find
      rw [if_neg hne, if_pos hkp, if_neg hct]
    · intro b1 b2 w' ptr' hs hA' hT' hx hfz
      have hAx : w'.cell? A = some (.pointer (some ⟨b, 0, none⟩)) := by
        rw [← hA]
        exact hx A (fun e => hAb (by rw [e])) (fun e => hout (by simp [Tree.blocks, e])) (by rcases hhere with h | h; exact .inr h; exact .inl h)
      have hbx : ∀ i, ¬ i = 4 → w'.cell? ⟨b, i, none⟩ = w.cell? ⟨b, i, none⟩ := fun i hi => hx _ (fun e => hi (by injection e)) nb1 (.inl hbt)
      refine hput b1 b2 w' _ hs hAx ?_ (fun x _ h2 h3 => hx x (fun e => h2 (by rw [e]; simp [Tree.blocks])) (fun e => h2 (by simp [Tree.blocks, e])) h3) hfz
      have e : (Tree.node b k has l r).ins b1 b2 p = .node b k has (l.ins b1 b2 p) r := by
        conv => lhs; unfold Tree.ins
        rw [if_neg hne, if_pos hkp, if_neg hct]
      rw [e]
      refine ⟨rfl, by omega, a, v, ptr', p1, ha, hm, hbits, (hbx 0 (by decide)).trans c0, (hbx 1 (by decide)).trans c1, (hbx 2 (by decide)).trans c2, (hbx 3 (by decide)).trans c3, hA', (hbx 5 (by decide)).trans c5, fun i => (hfz _ hbt).trans (hf i), hT', ?_⟩
      exact hr.keep hs fun x hxl => ⟨hx x (fun e => nb2 (by rw [e] at hxl; exact hxl)) (fun e => ndis _ e _ hxl rfl) (.inl (hsub _ (by simp [Tree.blocks, hxl]))), hfz x (hsub _ (by simp [Tree.blocks, hxl]))⟩
end Go.Proofs.YtfbangojgjcbcaaGreatDoor
namespace Go.Proofs.YtfbangojgjcbcaaGreatDoor
open Go.RowKit Pl
/-! ### common -/
theorem bel_setge {w W : World} (h : Below w.heap.size w W) {b : Nat} (hb : w.heap.size ≤ b) (i : Nat) (u : Value) : Below w.heap.size w (W.setCell ⟨b, i, none⟩ u) := h.setCell hb u
end Go.Proofs.YtfbangojgjcbcaaGreatDoor
namespace Go.Proofs.YtfbangojgjcbcaaGreatDoor
open Go.RowKit Pl
def Tree.size : Tree → Nat
  | .nil => 0
  | .node _ _ _ l r => 1 + Tree.size l + Tree.size r
def Stop (p : List Bool) : Tree → Prop
  | .nil => True
  | .node _ k _ _ _ => k = p ∨ ¬ k <+: p
end Go.Proofs.YtfbangojgjcbcaaGreatDoor
namespace Go.Proofs.YtfbangojgjcbcaaGreatDoor
open Go.RowKit Pl
/-- The trie at block T holds the tree t; all of it lies at base or behind. -/
structure TrieAt (w : World) (base T : Nat) (t : Tree) : Prop where
  lt : T < w.heap.size
  ge : base ≤ T
  root : ∃ q, w.cell? ⟨T, 0, none⟩ = some (.pointer q) ∧ Tr w q t
  limit : w.cell? ⟨T, 1, none⟩ = some (.int .i64 8)
  n : w.cell? ⟨T, 2, none⟩ = some (.int .i64 (t.keys.length : Int))
  is : w.cell? ⟨T, 3, none⟩ = some (.bool true)
  free : ∀ i, w.frozen? ⟨T, i, none⟩ = false
  inv : t.Inv
  nodup : t.blocks.Nodup
  out : T ∉ t.blocks
  blocks : ∀ b ∈ t.blocks, base ≤ b
theorem TrieAt.below {w w' : World} {base T : Nat} {t : Tree} (h : TrieAt w base T t) (hb : Below w.heap.size w w') : TrieAt w' base T t := by
  obtain ⟨h1, h2, ⟨q, h3, h4⟩, h5, h6, h7, h8, h9, h10, h11, h12⟩ := h
  exact ⟨Nat.lt_of_lt_of_le h1 hb.size, h2, ⟨q, (hb.cell (show T < _ from h1)).trans h3, h4.below hb⟩, (hb.cell (show T < _ from h1)).trans h5, (hb.cell (show T < _ from h1)).trans h6, (hb.cell (show T < _ from h1)).trans h7, fun i => (hb.frozen (show T < _ from h1)).trans (h8 i), h9, h10, h11, h12⟩
theorem TrieAt.blt {w : World} {base T : Nat} {t : Tree} (h : TrieAt w base T t) : ∀ b ∈ t.blocks, b < w.heap.size := by
  obtain ⟨q, _, h4⟩ := h.root
  exact h4.lt
theorem sc_other {X : World} {a b : Addr} {v : Value} (h : a ≠ b) : (X.setCell a v).cell? b = X.cell? b := by apply World.cell?_setCell_other; exact h
theorem sc_frozen {X : World} {a b : Addr} {v : Value} : (X.setCell a v).frozen? b = X.frozen? b := by simp
/-- All that is not the trie's lies as it lay. -/
def Kept (w w' : World) (T : Nat) (t : Tree) : Prop := ∀ x : Addr, x.block < w.heap.size → x.block ≠ T → x.block ∉ t.blocks → w'.cell? x = w.cell? x ∧ w'.frozen? x = w.frozen? x
theorem Hole.later {W W2 : World} {A0 A : Addr} {t s : Tree} {p : List Bool} (h : Hole W A0 A t s p) (hb : Below W.heap.size W W2) (hlt : ∀ b ∈ t.blocks, b < W.heap.size) (h0 : A0.block < W.heap.size) : Hole W2 A0 A t s p := by
  obtain ⟨h1, h2, h3, h4, h5, h6, h7⟩ := h
  refine ⟨h1, h2, h3, h4, h5, h6, fun b1 b2 w' ptr' hs hA hT hx hf => h7 b1 b2 w' ptr' (Nat.le_trans hb.size hs) hA hT (fun x n1 n2 n3 => ?_) (fun x hx => (hf x hx).trans (hb.frozen (hlt _ hx)))⟩
  refine (hx x n1 n2 n3).trans (hb.cell ?_)
  rcases n3 with n3 | rfl
  · exact hlt _ n3
  · exact h0
end Go.Proofs.YtfbangojgjcbcaaGreatDoor
namespace Go.Proofs.YtfbangojgjcbcaaGreatDoor
open Go.RowKit Pl
theorem Tr.free {w : World} : ∀ {t : Tree} {p : Option Addr}, Tr w p t → ∀ b ∈ t.blocks, ∀ i, w.frozen? ⟨b, i, none⟩ = false
  | .nil, _, _, b, hb => by simp [Tree.blocks] at hb
  | .node b k has l r, p, h, x, hx => by
    obtain ⟨rfl, hb, a, v, p0, p1, ha, hm, hbits, c0, c1, c2, c3, c4, c5, hf, hl, hr⟩ := h
    simp only [Tree.blocks, List.mem_cons, List.mem_append] at hx
    rcases hx with rfl | hx | hx
    · exact hf
    · exact Tr.free hl x hx
    · exact Tr.free hr x hx
theorem TrieAt.grow {W w' : World} {base T : Nat} {t s : Tree} {A : Addr} {p : List Bool} (h : TrieAt W base T t) (hH : Hole W ⟨T, 0, none⟩ A t s p) (b1 b2 : Nat) (ptr' : Option Addr)
    (hs : W.heap.size ≤ w'.heap.size) (hA : w'.cell? A = some (.pointer ptr')) (hT : Tr w' ptr' (s.ins b1 b2 p))
    (hx : ∀ x : Addr, x ≠ A → x.block ∉ s.blocks → (x.block ∈ t.blocks ∨ x = ⟨T, 0, none⟩) → w'.cell? x = W.cell? x) (hfz : ∀ x : Addr, x.block ∈ t.blocks → w'.frozen? x = W.frozen? x)
    (h1 : w'.cell? ⟨T, 1, none⟩ = some (.int .i64 8)) (h2 : w'.cell? ⟨T, 2, none⟩ = some (.int .i64 ((t.ins b1 b2 p).keys.length : Int))) (h3 : w'.cell? ⟨T, 3, none⟩ = some (.bool true)) (hfT : ∀ i, w'.frozen? ⟨T, i, none⟩ = false)
    (hp : p.length ≤ 32) (hb1 : W.heap.size ≤ b1) (hb2 : W.heap.size ≤ b2) (h12 : b1 ≠ b2) (hbase : base ≤ W.heap.size) : TrieAt w' base T (t.ins b1 b2 p) := by
  obtain ⟨root, hr, htr⟩ := hH.put b1 b2 w' ptr' hs hA hT hx hfz
  have hlt := h.lt
  have hbl := h.blt
  refine ⟨by omega, h.ge, ⟨root, hr, htr⟩, h1, h2, h3, hfT, Tree.ins_inv hp h.inv, Tree.ins_nodup h12 h.nodup (fun e => ?_) (fun e => ?_), fun e => ?_, fun b hb => ?_⟩
  · have := hbl _ e; omega
  · have := hbl _ e; omega
  · rcases Tree.ins_blocks e with e | e | e
    · omega
    · omega
    · exact h.out e
  · rcases Tree.ins_blocks hb with e | e | e
    · omega
    · omega
    · exact h.blocks b e
/-- What came about since W: the trie's number, the cell A, the blocks L, and new ones. -/
structure Put (W X : World) (T : Nat) (A : Addr) (L : List Nat) (k : Int) : Prop where
  size : W.heap.size ≤ X.heap.size
  cell : ∀ x : Addr, x.block < W.heap.size → x.block ∉ L → x ≠ ⟨T, 2, none⟩ → x ≠ A → X.cell? x = W.cell? x
  frozen : ∀ x : Addr, x.block < W.heap.size → X.frozen? x = W.frozen? x
  n : X.cell? ⟨T, 2, none⟩ = some (.int .i64 k)
  here : (X.cell? A).isSome = true
  tlt : T < W.heap.size
  alt : A.block < W.heap.size
theorem size_setCell (X : World) (a : Addr) (v : Value) : (X.setCell a v).heap.size = X.heap.size := by simp [World.setCell]
theorem sc_some {X : World} {a b : Addr} {v : Value} (h : (X.cell? b).isSome = true) : ((X.setCell a v).cell? b).isSome = true := by
  by_cases e : a = b
  · subst e; rw [World.cell?_setCell_same' _ _ _ h]; rfl
  · rw [sc_other e]; exact h
theorem Put.start {W : World} {T : Nat} {A : Addr} {L : List Nat} {k : Int} {v u : Value} (i : Nat) (h : W.cell? ⟨T, 2, none⟩ = some v) (hA : W.cell? A = some u) (hT : T < W.heap.size) (hAl : A.block < W.heap.size) : Put W ((W.drewN i).setCell ⟨T, 2, none⟩ (.int .i64 k)) T A L k :=
  ⟨by rw [size_setCell]; exact Nat.le_refl _, fun x _ _ h2 _ => (sc_other (Ne.symm h2)).trans rfl, fun x _ => sc_frozen, World.cell?_setCell_same' _ _ _ (by show ((W.drewN i).cell? _).isSome = true; rw [World.cell?_drewN, h]; rfl), sc_some (by rw [World.cell?_drewN, hA]; rfl), hT, hAl⟩
section
variable {W X : World} {T : Nat} {A : Addr} {L : List Nat} {k : Int}
theorem Put.drewN (h : Put W X T A L k) (j : Nat) : Put W (X.drewN j) T A L k := ⟨h.size, h.cell, h.frozen, h.n, h.here, h.tlt, h.alt⟩
theorem Put.drew (h : Put W X T A L k) : Put W X.drew T A L k := ⟨h.size, h.cell, h.frozen, h.n, h.here, h.tlt, h.alt⟩
theorem Put.below (h : Put W X T A L k) {Z : World} (hb : Below X.heap.size X Z) : Put W Z T A L k :=
  ⟨Nat.le_trans h.size hb.size, fun x h1 h2 h3 h4 => (hb.cell (Nat.lt_of_lt_of_le h1 h.size)).trans (h.cell x h1 h2 h3 h4), fun x h1 => (hb.frozen (Nat.lt_of_lt_of_le h1 h.size)).trans (h.frozen x h1), (hb.cell (Nat.lt_of_lt_of_le (show T < _ from h.tlt) h.size)).trans h.n,
    by rw [hb.cell (Nat.lt_of_lt_of_le h.alt h.size)]; exact h.here, h.tlt, h.alt⟩
theorem Put.alloc (h : Put W X T A L k) (o : Obj) : Put W (X.alloc o) T A L k := h.below ((Below.refl _ _).alloc (Nat.le_refl _) o)
theorem Put.setA (h : Put W X T A L k) (hA : A ≠ ⟨T, 2, none⟩) (v : Value) : Put W (X.setCell A v) T A L k :=
  ⟨by rw [size_setCell]; exact h.size, fun x h1 h2 h3 h4 => (sc_other (Ne.symm h4)).trans (h.cell x h1 h2 h3 h4), fun x h1 => sc_frozen.trans (h.frozen x h1), (sc_other hA).trans h.n, sc_some h.here, h.tlt, h.alt⟩
end
theorem TrieAt.put {w W X : World} (hbw : Below w.heap.size w W) {base T : Nat} {t s : Tree} {A : Addr} {p : List Bool} {L : List Nat} {K : Int} (h : TrieAt W base T t) (hH : Hole W ⟨T, 0, none⟩ A t s p) (P : Put W X T A L K) (hL : ∀ b ∈ L, b ∈ s.blocks)
    {b1 b2 : Nat} {ptr' : Option Addr} (hA : X.cell? A = some (.pointer ptr')) (hT : Tr X ptr' (s.ins b1 b2 p)) (hK : K = ((t.ins b1 b2 p).keys.length : Int))
    (hp : p.length ≤ 32) (hb1 : W.heap.size ≤ b1) (hb2 : W.heap.size ≤ b2) (h12 : b1 ≠ b2) (hbase : base ≤ W.heap.size) : TrieAt X base T (t.ins b1 b2 p) ∧ Kept w X T t := by
  have hTl : T ∉ L := fun e => h.out (hH.sub _ (hL _ e))
  have hT0 : ∀ i, i ≠ 0 → (⟨T, i, none⟩ : Addr) ≠ A := fun i hi e => by
    rcases hH.here with e' | e'
    · rw [e'] at e; injection e with _ e2; exact hi e2
    · exact h.out (by rw [← e] at e'; exact e')
  have hkept : Kept w X T t := fun x h1 h2 h3 => by
    have hx : x.block < W.heap.size := Nat.lt_of_lt_of_le h1 hbw.size
    refine ⟨(P.cell x hx (fun e => h3 (hH.sub _ (hL _ e))) (fun e => h2 (by rw [e])) (fun e => ?_)).trans (hbw.cell h1), (P.frozen x hx).trans (hbw.frozen h1)⟩
    rcases hH.here with e' | e'
    · exact h2 (by rw [e, e'])
    · exact h3 (by rw [e]; exact e')
  refine ⟨?_, hkept⟩
  refine h.grow hH b1 b2 ptr' P.size hA hT (fun x h1 h2 h3 => P.cell x ?_ (fun e => h2 (hL _ e)) ?_ h1) (fun x hx => P.frozen x (h.blt _ hx)) ?_ (by rw [← hK]; exact P.n) ?_ (fun i => (P.frozen _ h.lt).trans (h.free i)) hp hb1 hb2 h12 hbase
  · rcases h3 with h3 | rfl
    · exact h.blt _ h3
    · exact h.lt
  · rcases h3 with h3 | rfl
    · intro e; rw [e] at h3; exact h.out h3
    · intro e; injection e with _ e2; omega
  · exact (P.cell _ h.lt hTl (fun e => by injection e with _ e2; omega) (hT0 1 (by decide))).trans h.limit
  · exact (P.cell _ h.lt hTl (fun e => by injection e with _ e2; omega) (hT0 3 (by decide))).trans h.is
/-- What lay there still lies there. -/
theorem Put.tree {W X : World} {base T : Nat} {t s : Tree} {A : Addr} {p : List Bool} {K : Int} (h : TrieAt W base T t) (hH : Hole W ⟨T, 0, none⟩ A t s p) (P : Put W X T A [] K) {q : Option Addr} {u : Tree} (hu : ∀ b ∈ u.blocks, b ∈ s.blocks) (hT : Tr W q u) : Tr X q u :=
  hT.keep P.size fun x hx => ⟨P.cell x (h.blt _ (hH.sub _ (hu _ hx))) (by simp) (fun e => by rw [e] at hx; exact h.out (hH.sub _ (hu _ hx))) (fun e => hH.out (by rw [← e]; exact hu _ hx)), P.frozen x (h.blt _ (hH.sub _ (hu _ hx)))⟩
theorem new_kept {X w1 : World} {cs : Array Value} {t : TypeId} (hb : Below (X.alloc (.cells cs t)).drew.heap.size (X.alloc (.cells cs t)).drew w1) (i : Nat) : w1.cell? ⟨X.heap.size, i, none⟩ = cs[i]? ∧ w1.frozen? ⟨X.heap.size, i, none⟩ = false := by
  have hlt : X.heap.size < (X.alloc (.cells cs t)).drew.heap.size := by simp
  exact ⟨(hb.cell (p := ⟨X.heap.size, i, none⟩) hlt).trans (World.cell?_alloc_at (w := X) _ _ _ _ rfl), (hb.frozen (p := ⟨X.heap.size, i, none⟩) hlt).trans (World.frozen?_alloc_at (w := X) _ _ _ _ rfl)⟩
theorem sc2_other {X : World} {b c : Nat} {v1 v2 : Value} (i : Nat) (h : c < b) : ((X.setCell ⟨b, 0, none⟩ v1).setCell ⟨b, 1, none⟩ v2).cell? ⟨c, i, none⟩ = X.cell? ⟨c, i, none⟩ := by
  rw [sc_other (fun e => by injection e with e1; omega), sc_other (fun e => by injection e with e1; omega)]
def CRel (X : World) (cA cL : Nat) (c : Value) (wx : World) : Prop :=
  ∃ C : Nat, c = .pointer (some ⟨C, 0, none⟩) ∧ X.heap.size ≤ C ∧ C < wx.heap.size ∧ wx.cell? ⟨C, 0, none⟩ = some (.int .u32 (cA : Int)) ∧ wx.cell? ⟨C, 1, none⟩ = some (.int .i64 (cL : Int)) ∧ Below X.heap.size X wx
theorem CRel.one {X w1 : World} {cA cL : Nat} {t : TypeId} (hb : Below X.drew.heap.size X.drew w1) : CRel X cA cL (.pointer (some ⟨w1.heap.size, 0, none⟩)) (w1.alloc (.cells #[.int .u32 (cA : Int), .int .i64 (cL : Int)] t)) :=
  have hs : X.heap.size ≤ w1.heap.size := hb.size
  ⟨w1.heap.size, rfl, hs, by simp, World.cell?_alloc_at _ _ _ _ rfl, World.cell?_alloc_at _ _ _ _ rfl, (below_undrew hb).alloc hs _⟩
theorem CRel.two {X w1 : World} {cA cL : Nat} {t : TypeId} {cs : Array Value} (h2 : cs.size = 2) (hb : Below (X.alloc (.cells cs t)).drew.heap.size (X.alloc (.cells cs t)).drew w1) :
    CRel X cA cL (.pointer (some ⟨X.heap.size, 0, none⟩)) ((w1.setCell ⟨X.heap.size, 0, none⟩ (.int .u32 (cA : Int))).setCell ⟨X.heap.size, 1, none⟩ (.int .i64 (cL : Int))) := by
  have hs : X.heap.size + 1 ≤ w1.heap.size := by have := hb.size; simp at this; omega
  have g0 := (new_kept hb 0).1
  have g1 := (new_kept hb 1).1
  have s0 : (w1.cell? ⟨X.heap.size, 0, none⟩).isSome = true := by rw [g0]; simp [h2]
  have s1 : (w1.cell? ⟨X.heap.size, 1, none⟩).isSome = true := by rw [g1]; simp [h2]
  refine ⟨X.heap.size, rfl, Nat.le_refl _, by rw [size_setCell, size_setCell]; omega, ?_, World.cell?_setCell_same' _ _ _ (sc_some s1), ?_⟩
  · rw [sc_other (fun e => by injection e with _ e2; omega)]; exact World.cell?_setCell_same' _ _ _ s0
  · have h0 : Below X.heap.size X w1 := (((Below.refl _ _).alloc (Nat.le_refl _) _).drew).trans (hb.mono (by simp))
    exact (h0.setCell (p := ⟨X.heap.size, 0, none⟩) (Nat.le_refl _) _).setCell (p := ⟨X.heap.size, 1, none⟩) (Nat.le_refl _) _
end Go.Proofs.YtfbangojgjcbcaaGreatDoor
namespace Go.Proofs.YtfbangojgjcbcaaGreatDoor
open Go.RowKit Pl
end Go.Proofs.YtfbangojgjcbcaaGreatDoor
namespace Go.Proofs.YtfbangojgjcbcaaGreatDoor
open Go.RowKit Pl
abbrev E3 := Int × Int × Bool
def cellsE (l : List E3) : List Value := l.flatMap fun e => [.int .u32 e.1, .int .i64 e.2.1, .bool e.2.2]
def CovRes (w : World) (k : Nat) (e : Ending) (w' : World) : Prop :=
  ∃ (es : List E3) (B : Nat) (v : Value), es.length = k ∧ e = .returned (.func (.func 194) #[] #[.pointer (some ⟨B, 0, none⟩)]) ∧ w.heap.size ≤ B ∧ B < w'.heap.size ∧ w'.cell? ⟨B, 0, none⟩ = some v ∧ w'.ownsRow w.heap.size 226 3 v es.length (cellsE es)
theorem CovRes.mk {w wr : World} {k : Nat} {es : List E3} {A : Option Addr} {n c : Nat} (he : es.length = k) (ho : wr.ownsRow w.heap.size 226 3 (.slice A n c) es.length (cellsE es)) (hb : Below w.heap.size w wr) :
    CovRes w k (.returned (.func (.func 194) #[] #[.pointer (some ⟨wr.heap.size, 0, none⟩)])) (wr.alloc (.cells #[.slice A n c] 224)) :=
  ⟨es, wr.heap.size, _, he, rfl, hb.size, by simp, World.cell?_alloc_at _ _ _ _ rfl, ho.alloc _⟩
end Go.Proofs.YtfbangojgjcbcaaGreatDoor
namespace Go.Proofs.YtfbangojgjcbcaaGreatDoor
open Go.RowKit Pl Go.Shelf
attribute [local go_sem] Oper.semAt_some
theorem cellsE_at (es : List E3) (j : Nat) (u : E3) (h : es[j]? = some u) : (cellsE es)[j * 3]? = some (.int .u32 u.1) ∧ (cellsE es)[j * 3 + 1]? = some (.int .i64 u.2.1) ∧ (cellsE es)[j * 3 + 2]? = some (.bool u.2.2) := by
  induction es generalizing j with
  | nil => simp at h
  | cons x es ih =>
    cases j with
    | zero => simp at h; subst h; simp [cellsE]
    | succ j =>
      simp only [List.getElem?_cons_succ] at h
      obtain ⟨h1, h2, h3⟩ := ih j h
      have e : cellsE (x :: es) = [.int .u32 x.1, .int .i64 x.2.1, .bool x.2.2] ++ cellsE es := by unfold cellsE; rw [List.flatMap_cons]
      rw [e]
      refine ⟨?_, ?_, ?_⟩
      · rw [List.getElem?_append_right (by simp; omega)]; simpa [show (j + 1) * 3 - 3 = j * 3 by omega] using h1
      · rw [List.getElem?_append_right (by simp; omega)]; simpa [show (j + 1) * 3 + 1 - 3 = j * 3 + 1 by omega] using h2
      · rw [List.getElem?_append_right (by simp; omega)]; simpa [show (j + 1) * 3 + 2 - 3 = j * 3 + 2 by omega] using h3
/-- The blocks from lo on, below hi, lie as they lay. -/
structure Between (lo hi : Nat) (A B : World) : Prop where
  size : A.heap.size ≤ B.heap.size
  at_ : ∀ g, lo ≤ g → g < hi → B.heap[g]? = A.heap[g]?
section
variable {lo hi : Nat} {A B C : World}
theorem Between.refl (A : World) : Between lo hi A A := ⟨Nat.le_refl _, fun _ _ _ => rfl⟩
theorem Between.trans (h : Between lo hi A B) (h' : Between lo hi B C) : Between lo hi A C := ⟨Nat.le_trans h.size h'.size, fun g h1 h2 => (h'.at_ g h1 h2).trans (h.at_ g h1 h2)⟩
theorem Between.alloc (h : Between lo hi A B) (hhi : hi ≤ B.heap.size) (o : Obj) : Between lo hi A (B.alloc o) := h.trans ⟨by simp, fun g _ h2 => Below.heap_alloc B o g (by omega)⟩
theorem Between.set (h : Between lo hi A B) {p : Addr} (hp : p.block < lo) (u : Value) : Between lo hi A (B.setCell p u) := h.trans ⟨by simp [World.setCell], fun g h1 _ => Below.heap_setCell B p u g (by omega)⟩
theorem Between.put {l : Nat} {o' : Obj} (hl : hi ≤ l) : Between lo hi A (A.putObj l o') := ⟨by simp, fun g _ h2 => World.putObj_heap_other (by omega)⟩
theorem Between.of_below (h : Below hi A B) : Between lo hi A B := ⟨h.size, fun g _ h2 => h.block g h2⟩
theorem Between.cell (h : Between lo hi A B) {p : Addr} (h1 : lo ≤ p.block) (h2 : p.block < hi) : B.cell? p = A.cell? p := World.cell?_of_block (h.at_ _ h1 h2)
end
/-- The slice value v holds the entries es, in a block from lo on, below hi; or it is nil and there are none. -/
def Es (lo hi : Nat) (W : World) (v : Value) (es : List E3) : Prop :=
  ∃ (A : Option Addr) (c : Nat), v = .slice A es.length c ∧ (0 < es.length → ∃ b off, A = some ⟨b, off, none⟩ ∧ (lo ≤ b ∧ b < hi) ∧ ∀ j u, es[j]? = some u →
    W.cell? ⟨b, off + j * 3, none⟩ = some (.int .u32 u.1) ∧ W.cell? ⟨b, off + j * 3 + 1, none⟩ = some (.int .i64 u.2.1) ∧ W.cell? ⟨b, off + j * 3 + 2, none⟩ = some (.bool u.2.2))
theorem Es.keep {lo hi : Nat} {A B : World} (hb : Between lo hi A B) {v : Value} {es : List E3} (h : Es lo hi A v es) : Es lo hi B v es := by
  obtain ⟨P, c, rfl, hA⟩ := h
  refine ⟨P, c, rfl, fun hp => ?_⟩
  obtain ⟨b, off, rfl, hlt, hcell⟩ := hA hp
  refine ⟨b, off, rfl, hlt, fun j u hu => ?_⟩
  obtain ⟨h1, h2, h3⟩ := hcell j u hu
  exact ⟨(hb.cell hlt.1 hlt.2).trans h1, (hb.cell hlt.1 hlt.2).trans h2, (hb.cell hlt.1 hlt.2).trans h3⟩
theorem Es.own {w : World} {base : Nat} {e : TypeId} {v : Value} {es : List E3} (h : w.ownsRow base e 3 v es.length (cellsE es)) : Es base w.heap.size w v es := by
  rcases h.2 with ⟨rfl, h0⟩ | ⟨g, cap, cur, rfl, hg, hh, hnc, _⟩
  · have h0' : es = [] := by
      cases es with
      | nil => rfl
      | cons u us => simp at h0
    subst h0'; exact ⟨none, 0, rfl, fun h => absurd h (by simp)⟩
  · refine ⟨_, cap, rfl, fun hp => ⟨g, 0, rfl, ⟨(h.lt g rfl).1, (h.lt g rfl).2⟩, fun j u hu => ?_⟩⟩
    have hc := h.cells (g := g) rfl
    have key : ∀ i u, (cellsE es)[i]? = some u → w.cell? ⟨g, 0 + i, none⟩ = some u := fun i u hu => by
      have := hc i u hu
      rw [show ((⟨g, 0, none⟩ : Addr).add i) = ⟨g, 0 + i, none⟩ from by unfold Addr.add; by_cases hj : i = 0 <;> simp [hj]] at this
      exact this
    obtain ⟨h1, h2, h3⟩ := cellsE_at es j u hu
    exact ⟨key _ _ h1, by have := key _ _ h2; rwa [← Nat.add_assoc] at this, by have := key _ _ h3; rwa [← Nat.add_assoc] at this⟩
/-- What the three results hold while the entries are gone over. -/
def MatchIn (w : World) (pre : List E3) (W : World) : Prop :=
  ∃ (pa pn : Int) (v : Bool), Whole W w.heap.size 86 #[.int .u32 pa, .int .i64 pn] ∧ Whole W (w.heap.size + 1) 4 #[.bool v] ∧ Whole W (w.heap.size + 2) 4 #[.bool (!pre.isEmpty)]
theorem MatchIn.alloc {w W : World} {pre : List E3} (h : MatchIn w pre W) (o : Obj) : MatchIn w pre (W.alloc o) := by
  obtain ⟨pa, pn, v, h1, h2, h3⟩ := h
  exact ⟨pa, pn, v, h1.alloc o, h2.alloc o, h3.alloc o⟩
theorem MatchIn.own {w : World} : Own (MatchIn w) := fun pre A B row hs hg hr => by
  obtain ⟨pa, pn, v, h1, h2, h3⟩ := hs
  exact ⟨pa, pn, v, whole_own _ _ (fun _ : List E3 => #[Value.int .u32 pa, .int .i64 pn]) pre A B row h1 hg hr, whole_own _ _ (fun _ : List E3 => #[Value.bool v]) pre A B row h2 hg hr, whole_own _ _ (fun pre : List E3 => #[Value.bool (!pre.isEmpty)]) pre A B row h3 hg hr⟩
end Go.Proofs.YtfbangojgjcbcaaGreatDoor
namespace Go.Proofs.YtfbangojgjcbcaaGreatDoor
open Go.RowKit Pl
/-- The cells of a reader: a configuration, and a number behind it. -/
def rdCells (c : Cfg) (own ports : Value) (st : Int) : Array Value := #[.int .i64 c.node, .int .u32 c.addr, own, ports, .int .i64 c.hello, .int .i64 c.dead, .int .i64 c.again, .int .i64 c.room, .int .i64 c.queue, .int .i64 c.tokens, .int .i64 c.refill, .int .i64 st]
structure Rd (t : TypeId) (w : World) (B R : Nat) (c : Cfg) (st : Int) : Prop where
  ge : 8 ≤ R
  is : ∃ own ports, Whole w R t (rdCells c own ports st) ∧ w.ownsRow B 86 2 own c.own.length (cells2 .u32 c.own) ∧ w.ownsRow B 101 2 ports c.ports.length (cells2 .i64 c.ports)
theorem own_apart {w : World} {g : Nat} {t e : TypeId} {cs : Array Value} {base size n : Nat} {v : Value} {xs : List Value} (hg : Whole w g t cs) (h : w.ownsRow base e size v n xs) (hne : t ≠ e) : v.ownBlock = none ∨ v.ownBlock ≠ some g := .inr (hg.notRow h hne)
theorem own_grown {w w' : World} {g : Nat} {t e : TypeId} {cs : Array Value} {base size n : Nat} {v : Value} {xs : List Value} (hg : Whole w g t cs) (h : w.ownsRow base e size v n xs) (hne : t ≠ e) (hw : w.grownBy w' (some g)) : w'.ownsRow base e size v n xs :=
  h.kept hw (own_apart hg h hne)
theorem grown_set (w : World) (g i : Nat) (u : Value) : w.grownBy (w.setCell ⟨g, i, none⟩ u) (some g) :=
  ⟨rfl, rfl, rfl, by simp [World.setCell], fun k _ hk => Below.heap_setCell w ⟨g, i, none⟩ u k (fun e => hk (by rw [e]))⟩
/-- What lay below B is as it was, but for block R. -/
structure Kb (B R : Nat) (w w' : World) : Prop where
  os : w'.os = w.os
  tape : w'.tape = w.tape
  output : w'.output = w.output
  size : w.heap.size ≤ w'.heap.size
  block : ∀ g, g < B → g ≠ R → w'.heap[g]? = w.heap[g]?
theorem Kb.refl (B R : Nat) (w : World) : Kb B R w w := ⟨rfl, rfl, rfl, Nat.le_refl _, fun _ _ _ => rfl⟩
theorem Kb.trans {B R : Nat} {a b c : World} (h : Kb B R a b) (h' : Kb B R b c) : Kb B R a c :=
  ⟨h'.os.trans h.os, h'.tape.trans h.tape, h'.output.trans h.output, Nat.le_trans h.size h'.size, fun g h1 h2 => (h'.block g h1 h2).trans (h.block g h1 h2)⟩
theorem Kb.of_below {B R : Nat} {w w' : World} (h : Below B w w') : Kb B R w w' := ⟨h.os, h.tape, h.output, h.size, fun g h1 _ => h.block g h1⟩
theorem Kb.below {N B R : Nat} {w w' : World} (h : Kb B R w w') (hB : N ≤ B) (hR : N ≤ R) : Below N w w' := ⟨h.os, h.tape, h.output, h.size, fun g hg => h.block g (by omega) (by omega)⟩
theorem kb_grown {B R : Nat} {w w' : World} (h : w.grownBy w' (some R)) (hB : B ≤ w.heap.size) : Kb B R w w' := ⟨h.os, h.tape, h.output, h.size, fun g h1 h2 => h.block g (by omega) (by simpa using h2)⟩
theorem Kb.set {B R : Nat} {w w' : World} (h : Kb B R w w') (i : Nat) (u : Value) (hB : B ≤ w'.heap.size) : Kb B R w (w'.setCell ⟨R, i, none⟩ u) := h.trans (kb_grown (grown_set w' R i u) hB)
end Go.Proofs.YtfbangojgjcbcaaGreatDoor
namespace Go.Proofs.YtfbangojgjcbcaaGreatDoor
open Go.RowKit Pl
/-- What a line does to the reader. -/
def RdRes (w : World) (B R : Nat) (o : Option (Cfg × Nat)) (e : Ending) (w' : World) : Prop :=
  (match o with
    | some (c', st') => e = .returned (.bool true) ∧ Rd 89 w' B R c' (st' : Int)
    | none => e = .returned (.bool false)) ∧ Kb B R w w'
theorem RdRes.no {w w' : World} {B R : Nat} {o : Option (Cfg × Nat)} {e : Ending} (h : o = none) (he : e = .returned (.bool false)) (hb : Kb B R w w') : RdRes w B R o e w' := by
  subst h; exact ⟨he, hb⟩
end Go.Proofs.YtfbangojgjcbcaaGreatDoor
namespace Go.Proofs.YtfbangojgjcbcaaGreatDoor
open Go.RowKit Pl
end Go.Proofs.YtfbangojgjcbcaaGreatDoor
namespace Go.Proofs.YtfbangojgjcbcaaGreatDoor
open Go.RowKit Pl
end Go.Proofs.YtfbangojgjcbcaaGreatDoor
namespace Go.Proofs.YtfbangojgjcbcaaGreatDoor
open Go.RowKit Pl
end Go.Proofs.YtfbangojgjcbcaaGreatDoor
namespace Go.Proofs.YtfbangojgjcbcaaGreatDoor
open Go.RowKit Pl
end Go.Proofs.YtfbangojgjcbcaaGreatDoor
namespace Go.Proofs.YtfbangojgjcbcaaGreatDoor
open Go.RowKit Pl
end Go.Proofs.YtfbangojgjcbcaaGreatDoor
namespace Go.Proofs.YtfbangojgjcbcaaGreatDoor
open Go.RowKit Pl
def wEnt (k : ByteArray) (f n : Nat) : MapEntry := ⟨.string k, .func (.func f) #[] #[], n⟩
def wordsE : Array MapEntry := #[wEnt (str wNode) 102 0, wEnt (str wAddress) 103 1, wEnt (str wOwn) 104 2, wEnt (str wPort) 105 3, wEnt (str wHello) 106 4, wEnt (str wDead) 107 5, wEnt (str wAgain) 108 6, wEnt (str wRoom) 109 7, wEnt (str wQueue) 110 8, wEnt (str wTokens) 111 9, wEnt (str wRefill) 112 10]
def IsWords (w : World) (g : Nat) : Prop := w.heap[g]? = some (.map wordsE 11)
theorem IsWords.grown {w w' : World} {g R : Nat} (h : IsWords w g) (hw : w.grownBy w' (some R)) (hne : g ≠ R) : IsWords w' g := (hw.block g (Array.getElem?_eq_some_iff.1 h).1 (by simpa using hne)).trans h
theorem IsWords.below {w w' : World} {g B : Nat} (h : IsWords w g) (hw : Below B w w') (hg : g < B) : IsWords w' g := (hw.block g hg).trans h
end Go.Proofs.YtfbangojgjcbcaaGreatDoor
namespace Go.Proofs.YtfbangojgjcbcaaGreatDoor
open Go.RowKit Pl
end Go.Proofs.YtfbangojgjcbcaaGreatDoor
namespace Go.Proofs.YtfbangojgjcbcaaGreatDoor
open Go.RowKit Pl
def cfg0 : Value := .agg #[.int .i64 0, .int .u32 0, .slice none 0 0, .slice none 0 0, .int .i64 0, .int .i64 0, .int .i64 0, .int .i64 0, .int .i64 0, .int .i64 0, .int .i64 0]
theorem CfgIs.zero (w : World) : CfgIs w cfg0 {} := ⟨⟨_, _, rfl, Rs.nil _ _, Rs.nil _ _⟩⟩
theorem Rd.here {t : TypeId} {w w' : World} {B R : Nat} {c : Cfg} {st : Int} (h : Rd t w B R c st) (hb : Below w.heap.size w w') : Rd t w' B R c st := by
  obtain ⟨h0, own, ports, h1, h2, h3⟩ := h
  exact ⟨h0, own, ports, h1.here hb, own_below h2 hb, own_below h3 hb⟩
end Go.Proofs.YtfbangojgjcbcaaGreatDoor
namespace Go.Proofs.YtfbangojgjcbcaaGreatDoor.Pl
def goodTo (l : List Pr) (j : Nat) : Prop := rising (l.take j) = true ∧ (l.take j).all (fun p => mayP p.1 p.2) = true
theorem goodTo.start (l : List Pr) : goodTo l 0 := ⟨rfl, rfl⟩
theorem goodTo.first {l : List Pr} {p : Pr} (hp : l[0]? = some p) (hm : mayP p.1 p.2 = true) : goodTo l (0 + 1) := by
  have e : l.take (0 + 1) = [p] := by
    cases l with
    | nil => simp at hp
    | cons x l => simp at hp; subst hp; simp
  unfold goodTo
  rw [e]
  exact ⟨rfl, by simp [hm]⟩
theorem goodTo.next {l : List Pr} {j : Nat} {z p : Pr} (h : goodTo l (j + 1)) (hz : l[j]? = some z) (hp : l[j + 1]? = some p) (hm : mayP p.1 p.2 = true) (hc : cmpP z.1 z.2 p.1 p.2 = -1) : goodTo l (j + 1 + 1) := by
  obtain ⟨h1, h2⟩ := h
  have e1 : l.take (j + 1) = l.take j ++ [z] := by rw [List.take_add_one, hz]; rfl
  have e2 := take_two hz hp
  unfold goodTo
  rw [e2, rising_snoc2, ← e1, h1]
  refine ⟨by rw [hc]; rfl, ?_⟩
  rw [show l.take j ++ [z, p] = l.take (j + 1) ++ [p] by rw [e1]; simp, List.all_append, h2]
  simp [hm]
theorem goodTo.done {l : List Pr} {j : Nat} (h : goodTo l j) (hj : j = l.length ∨ (j = 9 ∧ 9 ≤ l.length)) : ownOk l = inI l.length 1 8 := by
  rcases hj with rfl | ⟨rfl, hl⟩
  · obtain ⟨h1, h2⟩ := h
    rw [List.take_length] at h1 h2
    unfold ownOk inI
    rw [h1, h2]
    simp
    rw [Bool.eq_iff_iff]; simp; omega
  · have : inI l.length 1 8 = false := by unfold inI; simp; omega
    rw [this]; exact ownOk_len (by omega)
end Go.Proofs.YtfbangojgjcbcaaGreatDoor.Pl
namespace Go.Proofs.YtfbangojgjcbcaaGreatDoor
open Go.RowKit Pl
end Go.Proofs.YtfbangojgjcbcaaGreatDoor
namespace Go.Proofs.YtfbangojgjcbcaaGreatDoor
open Go.RowKit Pl
end Go.Proofs.YtfbangojgjcbcaaGreatDoor
namespace Go.Proofs.YtfbangojgjcbcaaGreatDoor.Pl
open Go.Lib (decDigits itoa)
end Go.Proofs.YtfbangojgjcbcaaGreatDoor.Pl
namespace Go.Proofs.YtfbangojgjcbcaaGreatDoor.Pl
open Go.Lib (decDigits itoa)
structure SInv (c : Cfg) (st : Nat) : Prop where
  le : st ≤ 10
  node : 1 ≤ st → 1 ≤ c.node ∧ c.node ≤ 16
  addr : 2 ≤ st → 0 ≤ c.addr ∧ c.addr < 4294967296
  own0 : st < 3 → c.own = []
  own : 3 ≤ st → ownOk c.own = true
  ports0 : st < 3 → c.ports = []
  ports : c.ports.length ≤ 8 ∧ c.ports.all portOk = true
  owns : ∀ p ∈ c.own, 0 ≤ p.1 ∧ p.1 < 4294967296
  hello : 4 ≤ st → hasAny c.own c.addr = true ∧ 1 ≤ c.hello ∧ c.hello ≤ 100
  dead : 5 ≤ st → c.hello + 1 ≤ c.dead ∧ c.dead ≤ 100
  again : 6 ≤ st → 1 ≤ c.again ∧ c.again ≤ 100
  room : 7 ≤ st → 0 ≤ c.room ∧ c.room ≤ 64
  queue : 8 ≤ st → 1 ≤ c.queue ∧ c.queue ≤ 64
  tokens : 9 ≤ st → 0 ≤ c.tokens ∧ c.tokens ≤ 64
  refill : 10 ≤ st → 1 ≤ c.refill ∧ c.refill ≤ 100
theorem SInv.start : SInv {} 0 := ⟨by omega, fun h => by omega, fun h => by omega, fun _ => rfl, fun h => by omega, fun _ => rfl, by simp, by simp, fun h => by omega, fun h => by omega, fun h => by omega, fun h => by omega, fun h => by omega, fun h => by omega, fun h => by omega⟩
end Go.Proofs.YtfbangojgjcbcaaGreatDoor.Pl
namespace Go.Proofs.YtfbangojgjcbcaaGreatDoor.Pl
end Go.Proofs.YtfbangojgjcbcaaGreatDoor.Pl
namespace Go.Proofs.YtfbangojgjcbcaaGreatDoor
open Go.RowKit Pl
def Sv (l : List UInt8) : Value := .string (str l)
end Go.Proofs.YtfbangojgjcbcaaGreatDoor
namespace Go.Proofs.YtfbangojgjcbcaaGreatDoor
open Go.RowKit Pl
/-- Box R holds a slice of the call's own (from B on), which holds the lines ls. -/
structure LinesIs (B R : Nat) (ls : List (List UInt8)) (w : World) : Prop where
  is : ∃ v, B ≤ R ∧ Whole w R 40 #[v] ∧ w.ownsRow B 9 1 v ls.length (ls.map Sv)
theorem LinesIs.below {B R : Nat} {ls : List (List UInt8)} {w w' : World} (h : LinesIs B R ls w) (hb : Below w.heap.size w w') : LinesIs B R ls w' := by
  obtain ⟨v, h0, h1, h2⟩ := h.is
  exact ⟨v, h0, h1.here hb, own_below h2 hb⟩
end Go.Proofs.YtfbangojgjcbcaaGreatDoor
namespace Go.Proofs.YtfbangojgjcbcaaGreatDoor
open Go.RowKit Pl
/-- The slice value v holds the texts ls, in a block from lo on, below hi; or there are none. -/
def Ss (lo hi : Nat) (W : World) (v : Value) (ls : List (List UInt8)) : Prop :=
  ∃ (A : Option Addr) (c : Nat), v = .slice A ls.length c ∧ (0 < ls.length → ∃ b off, A = some ⟨b, off, none⟩ ∧ (lo ≤ b ∧ b < hi) ∧ ∀ j l, ls[j]? = some l → W.cell? ⟨b, off + j, none⟩ = some (.string (str l)))
theorem Ss.own {w : World} {base : Nat} {e : TypeId} {v : Value} {ls : List (List UInt8)} {n : Nat} (h : w.ownsRow base e 1 v n (ls.map Sv)) : Ss base w.heap.size w v ls := by
  have hn : n = ls.length := by have := h.1; simp at this; omega
  subst hn
  rcases h.2 with ⟨rfl, h0⟩ | ⟨g, cap, cur, rfl, hg, hh, hnc, _⟩
  · have h0' : ls = [] := by simpa using h0
    subst h0'; exact ⟨none, 0, rfl, fun h => absurd h (by simp)⟩
  · refine ⟨_, cap, rfl, fun hp => ⟨g, 0, rfl, ⟨(h.lt g rfl).1, (h.lt g rfl).2⟩, fun j l hl => ?_⟩⟩
    have := h.cells (g := g) rfl j (Sv l) (by rw [List.getElem?_map, hl]; rfl)
    rw [show ((⟨g, 0, none⟩ : Addr).add j) = ⟨g, 0 + j, none⟩ from by unfold Addr.add; by_cases hj : j = 0 <;> simp [hj]] at this
    exact this
theorem Ss.here {lo hi hi' : Nat} {w w' : World} {v : Value} {ls : List (List UInt8)} (h : Ss lo hi w v ls) (hh : hi ≤ w.heap.size) (hi2 : hi ≤ hi') (hb : Below w.heap.size w w') : Ss lo hi' w' v ls := by
  obtain ⟨A, c, rfl, hA⟩ := h
  refine ⟨A, c, rfl, fun hp => ?_⟩
  obtain ⟨b, off, h1, h2, h3⟩ := hA hp
  exact ⟨b, off, h1, ⟨h2.1, by omega⟩, fun j l hj => (hb.cell (p := ⟨b, off + j, none⟩) (show b < _ by omega)).trans (h3 j l hj)⟩
end Go.Proofs.YtfbangojgjcbcaaGreatDoor
namespace Go.Proofs.YtfbangojgjcbcaaGreatDoor
open Go.RowKit Pl
theorem LinesIs.push {B R : Nat} {ls : List (List UInt8)} {l : List UInt8} {w z w3 : World} {v v' : Value} (hW : Whole w R 40 #[v]) (hO : w.ownsRow B 9 1 v ls.length (ls.map Sv)) (hz : Below w.heap.size w z)
    (hO3 : w3.ownsRow B 9 1 v' (ls.length + 1) (ls.map Sv ++ [Sv l])) (hg : z.grownBy w3 v.ownBlock) (hBR : B ≤ R) (hBw : B ≤ w.heap.size) :
    ∃ g n k, v' = .slice (some ⟨g, 0, none⟩) n k ∧ w3.cell? ⟨R, 0, none⟩ = some v ∧ w3.frozen? ⟨R, 0, none⟩ = false ∧ LinesIs B R (ls ++ [l]) (w3.setCell ⟨R, 0, none⟩ v') ∧ Below B w (w3.setCell ⟨R, 0, none⟩ v') := by
  obtain ⟨g3, k3, rfl, _, _⟩ := hO3.form (by omega)
  have hno := hW.notRow hO (by decide)
  have hW3 := (hW.here hz).kept hg (Ne.symm hno)
  have hs := hz.size
  refine ⟨g3, _, k3, rfl, hW3.cell 0, hW3.frozen 0, ⟨_, hBR, hW3.set 0 _, ?_⟩, ?_⟩
  · rw [List.length_append, List.map_append]
    exact own_grown hW3 hO3 (by decide) (grown_set w3 R 0 _)
  · exact ((hz.mono hBw).grown hg (by omega) fun g hg' => (hO.lt g hg').1).setCell (p := ⟨R, 0, none⟩) hBR _
end Go.Proofs.YtfbangojgjcbcaaGreatDoor
namespace Go.Proofs.YtfbangojgjcbcaaGreatDoor
open Go.RowKit Pl
/-- Block b is a builder that holds the bytes l, in a row from base on. -/
structure BAt (base b : Nat) (l : List UInt8) (w : World) : Prop where
  is : ∃ p v, Whole w b 111 #[p, v] ∧ (p = .pointer none ∨ p = .pointer (some ⟨b, 0, none⟩)) ∧ w.ownsRow base 5 1 v l.length (cellsB l)
/-- All but block b, and but rows of cells from base on, lies as it lay. -/
structure Moves (base b : Nat) (w w' : World) : Prop where
  os : w'.os = w.os
  tape : w'.tape = w.tape
  output : w'.output = w.output
  size : w.heap.size ≤ w'.heap.size
  at_ : ∀ k o, w.heap[k]? = some o → k ≠ b → (k < base ∨ o.isCells = false) → w'.heap[k]? = some o
theorem Moves.refl (base b : Nat) (w : World) : Moves base b w w := ⟨rfl, rfl, rfl, Nat.le_refl _, fun _ _ h _ _ => h⟩
theorem Moves.trans {base b : Nat} {w w' w'' : World} (h : Moves base b w w') (h' : Moves base b w' w'') : Moves base b w w'' :=
  ⟨h'.os.trans h.os, h'.tape.trans h.tape, h'.output.trans h.output, Nat.le_trans h.size h'.size, fun k o ho hk hc => h'.at_ k o (h.at_ k o ho hk hc) hk hc⟩
theorem Moves.set (base b : Nat) (w : World) (i : Nat) (u : Value) : Moves base b w (w.setCell ⟨b, i, none⟩ u) :=
  ⟨rfl, rfl, rfl, by simp [World.setCell], fun k o ho hk _ => (Below.heap_setCell w ⟨b, i, none⟩ u k hk).trans ho⟩
theorem Moves.of_below {base b : Nat} {w w' : World} (h : Below w.heap.size w w') : Moves base b w w' :=
  ⟨h.os, h.tape, h.output, h.size, fun k _o ho _ _ => (h.block k (Array.getElem?_eq_some_iff.1 ho).1).trans ho⟩
/-- A row that the call owns, grown. -/
theorem Moves.grown {base b : Nat} {w w' : World} {e : TypeId} {size n : Nat} {v : Value} {xs : List Value} (hO : w.ownsRow base e size v n xs) (hg : w.grownBy w' v.ownBlock) : Moves base b w w' :=
  ⟨hg.os, hg.tape, hg.output, hg.size, fun k o ho _ hc => (hg.block k (Array.getElem?_eq_some_iff.1 ho).1 (fun e => by
    rcases hO.2 with ⟨rfl, _⟩ | ⟨g, cap, cur, rfl, hbg, hh, _⟩
    · simp [Value.ownBlock] at e
    · have : k = g := by simpa [Value.ownBlock] using e
      subst this
      rw [hh] at ho
      injection ho with ho
      subst ho
      rcases hc with hc | hc
      · omega
      · simp [Obj.isCells] at hc)).trans ho⟩
theorem BAt.here {base b : Nat} {l : List UInt8} {w w' : World} (h : BAt base b l w) (hb : Below w.heap.size w w') : BAt base b l w' := by
  obtain ⟨p, v, h1, h2, h3⟩ := h.is
  exact ⟨p, v, h1.here hb, h2, own_below h3 hb⟩
theorem Moves.drew {base b : Nat} {w w' : World} (h : Moves base b w w') : Moves base b w w'.drew := ⟨h.os, h.tape, h.output, h.size, h.at_⟩
end Go.Proofs.YtfbangojgjcbcaaGreatDoor
namespace Go.Proofs.YtfbangojgjcbcaaGreatDoor
open Go.RowKit Pl Go.Shelf
attribute [local go_sem] Oper.semAt_some
theorem Ss.keep {lo hi : Nat} {A B : World} (hb : Between lo hi A B) {v : Value} {ls : List (List UInt8)} (h : Ss lo hi A v ls) : Ss lo hi B v ls := by
  obtain ⟨P, c, rfl, hA⟩ := h
  refine ⟨P, c, rfl, fun hp => ?_⟩
  obtain ⟨b, off, rfl, hlt, hcell⟩ := hA hp
  exact ⟨b, off, rfl, hlt, fun j l hl => (hb.cell (p := ⟨b, off + j, none⟩) hlt.1 hlt.2).trans (hcell j l hl)⟩
end Go.Proofs.YtfbangojgjcbcaaGreatDoor
namespace Go.Proofs.YtfbangojgjcbcaaGreatDoor
open Go.RowKit Pl Go.Shelf
attribute [local go_sem] Oper.semAt_some
theorem BAt.own {α : Type} (base b : Nat) (f : α → List UInt8) : Own (fun s W => BAt base b (f s) W) := fun s X Y row hs hg hr => by
  obtain ⟨p, v, h1, h2, h3⟩ := hs.is
  refine ⟨p, v, whole_own b _ (fun (_ : Unit) => #[p, v]) () X Y row h1 hg hr, h2, h3.kept hg ?_⟩
  rcases h3.2 with ⟨rfl, _⟩ | ⟨g, cap, cur, rfl, _, hh, _⟩
  · exact .inl rfl
  · right
    intro e
    obtain ⟨o, ho, hc⟩ := hr g e.symm
    rw [hh] at ho
    injection ho with ho
    subst ho
    simp [Obj.isCells] at hc
theorem Moves.keeps {base b B : Nat} {w w' : World} (h : Moves base b w w') (hb : ∃ cs t fr, w.heap[b]? = some (.cells cs t fr)) : KeepsFrom B w w' :=
  KeepsOthers.from ⟨h.size, fun k o ho hc => h.at_ k o ho (by rintro rfl; obtain ⟨cs, t, fr, e⟩ := hb; rw [ho] at e; injection e with e; subst e; simp [Obj.isCells] at hc) (.inr hc)⟩ B
theorem Moves.between {base b lo hi : Nat} {w w' : World} (h : Moves base b w w') (hb : b < lo) (hh : hi ≤ base) (hs : hi ≤ w.heap.size) : Between lo hi w w' :=
  ⟨h.size, fun g h1 h2 => by
    obtain ⟨o, ho⟩ : ∃ o, w.heap[g]? = some o := ⟨_, Array.getElem?_eq_getElem (by omega)⟩
    rw [h.at_ g o ho (by omega) (.inl (by omega)), ho]⟩
theorem Moves.below {base b : Nat} {w w' : World} {B : Nat} (h : Moves base b w w') (hb : B ≤ b) (hB : B ≤ base) (hs : B ≤ w.heap.size) : Below B w w' :=
  ⟨h.os, h.tape, h.output, h.size, fun k hk => by
    obtain ⟨o, ho⟩ : ∃ o, w.heap[k]? = some o := ⟨_, Array.getElem?_eq_getElem (by omega)⟩
    rw [h.at_ k o ho (by omega) (.inl (by omega)), ho]⟩
end Go.Proofs.YtfbangojgjcbcaaGreatDoor
namespace Go.Proofs.YtfbangojgjcbcaaGreatDoor
open Go.RowKit Pl
theorem hx_ba (n : Nat) (h : n < (ByteArray.mk #[48, 49, 50, 51, 52, 53, 54, 55, 56, 57, 97, 98, 99, 100, 101, 102]).size) :
    (ByteArray.mk #[48, 49, 50, 51, 52, 53, 54, 55, 56, 57, 97, 98, 99, 100, 101, 102])[n] = hx n := by
  have k : ∀ m : Fin 16, (ByteArray.mk #[48, 49, 50, 51, 52, 53, 54, 55, 56, 57, 97, 98, 99, 100, 101, 102])[m.1]'m.2 = hx m.1 := by decide +kernel
  exact k ⟨n, h⟩
theorem and15 (x : UInt8) : bits .and .u8 (x.toNat : Int) 15 = ((x.toNat % 16 : Nat) : Int) := by
  have k : ∀ m : Fin 256, bits .and .u8 (m.1 : Int) 15 = ((m.1 % 16 : Nat) : Int) := by decide +kernel
  exact k ⟨x.toNat, x.toNat_lt⟩
theorem hex_two (l m : List UInt8) (x : UInt8) (h : m = l ++ hex1 x) : cellsB (l ++ [hx (x.toNat / 16)] ++ [hx (x.toNat % 16)]) = cellsB m := by
  subst h; simp [hex1]
set_option maxRecDepth 100000 in
set_option maxHeartbeats 1000000 in
theorem hex_any (v : Value) (l : List UInt8) (w : World) (hb : Bs w v l) (hl : l.length ≤ 1000000) :
    Calls Tryz.prog 172 #[v] w fun e w' => e = .returned (.string (str (hexText l))) ∧ Below w.heap.size w w' := by
  have HB := Lib.hid hb
  obtain ⟨A, c, rfl, hc, _, _⟩ := hb
  go_enter Tryz.func172, Tryz.ntmps172
  go_wp2
  go_loopw [8] (fun i wr => ∃ j : Nat, j ≤ l.length ∧ i = .int .i64 j ∧ Lib.IsBuilder 111 5 w.heap.size w.heap.size (cellsB (hexText (l.take j))) wr ∧ Below w.heap.size w wr) (fun i _ => l.length - (intOf i).toNat)
  case atStart =>
    exact ⟨0, Nat.zero_le _, rfl, Lib.fresh_isBuilder 111 5 w, bel_alloc (Below.refl _ _) _⟩
  case round =>
    obtain ⟨j, hj, rfl, hbu, hb⟩ := hrel
    by_cases hlt : j < l.length
    · obtain ⟨A', c', hv, _, _, hA⟩ := HB.out.below hb
      injection hv with hv1 hv2 hv3
      subst hv1 hv3
      obtain ⟨b, off, rfl, hbs, hcell⟩ := hA (by omega)
      have hcj : wr.cell? ⟨b, off + j, none⟩ = some (.int .u8 (l[j].toNat : Int)) := hcell j _ (by simp [cellsB, hlt])
      clear hcell hA
      have hlen : (hexText (l.take j)).length ≤ 2000000 := by rw [hexText_length, List.length_take]; omega
      have ht := hexText_take l j hlt
      obtain ⟨x, hx⟩ : ∃ x, l[j] = x := ⟨_, rfl⟩
      rw [hx] at hcj ht
      clear hx
      have hxl : (x.toNat : Int) < 256 := by have := x.toNat_lt; omega
      have hand := and15 x
      have HW := Lib.hid hbu
      clear hbu
      have hbz := hb.size
      go_wp2_with (go_at_call 195; rw [hx_ba]; refine (writeByte_any _ _ _ _ _ HW.out (by omega) hbz).mono ?_)
      rintro e w1 ⟨rfl, hw1, hb1⟩
      have hbz1 := hb1.size
      have HW1 := Lib.hid hw1
      clear hw1
      go_wp2_with (go_at_call 195; rw [hx_ba]; refine (writeByte_any _ _ _ _ _ HW1.out (by simp; omega) (by omega)).mono ?_)
      rintro e w2 ⟨rfl, hw2, hb2⟩
      rw [hex_two _ _ _ ht] at hw2
      have HW2 := Lib.hid hw2
      clear hw2
      go_wp2
      go_roundw
      case rel => exact ⟨j + 1, by omega, by go_num, HW2.out, hb.trans (hb1.trans hb2)⟩
      case measure => simp [intOf]; omega
    · obtain rfl : j = l.length := by omega
      rw [List.take_length] at hbu
      have hbz := hb.size
      have HW := Lib.hid hbu
      clear hbu
      go_wp2_with (go_at_call 63; refine (Tryz.Builder_String_any _ _ (hexText l) _ HW.out hbz).mono ?_)
      rintro e w1 ⟨rfl, hb1⟩
      go_wp2
      go_ret
      exact ⟨rfl, hb.trans hb1⟩
end Go.Proofs.YtfbangojgjcbcaaGreatDoor
