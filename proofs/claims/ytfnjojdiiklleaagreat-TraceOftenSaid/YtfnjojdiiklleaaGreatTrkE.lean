/- Tracks in memory; their parents, plainly. -/
/- Contracts of trace.parent and of the law's parent. -/
/- Contracts of the law's parent, of trace.Begins and trace.Forwarded. -/
/- Rows of tracks that a call made; slices.Clone of tracks. -/
/- Contracts of trace.Forwarded and trace.Doubles. -/
import Derived.Test.YtfnjojdiiklleaaGreatBlk
namespace Go.Proofs.YtfnjojdiiklleaaGreat
open Go.RowKit Pl

/-- A track: its numbers, its bytes' slice as it lies, its marks. -/
structure Tk where
  num : Int
  par : Int
  node : Int
  to_ : Int
  ba : Option Addr
  bn : Nat
  bc : Nat
  act : Int
  err : Bool
  dbl : Bool
  loc : Bool
  drop : Int
def Tk.cells (t : Tk) : List Value := [.int .i64 t.num, .int .i64 t.par, .int .i64 t.node, .int .i64 t.to_, .slice t.ba t.bn t.bc, .int .i64 t.act, .bool t.err, .bool t.dbl, .bool t.loc, .int .i64 t.drop]
def Tk.val (t : Tk) : Value := .agg t.cells.toArray
/-- The ten cells from o on are a track's. -/
def trackQ (w : World) (b o : Nat) (t : Tk) : Prop :=
  w.cell? ⟨b, o, none⟩ = some (.int .i64 t.num) ∧ w.cell? ⟨b, o + 1, none⟩ = some (.int .i64 t.par) ∧ w.cell? ⟨b, o + 2, none⟩ = some (.int .i64 t.node) ∧ w.cell? ⟨b, o + 3, none⟩ = some (.int .i64 t.to_) ∧ w.cell? ⟨b, o + 4, none⟩ = some (.slice t.ba t.bn t.bc) ∧
  w.cell? ⟨b, o + 5, none⟩ = some (.int .i64 t.act) ∧ w.cell? ⟨b, o + 6, none⟩ = some (.bool t.err) ∧ w.cell? ⟨b, o + 7, none⟩ = some (.bool t.dbl) ∧ w.cell? ⟨b, o + 8, none⟩ = some (.bool t.loc) ∧ w.cell? ⟨b, o + 9, none⟩ = some (.int .i64 t.drop)
theorem trackQ.below {w w' : World} {b o : Nat} {t : Tk} (hlt : b < w.heap.size) (h : trackQ w b o t) (hb : Below w.heap.size w w') : trackQ w' b o t := by
  obtain ⟨c0, c1, c2, c3, c4, c5, c6, c7, c8, c9⟩ := h
  exact ⟨(hb.cell hlt).trans c0, (hb.cell hlt).trans c1, (hb.cell hlt).trans c2, (hb.cell hlt).trans c3, (hb.cell hlt).trans c4, (hb.cell hlt).trans c5, (hb.cell hlt).trans c6, (hb.cell hlt).trans c7, (hb.cell hlt).trans c8, (hb.cell hlt).trans c9⟩
/-- The slice value v reads as the tracks l in world w. -/
def Tracks (w : World) (v : Value) (l : List Tk) : Prop :=
  ∃ (A : Option Addr) (c : Nat), v = .slice A l.length c ∧ l.length ≤ c ∧ (A = none → c = 0) ∧
    (0 < l.length → ∃ b off, A = some ⟨b, off, none⟩ ∧ b < w.heap.size ∧ ∀ j t, l[j]? = some t → trackQ w b (off + j * 10) t)
theorem Tracks.here {w w' : World} {v : Value} {l : List Tk} (h : Tracks w v l) (hb : Below w.heap.size w w') : Tracks w' v l := by
  obtain ⟨A, c, rfl, hc, hn, hA⟩ := h
  refine ⟨A, c, rfl, hc, hn, fun hp => ?_⟩
  obtain ⟨b, off, rfl, hlt, hcell⟩ := hA hp
  exact ⟨b, off, rfl, Nat.lt_of_lt_of_le hlt hb.size, fun j t ht => (hcell j t ht).below hlt hb⟩
theorem Tracks.at {w : World} {A : Option Addr} {n c : Nat} {l : List Tk} (h : Tracks w (.slice A n c) l) {j : Nat} {t : Tk} (ht : l[j]? = some t) :
    ∃ b off, A = some ⟨b, off, none⟩ ∧ b < w.heap.size ∧ trackQ w b (off + j * 10) t := by
  obtain ⟨A', c', hv, hc, _, hA⟩ := h
  injection hv with h1 h2 h3
  subst h1
  obtain ⟨b, off, rfl, hlt, hcell⟩ := hA (by have := (List.getElem?_eq_some_iff.1 ht).1; omega)
  exact ⟨b, off, rfl, hlt, hcell j t ht⟩

/-! ### Parents, plainly -/
/-- The greatest place ahead of k whose track has the number p; -1: none. -/
def numAt (l : List Tk) (p : Int) : Nat → Int
  | 0 => -1
  | k + 1 => match l[k]? with
    | some t => if t.num = p then (k : Int) else numAt l p k
    | none => numAt l p k
def parP (l : List Tk) (i : Nat) : Int := match l[i]? with
  | some t => if t.par = 0 then -1 else numAt l t.par i
  | none => -1
theorem numAt_lt (l : List Tk) (p : Int) : ∀ k : Nat, -1 ≤ numAt l p k ∧ numAt l p k < k
  | 0 => by simp [numAt]
  | k + 1 => by
    have := numAt_lt l p k
    unfold numAt
    split
    · split <;> omega
    · omega
theorem parP_lt (l : List Tk) (i : Nat) : -1 ≤ parP l i ∧ parP l i < i := by
  have hk := fun p => numAt_lt l p i
  unfold parP
  split
  · split
    · omega
    · exact hk _
  · omega
/-- Does a chain begin there? -/
def begP (l : List Tk) (i : Nat) : Bool := match l[i]? with
  | some t => decide (parP l i < 0) || (t.err && !(match l[(parP l i).toNat]? with | some u => u.err | none => false))
  | none => false
/-- Was it forwarded? -/
def fwdP (l : List Tk) (i : Nat) : Bool := match l[i]? with
  | some t => !t.loc && (decide (0 ≤ parP l i) && (decide (0 ≤ parP l (parP l i).toNat) || (match l[(parP l i).toNat]? with | some u => u.node != t.node | none => false)))
  | none => false
theorem numAt_hit {l : List Tk} {p : Int} {k : Nat} {t : Tk} (h : l[k]? = some t) (hp : t.num = p) : numAt l p (k + 1) = k := by simp [numAt, h, hp]
theorem numAt_miss {l : List Tk} {p : Int} {k : Nat} {t : Tk} (h : l[k]? = some t) (hp : t.num ≠ p) : numAt l p (k + 1) = numAt l p k := by simp [numAt, h, hp]
end Go.Proofs.YtfnjojdiiklleaaGreat
namespace Go.Proofs.YtfnjojdiiklleaaGreat
open Go.RowKit Pl

set_option maxRecDepth 100000 in
set_option maxHeartbeats 4000000 in
theorem tparent_any (v : Value) (l : List Tk) (i : Nat) (w : World) (h : Tracks w v l) (hi : i < l.length) (hl : l.length ≤ 1000000) :
    Calls Tryz.prog 38 #[v, .int .i64 i] w fun e w' => e = .returned (.int .i64 (parP l i)) ∧ Below w.heap.size w w' := by
  have HL := Lib.hid h
  obtain ⟨A, c, rfl, _⟩ := h
  obtain ⟨t, ht⟩ : ∃ t, l[i]? = some t := ⟨_, List.getElem?_eq_getElem hi⟩
  by_cases hp0 : t.par = 0
  · have HP : Hid (parP l i = -1) := Lib.hid (by simp [parP, ht, hp0])
    go_enter Tryz.func38, Tryz.ntmps38
    go_wp2
    go_loopw [5] (fun k wr => ∃ (j : Nat) (z : Int), j ≤ i ∧ z = (j : Int) - 1 ∧ k = .int .i64 z ∧ Hid (Below w.heap.size w wr)) (fun k _ => (intOf k + 1).toNat)
    case atStart => exact ⟨i, (i : Int) - 1, Nat.le_refl _, rfl, rfl, Lib.hid (Below.refl _ _)⟩
    case round =>
      obtain ⟨j, z, hj, hz, rfl, HB⟩ := hrel
      cases j with
      | zero =>
        obtain rfl : z = -1 := by omega
        clear hz hj
        go_wp2
        go_ret
        exact ⟨by rw [HP.out]; rfl, HB.out⟩
      | succ j =>
        obtain rfl : z = (j : Int) := by omega
        clear hz
        obtain ⟨b, off, rfl, hb, c0, c1, c2, c3, c4, c5, c6, c7, c8, c9⟩ := (HL.out.here HB.out).at ht
        rw [hp0] at c1
        go_wp2
        go_region
        go_wp2
        go_roundw
        case rel => exact ⟨j, (j : Int) - 1, by omega, rfl, by go_num, Lib.hid HB.out.drew⟩
        case measure => first | (simp [intOf]; done) | (simp [intOf]; omega)
  · have HP : Hid (parP l i = numAt l t.par i) := Lib.hid (by simp [parP, ht, hp0])
    have d0 : (t.par != 0) = true := by simpa using hp0
    go_enter Tryz.func38, Tryz.ntmps38
    go_wp2
    go_loopw [5] (fun k wr => ∃ (j : Nat) (z : Int), j ≤ i ∧ z = (j : Int) - 1 ∧ k = .int .i64 z ∧ Hid (numAt l t.par i = numAt l t.par j) ∧ Hid (Below w.heap.size w wr)) (fun k _ => (intOf k + 1).toNat)
    case atStart => exact ⟨i, (i : Int) - 1, Nat.le_refl _, rfl, rfl, Lib.hid rfl, Lib.hid (Below.refl _ _)⟩
    case round =>
      obtain ⟨j, z, hj, hz, rfl, HN, HB⟩ := hrel
      cases j with
      | zero =>
        obtain rfl : z = -1 := by omega
        clear hz hj
        go_wp2
        go_ret
        exact ⟨by rw [HP.out, HN.out]; rfl, HB.out⟩
      | succ j =>
        obtain rfl : z = (j : Int) := by omega
        clear hz
        obtain ⟨u, hu⟩ : ∃ u, l[j]? = some u := ⟨_, List.getElem?_eq_getElem (by omega)⟩
        have HLw := HL.out.here HB.out
        obtain ⟨b, off, rfl, hb, c0, c1, c2, c3, c4, c5, c6, c7, c8, c9⟩ := HLw.at ht
        obtain ⟨b', off', hA, -, e0, -⟩ := HLw.at hu
        injection hA with hA
        injection hA with hA1 hA2
        subst hA1 hA2
        clear HLw
        by_cases he : u.num = t.par
        · have HR : Hid (numAt l t.par (j + 1) = j) := Lib.hid (numAt_hit hu he)
          have d1 : (u.num == t.par) = true := by simpa using he
          go_wp2
          go_region
          go_wp2
          go_ret
          exact ⟨by rw [HP.out, HN.out, HR.out]; go_num, HB.out.drew⟩
        · have HR : Hid (numAt l t.par (j + 1) = numAt l t.par j) := Lib.hid (numAt_miss hu he)
          have d1 : (u.num == t.par) = false := by simpa using he
          go_wp2
          go_region
          go_wp2
          go_roundw
          case rel => exact ⟨j, (j : Int) - 1, by omega, rfl, by go_num, Lib.hid (by rw [HN.out, HR.out]), Lib.hid HB.out.drew⟩
          case measure => first | (simp [intOf]; done) | (simp [intOf]; omega)
end Go.Proofs.YtfnjojdiiklleaaGreat
namespace Go.Proofs.YtfnjojdiiklleaaGreat
open Go.RowKit Pl

set_option maxRecDepth 100000 in
set_option maxHeartbeats 4000000 in
theorem lparent_any (v : Value) (l : List Tk) (i : Nat) (w : World) (h : Tracks w v l) (hi : i < l.length) (hl : l.length ≤ 1000000) :
    Calls Tryz.prog 11 #[v, .int .i64 i] w fun e w' => e = .returned (.int .i64 (parP l i)) ∧ Below w.heap.size w w' := by
  have HL := Lib.hid h
  obtain ⟨A, c, rfl, _⟩ := h
  obtain ⟨t, ht⟩ : ∃ t, l[i]? = some t := ⟨_, List.getElem?_eq_getElem hi⟩
  by_cases hp0 : t.par = 0
  · have HP : Hid (parP l i = -1) := Lib.hid (by simp [parP, ht, hp0])
    go_enter Tryz.func11, Tryz.ntmps11
    go_wp2
    go_loopw [5, 6] (fun b k wr => ∃ j : Nat, j ≤ i ∧ k = .int .i64 j ∧ b = .int .i64 (-1) ∧ Hid (Below w.heap.size w wr)) (fun _ k _ => i - (intOf k).toNat)
    case atStart => exact ⟨0, Nat.zero_le _, rfl, rfl, Lib.hid (Below.refl _ _)⟩
    case round =>
      obtain ⟨j, hj, rfl, rfl, HB⟩ := hrel
      by_cases hlt : j < i
      · obtain ⟨b, off, rfl, hb, c0, c1, c2, c3, c4, c5, c6, c7, c8, c9⟩ := (HL.out.here HB.out).at ht
        rw [hp0] at c1
        go_wp2
        go_region
        go_wp2
        go_roundw
        case rel => exact ⟨j + 1, by omega, by go_num, rfl, Lib.hid HB.out.drew⟩
        case measure => first | (simp [intOf]; done) | (simp [intOf]; omega)
      · obtain rfl : j = i := by omega
        go_wp2
        go_ret
        exact ⟨by rw [HP.out]; rfl, HB.out⟩
  · have HP : Hid (parP l i = numAt l t.par i) := Lib.hid (by simp [parP, ht, hp0])
    have d0 : (t.par != 0) = true := by simpa using hp0
    go_enter Tryz.func11, Tryz.ntmps11
    go_wp2
    go_loopw [5, 6] (fun b k wr => ∃ (j : Nat) (z : Int), j ≤ i ∧ k = .int .i64 j ∧ b = .int .i64 z ∧ Hid (z = numAt l t.par j) ∧ Hid (Below w.heap.size w wr)) (fun _ k _ => i - (intOf k).toNat)
    case atStart => exact ⟨0, -1, Nat.zero_le _, rfl, rfl, Lib.hid rfl, Lib.hid (Below.refl _ _)⟩
    case round =>
      obtain ⟨j, z, hj, rfl, rfl, HN, HB⟩ := hrel
      by_cases hlt : j < i
      · obtain ⟨u, hu⟩ : ∃ u, l[j]? = some u := ⟨_, List.getElem?_eq_getElem (by omega)⟩
        have HLw := HL.out.here HB.out
        obtain ⟨b, off, rfl, hb, c0, c1, c2, c3, c4, c5, c6, c7, c8, c9⟩ := HLw.at ht
        obtain ⟨b', off', hA, -, e0, -⟩ := HLw.at hu
        injection hA with hA
        injection hA with hA1 hA2
        subst hA1 hA2
        clear HLw
        by_cases he : u.num = t.par
        · have HR : Hid (numAt l t.par (j + 1) = j) := Lib.hid (numAt_hit hu he)
          have d1 : (u.num == t.par) = true := by simpa using he
          go_wp2
          go_region
          go_wp2
          go_roundw
          case rel => exact ⟨j + 1, (j : Int), by omega, by go_num, rfl, Lib.hid HR.out.symm, Lib.hid HB.out.drew⟩
          case measure => first | (simp [intOf]; done) | (simp [intOf]; omega)
        · have HR : Hid (numAt l t.par (j + 1) = numAt l t.par j) := Lib.hid (numAt_miss hu he)
          have d1 : (u.num == t.par) = false := by simpa using he
          go_wp2
          go_region
          go_wp2
          go_roundw
          case rel => exact ⟨j + 1, z, by omega, by go_num, rfl, Lib.hid (by rw [HR.out]; exact HN.out), Lib.hid HB.out.drew⟩
          case measure => first | (simp [intOf]; done) | (simp [intOf]; omega)
      · obtain rfl : j = i := by omega
        go_wp2
        go_ret
        exact ⟨by rw [HP.out, ← HN.out]; rfl, HB.out⟩

set_option maxRecDepth 100000 in
set_option maxHeartbeats 4000000 in
theorem begins_any (v : Value) (l : List Tk) (i : Nat) (w : World) (h : Tracks w v l) (hi : i < l.length) (hl : l.length ≤ 1000000) :
    Calls Tryz.prog 15 #[v, .int .i64 i] w fun e w' => e = .returned (.bool (begP l i)) ∧ Below w.heap.size w w' := by
  have HL := Lib.hid h
  have HC := Lib.hid (tparent_any v l i w h hi hl)
  obtain ⟨A, c, rfl, _⟩ := h
  obtain ⟨t, ht⟩ : ∃ t, l[i]? = some t := ⟨_, List.getElem?_eq_getElem hi⟩
  obtain ⟨hp1, hp2⟩ := parP_lt l i
  by_cases hneg : parP l i < 0
  · have HP : Hid (begP l i = true) := Lib.hid (by simp [begP, ht, hneg])
    have HX : Hid (parP l i = -1) := Lib.hid (by omega)
    clear hneg hp1 hp2
    go_enter Tryz.func15, Tryz.ntmps15
    go_wp2_with (go_at_call 38; refine HC.out.mono ?_; rintro e w' ⟨rfl, hb⟩; rw [HX.out])
    go_ret
    exact ⟨by rw [HP.out]; rfl, hb⟩
  · obtain ⟨p, hp⟩ : ∃ p : Nat, parP l i = p := ⟨(parP l i).toNat, by omega⟩
    have hpl : p < l.length := by omega
    obtain ⟨u, hu⟩ : ∃ u, l[p]? = some u := ⟨_, List.getElem?_eq_getElem hpl⟩
    have HX := Lib.hid hp
    have HP : Hid (begP l i = (t.err && !u.err)) := Lib.hid (by
      have : ¬ ((p : Int) < 0) := by omega
      simp [begP, ht, hp, hu, this])
    clear hneg hp1 hp2 hp
    go_enter Tryz.func15, Tryz.ntmps15
    go_wp2_with (go_at_call 38; refine HC.out.mono ?_; rintro e w' ⟨rfl, hb⟩; rw [HX.out]; have HB := Lib.hid hb; clear hb; have HLw := Lib.hid (HL.out.here HB.out); obtain ⟨b, off, rfl, hb, c0, c1, c2, c3, c4, c5, c6, c7, c8, c9⟩ := HLw.out.at ht; obtain ⟨b', off', hA, -, e0, e1, e2, e3, e4, e5, e6, -⟩ := HLw.out.at hu; injection hA with hA; injection hA with hA1 hA2; subst hA1 hA2; clear e0 e1 e2 e3 e4 e5; generalize t.err = te at c6 HP; generalize u.err = ue at e6 HP; cases te <;> cases ue)
    all_goals (go_wp2; go_ret; exact ⟨by rw [HP.out]; rfl, HB.out⟩)
end Go.Proofs.YtfnjojdiiklleaaGreat
namespace Go.Proofs.YtfnjojdiiklleaaGreat
open Go.RowKit Pl

def cellsT (l : List Tk) : List Value := l.flatMap Tk.cells
theorem Tk.cells_len (t : Tk) : t.cells.length = 10 := rfl
theorem cellsT_len : ∀ l : List Tk, (cellsT l).length = l.length * 10
  | [] => rfl
  | t :: l => by
    have : cellsT (t :: l) = t.cells ++ cellsT l := rfl
    rw [this, List.length_append, cellsT_len l, Tk.cells_len, List.length_cons]; omega
theorem cellsT_append (l m : List Tk) : cellsT (l ++ m) = cellsT l ++ cellsT m := by simp [cellsT]
theorem cellsT_one (t : Tk) : cellsT [t] = t.cells := by simp [cellsT]
theorem cellsT_at : ∀ {l : List Tk} {j : Nat} {t : Tk}, l[j]? = some t → ∀ {k : Nat}, k < 10 → (cellsT l)[j * 10 + k]? = t.cells[k]?
  | [], j, t, h, _, _ => by simp at h
  | u :: l, 0, t, h, k, hk => by
    simp at h; subst h
    have : cellsT (u :: l) = u.cells ++ cellsT l := rfl
    rw [this, Nat.zero_mul, Nat.zero_add, List.getElem?_append_left (by rw [Tk.cells_len]; exact hk)]
  | u :: l, j + 1, t, h, k, hk => by
    have : cellsT (u :: l) = u.cells ++ cellsT l := rfl
    rw [this, List.getElem?_append_right (by rw [Tk.cells_len]; omega), Tk.cells_len, show (j + 1) * 10 + k - 10 = j * 10 + k by omega]
    exact cellsT_at (by simpa using h) hk
/-- A track's bytes' slice fills one cell. -/
def TkOk (t : Tk) : Prop := (Value.slice t.ba t.bn t.bc).oneCell' = true
theorem cellsT_oneCell {l : List Tk} (_ : ∀ t ∈ l, TkOk t) : ∀ u ∈ cellsT l, u.oneCell' = true := by
  intro u hu
  simp only [cellsT, List.mem_flatMap] at hu
  obtain ⟨t, _, hu⟩ := hu
  simp only [Tk.cells, List.mem_cons, List.not_mem_nil, or_false] at hu
  rcases hu with rfl | rfl | rfl | rfl | rfl | rfl | rfl | rfl | rfl | rfl <;> rfl
theorem addA (g i j : Nat) : ((⟨g, i, none⟩ : Addr).add j) = ⟨g, i + j, none⟩ := by unfold Addr.add; by_cases hj : j = 0 <;> simp [hj]
/-- The ten cells of a track, one by one. -/
theorem trackQ_iff {w : World} {b o : Nat} {t : Tk} : trackQ w b o t ↔ ∀ k, k < 10 → w.cell? ⟨b, o + k, none⟩ = t.cells[k]? := by
  constructor
  · rintro ⟨c0, c1, c2, c3, c4, c5, c6, c7, c8, c9⟩ k hk
    rcases (by omega : k = 0 ∨ k = 1 ∨ k = 2 ∨ k = 3 ∨ k = 4 ∨ k = 5 ∨ k = 6 ∨ k = 7 ∨ k = 8 ∨ k = 9) with rfl | rfl | rfl | rfl | rfl | rfl | rfl | rfl | rfl | rfl <;> assumption
  · intro h
    exact ⟨h 0 (by omega), h 1 (by omega), h 2 (by omega), h 3 (by omega), h 4 (by omega), h 5 (by omega), h 6 (by omega), h 7 (by omega), h 8 (by omega), h 9 (by omega)⟩
theorem Tracks.own {w : World} {base : Nat} {v : Value} {n : Nat} {l : List Tk} (h : w.ownsRow base 27 10 v n (cellsT l)) : Tracks w v l := by
  have hn : n = l.length := by have := h.1; rw [cellsT_len] at this; omega
  subst hn
  rcases h.2 with ⟨rfl, h0⟩ | ⟨g, cap, cur, rfl, hg, hh, hnc, _⟩
  · have h0' : l = [] := List.eq_nil_of_length_eq_zero h0
    subst h0'; exact ⟨none, 0, rfl, Nat.le_refl _, fun _ => rfl, fun h => absurd h (by simp)⟩
  · refine ⟨_, cap, rfl, hnc, (fun h => by cases h), fun hp => ⟨g, 0, rfl, (h.lt g rfl).2, fun j t ht => trackQ_iff.2 fun k hk => ?_⟩⟩
    have hlt : k < t.cells.length := by rw [Tk.cells_len]; exact hk
    have := h.cells (g := g) rfl (j * 10 + k) t.cells[k] (by rw [cellsT_at ht hk, List.getElem?_eq_getElem hlt])
    rw [addA] at this
    rw [List.getElem?_eq_getElem hlt, ← this, Nat.zero_add, Nat.zero_add]
/-- Its cells, all in a row. -/
theorem Tracks.news {w : World} {b off c : Nat} {l : List Tk} (h : Tracks w (.slice (some ⟨b, off, none⟩) l.length c) l) : ∀ j u, (cellsT l)[j]? = some u → w.cell? ((⟨b, off, none⟩ : Addr).add j) = some u := by
  intro j u hu
  have hlt : j < l.length * 10 := by have := (List.getElem?_eq_some_iff.1 hu).1; rwa [cellsT_len] at this
  obtain ⟨t, ht⟩ : ∃ t, l[j / 10]? = some t := ⟨_, List.getElem?_eq_getElem (by omega)⟩
  obtain ⟨b', o', hA, _, hq⟩ := h.at ht
  injection hA with hA
  injection hA with hA1 hA2
  subst hA1 hA2
  have hk : j % 10 < 10 := Nat.mod_lt _ (by decide)
  have e : j = j / 10 * 10 + j % 10 := by omega
  have h1 := cellsT_at ht hk
  rw [← e, hu] at h1
  rw [addA, h1, ← trackQ_iff.1 hq _ hk]
  congr 2; omega
theorem info_track : (Tryz.prog.info? 27).map (fun i => (i.zero, i.size, i.bytes)) = some (some (.agg #[.int .i64 0, .int .i64 0, .int .i64 0, .int .i64 0, .slice none 0 0, .int .i64 0, .bool false, .bool false, .bool false, .int .i64 0]), 10, 80) := by kernel_rfl
/-- 'append(a, b...)' of tracks, a the call's own. -/
theorem wpList_catT {ops : Array Oper} {rest : List Oper} {o : Oper} {a : Act} {Q : Exit → Act → World → Prop} {w0 : World} (hgd : o.guard = none) (s x : Operand)
    (ho : o.op = .call { callee := .builtin .append, args := #[s, x], argTypes := #[22, 22] }) (base : Nat) (v : Value) (l m : List Tk)
    (hs : a.eval s = v) (hown : w0.ownsRow base 27 10 v l.length (cellsT l)) {b off c : Nat} (hx : a.eval x = .slice (some ⟨b, off, none⟩) m.length c) (hm : Tracks w0 (.slice (some ⟨b, off, none⟩) m.length c) m) (hok : ∀ t ∈ m, TkOk t)
    (hlen : l.length + m.length ≤ 1000000) (hbase : base ≤ w0.heap.size)
    (h : ∀ v' w', w'.ownsRow base 27 10 v' (l ++ m).length (cellsT (l ++ m)) → w0.grownBy w' v.ownBlock → (v' = .slice none 0 0 ↔ v = .slice none 0 0 ∧ m.length = 0) → wpList Tryz.prog ops Q rest (a.put o.dst v') w') : wpList Tryz.prog ops Q (o :: rest) a w0 := by
  obtain ⟨i0, hi, hz0, hz1, hz2⟩ := info_parts info_track
  refine wpList_append_own _ hgd s x 22 ho base 27 i0 _ 10 80 Tryz.underlying22 hi hz0 hz1 hz2 rfl (by decide) v l.length (cellsT l) hs hown ⟨b, off, none⟩ m.length c (cellsT m) hx (cellsT_len m) hm.news (cellsT_oneCell hok) (by unfold maxLen; omega) (by omega) hbase ?_
  intro v' w' h1 h2 h3
  exact h v' w' (by rw [List.length_append, cellsT_append]; exact h1) h2 h3
set_option maxRecDepth 100000 in
set_option maxHeartbeats 1000000 in
theorem cloneT_any (v : Value) (l : List Tk) (w : World) (h : Tracks w v l) (hok : ∀ t ∈ l, TkOk t) (hl : l.length ≤ 1000000) :
    Calls Tryz.prog 37 #[v] w fun e w' => (∃ x, e = .returned x ∧ w'.ownsRow w.heap.size 27 10 x l.length (cellsT l)) ∧ Below w.heap.size w w' := by
  have HB := Lib.hid h
  obtain ⟨A, c, rfl, hc, hn, hA⟩ := h
  have heq := fun (w : World) (a : Option Addr) (n c : Nat) => Lib.run_eql_slice_nil (P := Tryz.prog) w 22 27 a n c 0 0 Tryz.underlying22
  cases A with
  | none =>
    have h0 : l = [] := List.eq_nil_of_length_eq_zero (by have := hn rfl; omega)
    subst h0
    go_enter Tryz.func37, Tryz.ntmps37
    go_wp2
    go_ret
    exact ⟨⟨_, rfl, World.ownsRow_nil _ _ _ _⟩, Below.refl _ _⟩
  | some a =>
    have HO : Hid ((w.alloc (.cells #[] 27)).ownsRow w.heap.size 27 10 (.slice (some ⟨w.heap.size, 0, none⟩) 0 0) 0 (cellsT [])) := Lib.hid ⟨rfl, .inr ⟨w.heap.size, 0, #[], rfl, Nat.le_refl _, heap_alloc_new _ _, Nat.le_refl _, by unfold maxLen; omega, rfl, rfl⟩⟩
    by_cases h0 : 0 < l.length
    · obtain ⟨b, off, hA', _, _⟩ := hA h0
      injection hA' with hA'
      subst hA'
      go_enter Tryz.func37, Tryz.ntmps37
      go_wp2_with (at_builtin; refine wpList_catT rfl (.tmp 5) (.tmp 6) rfl w.heap.size _ [] l rfl HO.out rfl (HB.out.here (bel_alloc (Below.refl _ w) _)) hok (by simpa using hl) (by simp) ?_)
      intro v' w2 hown2 hg _
      have hb2 := (bel_alloc (Below.refl _ w) (.cells #[] 27)).grown hg (by simp) fun g hg => (HO.out.lt g hg).1
      go_wp2
      go_ret
      exact ⟨⟨_, rfl, by simpa using hown2⟩, hb2⟩
    · have h1 : l = [] := List.eq_nil_of_length_eq_zero (by omega)
      subst h1
      obtain ⟨i0, hi, hz0, hz1, hz2⟩ := info_parts info_track
      go_enter Tryz.func37, Tryz.ntmps37
      go_wp2_with (at_builtin; refine wpList_append_own _ rfl (.tmp 5) (.tmp 6) 22 rfl w.heap.size 27 i0 _ 10 80 Tryz.underlying22 hi hz0 hz1 hz2 rfl (by decide) _ 0 [] rfl HO.out a 0 c [] rfl rfl (by simp) (by simp) (by decide) (by decide) (by simp) ?_)
      intro v' w2 hown2 hg _
      have hb2 := (bel_alloc (Below.refl _ w) (.cells #[] 27)).grown hg (by simp) fun g hg => (HO.out.lt g hg).1
      go_wp2
      go_ret
      exact ⟨⟨_, rfl, by simpa [cellsT] using hown2⟩, hb2⟩
end Go.Proofs.YtfnjojdiiklleaaGreat
namespace Go.Proofs.YtfnjojdiiklleaaGreat
open Go.RowKit Pl

theorem fwd_neg {l : List Tk} {i : Nat} {t : Tk} (ht : l[i]? = some t) (hp : parP l i < 0) : fwdP l i = false := by
  have : ¬ (0 ≤ parP l i) := by omega
  simp [fwdP, ht, this]
set_option maxRecDepth 100000 in
set_option maxHeartbeats 4000000 in
theorem forwarded_out (v : Value) (l : List Tk) (i : Int) (w : World) (h : Tracks w v l) (hi : i < 0 ∨ (l.length : Int) ≤ i) :
    Calls Tryz.prog 10 #[v, .int .i64 i] w fun e w' => e = .returned (.bool false) ∧ Below w.heap.size w w' := by
  obtain ⟨A, c, rfl, _⟩ := h
  by_cases h0 : i < 0
  · clear hi
    go_enter Tryz.func10, Tryz.ntmps10
    go_wp2
    go_ret
    exact ⟨rfl, Below.refl _ _⟩
  · have h1 : (l.length : Int) ≤ i := by omega
    clear hi
    go_enter Tryz.func10, Tryz.ntmps10
    go_wp2
    go_ret
    exact ⟨rfl, Below.refl _ _⟩
set_option maxRecDepth 100000 in
set_option maxHeartbeats 8000000 in
theorem forwarded_any (v : Value) (l : List Tk) (i : Nat) (w : World) (h : Tracks w v l) (hi : i < l.length) (hl : l.length ≤ 1000000) :
    Calls Tryz.prog 10 #[v, .int .i64 i] w fun e w' => e = .returned (.bool (fwdP l i)) ∧ Below w.heap.size w w' := by
  have HL := Lib.hid h
  have HC := Lib.hid fun (w' : World) (h' : Below w.heap.size w w') => tparent_any v l i w' (h.here h') hi hl
  obtain ⟨t, ht⟩ : ∃ t, l[i]? = some t := ⟨_, List.getElem?_eq_getElem hi⟩
  obtain ⟨hp1, hp2⟩ := parP_lt l i
  have HT := Lib.hid ht
  cases hloc : t.loc with
  | true =>
    have HF : Hid (fwdP l i = false) := Lib.hid (by simp [fwdP, ht, hloc])
    obtain ⟨A, c, rfl, _⟩ := id h
    obtain ⟨b, off, rfl, hb, c0, c1, c2, c3, c4, c5, c6, c7, c8, c9⟩ := h.at ht
    rw [hloc] at c8
    clear ht h hp1 hp2
    go_enter Tryz.func10, Tryz.ntmps10
    go_wp2
    go_ret
    exact ⟨by rw [HF.out]; rfl, Below.refl _ _⟩
  | false =>
    by_cases hneg : parP l i < 0
    · have HF : Hid (fwdP l i = false) := Lib.hid (fwd_neg ht hneg)
      have HX : Hid (parP l i = -1) := Lib.hid (by omega)
      obtain ⟨A, c, rfl, _⟩ := id h
      obtain ⟨b, off, rfl, hb, c0, c1, c2, c3, c4, c5, c6, c7, c8, c9⟩ := h.at ht
      rw [hloc] at c8
      clear ht h hp1 hp2 hneg
      go_enter Tryz.func10, Tryz.ntmps10
      go_wp2_with (go_at_call 38; refine (HC.out _ (Below.refl _ _)).mono ?_; rintro e w' ⟨rfl, hb'⟩; rw [HX.out]; have HB := Lib.hid hb'; clear hb')
      go_region
      go_wp2
      go_ret
      exact ⟨by rw [HF.out]; rfl, HB.out.drew⟩
    · obtain ⟨p, hp⟩ : ∃ p : Nat, parP l i = p := ⟨(parP l i).toNat, by omega⟩
      have hpl : p < l.length := by omega
      obtain ⟨u, hu⟩ : ∃ u, l[p]? = some u := ⟨_, List.getElem?_eq_getElem hpl⟩
      have HX := Lib.hid hp
      have HU := Lib.hid hu
      have HF : Hid (fwdP l i = (decide (0 ≤ parP l p) || u.node != t.node)) := Lib.hid (by
        have : (0 : Int) ≤ p := by omega
        simp [fwdP, ht, hp, hu, hloc])
      have HD := Lib.hid fun (w' : World) (h' : Below w.heap.size w w') => tparent_any v l p w' (h.here h') hpl hl
      obtain ⟨hq1, hq2⟩ := parP_lt l p
      obtain ⟨A, c, rfl, _⟩ := id h
      obtain ⟨b, off, rfl, hb, c0, c1, c2, c3, c4, c5, c6, c7, c8, c9⟩ := h.at ht
      rw [hloc] at c8
      by_cases hqn : parP l p < 0
      · have HQ : Hid (parP l p = -1) := Lib.hid (by omega)
        have HF2 : Hid (fwdP l i = (u.node != t.node)) := Lib.hid (by
          rw [HF.out, decide_eq_false (by omega)]; rfl)
        clear ht hu h hp1 hp2 hneg hp hq1 hq2 hqn
        cases hne : (u.node != t.node) with
        | true =>
          go_enter Tryz.func10, Tryz.ntmps10
          go_wp2_with (go_at_call 38; refine (HC.out _ (Below.refl _ _)).mono ?_; rintro e w1 ⟨rfl, hb'⟩; rw [HX.out]; have HB := Lib.hid hb'; clear hb'; obtain ⟨b2, off2, hA, hb2, d0, d1, d2, d3, d4, d5, d6, d7, d8, d9⟩ := (HL.out.here HB.out).at HT.out; obtain ⟨b3, off3, hA3, hb3, e0, e1, e2, -⟩ := (HL.out.here HB.out).at HU.out; injection hA with hA; injection hA with hA1 hA2; injection hA3 with hA3; injection hA3 with hA4 hA5; subst hA1 hA2 hA4 hA5; clear d0 d1 d3 d4 d5 d6 d7 d8 d9 e0 e1)
          have HE : Hid (∀ y : Ext w1, Calls Tryz.prog 38 #[.slice (some ⟨b, off, none⟩) l.length c, .int .i64 p] y.w fun e w' => e = .returned (.int .i64 (-1)) ∧ Below y.w.heap.size y.w w') := Lib.hid fun y => by
            have := HD.out y.w (HB.out.trans (y.below.mono HB.out.size))
            rw [HQ.out] at this; exact this
          refine wp_region_ext (by kernel_rfl) (by kernel_rfl) ?_
          repeat (go_big_quiet_step (first | (go_at_call 38; exact Ext.call (HE.out _))))
          refine wpQuiet_nil ?_
          rintro _ ⟨y, rfl⟩
          go_wp2
          go_ret
          exact ⟨by rw [HF2.out, hne]; rfl, HB.out.trans (y.below.mono HB.out.size)⟩
        | false =>
          go_enter Tryz.func10, Tryz.ntmps10
          go_wp2_with (go_at_call 38; refine (HC.out _ (Below.refl _ _)).mono ?_; rintro e w1 ⟨rfl, hb'⟩; rw [HX.out]; have HB := Lib.hid hb'; clear hb'; obtain ⟨b2, off2, hA, hb2, d0, d1, d2, d3, d4, d5, d6, d7, d8, d9⟩ := (HL.out.here HB.out).at HT.out; obtain ⟨b3, off3, hA3, hb3, e0, e1, e2, -⟩ := (HL.out.here HB.out).at HU.out; injection hA with hA; injection hA with hA1 hA2; injection hA3 with hA3; injection hA3 with hA4 hA5; subst hA1 hA2 hA4 hA5; clear d0 d1 d3 d4 d5 d6 d7 d8 d9 e0 e1)
          have HE : Hid (∀ y : Ext w1, Calls Tryz.prog 38 #[.slice (some ⟨b, off, none⟩) l.length c, .int .i64 p] y.w fun e w' => e = .returned (.int .i64 (-1)) ∧ Below y.w.heap.size y.w w') := Lib.hid fun y => by
            have := HD.out y.w (HB.out.trans (y.below.mono HB.out.size))
            rw [HQ.out] at this; exact this
          refine wp_region_ext (by kernel_rfl) (by kernel_rfl) ?_
          repeat (go_big_quiet_step (first | (go_at_call 38; exact Ext.call (HE.out _))))
          refine wpQuiet_nil ?_
          rintro _ ⟨y, rfl⟩
          go_wp2
          go_ret
          exact ⟨by rw [HF2.out, hne]; rfl, HB.out.trans (y.below.mono HB.out.size)⟩
      · obtain ⟨q, hq⟩ : ∃ q : Nat, parP l p = q := ⟨(parP l p).toNat, by omega⟩
        have HQ := Lib.hid hq
        have HF2 : Hid (fwdP l i = true) := Lib.hid (by
          rw [HF.out, decide_eq_true (by omega)]; rfl)
        clear ht hu h hp1 hp2 hneg hp hq1 hq2 hqn hq
        · go_enter Tryz.func10, Tryz.ntmps10
          go_wp2_with (go_at_call 38; refine (HC.out _ (Below.refl _ _)).mono ?_; rintro e w1 ⟨rfl, hb'⟩; rw [HX.out]; have HB := Lib.hid hb'; clear hb'; obtain ⟨b2, off2, hA, hb2, d0, d1, d2, d3, d4, d5, d6, d7, d8, d9⟩ := (HL.out.here HB.out).at HT.out; obtain ⟨b3, off3, hA3, hb3, e0, e1, e2, -⟩ := (HL.out.here HB.out).at HU.out; injection hA with hA; injection hA with hA1 hA2; injection hA3 with hA3; injection hA3 with hA4 hA5; subst hA1 hA2 hA4 hA5; clear d0 d1 d3 d4 d5 d6 d7 d8 d9 e0 e1)
          have HE : Hid (∀ y : Ext w1, Calls Tryz.prog 38 #[.slice (some ⟨b, off, none⟩) l.length c, .int .i64 p] y.w fun e w' => e = .returned (.int .i64 (q : Int)) ∧ Below y.w.heap.size y.w w') := Lib.hid fun y => by
            have := HD.out y.w (HB.out.trans (y.below.mono HB.out.size))
            rw [HQ.out] at this; exact this
          refine wp_region_ext (by kernel_rfl) (by kernel_rfl) ?_
          repeat (go_big_quiet_step (first | (go_at_call 38; exact Ext.call (HE.out _))))
          refine wpQuiet_nil ?_
          rintro _ ⟨y, rfl⟩
          go_wp2
          go_ret
          exact ⟨by rw [HF2.out]; rfl, HB.out.trans (y.below.mono HB.out.size)⟩
end Go.Proofs.YtfnjojdiiklleaaGreat
