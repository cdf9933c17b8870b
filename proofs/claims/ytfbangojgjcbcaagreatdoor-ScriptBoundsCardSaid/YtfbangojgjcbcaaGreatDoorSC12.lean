/- Part 12 of the proof: ActH. -/
import Derived.Test.YtfbangojgjcbcaaGreatDoorSC11
namespace Go.Proofs.YtfbangojgjcbcaaGreatDoor
open Go.RowKit Pl
def UnAny (l : List UInt8) (base : Nat) (e : Ending) (w' : World) : Prop := ∃ A n c er, e = .returned (.tuple #[.slice A n c, .int .i64 er]) ∧ w'.ownsRow base 5 1 (.slice A n c) (unhexD l).length (cellsB (unhexD l))
theorem unhexC (l : List UInt8) (w : World) (hl : l.length ≤ 1000000) :
    Calls Tryz.prog 145 #[.string (str l)] w fun e w' => UnAny l w.heap.size e w' ∧ Below w.heap.size w w' := by
  refine (unhex_any l w hl).mono fun e w' ⟨h, hb⟩ => ⟨?_, hb⟩
  rcases h with ⟨m, v, h1, h2, h3⟩ | ⟨h1, h2⟩
  · obtain ⟨A, c, rfl, -⟩ := Bs.own h3
    exact ⟨A, _, c, 0, h2, by unfold unhexD; rw [h1]; exact h3⟩
  · exact ⟨none, 0, 0, 4, h2, by unfold unhexD; rw [h1]; exact World.ownsRow_nil _ _ _ _⟩
theorem own_far {w : World} {base size n : Nat} {e : TypeId} {v : Value} {xs : List Value} (h : w.ownsRow base e size v n xs) {b : Nat} (hb : b < base) (i : Nat) (u : Value) : (w.setCell ⟨b, i, none⟩ u).ownsRow base e size v n xs :=
  h.kept (grown_set w b i u) (by
    cases hv : v.ownBlock with
    | none => exact .inl rfl
    | some g => exact .inr (by have := (h.lt g hv).1; simp; omega))
theorem u8_byteI (n : Int) : IntKind.u8.wrap n = ((byteI n).toNat : Int) := by
  rw [IntKind.wrap_u8]
  unfold byteI
  simp
  omega
/-- The slice lies from a block on. -/
def BlkFrom (base : Nat) (v : Value) : Prop := ∀ b o n c, v = .slice (some ⟨b, o, none⟩) n c → base ≤ b
theorem BlkFrom.nil (base : Nat) : BlkFrom base (.slice none 0 0) := fun _ _ _ _ h => by injection h with h; cases h
theorem BlkFrom.own {w : World} {base B size n : Nat} {e : TypeId} {v : Value} {xs : List Value} (h : w.ownsRow B e size v n xs) (hB : base ≤ B) : BlkFrom base v := fun b o n c hv => by
  subst hv
  have := (h.lt b rfl).1
  omega
theorem Bs.far {w : World} {v : Value} {l : List UInt8} {base b : Nat} (h : Bs w v l) (hf : BlkFrom base v) (hb : b < base) (i : Nat) (u : Value) : Bs (w.setCell ⟨b, i, none⟩ u) v l := by
  obtain ⟨A, c, rfl, hc, hn, hA⟩ := h
  refine ⟨A, c, rfl, hc, hn, fun hp => ?_⟩
  obtain ⟨b', off, rfl, hb', hcell⟩ := hA hp
  have := hf _ _ _ _ rfl
  refine ⟨b', off, rfl, by rw [size_setCell]; exact hb', fun j u' hu => ?_⟩
  rw [sc_other (fun e => by injection e; omega)]
  exact hcell j u' hu
def GuessRes (a : ActP) (base : Nat) (e : Ending) (w' : World) : Prop := ∃ bv, e = .returned (actV a bv) ∧ Bs w' bv a.bytes ∧ BlkFrom base bv
theorem set9 {w W : World} {b : Nat} (h : Below w.heap.size w W) (hb : w.heap.size ≤ b) (v0 v1 v2 v3 v4 v5 v6 v7 v8 : Value) : Below w.heap.size w (((((((((W.setCell ⟨b, 0, none⟩ v0).setCell ⟨b, 1, none⟩ v1).setCell ⟨b, 2, none⟩ v2).setCell ⟨b, 3, none⟩ v3).setCell ⟨b, 4, none⟩ v4).setCell ⟨b, 5, none⟩ v5).setCell ⟨b, 6, none⟩ v6).setCell ⟨b, 7, none⟩ v7).setCell ⟨b, 8, none⟩ v8) :=
  ((((((((h.setCell (p := ⟨b, 0, none⟩) hb _).setCell (p := ⟨b, 1, none⟩) hb _).setCell (p := ⟨b, 2, none⟩) hb _).setCell (p := ⟨b, 3, none⟩) hb _).setCell (p := ⟨b, 4, none⟩) hb _).setCell (p := ⟨b, 5, none⟩) hb _).setCell (p := ⟨b, 6, none⟩) hb _).setCell (p := ⟨b, 7, none⟩) hb _).setCell (p := ⟨b, 8, none⟩) hb _
set_option maxRecDepth 100000 in
set_option maxHeartbeats 4000000 in
theorem guess_1 (g n c : Nat) (ws : List (List UInt8)) (w : World) (h : Wds w g n c ws) (h5 : 5 ≤ ws.length) (hlen : ∀ x ∈ ws, x.length ≤ 1000000) (hn : n ≤ 1000000000) (E : Env w) :
    Calls Tryz.prog 84 #[.int .i64 1, .slice (some ⟨g, 0, none⟩) n c] w fun e w' => GuessRes (guessA numC 1 ws) w.heap.size e w' ∧ Below w.heap.size w w' := by
  obtain ⟨W0, hW0⟩ : ∃ W0, (w.alloc (.cells #[.slice (some ⟨g, 0, none⟩) n c] 40)).alloc (.cells #[.int .i64 0, .int .i64 0, .int .i64 0, .int .i64 0, .int .i64 0, .bool false, .int .u8 0, .bool false, .slice none 0 0] 51) = W0 := ⟨_, rfl⟩
  have HB0 : Hid (Below w.heap.size w W0) := Lib.hid (by rw [← hW0]; exact ((Below.refl _ _).alloc (Nat.le_refl _) _).alloc (by simp) _)
  have HX : Hid (Whole W0 w.heap.size 40 #[.slice (some ⟨g, 0, none⟩) n c]) := Lib.hid (by rw [← hW0]; exact (Whole.new w _ _).alloc _)
  have HR : Hid (Whole W0 (w.heap.size + 1) 51 #[.int .i64 0, .int .i64 0, .int .i64 0, .int .i64 0, .int .i64 0, .bool false, .int .u8 0, .bool false, .slice none 0 0]) := Lib.hid (by
    rw [← hW0]
    have := Whole.new (w.alloc (.cells #[.slice (some ⟨g, 0, none⟩) n c] 40)) 51 #[.int .i64 0, .int .i64 0, .int .i64 0, .int .i64 0, .int .i64 0, .bool false, .int .u8 0, .bool false, .slice none 0 0]
    simpa using this)
  have HWD := Lib.hid (h.here HB0.out)
  have HW0 := Lib.hid hW0
  have E0 := Lib.hid (E.here HB0.out)
  have HLN := Lib.hid hlen
  have h5n : 5 ≤ n := by have := h.len; omega
  have hnc : n ≤ c := by have := h.len; have := h.cap; omega
  have hs0 : W0.heap.size = w.heap.size + 2 := by rw [← hW0]; simp
  obtain ⟨x2, hx2⟩ : ∃ x, ws[2]? = some x := ⟨_, List.getElem?_eq_getElem (by omega)⟩
  have hwd2 : wd ws 2 = x2 := by unfold wd; rw [List.getD_eq_getElem?_getD, hx2]; rfl
  have c2 : W0.cell? ⟨g, 2, none⟩ = some (.string (str x2)) := HWD.out.at_ 2 _ hx2
  have xb : W0.cell? ⟨w.heap.size, 0, none⟩ = some (.slice (some ⟨g, 0, none⟩) n c) := HX.out.cell 0
  have hg0 : g < W0.heap.size := HWD.out.lt
  have HU := Lib.hid (unhexC x2 W0 (hlen x2 (List.mem_of_getElem? hx2)))
  have HN1 : Hid (∀ (i : Nat), i < 5 → ∀ W, Below W0.heap.size W0 W → Calls Tryz.prog 144 #[.int .i64 i, .pointer (some ⟨w.heap.size, 0, none⟩)] W fun e w' => e = .returned (.int .i64 (numC (wd ws i))) ∧ Below W.heap.size W w') :=
    Lib.hid (fun i hi W hb => guess1_any i w.heap.size g n c ws W (HWD.out.here hb) ((hb.cell (p := ⟨w.heap.size, 0, none⟩) (by show w.heap.size < _; omega)).trans (HX.out.cell 0)) (by omega) HLN.out hn (E0.out.here hb))
  have HX2 := Lib.hid hx2
  have HWD2 := Lib.hid hwd2
  clear hW0 h E hlen hx2 hwd2
  go_enter Tryz.func84, Tryz.ntmps84
  go_upto_region 1 with fail
  rw [HW0.out]
  go_wp2_with fail
  refine HU.out.mono ?_
  rintro e W1 ⟨⟨A2, m2, c2', er, rfl, hbu⟩, hb1⟩
  have c2w : W1.cell? ⟨g, 2, none⟩ = some (.string (str x2)) := (hb1.cell (p := ⟨g, 2, none⟩) hg0).trans c2
  have xbw : W1.cell? ⟨w.heap.size, 0, none⟩ = some (.slice (some ⟨g, 0, none⟩) n c) := (hb1.cell (p := ⟨w.heap.size, 0, none⟩) (by show w.heap.size < _; omega)).trans xb
  have HBU := Lib.hid hbu
  have HB1 := Lib.hid hb1
  have hs1 := hb1.size
  clear hbu hb1 c2
  go_wp2_with fail
  refine (ext_of (HN1.out 1 (by omega) W1 HB1.out)).mono ?_
  rintro e w' ⟨rfl, y1, rfl⟩
  go_wp2_with fail
  refine (Ext.call (HN1.out 1 (by omega) y1.w (HB1.out.trans (y1.below.mono HB1.out.size)))).mono ?_
  rintro e w' ⟨rfl, y2, rfl⟩
  have N1 := Lib.hid (numC_in (wd ws 1))
  obtain ⟨W2, hW2⟩ : ∃ W2, y2.w.alloc (.cells #[.int .i64 1, .int .i64 (numC (wd ws 1)), .int .i64 0, .int .i64 0, .int .i64 (numC (wd ws 1)), .bool false, .int .u8 0, .bool false, .slice none 0 0] 51) = W2 := ⟨_, rfl⟩
  have HPW2 : Hid (Whole W2 y2.w.heap.size 51 #[.int .i64 1, .int .i64 (numC (wd ws 1)), .int .i64 0, .int .i64 0, .int .i64 (numC (wd ws 1)), .bool false, .int .u8 0, .bool false, .slice none 0 0]) := Lib.hid (by rw [← hW2]; exact Whole.new _ _ _)
  have hyb := HB1.out.trans (y2.below.mono HB1.out.size)
  have HBW2 : Hid (Below W0.heap.size W0 W2) := Lib.hid (by rw [← hW2]; exact hyb.alloc hyb.size _)
  have HW2 := Lib.hid hW2
  clear hW2 hyb
  have HBA : Hid (Calls Tryz.prog 77 #[.agg #[.int .i64 1, .int .i64 (numC (wd ws 1)), .int .i64 0, .int .i64 0, .int .i64 (numC (wd ws 1)), .bool false, .int .u8 0, .bool false, .slice none 0 0]] W2 fun e w' => e = .returned (.agg #[.int .i64 1, .int .i64 (numC (wd ws 1)), .int .i64 0, .int .i64 0, .int .i64 0, .bool false, .int .u8 0, .bool false, .slice none 0 0]) ∧ Below W2.heap.size W2 w') := Lib.hid (by
    have := bare_any ⟨1,  (numC (wd ws 1)),  0,  0,  (numC (wd ws 1)), false, 0, false, []⟩ (.slice none 0 0) W2 ⟨by show (1 : Int) ≤ 1; decide, by show (1 : Int) ≤ 9; decide⟩ (Bs.nil _)
    exact this)
  have HRc := Lib.hid (HR.out.here HBW2.out)
  have Hv := HPW2.out
  have v0 : W2.cell? ⟨y2.w.heap.size, 0, none⟩ = some (.int .i64 1) := Hv.cell 0
  have v1 : W2.cell? ⟨y2.w.heap.size, 1, none⟩ = some (.int .i64 (numC (wd ws 1))) := Hv.cell 1
  have v2 : W2.cell? ⟨y2.w.heap.size, 2, none⟩ = some (.int .i64 0) := Hv.cell 2
  have v3 : W2.cell? ⟨y2.w.heap.size, 3, none⟩ = some (.int .i64 0) := Hv.cell 3
  have v4 : W2.cell? ⟨y2.w.heap.size, 4, none⟩ = some (.int .i64 (numC (wd ws 1))) := Hv.cell 4
  have v5 : W2.cell? ⟨y2.w.heap.size, 5, none⟩ = some (.bool false) := Hv.cell 5
  have v6 : W2.cell? ⟨y2.w.heap.size, 6, none⟩ = some (.int .u8 0) := Hv.cell 6
  have v7 : W2.cell? ⟨y2.w.heap.size, 7, none⟩ = some (.bool false) := Hv.cell 7
  have v8 : W2.cell? ⟨y2.w.heap.size, 8, none⟩ = some (.slice none 0 0) := Hv.cell 8
  have hltv := Hv.lt
  clear Hv
  go_upto_region 13 with fail
  rw [HW2.out]
  go_wp2_with fail
  refine HBA.out.mono ?_
  rintro e w5 ⟨rfl, hb5⟩
  have Hz := HRc.out.here hb5
  have z0 : w5.cell? ⟨w.heap.size + 1, 0, none⟩ = some (.int .i64 0) := Hz.cell 0
  have fz0 : w5.frozen? ⟨w.heap.size + 1, 0, none⟩ = false := Hz.frozen 0
  have z1 : w5.cell? ⟨w.heap.size + 1, 1, none⟩ = some (.int .i64 0) := Hz.cell 1
  have fz1 : w5.frozen? ⟨w.heap.size + 1, 1, none⟩ = false := Hz.frozen 1
  have z2 : w5.cell? ⟨w.heap.size + 1, 2, none⟩ = some (.int .i64 0) := Hz.cell 2
  have fz2 : w5.frozen? ⟨w.heap.size + 1, 2, none⟩ = false := Hz.frozen 2
  have z3 : w5.cell? ⟨w.heap.size + 1, 3, none⟩ = some (.int .i64 0) := Hz.cell 3
  have fz3 : w5.frozen? ⟨w.heap.size + 1, 3, none⟩ = false := Hz.frozen 3
  have z4 : w5.cell? ⟨w.heap.size + 1, 4, none⟩ = some (.int .i64 0) := Hz.cell 4
  have fz4 : w5.frozen? ⟨w.heap.size + 1, 4, none⟩ = false := Hz.frozen 4
  have z5 : w5.cell? ⟨w.heap.size + 1, 5, none⟩ = some (.bool false) := Hz.cell 5
  have fz5 : w5.frozen? ⟨w.heap.size + 1, 5, none⟩ = false := Hz.frozen 5
  have z6 : w5.cell? ⟨w.heap.size + 1, 6, none⟩ = some (.int .u8 0) := Hz.cell 6
  have fz6 : w5.frozen? ⟨w.heap.size + 1, 6, none⟩ = false := Hz.frozen 6
  have z7 : w5.cell? ⟨w.heap.size + 1, 7, none⟩ = some (.bool false) := Hz.cell 7
  have fz7 : w5.frozen? ⟨w.heap.size + 1, 7, none⟩ = false := Hz.frozen 7
  have z8 : w5.cell? ⟨w.heap.size + 1, 8, none⟩ = some (.slice none 0 0) := Hz.cell 8
  have fz8 : w5.frozen? ⟨w.heap.size + 1, 8, none⟩ = false := Hz.frozen 8
  have hltz : w.heap.size + 1 < w5.heap.size := Hz.lt
  have HB5 : Hid (Below w.heap.size w w5) := Lib.hid ((HB0.out.trans (HBW2.out.mono HB0.out.size)).trans (hb5.mono (by have := HBW2.out.size; omega)))
  have HB5' := Lib.hid hb5
  clear hb5 Hz
  go_wp2
  exact bodyPost_ret (v := .agg #[.int .i64 1, .int .i64 (numC (wd ws 1)), .int .i64 0, .int .i64 0, .int .i64 0, .bool false, .int .u8 0, .bool false, .slice none 0 0]) (by simp [results, Tryz.results84, go_sem, z0, z1, z2, z3, z4, z5, z6, z7, z8]) rfl ⟨⟨.slice none 0 0, rfl, Bs.nil _, BlkFrom.nil _⟩, set9 HB5.out (by omega) _ _ _ _ _ _ _ _ _⟩
set_option maxRecDepth 100000 in
set_option maxHeartbeats 4000000 in
theorem guess_2 (g n c : Nat) (ws : List (List UInt8)) (w : World) (h : Wds w g n c ws) (h5 : 5 ≤ ws.length) (hlen : ∀ x ∈ ws, x.length ≤ 1000000) (hn : n ≤ 1000000000) (E : Env w) :
    Calls Tryz.prog 84 #[.int .i64 2, .slice (some ⟨g, 0, none⟩) n c] w fun e w' => GuessRes (guessA numC 2 ws) w.heap.size e w' ∧ Below w.heap.size w w' := by
  obtain ⟨W0, hW0⟩ : ∃ W0, (w.alloc (.cells #[.slice (some ⟨g, 0, none⟩) n c] 40)).alloc (.cells #[.int .i64 0, .int .i64 0, .int .i64 0, .int .i64 0, .int .i64 0, .bool false, .int .u8 0, .bool false, .slice none 0 0] 51) = W0 := ⟨_, rfl⟩
  have HB0 : Hid (Below w.heap.size w W0) := Lib.hid (by rw [← hW0]; exact ((Below.refl _ _).alloc (Nat.le_refl _) _).alloc (by simp) _)
  have HX : Hid (Whole W0 w.heap.size 40 #[.slice (some ⟨g, 0, none⟩) n c]) := Lib.hid (by rw [← hW0]; exact (Whole.new w _ _).alloc _)
  have HR : Hid (Whole W0 (w.heap.size + 1) 51 #[.int .i64 0, .int .i64 0, .int .i64 0, .int .i64 0, .int .i64 0, .bool false, .int .u8 0, .bool false, .slice none 0 0]) := Lib.hid (by
    rw [← hW0]
    have := Whole.new (w.alloc (.cells #[.slice (some ⟨g, 0, none⟩) n c] 40)) 51 #[.int .i64 0, .int .i64 0, .int .i64 0, .int .i64 0, .int .i64 0, .bool false, .int .u8 0, .bool false, .slice none 0 0]
    simpa using this)
  have HWD := Lib.hid (h.here HB0.out)
  have HW0 := Lib.hid hW0
  have E0 := Lib.hid (E.here HB0.out)
  have HLN := Lib.hid hlen
  have h5n : 5 ≤ n := by have := h.len; omega
  have hnc : n ≤ c := by have := h.len; have := h.cap; omega
  have hs0 : W0.heap.size = w.heap.size + 2 := by rw [← hW0]; simp
  obtain ⟨x2, hx2⟩ : ∃ x, ws[2]? = some x := ⟨_, List.getElem?_eq_getElem (by omega)⟩
  have hwd2 : wd ws 2 = x2 := by unfold wd; rw [List.getD_eq_getElem?_getD, hx2]; rfl
  have c2 : W0.cell? ⟨g, 2, none⟩ = some (.string (str x2)) := HWD.out.at_ 2 _ hx2
  have xb : W0.cell? ⟨w.heap.size, 0, none⟩ = some (.slice (some ⟨g, 0, none⟩) n c) := HX.out.cell 0
  have hg0 : g < W0.heap.size := HWD.out.lt
  have HU := Lib.hid (unhexC x2 W0 (hlen x2 (List.mem_of_getElem? hx2)))
  have HN1 : Hid (∀ (i : Nat), i < 5 → ∀ W, Below W0.heap.size W0 W → Calls Tryz.prog 144 #[.int .i64 i, .pointer (some ⟨w.heap.size, 0, none⟩)] W fun e w' => e = .returned (.int .i64 (numC (wd ws i))) ∧ Below W.heap.size W w') :=
    Lib.hid (fun i hi W hb => guess1_any i w.heap.size g n c ws W (HWD.out.here hb) ((hb.cell (p := ⟨w.heap.size, 0, none⟩) (by show w.heap.size < _; omega)).trans (HX.out.cell 0)) (by omega) HLN.out hn (E0.out.here hb))
  have HX2 := Lib.hid hx2
  have HWD2 := Lib.hid hwd2
  clear hW0 h E hlen hx2 hwd2
  go_enter Tryz.func84, Tryz.ntmps84
  go_upto_region 1 with fail
  rw [HW0.out]
  go_wp2_with fail
  refine HU.out.mono ?_
  rintro e W1 ⟨⟨A2, m2, c2', er, rfl, hbu⟩, hb1⟩
  have c2w : W1.cell? ⟨g, 2, none⟩ = some (.string (str x2)) := (hb1.cell (p := ⟨g, 2, none⟩) hg0).trans c2
  have xbw : W1.cell? ⟨w.heap.size, 0, none⟩ = some (.slice (some ⟨g, 0, none⟩) n c) := (hb1.cell (p := ⟨w.heap.size, 0, none⟩) (by show w.heap.size < _; omega)).trans xb
  have HBU := Lib.hid hbu
  have HB1 := Lib.hid hb1
  have hs1 := hb1.size
  clear hbu hb1 c2
  go_wp2_with fail
  refine (ext_of (HN1.out 1 (by omega) W1 HB1.out)).mono ?_
  rintro e w' ⟨rfl, y1, rfl⟩
  go_wp2_with fail
  refine (Ext.call (HN1.out 1 (by omega) y1.w (HB1.out.trans (y1.below.mono HB1.out.size)))).mono ?_
  rintro e w' ⟨rfl, y2, rfl⟩
  have N1 := Lib.hid (numC_in (wd ws 1))
  obtain ⟨W2, hW2⟩ : ∃ W2, y2.w.alloc (.cells #[.int .i64 2, .int .i64 (numC (wd ws 1)), .int .i64 0, .int .i64 0, .int .i64 (numC (wd ws 1)), .bool false, .int .u8 0, .bool false, .slice none 0 0] 51) = W2 := ⟨_, rfl⟩
  have HPW2 : Hid (Whole W2 y2.w.heap.size 51 #[.int .i64 2, .int .i64 (numC (wd ws 1)), .int .i64 0, .int .i64 0, .int .i64 (numC (wd ws 1)), .bool false, .int .u8 0, .bool false, .slice none 0 0]) := Lib.hid (by rw [← hW2]; exact Whole.new _ _ _)
  have hyb := HB1.out.trans (y2.below.mono HB1.out.size)
  have HBW2 : Hid (Below W0.heap.size W0 W2) := Lib.hid (by rw [← hW2]; exact hyb.alloc hyb.size _)
  have HW2 := Lib.hid hW2
  clear hW2 hyb
  have HBA : Hid (Calls Tryz.prog 77 #[.agg #[.int .i64 2, .int .i64 (numC (wd ws 1)), .int .i64 0, .int .i64 0, .int .i64 (numC (wd ws 1)), .bool false, .int .u8 0, .bool false, .slice none 0 0]] W2 fun e w' => e = .returned (.agg #[.int .i64 2, .int .i64 0, .int .i64 0, .int .i64 0, .int .i64 (numC (wd ws 1)), .bool false, .int .u8 0, .bool false, .slice none 0 0]) ∧ Below W2.heap.size W2 w') := Lib.hid (by
    have := bare_any ⟨2,  (numC (wd ws 1)),  0,  0,  (numC (wd ws 1)), false, 0, false, []⟩ (.slice none 0 0) W2 ⟨by show (1 : Int) ≤ 2; decide, by show (2 : Int) ≤ 9; decide⟩ (Bs.nil _)
    exact this)
  have HRc := Lib.hid (HR.out.here HBW2.out)
  have Hv := HPW2.out
  have v0 : W2.cell? ⟨y2.w.heap.size, 0, none⟩ = some (.int .i64 2) := Hv.cell 0
  have v1 : W2.cell? ⟨y2.w.heap.size, 1, none⟩ = some (.int .i64 (numC (wd ws 1))) := Hv.cell 1
  have v2 : W2.cell? ⟨y2.w.heap.size, 2, none⟩ = some (.int .i64 0) := Hv.cell 2
  have v3 : W2.cell? ⟨y2.w.heap.size, 3, none⟩ = some (.int .i64 0) := Hv.cell 3
  have v4 : W2.cell? ⟨y2.w.heap.size, 4, none⟩ = some (.int .i64 (numC (wd ws 1))) := Hv.cell 4
  have v5 : W2.cell? ⟨y2.w.heap.size, 5, none⟩ = some (.bool false) := Hv.cell 5
  have v6 : W2.cell? ⟨y2.w.heap.size, 6, none⟩ = some (.int .u8 0) := Hv.cell 6
  have v7 : W2.cell? ⟨y2.w.heap.size, 7, none⟩ = some (.bool false) := Hv.cell 7
  have v8 : W2.cell? ⟨y2.w.heap.size, 8, none⟩ = some (.slice none 0 0) := Hv.cell 8
  have hltv := Hv.lt
  clear Hv
  go_upto_region 13 with fail
  rw [HW2.out]
  go_wp2_with fail
  refine HBA.out.mono ?_
  rintro e w5 ⟨rfl, hb5⟩
  have Hz := HRc.out.here hb5
  have z0 : w5.cell? ⟨w.heap.size + 1, 0, none⟩ = some (.int .i64 0) := Hz.cell 0
  have fz0 : w5.frozen? ⟨w.heap.size + 1, 0, none⟩ = false := Hz.frozen 0
  have z1 : w5.cell? ⟨w.heap.size + 1, 1, none⟩ = some (.int .i64 0) := Hz.cell 1
  have fz1 : w5.frozen? ⟨w.heap.size + 1, 1, none⟩ = false := Hz.frozen 1
  have z2 : w5.cell? ⟨w.heap.size + 1, 2, none⟩ = some (.int .i64 0) := Hz.cell 2
  have fz2 : w5.frozen? ⟨w.heap.size + 1, 2, none⟩ = false := Hz.frozen 2
  have z3 : w5.cell? ⟨w.heap.size + 1, 3, none⟩ = some (.int .i64 0) := Hz.cell 3
  have fz3 : w5.frozen? ⟨w.heap.size + 1, 3, none⟩ = false := Hz.frozen 3
  have z4 : w5.cell? ⟨w.heap.size + 1, 4, none⟩ = some (.int .i64 0) := Hz.cell 4
  have fz4 : w5.frozen? ⟨w.heap.size + 1, 4, none⟩ = false := Hz.frozen 4
  have z5 : w5.cell? ⟨w.heap.size + 1, 5, none⟩ = some (.bool false) := Hz.cell 5
  have fz5 : w5.frozen? ⟨w.heap.size + 1, 5, none⟩ = false := Hz.frozen 5
  have z6 : w5.cell? ⟨w.heap.size + 1, 6, none⟩ = some (.int .u8 0) := Hz.cell 6
  have fz6 : w5.frozen? ⟨w.heap.size + 1, 6, none⟩ = false := Hz.frozen 6
  have z7 : w5.cell? ⟨w.heap.size + 1, 7, none⟩ = some (.bool false) := Hz.cell 7
  have fz7 : w5.frozen? ⟨w.heap.size + 1, 7, none⟩ = false := Hz.frozen 7
  have z8 : w5.cell? ⟨w.heap.size + 1, 8, none⟩ = some (.slice none 0 0) := Hz.cell 8
  have fz8 : w5.frozen? ⟨w.heap.size + 1, 8, none⟩ = false := Hz.frozen 8
  have hltz : w.heap.size + 1 < w5.heap.size := Hz.lt
  have HB5 : Hid (Below w.heap.size w w5) := Lib.hid ((HB0.out.trans (HBW2.out.mono HB0.out.size)).trans (hb5.mono (by have := HBW2.out.size; omega)))
  have HB5' := Lib.hid hb5
  clear hb5 Hz
  go_wp2
  exact bodyPost_ret (v := .agg #[.int .i64 2, .int .i64 0, .int .i64 0, .int .i64 0, .int .i64 (numC (wd ws 1)), .bool false, .int .u8 0, .bool false, .slice none 0 0]) (by simp [results, Tryz.results84, go_sem, z0, z1, z2, z3, z4, z5, z6, z7, z8]) rfl ⟨⟨.slice none 0 0, rfl, Bs.nil _, BlkFrom.nil _⟩, set9 HB5.out (by omega) _ _ _ _ _ _ _ _ _⟩
set_option maxRecDepth 100000 in
set_option maxHeartbeats 4000000 in
theorem guess_3 (g n c : Nat) (ws : List (List UInt8)) (w : World) (h : Wds w g n c ws) (h5 : 5 ≤ ws.length) (hlen : ∀ x ∈ ws, x.length ≤ 1000000) (hn : n ≤ 1000000000) (E : Env w) :
    Calls Tryz.prog 84 #[.int .i64 3, .slice (some ⟨g, 0, none⟩) n c] w fun e w' => GuessRes (guessA numC 3 ws) w.heap.size e w' ∧ Below w.heap.size w w' := by
  obtain ⟨W0, hW0⟩ : ∃ W0, (w.alloc (.cells #[.slice (some ⟨g, 0, none⟩) n c] 40)).alloc (.cells #[.int .i64 0, .int .i64 0, .int .i64 0, .int .i64 0, .int .i64 0, .bool false, .int .u8 0, .bool false, .slice none 0 0] 51) = W0 := ⟨_, rfl⟩
  have HB0 : Hid (Below w.heap.size w W0) := Lib.hid (by rw [← hW0]; exact ((Below.refl _ _).alloc (Nat.le_refl _) _).alloc (by simp) _)
  have HX : Hid (Whole W0 w.heap.size 40 #[.slice (some ⟨g, 0, none⟩) n c]) := Lib.hid (by rw [← hW0]; exact (Whole.new w _ _).alloc _)
  have HR : Hid (Whole W0 (w.heap.size + 1) 51 #[.int .i64 0, .int .i64 0, .int .i64 0, .int .i64 0, .int .i64 0, .bool false, .int .u8 0, .bool false, .slice none 0 0]) := Lib.hid (by
    rw [← hW0]
    have := Whole.new (w.alloc (.cells #[.slice (some ⟨g, 0, none⟩) n c] 40)) 51 #[.int .i64 0, .int .i64 0, .int .i64 0, .int .i64 0, .int .i64 0, .bool false, .int .u8 0, .bool false, .slice none 0 0]
    simpa using this)
  have HWD := Lib.hid (h.here HB0.out)
  have HW0 := Lib.hid hW0
  have E0 := Lib.hid (E.here HB0.out)
  have HLN := Lib.hid hlen
  have h5n : 5 ≤ n := by have := h.len; omega
  have hnc : n ≤ c := by have := h.len; have := h.cap; omega
  have hs0 : W0.heap.size = w.heap.size + 2 := by rw [← hW0]; simp
  obtain ⟨x2, hx2⟩ : ∃ x, ws[2]? = some x := ⟨_, List.getElem?_eq_getElem (by omega)⟩
  have hwd2 : wd ws 2 = x2 := by unfold wd; rw [List.getD_eq_getElem?_getD, hx2]; rfl
  have c2 : W0.cell? ⟨g, 2, none⟩ = some (.string (str x2)) := HWD.out.at_ 2 _ hx2
  have xb : W0.cell? ⟨w.heap.size, 0, none⟩ = some (.slice (some ⟨g, 0, none⟩) n c) := HX.out.cell 0
  have hg0 : g < W0.heap.size := HWD.out.lt
  have HU := Lib.hid (unhexC x2 W0 (hlen x2 (List.mem_of_getElem? hx2)))
  have HN1 : Hid (∀ (i : Nat), i < 5 → ∀ W, Below W0.heap.size W0 W → Calls Tryz.prog 144 #[.int .i64 i, .pointer (some ⟨w.heap.size, 0, none⟩)] W fun e w' => e = .returned (.int .i64 (numC (wd ws i))) ∧ Below W.heap.size W w') :=
    Lib.hid (fun i hi W hb => guess1_any i w.heap.size g n c ws W (HWD.out.here hb) ((hb.cell (p := ⟨w.heap.size, 0, none⟩) (by show w.heap.size < _; omega)).trans (HX.out.cell 0)) (by omega) HLN.out hn (E0.out.here hb))
  have HX2 := Lib.hid hx2
  have HWD2 := Lib.hid hwd2
  clear hW0 h E hlen hx2 hwd2
  go_enter Tryz.func84, Tryz.ntmps84
  go_upto_region 1 with fail
  rw [HW0.out]
  go_wp2_with fail
  refine HU.out.mono ?_
  rintro e W1 ⟨⟨A2, m2, c2', er, rfl, hbu⟩, hb1⟩
  have c2w : W1.cell? ⟨g, 2, none⟩ = some (.string (str x2)) := (hb1.cell (p := ⟨g, 2, none⟩) hg0).trans c2
  have xbw : W1.cell? ⟨w.heap.size, 0, none⟩ = some (.slice (some ⟨g, 0, none⟩) n c) := (hb1.cell (p := ⟨w.heap.size, 0, none⟩) (by show w.heap.size < _; omega)).trans xb
  have HBU := Lib.hid hbu
  have HB1 := Lib.hid hb1
  have hs1 := hb1.size
  clear hbu hb1 c2
  go_wp2_with fail
  refine (ext_of (HN1.out 1 (by omega) W1 HB1.out)).mono ?_
  rintro e w' ⟨rfl, y1, rfl⟩
  go_wp2_with fail
  refine (Ext.call (HN1.out 1 (by omega) y1.w (HB1.out.trans (y1.below.mono HB1.out.size)))).mono ?_
  rintro e w' ⟨rfl, y2, rfl⟩
  have N1 := Lib.hid (numC_in (wd ws 1))
  obtain ⟨W2, hW2⟩ : ∃ W2, y2.w.alloc (.cells #[.int .i64 3, .int .i64 (numC (wd ws 1)), .int .i64 0, .int .i64 0, .int .i64 (numC (wd ws 1)), .bool false, .int .u8 0, .bool false, .slice none 0 0] 51) = W2 := ⟨_, rfl⟩
  have HPW2 : Hid (Whole W2 y2.w.heap.size 51 #[.int .i64 3, .int .i64 (numC (wd ws 1)), .int .i64 0, .int .i64 0, .int .i64 (numC (wd ws 1)), .bool false, .int .u8 0, .bool false, .slice none 0 0]) := Lib.hid (by rw [← hW2]; exact Whole.new _ _ _)
  have hyb := HB1.out.trans (y2.below.mono HB1.out.size)
  have HBW2 : Hid (Below W0.heap.size W0 W2) := Lib.hid (by rw [← hW2]; exact hyb.alloc hyb.size _)
  have HW2 := Lib.hid hW2
  clear hW2 hyb
  have HBA : Hid (Calls Tryz.prog 77 #[.agg #[.int .i64 3, .int .i64 (numC (wd ws 1)), .int .i64 0, .int .i64 0, .int .i64 (numC (wd ws 1)), .bool false, .int .u8 0, .bool false, .slice none 0 0]] W2 fun e w' => e = .returned (.agg #[.int .i64 3, .int .i64 0, .int .i64 0, .int .i64 0, .int .i64 (numC (wd ws 1)), .bool false, .int .u8 0, .bool false, .slice none 0 0]) ∧ Below W2.heap.size W2 w') := Lib.hid (by
    have := bare_any ⟨3,  (numC (wd ws 1)),  0,  0,  (numC (wd ws 1)), false, 0, false, []⟩ (.slice none 0 0) W2 ⟨by show (1 : Int) ≤ 3; decide, by show (3 : Int) ≤ 9; decide⟩ (Bs.nil _)
    exact this)
  have HRc := Lib.hid (HR.out.here HBW2.out)
  have Hv := HPW2.out
  have v0 : W2.cell? ⟨y2.w.heap.size, 0, none⟩ = some (.int .i64 3) := Hv.cell 0
  have v1 : W2.cell? ⟨y2.w.heap.size, 1, none⟩ = some (.int .i64 (numC (wd ws 1))) := Hv.cell 1
  have v2 : W2.cell? ⟨y2.w.heap.size, 2, none⟩ = some (.int .i64 0) := Hv.cell 2
  have v3 : W2.cell? ⟨y2.w.heap.size, 3, none⟩ = some (.int .i64 0) := Hv.cell 3
  have v4 : W2.cell? ⟨y2.w.heap.size, 4, none⟩ = some (.int .i64 (numC (wd ws 1))) := Hv.cell 4
  have v5 : W2.cell? ⟨y2.w.heap.size, 5, none⟩ = some (.bool false) := Hv.cell 5
  have v6 : W2.cell? ⟨y2.w.heap.size, 6, none⟩ = some (.int .u8 0) := Hv.cell 6
  have v7 : W2.cell? ⟨y2.w.heap.size, 7, none⟩ = some (.bool false) := Hv.cell 7
  have v8 : W2.cell? ⟨y2.w.heap.size, 8, none⟩ = some (.slice none 0 0) := Hv.cell 8
  have hltv := Hv.lt
  clear Hv
  go_upto_region 13 with fail
  rw [HW2.out]
  go_wp2_with fail
  refine HBA.out.mono ?_
  rintro e w5 ⟨rfl, hb5⟩
  have Hz := HRc.out.here hb5
  have z0 : w5.cell? ⟨w.heap.size + 1, 0, none⟩ = some (.int .i64 0) := Hz.cell 0
  have fz0 : w5.frozen? ⟨w.heap.size + 1, 0, none⟩ = false := Hz.frozen 0
  have z1 : w5.cell? ⟨w.heap.size + 1, 1, none⟩ = some (.int .i64 0) := Hz.cell 1
  have fz1 : w5.frozen? ⟨w.heap.size + 1, 1, none⟩ = false := Hz.frozen 1
  have z2 : w5.cell? ⟨w.heap.size + 1, 2, none⟩ = some (.int .i64 0) := Hz.cell 2
  have fz2 : w5.frozen? ⟨w.heap.size + 1, 2, none⟩ = false := Hz.frozen 2
  have z3 : w5.cell? ⟨w.heap.size + 1, 3, none⟩ = some (.int .i64 0) := Hz.cell 3
  have fz3 : w5.frozen? ⟨w.heap.size + 1, 3, none⟩ = false := Hz.frozen 3
  have z4 : w5.cell? ⟨w.heap.size + 1, 4, none⟩ = some (.int .i64 0) := Hz.cell 4
  have fz4 : w5.frozen? ⟨w.heap.size + 1, 4, none⟩ = false := Hz.frozen 4
  have z5 : w5.cell? ⟨w.heap.size + 1, 5, none⟩ = some (.bool false) := Hz.cell 5
  have fz5 : w5.frozen? ⟨w.heap.size + 1, 5, none⟩ = false := Hz.frozen 5
  have z6 : w5.cell? ⟨w.heap.size + 1, 6, none⟩ = some (.int .u8 0) := Hz.cell 6
  have fz6 : w5.frozen? ⟨w.heap.size + 1, 6, none⟩ = false := Hz.frozen 6
  have z7 : w5.cell? ⟨w.heap.size + 1, 7, none⟩ = some (.bool false) := Hz.cell 7
  have fz7 : w5.frozen? ⟨w.heap.size + 1, 7, none⟩ = false := Hz.frozen 7
  have z8 : w5.cell? ⟨w.heap.size + 1, 8, none⟩ = some (.slice none 0 0) := Hz.cell 8
  have fz8 : w5.frozen? ⟨w.heap.size + 1, 8, none⟩ = false := Hz.frozen 8
  have hltz : w.heap.size + 1 < w5.heap.size := Hz.lt
  have HB5 : Hid (Below w.heap.size w w5) := Lib.hid ((HB0.out.trans (HBW2.out.mono HB0.out.size)).trans (hb5.mono (by have := HBW2.out.size; omega)))
  have HB5' := Lib.hid hb5
  clear hb5 Hz
  go_wp2
  exact bodyPost_ret (v := .agg #[.int .i64 3, .int .i64 0, .int .i64 0, .int .i64 0, .int .i64 (numC (wd ws 1)), .bool false, .int .u8 0, .bool false, .slice none 0 0]) (by simp [results, Tryz.results84, go_sem, z0, z1, z2, z3, z4, z5, z6, z7, z8]) rfl ⟨⟨.slice none 0 0, rfl, Bs.nil _, BlkFrom.nil _⟩, set9 HB5.out (by omega) _ _ _ _ _ _ _ _ _⟩
set_option maxRecDepth 100000 in
set_option maxHeartbeats 4000000 in
theorem guess_4 (g n c : Nat) (ws : List (List UInt8)) (w : World) (h : Wds w g n c ws) (h5 : 5 ≤ ws.length) (hlen : ∀ x ∈ ws, x.length ≤ 1000000) (hn : n ≤ 1000000000) (E : Env w) :
    Calls Tryz.prog 84 #[.int .i64 4, .slice (some ⟨g, 0, none⟩) n c] w fun e w' => GuessRes (guessA numC 4 ws) w.heap.size e w' ∧ Below w.heap.size w w' := by
  obtain ⟨W0, hW0⟩ : ∃ W0, (w.alloc (.cells #[.slice (some ⟨g, 0, none⟩) n c] 40)).alloc (.cells #[.int .i64 0, .int .i64 0, .int .i64 0, .int .i64 0, .int .i64 0, .bool false, .int .u8 0, .bool false, .slice none 0 0] 51) = W0 := ⟨_, rfl⟩
  have HB0 : Hid (Below w.heap.size w W0) := Lib.hid (by rw [← hW0]; exact ((Below.refl _ _).alloc (Nat.le_refl _) _).alloc (by simp) _)
  have HX : Hid (Whole W0 w.heap.size 40 #[.slice (some ⟨g, 0, none⟩) n c]) := Lib.hid (by rw [← hW0]; exact (Whole.new w _ _).alloc _)
  have HR : Hid (Whole W0 (w.heap.size + 1) 51 #[.int .i64 0, .int .i64 0, .int .i64 0, .int .i64 0, .int .i64 0, .bool false, .int .u8 0, .bool false, .slice none 0 0]) := Lib.hid (by
    rw [← hW0]
    have := Whole.new (w.alloc (.cells #[.slice (some ⟨g, 0, none⟩) n c] 40)) 51 #[.int .i64 0, .int .i64 0, .int .i64 0, .int .i64 0, .int .i64 0, .bool false, .int .u8 0, .bool false, .slice none 0 0]
    simpa using this)
  have HWD := Lib.hid (h.here HB0.out)
  have HW0 := Lib.hid hW0
  have E0 := Lib.hid (E.here HB0.out)
  have HLN := Lib.hid hlen
  have h5n : 5 ≤ n := by have := h.len; omega
  have hnc : n ≤ c := by have := h.len; have := h.cap; omega
  have hs0 : W0.heap.size = w.heap.size + 2 := by rw [← hW0]; simp
  obtain ⟨x2, hx2⟩ : ∃ x, ws[2]? = some x := ⟨_, List.getElem?_eq_getElem (by omega)⟩
  have hwd2 : wd ws 2 = x2 := by unfold wd; rw [List.getD_eq_getElem?_getD, hx2]; rfl
  have c2 : W0.cell? ⟨g, 2, none⟩ = some (.string (str x2)) := HWD.out.at_ 2 _ hx2
  have xb : W0.cell? ⟨w.heap.size, 0, none⟩ = some (.slice (some ⟨g, 0, none⟩) n c) := HX.out.cell 0
  have hg0 : g < W0.heap.size := HWD.out.lt
  have HU := Lib.hid (unhexC x2 W0 (hlen x2 (List.mem_of_getElem? hx2)))
  have HN1 : Hid (∀ (i : Nat), i < 5 → ∀ W, Below W0.heap.size W0 W → Calls Tryz.prog 144 #[.int .i64 i, .pointer (some ⟨w.heap.size, 0, none⟩)] W fun e w' => e = .returned (.int .i64 (numC (wd ws i))) ∧ Below W.heap.size W w') :=
    Lib.hid (fun i hi W hb => guess1_any i w.heap.size g n c ws W (HWD.out.here hb) ((hb.cell (p := ⟨w.heap.size, 0, none⟩) (by show w.heap.size < _; omega)).trans (HX.out.cell 0)) (by omega) HLN.out hn (E0.out.here hb))
  have HX2 := Lib.hid hx2
  have HWD2 := Lib.hid hwd2
  clear hW0 h E hlen hx2 hwd2
  go_enter Tryz.func84, Tryz.ntmps84
  go_upto_region 1 with fail
  rw [HW0.out]
  go_wp2_with fail
  refine HU.out.mono ?_
  rintro e W1 ⟨⟨A2, m2, c2', er, rfl, hbu⟩, hb1⟩
  have c2w : W1.cell? ⟨g, 2, none⟩ = some (.string (str x2)) := (hb1.cell (p := ⟨g, 2, none⟩) hg0).trans c2
  have xbw : W1.cell? ⟨w.heap.size, 0, none⟩ = some (.slice (some ⟨g, 0, none⟩) n c) := (hb1.cell (p := ⟨w.heap.size, 0, none⟩) (by show w.heap.size < _; omega)).trans xb
  have HBU := Lib.hid hbu
  have HB1 := Lib.hid hb1
  have hs1 := hb1.size
  clear hbu hb1 c2
  go_wp2_with fail
  refine (ext_of (HN1.out 1 (by omega) W1 HB1.out)).mono ?_
  rintro e w' ⟨rfl, y1, rfl⟩
  go_wp2_with fail
  refine (Ext.call (HN1.out 1 (by omega) y1.w (HB1.out.trans (y1.below.mono HB1.out.size)))).mono ?_
  rintro e w' ⟨rfl, y2, rfl⟩
  have N1 := Lib.hid (numC_in (wd ws 1))
  obtain ⟨W2, hW2⟩ : ∃ W2, y2.w.alloc (.cells #[.int .i64 4, .int .i64 (numC (wd ws 1)), .int .i64 0, .int .i64 0, .int .i64 (numC (wd ws 1)), .bool false, .int .u8 0, .bool false, .slice none 0 0] 51) = W2 := ⟨_, rfl⟩
  have HPW2 : Hid (Whole W2 y2.w.heap.size 51 #[.int .i64 4, .int .i64 (numC (wd ws 1)), .int .i64 0, .int .i64 0, .int .i64 (numC (wd ws 1)), .bool false, .int .u8 0, .bool false, .slice none 0 0]) := Lib.hid (by rw [← hW2]; exact Whole.new _ _ _)
  have hyb := HB1.out.trans (y2.below.mono HB1.out.size)
  have HBW2 : Hid (Below W0.heap.size W0 W2) := Lib.hid (by rw [← hW2]; exact hyb.alloc hyb.size _)
  have HW2 := Lib.hid hW2
  clear hW2 hyb
  have HBA : Hid (Calls Tryz.prog 77 #[.agg #[.int .i64 4, .int .i64 (numC (wd ws 1)), .int .i64 0, .int .i64 0, .int .i64 (numC (wd ws 1)), .bool false, .int .u8 0, .bool false, .slice none 0 0]] W2 fun e w' => e = .returned (.agg #[.int .i64 4, .int .i64 0, .int .i64 0, .int .i64 0, .int .i64 (numC (wd ws 1)), .bool false, .int .u8 0, .bool false, .slice none 0 0]) ∧ Below W2.heap.size W2 w') := Lib.hid (by
    have := bare_any ⟨4,  (numC (wd ws 1)),  0,  0,  (numC (wd ws 1)), false, 0, false, []⟩ (.slice none 0 0) W2 ⟨by show (1 : Int) ≤ 4; decide, by show (4 : Int) ≤ 9; decide⟩ (Bs.nil _)
    exact this)
  have HRc := Lib.hid (HR.out.here HBW2.out)
  have Hv := HPW2.out
  have v0 : W2.cell? ⟨y2.w.heap.size, 0, none⟩ = some (.int .i64 4) := Hv.cell 0
  have v1 : W2.cell? ⟨y2.w.heap.size, 1, none⟩ = some (.int .i64 (numC (wd ws 1))) := Hv.cell 1
  have v2 : W2.cell? ⟨y2.w.heap.size, 2, none⟩ = some (.int .i64 0) := Hv.cell 2
  have v3 : W2.cell? ⟨y2.w.heap.size, 3, none⟩ = some (.int .i64 0) := Hv.cell 3
  have v4 : W2.cell? ⟨y2.w.heap.size, 4, none⟩ = some (.int .i64 (numC (wd ws 1))) := Hv.cell 4
  have v5 : W2.cell? ⟨y2.w.heap.size, 5, none⟩ = some (.bool false) := Hv.cell 5
  have v6 : W2.cell? ⟨y2.w.heap.size, 6, none⟩ = some (.int .u8 0) := Hv.cell 6
  have v7 : W2.cell? ⟨y2.w.heap.size, 7, none⟩ = some (.bool false) := Hv.cell 7
  have v8 : W2.cell? ⟨y2.w.heap.size, 8, none⟩ = some (.slice none 0 0) := Hv.cell 8
  have hltv := Hv.lt
  clear Hv
  go_upto_region 13 with fail
  rw [HW2.out]
  go_wp2_with fail
  refine HBA.out.mono ?_
  rintro e w5 ⟨rfl, hb5⟩
  have Hz := HRc.out.here hb5
  have z0 : w5.cell? ⟨w.heap.size + 1, 0, none⟩ = some (.int .i64 0) := Hz.cell 0
  have fz0 : w5.frozen? ⟨w.heap.size + 1, 0, none⟩ = false := Hz.frozen 0
  have z1 : w5.cell? ⟨w.heap.size + 1, 1, none⟩ = some (.int .i64 0) := Hz.cell 1
  have fz1 : w5.frozen? ⟨w.heap.size + 1, 1, none⟩ = false := Hz.frozen 1
  have z2 : w5.cell? ⟨w.heap.size + 1, 2, none⟩ = some (.int .i64 0) := Hz.cell 2
  have fz2 : w5.frozen? ⟨w.heap.size + 1, 2, none⟩ = false := Hz.frozen 2
  have z3 : w5.cell? ⟨w.heap.size + 1, 3, none⟩ = some (.int .i64 0) := Hz.cell 3
  have fz3 : w5.frozen? ⟨w.heap.size + 1, 3, none⟩ = false := Hz.frozen 3
  have z4 : w5.cell? ⟨w.heap.size + 1, 4, none⟩ = some (.int .i64 0) := Hz.cell 4
  have fz4 : w5.frozen? ⟨w.heap.size + 1, 4, none⟩ = false := Hz.frozen 4
  have z5 : w5.cell? ⟨w.heap.size + 1, 5, none⟩ = some (.bool false) := Hz.cell 5
  have fz5 : w5.frozen? ⟨w.heap.size + 1, 5, none⟩ = false := Hz.frozen 5
  have z6 : w5.cell? ⟨w.heap.size + 1, 6, none⟩ = some (.int .u8 0) := Hz.cell 6
  have fz6 : w5.frozen? ⟨w.heap.size + 1, 6, none⟩ = false := Hz.frozen 6
  have z7 : w5.cell? ⟨w.heap.size + 1, 7, none⟩ = some (.bool false) := Hz.cell 7
  have fz7 : w5.frozen? ⟨w.heap.size + 1, 7, none⟩ = false := Hz.frozen 7
  have z8 : w5.cell? ⟨w.heap.size + 1, 8, none⟩ = some (.slice none 0 0) := Hz.cell 8
  have fz8 : w5.frozen? ⟨w.heap.size + 1, 8, none⟩ = false := Hz.frozen 8
  have hltz : w.heap.size + 1 < w5.heap.size := Hz.lt
  have HB5 : Hid (Below w.heap.size w w5) := Lib.hid ((HB0.out.trans (HBW2.out.mono HB0.out.size)).trans (hb5.mono (by have := HBW2.out.size; omega)))
  have HB5' := Lib.hid hb5
  clear hb5 Hz
  go_wp2
  exact bodyPost_ret (v := .agg #[.int .i64 4, .int .i64 0, .int .i64 0, .int .i64 0, .int .i64 (numC (wd ws 1)), .bool false, .int .u8 0, .bool false, .slice none 0 0]) (by simp [results, Tryz.results84, go_sem, z0, z1, z2, z3, z4, z5, z6, z7, z8]) rfl ⟨⟨.slice none 0 0, rfl, Bs.nil _, BlkFrom.nil _⟩, set9 HB5.out (by omega) _ _ _ _ _ _ _ _ _⟩
set_option maxRecDepth 100000 in
set_option maxHeartbeats 4000000 in
theorem guess_7 (g n c : Nat) (ws : List (List UInt8)) (w : World) (h : Wds w g n c ws) (h5 : 5 ≤ ws.length) (hlen : ∀ x ∈ ws, x.length ≤ 1000000) (hn : n ≤ 1000000000) (E : Env w) :
    Calls Tryz.prog 84 #[.int .i64 7, .slice (some ⟨g, 0, none⟩) n c] w fun e w' => GuessRes (guessA numC 7 ws) w.heap.size e w' ∧ Below w.heap.size w w' := by
  obtain ⟨W0, hW0⟩ : ∃ W0, (w.alloc (.cells #[.slice (some ⟨g, 0, none⟩) n c] 40)).alloc (.cells #[.int .i64 0, .int .i64 0, .int .i64 0, .int .i64 0, .int .i64 0, .bool false, .int .u8 0, .bool false, .slice none 0 0] 51) = W0 := ⟨_, rfl⟩
  have HB0 : Hid (Below w.heap.size w W0) := Lib.hid (by rw [← hW0]; exact ((Below.refl _ _).alloc (Nat.le_refl _) _).alloc (by simp) _)
  have HX : Hid (Whole W0 w.heap.size 40 #[.slice (some ⟨g, 0, none⟩) n c]) := Lib.hid (by rw [← hW0]; exact (Whole.new w _ _).alloc _)
  have HR : Hid (Whole W0 (w.heap.size + 1) 51 #[.int .i64 0, .int .i64 0, .int .i64 0, .int .i64 0, .int .i64 0, .bool false, .int .u8 0, .bool false, .slice none 0 0]) := Lib.hid (by
    rw [← hW0]
    have := Whole.new (w.alloc (.cells #[.slice (some ⟨g, 0, none⟩) n c] 40)) 51 #[.int .i64 0, .int .i64 0, .int .i64 0, .int .i64 0, .int .i64 0, .bool false, .int .u8 0, .bool false, .slice none 0 0]
    simpa using this)
  have HWD := Lib.hid (h.here HB0.out)
  have HW0 := Lib.hid hW0
  have E0 := Lib.hid (E.here HB0.out)
  have HLN := Lib.hid hlen
  have h5n : 5 ≤ n := by have := h.len; omega
  have hnc : n ≤ c := by have := h.len; have := h.cap; omega
  have hs0 : W0.heap.size = w.heap.size + 2 := by rw [← hW0]; simp
  obtain ⟨x2, hx2⟩ : ∃ x, ws[2]? = some x := ⟨_, List.getElem?_eq_getElem (by omega)⟩
  have hwd2 : wd ws 2 = x2 := by unfold wd; rw [List.getD_eq_getElem?_getD, hx2]; rfl
  have c2 : W0.cell? ⟨g, 2, none⟩ = some (.string (str x2)) := HWD.out.at_ 2 _ hx2
  have xb : W0.cell? ⟨w.heap.size, 0, none⟩ = some (.slice (some ⟨g, 0, none⟩) n c) := HX.out.cell 0
  have hg0 : g < W0.heap.size := HWD.out.lt
  have HU := Lib.hid (unhexC x2 W0 (hlen x2 (List.mem_of_getElem? hx2)))
  have HN1 : Hid (∀ (i : Nat), i < 5 → ∀ W, Below W0.heap.size W0 W → Calls Tryz.prog 144 #[.int .i64 i, .pointer (some ⟨w.heap.size, 0, none⟩)] W fun e w' => e = .returned (.int .i64 (numC (wd ws i))) ∧ Below W.heap.size W w') :=
    Lib.hid (fun i hi W hb => guess1_any i w.heap.size g n c ws W (HWD.out.here hb) ((hb.cell (p := ⟨w.heap.size, 0, none⟩) (by show w.heap.size < _; omega)).trans (HX.out.cell 0)) (by omega) HLN.out hn (E0.out.here hb))
  have HX2 := Lib.hid hx2
  have HWD2 := Lib.hid hwd2
  clear hW0 h E hlen hx2 hwd2
  go_enter Tryz.func84, Tryz.ntmps84
  go_upto_region 1 with fail
  rw [HW0.out]
  go_wp2_with fail
  refine HU.out.mono ?_
  rintro e W1 ⟨⟨A2, m2, c2', er, rfl, hbu⟩, hb1⟩
  have c2w : W1.cell? ⟨g, 2, none⟩ = some (.string (str x2)) := (hb1.cell (p := ⟨g, 2, none⟩) hg0).trans c2
  have xbw : W1.cell? ⟨w.heap.size, 0, none⟩ = some (.slice (some ⟨g, 0, none⟩) n c) := (hb1.cell (p := ⟨w.heap.size, 0, none⟩) (by show w.heap.size < _; omega)).trans xb
  have HBU := Lib.hid hbu
  have HB1 := Lib.hid hb1
  have hs1 := hb1.size
  clear hbu hb1 c2
  go_wp2_with fail
  refine (ext_of (HN1.out 1 (by omega) W1 HB1.out)).mono ?_
  rintro e w' ⟨rfl, y1, rfl⟩
  go_wp2_with fail
  refine (Ext.call (HN1.out 1 (by omega) y1.w (HB1.out.trans (y1.below.mono HB1.out.size)))).mono ?_
  rintro e w' ⟨rfl, y2, rfl⟩
  have N1 := Lib.hid (numC_in (wd ws 1))
  obtain ⟨W2, hW2⟩ : ∃ W2, y2.w.alloc (.cells #[.int .i64 7, .int .i64 (numC (wd ws 1)), .int .i64 0, .int .i64 0, .int .i64 (numC (wd ws 1)), .bool false, .int .u8 0, .bool false, .slice none 0 0] 51) = W2 := ⟨_, rfl⟩
  have HPW2 : Hid (Whole W2 y2.w.heap.size 51 #[.int .i64 7, .int .i64 (numC (wd ws 1)), .int .i64 0, .int .i64 0, .int .i64 (numC (wd ws 1)), .bool false, .int .u8 0, .bool false, .slice none 0 0]) := Lib.hid (by rw [← hW2]; exact Whole.new _ _ _)
  have hyb := HB1.out.trans (y2.below.mono HB1.out.size)
  have HBW2 : Hid (Below W0.heap.size W0 W2) := Lib.hid (by rw [← hW2]; exact hyb.alloc hyb.size _)
  have HW2 := Lib.hid hW2
  clear hW2 hyb
  have HBA : Hid (Calls Tryz.prog 77 #[.agg #[.int .i64 7, .int .i64 (numC (wd ws 1)), .int .i64 0, .int .i64 0, .int .i64 (numC (wd ws 1)), .bool false, .int .u8 0, .bool false, .slice none 0 0]] W2 fun e w' => e = .returned (.agg #[.int .i64 7, .int .i64 (numC (wd ws 1)), .int .i64 0, .int .i64 0, .int .i64 0, .bool false, .int .u8 0, .bool false, .slice none 0 0]) ∧ Below W2.heap.size W2 w') := Lib.hid (by
    have := bare_any ⟨7,  (numC (wd ws 1)),  0,  0,  (numC (wd ws 1)), false, 0, false, []⟩ (.slice none 0 0) W2 ⟨by show (1 : Int) ≤ 7; decide, by show (7 : Int) ≤ 9; decide⟩ (Bs.nil _)
    exact this)
  have HRc := Lib.hid (HR.out.here HBW2.out)
  have Hv := HPW2.out
  have v0 : W2.cell? ⟨y2.w.heap.size, 0, none⟩ = some (.int .i64 7) := Hv.cell 0
  have v1 : W2.cell? ⟨y2.w.heap.size, 1, none⟩ = some (.int .i64 (numC (wd ws 1))) := Hv.cell 1
  have v2 : W2.cell? ⟨y2.w.heap.size, 2, none⟩ = some (.int .i64 0) := Hv.cell 2
  have v3 : W2.cell? ⟨y2.w.heap.size, 3, none⟩ = some (.int .i64 0) := Hv.cell 3
  have v4 : W2.cell? ⟨y2.w.heap.size, 4, none⟩ = some (.int .i64 (numC (wd ws 1))) := Hv.cell 4
  have v5 : W2.cell? ⟨y2.w.heap.size, 5, none⟩ = some (.bool false) := Hv.cell 5
  have v6 : W2.cell? ⟨y2.w.heap.size, 6, none⟩ = some (.int .u8 0) := Hv.cell 6
  have v7 : W2.cell? ⟨y2.w.heap.size, 7, none⟩ = some (.bool false) := Hv.cell 7
  have v8 : W2.cell? ⟨y2.w.heap.size, 8, none⟩ = some (.slice none 0 0) := Hv.cell 8
  have hltv := Hv.lt
  clear Hv
  go_upto_region 13 with fail
  rw [HW2.out]
  go_wp2_with fail
  refine HBA.out.mono ?_
  rintro e w5 ⟨rfl, hb5⟩
  have Hz := HRc.out.here hb5
  have z0 : w5.cell? ⟨w.heap.size + 1, 0, none⟩ = some (.int .i64 0) := Hz.cell 0
  have fz0 : w5.frozen? ⟨w.heap.size + 1, 0, none⟩ = false := Hz.frozen 0
  have z1 : w5.cell? ⟨w.heap.size + 1, 1, none⟩ = some (.int .i64 0) := Hz.cell 1
  have fz1 : w5.frozen? ⟨w.heap.size + 1, 1, none⟩ = false := Hz.frozen 1
  have z2 : w5.cell? ⟨w.heap.size + 1, 2, none⟩ = some (.int .i64 0) := Hz.cell 2
  have fz2 : w5.frozen? ⟨w.heap.size + 1, 2, none⟩ = false := Hz.frozen 2
  have z3 : w5.cell? ⟨w.heap.size + 1, 3, none⟩ = some (.int .i64 0) := Hz.cell 3
  have fz3 : w5.frozen? ⟨w.heap.size + 1, 3, none⟩ = false := Hz.frozen 3
  have z4 : w5.cell? ⟨w.heap.size + 1, 4, none⟩ = some (.int .i64 0) := Hz.cell 4
  have fz4 : w5.frozen? ⟨w.heap.size + 1, 4, none⟩ = false := Hz.frozen 4
  have z5 : w5.cell? ⟨w.heap.size + 1, 5, none⟩ = some (.bool false) := Hz.cell 5
  have fz5 : w5.frozen? ⟨w.heap.size + 1, 5, none⟩ = false := Hz.frozen 5
  have z6 : w5.cell? ⟨w.heap.size + 1, 6, none⟩ = some (.int .u8 0) := Hz.cell 6
  have fz6 : w5.frozen? ⟨w.heap.size + 1, 6, none⟩ = false := Hz.frozen 6
  have z7 : w5.cell? ⟨w.heap.size + 1, 7, none⟩ = some (.bool false) := Hz.cell 7
  have fz7 : w5.frozen? ⟨w.heap.size + 1, 7, none⟩ = false := Hz.frozen 7
  have z8 : w5.cell? ⟨w.heap.size + 1, 8, none⟩ = some (.slice none 0 0) := Hz.cell 8
  have fz8 : w5.frozen? ⟨w.heap.size + 1, 8, none⟩ = false := Hz.frozen 8
  have hltz : w.heap.size + 1 < w5.heap.size := Hz.lt
  have HB5 : Hid (Below w.heap.size w w5) := Lib.hid ((HB0.out.trans (HBW2.out.mono HB0.out.size)).trans (hb5.mono (by have := HBW2.out.size; omega)))
  have HB5' := Lib.hid hb5
  clear hb5 Hz
  go_wp2
  exact bodyPost_ret (v := .agg #[.int .i64 7, .int .i64 (numC (wd ws 1)), .int .i64 0, .int .i64 0, .int .i64 0, .bool false, .int .u8 0, .bool false, .slice none 0 0]) (by simp [results, Tryz.results84, go_sem, z0, z1, z2, z3, z4, z5, z6, z7, z8]) rfl ⟨⟨.slice none 0 0, rfl, Bs.nil _, BlkFrom.nil _⟩, set9 HB5.out (by omega) _ _ _ _ _ _ _ _ _⟩
set_option maxRecDepth 100000 in
set_option maxHeartbeats 4000000 in
theorem guess_8 (g n c : Nat) (ws : List (List UInt8)) (w : World) (h : Wds w g n c ws) (h5 : 5 ≤ ws.length) (hlen : ∀ x ∈ ws, x.length ≤ 1000000) (hn : n ≤ 1000000000) (E : Env w) :
    Calls Tryz.prog 84 #[.int .i64 8, .slice (some ⟨g, 0, none⟩) n c] w fun e w' => GuessRes (guessA numC 8 ws) w.heap.size e w' ∧ Below w.heap.size w w' := by
  obtain ⟨W0, hW0⟩ : ∃ W0, (w.alloc (.cells #[.slice (some ⟨g, 0, none⟩) n c] 40)).alloc (.cells #[.int .i64 0, .int .i64 0, .int .i64 0, .int .i64 0, .int .i64 0, .bool false, .int .u8 0, .bool false, .slice none 0 0] 51) = W0 := ⟨_, rfl⟩
  have HB0 : Hid (Below w.heap.size w W0) := Lib.hid (by rw [← hW0]; exact ((Below.refl _ _).alloc (Nat.le_refl _) _).alloc (by simp) _)
  have HX : Hid (Whole W0 w.heap.size 40 #[.slice (some ⟨g, 0, none⟩) n c]) := Lib.hid (by rw [← hW0]; exact (Whole.new w _ _).alloc _)
  have HR : Hid (Whole W0 (w.heap.size + 1) 51 #[.int .i64 0, .int .i64 0, .int .i64 0, .int .i64 0, .int .i64 0, .bool false, .int .u8 0, .bool false, .slice none 0 0]) := Lib.hid (by
    rw [← hW0]
    have := Whole.new (w.alloc (.cells #[.slice (some ⟨g, 0, none⟩) n c] 40)) 51 #[.int .i64 0, .int .i64 0, .int .i64 0, .int .i64 0, .int .i64 0, .bool false, .int .u8 0, .bool false, .slice none 0 0]
    simpa using this)
  have HWD := Lib.hid (h.here HB0.out)
  have HW0 := Lib.hid hW0
  have E0 := Lib.hid (E.here HB0.out)
  have HLN := Lib.hid hlen
  have h5n : 5 ≤ n := by have := h.len; omega
  have hnc : n ≤ c := by have := h.len; have := h.cap; omega
  have hs0 : W0.heap.size = w.heap.size + 2 := by rw [← hW0]; simp
  obtain ⟨x2, hx2⟩ : ∃ x, ws[2]? = some x := ⟨_, List.getElem?_eq_getElem (by omega)⟩
  have hwd2 : wd ws 2 = x2 := by unfold wd; rw [List.getD_eq_getElem?_getD, hx2]; rfl
  have c2 : W0.cell? ⟨g, 2, none⟩ = some (.string (str x2)) := HWD.out.at_ 2 _ hx2
  have xb : W0.cell? ⟨w.heap.size, 0, none⟩ = some (.slice (some ⟨g, 0, none⟩) n c) := HX.out.cell 0
  have hg0 : g < W0.heap.size := HWD.out.lt
  have HU := Lib.hid (unhexC x2 W0 (hlen x2 (List.mem_of_getElem? hx2)))
  have HN1 : Hid (∀ (i : Nat), i < 5 → ∀ W, Below W0.heap.size W0 W → Calls Tryz.prog 144 #[.int .i64 i, .pointer (some ⟨w.heap.size, 0, none⟩)] W fun e w' => e = .returned (.int .i64 (numC (wd ws i))) ∧ Below W.heap.size W w') :=
    Lib.hid (fun i hi W hb => guess1_any i w.heap.size g n c ws W (HWD.out.here hb) ((hb.cell (p := ⟨w.heap.size, 0, none⟩) (by show w.heap.size < _; omega)).trans (HX.out.cell 0)) (by omega) HLN.out hn (E0.out.here hb))
  have HX2 := Lib.hid hx2
  have HWD2 := Lib.hid hwd2
  clear hW0 h E hlen hx2 hwd2
  go_enter Tryz.func84, Tryz.ntmps84
  go_upto_region 1 with fail
  rw [HW0.out]
  go_wp2_with fail
  refine HU.out.mono ?_
  rintro e W1 ⟨⟨A2, m2, c2', er, rfl, hbu⟩, hb1⟩
  have c2w : W1.cell? ⟨g, 2, none⟩ = some (.string (str x2)) := (hb1.cell (p := ⟨g, 2, none⟩) hg0).trans c2
  have xbw : W1.cell? ⟨w.heap.size, 0, none⟩ = some (.slice (some ⟨g, 0, none⟩) n c) := (hb1.cell (p := ⟨w.heap.size, 0, none⟩) (by show w.heap.size < _; omega)).trans xb
  have HBU := Lib.hid hbu
  have HB1 := Lib.hid hb1
  have hs1 := hb1.size
  clear hbu hb1 c2
  go_wp2_with fail
  refine (ext_of (HN1.out 1 (by omega) W1 HB1.out)).mono ?_
  rintro e w' ⟨rfl, y1, rfl⟩
  go_wp2_with fail
  refine (Ext.call (HN1.out 1 (by omega) y1.w (HB1.out.trans (y1.below.mono HB1.out.size)))).mono ?_
  rintro e w' ⟨rfl, y2, rfl⟩
  have N1 := Lib.hid (numC_in (wd ws 1))
  obtain ⟨W2, hW2⟩ : ∃ W2, y2.w.alloc (.cells #[.int .i64 8, .int .i64 (numC (wd ws 1)), .int .i64 0, .int .i64 0, .int .i64 (numC (wd ws 1)), .bool false, .int .u8 0, .bool false, .slice none 0 0] 51) = W2 := ⟨_, rfl⟩
  have HPW2 : Hid (Whole W2 y2.w.heap.size 51 #[.int .i64 8, .int .i64 (numC (wd ws 1)), .int .i64 0, .int .i64 0, .int .i64 (numC (wd ws 1)), .bool false, .int .u8 0, .bool false, .slice none 0 0]) := Lib.hid (by rw [← hW2]; exact Whole.new _ _ _)
  have hyb := HB1.out.trans (y2.below.mono HB1.out.size)
  have HBW2 : Hid (Below W0.heap.size W0 W2) := Lib.hid (by rw [← hW2]; exact hyb.alloc hyb.size _)
  have HW2 := Lib.hid hW2
  clear hW2 hyb
  obtain ⟨x4, hx4⟩ : ∃ x, ws[4]? = some x := ⟨_, List.getElem?_eq_getElem (by omega)⟩
  have c4w : W2.cell? ⟨g, 4, none⟩ = some (.string (str x4)) := ((HWD.out.here HBW2.out).at_ 4 _ hx4)
  have xb2 : W2.cell? ⟨w.heap.size, 0, none⟩ = some (.slice (some ⟨g, 0, none⟩) n c) := (HX.out.here HBW2.out).cell 0
  have HN2 : Hid (∀ W, Below W0.heap.size W0 W → Calls Tryz.prog 144 #[.int .i64 2, .pointer (some ⟨w.heap.size, 0, none⟩)] W fun e w' => e = .returned (.int .i64 (numC (wd ws 2))) ∧ Below W.heap.size W w') := Lib.hid (HN1.out 2 (by omega))
  have HN3 : Hid (∀ W, Below W0.heap.size W0 W → Calls Tryz.prog 144 #[.int .i64 3, .pointer (some ⟨w.heap.size, 0, none⟩)] W fun e w' => e = .returned (.int .i64 (numC (wd ws 3))) ∧ Below W.heap.size W w') := Lib.hid (HN1.out 3 (by omega))
  have HX4 := Lib.hid hx4
  have hs2 := HBW2.out.size
  obtain ⟨p, hp⟩ : ∃ p, y2.w.heap.size = p := ⟨_, rfl⟩
  rw [hp] at HPW2
  have HPL := HPW2.out.lt
  have hp0 : W0.heap.size ≤ p := by have := HB1.out.size; have := y2.below.size; omega
  have hne1 : w.heap.size ≠ p := by omega
  have hne2 : g ≠ p := by omega
  have hne1' : p ≠ w.heap.size := by omega
  have hne2' : p ≠ g := by omega
  have hgl2 : g < W2.heap.size := by omega
  have hbl2 : w.heap.size < W2.heap.size := by omega
  have HP := Lib.hid hp
  have h5i : (4 : Int) < (n : Int) := by omega
  have hnci : (n : Int) ≤ (c : Int) := by omega
  clear hp hx4
  go_upto_region 10 with fail
  rw [HP.out, HW2.out]
  go_region_held3 (fun w' => w'.cell? ⟨w.heap.size, 0, none⟩ = some (.slice (some ⟨g, 0, none⟩) n c) ∧ w'.cell? ⟨g, 4, none⟩ = some (.string (str x4)))
    (first | (refine ⟨?_, ?_⟩ <;> (simp only [sc2_other _ hne1, sc2_other _ hne2]; assumption)) | go_keep | (refine ⟨?_, ?_⟩ <;> (rw [hb6.cell (by simp; omega)]; first | assumption | (simp [*]; done))) | (refine ⟨?_, ?_⟩ <;> (rw [hb7.cell (by simp; omega)]; first | assumption | (simp [*]; done))))
    (first
      | (go_at_call 144; (with_reducible refine (HN2.out W2.drew HBW2.out.drew).mono ?_); rintro e w6 ⟨rfl, hb6⟩; have hB6 : Below W0.heap.size W0 w6 := HBW2.out.drew.trans (hb6.mono hs2); have hs6 : W2.heap.size ≤ w6.heap.size := hb6.size)
      | (go_at_call 144; (with_reducible refine (HN3.out _ hB6).mono ?_); rintro e w7 ⟨rfl, hb7⟩; have hP7 := ((HPW2.out.drew).here hb6).here hb7; have v4 : w7.cell? ⟨p, 4, none⟩ = some (.int .i64 (numC (wd ws 1))) := hP7.cell 4; have v6 : w7.cell? ⟨p, 6, none⟩ = some (.int .u8 0) := hP7.cell 6; have v7 : w7.cell? ⟨p, 7, none⟩ = some (.bool false) := hP7.cell 7; have fv4 : w7.frozen? ⟨p, 4, none⟩ = false := hP7.frozen 4; have fv6 : w7.frozen? ⟨p, 6, none⟩ = false := hP7.frozen 6; have fv7 : w7.frozen? ⟨p, 7, none⟩ = false := hP7.frozen 7; have hB7 : Below W0.heap.size W0 w7 := hB6.trans (hb7.mono hB6.size)))
  rename_i hHeld
  obtain ⟨W3, hW3⟩ : ∃ W3, ((w7.setCell ⟨p, 4, none⟩ (.int .i64 (numC (wd ws 2)))).setCell ⟨p, 6, none⟩ (.int .u8 (IntKind.u8.wrap (numC (wd ws 3))))).setCell ⟨p, 7, none⟩ (.bool ((str x4).toList == [117, 110, 114, 101, 97, 100])) = W3 := ⟨_, rfl⟩
  have hP3 := ((hP7.set 4 (.int .i64 (numC (wd ws 2)))).set 6 (.int .u8 (IntKind.u8.wrap (numC (wd ws 3))))).set 7 (.bool ((str x4).toList == [117, 110, 114, 101, 97, 100]))
  have hwd4 : x4 = wd ws 4 := by unfold wd; rw [List.getD_eq_getElem?_getD, HX4.out]; rfl
  have e2 : ((str x4).toList == [117, 110, 114, 101, 97, 100]) = decide (wd ws 4 = wUnread) := by rw [str_toList, hwd4]; exact Bool.eq_iff_iff.2 ⟨fun h => decide_eq_true (beq_iff_eq.1 h), fun h => beq_iff_eq.2 (of_decide_eq_true h)⟩
  rw [hW3] at hP3
  rw [u8_byteI, e2] at hP3
  have HPW3 : Hid (Whole W3 p 51 #[.int .i64 8, .int .i64 (numC (wd ws 1)), .int .i64 0, .int .i64 0, .int .i64 (numC (wd ws 2)), .bool false, .int .u8 ((byteI (numC (wd ws 3))).toNat : Int), .bool (decide (wd ws 4 = wUnread)), .slice none 0 0]) := Lib.hid hP3
  have HBW3 : Hid (Below W0.heap.size W0 W3) := Lib.hid (by rw [← hW3]; exact ((hB7.setCell (p := ⟨p, 4, none⟩) hp0 _).setCell (p := ⟨p, 6, none⟩) hp0 _).setCell (p := ⟨p, 7, none⟩) hp0 _)
  have HW3 := Lib.hid hW3
  clear hHeld hW3 hP3 hwd4 e2 hb6 hb7 hB6 hB7 hP7 v4 v6 v7 fv4 fv6 fv7 HN2 HN3 c4w xb2
  have HBA : Hid (Calls Tryz.prog 77 #[.agg #[.int .i64 8, .int .i64 (numC (wd ws 1)), .int .i64 0, .int .i64 0, .int .i64 (numC (wd ws 2)), .bool false, .int .u8 ((byteI (numC (wd ws 3))).toNat : Int), .bool (decide (wd ws 4 = wUnread)), .slice none 0 0]] W3 fun e w' => e = .returned (.agg #[.int .i64 8, .int .i64 (numC (wd ws 1)), .int .i64 0, .int .i64 0, .int .i64 (numC (wd ws 2)), .bool false, .int .u8 ((byteI (numC (wd ws 3))).toNat : Int), .bool (decide (wd ws 4 = wUnread)), .slice none 0 0]) ∧ Below W3.heap.size W3 w') := Lib.hid (by
    have := bare_any ⟨8,  (numC (wd ws 1)),  0,  0,  (numC (wd ws 2)), false, byteI (numC (wd ws 3)), (decide (wd ws 4 = wUnread)), []⟩ (.slice none 0 0) W3 ⟨by show (1 : Int) ≤ 8; decide, by show (8 : Int) ≤ 9; decide⟩ (Bs.nil _)
    exact this)
  have HRc := Lib.hid (HR.out.here HBW3.out)
  have Hv := HPW3.out
  have v0 : W3.cell? ⟨p, 0, none⟩ = some (.int .i64 8) := Hv.cell 0
  have v1 : W3.cell? ⟨p, 1, none⟩ = some (.int .i64 (numC (wd ws 1))) := Hv.cell 1
  have v2 : W3.cell? ⟨p, 2, none⟩ = some (.int .i64 0) := Hv.cell 2
  have v3 : W3.cell? ⟨p, 3, none⟩ = some (.int .i64 0) := Hv.cell 3
  have v4 : W3.cell? ⟨p, 4, none⟩ = some (.int .i64 (numC (wd ws 2))) := Hv.cell 4
  have v5 : W3.cell? ⟨p, 5, none⟩ = some (.bool false) := Hv.cell 5
  have v6 : W3.cell? ⟨p, 6, none⟩ = some (.int .u8 ((byteI (numC (wd ws 3))).toNat : Int)) := Hv.cell 6
  have v7 : W3.cell? ⟨p, 7, none⟩ = some (.bool (decide (wd ws 4 = wUnread))) := Hv.cell 7
  have v8 : W3.cell? ⟨p, 8, none⟩ = some (.slice none 0 0) := Hv.cell 8
  have hltv := Hv.lt
  clear Hv
  go_upto_region 13 with fail
  rw [HW3.out]
  go_wp2_with fail
  refine HBA.out.mono ?_
  rintro e w5 ⟨rfl, hb5⟩
  have Hz := HRc.out.here hb5
  have z0 : w5.cell? ⟨w.heap.size + 1, 0, none⟩ = some (.int .i64 0) := Hz.cell 0
  have fz0 : w5.frozen? ⟨w.heap.size + 1, 0, none⟩ = false := Hz.frozen 0
  have z1 : w5.cell? ⟨w.heap.size + 1, 1, none⟩ = some (.int .i64 0) := Hz.cell 1
  have fz1 : w5.frozen? ⟨w.heap.size + 1, 1, none⟩ = false := Hz.frozen 1
  have z2 : w5.cell? ⟨w.heap.size + 1, 2, none⟩ = some (.int .i64 0) := Hz.cell 2
  have fz2 : w5.frozen? ⟨w.heap.size + 1, 2, none⟩ = false := Hz.frozen 2
  have z3 : w5.cell? ⟨w.heap.size + 1, 3, none⟩ = some (.int .i64 0) := Hz.cell 3
  have fz3 : w5.frozen? ⟨w.heap.size + 1, 3, none⟩ = false := Hz.frozen 3
  have z4 : w5.cell? ⟨w.heap.size + 1, 4, none⟩ = some (.int .i64 0) := Hz.cell 4
  have fz4 : w5.frozen? ⟨w.heap.size + 1, 4, none⟩ = false := Hz.frozen 4
  have z5 : w5.cell? ⟨w.heap.size + 1, 5, none⟩ = some (.bool false) := Hz.cell 5
  have fz5 : w5.frozen? ⟨w.heap.size + 1, 5, none⟩ = false := Hz.frozen 5
  have z6 : w5.cell? ⟨w.heap.size + 1, 6, none⟩ = some (.int .u8 0) := Hz.cell 6
  have fz6 : w5.frozen? ⟨w.heap.size + 1, 6, none⟩ = false := Hz.frozen 6
  have z7 : w5.cell? ⟨w.heap.size + 1, 7, none⟩ = some (.bool false) := Hz.cell 7
  have fz7 : w5.frozen? ⟨w.heap.size + 1, 7, none⟩ = false := Hz.frozen 7
  have z8 : w5.cell? ⟨w.heap.size + 1, 8, none⟩ = some (.slice none 0 0) := Hz.cell 8
  have fz8 : w5.frozen? ⟨w.heap.size + 1, 8, none⟩ = false := Hz.frozen 8
  have hltz : w.heap.size + 1 < w5.heap.size := Hz.lt
  have HB5 : Hid (Below w.heap.size w w5) := Lib.hid ((HB0.out.trans (HBW3.out.mono HB0.out.size)).trans (hb5.mono (by have := HBW3.out.size; omega)))
  have HB5' := Lib.hid hb5
  clear hb5 Hz
  go_wp2
  exact bodyPost_ret (v := .agg #[.int .i64 8, .int .i64 (numC (wd ws 1)), .int .i64 0, .int .i64 0, .int .i64 (numC (wd ws 2)), .bool false, .int .u8 ((byteI (numC (wd ws 3))).toNat : Int), .bool (decide (wd ws 4 = wUnread)), .slice none 0 0]) (by simp [results, Tryz.results84, go_sem, z0, z1, z2, z3, z4, z5, z6, z7, z8]) rfl ⟨⟨.slice none 0 0, rfl, Bs.nil _, BlkFrom.nil _⟩, set9 HB5.out (by omega) _ _ _ _ _ _ _ _ _⟩
set_option maxRecDepth 100000 in
set_option maxHeartbeats 4000000 in
theorem guess_9 (g n c : Nat) (ws : List (List UInt8)) (w : World) (h : Wds w g n c ws) (h5 : 5 ≤ ws.length) (hlen : ∀ x ∈ ws, x.length ≤ 1000000) (hn : n ≤ 1000000000) (E : Env w) :
    Calls Tryz.prog 84 #[.int .i64 9, .slice (some ⟨g, 0, none⟩) n c] w fun e w' => GuessRes (guessA numC 9 ws) w.heap.size e w' ∧ Below w.heap.size w w' := by
  obtain ⟨W0, hW0⟩ : ∃ W0, (w.alloc (.cells #[.slice (some ⟨g, 0, none⟩) n c] 40)).alloc (.cells #[.int .i64 0, .int .i64 0, .int .i64 0, .int .i64 0, .int .i64 0, .bool false, .int .u8 0, .bool false, .slice none 0 0] 51) = W0 := ⟨_, rfl⟩
  have HB0 : Hid (Below w.heap.size w W0) := Lib.hid (by rw [← hW0]; exact ((Below.refl _ _).alloc (Nat.le_refl _) _).alloc (by simp) _)
  have HX : Hid (Whole W0 w.heap.size 40 #[.slice (some ⟨g, 0, none⟩) n c]) := Lib.hid (by rw [← hW0]; exact (Whole.new w _ _).alloc _)
  have HR : Hid (Whole W0 (w.heap.size + 1) 51 #[.int .i64 0, .int .i64 0, .int .i64 0, .int .i64 0, .int .i64 0, .bool false, .int .u8 0, .bool false, .slice none 0 0]) := Lib.hid (by
    rw [← hW0]
    have := Whole.new (w.alloc (.cells #[.slice (some ⟨g, 0, none⟩) n c] 40)) 51 #[.int .i64 0, .int .i64 0, .int .i64 0, .int .i64 0, .int .i64 0, .bool false, .int .u8 0, .bool false, .slice none 0 0]
    simpa using this)
  have HWD := Lib.hid (h.here HB0.out)
  have HW0 := Lib.hid hW0
  have E0 := Lib.hid (E.here HB0.out)
  have HLN := Lib.hid hlen
  have h5n : 5 ≤ n := by have := h.len; omega
  have hnc : n ≤ c := by have := h.len; have := h.cap; omega
  have hs0 : W0.heap.size = w.heap.size + 2 := by rw [← hW0]; simp
  obtain ⟨x2, hx2⟩ : ∃ x, ws[2]? = some x := ⟨_, List.getElem?_eq_getElem (by omega)⟩
  have hwd2 : wd ws 2 = x2 := by unfold wd; rw [List.getD_eq_getElem?_getD, hx2]; rfl
  have c2 : W0.cell? ⟨g, 2, none⟩ = some (.string (str x2)) := HWD.out.at_ 2 _ hx2
  have xb : W0.cell? ⟨w.heap.size, 0, none⟩ = some (.slice (some ⟨g, 0, none⟩) n c) := HX.out.cell 0
  have hg0 : g < W0.heap.size := HWD.out.lt
  have HU := Lib.hid (unhexC x2 W0 (hlen x2 (List.mem_of_getElem? hx2)))
  have HN1 : Hid (∀ (i : Nat), i < 5 → ∀ W, Below W0.heap.size W0 W → Calls Tryz.prog 144 #[.int .i64 i, .pointer (some ⟨w.heap.size, 0, none⟩)] W fun e w' => e = .returned (.int .i64 (numC (wd ws i))) ∧ Below W.heap.size W w') :=
    Lib.hid (fun i hi W hb => guess1_any i w.heap.size g n c ws W (HWD.out.here hb) ((hb.cell (p := ⟨w.heap.size, 0, none⟩) (by show w.heap.size < _; omega)).trans (HX.out.cell 0)) (by omega) HLN.out hn (E0.out.here hb))
  have HX2 := Lib.hid hx2
  have HWD2 := Lib.hid hwd2
  clear hW0 h E hlen hx2 hwd2
  go_enter Tryz.func84, Tryz.ntmps84
  go_upto_region 1 with fail
  rw [HW0.out]
  go_wp2_with fail
  refine HU.out.mono ?_
  rintro e W1 ⟨⟨A2, m2, c2', er, rfl, hbu⟩, hb1⟩
  have c2w : W1.cell? ⟨g, 2, none⟩ = some (.string (str x2)) := (hb1.cell (p := ⟨g, 2, none⟩) hg0).trans c2
  have xbw : W1.cell? ⟨w.heap.size, 0, none⟩ = some (.slice (some ⟨g, 0, none⟩) n c) := (hb1.cell (p := ⟨w.heap.size, 0, none⟩) (by show w.heap.size < _; omega)).trans xb
  have HBU := Lib.hid hbu
  have HB1 := Lib.hid hb1
  have hs1 := hb1.size
  clear hbu hb1 c2
  go_wp2_with fail
  refine (ext_of (HN1.out 1 (by omega) W1 HB1.out)).mono ?_
  rintro e w' ⟨rfl, y1, rfl⟩
  go_wp2_with fail
  refine (Ext.call (HN1.out 1 (by omega) y1.w (HB1.out.trans (y1.below.mono HB1.out.size)))).mono ?_
  rintro e w' ⟨rfl, y2, rfl⟩
  have N1 := Lib.hid (numC_in (wd ws 1))
  obtain ⟨W2, hW2⟩ : ∃ W2, y2.w.alloc (.cells #[.int .i64 9, .int .i64 (numC (wd ws 1)), .int .i64 0, .int .i64 0, .int .i64 (numC (wd ws 1)), .bool false, .int .u8 0, .bool false, .slice A2 m2 c2'] 51) = W2 := ⟨_, rfl⟩
  have HPW2 : Hid (Whole W2 y2.w.heap.size 51 #[.int .i64 9, .int .i64 (numC (wd ws 1)), .int .i64 0, .int .i64 0, .int .i64 (numC (wd ws 1)), .bool false, .int .u8 0, .bool false, .slice A2 m2 c2']) := Lib.hid (by rw [← hW2]; exact Whole.new _ _ _)
  have hyb := HB1.out.trans (y2.below.mono HB1.out.size)
  have HBW2 : Hid (Below W0.heap.size W0 W2) := Lib.hid (by rw [← hW2]; exact hyb.alloc hyb.size _)
  have HW2 := Lib.hid hW2
  have HO2 : Hid (W2.ownsRow W0.heap.size 5 1 (.slice A2 m2 c2') (unhexD x2).length (cellsB (unhexD x2))) := Lib.hid (by rw [← hW2]; exact (own_below HBU.out y2.below).alloc _)
  have HWU : Hid ((guessA numC 9 ws).bytes = unhexD x2) := Lib.hid (by rw [← HWD2.out]; rfl)
  have hb1 : w.heap.size + 1 < W0.heap.size := by omega
  clear hW2 hyb
  have HBA : Hid (Calls Tryz.prog 77 #[.agg #[.int .i64 9, .int .i64 (numC (wd ws 1)), .int .i64 0, .int .i64 0, .int .i64 (numC (wd ws 1)), .bool false, .int .u8 0, .bool false, .slice A2 m2 c2']] W2 fun e w' => e = .returned (.agg #[.int .i64 9, .int .i64 (numC (wd ws 1)), .int .i64 0, .int .i64 0, .int .i64 0, .bool false, .int .u8 0, .bool false, .slice A2 m2 c2']) ∧ Below W2.heap.size W2 w') := Lib.hid (by
    have := bare_any ⟨9,  (numC (wd ws 1)),  0,  0,  (numC (wd ws 1)), false, 0, false, unhexD x2⟩ (.slice A2 m2 c2') W2 ⟨by show (1 : Int) ≤ 9; decide, by show (9 : Int) ≤ 9; decide⟩ (Bs.own HO2.out)
    exact this)
  have HRc := Lib.hid (HR.out.here HBW2.out)
  have Hv := HPW2.out
  have v0 : W2.cell? ⟨y2.w.heap.size, 0, none⟩ = some (.int .i64 9) := Hv.cell 0
  have v1 : W2.cell? ⟨y2.w.heap.size, 1, none⟩ = some (.int .i64 (numC (wd ws 1))) := Hv.cell 1
  have v2 : W2.cell? ⟨y2.w.heap.size, 2, none⟩ = some (.int .i64 0) := Hv.cell 2
  have v3 : W2.cell? ⟨y2.w.heap.size, 3, none⟩ = some (.int .i64 0) := Hv.cell 3
  have v4 : W2.cell? ⟨y2.w.heap.size, 4, none⟩ = some (.int .i64 (numC (wd ws 1))) := Hv.cell 4
  have v5 : W2.cell? ⟨y2.w.heap.size, 5, none⟩ = some (.bool false) := Hv.cell 5
  have v6 : W2.cell? ⟨y2.w.heap.size, 6, none⟩ = some (.int .u8 0) := Hv.cell 6
  have v7 : W2.cell? ⟨y2.w.heap.size, 7, none⟩ = some (.bool false) := Hv.cell 7
  have v8 : W2.cell? ⟨y2.w.heap.size, 8, none⟩ = some (.slice A2 m2 c2') := Hv.cell 8
  have hltv := Hv.lt
  clear Hv
  go_upto_region 13 with fail
  rw [HW2.out]
  go_wp2_with fail
  refine HBA.out.mono ?_
  rintro e w5 ⟨rfl, hb5⟩
  have Hz := HRc.out.here hb5
  have z0 : w5.cell? ⟨w.heap.size + 1, 0, none⟩ = some (.int .i64 0) := Hz.cell 0
  have fz0 : w5.frozen? ⟨w.heap.size + 1, 0, none⟩ = false := Hz.frozen 0
  have z1 : w5.cell? ⟨w.heap.size + 1, 1, none⟩ = some (.int .i64 0) := Hz.cell 1
  have fz1 : w5.frozen? ⟨w.heap.size + 1, 1, none⟩ = false := Hz.frozen 1
  have z2 : w5.cell? ⟨w.heap.size + 1, 2, none⟩ = some (.int .i64 0) := Hz.cell 2
  have fz2 : w5.frozen? ⟨w.heap.size + 1, 2, none⟩ = false := Hz.frozen 2
  have z3 : w5.cell? ⟨w.heap.size + 1, 3, none⟩ = some (.int .i64 0) := Hz.cell 3
  have fz3 : w5.frozen? ⟨w.heap.size + 1, 3, none⟩ = false := Hz.frozen 3
  have z4 : w5.cell? ⟨w.heap.size + 1, 4, none⟩ = some (.int .i64 0) := Hz.cell 4
  have fz4 : w5.frozen? ⟨w.heap.size + 1, 4, none⟩ = false := Hz.frozen 4
  have z5 : w5.cell? ⟨w.heap.size + 1, 5, none⟩ = some (.bool false) := Hz.cell 5
  have fz5 : w5.frozen? ⟨w.heap.size + 1, 5, none⟩ = false := Hz.frozen 5
  have z6 : w5.cell? ⟨w.heap.size + 1, 6, none⟩ = some (.int .u8 0) := Hz.cell 6
  have fz6 : w5.frozen? ⟨w.heap.size + 1, 6, none⟩ = false := Hz.frozen 6
  have z7 : w5.cell? ⟨w.heap.size + 1, 7, none⟩ = some (.bool false) := Hz.cell 7
  have fz7 : w5.frozen? ⟨w.heap.size + 1, 7, none⟩ = false := Hz.frozen 7
  have z8 : w5.cell? ⟨w.heap.size + 1, 8, none⟩ = some (.slice none 0 0) := Hz.cell 8
  have fz8 : w5.frozen? ⟨w.heap.size + 1, 8, none⟩ = false := Hz.frozen 8
  have hltz : w.heap.size + 1 < w5.heap.size := Hz.lt
  have HB5 : Hid (Below w.heap.size w w5) := Lib.hid ((HB0.out.trans (HBW2.out.mono HB0.out.size)).trans (hb5.mono (by have := HBW2.out.size; omega)))
  have HB5' := Lib.hid hb5
  have HO5 : Hid (w5.ownsRow W0.heap.size 5 1 (.slice A2 m2 c2') (unhexD x2).length (cellsB (unhexD x2))) := Lib.hid (own_below HO2.out hb5)
  clear hb5 Hz
  go_wp2
  exact bodyPost_ret (v := .agg #[.int .i64 9, .int .i64 (numC (wd ws 1)), .int .i64 0, .int .i64 0, .int .i64 0, .bool false, .int .u8 0, .bool false, .slice A2 m2 c2']) (by simp [results, Tryz.results84, go_sem, z0, z1, z2, z3, z4, z5, z6, z7, z8]) rfl ⟨⟨.slice A2 m2 c2', rfl, by rw [HWU.out]; exact Bs.own (own_far (own_far (own_far (own_far (own_far (own_far (own_far (own_far (own_far HO5.out hb1 _ _) hb1 _ _) hb1 _ _) hb1 _ _) hb1 _ _) hb1 _ _) hb1 _ _) hb1 _ _) hb1 _ _), BlkFrom.own HO2.out (by omega)⟩, set9 HB5.out (by omega) _ _ _ _ _ _ _ _ _⟩
set_option maxRecDepth 100000 in
set_option maxHeartbeats 4000000 in
theorem guess_5 (g n c : Nat) (ws : List (List UInt8)) (w : World) (h : Wds w g n c ws) (h5 : 5 ≤ ws.length) (hlen : ∀ x ∈ ws, x.length ≤ 1000000) (hn : n ≤ 1000000000) (E : Env w) :
    Calls Tryz.prog 84 #[.int .i64 5, .slice (some ⟨g, 0, none⟩) n c] w fun e w' => GuessRes (guessA numC 5 ws) w.heap.size e w' ∧ Below w.heap.size w w' := by
  obtain ⟨W0, hW0⟩ : ∃ W0, (w.alloc (.cells #[.slice (some ⟨g, 0, none⟩) n c] 40)).alloc (.cells #[.int .i64 0, .int .i64 0, .int .i64 0, .int .i64 0, .int .i64 0, .bool false, .int .u8 0, .bool false, .slice none 0 0] 51) = W0 := ⟨_, rfl⟩
  have HB0 : Hid (Below w.heap.size w W0) := Lib.hid (by rw [← hW0]; exact ((Below.refl _ _).alloc (Nat.le_refl _) _).alloc (by simp) _)
  have HX : Hid (Whole W0 w.heap.size 40 #[.slice (some ⟨g, 0, none⟩) n c]) := Lib.hid (by rw [← hW0]; exact (Whole.new w _ _).alloc _)
  have HR : Hid (Whole W0 (w.heap.size + 1) 51 #[.int .i64 0, .int .i64 0, .int .i64 0, .int .i64 0, .int .i64 0, .bool false, .int .u8 0, .bool false, .slice none 0 0]) := Lib.hid (by
    rw [← hW0]
    have := Whole.new (w.alloc (.cells #[.slice (some ⟨g, 0, none⟩) n c] 40)) 51 #[.int .i64 0, .int .i64 0, .int .i64 0, .int .i64 0, .int .i64 0, .bool false, .int .u8 0, .bool false, .slice none 0 0]
    simpa using this)
  have HWD := Lib.hid (h.here HB0.out)
  have HW0 := Lib.hid hW0
  have E0 := Lib.hid (E.here HB0.out)
  have HLN := Lib.hid hlen
  have h5n : 5 ≤ n := by have := h.len; omega
  have hnc : n ≤ c := by have := h.len; have := h.cap; omega
  have hs0 : W0.heap.size = w.heap.size + 2 := by rw [← hW0]; simp
  obtain ⟨x2, hx2⟩ : ∃ x, ws[2]? = some x := ⟨_, List.getElem?_eq_getElem (by omega)⟩
  have hwd2 : wd ws 2 = x2 := by unfold wd; rw [List.getD_eq_getElem?_getD, hx2]; rfl
  have c2 : W0.cell? ⟨g, 2, none⟩ = some (.string (str x2)) := HWD.out.at_ 2 _ hx2
  have xb : W0.cell? ⟨w.heap.size, 0, none⟩ = some (.slice (some ⟨g, 0, none⟩) n c) := HX.out.cell 0
  have hg0 : g < W0.heap.size := HWD.out.lt
  have HU := Lib.hid (unhexC x2 W0 (hlen x2 (List.mem_of_getElem? hx2)))
  have HN1 : Hid (∀ (i : Nat), i < 5 → ∀ W, Below W0.heap.size W0 W → Calls Tryz.prog 144 #[.int .i64 i, .pointer (some ⟨w.heap.size, 0, none⟩)] W fun e w' => e = .returned (.int .i64 (numC (wd ws i))) ∧ Below W.heap.size W w') :=
    Lib.hid (fun i hi W hb => guess1_any i w.heap.size g n c ws W (HWD.out.here hb) ((hb.cell (p := ⟨w.heap.size, 0, none⟩) (by show w.heap.size < _; omega)).trans (HX.out.cell 0)) (by omega) HLN.out hn (E0.out.here hb))
  have HX2 := Lib.hid hx2
  have HWD2 := Lib.hid hwd2
  clear hW0 h E hlen hx2 hwd2
  go_enter Tryz.func84, Tryz.ntmps84
  go_upto_region 1 with fail
  rw [HW0.out]
  go_wp2_with fail
  refine HU.out.mono ?_
  rintro e W1 ⟨⟨A2, m2, c2', er, rfl, hbu⟩, hb1⟩
  have c2w : W1.cell? ⟨g, 2, none⟩ = some (.string (str x2)) := (hb1.cell (p := ⟨g, 2, none⟩) hg0).trans c2
  have xbw : W1.cell? ⟨w.heap.size, 0, none⟩ = some (.slice (some ⟨g, 0, none⟩) n c) := (hb1.cell (p := ⟨w.heap.size, 0, none⟩) (by show w.heap.size < _; omega)).trans xb
  have HBU := Lib.hid hbu
  have HB1 := Lib.hid hb1
  have hs1 := hb1.size
  clear hbu hb1 c2
  go_wp2_with fail
  refine (ext_of (HN1.out 1 (by omega) W1 HB1.out)).mono ?_
  rintro e w' ⟨rfl, y1, rfl⟩
  go_wp2_with fail
  refine (Ext.call (HN1.out 1 (by omega) y1.w (HB1.out.trans (y1.below.mono HB1.out.size)))).mono ?_
  rintro e w' ⟨rfl, y2, rfl⟩
  have N1 := Lib.hid (numC_in (wd ws 1))
  obtain ⟨W2, hW2⟩ : ∃ W2, y2.w.alloc (.cells #[.int .i64 5, .int .i64 (numC (wd ws 1)), .int .i64 0, .int .i64 0, .int .i64 (numC (wd ws 1)), .bool false, .int .u8 0, .bool false, .slice none 0 0] 51) = W2 := ⟨_, rfl⟩
  have HPW2 : Hid (Whole W2 y2.w.heap.size 51 #[.int .i64 5, .int .i64 (numC (wd ws 1)), .int .i64 0, .int .i64 0, .int .i64 (numC (wd ws 1)), .bool false, .int .u8 0, .bool false, .slice none 0 0]) := Lib.hid (by rw [← hW2]; exact Whole.new _ _ _)
  have hyb := HB1.out.trans (y2.below.mono HB1.out.size)
  have HBW2 : Hid (Below W0.heap.size W0 W2) := Lib.hid (by rw [← hW2]; exact hyb.alloc hyb.size _)
  have HW2 := Lib.hid hW2
  clear hW2 hyb
  have HN2 : Hid (∀ W, Below W0.heap.size W0 W → Calls Tryz.prog 144 #[.int .i64 2, .pointer (some ⟨w.heap.size, 0, none⟩)] W fun e w' => e = .returned (.int .i64 (numC (wd ws 2))) ∧ Below W.heap.size W w') := Lib.hid (HN1.out 2 (by omega))
  have HN3 : Hid (∀ W, Below W0.heap.size W0 W → Calls Tryz.prog 144 #[.int .i64 3, .pointer (some ⟨w.heap.size, 0, none⟩)] W fun e w' => e = .returned (.int .i64 (numC (wd ws 3))) ∧ Below W.heap.size W w') := Lib.hid (HN1.out 3 (by omega))
  obtain ⟨p, hp⟩ : ∃ p, y2.w.heap.size = p := ⟨_, rfl⟩
  rw [hp] at HPW2
  have HPL := HPW2.out.lt
  have hp0 : W0.heap.size ≤ p := by have := HB1.out.size; have := y2.below.size; omega
  have HP := Lib.hid hp
  clear hp
  go_upto_region 6 with fail
  rw [HP.out, HW2.out]
  go_wp2_with fail
  refine (ext_of (HN2.out W2 HBW2.out)).mono ?_
  rintro e w' ⟨rfl, y3, rfl⟩
  go_wp2_with fail
  refine (Ext.call (HN3.out y3.w (HBW2.out.trans (y3.below.mono HBW2.out.size)))).mono ?_
  rintro e w' ⟨rfl, y4, rfl⟩
  have hP4 := HPW2.out.here y4.below
  have q2 : y4.w.cell? ⟨p, 2, none⟩ = some (.int .i64 0) := hP4.cell 2
  have q3 : y4.w.cell? ⟨p, 3, none⟩ = some (.int .i64 0) := hP4.cell 3
  have fq2 : y4.w.frozen? ⟨p, 2, none⟩ = false := hP4.frozen 2
  have fq3 : y4.w.frozen? ⟨p, 3, none⟩ = false := hP4.frozen 3
  obtain ⟨W3, hW3⟩ : ∃ W3, (y4.w.setCell ⟨p, 2, none⟩ (.int .i64 (numC (wd ws 2)))).setCell ⟨p, 3, none⟩ (.int .i64 (numC (wd ws 3))) = W3 := ⟨_, rfl⟩
  have HPW3 : Hid (Whole W3 p 51 #[.int .i64 5, .int .i64 (numC (wd ws 1)), .int .i64 (numC (wd ws 2)), .int .i64 (numC (wd ws 3)), .int .i64 (numC (wd ws 1)), .bool false, .int .u8 0, .bool false, .slice none 0 0]) := Lib.hid (by rw [← hW3]; exact (hP4.set 2 _).set 3 _)
  have HBW3 : Hid (Below W0.heap.size W0 W3) := Lib.hid (by rw [← hW3]; exact ((HBW2.out.trans (y4.below.mono HBW2.out.size)).setCell (p := ⟨p, 2, none⟩) hp0 _).setCell (p := ⟨p, 3, none⟩) hp0 _)
  have HW3 := Lib.hid hW3
  clear hW3 hP4
  have HBA : Hid (Calls Tryz.prog 77 #[.agg #[.int .i64 5, .int .i64 (numC (wd ws 1)), .int .i64 (numC (wd ws 2)), .int .i64 (numC (wd ws 3)), .int .i64 (numC (wd ws 1)), .bool false, .int .u8 0, .bool false, .slice none 0 0]] W3 fun e w' => e = .returned (.agg #[.int .i64 5, .int .i64 (numC (wd ws 1)), .int .i64 (numC (wd ws 2)), .int .i64 (numC (wd ws 3)), .int .i64 0, .bool false, .int .u8 0, .bool false, .slice none 0 0]) ∧ Below W3.heap.size W3 w') := Lib.hid (by
    have := bare_any ⟨5,  (numC (wd ws 1)),  (numC (wd ws 2)),  (numC (wd ws 3)),  (numC (wd ws 1)), false, 0, false, []⟩ (.slice none 0 0) W3 ⟨by show (1 : Int) ≤ 5; decide, by show (5 : Int) ≤ 9; decide⟩ (Bs.nil _)
    exact this)
  have HRc := Lib.hid (HR.out.here HBW3.out)
  have Hv := HPW3.out
  have v0 : W3.cell? ⟨p, 0, none⟩ = some (.int .i64 5) := Hv.cell 0
  have v1 : W3.cell? ⟨p, 1, none⟩ = some (.int .i64 (numC (wd ws 1))) := Hv.cell 1
  have v2 : W3.cell? ⟨p, 2, none⟩ = some (.int .i64 (numC (wd ws 2))) := Hv.cell 2
  have v3 : W3.cell? ⟨p, 3, none⟩ = some (.int .i64 (numC (wd ws 3))) := Hv.cell 3
  have v4 : W3.cell? ⟨p, 4, none⟩ = some (.int .i64 (numC (wd ws 1))) := Hv.cell 4
  have v5 : W3.cell? ⟨p, 5, none⟩ = some (.bool false) := Hv.cell 5
  have v6 : W3.cell? ⟨p, 6, none⟩ = some (.int .u8 0) := Hv.cell 6
  have v7 : W3.cell? ⟨p, 7, none⟩ = some (.bool false) := Hv.cell 7
  have v8 : W3.cell? ⟨p, 8, none⟩ = some (.slice none 0 0) := Hv.cell 8
  have hltv := Hv.lt
  clear Hv
  go_upto_region 13 with fail
  clear q2 q3 fq2 fq3
  rw [HW3.out]
  go_wp2_with fail
  refine HBA.out.mono ?_
  rintro e w5 ⟨rfl, hb5⟩
  have Hz := HRc.out.here hb5
  have z0 : w5.cell? ⟨w.heap.size + 1, 0, none⟩ = some (.int .i64 0) := Hz.cell 0
  have fz0 : w5.frozen? ⟨w.heap.size + 1, 0, none⟩ = false := Hz.frozen 0
  have z1 : w5.cell? ⟨w.heap.size + 1, 1, none⟩ = some (.int .i64 0) := Hz.cell 1
  have fz1 : w5.frozen? ⟨w.heap.size + 1, 1, none⟩ = false := Hz.frozen 1
  have z2 : w5.cell? ⟨w.heap.size + 1, 2, none⟩ = some (.int .i64 0) := Hz.cell 2
  have fz2 : w5.frozen? ⟨w.heap.size + 1, 2, none⟩ = false := Hz.frozen 2
  have z3 : w5.cell? ⟨w.heap.size + 1, 3, none⟩ = some (.int .i64 0) := Hz.cell 3
  have fz3 : w5.frozen? ⟨w.heap.size + 1, 3, none⟩ = false := Hz.frozen 3
  have z4 : w5.cell? ⟨w.heap.size + 1, 4, none⟩ = some (.int .i64 0) := Hz.cell 4
  have fz4 : w5.frozen? ⟨w.heap.size + 1, 4, none⟩ = false := Hz.frozen 4
  have z5 : w5.cell? ⟨w.heap.size + 1, 5, none⟩ = some (.bool false) := Hz.cell 5
  have fz5 : w5.frozen? ⟨w.heap.size + 1, 5, none⟩ = false := Hz.frozen 5
  have z6 : w5.cell? ⟨w.heap.size + 1, 6, none⟩ = some (.int .u8 0) := Hz.cell 6
  have fz6 : w5.frozen? ⟨w.heap.size + 1, 6, none⟩ = false := Hz.frozen 6
  have z7 : w5.cell? ⟨w.heap.size + 1, 7, none⟩ = some (.bool false) := Hz.cell 7
  have fz7 : w5.frozen? ⟨w.heap.size + 1, 7, none⟩ = false := Hz.frozen 7
  have z8 : w5.cell? ⟨w.heap.size + 1, 8, none⟩ = some (.slice none 0 0) := Hz.cell 8
  have fz8 : w5.frozen? ⟨w.heap.size + 1, 8, none⟩ = false := Hz.frozen 8
  have hltz : w.heap.size + 1 < w5.heap.size := Hz.lt
  have HB5 : Hid (Below w.heap.size w w5) := Lib.hid ((HB0.out.trans (HBW3.out.mono HB0.out.size)).trans (hb5.mono (by have := HBW3.out.size; omega)))
  have HB5' := Lib.hid hb5
  clear hb5 Hz
  go_wp2
  exact bodyPost_ret (v := .agg #[.int .i64 5, .int .i64 (numC (wd ws 1)), .int .i64 (numC (wd ws 2)), .int .i64 (numC (wd ws 3)), .int .i64 0, .bool false, .int .u8 0, .bool false, .slice none 0 0]) (by simp [results, Tryz.results84, go_sem, z0, z1, z2, z3, z4, z5, z6, z7, z8]) rfl ⟨⟨.slice none 0 0, rfl, Bs.nil _, BlkFrom.nil _⟩, set9 HB5.out (by omega) _ _ _ _ _ _ _ _ _⟩
set_option maxRecDepth 100000 in
set_option maxHeartbeats 4000000 in
theorem guess_6_true (g n c : Nat) (ws : List (List UInt8)) (w : World) (h : Wds w g n c ws) (h5 : 5 ≤ ws.length) (hlen : ∀ x ∈ ws, x.length ≤ 1000000) (hn : n ≤ 1000000000) (E : Env w) (hu : wd ws 2 = wUp) :
    Calls Tryz.prog 84 #[.int .i64 6, .slice (some ⟨g, 0, none⟩) n c] w fun e w' => GuessRes (guessA numC 6 ws) w.heap.size e w' ∧ Below w.heap.size w w' := by
  obtain ⟨W0, hW0⟩ : ∃ W0, (w.alloc (.cells #[.slice (some ⟨g, 0, none⟩) n c] 40)).alloc (.cells #[.int .i64 0, .int .i64 0, .int .i64 0, .int .i64 0, .int .i64 0, .bool false, .int .u8 0, .bool false, .slice none 0 0] 51) = W0 := ⟨_, rfl⟩
  have HB0 : Hid (Below w.heap.size w W0) := Lib.hid (by rw [← hW0]; exact ((Below.refl _ _).alloc (Nat.le_refl _) _).alloc (by simp) _)
  have HX : Hid (Whole W0 w.heap.size 40 #[.slice (some ⟨g, 0, none⟩) n c]) := Lib.hid (by rw [← hW0]; exact (Whole.new w _ _).alloc _)
  have HR : Hid (Whole W0 (w.heap.size + 1) 51 #[.int .i64 0, .int .i64 0, .int .i64 0, .int .i64 0, .int .i64 0, .bool false, .int .u8 0, .bool false, .slice none 0 0]) := Lib.hid (by
    rw [← hW0]
    have := Whole.new (w.alloc (.cells #[.slice (some ⟨g, 0, none⟩) n c] 40)) 51 #[.int .i64 0, .int .i64 0, .int .i64 0, .int .i64 0, .int .i64 0, .bool false, .int .u8 0, .bool false, .slice none 0 0]
    simpa using this)
  have HWD := Lib.hid (h.here HB0.out)
  have HW0 := Lib.hid hW0
  have E0 := Lib.hid (E.here HB0.out)
  have HLN := Lib.hid hlen
  have h5n : 5 ≤ n := by have := h.len; omega
  have hnc : n ≤ c := by have := h.len; have := h.cap; omega
  have hs0 : W0.heap.size = w.heap.size + 2 := by rw [← hW0]; simp
  obtain ⟨x2, hx2⟩ : ∃ x, ws[2]? = some x := ⟨_, List.getElem?_eq_getElem (by omega)⟩
  have hwd2 : wd ws 2 = x2 := by unfold wd; rw [List.getD_eq_getElem?_getD, hx2]; rfl
  have c2 : W0.cell? ⟨g, 2, none⟩ = some (.string (str x2)) := HWD.out.at_ 2 _ hx2
  have xb : W0.cell? ⟨w.heap.size, 0, none⟩ = some (.slice (some ⟨g, 0, none⟩) n c) := HX.out.cell 0
  have hg0 : g < W0.heap.size := HWD.out.lt
  have HU := Lib.hid (unhexC x2 W0 (hlen x2 (List.mem_of_getElem? hx2)))
  have HN1 : Hid (∀ (i : Nat), i < 5 → ∀ W, Below W0.heap.size W0 W → Calls Tryz.prog 144 #[.int .i64 i, .pointer (some ⟨w.heap.size, 0, none⟩)] W fun e w' => e = .returned (.int .i64 (numC (wd ws i))) ∧ Below W.heap.size W w') :=
    Lib.hid (fun i hi W hb => guess1_any i w.heap.size g n c ws W (HWD.out.here hb) ((hb.cell (p := ⟨w.heap.size, 0, none⟩) (by show w.heap.size < _; omega)).trans (HX.out.cell 0)) (by omega) HLN.out hn (E0.out.here hb))
  have HX2 := Lib.hid hx2
  have HWD2 := Lib.hid hwd2
  clear hW0 h E hlen hx2 hwd2
  go_enter Tryz.func84, Tryz.ntmps84
  go_upto_region 1 with fail
  rw [HW0.out]
  go_wp2_with fail
  refine HU.out.mono ?_
  rintro e W1 ⟨⟨A2, m2, c2', er, rfl, hbu⟩, hb1⟩
  have c2w : W1.cell? ⟨g, 2, none⟩ = some (.string (str x2)) := (hb1.cell (p := ⟨g, 2, none⟩) hg0).trans c2
  have xbw : W1.cell? ⟨w.heap.size, 0, none⟩ = some (.slice (some ⟨g, 0, none⟩) n c) := (hb1.cell (p := ⟨w.heap.size, 0, none⟩) (by show w.heap.size < _; omega)).trans xb
  have HBU := Lib.hid hbu
  have HB1 := Lib.hid hb1
  have hs1 := hb1.size
  clear hbu hb1 c2
  go_wp2_with fail
  refine (ext_of (HN1.out 1 (by omega) W1 HB1.out)).mono ?_
  rintro e w' ⟨rfl, y1, rfl⟩
  go_wp2_with fail
  refine (Ext.call (HN1.out 1 (by omega) y1.w (HB1.out.trans (y1.below.mono HB1.out.size)))).mono ?_
  rintro e w' ⟨rfl, y2, rfl⟩
  have N1 := Lib.hid (numC_in (wd ws 1))
  obtain ⟨W2, hW2⟩ : ∃ W2, y2.w.alloc (.cells #[.int .i64 6, .int .i64 (numC (wd ws 1)), .int .i64 0, .int .i64 0, .int .i64 (numC (wd ws 1)), .bool true, .int .u8 0, .bool false, .slice none 0 0] 51) = W2 := ⟨_, rfl⟩
  have HPW2 : Hid (Whole W2 y2.w.heap.size 51 #[.int .i64 6, .int .i64 (numC (wd ws 1)), .int .i64 0, .int .i64 0, .int .i64 (numC (wd ws 1)), .bool true, .int .u8 0, .bool false, .slice none 0 0]) := Lib.hid (by rw [← hW2]; exact Whole.new _ _ _)
  have hyb := HB1.out.trans (y2.below.mono HB1.out.size)
  have HBW2 : Hid (Below W0.heap.size W0 W2) := Lib.hid (by rw [← hW2]; exact hyb.alloc hyb.size _)
  have HW2 := Lib.hid hW2
  clear hW2 hyb
  have HG : Hid ((guessA numC 6 ws) = ⟨6, 0, 0, 0, numC (wd ws 1), true, 0, false, []⟩) := Lib.hid (by
    show (⟨6, 0, 0, 0, numC (wd ws 1), decide (wd ws 2 = wUp), 0, false, []⟩ : ActP) = _
    rw [decide_eq_true hu])
  rw [HWD2.out] at hu
  have l1 : (str x2).toList = [117, 112] := by rw [str_toList]; exact hu
  have l2 : ((str x2).toList == [117, 112]) = true := by rw [str_toList]; exact beq_iff_eq.2 hu
  have hgl1 : g < W1.heap.size := by omega
  have hbl1 : w.heap.size < W1.heap.size := by omega
  have h5i : (2 : Int) < (n : Int) := by omega
  have hgl2 : g < y2.w.heap.size := by have := y2.below.size; omega
  have hbl2 : w.heap.size < y2.w.heap.size := by have := y2.below.size; omega
  clear hu
  have HBA : Hid (Calls Tryz.prog 77 #[.agg #[.int .i64 6, .int .i64 (numC (wd ws 1)), .int .i64 0, .int .i64 0, .int .i64 (numC (wd ws 1)), .bool true, .int .u8 0, .bool false, .slice none 0 0]] W2 fun e w' => e = .returned (.agg #[.int .i64 6, .int .i64 0, .int .i64 0, .int .i64 0, .int .i64 (numC (wd ws 1)), .bool true, .int .u8 0, .bool false, .slice none 0 0]) ∧ Below W2.heap.size W2 w') := Lib.hid (by
    have := bare_any ⟨6,  (numC (wd ws 1)),  0,  0,  (numC (wd ws 1)), true, 0, false, []⟩ (.slice none 0 0) W2 ⟨by show (1 : Int) ≤ 6; decide, by show (6 : Int) ≤ 9; decide⟩ (Bs.nil _)
    exact this)
  have HRc := Lib.hid (HR.out.here HBW2.out)
  have Hv := HPW2.out
  have v0 : W2.cell? ⟨y2.w.heap.size, 0, none⟩ = some (.int .i64 6) := Hv.cell 0
  have v1 : W2.cell? ⟨y2.w.heap.size, 1, none⟩ = some (.int .i64 (numC (wd ws 1))) := Hv.cell 1
  have v2 : W2.cell? ⟨y2.w.heap.size, 2, none⟩ = some (.int .i64 0) := Hv.cell 2
  have v3 : W2.cell? ⟨y2.w.heap.size, 3, none⟩ = some (.int .i64 0) := Hv.cell 3
  have v4 : W2.cell? ⟨y2.w.heap.size, 4, none⟩ = some (.int .i64 (numC (wd ws 1))) := Hv.cell 4
  have v5 : W2.cell? ⟨y2.w.heap.size, 5, none⟩ = some (.bool true) := Hv.cell 5
  have v6 : W2.cell? ⟨y2.w.heap.size, 6, none⟩ = some (.int .u8 0) := Hv.cell 6
  have v7 : W2.cell? ⟨y2.w.heap.size, 7, none⟩ = some (.bool false) := Hv.cell 7
  have v8 : W2.cell? ⟨y2.w.heap.size, 8, none⟩ = some (.slice none 0 0) := Hv.cell 8
  have hltv := Hv.lt
  clear Hv
  go_upto_region 13 with fail
  clear l1 l2
  rw [HW2.out]
  go_wp2_with fail
  refine HBA.out.mono ?_
  rintro e w5 ⟨rfl, hb5⟩
  have Hz := HRc.out.here hb5
  have z0 : w5.cell? ⟨w.heap.size + 1, 0, none⟩ = some (.int .i64 0) := Hz.cell 0
  have fz0 : w5.frozen? ⟨w.heap.size + 1, 0, none⟩ = false := Hz.frozen 0
  have z1 : w5.cell? ⟨w.heap.size + 1, 1, none⟩ = some (.int .i64 0) := Hz.cell 1
  have fz1 : w5.frozen? ⟨w.heap.size + 1, 1, none⟩ = false := Hz.frozen 1
  have z2 : w5.cell? ⟨w.heap.size + 1, 2, none⟩ = some (.int .i64 0) := Hz.cell 2
  have fz2 : w5.frozen? ⟨w.heap.size + 1, 2, none⟩ = false := Hz.frozen 2
  have z3 : w5.cell? ⟨w.heap.size + 1, 3, none⟩ = some (.int .i64 0) := Hz.cell 3
  have fz3 : w5.frozen? ⟨w.heap.size + 1, 3, none⟩ = false := Hz.frozen 3
  have z4 : w5.cell? ⟨w.heap.size + 1, 4, none⟩ = some (.int .i64 0) := Hz.cell 4
  have fz4 : w5.frozen? ⟨w.heap.size + 1, 4, none⟩ = false := Hz.frozen 4
  have z5 : w5.cell? ⟨w.heap.size + 1, 5, none⟩ = some (.bool false) := Hz.cell 5
  have fz5 : w5.frozen? ⟨w.heap.size + 1, 5, none⟩ = false := Hz.frozen 5
  have z6 : w5.cell? ⟨w.heap.size + 1, 6, none⟩ = some (.int .u8 0) := Hz.cell 6
  have fz6 : w5.frozen? ⟨w.heap.size + 1, 6, none⟩ = false := Hz.frozen 6
  have z7 : w5.cell? ⟨w.heap.size + 1, 7, none⟩ = some (.bool false) := Hz.cell 7
  have fz7 : w5.frozen? ⟨w.heap.size + 1, 7, none⟩ = false := Hz.frozen 7
  have z8 : w5.cell? ⟨w.heap.size + 1, 8, none⟩ = some (.slice none 0 0) := Hz.cell 8
  have fz8 : w5.frozen? ⟨w.heap.size + 1, 8, none⟩ = false := Hz.frozen 8
  have hltz : w.heap.size + 1 < w5.heap.size := Hz.lt
  have HB5 : Hid (Below w.heap.size w w5) := Lib.hid ((HB0.out.trans (HBW2.out.mono HB0.out.size)).trans (hb5.mono (by have := HBW2.out.size; omega)))
  have HB5' := Lib.hid hb5
  clear hb5 Hz
  go_wp2
  exact bodyPost_ret (v := .agg #[.int .i64 6, .int .i64 0, .int .i64 0, .int .i64 0, .int .i64 (numC (wd ws 1)), .bool true, .int .u8 0, .bool false, .slice none 0 0]) (by simp [results, Tryz.results84, go_sem, z0, z1, z2, z3, z4, z5, z6, z7, z8]) rfl ⟨by rw [HG.out]; exact ⟨.slice none 0 0, rfl, Bs.nil _, BlkFrom.nil _⟩, set9 HB5.out (by omega) _ _ _ _ _ _ _ _ _⟩
set_option maxRecDepth 100000 in
set_option maxHeartbeats 4000000 in
theorem guess_6_false (g n c : Nat) (ws : List (List UInt8)) (w : World) (h : Wds w g n c ws) (h5 : 5 ≤ ws.length) (hlen : ∀ x ∈ ws, x.length ≤ 1000000) (hn : n ≤ 1000000000) (E : Env w) (hu : ¬ wd ws 2 = wUp) :
    Calls Tryz.prog 84 #[.int .i64 6, .slice (some ⟨g, 0, none⟩) n c] w fun e w' => GuessRes (guessA numC 6 ws) w.heap.size e w' ∧ Below w.heap.size w w' := by
  obtain ⟨W0, hW0⟩ : ∃ W0, (w.alloc (.cells #[.slice (some ⟨g, 0, none⟩) n c] 40)).alloc (.cells #[.int .i64 0, .int .i64 0, .int .i64 0, .int .i64 0, .int .i64 0, .bool false, .int .u8 0, .bool false, .slice none 0 0] 51) = W0 := ⟨_, rfl⟩
  have HB0 : Hid (Below w.heap.size w W0) := Lib.hid (by rw [← hW0]; exact ((Below.refl _ _).alloc (Nat.le_refl _) _).alloc (by simp) _)
  have HX : Hid (Whole W0 w.heap.size 40 #[.slice (some ⟨g, 0, none⟩) n c]) := Lib.hid (by rw [← hW0]; exact (Whole.new w _ _).alloc _)
  have HR : Hid (Whole W0 (w.heap.size + 1) 51 #[.int .i64 0, .int .i64 0, .int .i64 0, .int .i64 0, .int .i64 0, .bool false, .int .u8 0, .bool false, .slice none 0 0]) := Lib.hid (by
    rw [← hW0]
    have := Whole.new (w.alloc (.cells #[.slice (some ⟨g, 0, none⟩) n c] 40)) 51 #[.int .i64 0, .int .i64 0, .int .i64 0, .int .i64 0, .int .i64 0, .bool false, .int .u8 0, .bool false, .slice none 0 0]
    simpa using this)
  have HWD := Lib.hid (h.here HB0.out)
  have HW0 := Lib.hid hW0
  have E0 := Lib.hid (E.here HB0.out)
  have HLN := Lib.hid hlen
  have h5n : 5 ≤ n := by have := h.len; omega
  have hnc : n ≤ c := by have := h.len; have := h.cap; omega
  have hs0 : W0.heap.size = w.heap.size + 2 := by rw [← hW0]; simp
  obtain ⟨x2, hx2⟩ : ∃ x, ws[2]? = some x := ⟨_, List.getElem?_eq_getElem (by omega)⟩
  have hwd2 : wd ws 2 = x2 := by unfold wd; rw [List.getD_eq_getElem?_getD, hx2]; rfl
  have c2 : W0.cell? ⟨g, 2, none⟩ = some (.string (str x2)) := HWD.out.at_ 2 _ hx2
  have xb : W0.cell? ⟨w.heap.size, 0, none⟩ = some (.slice (some ⟨g, 0, none⟩) n c) := HX.out.cell 0
  have hg0 : g < W0.heap.size := HWD.out.lt
  have HU := Lib.hid (unhexC x2 W0 (hlen x2 (List.mem_of_getElem? hx2)))
  have HN1 : Hid (∀ (i : Nat), i < 5 → ∀ W, Below W0.heap.size W0 W → Calls Tryz.prog 144 #[.int .i64 i, .pointer (some ⟨w.heap.size, 0, none⟩)] W fun e w' => e = .returned (.int .i64 (numC (wd ws i))) ∧ Below W.heap.size W w') :=
    Lib.hid (fun i hi W hb => guess1_any i w.heap.size g n c ws W (HWD.out.here hb) ((hb.cell (p := ⟨w.heap.size, 0, none⟩) (by show w.heap.size < _; omega)).trans (HX.out.cell 0)) (by omega) HLN.out hn (E0.out.here hb))
  have HX2 := Lib.hid hx2
  have HWD2 := Lib.hid hwd2
  clear hW0 h E hlen hx2 hwd2
  go_enter Tryz.func84, Tryz.ntmps84
  go_upto_region 1 with fail
  rw [HW0.out]
  go_wp2_with fail
  refine HU.out.mono ?_
  rintro e W1 ⟨⟨A2, m2, c2', er, rfl, hbu⟩, hb1⟩
  have c2w : W1.cell? ⟨g, 2, none⟩ = some (.string (str x2)) := (hb1.cell (p := ⟨g, 2, none⟩) hg0).trans c2
  have xbw : W1.cell? ⟨w.heap.size, 0, none⟩ = some (.slice (some ⟨g, 0, none⟩) n c) := (hb1.cell (p := ⟨w.heap.size, 0, none⟩) (by show w.heap.size < _; omega)).trans xb
  have HBU := Lib.hid hbu
  have HB1 := Lib.hid hb1
  have hs1 := hb1.size
  clear hbu hb1 c2
  go_wp2_with fail
  refine (ext_of (HN1.out 1 (by omega) W1 HB1.out)).mono ?_
  rintro e w' ⟨rfl, y1, rfl⟩
  go_wp2_with fail
  refine (Ext.call (HN1.out 1 (by omega) y1.w (HB1.out.trans (y1.below.mono HB1.out.size)))).mono ?_
  rintro e w' ⟨rfl, y2, rfl⟩
  have N1 := Lib.hid (numC_in (wd ws 1))
  obtain ⟨W2, hW2⟩ : ∃ W2, y2.w.alloc (.cells #[.int .i64 6, .int .i64 (numC (wd ws 1)), .int .i64 0, .int .i64 0, .int .i64 (numC (wd ws 1)), .bool false, .int .u8 0, .bool false, .slice none 0 0] 51) = W2 := ⟨_, rfl⟩
  have HPW2 : Hid (Whole W2 y2.w.heap.size 51 #[.int .i64 6, .int .i64 (numC (wd ws 1)), .int .i64 0, .int .i64 0, .int .i64 (numC (wd ws 1)), .bool false, .int .u8 0, .bool false, .slice none 0 0]) := Lib.hid (by rw [← hW2]; exact Whole.new _ _ _)
  have hyb := HB1.out.trans (y2.below.mono HB1.out.size)
  have HBW2 : Hid (Below W0.heap.size W0 W2) := Lib.hid (by rw [← hW2]; exact hyb.alloc hyb.size _)
  have HW2 := Lib.hid hW2
  clear hW2 hyb
  have HG : Hid ((guessA numC 6 ws) = ⟨6, 0, 0, 0, numC (wd ws 1), false, 0, false, []⟩) := Lib.hid (by
    show (⟨6, 0, 0, 0, numC (wd ws 1), decide (wd ws 2 = wUp), 0, false, []⟩ : ActP) = _
    rw [decide_eq_false hu])
  rw [HWD2.out] at hu
  have l1 : ¬ (str x2).toList = [117, 112] := by rw [str_toList]; exact hu
  have l2 : ((str x2).toList == [117, 112]) = false := by rw [str_toList]; exact beq_eq_false_iff_ne.2 hu
  have hgl1 : g < W1.heap.size := by omega
  have hbl1 : w.heap.size < W1.heap.size := by omega
  have h5i : (2 : Int) < (n : Int) := by omega
  have hgl2 : g < y2.w.heap.size := by have := y2.below.size; omega
  have hbl2 : w.heap.size < y2.w.heap.size := by have := y2.below.size; omega
  clear hu
  have HBA : Hid (Calls Tryz.prog 77 #[.agg #[.int .i64 6, .int .i64 (numC (wd ws 1)), .int .i64 0, .int .i64 0, .int .i64 (numC (wd ws 1)), .bool false, .int .u8 0, .bool false, .slice none 0 0]] W2 fun e w' => e = .returned (.agg #[.int .i64 6, .int .i64 0, .int .i64 0, .int .i64 0, .int .i64 (numC (wd ws 1)), .bool false, .int .u8 0, .bool false, .slice none 0 0]) ∧ Below W2.heap.size W2 w') := Lib.hid (by
    have := bare_any ⟨6,  (numC (wd ws 1)),  0,  0,  (numC (wd ws 1)), false, 0, false, []⟩ (.slice none 0 0) W2 ⟨by show (1 : Int) ≤ 6; decide, by show (6 : Int) ≤ 9; decide⟩ (Bs.nil _)
    exact this)
  have HRc := Lib.hid (HR.out.here HBW2.out)
  have Hv := HPW2.out
  have v0 : W2.cell? ⟨y2.w.heap.size, 0, none⟩ = some (.int .i64 6) := Hv.cell 0
  have v1 : W2.cell? ⟨y2.w.heap.size, 1, none⟩ = some (.int .i64 (numC (wd ws 1))) := Hv.cell 1
  have v2 : W2.cell? ⟨y2.w.heap.size, 2, none⟩ = some (.int .i64 0) := Hv.cell 2
  have v3 : W2.cell? ⟨y2.w.heap.size, 3, none⟩ = some (.int .i64 0) := Hv.cell 3
  have v4 : W2.cell? ⟨y2.w.heap.size, 4, none⟩ = some (.int .i64 (numC (wd ws 1))) := Hv.cell 4
  have v5 : W2.cell? ⟨y2.w.heap.size, 5, none⟩ = some (.bool false) := Hv.cell 5
  have v6 : W2.cell? ⟨y2.w.heap.size, 6, none⟩ = some (.int .u8 0) := Hv.cell 6
  have v7 : W2.cell? ⟨y2.w.heap.size, 7, none⟩ = some (.bool false) := Hv.cell 7
  have v8 : W2.cell? ⟨y2.w.heap.size, 8, none⟩ = some (.slice none 0 0) := Hv.cell 8
  have hltv := Hv.lt
  clear Hv
  go_upto_region 13 with fail
  clear l1 l2
  rw [HW2.out]
  go_wp2_with fail
  refine HBA.out.mono ?_
  rintro e w5 ⟨rfl, hb5⟩
  have Hz := HRc.out.here hb5
  have z0 : w5.cell? ⟨w.heap.size + 1, 0, none⟩ = some (.int .i64 0) := Hz.cell 0
  have fz0 : w5.frozen? ⟨w.heap.size + 1, 0, none⟩ = false := Hz.frozen 0
  have z1 : w5.cell? ⟨w.heap.size + 1, 1, none⟩ = some (.int .i64 0) := Hz.cell 1
  have fz1 : w5.frozen? ⟨w.heap.size + 1, 1, none⟩ = false := Hz.frozen 1
  have z2 : w5.cell? ⟨w.heap.size + 1, 2, none⟩ = some (.int .i64 0) := Hz.cell 2
  have fz2 : w5.frozen? ⟨w.heap.size + 1, 2, none⟩ = false := Hz.frozen 2
  have z3 : w5.cell? ⟨w.heap.size + 1, 3, none⟩ = some (.int .i64 0) := Hz.cell 3
  have fz3 : w5.frozen? ⟨w.heap.size + 1, 3, none⟩ = false := Hz.frozen 3
  have z4 : w5.cell? ⟨w.heap.size + 1, 4, none⟩ = some (.int .i64 0) := Hz.cell 4
  have fz4 : w5.frozen? ⟨w.heap.size + 1, 4, none⟩ = false := Hz.frozen 4
  have z5 : w5.cell? ⟨w.heap.size + 1, 5, none⟩ = some (.bool false) := Hz.cell 5
  have fz5 : w5.frozen? ⟨w.heap.size + 1, 5, none⟩ = false := Hz.frozen 5
  have z6 : w5.cell? ⟨w.heap.size + 1, 6, none⟩ = some (.int .u8 0) := Hz.cell 6
  have fz6 : w5.frozen? ⟨w.heap.size + 1, 6, none⟩ = false := Hz.frozen 6
  have z7 : w5.cell? ⟨w.heap.size + 1, 7, none⟩ = some (.bool false) := Hz.cell 7
  have fz7 : w5.frozen? ⟨w.heap.size + 1, 7, none⟩ = false := Hz.frozen 7
  have z8 : w5.cell? ⟨w.heap.size + 1, 8, none⟩ = some (.slice none 0 0) := Hz.cell 8
  have fz8 : w5.frozen? ⟨w.heap.size + 1, 8, none⟩ = false := Hz.frozen 8
  have hltz : w.heap.size + 1 < w5.heap.size := Hz.lt
  have HB5 : Hid (Below w.heap.size w w5) := Lib.hid ((HB0.out.trans (HBW2.out.mono HB0.out.size)).trans (hb5.mono (by have := HBW2.out.size; omega)))
  have HB5' := Lib.hid hb5
  clear hb5 Hz
  go_wp2
  exact bodyPost_ret (v := .agg #[.int .i64 6, .int .i64 0, .int .i64 0, .int .i64 0, .int .i64 (numC (wd ws 1)), .bool false, .int .u8 0, .bool false, .slice none 0 0]) (by simp [results, Tryz.results84, go_sem, z0, z1, z2, z3, z4, z5, z6, z7, z8]) rfl ⟨by rw [HG.out]; exact ⟨.slice none 0 0, rfl, Bs.nil _, BlkFrom.nil _⟩, set9 HB5.out (by omega) _ _ _ _ _ _ _ _ _⟩
theorem guess_any (k : Nat) (h1 : 1 ≤ k) (h9 : k ≤ 9) (g n c : Nat) (ws : List (List UInt8)) (w : World) (h : Wds w g n c ws) (h5 : 5 ≤ ws.length) (hlen : ∀ x ∈ ws, x.length ≤ 1000000) (hn : n ≤ 1000000000) (E : Env w) :
    Calls Tryz.prog 84 #[.int .i64 (k : Int), .slice (some ⟨g, 0, none⟩) n c] w fun e w' => GuessRes (guessA numC k ws) w.heap.size e w' ∧ Below w.heap.size w w' := by
  rcases (by omega : k = 1 ∨ k = 2 ∨ k = 3 ∨ k = 4 ∨ k = 5 ∨ k = 6 ∨ k = 7 ∨ k = 8 ∨ k = 9) with rfl | rfl | rfl | rfl | rfl | rfl | rfl | rfl | rfl
  · exact guess_1 g n c ws w h h5 hlen hn E
  · exact guess_2 g n c ws w h h5 hlen hn E
  · exact guess_3 g n c ws w h h5 hlen hn E
  · exact guess_4 g n c ws w h h5 hlen hn E
  · exact guess_5 g n c ws w h h5 hlen hn E
  · by_cases hu : wd ws 2 = wUp
    · exact guess_6_true g n c ws w h h5 hlen hn E hu
    · exact guess_6_false g n c ws w h h5 hlen hn E hu
  · exact guess_7 g n c ws w h h5 hlen hn E
  · exact guess_8 g n c ws w h h5 hlen hn E
  · exact guess_9 g n c ws w h h5 hlen hn E
end Go.Proofs.YtfbangojgjcbcaaGreatDoor
