/- Part 13 of the proof: Unhex, ActG. -/
import Derived.WalkMore
import Derived.Test.YtfbangojgjcbcaaGreatDoorST02
import Derived.Test.YtfbangojgjcbcaaGreatDoorST10
import Derived.Test.YtfbangojgjcbcaaGreatDoorST11
import Derived.Test.YtfbangojgjcbcaaGreatDoorST12
namespace Go.Proofs.YtfbangojgjcbcaaGreatDoor
open Go.RowKit Pl
theorem index_some (b : UInt8) (p : Nat) (w : World) (h : dig b = some p) :
    Calls Tryz.prog 177 #[.string ⟨#[48, 49, 50, 51, 52, 53, 54, 55, 56, 57, 97, 98, 99, 100, 101, 102]⟩, .int .u8 (b.toNat : Int)] w fun e w' => e = .returned (.int .i64 (p : Int)) ∧ w = w' := by
  have key := Tryz.strings_IndexByte ⟨#[48, 49, 50, 51, 52, 53, 54, 55, 56, 57, 97, 98, 99, 100, 101, 102]⟩ (b.toNat : Int) w
  have e := indexByte_dig b
  rw [h] at e
  refine key.mono fun e' w' ⟨h1, h2⟩ => ⟨?_, h2.symm⟩
  rw [h1, show ((b.toNat : Int).toNat.toUInt8) = b from by simp]
  exact congrArg (fun z => Ending.returned (.int .i64 z)) e
theorem index_none (b : UInt8) (w : World) (h : dig b = none) :
    Calls Tryz.prog 177 #[.string ⟨#[48, 49, 50, 51, 52, 53, 54, 55, 56, 57, 97, 98, 99, 100, 101, 102]⟩, .int .u8 (b.toNat : Int)] w fun e w' => e = .returned (.int .i64 (-1)) ∧ w = w' := by
  have key := Tryz.strings_IndexByte ⟨#[48, 49, 50, 51, 52, 53, 54, 55, 56, 57, 97, 98, 99, 100, 101, 102]⟩ (b.toNat : Int) w
  have e := indexByte_dig b
  rw [h] at e
  refine key.mono fun e' w' ⟨h1, h2⟩ => ⟨?_, h2.symm⟩
  rw [h1, show ((b.toNat : Int).toNat.toUInt8) = b from by simp]
  exact congrArg (fun z => Ending.returned (.int .i64 z)) e
/-- What IndexByte of the digits gives. -/
def digI (b : UInt8) : Int := match dig b with | some p => p | none => -1
theorem index_any (b : UInt8) (w : World) :
    Calls Tryz.prog 177 #[.string ⟨#[48, 49, 50, 51, 52, 53, 54, 55, 56, 57, 97, 98, 99, 100, 101, 102]⟩, .int .u8 (b.toNat : Int)] w fun e w' => e = .returned (.int .i64 (digI b)) ∧ w = w' := by
  unfold digI
  cases h : dig b with
  | some p => exact index_some b p w h
  | none => exact index_none b w h
def UnRes (l : List UInt8) (base : Nat) (e : Ending) (w' : World) : Prop :=
  (∃ m v, unhex l = some m ∧ e = .returned (.tuple #[v, .int .i64 0]) ∧ w'.ownsRow base 5 1 v m.length (cellsB m)) ∨
  (unhex l = none ∧ e = .returned (.tuple #[.slice none 0 0, .int .i64 4]))
theorem index_at (a : UInt8) (d : Int) (w : World) (h : digI a = d) :
    Calls Tryz.prog 177 #[.string ⟨#[48, 49, 50, 51, 52, 53, 54, 55, 56, 57, 97, 98, 99, 100, 101, 102]⟩, .int .u8 (a.toNat : Int)] w fun e w' => e = .returned (.int .i64 d) ∧ w = w' := h ▸ index_any a w
theorem digI_some {a : UInt8} {p : Nat} (h : dig a = some p) : digI a = p := by unfold digI; rw [h]
theorem digI_none {a : UInt8} (h : dig a = none) : digI a = -1 := by unfold digI; rw [h]
theorem or16 (p q : Nat) (hp : p < 16) (hq : q < 16) : bits .or .i64 ((p : Int) * 16) (q : Int) % 256 = ((UInt8.ofNat (16 * p + q)).toNat : Int) := by
  have k : ∀ p q : Fin 16, bits .or .i64 ((p.1 : Int) * 16) (q.1 : Int) % 256 = ((UInt8.ofNat (16 * p.1 + q.1)).toNat : Int) := by decide +kernel
  exact k ⟨p, hp⟩ ⟨q, hq⟩
theorem unhex_rel {w wr w1 : World} {acc : List UInt8} {v v' : Value} {x : UInt8} (hb : Below w.heap.size w wr) (hown : wr.ownsRow w.heap.size 5 1 v acc.length (cellsB acc))
    (hown' : w1.ownsRow w.heap.size 5 1 v' (acc.length + 1) (cellsB acc ++ [.int .u8 (x.toNat : Int)])) (hg : wr.grownBy w1 v.ownBlock) :
    w1.ownsRow w.heap.size 5 1 v' (acc ++ [x]).length (cellsB (acc ++ [x])) ∧ Below w.heap.size w w1 := by
  refine ⟨?_, hb.grown hg hb.size fun g hg => (hown.lt g hg).1⟩
  rw [cellsB_append, List.length_append]; exact hown'
set_option maxRecDepth 100000 in
set_option maxHeartbeats 1000000 in
theorem unhex_any (l : List UInt8) (w : World) (hl : l.length ≤ 1000000) :
    Calls Tryz.prog 145 #[.string (str l)] w fun e w' => UnRes l w.heap.size e w' ∧ Below w.heap.size w w' := by
  have hsz : (str l).size = l.length := str_size l
  by_cases hev : l.length % 2 = 0
  · have dev : (((l.length : Int) % 2) == 0) = true := by simp; omega
    go_enter Tryz.func145, Tryz.ntmps145
    go_wp2
    go_step3
    go_wp2
    go_step3
    go_wp2
    go_loopw [4, 5, 6] (fun v g i wr => ∃ (j : Nat) (acc : List UInt8), 2 * j ≤ l.length ∧ acc.length = j ∧ Hid (UnInv l (2 * j) acc) ∧ g = .bool true ∧ i = .int .i64 ((2 * j : Nat) : Int) ∧ wr.ownsRow w.heap.size 5 1 v acc.length (cellsB acc) ∧ Below w.heap.size w wr) (fun _ _ i _ => l.length - (intOf i).toNat)
    case atStart => exact ⟨0, [], by omega, rfl, Lib.hid (UnInv.start l), by first | rfl | (simp; done) | (simp; omega), rfl, World.ownsRow_nil _ _ _ _, Below.refl _ _⟩
    case round =>
      obtain ⟨j, acc, hj, hacc, HI, rfl, rfl, hown, hb⟩ := hrel
      have hbs := hb.size
      obtain ⟨i, hi⟩ : ∃ i, i = 2 * j := ⟨_, rfl⟩
      rw [← hi] at hj HI ⊢
      by_cases hlt : i < l.length
      · have hlt1 : i + 1 < l.length := by omega
        obtain ⟨a, ha⟩ : ∃ a, l[i]'hlt = a := ⟨_, rfl⟩
        obtain ⟨b, hb1⟩ : ∃ b, l[i + 1]'hlt1 = b := ⟨_, rfl⟩
        have HG := Lib.hid (fun p q => UnInv.good HI.out hlt1 ha hb1 (p := p) (q := q))
        have HN := Lib.hid (UnInv.bad HI.out hlt1 ha hb1)
        have s0 := str_lt hlt
        have s1 := str_lt hlt1
        have ea : (str l)[i]'s0 = a := ha
        have eb : (str l)[i + 1]'s1 = b := hb1
        have d0 : (i : Int) < (l.length : Int) := by omega
        have d1 : (i : Int) + 1 < (l.length : Int) := by omega
        have hjl : acc.length ≤ 1000000 := by omega
        have HJ := Lib.hid hi
        clear ha hb1 HI hi
        cases hda : dig a with
        | none =>
          have HD := Lib.hid (digI_none hda)
          have HZ := Lib.hid (HN.out (.inl hda))
          obtain ⟨db, hdb⟩ : ∃ d, digI b = d := ⟨_, rfl⟩
          have HD2 := Lib.hid hdb
          clear hda HG HN hdb
          go_wp2_with fail
          refine wp_region_ext (by kernel_rfl) (by kernel_rfl) ?_
          repeat (go_big_quiet_step (first | (go_at_call 177; exact Ext.callq (index_at a _ _ HD.out)) | (go_at_call 177; exact Ext.callq (index_at b _ _ HD2.out))))
          refine wpQuiet_nil ?_
          rintro _ ⟨y, rfl⟩
          go_wp2
          try rw [Exit.noGoto_ret]
          go_ret2
          exact ⟨.inr ⟨HZ.out, rfl⟩, Ext.lift y hb⟩
        | some p =>
          cases hdb : dig b with
          | none =>
            have HD := Lib.hid (digI_some hda)
            have HD2 := Lib.hid (digI_none hdb)
            have HZ := Lib.hid (HN.out (.inr hdb))
            clear hda HG HN hdb
            go_wp2_with fail
            refine wp_region_ext (by kernel_rfl) (by kernel_rfl) ?_
            repeat (go_big_quiet_step (first | (go_at_call 177; exact Ext.callq (index_at a _ _ HD.out)) | (go_at_call 177; exact Ext.callq (index_at b _ _ HD2.out))))
            refine wpQuiet_nil ?_
            rintro _ ⟨y, rfl⟩
            go_wp2
            try rw [Exit.noGoto_ret]
            go_ret2
            exact ⟨.inr ⟨HZ.out, rfl⟩, Ext.lift y hb⟩
          | some q =>
            have HD := Lib.hid (digI_some hda)
            have HD2 := Lib.hid (digI_some hdb)
            have HI2 := Lib.hid (HG.out p q hda hdb)
            have hp := dig_lt hda
            have hq := dig_lt hdb
            clear hda HG HN hdb
            go_wp2_with fail
            refine wp_region_ext (by kernel_rfl) (by kernel_rfl) ?_
            repeat (go_big_quiet_step (first | (go_at_call 177; exact Ext.callq (index_at a _ _ HD.out)) | (go_at_call 177; exact Ext.callq (index_at b _ _ HD2.out))))
            refine wpQuiet_nil ?_
            rintro _ ⟨y, rfl⟩
            have hown1 := own_below hown y.below
            have hb1 := Ext.lift y hb
            have hbs1 := hb1.size
            clear hown hb
            have hor := or16 p q hp hq
            go_wp2_with (at_builtin; refine wpList_push rfl _ _ 37 rfl w.heap.size 5 info_u8 rfl (by decide) Tryz.underlying37 _ _ _ rfl hown1 rfl rfl (by omega) hbs1 ?_)
            intro v' w1 hown' hg
            rw [← hacc, show ((16 * (p : Int) + (q : Int)) % 256) = ((UInt8.ofNat (16 * p + q)).toNat : Int) from by simp] at hown'
            have R := unhex_rel hb1 hown1 hown' hg
            have HR := Lib.hid R.1
            have HR2 := Lib.hid R.2
            clear hown1 hown' hg hb1 R
            go_wp2
            go_roundw
            case rel => exact ⟨j + 1, _, by have := HJ.out; omega, by simp [hacc], Lib.hid (by have := HI2.out; rw [HJ.out] at this; exact this), rfl, by have := HJ.out; go_num, HR.out, HR2.out⟩
            case measure => simp [intOf]; omega
      · have hi' : i = l.length := by omega
        have HZ : Hid (unhex l = some acc) := Lib.hid (by have := HI.out; rw [hi'] at this; exact this.done)
        have d0 : decide ((i : Int) < (l.length : Int)) = false := by simp; omega
        clear HI hi
        go_wp2
        try rw [Exit.noGoto_ret]
        go_ret2
        exact ⟨.inl ⟨acc, _, HZ.out, rfl, hown⟩, hb⟩
  · have dev : (((l.length : Int) % 2) == 0) = false := by simp; omega
    have HZ := Lib.hid (unhex_odd l (by omega))
    go_enter Tryz.func145, Tryz.ntmps145
    go_wp2
    go_step3
    go_wp2
    go_step3
    go_wp2
    go_loopw [4, 5, 6] (fun v g i wr => g = .bool false ∧ wr = w) (fun _ _ i _ => l.length - (intOf i).toNat)
    case atStart => exact ⟨by first | rfl | simp [dev], rfl⟩
    case round =>
      obtain ⟨rfl, rfl⟩ := hrel
      go_wp2
      try rw [Exit.noGoto_ret]
      go_ret2
      exact ⟨.inr ⟨HZ.out, rfl⟩, Below.refl _ _⟩
end Go.Proofs.YtfbangojgjcbcaaGreatDoor
namespace Go.Proofs.YtfbangojgjcbcaaGreatDoor
open Go.RowKit Pl
theorem cActText_yes (a : ActP) (bv : Value) (w : World) (h : Bs w bv a.bytes) (hi : InA a) (hm : mayA a = true) (hl : a.bytes.length ≤ 100000) (E : Env w) :
    Calls Tryz.prog 30 #[actV a bv] w fun e w' => e = .returned (.tuple #[.string (str (actText a)), .int .i64 0]) ∧ Below w.heap.size w w' := by
  have hk : K9 a := by unfold mayA at hm; simp only [Bool.and_eq_true, decide_eq_true_eq] at hm; exact ⟨hm.1.1.1, hm.1.1.2⟩
  have HM := Lib.hid (fun W (hb : Below w.heap.size w W) => cmayAct_any a bv W (h.below hb) (by omega))
  rw [hm] at HM
  have HT := Lib.hid (fun W (hb : Below w.heap.size w W) => cactText_any a bv W hk (h.below hb) hi hl (E.here hb))
  obtain ⟨A, c, rfl, -⟩ := h
  obtain ⟨W0, hW0⟩ : ∃ W0, w.alloc (.cells #[.int .i64 a.kind, .int .i64 a.node, .int .i64 a.port, .int .i64 a.cost, .int .i64 a.n, .bool a.up, .int .u8 (a.by_.toNat : Int), .bool a.unread, .slice A a.bytes.length c] 51) = W0 := ⟨_, rfl⟩
  have HB0 : Hid (Below w.heap.size w W0) := Lib.hid (by rw [← hW0]; exact (Below.refl _ _).alloc (Nat.le_refl _) _)
  have HX : Whole W0 w.heap.size 51 #[.int .i64 a.kind, .int .i64 a.node, .int .i64 a.port, .int .i64 a.cost, .int .i64 a.n, .bool a.up, .int .u8 (a.by_.toNat : Int), .bool a.unread, .slice A a.bytes.length c] := by rw [← hW0]; exact Whole.new w _ _
  have hlt1 := HX.lt
  have y0 : W0.cell? ⟨w.heap.size, 0, none⟩ = some (.int .i64 a.kind) := HX.cell 0
  have y1 : W0.cell? ⟨w.heap.size, 1, none⟩ = some (.int .i64 a.node) := HX.cell 1
  have y2 : W0.cell? ⟨w.heap.size, 2, none⟩ = some (.int .i64 a.port) := HX.cell 2
  have y3 : W0.cell? ⟨w.heap.size, 3, none⟩ = some (.int .i64 a.cost) := HX.cell 3
  have y4 : W0.cell? ⟨w.heap.size, 4, none⟩ = some (.int .i64 a.n) := HX.cell 4
  have y5 : W0.cell? ⟨w.heap.size, 5, none⟩ = some (.bool a.up) := HX.cell 5
  have y6 : W0.cell? ⟨w.heap.size, 6, none⟩ = some (.int .u8 (a.by_.toNat : Int)) := HX.cell 6
  have y7 : W0.cell? ⟨w.heap.size, 7, none⟩ = some (.bool a.unread) := HX.cell 7
  have y8 : W0.cell? ⟨w.heap.size, 8, none⟩ = some (.slice A a.bytes.length c) := HX.cell 8
  have HW0 := Lib.hid hW0
  clear hW0 HX hk hm hi E
  go_enter Tryz.func30, Tryz.ntmps30
  go_upto_region 1 with fail
  rw [HW0.out]
  go_wp2_with fail
  refine (ext_of (HM.out W0 HB0.out)).mono ?_
  rintro e w' ⟨rfl, x, rfl⟩
  go_wp2_with fail
  refine (Ext.call (HT.out x.w (HB0.out.trans (x.below.mono HB0.out.size)))).mono ?_
  rintro e w' ⟨rfl, y, rfl⟩
  go_wp2
  go_ret2
  exact ⟨rfl, HB0.out.trans (y.below.mono HB0.out.size)⟩
theorem cActText_no (a : ActP) (bv : Value) (w : World) (h : Bs w bv a.bytes) (hm : mayA a = false) (hl : a.bytes.length ≤ 1000000000) :
    Calls Tryz.prog 30 #[actV a bv] w fun e w' => e = .returned (.tuple #[.string (str []), .int .i64 2]) ∧ Below w.heap.size w w' := by
  have HM := Lib.hid (fun W (hb : Below w.heap.size w W) => cmayAct_any a bv W (h.below hb) hl)
  rw [hm] at HM
  obtain ⟨A, c, rfl, -⟩ := h
  clear hm
  go_enter Tryz.func30, Tryz.ntmps30
  go_wp2_with fail
  refine (HM.out _ ((Below.refl _ _).alloc (Nat.le_refl _) _)).mono ?_
  rintro e w' ⟨rfl, hb⟩
  have HB := Lib.hid hb
  clear hb
  go_wp2
  go_ret2
  exact ⟨rfl, ((Below.refl _ _).alloc (Nat.le_refl _) _).trans (HB.out.mono (by simp))⟩
/-- A slice of words. -/
structure Wds (w : World) (g n c : Nat) (ws : List (List UInt8)) : Prop where
  len : n = ws.length
  cap : ws.length ≤ c
  lt : g < w.heap.size
  at_ : ∀ j x, ws[j]? = some x → w.cell? ⟨g, j, none⟩ = some (.string (str x))
theorem Wds.here {w w' : World} {g n c : Nat} {ws : List (List UInt8)} (h : Wds w g n c ws) (hb : Below w.heap.size w w') : Wds w' g n c ws :=
  ⟨h.len, h.cap, Nat.lt_of_lt_of_le h.lt hb.size, fun j x hx => (hb.cell h.lt).trans (h.at_ j x hx)⟩
theorem guess1_any (i : Nat) (R g n c : Nat) (ws : List (List UInt8)) (w : World) (h : Wds w g n c ws) (hR : w.cell? ⟨R, 0, none⟩ = some (.slice (some ⟨g, 0, none⟩) n c)) (hi : i < ws.length) (hlen : ∀ x ∈ ws, x.length ≤ 1000000) (_hn : n ≤ 1000000000) (E : Env w) :
    Calls Tryz.prog 144 #[.int .i64 i, .pointer (some ⟨R, 0, none⟩)] w fun e w' => e = .returned (.int .i64 (numC (wd ws i))) ∧ Below w.heap.size w w' := by
  obtain ⟨x, hx⟩ : ∃ x, ws[i]? = some x := ⟨_, List.getElem?_eq_getElem hi⟩
  have hc := h.at_ i x hx
  have hwd : wd ws i = x := by unfold wd; rw [List.getD_eq_getElem?_getD, hx]; rfl
  rw [hwd]
  have HC := Lib.hid (cnum_any x w (hlen x (List.mem_of_getElem? hx)) E)
  have hin : i < n := by have := h.len; omega
  have hcap : n ≤ c := by have := h.cap; have := h.len; omega
  clear hx hwd hi h E
  go_enter Tryz.func144, Tryz.ntmps144
  go_wp2_with fail
  refine HC.out.mono ?_
  rintro e w' ⟨rfl, hb⟩
  have HB := Lib.hid hb
  clear hb
  go_wp2
  go_ret
  exact ⟨rfl, HB.out⟩
end Go.Proofs.YtfbangojgjcbcaaGreatDoor
