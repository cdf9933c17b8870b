/- Contract of wire.Unhex. -/
import Derived.Test.YteafakpipbhioaaDoorPlainU
import Derived.Test.YteafakpipbhioaaDoorAddrR
import Derived.Test.YteafakpipbhioaaDoorHexR
import Derived.WalkMore
namespace Go.Proofs.YteafakpipbhioaaDoor
open Go.RowKit Pl

theorem index_some (b : UInt8) (p : Nat) (w : World) (h : dig b = some p) :
    Calls Tryd.prog 76 #[.string ⟨#[48, 49, 50, 51, 52, 53, 54, 55, 56, 57, 97, 98, 99, 100, 101, 102]⟩, .int .u8 (b.toNat : Int)] w fun e w' => e = .returned (.int .i64 (p : Int)) ∧ w = w' := by
  have key := Tryd.strings_IndexByte ⟨#[48, 49, 50, 51, 52, 53, 54, 55, 56, 57, 97, 98, 99, 100, 101, 102]⟩ (b.toNat : Int) w
  have e := indexByte_dig b
  rw [h] at e
  refine key.mono fun e' w' ⟨h1, h2⟩ => ⟨?_, h2.symm⟩
  rw [h1, show ((b.toNat : Int).toNat.toUInt8) = b from by simp]
  exact congrArg (fun z => Ending.returned (.int .i64 z)) e
theorem index_none (b : UInt8) (w : World) (h : dig b = none) :
    Calls Tryd.prog 76 #[.string ⟨#[48, 49, 50, 51, 52, 53, 54, 55, 56, 57, 97, 98, 99, 100, 101, 102]⟩, .int .u8 (b.toNat : Int)] w fun e w' => e = .returned (.int .i64 (-1)) ∧ w = w' := by
  have key := Tryd.strings_IndexByte ⟨#[48, 49, 50, 51, 52, 53, 54, 55, 56, 57, 97, 98, 99, 100, 101, 102]⟩ (b.toNat : Int) w
  have e := indexByte_dig b
  rw [h] at e
  refine key.mono fun e' w' ⟨h1, h2⟩ => ⟨?_, h2.symm⟩
  rw [h1, show ((b.toNat : Int).toNat.toUInt8) = b from by simp]
  exact congrArg (fun z => Ending.returned (.int .i64 z)) e
/-- What IndexByte of the digits gives. -/
def digI (b : UInt8) : Int := match dig b with | some p => p | none => -1
theorem index_any (b : UInt8) (w : World) :
    Calls Tryd.prog 76 #[.string ⟨#[48, 49, 50, 51, 52, 53, 54, 55, 56, 57, 97, 98, 99, 100, 101, 102]⟩, .int .u8 (b.toNat : Int)] w fun e w' => e = .returned (.int .i64 (digI b)) ∧ w = w' := by
  unfold digI
  cases h : dig b with
  | some p => exact index_some b p w h
  | none => exact index_none b w h

def UnRes (l : List UInt8) (base : Nat) (e : Ending) (w' : World) : Prop :=
  (∃ m v, unhex l = some m ∧ e = .returned (.tuple #[v, .int .i64 0]) ∧ w'.ownsRow base 5 1 v m.length (cellsB m)) ∨
  (unhex l = none ∧ e = .returned (.tuple #[.slice none 0 0, .int .i64 4]))

theorem index_at (a : UInt8) (d : Int) (w : World) (h : digI a = d) :
    Calls Tryd.prog 76 #[.string ⟨#[48, 49, 50, 51, 52, 53, 54, 55, 56, 57, 97, 98, 99, 100, 101, 102]⟩, .int .u8 (a.toNat : Int)] w fun e w' => e = .returned (.int .i64 d) ∧ w = w' := h ▸ index_any a w
theorem digI_some {a : UInt8} {p : Nat} (h : dig a = some p) : digI a = p := by unfold digI; rw [h]
theorem digI_none {a : UInt8} (h : dig a = none) : digI a = -1 := by unfold digI; rw [h]

theorem or16 (p q : Nat) (hp : p < 16) (hq : q < 16) : bits .or .i64 ((p : Int) * 16) (q : Int) % 256 = ((UInt8.ofNat (16 * p + q)).toNat : Int) := by
  have k : ∀ p q : Fin 16, bits .or .i64 ((p.1 : Int) * 16) (q.1 : Int) % 256 = ((UInt8.ofNat (16 * p.1 + q.1)).toNat : Int) := by decide +kernel
  exact k ⟨p, hp⟩ ⟨q, hq⟩
theorem unhex_rel {w wr w1 : World} {acc : List UInt8} {v v' : Value} {x : UInt8} (hb : Below w.heap.size w wr) (hown : wr.ownsRow w.heap.size 5 1 v acc.length (cellsB acc))
    (hown' : w1.ownsRow w.heap.size 5 1 v' (acc.length + 1) (cellsB acc ++ [.int .u8 (x.toNat : Int)])) (hg : wr.grownBy w1 v.ownBlock) :
    w1.ownsRow w.heap.size 5 1 v' (acc ++ [x]).length (cellsB (acc ++ [x])) ∧ Below w.heap.size w w1 := by
  refine ⟨?_, hb.grown hg hb.size fun g hg => (hown.lt g hg).1⟩
  rw [cellsB_append, List.length_append]; exact hown'

set_option maxRecDepth 100000 in
set_option maxHeartbeats 1000000 in
theorem unhex_any (l : List UInt8) (w : World) (hl : l.length ≤ 1000000) :
    Calls Tryd.prog 32 #[.string (str l)] w fun e w' => UnRes l w.heap.size e w' ∧ Below w.heap.size w w' := by
  have hsz : (str l).size = l.length := str_size l
  by_cases hev : l.length % 2 = 0
  · have dev : (((l.length : Int) % 2) == 0) = true := by simp; omega
    go_enter Tryd.func32, Tryd.ntmps32
    go_wp2
    go_step3
    go_wp2
    go_step3
    go_wp2
    go_loopw [4, 5, 6] (fun v g i wr => ∃ (j : Nat) (acc : List UInt8), 2 * j ≤ l.length ∧ acc.length = j ∧ Hid (UnInv l (2 * j) acc) ∧ g = .bool true ∧ i = .int .i64 ((2 * j : Nat) : Int) ∧ wr.ownsRow w.heap.size 5 1 v acc.length (cellsB acc) ∧ Below w.heap.size w wr) (fun _ _ i _ => l.length - (intOf i).toNat)
    case atStart => exact ⟨0, [], by omega, rfl, Lib.hid (UnInv.start l), by first | rfl | (simp; done) | (simp; omega), rfl, World.ownsRow_nil _ _ _ _, Below.refl _ _⟩
    case round =>
      obtain ⟨j, acc, hj, hacc, HI, rfl, rfl, hown, hb⟩ := hrel
      have hbs := hb.size
      obtain ⟨i, hi⟩ : ∃ i, i = 2 * j := ⟨_, rfl⟩
      rw [← hi] at hj HI ⊢
      by_cases hlt : i < l.length
      · have hlt1 : i + 1 < l.length := by omega
        obtain ⟨a, ha⟩ : ∃ a, l[i]'hlt = a := ⟨_, rfl⟩
        obtain ⟨b, hb1⟩ : ∃ b, l[i + 1]'hlt1 = b := ⟨_, rfl⟩
        have HG := Lib.hid (fun p q => UnInv.good HI.out hlt1 ha hb1 (p := p) (q := q))
        have HN := Lib.hid (UnInv.bad HI.out hlt1 ha hb1)
        have s0 := str_lt hlt
        have s1 := str_lt hlt1
        have ea : (str l)[i]'s0 = a := ha
        have eb : (str l)[i + 1]'s1 = b := hb1
        have d0 : (i : Int) < (l.length : Int) := by omega
        have d1 : (i : Int) + 1 < (l.length : Int) := by omega
        have hjl : acc.length ≤ 1000000 := by omega
        have HJ := Lib.hid hi
        clear ha hb1 HI hi
        cases hda : dig a with
        | none =>
          have HD := Lib.hid (digI_none hda)
          have HZ := Lib.hid (HN.out (.inl hda))
          obtain ⟨db, hdb⟩ : ∃ d, digI b = d := ⟨_, rfl⟩
          have HD2 := Lib.hid hdb
          clear hda HG HN hdb
          go_wp2_with fail
          refine wp_region_ext (by kernel_rfl) (by kernel_rfl) ?_
          repeat (go_big_quiet_step (first | (go_at_call 76; exact Ext.callq (index_at a _ _ HD.out)) | (go_at_call 76; exact Ext.callq (index_at b _ _ HD2.out))))
          refine wpQuiet_nil ?_
          rintro _ ⟨y, rfl⟩
          go_wp2
          try rw [Exit.noGoto_ret]
          go_ret2
          exact ⟨.inr ⟨HZ.out, rfl⟩, Ext.lift y hb⟩
        | some p =>
          cases hdb : dig b with
          | none =>
            have HD := Lib.hid (digI_some hda)
            have HD2 := Lib.hid (digI_none hdb)
            have HZ := Lib.hid (HN.out (.inr hdb))
            clear hda HG HN hdb
            go_wp2_with fail
            refine wp_region_ext (by kernel_rfl) (by kernel_rfl) ?_
            repeat (go_big_quiet_step (first | (go_at_call 76; exact Ext.callq (index_at a _ _ HD.out)) | (go_at_call 76; exact Ext.callq (index_at b _ _ HD2.out))))
            refine wpQuiet_nil ?_
            rintro _ ⟨y, rfl⟩
            go_wp2
            try rw [Exit.noGoto_ret]
            go_ret2
            exact ⟨.inr ⟨HZ.out, rfl⟩, Ext.lift y hb⟩
          | some q =>
            have HD := Lib.hid (digI_some hda)
            have HD2 := Lib.hid (digI_some hdb)
            have HI2 := Lib.hid (HG.out p q hda hdb)
            have hp := dig_lt hda
            have hq := dig_lt hdb
            clear hda HG HN hdb
            go_wp2_with fail
            refine wp_region_ext (by kernel_rfl) (by kernel_rfl) ?_
            repeat (go_big_quiet_step (first | (go_at_call 76; exact Ext.callq (index_at a _ _ HD.out)) | (go_at_call 76; exact Ext.callq (index_at b _ _ HD2.out))))
            refine wpQuiet_nil ?_
            rintro _ ⟨y, rfl⟩
            have hown1 := own_below hown y.below
            have hb1 := Ext.lift y hb
            have hbs1 := hb1.size
            clear hown hb
            have hor := or16 p q hp hq
            go_wp2_with (at_builtin; refine wpList_push rfl _ _ 23 rfl w.heap.size 5 info_u8 rfl (by decide) Tryd.underlying23 _ _ _ rfl hown1 rfl rfl (by omega) hbs1 ?_)
            intro v' w1 hown' hg
            rw [← hacc, show ((16 * (p : Int) + (q : Int)) % 256) = ((UInt8.ofNat (16 * p + q)).toNat : Int) from by simp] at hown'
            have R := unhex_rel hb1 hown1 hown' hg
            have HR := Lib.hid R.1
            have HR2 := Lib.hid R.2
            clear hown1 hown' hg hb1 R
            go_wp2
            go_roundw
            case rel => exact ⟨j + 1, _, by have := HJ.out; omega, by simp [hacc], Lib.hid (by have := HI2.out; rw [HJ.out] at this; exact this), rfl, by have := HJ.out; go_num, HR.out, HR2.out⟩
            case measure => simp [intOf]; omega
      · have hi' : i = l.length := by omega
        have HZ : Hid (unhex l = some acc) := Lib.hid (by have := HI.out; rw [hi'] at this; exact this.done)
        have d0 : decide ((i : Int) < (l.length : Int)) = false := by simp; omega
        clear HI hi
        go_wp2
        try rw [Exit.noGoto_ret]
        go_ret2
        exact ⟨.inl ⟨acc, _, HZ.out, rfl, hown⟩, hb⟩
  · have dev : (((l.length : Int) % 2) == 0) = false := by simp; omega
    have HZ := Lib.hid (unhex_odd l (by omega))
    go_enter Tryd.func32, Tryd.ntmps32
    go_wp2
    go_step3
    go_wp2
    go_step3
    go_wp2
    go_loopw [4, 5, 6] (fun v g i wr => g = .bool false ∧ wr = w) (fun _ _ i _ => l.length - (intOf i).toNat)
    case atStart => exact ⟨by first | rfl | simp [dev], rfl⟩
    case round =>
      obtain ⟨rfl, rfl⟩ := hrel
      go_wp2
      try rw [Exit.noGoto_ret]
      go_ret2
      exact ⟨.inr ⟨HZ.out, rfl⟩, Below.refl _ _⟩
end Go.Proofs.YteafakpipbhioaaDoor
