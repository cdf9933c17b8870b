/- The walk of the law WireSplits: whatever the lists and the byte, it answers true. -/
import Derived.Test.YteafakpipbhioaaDoorPartsF
namespace Go.Proofs.YteafakpipbhioaaDoor
open Go.RowKit Pl

theorem Ns.own {w : World} {base : Nat} {v : Value} {zs : List Int} (h : w.ownsRow base 3 1 v zs.length (zs.map (Value.int .i64))) : Ns w v zs := by
  rcases h.2 with ⟨rfl, h0⟩ | ⟨g, cap, cur, rfl, hg, hh, hnc, _⟩
  · exact ⟨none, 0, by rw [h0], by omega, fun _ => rfl, fun hp => by omega⟩
  · refine ⟨_, cap, rfl, hnc, (fun h => by cases h), fun hp => ⟨g, 0, rfl, (h.lt g rfl).2, fun j z hz => ?_⟩⟩
    have := h.cells (g := g) rfl j (.int .i64 z) (by simp [hz])
    rwa [show ((⟨g, 0, none⟩ : Addr).add j) = ⟨g, 0 + j, none⟩ from by unfold Addr.add; by_cases hj : j = 0 <;> simp [hj]] at this
theorem CutOut.grown {w w' : World} {base : Nat} {x : Value} {l : List UInt8} {ns : List Nat} {row : Option Nat} (h : CutOut w base x l ns) (hg : w.grownBy w' row) (hr : ∀ k, row = some k → k < base) : CutOut w' base x l ns := by
  obtain ⟨G, hs, hG, hown, hne, hH, hc⟩ := h
  refine ⟨G, hs, hG, hown.kept hg ?_, hne, hH, fun i u hu => ?_⟩
  · cases hx : x.ownBlock with
    | none => exact .inl rfl
    | some k => exact .inr fun e => by have h1 := (hown.lt k hx).1; have h2 := hr k e.symm; omega
  · have hn : some G ≠ row := fun e => by have := hr G e.symm; omega
    obtain ⟨h1, h2⟩ := hc i u hu
    refine ⟨hg.cell h1 hn, ?_⟩
    rw [World.frozen?_of_block (hg.block G (block_lt_of_cell h1) hn)]; exact h2
theorem CutOut.below {w w' : World} {base : Nat} {x : Value} {l : List UInt8} {ns : List Nat} (h : CutOut w base x l ns) (hb : Below w.heap.size w w') : CutOut w' base x l ns := by
  obtain ⟨G, hs, hG, hown, hne, hH, hc⟩ := h
  refine ⟨G, hs, hG, own_below hown hb, hne, hH, fun i u hu => ?_⟩
  obtain ⟨h1, h2⟩ := hc i u hu
  have hlt : G < w.heap.size := block_lt_of_cell h1
  exact ⟨(hb.cell (show G < _ from hlt)).trans h1, (hb.frozen (show G < _ from hlt)).trans h2⟩
theorem info_I : (Tryd.prog.info? 3).map (fun i => (i.zero, i.size, i.bytes)) = some (some (.int .i64 0), 1, 8) := by kernel_rfl

/-- The sizes of lists, as numbers. -/
def lensI (ls : List (List UInt8)) : List Int := ls.map fun l => (l.length : Int)
theorem natsOf_lensI (ls : List (List UInt8)) : natsOf (lensI ls) = lens ls := by simp [natsOf, lensI, lens]
theorem neg_lensI (ls : List (List UInt8)) : neg (lensI ls) = false := by
  unfold neg lensI
  rw [List.any_map]
  apply Bool.eq_false_iff.2
  intro h
  obtain ⟨l, _, h2⟩ := List.any_eq_true.1 h
  simp at h2
  omega

set_option maxRecDepth 100000 in
set_option maxHeartbeats 4000000 in
theorem wireSplits_walk (v0 : Value) (ls : List (List UInt8)) (m : UInt8) (w : World) (hv0 : Ls w v0 ls) (E : Env w) :
    Calls Tryd.prog 10 #[v0, .int .u8 (m.toNat : Int)] w fun e w' => e = .returned (.bool true) ∧ Below w.heap.size w w' := by
  have HL := Lib.hid hv0
  have HM := Lib.hid (much_any v0 ls w hv0)
  obtain ⟨A0, c0, rfl, hc0, _, _⟩ := hv0
  go_enter Tryd.func10, Tryd.ntmps10
  go_wp2_with (first
    | (go_at_call 43; refine HM.out.mono ?_; rintro e w1 ⟨⟨r, rfl, hr⟩, hb1⟩; have HR := Lib.hid hr; clear hr)
    | (go_at_call 16; refine (known_any _ (E.here hb1)).mono ?_; rintro e w2 ⟨rfl, hb2⟩)
    | (go_at_call 44; refine (wjoin_any _ ls _ (HL.out.below hb1) (HR.out (by assumption))).mono ?_; rintro e w2 ⟨⟨x, rfl, hown⟩, hb2⟩))
  · go_ret
    exact ⟨rfl, hb1.trans (hb2.mono hb1.size)⟩
  · have hbd : ls.length + total ls ≤ 9000 := HR.out (by assumption)
    have hbw : Below w.heap.size w w2 := hb1.trans (hb2.mono hb1.size)
    have hz1 := hb1.size
    have hz2 := hb2.size
    have HOWN := Lib.hid hown
    have HBW := Lib.hid hbw
    have HL2 := Lib.hid (HL.out.below hbw)
    clear hb1 hb2 hown hbw
    go_loopw [6, 7] (fun o i wr => ∃ (j : Nat), j ≤ ls.length ∧ i = .int .i64 j ∧ wr.ownsRow w2.heap.size 3 1 o j ((lensI (ls.take j)).map (Value.int .i64)) ∧ Below w2.heap.size w2 wr) (fun _ i _ => ls.length - (intOf i).toNat)
    case atStart => exact ⟨0, Nat.zero_le _, rfl, World.ownsRow_nil _ _ _ _, Below.refl _ _⟩
    case round =>
      obtain ⟨j, hj, rfl, hown, hb⟩ := hrel
      by_cases hlt : j < ls.length
      · obtain ⟨A1, c1, hv, _, _, hB⟩ := HL2.out.below hb
        injection hv with hv1 hv2 hv3
        subst hv1 hv3
        obtain ⟨b, off, rfl, hbs, hcell⟩ := hB (by omega)
        obtain ⟨l, hll⟩ : ∃ l, ls[j]? = some l := ⟨_, List.getElem?_eq_getElem hlt⟩
        obtain ⟨x1, hx, hxl⟩ := hcell j l hll
        obtain ⟨A2, c2, rfl, _, _, _⟩ := hxl
        have HT : Hid ((lensI (ls.take (j + 1))).map (Value.int .i64) = (lensI (ls.take j)).map (Value.int .i64) ++ [.int .i64 (l.length : Int)]) := Lib.hid (by
          rw [List.take_add_one, hll]; simp [lensI])
        clear hcell hB hll hv2
        go_wp2_with (at_builtin; refine wpList_push rfl (.tmp 23) (.tmp 29) 65 rfl w2.heap.size 3 info_I rfl (by decide) Tryd.underlying65 u6 j _ rfl hown rfl rfl (by omega) hb.size ?_)
        intro v' w3 hown2 hg
        rw [← HT.out] at hown2
        have HR := Lib.hid hown2
        have hb3 := Lib.hid (hb.grown hg hb.size fun g hg => (hown.lt g hg).1)
        clear hown hown2 hg
        go_wp2
        go_roundw
        case rel => exact ⟨j + 1, by omega, by go_num, HR.out, hb3.out⟩
        case measure => simp [intOf]; omega
      · obtain rfl : j = ls.length := by omega
        rw [List.take_length] at hown
        have hownB := own_below HOWN.out hb
        have hzb := hb.size
        have hlf : ls.flatten.length = total ls := total_flatten ls
        have HNS : Hid (Ns wr u6 (lensI ls)) := Lib.hid (Ns.own (base := w2.heap.size) (by simpa [lensI] using hown))
        have HBs : Hid (Bs wr x ls.flatten) := Lib.hid (Bs.own hownB)
        have hlI : (lensI ls).length = ls.length := by simp [lensI]
        have HC1 : Hid (Calls Tryd.prog 46 #[x, u6] wr fun e w' => ∃ c, e = .returned (.tuple #[c, .int .i64 0]) ∧ CutOut w' wr.heap.size c ls.flatten (lens ls) ∧ Below wr.heap.size wr w') := Lib.hid (by
          refine (wcut_any x ls.flatten u6 (lensI ls) wr HBs.out HNS.out (by omega) (by omega)).mono fun e w' ⟨hr, hb⟩ => ?_
          rcases hr with ⟨h1, _⟩ | ⟨_, h1, _⟩ | ⟨_, _, c, he, hc⟩
          · rw [neg_lensI] at h1; cases h1
          · rw [natsOf_lensI, lens_sum, hlf] at h1; exact absurd rfl h1
          · rw [natsOf_lensI] at hc; exact ⟨c, he, hc, hb⟩)
        have HC2 : Hid (∀ w4 v4, Bs w4 v4 (ls.flatten ++ [m]) → Ns w4 u6 (lensI ls) → Calls Tryd.prog 46 #[v4, u6] w4 fun e w' => e = .returned (.tuple #[.slice none 0 0, .int .i64 4]) ∧ Below w4.heap.size w4 w') := Lib.hid (fun w4 v4 hb4 hn4 => by
          have hlm : (ls.flatten ++ [m]).length = total ls + 1 := by rw [List.length_append, hlf]; rfl
          refine (wcut_any v4 (ls.flatten ++ [m]) u6 (lensI ls) w4 hb4 hn4 (by omega) (by omega)).mono fun e w' ⟨hr, hb⟩ => ?_
          rcases hr with ⟨h1, _⟩ | ⟨_, _, he⟩ | ⟨_, h1, _⟩
          · rw [neg_lensI] at h1; cases h1
          · exact ⟨he, hb⟩
          · rw [natsOf_lensI, lens_sum, hlm] at h1; omega)
        clear hlf hlI
        go_wp2_with (first
          | (go_at_call 46; refine HC1.out.mono ?_; clear HC1; rintro e w3 ⟨cv, rfl, hcv, hb3⟩; have HCV := Lib.hid hcv; have hown3 := own_below hownB hb3; have hownS := own_below hown hb3; have hz3 := hb3.size; clear hcv)
          | (at_builtin; refine wpList_push rfl (.tmp 38) (.tmp 40) 23 rfl w1.heap.size 5 info_u8 rfl (by decide) Tryd.underlying23 x (total ls) _ rfl hown3 rfl rfl (by omega) (by omega) ?_))
        intro v' w4 hown4 hg
        have hxlt : ∀ k, x.ownBlock = some k → w1.heap.size ≤ k ∧ k < w2.heap.size := fun k hk => HOWN.out.lt k hk
        have HB4 : Hid (Bs w4 v' (ls.flatten ++ [m])) := Lib.hid (Bs.own (base := w1.heap.size) (n := total ls + 1) (by rw [cellsB_append]; exact hown4))
        have HN4 : Hid (Ns w4 u6 (lensI ls)) := Lib.hid (Ns.own (base := w2.heap.size) (by
          have := hownS.kept hg (by
            cases hx : u6.ownBlock with
            | none => exact .inl rfl
            | some k => exact .inr fun e => by have h1 := (hownS.lt k hx).1; have h2 := hxlt k e.symm; omega)
          simpa [lensI] using this))
        have HCV4 : Hid (CutOut w4 wr.heap.size cv ls.flatten (lens ls)) := Lib.hid (HCV.out.grown hg fun k hk => by have := hxlt k hk; omega)
        have hb23 : Below w.heap.size w w3 := HBW.out.trans ((hb.trans (hb3.mono hzb)).mono (by omega))
        have hb4 : Below w.heap.size w w4 := hb23.grown hg hb23.size fun k hk => by have := hxlt k hk; omega
        have HLB := Lib.hid hb4
        have HL4 := Lib.hid (HL.out.below hb4)
        have E4 := E.here hb4
        clear hown4 hg hownS hown3 hb3 hownB hown hb hxlt hb23 hb4
        go_wp2_with (first
          | (go_at_call 46; refine (ext_of (HC2.out _ _ HB4.out HN4.out)).mono ?_; rintro e w' ⟨rfl, y5, rfl⟩; have E5 := y5.env E4; have HS := Lib.hid (ext_of (sameL_true _ _ ls _ (by have := (HCV4.out.below y5.below).lists (by rw [lens_sum, total_flatten]); rwa [parts_flat] at this) (HL4.out.below y5.below) (by omega))))
          | (go_at_call 20; refine (num_any _ _).mono ?_; rintro e w' ⟨rfl, rfl⟩)
          | (go_at_call 48; refine HS.out.mono ?_; rintro e w' ⟨rfl, y6, rfl⟩; have E6 := y6.env E5)
          | (go_at_call 16; refine (ext_of (known_any _ E6)).mono ?_; rintro e w' ⟨rfl, y7, rfl⟩))
        go_ret
        exact ⟨rfl, Ext.lift y7 (Ext.lift y6 (Ext.lift y5 HLB.out))⟩
end Go.Proofs.YteafakpipbhioaaDoor
