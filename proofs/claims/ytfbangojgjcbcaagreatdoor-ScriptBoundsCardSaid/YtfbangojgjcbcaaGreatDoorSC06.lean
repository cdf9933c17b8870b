/- Part 6 of the proof: TrieH, ConfC. -/
import Derived.WalkMore
import Derived.Deep.LoopGhost
import Derived.RangeFuncNested
import Derived.RangeFuncBound
import Derived.RangeFuncCalls
import Derived.RangeFuncLeaves
import Derived.RangeFuncBox
import Derived.Shelf.Abstract
import Derived.OwnWalkIn
import Derived.TacticsInMore
import Derived.LoopNIn
import Derived.LoopIn
import Derived.Deep.DeepCutAuto
import Derived.Test.YtfbangojgjcbcaaGreatDoorSC02
import Derived.Test.YtfbangojgjcbcaaGreatDoorSC04
import Derived.Test.YtfbangojgjcbcaaGreatDoorSC05
namespace Go.Proofs.YtfbangojgjcbcaaGreatDoor
open Go.RowKit Pl
set_option maxRecDepth 100000 in
theorem tnew_any (w : World) : Calls Tryz.prog 128 #[.int .i64 8] w fun e w' => e = .returned (.pointer (some ⟨w.heap.size, 0, none⟩)) ∧ w' = w.alloc (.cells #[.pointer none, .int .i64 8, .int .i64 0, .bool true] 213) := by
  go_enter Tryz.func128, Tryz.ntmps128
  go_wp2
  go_ret
  exact ⟨rfl, rfl⟩
theorem TrieAt.fresh (w : World) (t : TypeId) : TrieAt (w.alloc (.cells #[.pointer none, .int .i64 8, .int .i64 0, .bool true] t)) w.heap.size w.heap.size .nil :=
  ⟨by simp, Nat.le_refl _, ⟨none, World.cell?_alloc_at _ _ _ _ rfl, rfl⟩, World.cell?_alloc_at _ _ _ _ rfl, World.cell?_alloc_at _ _ _ _ rfl, World.cell?_alloc_at _ _ _ _ rfl, fun _ => World.frozen?_alloc_at _ _ _ _ rfl, trivial, by simp [Tree.blocks], by simp [Tree.blocks], fun b hb => by simp [Tree.blocks] at hb⟩
/-- What Insert does at the next of own prefixes. -/
theorem insert_step {l : List Pr} {j : Nat} {t : Tree} {pa pn : Int} (base T : Nat) (hI : OwnInv l j t) (hA : AddrsOk l) (hp : l[j]? = some (pa, pn)) (hinv : t.Inv) :
    (ownOk l = false ∧ ∃ r : Int, (r = 2 ∨ r = 5) ∧ ∀ w, TrieAt w base T t → base ≤ w.heap.size → Calls Tryz.prog 129 #[.pointer (some ⟨T, 0, none⟩), .agg #[.int .u32 pa, .int .i64 pn], .bool true] w fun e w' => e = .returned (.int .i64 r) ∧ Below base w w') ∨
    (ownOk l = false ∧ (∃ i z, j = i + 1 ∧ l[i]? = some z ∧ ¬ cmpP z.1 z.2 pa pn < 0) ∧ ∀ w, TrieAt w base T t → base ≤ w.heap.size → Calls Tryz.prog 129 #[.pointer (some ⟨T, 0, none⟩), .agg #[.int .u32 pa, .int .i64 pn], .bool true] w fun e w' => e = .returned (.int .i64 0) ∧ Kept w w' T t ∧ Below base w w') ∨
    ((∀ i z, j = i + 1 → l[i]? = some z → cmpP z.1 z.2 pa pn < 0) ∧ ∀ w, TrieAt w base T t → base ≤ w.heap.size → Calls Tryz.prog 129 #[.pointer (some ⟨T, 0, none⟩), .agg #[.int .u32 pa, .int .i64 pn], .bool true] w fun e w' => e = .returned (.int .i64 0) ∧ Kept w w' T t ∧ Below base w w' ∧ ∃ t', TrieAt w' base T t' ∧ OwnInv l (j + 1) t') := by
  have hpm := List.mem_of_getElem? hp
  have hia := hA _ hpm
  simp only at hia
  cases hm : mayP pa pn with
  | false => exact .inl ⟨ownOk_may hpm hm, 2, .inl rfl, fun w h hbase => (insert_bad T pa pn true w h.lt h.is hia hm).mono fun e w' ⟨he, hb⟩ => ⟨he, hb.mono hbase⟩⟩
  | true =>
    obtain ⟨n0, _⟩ := mayP_len hm
    obtain ⟨a, rfl⟩ := Int.eq_ofNat_of_zero_le hia.1
    obtain ⟨n, rfl⟩ := Int.eq_ofNat_of_zero_le n0
    have ha : a < 4294967296 := by omega
    cases hf : t.find (bitsP a n) with
    | true =>
      obtain ⟨i, z, h1, h2, h3⟩ := hI.found hA hinv hp hm (by simpa [bitsI] using hf)
      subst h1
      exact .inr (.inl ⟨ownOk_rise h2 hp h3, ⟨i, z, rfl, h2, h3⟩, fun w h hbase => insert_found T a n base true t w ha hm h hbase hf⟩)
    | false =>
      by_cases h8 : t.keys.length < 8
      · have hnew := fun w h hbase => insert_new T a n base true t w ha hm h hbase hf h8
        by_cases hc : ∀ i z, j = i + 1 → l[i]? = some z → cmpP z.1 z.2 (a : Int) (n : Int) < 0
        · refine .inr (.inr ⟨hc, fun w h hbase => (hnew w h hbase).mono fun e w' ⟨⟨he, b1, b2, ht, hk⟩, hb⟩ => ⟨he, hk, hb, _, ht, ?_⟩⟩)
          have := hI.next hinv hp hm (by simpa [bitsI] using hf) (by have := hI.n; omega) hc b1 b2
          simpa [bitsI] using this
        · have hex : ∃ i z, j = i + 1 ∧ l[i]? = some z ∧ ¬ cmpP z.1 z.2 (a : Int) (n : Int) < 0 := by
            apply Classical.byContradiction
            intro hn
            exact hc fun i z h1 h2 => Classical.byContradiction fun h3 => hn ⟨i, z, h1, h2, h3⟩
          obtain ⟨i, z, h1, h2, h3⟩ := hex
          subst h1
          exact .inr (.inl ⟨ownOk_rise h2 hp h3, ⟨i, z, rfl, h2, h3⟩, fun w h hbase => (hnew w h hbase).mono fun e w' ⟨⟨he, b1, b2, ht, hk⟩, hb⟩ => ⟨he, hk, hb⟩⟩)
      · have hlt := (List.getElem?_eq_some_iff.1 hp).1
        exact .inl ⟨ownOk_len (by have := hI.n; omega), 5, .inr rfl, fun w h hbase => (insert_full T a n base true t w ha hm h hf (by omega)).mono fun e w' ⟨he, hb⟩ => ⟨he, hb.mono hbase⟩⟩
def OwnRes (base : Nat) (l : List Pr) (e : Ending) (w' : World) : Prop :=
  (ownOk l = false ∧ ∃ q, e = .returned (.tuple #[.pointer q, .bool false])) ∨
  (ownOk l = true ∧ ∃ T t, e = .returned (.tuple #[.pointer (some ⟨T, 0, none⟩), .bool true]) ∧ TrieAt w' base T t ∧ OwnInv l l.length t)
set_option maxRecDepth 100000 in
set_option maxHeartbeats 4000000 in
theorem owned_any (v : Value) (l : List Pr) (w : World) (h : Rs .u32 w v l) (hl : l.length ≤ 1000000) (hA : AddrsOk l) :
    Calls Tryz.prog 64 #[v] w fun e w' => OwnRes w.heap.size l e w' ∧ Below w.heap.size w w' := by
  have HR := Lib.hid h
  have HA := Lib.hid hA
  obtain ⟨A, c, rfl, hc, _, _⟩ := h
  clear hA
  go_enter Tryz.func64, Tryz.ntmps64
  go_wp2_with (go_at_call 128; refine (tnew_any _).mono ?_; rintro e w' ⟨rfl, rfl⟩)
  go_wp2
  go_loopw [10] (fun i wr => ∃ (j : Nat) (t : Tree), j ≤ l.length ∧ i = .int .i64 j ∧ Hid (OwnInv l j t) ∧ Hid (TrieAt wr w.heap.size w.heap.size t) ∧ Hid (Below w.heap.size w wr)) (fun i _ => l.length - (intOf i).toNat)
  case atStart => exact ⟨0, .nil, Nat.zero_le _, rfl, Lib.hid (OwnInv.start l), Lib.hid (TrieAt.fresh w _), Lib.hid ((Below.refl _ _).alloc (Nat.le_refl _) _)⟩
  case round =>
    obtain ⟨j, t, hj, rfl, HI, HTR, HB⟩ := hrel
    by_cases hlt : j < l.length
    · obtain ⟨⟨pa, pn⟩, hp⟩ : ∃ p, l[j]? = some p := ⟨_, List.getElem?_eq_getElem hlt⟩
      have Rr := HR.out.below HB.out
      obtain ⟨b, off, hAe, hb, c0, c1⟩ := Rr.at hp
      subst hAe
      have hsz := HB.out.size
      have HS := insert_step w.heap.size w.heap.size HI.out HA.out hp HTR.out.inv
      have hbx : Below w.heap.size wr (wr.alloc (.cells #[.int .u32 pa, .int .i64 pn] 86)) := (Below.refl _ _).alloc (by omega) _
      rcases HS with ⟨hbad, r, hr, HC⟩ | ⟨hbad, ⟨i, z, hji, hz, hc⟩, HC⟩ | ⟨hgo, HC⟩
      · have HBAD := Lib.hid hbad
        clear hbad
        rcases hr with rfl | rfl
        all_goals
          have HCH := Lib.hid HC
          clear HC
          go_wp2
          refine wp_region_mid (C := fun w' => ∃ x : Ext (wr.alloc (.cells #[.int .u32 pa, .int .i64 pn] 86)), w' = x.w) 2 _ rfl (by kernel_rfl) (by kernel_rfl) ⟨⟨_, (Below.refl _ _).drew⟩, rfl⟩ ?_
          simp only [List.take_succ_cons, List.take_zero, List.drop_succ_cons, List.drop_zero]
          repeat (go_big_quiet_step (first | (go_at_call 129; fail)))
          refine wpQuiet_nil ?_
          rintro _ ⟨x, rfl⟩ K hK
          rw [if_pos (by rfl)]
          go_simp
          have hxb := x.below.size
          simp only [World.size_alloc] at hxb
          refine (HCH.out x.w (HTR.out.below (Ext.lift x (bel_alloc (Below.refl _ _) _))) (by omega)).mono ?_
          rintro e w1 ⟨rfl, hbi⟩
          refine hK (fun w' => ∃ y : Ext w1, w' = y.w) _ _ ⟨⟨_, Below.refl _ _⟩, rfl⟩ ?_
          repeat (go_big_quiet_step (first | (go_at_call 130; fail)))
          refine wpQuiet_nil ?_
          rintro _ ⟨y, rfl⟩
          go_wp2
          go_ret2
          exact ⟨.inl ⟨HBAD.out, _, rfl⟩, (HB.out.trans (hbx.trans (x.below.mono (by simp; omega)))).trans (hbi.trans (y.below.mono (Nat.le_trans (by omega) hbi.size)))⟩
      · subst hji
        have hbW : b < w.heap.size := by obtain ⟨b', off', he, hb', _⟩ := HR.out.at hp; cases he; exact hb'
        have hx1 : wr.heap.size ≠ w.heap.size := by have := HTR.out.lt; omega
        have hx2 : wr.heap.size ∉ t.blocks := fun e => by have := HTR.out.blt _ e; omega
        have hx3 : b ≠ w.heap.size := by omega
        have hx4 : b ∉ t.blocks := fun e => by have := HTR.out.blocks _ e; omega
        obtain ⟨za, zn⟩ := z
        obtain ⟨d0, d1⟩ := Rr.take rfl hz
        obtain ⟨q, hq⟩ : ∃ q, cmpP za zn pa pn = q := ⟨_, rfl⟩
        have HCM : Hid (∀ W, Calls Tryz.prog 130 #[.agg #[.int .u32 za, .int .i64 zn], .agg #[.int .u32 pa, .int .i64 pn]] W fun e w' => e = .returned (.int .i64 q) ∧ Below W.heap.size W w') := Lib.hid (fun W => by rw [← hq]; exact compare_any za zn pa pn W)
        have hil : (i : Int) < (l.length : Int) := by omega
        have hi0 : (0 : Int) ≤ (i : Int) := by omega
        have hw1 : IntKind.i64.wrap ((i : Int) + 1 - 1) = (i : Int) := by rw [IntKind.wrap_i64]; omega
        have hw2 : IntKind.i64.wrap (i : Int) = (i : Int) := by rw [IntKind.wrap_i64]; omega
        have hq0 : 0 ≤ q := by rw [← hq]; simp only at hc; omega
        have HCH := Lib.hid HC
        have HBAD := Lib.hid hbad
        clear HC hbad hc hq hz hp
        go_wp2
        refine wp_region_mid (C := fun w' => ∃ x : Ext (wr.alloc (.cells #[.int .u32 pa, .int .i64 pn] 86)), w' = x.w) 2 _ rfl (by kernel_rfl) (by kernel_rfl) ⟨⟨_, (Below.refl _ _).drew⟩, rfl⟩ ?_
        simp only [List.take_succ_cons, List.take_zero, List.drop_succ_cons, List.drop_zero]
        repeat (go_big_quiet_step (first | (go_at_call 129; fail)))
        refine wpQuiet_nil ?_
        rintro _ ⟨x, rfl⟩ K hK
        rw [if_pos (by rfl)]
        go_simp
        have hxb := x.below.size
        simp only [World.size_alloc] at hxb
        refine (HCH.out x.w (HTR.out.below (Ext.lift x (bel_alloc (Below.refl _ _) _))) (by omega)).mono ?_
        rintro e w1 ⟨rfl, hk, hbi⟩
        have hxw : wr.heap.size < x.w.heap.size := by omega
        have hbw1 : b < x.w.heap.size := by omega
        have hsi := hbi.size
        have s0 := (hk ⟨wr.heap.size, 0, none⟩ hxw hx1 hx2).1.trans ((x.below.cell (p := ⟨wr.heap.size, 0, none⟩) (by simp)).trans (World.cell?_alloc_at (w := wr) _ _ _ _ rfl))
        have s1 := (hk ⟨wr.heap.size, 1, none⟩ hxw hx1 hx2).1.trans ((x.below.cell (p := ⟨wr.heap.size, 1, none⟩) (by simp)).trans (World.cell?_alloc_at (w := wr) _ _ _ _ rfl))
        simp at s0 s1
        have s2 := (hk ⟨b, off + i * 2, none⟩ hbw1 hx3 hx4).1.trans ((x.below.cell (p := ⟨b, off + i * 2, none⟩) (show b < _ by simp; omega)).trans ((World.cell?_alloc_lt wr _ _ hb).trans d0))
        have s3 := (hk ⟨b, off + i * 2 + 1, none⟩ hbw1 hx3 hx4).1.trans ((x.below.cell (p := ⟨b, off + i * 2 + 1, none⟩) (show b < _ by simp; omega)).trans ((World.cell?_alloc_lt wr _ _ hb).trans d1))
        have hq1 : wr.heap.size < w1.heap.size := by omega
        have hq2 : b < w1.heap.size := by omega
        have HBB := Lib.hid hbi
        clear hk hbi
        refine hK (fun w' => ∃ y : Ext w1, w' = y.w) _ _ ⟨⟨_, Below.refl _ _⟩, rfl⟩ ?_
        repeat (go_big_quiet_step (first | (go_at_call 130; exact Ext.call (HCM.out _))))
        refine wpQuiet_nil ?_
        rintro _ ⟨y, rfl⟩
        go_wp2
        go_ret2
        exact ⟨.inl ⟨HBAD.out, _, rfl⟩, (HB.out.trans (hbx.trans (x.below.mono (by simp; omega)))).trans (HBB.out.trans (y.below.mono (by omega)))⟩
      · cases j with
        | zero =>
          have hbW : b < w.heap.size := by obtain ⟨b', off', he, hb', _⟩ := HR.out.at hp; cases he; exact hb'
          have hx1 : wr.heap.size ≠ w.heap.size := by have := HTR.out.lt; omega
          have hx2 : wr.heap.size ∉ t.blocks := fun e => by have := HTR.out.blt _ e; omega
          have hx3 : b ≠ w.heap.size := by omega
          have hx4 : b ∉ t.blocks := fun e => by have := HTR.out.blocks _ e; omega
          simp only [Nat.zero_mul, Nat.add_zero] at c0 c1
          have HCH := Lib.hid HC
          clear HC hgo hp
          go_wp2
          refine wp_region_mid (C := fun w' => ∃ x : Ext (wr.alloc (.cells #[.int .u32 pa, .int .i64 pn] 86)), w' = x.w) 2 _ rfl (by kernel_rfl) (by kernel_rfl) ⟨⟨_, (Below.refl _ _).drew⟩, rfl⟩ ?_
          simp only [List.take_succ_cons, List.take_zero, List.drop_succ_cons, List.drop_zero]
          repeat (go_big_quiet_step (first | (go_at_call 129; fail)))
          refine wpQuiet_nil ?_
          rintro _ ⟨x, rfl⟩ K hK
          rw [if_pos (by rfl)]
          go_simp
          have hxb := x.below.size
          simp only [World.size_alloc] at hxb
          refine (HCH.out x.w (HTR.out.below (Ext.lift x (bel_alloc (Below.refl _ _) _))) (by omega)).mono ?_
          rintro e w1 ⟨rfl, hk, hbi, hnew⟩
          have HNEW := Lib.hid hnew
          clear hnew
          have hxw : wr.heap.size < x.w.heap.size := by omega
          have hbw1 : b < x.w.heap.size := by omega
          have hsi := hbi.size
          have s0 := (hk ⟨wr.heap.size, 0, none⟩ hxw hx1 hx2).1.trans ((x.below.cell (p := ⟨wr.heap.size, 0, none⟩) (by simp)).trans (World.cell?_alloc_at (w := wr) _ _ _ _ rfl))
          have s1 := (hk ⟨wr.heap.size, 1, none⟩ hxw hx1 hx2).1.trans ((x.below.cell (p := ⟨wr.heap.size, 1, none⟩) (by simp)).trans (World.cell?_alloc_at (w := wr) _ _ _ _ rfl))
          simp at s0 s1
          have hq1 : wr.heap.size < w1.heap.size := by omega
          have hq2 : b < w1.heap.size := by omega
          have HBB := Lib.hid hbi
          clear hk hbi
          refine hK (fun w' => ∃ y : Ext w1, w' = y.w) _ _ ⟨⟨_, Below.refl _ _⟩, rfl⟩ ?_
          repeat (go_big_quiet_step (first | (go_at_call 130; fail)))
          refine wpQuiet_nil ?_
          rintro _ ⟨y, rfl⟩
          go_wp2
          obtain ⟨t', ht1, ht2⟩ := HNEW.out
          go_roundw
          case rel => exact ⟨0 + 1, t', by omega, by go_num, Lib.hid ht2, Lib.hid (ht1.below y.below), Lib.hid ((HB.out.trans (hbx.trans (x.below.mono (by simp; omega)))).trans (HBB.out.trans (y.below.mono (by omega))))⟩
          case measure => simp [intOf]; omega
        | succ i =>
          obtain ⟨z, hz⟩ : ∃ z, l[i]? = some z := ⟨_, List.getElem?_eq_getElem (by omega)⟩
          have hc := hgo i z rfl hz
          have hbW : b < w.heap.size := by obtain ⟨b', off', he, hb', _⟩ := HR.out.at hp; cases he; exact hb'
          have hx1 : wr.heap.size ≠ w.heap.size := by have := HTR.out.lt; omega
          have hx2 : wr.heap.size ∉ t.blocks := fun e => by have := HTR.out.blt _ e; omega
          have hx3 : b ≠ w.heap.size := by omega
          have hx4 : b ∉ t.blocks := fun e => by have := HTR.out.blocks _ e; omega
          obtain ⟨za, zn⟩ := z
          obtain ⟨d0, d1⟩ := Rr.take rfl hz
          obtain ⟨q, hq⟩ : ∃ q, cmpP za zn pa pn = q := ⟨_, rfl⟩
          have HCM : Hid (∀ W, Calls Tryz.prog 130 #[.agg #[.int .u32 za, .int .i64 zn], .agg #[.int .u32 pa, .int .i64 pn]] W fun e w' => e = .returned (.int .i64 q) ∧ Below W.heap.size W w') := Lib.hid (fun W => by rw [← hq]; exact compare_any za zn pa pn W)
          have hil : (i : Int) < (l.length : Int) := by omega
          have hi0 : (0 : Int) ≤ (i : Int) := by omega
          have hw1 : IntKind.i64.wrap ((i : Int) + 1 - 1) = (i : Int) := by rw [IntKind.wrap_i64]; omega
          have hw2 : IntKind.i64.wrap (i : Int) = (i : Int) := by rw [IntKind.wrap_i64]; omega
          have hq0 : q < 0 := by rw [← hq]; exact hc
          have HCH := Lib.hid HC
          clear HC hgo hc hq hz hp
          go_wp2
          refine wp_region_mid (C := fun w' => ∃ x : Ext (wr.alloc (.cells #[.int .u32 pa, .int .i64 pn] 86)), w' = x.w) 2 _ rfl (by kernel_rfl) (by kernel_rfl) ⟨⟨_, (Below.refl _ _).drew⟩, rfl⟩ ?_
          simp only [List.take_succ_cons, List.take_zero, List.drop_succ_cons, List.drop_zero]
          repeat (go_big_quiet_step (first | (go_at_call 129; fail)))
          refine wpQuiet_nil ?_
          rintro _ ⟨x, rfl⟩ K hK
          rw [if_pos (by rfl)]
          go_simp
          have hxb := x.below.size
          simp only [World.size_alloc] at hxb
          refine (HCH.out x.w (HTR.out.below (Ext.lift x (bel_alloc (Below.refl _ _) _))) (by omega)).mono ?_
          rintro e w1 ⟨rfl, hk, hbi, hnew⟩
          have HNEW := Lib.hid hnew
          clear hnew
          have hxw : wr.heap.size < x.w.heap.size := by omega
          have hbw1 : b < x.w.heap.size := by omega
          have hsi := hbi.size
          have s0 := (hk ⟨wr.heap.size, 0, none⟩ hxw hx1 hx2).1.trans ((x.below.cell (p := ⟨wr.heap.size, 0, none⟩) (by simp)).trans (World.cell?_alloc_at (w := wr) _ _ _ _ rfl))
          have s1 := (hk ⟨wr.heap.size, 1, none⟩ hxw hx1 hx2).1.trans ((x.below.cell (p := ⟨wr.heap.size, 1, none⟩) (by simp)).trans (World.cell?_alloc_at (w := wr) _ _ _ _ rfl))
          simp at s0 s1
          have s2 := (hk ⟨b, off + i * 2, none⟩ hbw1 hx3 hx4).1.trans ((x.below.cell (p := ⟨b, off + i * 2, none⟩) (show b < _ by simp; omega)).trans ((World.cell?_alloc_lt wr _ _ hb).trans d0))
          have s3 := (hk ⟨b, off + i * 2 + 1, none⟩ hbw1 hx3 hx4).1.trans ((x.below.cell (p := ⟨b, off + i * 2 + 1, none⟩) (show b < _ by simp; omega)).trans ((World.cell?_alloc_lt wr _ _ hb).trans d1))
          have hq1 : wr.heap.size < w1.heap.size := by omega
          have hq2 : b < w1.heap.size := by omega
          have HBB := Lib.hid hbi
          clear hk hbi
          refine hK (fun w' => ∃ y : Ext w1, w' = y.w) _ _ ⟨⟨_, Below.refl _ _⟩, rfl⟩ ?_
          repeat (go_big_quiet_step (first | (go_at_call 130; exact Ext.call (HCM.out _))))
          refine wpQuiet_nil ?_
          rintro _ ⟨y, rfl⟩
          go_wp2
          obtain ⟨t', ht1, ht2⟩ := HNEW.out
          go_roundw
          case rel => exact ⟨i + 1 + 1, t', by omega, by go_num, Lib.hid ht2, Lib.hid (ht1.below y.below), Lib.hid ((HB.out.trans (hbx.trans (x.below.mono (by simp; omega)))).trans (HBB.out.trans (y.below.mono (by omega))))⟩
          case measure => simp [intOf]; omega
    · obtain rfl : j = l.length := by omega
      have hok := HI.out.ok
      by_cases h0 : 0 < l.length
      · have hok' : ownOk l = true := by rw [hok]; simpa using h0
        have HOK := Lib.hid hok'
        have h0' : (0 : Int) < (l.length : Int) := by omega
        clear hok hok'
        go_wp2
        go_ret2
        exact ⟨.inr ⟨HOK.out, _, _, rfl, HTR.out, HI.out⟩, HB.out⟩
      · have hok' : ownOk l = false := by rw [hok]; simpa using h0
        have HOK := Lib.hid hok'
        have h0' : decide ((0 : Int) < (l.length : Int)) = false := decide_eq_false (by omega)
        clear hok hok'
        go_wp2
        go_ret2
        exact ⟨.inl ⟨HOK.out, _, rfl⟩, HB.out⟩
end Go.Proofs.YtfbangojgjcbcaaGreatDoor
namespace Go.Proofs.YtfbangojgjcbcaaGreatDoor
open Go.RowKit Pl
abbrev E3 := Int × Int × Bool
def cellsE (l : List E3) : List Value := l.flatMap fun e => [.int .u32 e.1, .int .i64 e.2.1, .bool e.2.2]
theorem cellsE_snoc (l : List E3) (e : E3) : cellsE (l ++ [e]) = cellsE l ++ [.int .u32 e.1, .int .i64 e.2.1, .bool e.2.2] := by
  unfold cellsE; rw [List.flatMap_append]; simp
theorem info_E : (Tryz.prog.info? 226).map (fun i => (i.zero, i.size, i.bytes)) = some (some (.agg #[.int .u32 0, .int .i64 0, .bool false]), 3, 24) := by kernel_rfl
theorem Tree.cover_le {x : List Bool} : ∀ {t : Tree}, t.Inv → ∀ d, (∀ q ∈ t.all, d ≤ q.length) → d ≤ 33 → t.cover x ≤ 33 - d
  | .nil, _, d, _, _ => by simp [Tree.cover]
  | .node b k has l r, h, d, hd, _ => by
    obtain ⟨hk, h1, h2, h3, h4⟩ := h
    have hdk := hd k (by simp [Tree.all])
    have cl := cover_le (x := x) h3 (k.length + 1) (fun q hq => by have := (h1 q hq).length_le; simpa using this) (by omega)
    have cr := cover_le (x := x) h4 (k.length + 1) (fun q hq => by have := (h2 q hq).length_le; simpa using this) (by omega)
    have hi : (if k.length = 32 then 0 else if x[k.length]? = some true then Tree.cover x r else Tree.cover x l) ≤ 33 - (k.length + 1) := by
      split
      · omega
      · split
        · exact cr
        · exact cl
    have hh : (if has = true then 1 else 0) ≤ 1 := by split <;> omega
    unfold Tree.cover
    split <;> omega
def CovRes (w : World) (k : Nat) (e : Ending) (w' : World) : Prop :=
  ∃ (es : List E3) (B : Nat) (v : Value), es.length = k ∧ e = .returned (.func (.func 194) #[] #[.pointer (some ⟨B, 0, none⟩)]) ∧ w.heap.size ≤ B ∧ B < w'.heap.size ∧ w'.cell? ⟨B, 0, none⟩ = some v ∧ w'.ownsRow w.heap.size 226 3 v es.length (cellsE es)
set_option maxRecDepth 100000 in
theorem over_any (A : Option Addr) (n c : Nat) (w : World) : Calls Tryz.prog 171 #[.slice A n c] w fun e w' => e = .returned (.func (.func 194) #[] #[.pointer (some ⟨w.heap.size, 0, none⟩)]) ∧ w' = w.alloc (.cells #[.slice A n c] 224) := by
  go_enter Tryz.func171, Tryz.ntmps171
  go_wp2
  go_ret
  exact ⟨rfl, rfl⟩
theorem own_no {w : World} {base b : Nat} {e : TypeId} {size n : Nat} {v : Value} {xs : List Value} (h : w.ownsRow base e size v n xs) (hb : b < base) : v.ownBlock ≠ some b := fun k => by have := (h.lt b k).1; omega
theorem own_slice {w : World} {base : Nat} {e : TypeId} {size n : Nat} {v : Value} {xs : List Value} (h : w.ownsRow base e size v n xs) : ∃ A k c, v = .slice A k c := by
  rcases h.2 with ⟨rfl, _⟩ | ⟨g, cap, cur, rfl, _⟩
  · exact ⟨_, _, _, rfl⟩
  · exact ⟨_, _, _, rfl⟩
theorem CovRes.mk {w wr : World} {k : Nat} {es : List E3} {A : Option Addr} {n c : Nat} (he : es.length = k) (ho : wr.ownsRow w.heap.size 226 3 (.slice A n c) es.length (cellsE es)) (hb : Below w.heap.size w wr) :
    CovRes w k (.returned (.func (.func 194) #[] #[.pointer (some ⟨wr.heap.size, 0, none⟩)])) (wr.alloc (.cells #[.slice A n c] 224)) :=
  ⟨es, wr.heap.size, _, he, rfl, hb.size, by simp, World.cell?_alloc_at _ _ _ _ rfl, ho.alloc _⟩
set_option maxRecDepth 100000 in
set_option maxHeartbeats 4000000 in
theorem covers_any (T x base : Nat) (t : Tree) (w : World) (hx : x < 4294967296) (h : TrieAt w base T t) :
    Calls Tryz.prog 132 #[.pointer (some ⟨T, 0, none⟩), .int .u32 (x : Int)] w fun e w' => CovRes w (t.cover (bitsP x 32)) e w' ∧ Below w.heap.size w w' := by
  have HT := Lib.hid h
  have hI := h.is
  have hTl := h.lt
  obtain ⟨root, hr, htr⟩ := h.root
  have HR := Lib.hid htr
  clear htr
  go_enter Tryz.func132, Tryz.ntmps132
  go_wp2_with (go_at_call 162; refine (there_any _ _ hI).mono ?_; rintro e w' ⟨rfl, rfl⟩)
  go_step3
  go_wp2
  go_step3
  go_wp2
  go_loopg [5, 6] (Tree.size t) (fun g l n wr => ∃ (s : Tree) (q : Option Addr) (es : List E3), g = Tree.size s ∧ n = .pointer q ∧ Hid (Tr w q s) ∧ Hid (s.Inv) ∧ Hid (es.length + s.cover (bitsP x 32) = t.cover (bitsP x 32)) ∧ Hid (wr.ownsRow w.heap.size 226 3 l es.length (cellsE es)) ∧ Hid (Below w.heap.size w wr))
  case atStart => exact ⟨t, root, [], rfl, rfl, HR, Lib.hid HT.out.inv, Lib.hid (by simp), Lib.hid (World.ownsRow_nil _ _ _ _), Lib.hid (Below.refl _ _)⟩
  case round =>
    obtain ⟨s, q, es, hg, rfl, HTr, HIn, HC, HO, HB⟩ := hrel
    have HG := Lib.hid hg
    clear hg
    cases s with
    | nil =>
      obtain rfl : q = none := HTr.out
      have HC : Hid (es.length = t.cover (bitsP x 32)) := Lib.hid (by have := HC.out; simpa [Tree.cover] using this)
      obtain ⟨A', n', c', rfl⟩ := own_slice HO.out
      go_wp2
      rw [Exit.noGoto_normal]
      go_wp2_with (go_at_call 171; refine (over_any _ _ _ _).mono ?_; rintro e w' ⟨rfl, rfl⟩)
      try rw [Exit.noGoto_ret]
      go_ret
      exact ⟨CovRes.mk (HC.out) HO.out HB.out, HB.out.alloc HB.out.size _⟩
    | node nb k has l r =>
      obtain ⟨rfl, hnb, a', v', q0, q1, ha', hm', hbits, c0, c1, c2, c3, c4, c5, hfz, hl, hr⟩ := HTr.out
      obtain ⟨m, hkm⟩ : ∃ m, k.length = m := ⟨_, rfl⟩
      rw [hkm] at c1 hm' hbits
      have hm32 := (may_mod hm').1
      have d0 := (HB.out.cell (p := ⟨nb, 0, none⟩) hnb).trans c0
      have d1 := (HB.out.cell (p := ⟨nb, 1, none⟩) hnb).trans c1
      have d2 := (HB.out.cell (p := ⟨nb, 2, none⟩) hnb).trans c2
      have d3 := (HB.out.cell (p := ⟨nb, 3, none⟩) hnb).trans c3
      have d4 := (HB.out.cell (p := ⟨nb, 4, none⟩) hnb).trans c4
      have d5 := (HB.out.cell (p := ⟨nb, 5, none⟩) hnb).trans c5
      have hnr : nb < wr.heap.size := Nat.lt_of_lt_of_le hnb HB.out.size
      have hiff : firstP x m = a' ↔ k <+: bitsP x 32 := by rw [← hbits]; exact has_bits ha' hx hm'
      have hand := and_maskI (x : Int) (m : Int) (by omega) (by omega)
      have HMK : Hid (∀ W, Calls Tryz.prog 170 #[.int .i64 (m : Int)] W fun e w' => e = .returned (.int .u32 (4294967296 - blk (m : Int))) ∧ W = w') := Lib.hid (fun W => tmask_any _ W (by omega) (by omega))
      have HIF := Lib.hid hiff
      have HKM := Lib.hid hkm
      have HL := Lib.hid hl
      have HRR := Lib.hid hr
      have HCS := Lib.hid (And.intro c0 (And.intro c1 (And.intro c2 (And.intro c3 (And.intro c4 c5)))))
      have HIN2 : Hid (l.Inv ∧ r.Inv) := Lib.hid ⟨HIn.out.2.2.2.1, HIn.out.2.2.2.2⟩
      have hle : es.length ≤ 33 := by have h1 := HC.out; have h2 := Tree.cover_le (x := bitsP x 32) HT.out.inv 0 (fun _ _ => Nat.zero_le _) (by omega); omega
      clear hiff hkm hbits hm' c0 c1 c2 c3 c4 c5 hfz hl hr
      generalize firstP (x : Int) (m : Int) = f at *
      by_cases hk : k <+: bitsP x 32
      · have hfe : f = (a' : Int) := HIF.out.2 hk
        subst hfe
        have t4 : (((a' : Int)) != (a' : Int)) = false := by simp
        have HCV : Hid (Tree.cover (bitsP x 32) (.node nb k has l r) = (if has = true then 1 else 0) + (if m = 32 then 0 else if (bitsP x 32)[m]? = some true then Tree.cover (bitsP x 32) r else Tree.cover (bitsP x 32) l)) := Lib.hid (by
          conv => lhs; unfold Tree.cover
          rw [if_pos hk, HKM.out])
        clear hk
        cases has with
        | true =>
          go_wp2
          refine wp_region_ext (by kernel_rfl) (by kernel_rfl) ?_
          repeat (go_big_quiet_step (first | (go_at_call 170; exact Ext.callq (HMK.out _))))
          refine wpQuiet_nil ?_
          rintro _ ⟨z, rfl⟩
          go_wp2
          have hbz := Ext.lift z HB.out
          have hown := own_below HO.out z.below
          have e0 := (hbz.cell (p := ⟨nb, 0, none⟩) hnb).trans HCS.out.1
          have e1 := (hbz.cell (p := ⟨nb, 1, none⟩) hnb).trans HCS.out.2.1
          have e2 := (hbz.cell (p := ⟨nb, 2, none⟩) hnb).trans HCS.out.2.2.1
          have hnz : nb < z.w.heap.size := Nat.lt_of_lt_of_le hnb hbz.size
          have hne := own_no hown hnb
          have hzs := hbz.size
          obtain ⟨i0, hi0, hz0, hz1, hz2⟩ := info_parts info_E
          have HHB := Lib.hid hbz
          clear hbz
          go_region_held3 (fun w' => w'.cell? ⟨nb, 0, none⟩ = some (.int .u32 (a' : Int)) ∧ w'.cell? ⟨nb, 1, none⟩ = some (.int .i64 (m : Int)) ∧ w'.cell? ⟨nb, 2, none⟩ = some (.bool v'))
            (first
              | go_keep
              | exact ⟨(hgrow.cell_far _ (show nb < (z.w.alloc _).heap.size by simp; omega) (Ne.symm hne)).trans ((World.cell?_alloc_lt z.w _ _ hnz).trans e0), (hgrow.cell_far _ (show nb < (z.w.alloc _).heap.size by simp; omega) (Ne.symm hne)).trans ((World.cell?_alloc_lt z.w _ _ hnz).trans e1), (hgrow.cell_far _ (show nb < (z.w.alloc _).heap.size by simp; omega) (Ne.symm hne)).trans ((World.cell?_alloc_lt z.w _ _ hnz).trans e2)⟩)
            ((refine step_append_lies _ (by rfl) _ _ _ (by rfl) w.heap.size 226 i0 _ 3 24 Tryz.underlying224 hi0 hz0 hz1 hz2 rfl (by omega) _ es.length _ (by rfl) ((hown.alloc _).drew)
                ⟨z.w.heap.size, 0, none⟩ 1 1 [_, _, _] (by rfl) (by rfl) (World.news_of_block (cs := #[_, _, _]) (t := 226) (fr := (0, 0)) (heap_alloc_new z.w _)) (by simp [Value.oneCell'])
                (by omega) (by unfold maxLen; omega) (by omega) (by simp; omega) (z.w.heap.size + 1) (by simp) ?_; intro gg cap w1 hown1 hgrow hat hlt1))
          all_goals
            have HBW := Lib.hid (HHB.out.grown (grownBy_alloc (grownBy_drew hgrow)) hzs fun g hg => (hown.lt g hg).1)
            have HOW : Hid (w1.ownsRow w.heap.size 226 3 _ (es ++ [((a' : Int), (m : Int), v')]).length (cellsE (es ++ [((a' : Int), (m : Int), v')]))) := Lib.hid (by rw [cellsE_snoc, List.length_append]; exact hown1)
            clear hown1 hgrow hown hat e0 e1 e2
            have e1 := (HBW.out.cell (p := ⟨nb, 1, none⟩) hnb).trans HCS.out.2.1
            have e4 := (HBW.out.cell (p := ⟨nb, 4, none⟩) hnb).trans HCS.out.2.2.2.2.1
            have e5 := (HBW.out.cell (p := ⟨nb, 5, none⟩) hnb).trans HCS.out.2.2.2.2.2
            have hnW : nb < w1.heap.size := Nat.lt_of_lt_of_le hnb HBW.out.size
            by_cases h32 : m = 32
            · have t5 : ((m : Int) == 32) = true := by rw [beq_iff_eq]; omega
              have HC2 : Hid ((es ++ [((a' : Int), (m : Int), v')]).length = t.cover (bitsP x 32)) := Lib.hid (by
                have := HC.out
                rw [HCV.out, if_pos h32] at this
                simp at this ⊢; omega)
              clear h32
              go_wp2
              try rw [Exit.noGoto_normal]
              go_wp2_with (go_at_call 171; refine (over_any _ _ _ _).mono ?_; rintro e w' ⟨rfl, rfl⟩)
              try rw [Exit.noGoto_ret]
              go_ret
              exact ⟨CovRes.mk HC2.out HOW.out HBW.out, HBW.out.alloc HBW.out.size _⟩
            · have t5 : ((m : Int) == 32) = false := beq_eq_false_iff_ne.2 (by omega)
              have hm31 : m < 32 := by omega
              have hat : (bitsP x 32)[m]? = some (x.testBit (31 - m)) := bitsP_at x 32 m hm31
              have HCN : Hid ((es ++ [((a' : Int), (m : Int), v')]).length + (Tree.kid (x.testBit (31 - m)) l r).cover (bitsP x 32) = t.cover (bitsP x 32)) := Lib.hid (by
                have := HC.out
                rw [HCV.out, if_neg h32, hat] at this
                unfold Tree.kid
                cases hb2 : x.testBit (31 - m) <;> rw [hb2] at this <;> simp at this ⊢ <;> omega)
              clear hat h32
              cases hbit : x.testBit (31 - m) with
              | true =>
                have HBI : Hid (∀ W, Calls Tryz.prog 166 #[.int .u32 (x : Int), .int .i64 (m : Int)] W fun e w' => e = .returned (.int .i64 1) ∧ W = w') := Lib.hid (fun W => by
                  have := tbit_any x m W hx (by omega)
                  unfold bitN at this; rw [hbit] at this; exact this)
                have HCM : Hid ((es ++ [((a' : Int), (m : Int), v')]).length + (r : Tree).cover (bitsP x 32) = t.cover (bitsP x 32)) := Lib.hid (by have := HCN.out; rw [hbit] at this; exact this)
                clear hbit
                go_wp2
                refine wp_region_ext (by kernel_rfl) (by kernel_rfl) ?_
                repeat (go_big_quiet_step (first | (go_at_call 166; exact Ext.callq (HBI.out _))))
                refine wpQuiet_nil ?_
                rintro _ ⟨z2, rfl⟩
                go_wp2
                go_roundg (Tree.size r)
                case measure => rw [HG.out]; simp only [Tree.size]; omega
                case rel => exact ⟨r, _, es ++ [((a' : Int), (m : Int), v')], rfl, rfl, HRR, Lib.hid HIN2.out.2, HCM, Lib.hid (own_below HOW.out z2.below), Lib.hid (Ext.lift z2 HBW.out)⟩
              | false =>
                have HBI : Hid (∀ W, Calls Tryz.prog 166 #[.int .u32 (x : Int), .int .i64 (m : Int)] W fun e w' => e = .returned (.int .i64 0) ∧ W = w') := Lib.hid (fun W => by
                  have := tbit_any x m W hx (by omega)
                  unfold bitN at this; rw [hbit] at this; exact this)
                have HCM : Hid ((es ++ [((a' : Int), (m : Int), v')]).length + (l : Tree).cover (bitsP x 32) = t.cover (bitsP x 32)) := Lib.hid (by have := HCN.out; rw [hbit] at this; exact this)
                clear hbit
                go_wp2
                refine wp_region_ext (by kernel_rfl) (by kernel_rfl) ?_
                repeat (go_big_quiet_step (first | (go_at_call 166; exact Ext.callq (HBI.out _))))
                refine wpQuiet_nil ?_
                rintro _ ⟨z2, rfl⟩
                go_wp2
                go_roundg (Tree.size l)
                case measure => rw [HG.out]; simp only [Tree.size]; omega
                case rel => exact ⟨l, _, es ++ [((a' : Int), (m : Int), v')], rfl, rfl, HL, Lib.hid HIN2.out.1, HCM, Lib.hid (own_below HOW.out z2.below), Lib.hid (Ext.lift z2 HBW.out)⟩
        | false =>
          go_wp2
          refine wp_region_ext (by kernel_rfl) (by kernel_rfl) ?_
          repeat (go_big_quiet_step (first | (go_at_call 170; exact Ext.callq (HMK.out _))))
          refine wpQuiet_nil ?_
          rintro _ ⟨z, rfl⟩
          have HBW := Lib.hid (Ext.lift z HB.out)
          have HOW := Lib.hid (own_below HO.out z.below)
          have e1 := (HBW.out.cell (p := ⟨nb, 1, none⟩) hnb).trans HCS.out.2.1
          have e4 := (HBW.out.cell (p := ⟨nb, 4, none⟩) hnb).trans HCS.out.2.2.2.2.1
          have e5 := (HBW.out.cell (p := ⟨nb, 5, none⟩) hnb).trans HCS.out.2.2.2.2.2
          have hnW : nb < z.w.heap.size := Nat.lt_of_lt_of_le hnb HBW.out.size
          by_cases h32 : m = 32
          · have t5 : ((m : Int) == 32) = true := by rw [beq_iff_eq]; omega
            have HC2 : Hid ((es).length = t.cover (bitsP x 32)) := Lib.hid (by
              have := HC.out
              rw [HCV.out, if_pos h32] at this
              simp at this ⊢; omega)
            clear h32
            obtain ⟨A', n', c', rfl⟩ := own_slice HOW.out
            go_wp2
            try rw [Exit.noGoto_normal]
            go_wp2_with (go_at_call 171; refine (over_any _ _ _ _).mono ?_; rintro e w' ⟨rfl, rfl⟩)
            try rw [Exit.noGoto_ret]
            go_ret
            exact ⟨CovRes.mk HC2.out HOW.out HBW.out, HBW.out.alloc HBW.out.size _⟩
          · have t5 : ((m : Int) == 32) = false := beq_eq_false_iff_ne.2 (by omega)
            have hm31 : m < 32 := by omega
            have hat : (bitsP x 32)[m]? = some (x.testBit (31 - m)) := bitsP_at x 32 m hm31
            have HCN : Hid ((es).length + (Tree.kid (x.testBit (31 - m)) l r).cover (bitsP x 32) = t.cover (bitsP x 32)) := Lib.hid (by
              have := HC.out
              rw [HCV.out, if_neg h32, hat] at this
              unfold Tree.kid
              cases hb2 : x.testBit (31 - m) <;> rw [hb2] at this <;> simp at this ⊢ <;> omega)
            clear hat h32
            cases hbit : x.testBit (31 - m) with
            | true =>
              have HBI : Hid (∀ W, Calls Tryz.prog 166 #[.int .u32 (x : Int), .int .i64 (m : Int)] W fun e w' => e = .returned (.int .i64 1) ∧ W = w') := Lib.hid (fun W => by
                have := tbit_any x m W hx (by omega)
                unfold bitN at this; rw [hbit] at this; exact this)
              have HCM : Hid ((es).length + (r : Tree).cover (bitsP x 32) = t.cover (bitsP x 32)) := Lib.hid (by have := HCN.out; rw [hbit] at this; exact this)
              clear hbit
              go_wp2
              refine wp_region_ext (by kernel_rfl) (by kernel_rfl) ?_
              repeat (go_big_quiet_step (first | (go_at_call 166; exact Ext.callq (HBI.out _))))
              refine wpQuiet_nil ?_
              rintro _ ⟨z2, rfl⟩
              go_wp2
              go_roundg (Tree.size r)
              case measure => rw [HG.out]; simp only [Tree.size]; omega
              case rel => exact ⟨r, _, es, rfl, rfl, HRR, Lib.hid HIN2.out.2, HCM, Lib.hid (own_below HOW.out z2.below), Lib.hid (Ext.lift z2 HBW.out)⟩
            | false =>
              have HBI : Hid (∀ W, Calls Tryz.prog 166 #[.int .u32 (x : Int), .int .i64 (m : Int)] W fun e w' => e = .returned (.int .i64 0) ∧ W = w') := Lib.hid (fun W => by
                have := tbit_any x m W hx (by omega)
                unfold bitN at this; rw [hbit] at this; exact this)
              have HCM : Hid ((es).length + (l : Tree).cover (bitsP x 32) = t.cover (bitsP x 32)) := Lib.hid (by have := HCN.out; rw [hbit] at this; exact this)
              clear hbit
              go_wp2
              refine wp_region_ext (by kernel_rfl) (by kernel_rfl) ?_
              repeat (go_big_quiet_step (first | (go_at_call 166; exact Ext.callq (HBI.out _))))
              refine wpQuiet_nil ?_
              rintro _ ⟨z2, rfl⟩
              go_wp2
              go_roundg (Tree.size l)
              case measure => rw [HG.out]; simp only [Tree.size]; omega
              case rel => exact ⟨l, _, es, rfl, rfl, HL, Lib.hid HIN2.out.1, HCM, Lib.hid (own_below HOW.out z2.below), Lib.hid (Ext.lift z2 HBW.out)⟩
      · have hne : ¬ f = (a' : Int) := fun e => hk (HIF.out.1 e)
        have t4 : (f != (a' : Int)) = true := by rw [bne_iff_ne]; exact hne
        have HC2 : Hid (es.length = t.cover (bitsP x 32)) := Lib.hid (by have := HC.out; rwa [show Tree.cover (bitsP x 32) (.node nb k has l r) = 0 by unfold Tree.cover; rw [if_neg hk]] at this)
        clear hne hk HC
        have HC := HC2
        go_wp2
        refine wp_region_ext (by kernel_rfl) (by kernel_rfl) ?_
        repeat (go_big_quiet_step (first | (go_at_call 170; exact Ext.callq (HMK.out _))))
        refine wpQuiet_nil ?_
        rintro _ ⟨z, rfl⟩
        have hbz := Ext.lift z HB.out
        have hoz := own_below HO.out z.below
        obtain ⟨A', n', c', rfl⟩ := own_slice hoz
        go_wp2
        rw [Exit.noGoto_normal]
        go_wp2_with (go_at_call 171; refine (over_any _ _ _ _).mono ?_; rintro e w' ⟨rfl, rfl⟩)
        try rw [Exit.noGoto_ret]
        go_ret
        exact ⟨CovRes.mk (HC.out) hoz hbz, hbz.alloc hbz.size _⟩
end Go.Proofs.YtfbangojgjcbcaaGreatDoor
namespace Go.Proofs.YtfbangojgjcbcaaGreatDoor
open Go.RowKit Pl Go.Shelf
attribute [local go_sem] Oper.semAt_some
theorem cellsE_at (es : List E3) (j : Nat) (u : E3) (h : es[j]? = some u) : (cellsE es)[j * 3]? = some (.int .u32 u.1) ∧ (cellsE es)[j * 3 + 1]? = some (.int .i64 u.2.1) ∧ (cellsE es)[j * 3 + 2]? = some (.bool u.2.2) := by
  induction es generalizing j with
  | nil => simp at h
  | cons x es ih =>
    cases j with
    | zero => simp at h; subst h; simp [cellsE]
    | succ j =>
      simp only [List.getElem?_cons_succ] at h
      obtain ⟨h1, h2, h3⟩ := ih j h
      have e : cellsE (x :: es) = [.int .u32 x.1, .int .i64 x.2.1, .bool x.2.2] ++ cellsE es := by unfold cellsE; rw [List.flatMap_cons]
      rw [e]
      refine ⟨?_, ?_, ?_⟩
      · rw [List.getElem?_append_right (by simp; omega)]; simpa [show (j + 1) * 3 - 3 = j * 3 by omega] using h1
      · rw [List.getElem?_append_right (by simp; omega)]; simpa [show (j + 1) * 3 + 1 - 3 = j * 3 + 1 by omega] using h2
      · rw [List.getElem?_append_right (by simp; omega)]; simpa [show (j + 1) * 3 + 2 - 3 = j * 3 + 2 by omega] using h3
/-- The blocks from lo on, below hi, lie as they lay. -/
structure Between (lo hi : Nat) (A B : World) : Prop where
  size : A.heap.size ≤ B.heap.size
  at_ : ∀ g, lo ≤ g → g < hi → B.heap[g]? = A.heap[g]?
section
variable {lo hi : Nat} {A B C : World}
theorem Between.refl (A : World) : Between lo hi A A := ⟨Nat.le_refl _, fun _ _ _ => rfl⟩
theorem Between.trans (h : Between lo hi A B) (h' : Between lo hi B C) : Between lo hi A C := ⟨Nat.le_trans h.size h'.size, fun g h1 h2 => (h'.at_ g h1 h2).trans (h.at_ g h1 h2)⟩
theorem Between.alloc (h : Between lo hi A B) (hhi : hi ≤ B.heap.size) (o : Obj) : Between lo hi A (B.alloc o) := h.trans ⟨by simp, fun g _ h2 => Below.heap_alloc B o g (by omega)⟩
theorem Between.set (h : Between lo hi A B) {p : Addr} (hp : p.block < lo) (u : Value) : Between lo hi A (B.setCell p u) := h.trans ⟨by simp [World.setCell], fun g h1 _ => Below.heap_setCell B p u g (by omega)⟩
theorem Between.put {l : Nat} {o' : Obj} (hl : hi ≤ l) : Between lo hi A (A.putObj l o') := ⟨by simp, fun g _ h2 => World.putObj_heap_other (by omega)⟩
theorem Between.of_below (h : Below hi A B) : Between lo hi A B := ⟨h.size, fun g _ h2 => h.block g h2⟩
theorem Between.cell (h : Between lo hi A B) {p : Addr} (h1 : lo ≤ p.block) (h2 : p.block < hi) : B.cell? p = A.cell? p := World.cell?_of_block (h.at_ _ h1 h2)
end
/-- The slice value v holds the entries es, in a block from lo on, below hi; or it is nil and there are none. -/
def Es (lo hi : Nat) (W : World) (v : Value) (es : List E3) : Prop :=
  ∃ (A : Option Addr) (c : Nat), v = .slice A es.length c ∧ (0 < es.length → ∃ b off, A = some ⟨b, off, none⟩ ∧ (lo ≤ b ∧ b < hi) ∧ ∀ j u, es[j]? = some u →
    W.cell? ⟨b, off + j * 3, none⟩ = some (.int .u32 u.1) ∧ W.cell? ⟨b, off + j * 3 + 1, none⟩ = some (.int .i64 u.2.1) ∧ W.cell? ⟨b, off + j * 3 + 2, none⟩ = some (.bool u.2.2))
theorem Es.keep {lo hi : Nat} {A B : World} (hb : Between lo hi A B) {v : Value} {es : List E3} (h : Es lo hi A v es) : Es lo hi B v es := by
  obtain ⟨P, c, rfl, hA⟩ := h
  refine ⟨P, c, rfl, fun hp => ?_⟩
  obtain ⟨b, off, rfl, hlt, hcell⟩ := hA hp
  refine ⟨b, off, rfl, hlt, fun j u hu => ?_⟩
  obtain ⟨h1, h2, h3⟩ := hcell j u hu
  exact ⟨(hb.cell hlt.1 hlt.2).trans h1, (hb.cell hlt.1 hlt.2).trans h2, (hb.cell hlt.1 hlt.2).trans h3⟩
theorem Es.own {w : World} {base : Nat} {e : TypeId} {v : Value} {es : List E3} (h : w.ownsRow base e 3 v es.length (cellsE es)) : Es base w.heap.size w v es := by
  rcases h.2 with ⟨rfl, h0⟩ | ⟨g, cap, cur, rfl, hg, hh, hnc, _⟩
  · have h0' : es = [] := by
      cases es with
      | nil => rfl
      | cons u us => simp at h0
    subst h0'; exact ⟨none, 0, rfl, fun h => absurd h (by simp)⟩
  · refine ⟨_, cap, rfl, fun hp => ⟨g, 0, rfl, ⟨(h.lt g rfl).1, (h.lt g rfl).2⟩, fun j u hu => ?_⟩⟩
    have hc := h.cells (g := g) rfl
    have key : ∀ i u, (cellsE es)[i]? = some u → w.cell? ⟨g, 0 + i, none⟩ = some u := fun i u hu => by
      have := hc i u hu
      rw [show ((⟨g, 0, none⟩ : Addr).add i) = ⟨g, 0 + i, none⟩ from by unfold Addr.add; by_cases hj : i = 0 <;> simp [hj]] at this
      exact this
    obtain ⟨h1, h2, h3⟩ := cellsE_at es j u hu
    exact ⟨key _ _ h1, by have := key _ _ h2; rwa [← Nat.add_assoc] at this, by have := key _ _ h3; rwa [← Nat.add_assoc] at this⟩
set_option maxRecDepth 100000 in
set_option maxHeartbeats 4000000 in
/-- over's closure goes over the entries, for every loop body that keeps what lay there. -/
theorem over1_in (F : Fence) (n : Nat) (hF : F.fn 194) (hro : F.round = none) (hn : 1 ≤ n) (l Bs lo hi : Nat) (v : Value) (es : List E3) (hlen : es.length ≤ 1000000) (J Jx : List E3 → World → Prop)
    (hJa : ∀ pre W o, J pre W → J pre (W.alloc o))
    (hY : ∀ pre x W, J pre W → pre.length < es.length → YieldAt F (n - 1) Tryz.prog l #[.agg #[.int .u32 x.1, .int .i64 x.2.1], .bool x.2.2] W fun e W' =>
      (e = .returned (.bool true) ∧ J (pre ++ [x]) W' ∧ Between lo hi W W') ∨ (e = .returned (.bool false) ∧ Jx (pre ++ [x]) W'))
    (W : World) (hn0 : hi ≤ W.heap.size) (hBs : W.cell? ⟨Bs, 0, none⟩ = some v) (hE : Es lo hi W v es) (h0 : J [] W) :
    CallsIn F n Tryz.prog 194 #[.func (.yield l) #[] #[], .pointer (some ⟨Bs, 0, none⟩)] W fun e W' => (∃ v, e = .returned v) ∧
      ((∃ ys, ys = es ∧ J ys W') ∨ (∃ pre, pre <+: es ∧ Jx pre W')) := by
  have HE := Lib.hid hE
  obtain ⟨A, c, rfl, _⟩ := hE
  refine callsIn_of_wp Tryz.func194 rfl hF ?_ hro
  simp only [Tryz.ntmps194, List.size_toArray, List.length_cons, List.length_nil, Nat.reduceAdd, Nat.reduceSub, Array.replicate_succ, Array.replicate_zero, List.push_toArray, List.append_toArray, List.nil_append, List.cons_append]
  gi_wp2
  gi_loopw [7] (fun i wr => ∃ k : Nat, k ≤ es.length ∧ i = .int .i64 k ∧ J (es.take k) wr ∧ Between lo hi W wr) (fun i _ => es.length - (intOf i).toNat)
  case atStart => exact ⟨0, Nat.zero_le _, rfl, h0, Between.refl _⟩
  case round =>
    obtain ⟨k, hk, rfl, hJs, hnx⟩ := hrel
    by_cases hlt : k < es.length
    · obtain ⟨A', c', hv, hA⟩ := HE.out.keep hnx
      injection hv with hv1 hv2 hv3
      subst hv1 hv3
      obtain ⟨b, off, rfl, hb, hcell⟩ := hA (by omega)
      obtain ⟨u, hu⟩ : ∃ u, es[k]? = some u := ⟨_, List.getElem?_eq_getElem hlt⟩
      obtain ⟨c0, c1, c2⟩ := hcell k u hu
      have HT : Hid (es.take (k + 1) = es.take k ++ [u]) := Lib.hid (by rw [List.take_add_one, hu]; rfl)
      clear hcell hA hu
      obtain ⟨ua, un, ub⟩ := u
      simp only at c0 c1 c2
      have hJ2 := hJa _ _ (.cells #[.int .u32 ua, .int .i64 un, .bool ub] 226) hJs
      have hkl : (es.take k).length < es.length := by rw [List.length_take]; omega
      obtain ⟨fn, tmps, assign, body, hy, hR⟩ := hY (es.take k) (ua, un, ub) _ hJ2 hkl
      dsimp only at hy
      have hbk := hnx.size
      clear hkl
      gi_wp2
      refine hR.mono ?_
      rintro e W3 (⟨rfl, hJ3, hk3⟩ | ⟨rfl, hJx3⟩)
      · gi_wp2
        go_roundw
        case rel => exact ⟨k + 1, by omega, by go_num, by rw [HT.out]; exact hJ3, (hnx.alloc (by omega) _).trans hk3⟩
        case measure => simp [intOf]; omega
      · gi_wp2
        refine bodyPost_ret (results_none rfl _ _ _) rfl ?_
        exact ⟨⟨_, rfl⟩, .inr ⟨es.take k ++ [(ua, un, ub)], by rw [← HT.out]; exact List.take_prefix _ _, hJx3⟩⟩
    · obtain rfl : k = es.length := by omega
      rw [List.take_length] at hJs
      gi_wp2
      go_end0
      exact ⟨⟨_, rfl⟩, .inl ⟨_, rfl, hJs⟩⟩
theorem over1_stops (F : Fence) (n : Nat) (hF : F.fn 194) (hro : F.round = none) (hn : 1 ≤ n) (Bs lo hi : Nat) (v : Value) (es : List E3) (hlen : es.length ≤ 1000000) (w : World) (hBn : Bs < w.heap.size) (hhi : hi ≤ w.heap.size)
    (hc : w.cell? ⟨Bs, 0, none⟩ = some v) (hE : Es lo hi w v es) :
    SeqStopsK F n Tryz.prog 194 #[.pointer (some ⟨Bs, 0, none⟩)] (fun x : E3 => #[.agg #[.int .u32 x.1, .int .i64 x.2.1], .bool x.2.2]) (Between lo hi) (fun ys => ys = es) (fun pre => pre <+: es) es.length w := fun l J Jx W hW hJ _ hY h0 =>
  over1_in F n hF hro hn l Bs lo hi v es hlen J Jx (fun pre X o h => hJ pre X _ none h (World.grownBy_alloc X o none) (fun r e => by cases e)) hY W (Nat.le_trans hhi hW.size) ((hW.cell (p := ⟨Bs, 0, none⟩) hBn).trans hc) (hE.keep (Between.of_below (hW.mono hhi))) h0
def MatchRes (b : Bool) (e : Ending) : Prop := ∃ (pa pn : Int) (v : Bool), e = .returned (.tuple #[.agg #[.int .u32 pa, .int .i64 pn], .bool v, .bool b])
/-- What the three results hold while the entries are gone over. -/
def MatchIn (w : World) (pre : List E3) (W : World) : Prop :=
  ∃ (pa pn : Int) (v : Bool), Whole W w.heap.size 86 #[.int .u32 pa, .int .i64 pn] ∧ Whole W (w.heap.size + 1) 4 #[.bool v] ∧ Whole W (w.heap.size + 2) 4 #[.bool (!pre.isEmpty)]
theorem MatchIn.alloc {w W : World} {pre : List E3} (h : MatchIn w pre W) (o : Obj) : MatchIn w pre (W.alloc o) := by
  obtain ⟨pa, pn, v, h1, h2, h3⟩ := h
  exact ⟨pa, pn, v, h1.alloc o, h2.alloc o, h3.alloc o⟩
theorem MatchIn.own {w : World} : Own (MatchIn w) := fun pre A B row hs hg hr => by
  obtain ⟨pa, pn, v, h1, h2, h3⟩ := hs
  exact ⟨pa, pn, v, whole_own _ _ (fun _ : List E3 => #[Value.int .u32 pa, .int .i64 pn]) pre A B row h1 hg hr, whole_own _ _ (fun _ : List E3 => #[Value.bool v]) pre A B row h2 hg hr, whole_own _ _ (fun pre : List E3 => #[Value.bool (!pre.isEmpty)]) pre A B row h3 hg hr⟩
/-- The three results, stored. -/
theorem match_sets {W w : World} {n : Nat} {t1 t2 : TypeId} {c1 c3 p1 p2 : Value} (a b c d : Value) (h1 : Whole W n t1 #[p1, p2]) (h2 : Whole W (n + 1) t2 #[c1]) (h3 : Whole W (n + 2) t2 #[c3]) (hB : Below n w W) :
    let W' := (((W.setCell ⟨n, 0, none⟩ a).setCell ⟨n, 1, none⟩ b).setCell ⟨n + 1, 0, none⟩ c).setCell ⟨n + 1 + 1, 0, none⟩ d
    Whole W' n t1 #[a, b] ∧ Whole W' (n + 1) t2 #[c] ∧ Whole W' (n + 2) t2 #[d] ∧ Below n w W' ∧ W'.heap.size = W.heap.size :=
  ⟨(((h1.set 0 a).set 1 b).far (p := ⟨n + 1, 0, none⟩) (by simp) c).far (p := ⟨n + 1 + 1, 0, none⟩) (by simp; omega) d,
    (((h2.far (p := ⟨n, 0, none⟩) (by simp) a).far (p := ⟨n, 1, none⟩) (by simp) b).set 0 c).far (p := ⟨n + 1 + 1, 0, none⟩) (by simp) d,
    (((h3.far (p := ⟨n, 0, none⟩) (by simp) a).far (p := ⟨n, 1, none⟩) (by simp) b).far (p := ⟨n + 1, 0, none⟩) (by simp) c).set 0 d,
    (((hB.setCell (p := ⟨n, 0, none⟩) (by simp) a).setCell (p := ⟨n, 1, none⟩) (by simp) b).setCell (p := ⟨n + 1, 0, none⟩) (by simp) c).setCell (p := ⟨n + 1 + 1, 0, none⟩) (by simp; omega) d, by simp [World.setCell]⟩
set_option maxRecDepth 100000 in
set_option maxHeartbeats 4000000 in
theorem match_any (T x base : Nat) (t : Tree) (w : World) (hx : x < 4294967296) (h : TrieAt w base T t) :
    Calls Tryz.prog 68 #[.pointer (some ⟨T, 0, none⟩), .int .u32 (x : Int)] w fun e w' => MatchRes (decide (0 < t.cover (bitsP x 32))) e ∧ Below w.heap.size w w' := by
  obtain ⟨W1, hW1⟩ : ∃ W1, ((w.alloc (.cells #[.int .u32 0, .int .i64 0] 86)).alloc (.cells #[.bool false] 4)).alloc (.cells #[.bool false] 4) = W1 := ⟨_, rfl⟩
  have hb1 : Below w.heap.size w W1 := by rw [← hW1]; exact (((Below.refl _ w).alloc (Nat.le_refl _) _).alloc (by simp) _).alloc (by simp; omega) _
  have hsz : W1.heap.size = w.heap.size + 3 := by rw [← hW1]; simp
  have hin : MatchIn w [] W1 := by
    rw [← hW1]
    exact ⟨0, 0, false, ((Whole.new w _ _).alloc _).alloc _, by have := (Whole.new (w.alloc (.cells #[.int .u32 0, .int .i64 0] 86)) 4 #[.bool false]).alloc (.cells #[.bool false] 4); simpa using this, by have := Whole.new ((w.alloc (.cells #[.int .u32 0, .int .i64 0] 86)).alloc (.cells #[.bool false] 4)) 4 #[.bool false]; simpa using this⟩
  have hcv := Tree.cover_le (x := bitsP x 32) h.inv 0 (fun _ _ => Nat.zero_le _) (by omega)
  have HC := Lib.hid (covers_any T x base t W1 hx (h.below hb1))
  have HW := Lib.hid hW1
  have HSZ := Lib.hid hsz
  have HIN := Lib.hid hin
  have HB1 := Lib.hid hb1
  clear h hW1 hsz hin hb1
  refine (callsIn_wide (n := 3)).1 ?_
  refine callsIn_of_wp_marks Tryz.func68 rfl trivial ?_ rfl
  simp only [Tryz.ntmps68, List.size_toArray, List.length_cons, List.length_nil, Nat.reduceAdd, Nat.reduceSub, Array.replicate_succ, Array.replicate_zero, List.push_toArray, List.append_toArray, List.nil_append, List.cons_append]
  gi_wp2
  rw [HW.out]
  refine ⟨trivial, (callsIn_wide.2 HC.out).mono ?_⟩
  rintro e W2 ⟨⟨es, B, v, hes, rfl, hB1, hB2, hBc, hown⟩, hb2⟩
  have hlen : es.length ≤ 1000000 := by omega
  have HES := Lib.hid hes
  have HE := Lib.hid (Es.own hown)
  have HIN2 : Hid (MatchIn w [] W2) := Lib.hid (by
    obtain ⟨pa, pn, v, h1, h2, h3⟩ := HIN.out
    exact ⟨pa, pn, v, h1.here hb2, h2.here hb2, h3.here hb2⟩)
  have HB2 : Hid (Below w.heap.size w W2) := Lib.hid (HB1.out.trans (hb2.mono HB1.out.size))
  have hs1 : W1.heap.size = w.heap.size + 3 := HSZ.out
  have hs2 := hb2.size
  have hs3 : w.heap.size + 3 ≤ W2.heap.size := by omega
  have HLO := Lib.hid hs1
  clear hes hown hs1 hcv
  gi_wp2
  refine wpIn_rangeFunc_ownH (F := Fence.wide) rfl (by decide) (gf := 194) (lb := #[.pointer (some ⟨B, 0, none⟩)]) rfl trivial (enters_of Tryz.func194 (by kernel_rfl) rfl)
    (over1_stops Fence.wide 2 trivial rfl (by decide) B W1.heap.size W2.heap.size v es hlen W2 hB2 (Nat.le_refl _) hBc HE.out) Between.trans (fun W l o o' hl _ _ _ => Between.put hl) (Below.refl _ _) (fun _ => rfl)
    (fun pre W => (MatchIn w pre W ∧ Below w.heap.size w W) ∧ W2.heap.size ≤ W.heap.size)
    (fun _ _ _ => False)
    (OwnFrom.and (OwnFrom.and (Own.from MatchIn.own _) (ownFrom_below (Nat.le_refl _) (by omega))) (fun _ _ _ _ hs hg _ => Nat.le_trans hs hg.size))
    (fun _ _ _ _ _ hs _ _ => hs)
    ⟨⟨HIN2.out, HB2.out⟩, Nat.le_refl _⟩
    (fun y a' W => ∃ Bx, w.heap.size + 2 < Bx ∧ Whole W Bx 86 #[.int .u32 y.1, .int .i64 y.2.1] ∧ a' = { tmps := #[.pointer (some ⟨T, 0, none⟩), .int .u32 (x : Int), undef, undef, .pointer (some ⟨w.heap.size, 0, none⟩), .pointer (some ⟨w.heap.size + 1, 0, none⟩), .pointer (some ⟨w.heap.size + 1 + 1, 0, none⟩), .pointer (some ⟨Bx, 0, none⟩), .bool y.2.2, .pointer (some ⟨T, 0, none⟩), .int .u32 (x : Int), .func (.func 194) #[] #[.pointer (some ⟨B, 0, none⟩)], .agg #[.int .u32 y.1, .int .i64 y.2.1], .bool y.2.2, undef, undef, undef, undef, undef], defers := [] })
    (fun y a' _ X Y row hs hg hr => by obtain ⟨Bx, h1, h2, h3⟩ := hs; exact ⟨Bx, h1, whole_own Bx _ (fun (_ : Unit) => #[Value.int .u32 y.1, .int .i64 y.2.1]) () X Y row h2 hg (fun r e => (hr r e).2), h3⟩)
    ?assign ?body ?done ?stop
  case assign =>
    rintro l pre ⟨ya, yn, yb⟩ W K ⟨⟨hI, hB⟩, hz⟩ hK
    gi_wp2
    exact hK _ _ ((KeepsOthers.alloc _ _).from _) ((Between.refl W).alloc hz _) ⟨⟨hI.alloc _, hB.alloc hB.size _⟩, by simp; omega⟩ ⟨W.heap.size, by omega, Whole.new W _ _, rfl⟩
  case body =>
    rintro l pre ⟨ya, yn, yb⟩ a' W hl ⟨r, hr⟩ ⟨⟨⟨pa, pn, v0, h1, h2, h3⟩, hB⟩, hz⟩ ⟨Bx, hBx, hX, rfl⟩ hlt
    have c0 := hX.cell 0
    have c1 := hX.cell 1
    have k0 := h1.cell 0
    have k1 := h1.cell 1
    have k2 := h2.cell 0
    have k3 := h3.cell 0
    have f0 := h1.frozen 0
    have f1 := h1.frozen 1
    have f2 := h2.frozen 0
    have f3 := h3.frozen 0
    simp at c0 c1 k0 k1 k2
    rw [show (#[Value.bool (!pre.isEmpty)] : Array Value)[0]? = some (Value.bool (!pre.isEmpty)) from rfl] at k3
    gi_wp2
    have hlo : W1.heap.size = w.heap.size + 3 := HLO.out
    obtain ⟨g1, g2, g3, g4, g5⟩ := match_sets (c1 := .bool v0) (.int .u32 ya) (.int .i64 yn) (.bool yb) (.bool true) h1 h2 h3 hB
    exact ⟨((((KeepsOthers.setCell _ _ _).trans (KeepsOthers.setCell _ _ _)).trans (KeepsOthers.setCell _ _ _)).trans (KeepsOthers.setCell _ _ _)).from _,
      ((((Between.refl W).set (p := ⟨w.heap.size, 0, none⟩) (by simp; omega) _).set (p := ⟨w.heap.size, 1, none⟩) (by simp; omega) _).set (p := ⟨w.heap.size + 1, 0, none⟩) (by simp; omega) _).set (p := ⟨w.heap.size + 1 + 1, 0, none⟩) (by simp; omega) _,
      ⟨⟨ya, yn, yb, g1, g2, by rw [show (!(pre ++ [(ya, yn, yb)]).isEmpty) = true by cases pre <;> rfl]; exact g3⟩, g4⟩, by rw [g5]; exact hz⟩
  case done =>
    rintro D ys W hD rfl ⟨⟨⟨pa, pn, v0, h1, h2, h3⟩, hB⟩, hz⟩ hK
    have k0 := h1.cell 0
    have k1 := h1.cell 1
    have k2 := h2.cell 0
    have k3 := h3.cell 0
    have f0 := h1.frozen 0
    have f1 := h1.frozen 1
    have f2 := h2.frozen 0
    have f3 := h3.frozen 0
    simp at k0 k1 k2
    rw [show (#[Value.bool (!ys.isEmpty)] : Array Value)[0]? = some (Value.bool (!ys.isEmpty)) from rfl] at k3
    gi_wp2
    gi_region
    gi_wp2
    obtain ⟨g1, g2, g3, g4, g5⟩ := match_sets (c1 := .bool v0) (.int .u32 pa) (.int .i64 pn) (.bool v0) (.bool (!ys.isEmpty)) h1 h2 h3 hB
    have hkw := ((((KeepsOthers.setCell W ⟨w.heap.size, 0, none⟩ (.int .u32 pa)).trans (KeepsOthers.setCell _ ⟨w.heap.size, 1, none⟩ (.int .i64 pn))).trans (KeepsOthers.setCell _ ⟨w.heap.size + 1, 0, none⟩ (.bool v0))).trans (KeepsOthers.setCell _ ⟨w.heap.size + 1 + 1, 0, none⟩ (.bool (!ys.isEmpty)))).same D _ hK rfl
    generalize ((((W.setCell ⟨w.heap.size, 0, none⟩ (.int .u32 pa)).setCell ⟨w.heap.size, 1, none⟩ (.int .i64 pn)).setCell ⟨w.heap.size + 1, 0, none⟩ (.bool v0)).setCell ⟨w.heap.size + 1 + 1, 0, none⟩ (.bool (!ys.isEmpty))) = X at *
    have hkd : X.drew.heap[D]? = some (.deferred (some [])) := hkw
    refine ⟨by simp, .inl ⟨_, _, rfl, run_takeDeferred hkd, ?_⟩⟩
    have hput := grownBy_putObj' X.drew D (.deferred none)
    have q1 := g1.drew.kept hput (fun e => by cases e; omega)
    have q2 := g2.drew.kept hput (fun e => by cases e; omega)
    have q3 := g3.drew.kept hput (fun e => by cases e; omega)
    have r0 := q1.cell 0
    have r1 := q1.cell 1
    have r2 := q2.cell 0
    have r3 := q3.cell 0
    simp at r0 r1 r2
    rw [show (#[Value.bool (!ys.isEmpty)] : Array Value)[0]? = some (Value.bool (!ys.isEmpty)) from rfl] at r3
    refine ⟨.tuple #[.agg #[.int .u32 pa, .int .i64 pn], .bool v0, .bool (!ys.isEmpty)], ?_, ⟨pa, pn, v0, ?_⟩, g4.drew.trans (belowK_b (w := w) (Nat.le_refl _) X.drew D _ _ (by omega) hkd rfl rfl)⟩
    · simp [results, Tryz.results68, go_sem, r0, r1, r2, r3]
    · have : (!ys.isEmpty) = decide (0 < Tree.cover (bitsP x 32) t) := by
        rw [← HES.out]; cases ys <;> simp
      rw [this]
  case stop =>
    rintro D c pre W _ _ h _
    exact h.elim
end Go.Proofs.YtfbangojgjcbcaaGreatDoor
namespace Go.Proofs.YtfbangojgjcbcaaGreatDoor
open Go.RowKit Pl
def timesB (c : Cfg) : Bool := inI c.hello 1 100 && inI c.dead (c.hello + 1) 100 && inI c.again 1 100
def linesB (c : Cfg) : Bool := inI c.room 0 64 && inI c.queue 1 64 && inI c.tokens 0 64
theorem mayC_eq (c : Cfg) : mayC c = (ownOk c.own && decide (c.ports.length ≤ 8) && c.ports.all portOk && (hasAny c.own c.addr && inI c.node 1 16 && timesB c && linesB c && inI c.refill 1 100)) := by
  unfold mayC timesB linesB
  cases ownOk c.own <;> cases decide (c.ports.length ≤ 8) <;> cases c.ports.all portOk <;> cases hasAny c.own c.addr <;> cases inI c.node 1 16 <;> cases inI c.hello 1 100 <;> cases inI c.dead (c.hello + 1) 100 <;> cases inI c.again 1 100 <;> cases inI c.room 0 64 <;> cases inI c.queue 1 64 <;> rfl
theorem match_own (T base : Nat) (x : Int) (l : List Pr) (t : Tree) (w : World) (hx : IsAddr x) (h : TrieAt w base T t) (hI : OwnInv l l.length t) (hA : AddrsOk l) :
    Calls Tryz.prog 68 #[.pointer (some ⟨T, 0, none⟩), .int .u32 x] w fun e w' => MatchRes (hasAny l x) e ∧ Below w.heap.size w w' := by
  obtain ⟨a, rfl⟩ := Int.eq_ofNat_of_zero_le hx.1
  have ha : a < 4294967296 := by have := hx.2; omega
  refine (match_any T a base t w ha h).mono fun e w' ⟨he, hb⟩ => ⟨?_, hb⟩
  rw [← hI.any hA h.inv a ha]; exact he
theorem any_not (l : List Pr) : (l.any fun p => !portOk p) = !l.all portOk := by
  induction l with
  | nil => rfl
  | cons x l ih => simp only [List.any_cons, List.all_cons, ih]; cases portOk x <;> rfl
set_option maxRecDepth 100000 in
set_option maxHeartbeats 4000000 in
theorem may_any' (v : Value) (c : Cfg) (w : World) (h : CfgIs w v c) (hA : Addrs4 c) (hl : c.own.length ≤ 1000000) (hp : c.ports.length ≤ 1000000) :
    Calls Tryz.prog 23 #[v] w fun e w' => e = .returned (.bool (mayC c)) ∧ Below w.heap.size w w' := by
  obtain ⟨own, ports, rfl, hown, hports⟩ := h.is
  clear h
  have hb1 : Below w.heap.size w (w.alloc (.cells #[.int .i64 c.node, .int .u32 c.addr, own, ports, .int .i64 c.hello, .int .i64 c.dead, .int .i64 c.again, .int .i64 c.room, .int .i64 c.queue, .int .i64 c.tokens, .int .i64 c.refill] 28)) := (Below.refl _ _).alloc (Nat.le_refl _) _
  have HC := Lib.hid (owned_any own c.own _ (hown.below hb1) hl hA.2)
  have HP := Lib.hid hports
  have HA := Lib.hid hA
  obtain ⟨A, k, hov, _⟩ := hown
  subst hov
  obtain ⟨A2, k2, hpv, _⟩ := id hports
  subst hpv
  have HM := Lib.hid (mayC_eq c)
  clear hports hA
  cases hok : ownOk c.own with
  | false =>
    have HF : Hid (mayC c = false) := Lib.hid (by rw [HM.out, hok]; try rfl)
    have HO := Lib.hid hok
    clear hok
    unfold cfgV
    go_enter Tryz.func23, Tryz.ntmps23
    go_wp2_with fail
    refine HC.out.mono ?_
    rintro e w' ⟨hres, hb⟩
    obtain ⟨q, rfl⟩ : ∃ q, e = .returned (.tuple #[.pointer q, .bool false]) := by
      rcases hres with ⟨_, h⟩ | ⟨h, _⟩
      · exact h
      · rw [HO.out] at h; cases h
    clear hres
    go_wp2
    go_ret
    exact ⟨by rw [HF.out]; try rfl, hb1.trans (hb.mono hb1.size)⟩
  | true =>
    have HO := Lib.hid hok
    rw [hok] at HM
    clear hok
    have HPC : Hid (∀ W, Below w.heap.size w W → Calls Tryz.prog 65 #[.slice A2 c.ports.length k2, .func (.func 66) #[] #[]] W fun e w' => e = .returned (.bool (!c.ports.all portOk)) ∧ Below W.heap.size W w') := Lib.hid (fun W hb => by
      have := containsO_any (.func (.func 66) #[] #[]) (fun p => !portOk p) _ c.ports W (HP.out.below hb) hp ⟨_, _, rfl, enters_of Tryz.func66 (by kernel_rfl) rfl, fun u _ W' _ => may1_any u.1 u.2 W'⟩
      rw [any_not] at this; exact this)
    by_cases h8 : c.ports.length ≤ 8
    · rw [decide_eq_true h8] at HM
      have d8 : decide ((8 : Int) < (c.ports.length : Int)) = false := decide_eq_false (by omega)
      unfold cfgV
      go_enter Tryz.func23, Tryz.ntmps23
      go_wp2_with fail
      refine HC.out.mono ?_
      rintro e w1 ⟨hres, hb⟩
      obtain ⟨T, t, rfl, htr, hinv⟩ : ∃ T t, e = .returned (.tuple #[.pointer (some ⟨T, 0, none⟩), .bool true]) ∧ TrieAt w1 (w.heap.size + 1) T t ∧ OwnInv c.own c.own.length t := by
        rcases hres with ⟨h, _⟩ | ⟨_, h⟩
        · rw [HO.out] at h; cases h
        · simpa using h
      have HT := Lib.hid htr
      have HI := Lib.hid hinv
      clear hres htr hinv
      obtain ⟨y, rfl⟩ : ∃ y : Ext _, w1 = y.w := ⟨⟨_, hb⟩, rfl⟩
      clear hb
      have hyb := Ext.lift y hb1
      have hz1 : w.heap.size < y.w.heap.size := by have := y.below.size; simp only [World.size_alloc] at this; omega
      cases hall : c.ports.all portOk with
      | false =>
        have HF : Hid (mayC c = false) := Lib.hid (by rw [HM.out, hall]; try rfl)
        go_wp2_with (go_at_call 65; refine (ext_of (HPC.out _ hyb)).mono ?_; rintro e w' ⟨rfl, y2, rfl⟩)
        go_ret
        exact ⟨by rw [HF.out]; try rfl, Ext.lift y2 hyb⟩
      | true =>
        rw [hall] at HM
        go_wp2_with (first
          | (go_at_call 65; refine (ext_of (HPC.out _ hyb)).mono ?_; rintro e w' ⟨rfl, y2, rfl⟩; have hz2 : w.heap.size < y2.w.heap.size := Nat.lt_of_lt_of_le hz1 y2.below.size)
          | fail)
        have hy2 := Ext.lift y2 hyb
        have HT2 := Lib.hid (HT.out.below y2.below)
        refine (match_own T _ _ c.own t _ HA.out.1 HT2.out HI.out HA.out.2).mono ?_
        rintro e w3 ⟨⟨pa, pn, pv, rfl⟩, hb3⟩
        obtain ⟨y3, rfl⟩ : ∃ y : Ext _, w3 = y.w := ⟨⟨_, hb3⟩, rfl⟩
        clear hb3
        have hz3 : w.heap.size < y3.w.heap.size := Nat.lt_of_lt_of_le hz2 y3.below.size
        have hy3 := Ext.lift y3 hy2
        clear hall
        go_upto_region 5 with fail
        go_cut [8] (fun s wx => s = .bool (timesB c) ∧ wx = y3.w.alloc (.cells #[.int .u32 pa, .int .i64 pn] 86))
        case first =>
          cases t1 : inI c.hello 1 100 with
          | false =>
            have HB : Hid (timesB c = false) := Lib.hid (by unfold timesB; rw [t1]; try rfl)
            go_wp2_with (go_at_call 69; refine (cwithin_any _ _ _ _).mono ?_; rintro e w' ⟨rfl, rfl⟩)
            go_meet
            exact ⟨by rw [HB.out]; try rfl, rfl⟩
          | true =>
            have hlo := (inI_iff.1 t1).1
            have hhi := (inI_iff.1 t1).2
            cases t2 : inI c.dead (c.hello + 1) 100 with
            | false =>
              have HB : Hid (timesB c = false) := Lib.hid (by unfold timesB; rw [t1, t2]; try rfl)
              go_wp2_with (go_at_call 69; refine (cwithin_any _ _ _ _).mono ?_; rintro e w' ⟨rfl, rfl⟩)
              go_meet
              exact ⟨by rw [HB.out]; try rfl, rfl⟩
            | true =>
              have HB : Hid (timesB c = inI c.again 1 100) := Lib.hid (by unfold timesB; rw [t1, t2]; try rfl)
              go_wp2_with (go_at_call 69; refine (cwithin_any _ _ _ _).mono ?_; rintro e w' ⟨rfl, rfl⟩)
              go_meet
              exact ⟨by rw [HB.out]; try rfl, rfl⟩
        case rest =>
          obtain ⟨rfl, rfl⟩ := hcut
          go_upto_region 6 with fail
          go_cut [9] (fun s wx => s = .bool (linesB c) ∧ wx = y3.w.alloc (.cells #[.int .u32 pa, .int .i64 pn] 86))
          case first =>
            cases t1 : inI c.room 0 64 with
            | false =>
              have HB : Hid (linesB c = false) := Lib.hid (by unfold linesB; rw [t1]; try rfl)
              go_wp2_with (go_at_call 69; refine (cwithin_any _ _ _ _).mono ?_; rintro e w' ⟨rfl, rfl⟩)
              go_meet
              exact ⟨by rw [HB.out]; try rfl, rfl⟩
            | true =>
              cases t2 : inI c.queue 1 64 with
              | false =>
                have HB : Hid (linesB c = false) := Lib.hid (by unfold linesB; rw [t1, t2]; try rfl)
                go_wp2_with (go_at_call 69; refine (cwithin_any _ _ _ _).mono ?_; rintro e w' ⟨rfl, rfl⟩)
                go_meet
                exact ⟨by rw [HB.out]; try rfl, rfl⟩
              | true =>
                have HB : Hid (linesB c = inI c.tokens 0 64) := Lib.hid (by unfold linesB; rw [t1, t2]; try rfl)
                go_wp2_with (go_at_call 69; refine (cwithin_any _ _ _ _).mono ?_; rintro e w' ⟨rfl, rfl⟩)
                go_meet
                exact ⟨by rw [HB.out]; try rfl, rfl⟩
          case rest =>
            obtain ⟨rfl, rfl⟩ := hcut
            cases g0 : hasAny c.own c.addr with
            | false =>
              have HF : Hid (mayC c = false) := Lib.hid (by rw [HM.out, g0]; try rfl)
              go_wp2_with (go_at_call 69; refine (cwithin_any _ _ _ _).mono ?_; rintro e w' ⟨rfl, rfl⟩)
              go_ret
              exact ⟨by rw [HF.out]; try rfl, bel_alloc hy3 _⟩
            | true =>
              cases g1 : inI c.node 1 16 with
              | false =>
                have HF : Hid (mayC c = false) := Lib.hid (by rw [HM.out, g0, g1]; try rfl)
                go_wp2_with (go_at_call 69; refine (cwithin_any _ _ _ _).mono ?_; rintro e w' ⟨rfl, rfl⟩)
                go_ret
                exact ⟨by rw [HF.out]; try rfl, bel_alloc hy3 _⟩
              | true =>
                cases g2 : timesB c with
                | false =>
                  have HF : Hid (mayC c = false) := Lib.hid (by rw [HM.out, g0, g1, g2]; try rfl)
                  go_wp2_with (go_at_call 69; refine (cwithin_any _ _ _ _).mono ?_; rintro e w' ⟨rfl, rfl⟩)
                  go_ret
                  exact ⟨by rw [HF.out]; try rfl, bel_alloc hy3 _⟩
                | true =>
                  cases g3 : linesB c with
                  | false =>
                    have HF : Hid (mayC c = false) := Lib.hid (by rw [HM.out, g0, g1, g2, g3]; try rfl)
                    go_wp2_with (go_at_call 69; refine (cwithin_any _ _ _ _).mono ?_; rintro e w' ⟨rfl, rfl⟩)
                    go_ret
                    exact ⟨by rw [HF.out]; try rfl, bel_alloc hy3 _⟩
                  | true =>
                    have HF : Hid (mayC c = inI c.refill 1 100) := Lib.hid (by rw [HM.out, g0, g1, g2, g3]; try rfl)
                    go_wp2_with (go_at_call 69; refine (cwithin_any _ _ _ _).mono ?_; rintro e w' ⟨rfl, rfl⟩)
                    go_ret
                    exact ⟨by rw [HF.out]; try rfl, bel_alloc hy3 _⟩
    · have HF : Hid (mayC c = false) := Lib.hid (by rw [HM.out, decide_eq_false h8]; try rfl)
      have d8 : decide ((8 : Int) < (c.ports.length : Int)) = true := decide_eq_true (by omega)
      unfold cfgV
      go_enter Tryz.func23, Tryz.ntmps23
      go_wp2_with fail
      refine HC.out.mono ?_
      rintro e w1 ⟨hres, hb⟩
      obtain ⟨T, rfl⟩ : ∃ T, e = .returned (.tuple #[.pointer (some ⟨T, 0, none⟩), .bool true]) := by
        rcases hres with ⟨h, _⟩ | ⟨_, T, _, h, _⟩
        · rw [HO.out] at h; cases h
        · exact ⟨T, h⟩
      clear hres
      obtain ⟨y, rfl⟩ : ∃ y : Ext _, w1 = y.w := ⟨⟨_, hb⟩, rfl⟩
      go_wp2
      go_ret
      exact ⟨by rw [HF.out]; try rfl, Ext.lift y hb1⟩
end Go.Proofs.YtfbangojgjcbcaaGreatDoor
