/- Contracts of trie.New and conf.owned: own prefixes, put into a trie one after another. -/
import Derived.Test.YtfbangojgjcbcaaGreatDoorTrieE
import Derived.Test.YtfbangojgjcbcaaGreatDoorConfA
import Derived.Test.YtfbangojgjcbcaaGreatDoorCmp
import Derived.Test.YtfbangojgjcbcaaGreatDoorMid
namespace Go.Proofs.YtfbangojgjcbcaaGreatDoor
open Go.RowKit Pl

set_option maxRecDepth 100000 in
theorem tnew_any (w : World) : Calls Tryz.prog 128 #[.int .i64 8] w fun e w' => e = .returned (.pointer (some ⟨w.heap.size, 0, none⟩)) ∧ w' = w.alloc (.cells #[.pointer none, .int .i64 8, .int .i64 0, .bool true] 213) := by
  go_enter Tryz.func128, Tryz.ntmps128
  go_wp2
  go_ret
  exact ⟨rfl, rfl⟩
theorem TrieAt.fresh (w : World) (t : TypeId) : TrieAt (w.alloc (.cells #[.pointer none, .int .i64 8, .int .i64 0, .bool true] t)) w.heap.size w.heap.size .nil :=
  ⟨by simp, Nat.le_refl _, ⟨none, World.cell?_alloc_at _ _ _ _ rfl, rfl⟩, World.cell?_alloc_at _ _ _ _ rfl, World.cell?_alloc_at _ _ _ _ rfl, World.cell?_alloc_at _ _ _ _ rfl, fun _ => World.frozen?_alloc_at _ _ _ _ rfl, trivial, by simp [Tree.blocks], by simp [Tree.blocks], fun b hb => by simp [Tree.blocks] at hb⟩

/-- What Insert does at the next of own prefixes. -/
theorem insert_step {l : List Pr} {j : Nat} {t : Tree} {pa pn : Int} (base T : Nat) (hI : OwnInv l j t) (hA : AddrsOk l) (hp : l[j]? = some (pa, pn)) (hinv : t.Inv) :
    (ownOk l = false ∧ ∃ r : Int, (r = 2 ∨ r = 5) ∧ ∀ w, TrieAt w base T t → base ≤ w.heap.size → Calls Tryz.prog 129 #[.pointer (some ⟨T, 0, none⟩), .agg #[.int .u32 pa, .int .i64 pn], .bool true] w fun e w' => e = .returned (.int .i64 r) ∧ Below base w w') ∨
    (ownOk l = false ∧ (∃ i z, j = i + 1 ∧ l[i]? = some z ∧ ¬ cmpP z.1 z.2 pa pn < 0) ∧ ∀ w, TrieAt w base T t → base ≤ w.heap.size → Calls Tryz.prog 129 #[.pointer (some ⟨T, 0, none⟩), .agg #[.int .u32 pa, .int .i64 pn], .bool true] w fun e w' => e = .returned (.int .i64 0) ∧ Kept w w' T t ∧ Below base w w') ∨
    ((∀ i z, j = i + 1 → l[i]? = some z → cmpP z.1 z.2 pa pn < 0) ∧ ∀ w, TrieAt w base T t → base ≤ w.heap.size → Calls Tryz.prog 129 #[.pointer (some ⟨T, 0, none⟩), .agg #[.int .u32 pa, .int .i64 pn], .bool true] w fun e w' => e = .returned (.int .i64 0) ∧ Kept w w' T t ∧ Below base w w' ∧ ∃ t', TrieAt w' base T t' ∧ OwnInv l (j + 1) t') := by
  have hpm := List.mem_of_getElem? hp
  have hia := hA _ hpm
  simp only at hia
  cases hm : mayP pa pn with
  | false => exact .inl ⟨ownOk_may hpm hm, 2, .inl rfl, fun w h hbase => (insert_bad T pa pn true w h.lt h.is hia hm).mono fun e w' ⟨he, hb⟩ => ⟨he, hb.mono hbase⟩⟩
  | true =>
    obtain ⟨n0, _⟩ := mayP_len hm
    obtain ⟨a, rfl⟩ := Int.eq_ofNat_of_zero_le hia.1
    obtain ⟨n, rfl⟩ := Int.eq_ofNat_of_zero_le n0
    have ha : a < 4294967296 := by omega
    cases hf : t.find (bitsP a n) with
    | true =>
      obtain ⟨i, z, h1, h2, h3⟩ := hI.found hA hinv hp hm (by simpa [bitsI] using hf)
      subst h1
      exact .inr (.inl ⟨ownOk_rise h2 hp h3, ⟨i, z, rfl, h2, h3⟩, fun w h hbase => insert_found T a n base true t w ha hm h hbase hf⟩)
    | false =>
      by_cases h8 : t.keys.length < 8
      · have hnew := fun w h hbase => insert_new T a n base true t w ha hm h hbase hf h8
        by_cases hc : ∀ i z, j = i + 1 → l[i]? = some z → cmpP z.1 z.2 (a : Int) (n : Int) < 0
        · refine .inr (.inr ⟨hc, fun w h hbase => (hnew w h hbase).mono fun e w' ⟨⟨he, b1, b2, ht, hk⟩, hb⟩ => ⟨he, hk, hb, _, ht, ?_⟩⟩)
          have := hI.next hinv hp hm (by simpa [bitsI] using hf) (by have := hI.n; omega) hc b1 b2
          simpa [bitsI] using this
        · have hex : ∃ i z, j = i + 1 ∧ l[i]? = some z ∧ ¬ cmpP z.1 z.2 (a : Int) (n : Int) < 0 := by
            apply Classical.byContradiction
            intro hn
            exact hc fun i z h1 h2 => Classical.byContradiction fun h3 => hn ⟨i, z, h1, h2, h3⟩
          obtain ⟨i, z, h1, h2, h3⟩ := hex
          subst h1
          exact .inr (.inl ⟨ownOk_rise h2 hp h3, ⟨i, z, rfl, h2, h3⟩, fun w h hbase => (hnew w h hbase).mono fun e w' ⟨⟨he, b1, b2, ht, hk⟩, hb⟩ => ⟨he, hk, hb⟩⟩)
      · have hlt := (List.getElem?_eq_some_iff.1 hp).1
        exact .inl ⟨ownOk_len (by have := hI.n; omega), 5, .inr rfl, fun w h hbase => (insert_full T a n base true t w ha hm h hf (by omega)).mono fun e w' ⟨he, hb⟩ => ⟨he, hb.mono hbase⟩⟩

def OwnRes (base : Nat) (l : List Pr) (e : Ending) (w' : World) : Prop :=
  (ownOk l = false ∧ ∃ q, e = .returned (.tuple #[.pointer q, .bool false])) ∨
  (ownOk l = true ∧ ∃ T t, e = .returned (.tuple #[.pointer (some ⟨T, 0, none⟩), .bool true]) ∧ TrieAt w' base T t ∧ OwnInv l l.length t)

set_option maxRecDepth 100000 in
set_option maxHeartbeats 4000000 in
theorem owned_any (v : Value) (l : List Pr) (w : World) (h : Rs .u32 w v l) (hl : l.length ≤ 1000000) (hA : AddrsOk l) :
    Calls Tryz.prog 64 #[v] w fun e w' => OwnRes w.heap.size l e w' ∧ Below w.heap.size w w' := by
  have HR := Lib.hid h
  have HA := Lib.hid hA
  obtain ⟨A, c, rfl, hc, _, _⟩ := h
  clear hA
  go_enter Tryz.func64, Tryz.ntmps64
  go_wp2_with (go_at_call 128; refine (tnew_any _).mono ?_; rintro e w' ⟨rfl, rfl⟩)
  go_wp2
  go_loopw [10] (fun i wr => ∃ (j : Nat) (t : Tree), j ≤ l.length ∧ i = .int .i64 j ∧ Hid (OwnInv l j t) ∧ Hid (TrieAt wr w.heap.size w.heap.size t) ∧ Hid (Below w.heap.size w wr)) (fun i _ => l.length - (intOf i).toNat)
  case atStart => exact ⟨0, .nil, Nat.zero_le _, rfl, Lib.hid (OwnInv.start l), Lib.hid (TrieAt.fresh w _), Lib.hid ((Below.refl _ _).alloc (Nat.le_refl _) _)⟩
  case round =>
    obtain ⟨j, t, hj, rfl, HI, HTR, HB⟩ := hrel
    by_cases hlt : j < l.length
    · obtain ⟨⟨pa, pn⟩, hp⟩ : ∃ p, l[j]? = some p := ⟨_, List.getElem?_eq_getElem hlt⟩
      have Rr := HR.out.below HB.out
      obtain ⟨b, off, hAe, hb, c0, c1⟩ := Rr.at hp
      subst hAe
      have hsz := HB.out.size
      have HS := insert_step w.heap.size w.heap.size HI.out HA.out hp HTR.out.inv
      have hbx : Below w.heap.size wr (wr.alloc (.cells #[.int .u32 pa, .int .i64 pn] 86)) := (Below.refl _ _).alloc (by omega) _
      rcases HS with ⟨hbad, r, hr, HC⟩ | ⟨hbad, ⟨i, z, hji, hz, hc⟩, HC⟩ | ⟨hgo, HC⟩
      · have HBAD := Lib.hid hbad
        clear hbad
        rcases hr with rfl | rfl
        all_goals
          have HCH := Lib.hid HC
          clear HC
          go_wp2
          refine wp_region_mid (C := fun w' => ∃ x : Ext (wr.alloc (.cells #[.int .u32 pa, .int .i64 pn] 86)), w' = x.w) 2 _ rfl (by kernel_rfl) (by kernel_rfl) ⟨⟨_, (Below.refl _ _).drew⟩, rfl⟩ ?_
          simp only [List.take_succ_cons, List.take_zero, List.drop_succ_cons, List.drop_zero]
          repeat (go_big_quiet_step (first | (go_at_call 129; fail)))
          refine wpQuiet_nil ?_
          rintro _ ⟨x, rfl⟩ K hK
          rw [if_pos (by rfl)]
          go_simp
          have hxb := x.below.size
          simp only [World.size_alloc] at hxb
          refine (HCH.out x.w (HTR.out.below (Ext.lift x (bel_alloc (Below.refl _ _) _))) (by omega)).mono ?_
          rintro e w1 ⟨rfl, hbi⟩
          refine hK (fun w' => ∃ y : Ext w1, w' = y.w) _ _ ⟨⟨_, Below.refl _ _⟩, rfl⟩ ?_
          repeat (go_big_quiet_step (first | (go_at_call 130; fail)))
          refine wpQuiet_nil ?_
          rintro _ ⟨y, rfl⟩
          go_wp2
          go_ret2
          exact ⟨.inl ⟨HBAD.out, _, rfl⟩, (HB.out.trans (hbx.trans (x.below.mono (by simp; omega)))).trans (hbi.trans (y.below.mono (Nat.le_trans (by omega) hbi.size)))⟩
      · subst hji
        have hbW : b < w.heap.size := by obtain ⟨b', off', he, hb', _⟩ := HR.out.at hp; cases he; exact hb'
        have hx1 : wr.heap.size ≠ w.heap.size := by have := HTR.out.lt; omega
        have hx2 : wr.heap.size ∉ t.blocks := fun e => by have := HTR.out.blt _ e; omega
        have hx3 : b ≠ w.heap.size := by omega
        have hx4 : b ∉ t.blocks := fun e => by have := HTR.out.blocks _ e; omega
        obtain ⟨za, zn⟩ := z
        obtain ⟨d0, d1⟩ := Rr.take rfl hz
        obtain ⟨q, hq⟩ : ∃ q, cmpP za zn pa pn = q := ⟨_, rfl⟩
        have HCM : Hid (∀ W, Calls Tryz.prog 130 #[.agg #[.int .u32 za, .int .i64 zn], .agg #[.int .u32 pa, .int .i64 pn]] W fun e w' => e = .returned (.int .i64 q) ∧ Below W.heap.size W w') := Lib.hid (fun W => by rw [← hq]; exact compare_any za zn pa pn W)
        have hil : (i : Int) < (l.length : Int) := by omega
        have hi0 : (0 : Int) ≤ (i : Int) := by omega
        have hw1 : IntKind.i64.wrap ((i : Int) + 1 - 1) = (i : Int) := by rw [IntKind.wrap_i64]; omega
        have hw2 : IntKind.i64.wrap (i : Int) = (i : Int) := by rw [IntKind.wrap_i64]; omega
        have hq0 : 0 ≤ q := by rw [← hq]; simp only at hc; omega
        have HCH := Lib.hid HC
        have HBAD := Lib.hid hbad
        clear HC hbad hc hq hz hp
        go_wp2
        refine wp_region_mid (C := fun w' => ∃ x : Ext (wr.alloc (.cells #[.int .u32 pa, .int .i64 pn] 86)), w' = x.w) 2 _ rfl (by kernel_rfl) (by kernel_rfl) ⟨⟨_, (Below.refl _ _).drew⟩, rfl⟩ ?_
        simp only [List.take_succ_cons, List.take_zero, List.drop_succ_cons, List.drop_zero]
        repeat (go_big_quiet_step (first | (go_at_call 129; fail)))
        refine wpQuiet_nil ?_
        rintro _ ⟨x, rfl⟩ K hK
        rw [if_pos (by rfl)]
        go_simp
        have hxb := x.below.size
        simp only [World.size_alloc] at hxb
        refine (HCH.out x.w (HTR.out.below (Ext.lift x (bel_alloc (Below.refl _ _) _))) (by omega)).mono ?_
        rintro e w1 ⟨rfl, hk, hbi⟩
        have hxw : wr.heap.size < x.w.heap.size := by omega
        have hbw1 : b < x.w.heap.size := by omega
        have hsi := hbi.size
        have s0 := (hk ⟨wr.heap.size, 0, none⟩ hxw hx1 hx2).1.trans ((x.below.cell (p := ⟨wr.heap.size, 0, none⟩) (by simp)).trans (World.cell?_alloc_at (w := wr) _ _ _ _ rfl))
        have s1 := (hk ⟨wr.heap.size, 1, none⟩ hxw hx1 hx2).1.trans ((x.below.cell (p := ⟨wr.heap.size, 1, none⟩) (by simp)).trans (World.cell?_alloc_at (w := wr) _ _ _ _ rfl))
        simp at s0 s1
        have s2 := (hk ⟨b, off + i * 2, none⟩ hbw1 hx3 hx4).1.trans ((x.below.cell (p := ⟨b, off + i * 2, none⟩) (show b < _ by simp; omega)).trans ((World.cell?_alloc_lt wr _ _ hb).trans d0))
        have s3 := (hk ⟨b, off + i * 2 + 1, none⟩ hbw1 hx3 hx4).1.trans ((x.below.cell (p := ⟨b, off + i * 2 + 1, none⟩) (show b < _ by simp; omega)).trans ((World.cell?_alloc_lt wr _ _ hb).trans d1))
        have hq1 : wr.heap.size < w1.heap.size := by omega
        have hq2 : b < w1.heap.size := by omega
        have HBB := Lib.hid hbi
        clear hk hbi
        refine hK (fun w' => ∃ y : Ext w1, w' = y.w) _ _ ⟨⟨_, Below.refl _ _⟩, rfl⟩ ?_
        repeat (go_big_quiet_step (first | (go_at_call 130; exact Ext.call (HCM.out _))))
        refine wpQuiet_nil ?_
        rintro _ ⟨y, rfl⟩
        go_wp2
        go_ret2
        exact ⟨.inl ⟨HBAD.out, _, rfl⟩, (HB.out.trans (hbx.trans (x.below.mono (by simp; omega)))).trans (HBB.out.trans (y.below.mono (by omega)))⟩
      · cases j with
        | zero =>
          have hbW : b < w.heap.size := by obtain ⟨b', off', he, hb', _⟩ := HR.out.at hp; cases he; exact hb'
          have hx1 : wr.heap.size ≠ w.heap.size := by have := HTR.out.lt; omega
          have hx2 : wr.heap.size ∉ t.blocks := fun e => by have := HTR.out.blt _ e; omega
          have hx3 : b ≠ w.heap.size := by omega
          have hx4 : b ∉ t.blocks := fun e => by have := HTR.out.blocks _ e; omega
          simp only [Nat.zero_mul, Nat.add_zero] at c0 c1
          have HCH := Lib.hid HC
          clear HC hgo hp
          go_wp2
          refine wp_region_mid (C := fun w' => ∃ x : Ext (wr.alloc (.cells #[.int .u32 pa, .int .i64 pn] 86)), w' = x.w) 2 _ rfl (by kernel_rfl) (by kernel_rfl) ⟨⟨_, (Below.refl _ _).drew⟩, rfl⟩ ?_
          simp only [List.take_succ_cons, List.take_zero, List.drop_succ_cons, List.drop_zero]
          repeat (go_big_quiet_step (first | (go_at_call 129; fail)))
          refine wpQuiet_nil ?_
          rintro _ ⟨x, rfl⟩ K hK
          rw [if_pos (by rfl)]
          go_simp
          have hxb := x.below.size
          simp only [World.size_alloc] at hxb
          refine (HCH.out x.w (HTR.out.below (Ext.lift x (bel_alloc (Below.refl _ _) _))) (by omega)).mono ?_
          rintro e w1 ⟨rfl, hk, hbi, hnew⟩
          have HNEW := Lib.hid hnew
          clear hnew
          have hxw : wr.heap.size < x.w.heap.size := by omega
          have hbw1 : b < x.w.heap.size := by omega
          have hsi := hbi.size
          have s0 := (hk ⟨wr.heap.size, 0, none⟩ hxw hx1 hx2).1.trans ((x.below.cell (p := ⟨wr.heap.size, 0, none⟩) (by simp)).trans (World.cell?_alloc_at (w := wr) _ _ _ _ rfl))
          have s1 := (hk ⟨wr.heap.size, 1, none⟩ hxw hx1 hx2).1.trans ((x.below.cell (p := ⟨wr.heap.size, 1, none⟩) (by simp)).trans (World.cell?_alloc_at (w := wr) _ _ _ _ rfl))
          simp at s0 s1
          have hq1 : wr.heap.size < w1.heap.size := by omega
          have hq2 : b < w1.heap.size := by omega
          have HBB := Lib.hid hbi
          clear hk hbi
          refine hK (fun w' => ∃ y : Ext w1, w' = y.w) _ _ ⟨⟨_, Below.refl _ _⟩, rfl⟩ ?_
          repeat (go_big_quiet_step (first | (go_at_call 130; fail)))
          refine wpQuiet_nil ?_
          rintro _ ⟨y, rfl⟩
          go_wp2
          obtain ⟨t', ht1, ht2⟩ := HNEW.out
          go_roundw
          case rel => exact ⟨0 + 1, t', by omega, by go_num, Lib.hid ht2, Lib.hid (ht1.below y.below), Lib.hid ((HB.out.trans (hbx.trans (x.below.mono (by simp; omega)))).trans (HBB.out.trans (y.below.mono (by omega))))⟩
          case measure => simp [intOf]; omega
        | succ i =>
          obtain ⟨z, hz⟩ : ∃ z, l[i]? = some z := ⟨_, List.getElem?_eq_getElem (by omega)⟩
          have hc := hgo i z rfl hz
          have hbW : b < w.heap.size := by obtain ⟨b', off', he, hb', _⟩ := HR.out.at hp; cases he; exact hb'
          have hx1 : wr.heap.size ≠ w.heap.size := by have := HTR.out.lt; omega
          have hx2 : wr.heap.size ∉ t.blocks := fun e => by have := HTR.out.blt _ e; omega
          have hx3 : b ≠ w.heap.size := by omega
          have hx4 : b ∉ t.blocks := fun e => by have := HTR.out.blocks _ e; omega
          obtain ⟨za, zn⟩ := z
          obtain ⟨d0, d1⟩ := Rr.take rfl hz
          obtain ⟨q, hq⟩ : ∃ q, cmpP za zn pa pn = q := ⟨_, rfl⟩
          have HCM : Hid (∀ W, Calls Tryz.prog 130 #[.agg #[.int .u32 za, .int .i64 zn], .agg #[.int .u32 pa, .int .i64 pn]] W fun e w' => e = .returned (.int .i64 q) ∧ Below W.heap.size W w') := Lib.hid (fun W => by rw [← hq]; exact compare_any za zn pa pn W)
          have hil : (i : Int) < (l.length : Int) := by omega
          have hi0 : (0 : Int) ≤ (i : Int) := by omega
          have hw1 : IntKind.i64.wrap ((i : Int) + 1 - 1) = (i : Int) := by rw [IntKind.wrap_i64]; omega
          have hw2 : IntKind.i64.wrap (i : Int) = (i : Int) := by rw [IntKind.wrap_i64]; omega
          have hq0 : q < 0 := by rw [← hq]; exact hc
          have HCH := Lib.hid HC
          clear HC hgo hc hq hz hp
          go_wp2
          refine wp_region_mid (C := fun w' => ∃ x : Ext (wr.alloc (.cells #[.int .u32 pa, .int .i64 pn] 86)), w' = x.w) 2 _ rfl (by kernel_rfl) (by kernel_rfl) ⟨⟨_, (Below.refl _ _).drew⟩, rfl⟩ ?_
          simp only [List.take_succ_cons, List.take_zero, List.drop_succ_cons, List.drop_zero]
          repeat (go_big_quiet_step (first | (go_at_call 129; fail)))
          refine wpQuiet_nil ?_
          rintro _ ⟨x, rfl⟩ K hK
          rw [if_pos (by rfl)]
          go_simp
          have hxb := x.below.size
          simp only [World.size_alloc] at hxb
          refine (HCH.out x.w (HTR.out.below (Ext.lift x (bel_alloc (Below.refl _ _) _))) (by omega)).mono ?_
          rintro e w1 ⟨rfl, hk, hbi, hnew⟩
          have HNEW := Lib.hid hnew
          clear hnew
          have hxw : wr.heap.size < x.w.heap.size := by omega
          have hbw1 : b < x.w.heap.size := by omega
          have hsi := hbi.size
          have s0 := (hk ⟨wr.heap.size, 0, none⟩ hxw hx1 hx2).1.trans ((x.below.cell (p := ⟨wr.heap.size, 0, none⟩) (by simp)).trans (World.cell?_alloc_at (w := wr) _ _ _ _ rfl))
          have s1 := (hk ⟨wr.heap.size, 1, none⟩ hxw hx1 hx2).1.trans ((x.below.cell (p := ⟨wr.heap.size, 1, none⟩) (by simp)).trans (World.cell?_alloc_at (w := wr) _ _ _ _ rfl))
          simp at s0 s1
          have s2 := (hk ⟨b, off + i * 2, none⟩ hbw1 hx3 hx4).1.trans ((x.below.cell (p := ⟨b, off + i * 2, none⟩) (show b < _ by simp; omega)).trans ((World.cell?_alloc_lt wr _ _ hb).trans d0))
          have s3 := (hk ⟨b, off + i * 2 + 1, none⟩ hbw1 hx3 hx4).1.trans ((x.below.cell (p := ⟨b, off + i * 2 + 1, none⟩) (show b < _ by simp; omega)).trans ((World.cell?_alloc_lt wr _ _ hb).trans d1))
          have hq1 : wr.heap.size < w1.heap.size := by omega
          have hq2 : b < w1.heap.size := by omega
          have HBB := Lib.hid hbi
          clear hk hbi
          refine hK (fun w' => ∃ y : Ext w1, w' = y.w) _ _ ⟨⟨_, Below.refl _ _⟩, rfl⟩ ?_
          repeat (go_big_quiet_step (first | (go_at_call 130; exact Ext.call (HCM.out _))))
          refine wpQuiet_nil ?_
          rintro _ ⟨y, rfl⟩
          go_wp2
          obtain ⟨t', ht1, ht2⟩ := HNEW.out
          go_roundw
          case rel => exact ⟨i + 1 + 1, t', by omega, by go_num, Lib.hid ht2, Lib.hid (ht1.below y.below), Lib.hid ((HB.out.trans (hbx.trans (x.below.mono (by simp; omega)))).trans (HBB.out.trans (y.below.mono (by omega))))⟩
          case measure => simp [intOf]; omega
    · obtain rfl : j = l.length := by omega
      have hok := HI.out.ok
      by_cases h0 : 0 < l.length
      · have hok' : ownOk l = true := by rw [hok]; simpa using h0
        have HOK := Lib.hid hok'
        have h0' : (0 : Int) < (l.length : Int) := by omega
        clear hok hok'
        go_wp2
        go_ret2
        exact ⟨.inr ⟨HOK.out, _, _, rfl, HTR.out, HI.out⟩, HB.out⟩
      · have hok' : ownOk l = false := by rw [hok]; simpa using h0
        have HOK := Lib.hid hok'
        have h0' : decide ((0 : Int) < (l.length : Int)) = false := decide_eq_false (by omega)
        clear hok hok'
        go_wp2
        go_ret2
        exact ⟨.inl ⟨HOK.out, _, rfl⟩, HB.out⟩
end Go.Proofs.YtfbangojgjcbcaaGreatDoor
