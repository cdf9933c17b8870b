/- Contract of the trie's Covers: as many entries as the tree has prefixes that have the address. -/
import Derived.Test.YtfbangojgjcbcaaGreatDoorTrieF
import Derived.WalkMore
import Derived.Deep.LoopGhost
namespace Go.Proofs.YtfbangojgjcbcaaGreatDoor
open Go.RowKit Pl

abbrev E3 := Int × Int × Bool
def cellsE (l : List E3) : List Value := l.flatMap fun e => [.int .u32 e.1, .int .i64 e.2.1, .bool e.2.2]
theorem cellsE_length (l : List E3) : (cellsE l).length = l.length * 3 := by
  induction l with
  | nil => rfl
  | cons u us ih => unfold cellsE at *; rw [List.flatMap_cons, List.length_append, ih, List.length_cons]; simp; omega
theorem cellsE_snoc (l : List E3) (e : E3) : cellsE (l ++ [e]) = cellsE l ++ [.int .u32 e.1, .int .i64 e.2.1, .bool e.2.2] := by
  unfold cellsE; rw [List.flatMap_append]; simp
theorem info_E : (Tryz.prog.info? 226).map (fun i => (i.zero, i.size, i.bytes)) = some (some (.agg #[.int .u32 0, .int .i64 0, .bool false]), 3, 24) := by kernel_rfl
theorem Tree.cover_le {x : List Bool} : ∀ {t : Tree}, t.Inv → ∀ d, (∀ q ∈ t.all, d ≤ q.length) → d ≤ 33 → t.cover x ≤ 33 - d
  | .nil, _, d, _, _ => by simp [Tree.cover]
  | .node b k has l r, h, d, hd, _ => by
    obtain ⟨hk, h1, h2, h3, h4⟩ := h
    have hdk := hd k (by simp [Tree.all])
    have cl := cover_le (x := x) h3 (k.length + 1) (fun q hq => by have := (h1 q hq).length_le; simpa using this) (by omega)
    have cr := cover_le (x := x) h4 (k.length + 1) (fun q hq => by have := (h2 q hq).length_le; simpa using this) (by omega)
    have hi : (if k.length = 32 then 0 else if x[k.length]? = some true then Tree.cover x r else Tree.cover x l) ≤ 33 - (k.length + 1) := by
      split
      · omega
      · split
        · exact cr
        · exact cl
    have hh : (if has = true then 1 else 0) ≤ 1 := by split <;> omega
    unfold Tree.cover
    split <;> omega
def CovRes (w : World) (k : Nat) (e : Ending) (w' : World) : Prop :=
  ∃ (es : List E3) (B : Nat) (v : Value), es.length = k ∧ e = .returned (.func (.func 194) #[] #[.pointer (some ⟨B, 0, none⟩)]) ∧ w.heap.size ≤ B ∧ B < w'.heap.size ∧ w'.cell? ⟨B, 0, none⟩ = some v ∧ w'.ownsRow w.heap.size 226 3 v es.length (cellsE es)

set_option maxRecDepth 100000 in
theorem over_any (A : Option Addr) (n c : Nat) (w : World) : Calls Tryz.prog 171 #[.slice A n c] w fun e w' => e = .returned (.func (.func 194) #[] #[.pointer (some ⟨w.heap.size, 0, none⟩)]) ∧ w' = w.alloc (.cells #[.slice A n c] 224) := by
  go_enter Tryz.func171, Tryz.ntmps171
  go_wp2
  go_ret
  exact ⟨rfl, rfl⟩

theorem own_no {w : World} {base b : Nat} {e : TypeId} {size n : Nat} {v : Value} {xs : List Value} (h : w.ownsRow base e size v n xs) (hb : b < base) : v.ownBlock ≠ some b := fun k => by have := (h.lt b k).1; omega
theorem own_slice {w : World} {base : Nat} {e : TypeId} {size n : Nat} {v : Value} {xs : List Value} (h : w.ownsRow base e size v n xs) : ∃ A k c, v = .slice A k c := by
  rcases h.2 with ⟨rfl, _⟩ | ⟨g, cap, cur, rfl, _⟩
  · exact ⟨_, _, _, rfl⟩
  · exact ⟨_, _, _, rfl⟩
theorem CovRes.mk {w wr : World} {k : Nat} {es : List E3} {A : Option Addr} {n c : Nat} (he : es.length = k) (ho : wr.ownsRow w.heap.size 226 3 (.slice A n c) es.length (cellsE es)) (hb : Below w.heap.size w wr) :
    CovRes w k (.returned (.func (.func 194) #[] #[.pointer (some ⟨wr.heap.size, 0, none⟩)])) (wr.alloc (.cells #[.slice A n c] 224)) :=
  ⟨es, wr.heap.size, _, he, rfl, hb.size, by simp, World.cell?_alloc_at _ _ _ _ rfl, ho.alloc _⟩

set_option maxRecDepth 100000 in
set_option maxHeartbeats 4000000 in
theorem covers_any (T x base : Nat) (t : Tree) (w : World) (hx : x < 4294967296) (h : TrieAt w base T t) :
    Calls Tryz.prog 132 #[.pointer (some ⟨T, 0, none⟩), .int .u32 (x : Int)] w fun e w' => CovRes w (t.cover (bitsP x 32)) e w' ∧ Below w.heap.size w w' := by
  have HT := Lib.hid h
  have hI := h.is
  have hTl := h.lt
  obtain ⟨root, hr, htr⟩ := h.root
  have HR := Lib.hid htr
  clear htr
  go_enter Tryz.func132, Tryz.ntmps132
  go_wp2_with (go_at_call 162; refine (there_any _ _ hI).mono ?_; rintro e w' ⟨rfl, rfl⟩)
  go_step3
  go_wp2
  go_step3
  go_wp2
  go_loopg [5, 6] (Tree.size t) (fun g l n wr => ∃ (s : Tree) (q : Option Addr) (es : List E3), g = Tree.size s ∧ n = .pointer q ∧ Hid (Tr w q s) ∧ Hid (s.Inv) ∧ Hid (es.length + s.cover (bitsP x 32) = t.cover (bitsP x 32)) ∧ Hid (wr.ownsRow w.heap.size 226 3 l es.length (cellsE es)) ∧ Hid (Below w.heap.size w wr))
  case atStart => exact ⟨t, root, [], rfl, rfl, HR, Lib.hid HT.out.inv, Lib.hid (by simp), Lib.hid (World.ownsRow_nil _ _ _ _), Lib.hid (Below.refl _ _)⟩
  case round =>
    obtain ⟨s, q, es, hg, rfl, HTr, HIn, HC, HO, HB⟩ := hrel
    have HG := Lib.hid hg
    clear hg
    cases s with
    | nil =>
      obtain rfl : q = none := HTr.out
      have HC : Hid (es.length = t.cover (bitsP x 32)) := Lib.hid (by have := HC.out; simpa [Tree.cover] using this)
      obtain ⟨A', n', c', rfl⟩ := own_slice HO.out
      go_wp2
      rw [Exit.noGoto_normal]
      go_wp2_with (go_at_call 171; refine (over_any _ _ _ _).mono ?_; rintro e w' ⟨rfl, rfl⟩)
      try rw [Exit.noGoto_ret]
      go_ret
      exact ⟨CovRes.mk (HC.out) HO.out HB.out, HB.out.alloc HB.out.size _⟩
    | node nb k has l r =>
      obtain ⟨rfl, hnb, a', v', q0, q1, ha', hm', hbits, c0, c1, c2, c3, c4, c5, hfz, hl, hr⟩ := HTr.out
      obtain ⟨m, hkm⟩ : ∃ m, k.length = m := ⟨_, rfl⟩
      rw [hkm] at c1 hm' hbits
      have hm32 := (may_mod hm').1
      have d0 := (HB.out.cell (p := ⟨nb, 0, none⟩) hnb).trans c0
      have d1 := (HB.out.cell (p := ⟨nb, 1, none⟩) hnb).trans c1
      have d2 := (HB.out.cell (p := ⟨nb, 2, none⟩) hnb).trans c2
      have d3 := (HB.out.cell (p := ⟨nb, 3, none⟩) hnb).trans c3
      have d4 := (HB.out.cell (p := ⟨nb, 4, none⟩) hnb).trans c4
      have d5 := (HB.out.cell (p := ⟨nb, 5, none⟩) hnb).trans c5
      have hnr : nb < wr.heap.size := Nat.lt_of_lt_of_le hnb HB.out.size
      have hiff : firstP x m = a' ↔ k <+: bitsP x 32 := by rw [← hbits]; exact has_bits ha' hx hm'
      have hand := and_maskI (x : Int) (m : Int) (by omega) (by omega)
      have HMK : Hid (∀ W, Calls Tryz.prog 170 #[.int .i64 (m : Int)] W fun e w' => e = .returned (.int .u32 (4294967296 - blk (m : Int))) ∧ W = w') := Lib.hid (fun W => tmask_any _ W (by omega) (by omega))
      have HIF := Lib.hid hiff
      have HKM := Lib.hid hkm
      have HL := Lib.hid hl
      have HRR := Lib.hid hr
      have HCS := Lib.hid (And.intro c0 (And.intro c1 (And.intro c2 (And.intro c3 (And.intro c4 c5)))))
      have HIN2 : Hid (l.Inv ∧ r.Inv) := Lib.hid ⟨HIn.out.2.2.2.1, HIn.out.2.2.2.2⟩
      have hle : es.length ≤ 33 := by have h1 := HC.out; have h2 := Tree.cover_le (x := bitsP x 32) HT.out.inv 0 (fun _ _ => Nat.zero_le _) (by omega); omega
      clear hiff hkm hbits hm' c0 c1 c2 c3 c4 c5 hfz hl hr
      generalize firstP (x : Int) (m : Int) = f at *
      by_cases hk : k <+: bitsP x 32
      · have hfe : f = (a' : Int) := HIF.out.2 hk
        subst hfe
        have t4 : (((a' : Int)) != (a' : Int)) = false := by simp
        have HCV : Hid (Tree.cover (bitsP x 32) (.node nb k has l r) = (if has = true then 1 else 0) + (if m = 32 then 0 else if (bitsP x 32)[m]? = some true then Tree.cover (bitsP x 32) r else Tree.cover (bitsP x 32) l)) := Lib.hid (by
          conv => lhs; unfold Tree.cover
          rw [if_pos hk, HKM.out])
        clear hk
        cases has with
        | true =>
          go_wp2
          refine wp_region_ext (by kernel_rfl) (by kernel_rfl) ?_
          repeat (go_big_quiet_step (first | (go_at_call 170; exact Ext.callq (HMK.out _))))
          refine wpQuiet_nil ?_
          rintro _ ⟨z, rfl⟩
          go_wp2
          have hbz := Ext.lift z HB.out
          have hown := own_below HO.out z.below
          have e0 := (hbz.cell (p := ⟨nb, 0, none⟩) hnb).trans HCS.out.1
          have e1 := (hbz.cell (p := ⟨nb, 1, none⟩) hnb).trans HCS.out.2.1
          have e2 := (hbz.cell (p := ⟨nb, 2, none⟩) hnb).trans HCS.out.2.2.1
          have hnz : nb < z.w.heap.size := Nat.lt_of_lt_of_le hnb hbz.size
          have hne := own_no hown hnb
          have hzs := hbz.size
          obtain ⟨i0, hi0, hz0, hz1, hz2⟩ := info_parts info_E
          have HHB := Lib.hid hbz
          clear hbz
          go_region_held3 (fun w' => w'.cell? ⟨nb, 0, none⟩ = some (.int .u32 (a' : Int)) ∧ w'.cell? ⟨nb, 1, none⟩ = some (.int .i64 (m : Int)) ∧ w'.cell? ⟨nb, 2, none⟩ = some (.bool v'))
            (first
              | go_keep
              | exact ⟨(hgrow.cell_far _ (show nb < (z.w.alloc _).heap.size by simp; omega) (Ne.symm hne)).trans ((World.cell?_alloc_lt z.w _ _ hnz).trans e0), (hgrow.cell_far _ (show nb < (z.w.alloc _).heap.size by simp; omega) (Ne.symm hne)).trans ((World.cell?_alloc_lt z.w _ _ hnz).trans e1), (hgrow.cell_far _ (show nb < (z.w.alloc _).heap.size by simp; omega) (Ne.symm hne)).trans ((World.cell?_alloc_lt z.w _ _ hnz).trans e2)⟩)
            ((refine step_append_lies _ (by rfl) _ _ _ (by rfl) w.heap.size 226 i0 _ 3 24 Tryz.underlying224 hi0 hz0 hz1 hz2 rfl (by omega) _ es.length _ (by rfl) ((hown.alloc _).drew)
                ⟨z.w.heap.size, 0, none⟩ 1 1 [_, _, _] (by rfl) (by rfl) (World.news_of_block (cs := #[_, _, _]) (t := 226) (fr := (0, 0)) (heap_alloc_new z.w _)) (by simp [Value.oneCell'])
                (by omega) (by unfold maxLen; omega) (by omega) (by simp; omega) (z.w.heap.size + 1) (by simp) ?_; intro gg cap w1 hown1 hgrow hat hlt1))
          all_goals
            have HBW := Lib.hid (HHB.out.grown (grownBy_alloc (grownBy_drew hgrow)) hzs fun g hg => (hown.lt g hg).1)
            have HOW : Hid (w1.ownsRow w.heap.size 226 3 _ (es ++ [((a' : Int), (m : Int), v')]).length (cellsE (es ++ [((a' : Int), (m : Int), v')]))) := Lib.hid (by rw [cellsE_snoc, List.length_append]; exact hown1)
            clear hown1 hgrow hown hat e0 e1 e2
            have e1 := (HBW.out.cell (p := ⟨nb, 1, none⟩) hnb).trans HCS.out.2.1
            have e4 := (HBW.out.cell (p := ⟨nb, 4, none⟩) hnb).trans HCS.out.2.2.2.2.1
            have e5 := (HBW.out.cell (p := ⟨nb, 5, none⟩) hnb).trans HCS.out.2.2.2.2.2
            have hnW : nb < w1.heap.size := Nat.lt_of_lt_of_le hnb HBW.out.size
            by_cases h32 : m = 32
            · have t5 : ((m : Int) == 32) = true := by rw [beq_iff_eq]; omega
              have HC2 : Hid ((es ++ [((a' : Int), (m : Int), v')]).length = t.cover (bitsP x 32)) := Lib.hid (by
                have := HC.out
                rw [HCV.out, if_pos h32] at this
                simp at this ⊢; omega)
              clear h32
              go_wp2
              try rw [Exit.noGoto_normal]
              go_wp2_with (go_at_call 171; refine (over_any _ _ _ _).mono ?_; rintro e w' ⟨rfl, rfl⟩)
              try rw [Exit.noGoto_ret]
              go_ret
              exact ⟨CovRes.mk HC2.out HOW.out HBW.out, HBW.out.alloc HBW.out.size _⟩
            · have t5 : ((m : Int) == 32) = false := beq_eq_false_iff_ne.2 (by omega)
              have hm31 : m < 32 := by omega
              have hat : (bitsP x 32)[m]? = some (x.testBit (31 - m)) := bitsP_at x 32 m hm31
              have HCN : Hid ((es ++ [((a' : Int), (m : Int), v')]).length + (Tree.kid (x.testBit (31 - m)) l r).cover (bitsP x 32) = t.cover (bitsP x 32)) := Lib.hid (by
                have := HC.out
                rw [HCV.out, if_neg h32, hat] at this
                unfold Tree.kid
                cases hb2 : x.testBit (31 - m) <;> rw [hb2] at this <;> simp at this ⊢ <;> omega)
              clear hat h32
              cases hbit : x.testBit (31 - m) with
              | true =>
                have HBI : Hid (∀ W, Calls Tryz.prog 166 #[.int .u32 (x : Int), .int .i64 (m : Int)] W fun e w' => e = .returned (.int .i64 1) ∧ W = w') := Lib.hid (fun W => by
                  have := tbit_any x m W hx (by omega)
                  unfold bitN at this; rw [hbit] at this; exact this)
                have HCM : Hid ((es ++ [((a' : Int), (m : Int), v')]).length + (r : Tree).cover (bitsP x 32) = t.cover (bitsP x 32)) := Lib.hid (by have := HCN.out; rw [hbit] at this; exact this)
                clear hbit
                go_wp2
                refine wp_region_ext (by kernel_rfl) (by kernel_rfl) ?_
                repeat (go_big_quiet_step (first | (go_at_call 166; exact Ext.callq (HBI.out _))))
                refine wpQuiet_nil ?_
                rintro _ ⟨z2, rfl⟩
                go_wp2
                go_roundg (Tree.size r)
                case measure => rw [HG.out]; simp only [Tree.size]; omega
                case rel => exact ⟨r, _, es ++ [((a' : Int), (m : Int), v')], rfl, rfl, HRR, Lib.hid HIN2.out.2, HCM, Lib.hid (own_below HOW.out z2.below), Lib.hid (Ext.lift z2 HBW.out)⟩
              | false =>
                have HBI : Hid (∀ W, Calls Tryz.prog 166 #[.int .u32 (x : Int), .int .i64 (m : Int)] W fun e w' => e = .returned (.int .i64 0) ∧ W = w') := Lib.hid (fun W => by
                  have := tbit_any x m W hx (by omega)
                  unfold bitN at this; rw [hbit] at this; exact this)
                have HCM : Hid ((es ++ [((a' : Int), (m : Int), v')]).length + (l : Tree).cover (bitsP x 32) = t.cover (bitsP x 32)) := Lib.hid (by have := HCN.out; rw [hbit] at this; exact this)
                clear hbit
                go_wp2
                refine wp_region_ext (by kernel_rfl) (by kernel_rfl) ?_
                repeat (go_big_quiet_step (first | (go_at_call 166; exact Ext.callq (HBI.out _))))
                refine wpQuiet_nil ?_
                rintro _ ⟨z2, rfl⟩
                go_wp2
                go_roundg (Tree.size l)
                case measure => rw [HG.out]; simp only [Tree.size]; omega
                case rel => exact ⟨l, _, es ++ [((a' : Int), (m : Int), v')], rfl, rfl, HL, Lib.hid HIN2.out.1, HCM, Lib.hid (own_below HOW.out z2.below), Lib.hid (Ext.lift z2 HBW.out)⟩
        | false =>
          go_wp2
          refine wp_region_ext (by kernel_rfl) (by kernel_rfl) ?_
          repeat (go_big_quiet_step (first | (go_at_call 170; exact Ext.callq (HMK.out _))))
          refine wpQuiet_nil ?_
          rintro _ ⟨z, rfl⟩
          have HBW := Lib.hid (Ext.lift z HB.out)
          have HOW := Lib.hid (own_below HO.out z.below)
          have e1 := (HBW.out.cell (p := ⟨nb, 1, none⟩) hnb).trans HCS.out.2.1
          have e4 := (HBW.out.cell (p := ⟨nb, 4, none⟩) hnb).trans HCS.out.2.2.2.2.1
          have e5 := (HBW.out.cell (p := ⟨nb, 5, none⟩) hnb).trans HCS.out.2.2.2.2.2
          have hnW : nb < z.w.heap.size := Nat.lt_of_lt_of_le hnb HBW.out.size
          by_cases h32 : m = 32
          · have t5 : ((m : Int) == 32) = true := by rw [beq_iff_eq]; omega
            have HC2 : Hid ((es).length = t.cover (bitsP x 32)) := Lib.hid (by
              have := HC.out
              rw [HCV.out, if_pos h32] at this
              simp at this ⊢; omega)
            clear h32
            obtain ⟨A', n', c', rfl⟩ := own_slice HOW.out
            go_wp2
            try rw [Exit.noGoto_normal]
            go_wp2_with (go_at_call 171; refine (over_any _ _ _ _).mono ?_; rintro e w' ⟨rfl, rfl⟩)
            try rw [Exit.noGoto_ret]
            go_ret
            exact ⟨CovRes.mk HC2.out HOW.out HBW.out, HBW.out.alloc HBW.out.size _⟩
          · have t5 : ((m : Int) == 32) = false := beq_eq_false_iff_ne.2 (by omega)
            have hm31 : m < 32 := by omega
            have hat : (bitsP x 32)[m]? = some (x.testBit (31 - m)) := bitsP_at x 32 m hm31
            have HCN : Hid ((es).length + (Tree.kid (x.testBit (31 - m)) l r).cover (bitsP x 32) = t.cover (bitsP x 32)) := Lib.hid (by
              have := HC.out
              rw [HCV.out, if_neg h32, hat] at this
              unfold Tree.kid
              cases hb2 : x.testBit (31 - m) <;> rw [hb2] at this <;> simp at this ⊢ <;> omega)
            clear hat h32
            cases hbit : x.testBit (31 - m) with
            | true =>
              have HBI : Hid (∀ W, Calls Tryz.prog 166 #[.int .u32 (x : Int), .int .i64 (m : Int)] W fun e w' => e = .returned (.int .i64 1) ∧ W = w') := Lib.hid (fun W => by
                have := tbit_any x m W hx (by omega)
                unfold bitN at this; rw [hbit] at this; exact this)
              have HCM : Hid ((es).length + (r : Tree).cover (bitsP x 32) = t.cover (bitsP x 32)) := Lib.hid (by have := HCN.out; rw [hbit] at this; exact this)
              clear hbit
              go_wp2
              refine wp_region_ext (by kernel_rfl) (by kernel_rfl) ?_
              repeat (go_big_quiet_step (first | (go_at_call 166; exact Ext.callq (HBI.out _))))
              refine wpQuiet_nil ?_
              rintro _ ⟨z2, rfl⟩
              go_wp2
              go_roundg (Tree.size r)
              case measure => rw [HG.out]; simp only [Tree.size]; omega
              case rel => exact ⟨r, _, es, rfl, rfl, HRR, Lib.hid HIN2.out.2, HCM, Lib.hid (own_below HOW.out z2.below), Lib.hid (Ext.lift z2 HBW.out)⟩
            | false =>
              have HBI : Hid (∀ W, Calls Tryz.prog 166 #[.int .u32 (x : Int), .int .i64 (m : Int)] W fun e w' => e = .returned (.int .i64 0) ∧ W = w') := Lib.hid (fun W => by
                have := tbit_any x m W hx (by omega)
                unfold bitN at this; rw [hbit] at this; exact this)
              have HCM : Hid ((es).length + (l : Tree).cover (bitsP x 32) = t.cover (bitsP x 32)) := Lib.hid (by have := HCN.out; rw [hbit] at this; exact this)
              clear hbit
              go_wp2
              refine wp_region_ext (by kernel_rfl) (by kernel_rfl) ?_
              repeat (go_big_quiet_step (first | (go_at_call 166; exact Ext.callq (HBI.out _))))
              refine wpQuiet_nil ?_
              rintro _ ⟨z2, rfl⟩
              go_wp2
              go_roundg (Tree.size l)
              case measure => rw [HG.out]; simp only [Tree.size]; omega
              case rel => exact ⟨l, _, es, rfl, rfl, HL, Lib.hid HIN2.out.1, HCM, Lib.hid (own_below HOW.out z2.below), Lib.hid (Ext.lift z2 HBW.out)⟩
      · have hne : ¬ f = (a' : Int) := fun e => hk (HIF.out.1 e)
        have t4 : (f != (a' : Int)) = true := by rw [bne_iff_ne]; exact hne
        have HC2 : Hid (es.length = t.cover (bitsP x 32)) := Lib.hid (by have := HC.out; rwa [show Tree.cover (bitsP x 32) (.node nb k has l r) = 0 by unfold Tree.cover; rw [if_neg hk]] at this)
        clear hne hk HC
        have HC := HC2
        go_wp2
        refine wp_region_ext (by kernel_rfl) (by kernel_rfl) ?_
        repeat (go_big_quiet_step (first | (go_at_call 170; exact Ext.callq (HMK.out _))))
        refine wpQuiet_nil ?_
        rintro _ ⟨z, rfl⟩
        have hbz := Ext.lift z HB.out
        have hoz := own_below HO.out z.below
        obtain ⟨A', n', c', rfl⟩ := own_slice hoz
        go_wp2
        rw [Exit.noGoto_normal]
        go_wp2_with (go_at_call 171; refine (over_any _ _ _ _).mono ?_; rintro e w' ⟨rfl, rfl⟩)
        try rw [Exit.noGoto_ret]
        go_ret
        exact ⟨CovRes.mk (HC.out) hoz hbz, hbz.alloc hbz.size _⟩
end Go.Proofs.YtfbangojgjcbcaaGreatDoor
