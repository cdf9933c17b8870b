/- The walk of the law WireParts: whatever the lists, the bytes and the sizes, it answers true. -/
import Derived.Test.YteafakpipbhioaaDoorLSplits
namespace Go.Proofs.YteafakpipbhioaaDoor
open Go.RowKit Pl

/-- Parts that may be written: their headers in a row, their bytes in the block G. -/
def Mut (w : World) (base G : Nat) (x : Value) (hs : List Value) (ns : List Nat) : Prop :=
  w.ownsRow base 23 1 x ns.length hs ∧ ∀ i, i < ns.sum → (∃ z : Int, w.cell? ⟨G, i, none⟩ = some (.int .u8 z)) ∧ w.frozen? ⟨G, i, none⟩ = false
theorem grownBy_set (w : World) (G i : Nat) (u : Value) : w.grownBy (w.setCell ⟨G, i, none⟩ u) (some G) :=
  ⟨rfl, rfl, rfl, by simp [World.setCell], fun k hk hne => by
    have hne' : ¬ G = k := fun e => hne (by rw [e])
    simp [World.setCell, Array.getElem?_modify, hne']⟩
theorem Mut.set {w : World} {base G : Nat} {x : Value} {hs : List Value} {ns : List Nat} (h : Mut w base G x hs ns) (hne : x.ownBlock ≠ some G) (i : Nat) (z : Int) : Mut (w.setCell ⟨G, i, none⟩ (.int .u8 z)) base G x hs ns := by
  refine ⟨h.1.kept (grownBy_set w G i _) (by cases hx : x.ownBlock with | none => exact .inl rfl | some k => exact .inr fun e => hne (by rw [hx, e])), fun j hj => ?_⟩
  obtain ⟨⟨y, hy⟩, hf⟩ := h.2 j hj
  refine ⟨?_, by rw [World.frozen?_setCell]; exact hf⟩
  by_cases hij : i = j
  · subst hij
    exact ⟨z, World.cell?_setCell_same' _ _ _ (by rw [hy]; rfl)⟩
  · exact ⟨y, (World.cell?_setCell_other w _ _ _ (by simp; try omega)).trans hy⟩
theorem Mut.drew {w : World} {base G : Nat} {x : Value} {hs : List Value} {ns : List Nat} (h : Mut w base G x hs ns) : Mut w.drew base G x hs ns := h
theorem Mut.below {w w' : World} {base G : Nat} {x : Value} {hs : List Value} {ns : List Nat} (h : Mut w base G x hs ns) (hb : Below w.heap.size w w') : Mut w' base G x hs ns := by
  refine ⟨own_below h.1 hb, fun i hi => ?_⟩
  obtain ⟨⟨z, hz⟩, hf⟩ := h.2 i hi
  have hlt : G < w.heap.size := block_lt_of_cell hz
  exact ⟨⟨z, (hb.cell (show G < _ from hlt)).trans hz⟩, (hb.frozen (show G < _ from hlt)).trans hf⟩
def CutMut (w : World) (base : Nat) (x : Value) (n : Nat) : Prop :=
  ∃ (G : Nat) (hs : List Value) (ns : List Nat), base ≤ G ∧ x.ownBlock ≠ some G ∧ Heads G ns hs ∧ ns.length = n ∧ ns.sum ≤ 100000 ∧ Mut w base G x hs ns
theorem CutMut.below {w w' : World} {base : Nat} {x : Value} {n : Nat} (h : CutMut w base x n) (hb : Below w.heap.size w w') : CutMut w' base x n := by
  obtain ⟨G, hs, ns, h1, h2, h3, h4, h5, h6⟩ := h
  exact ⟨G, hs, ns, h1, h2, h3, h4, h5, h6.below hb⟩
theorem CutMut.nil (w : World) (base : Nat) : CutMut w base (.slice none 0 0) 0 :=
  ⟨base, [], [], Nat.le_refl _, (fun h => by simp [Value.ownBlock] at h), ⟨rfl, fun k n hn => by simp at hn⟩, rfl, by simp, World.ownsRow_nil _ _ _ _, fun i hi => by simp at hi⟩
theorem CutOut.mut {w : World} {base : Nat} {x : Value} {l : List UInt8} {ns : List Nat} (h : CutOut w base x l ns) (hs : ns.sum = l.length) (hl : l.length ≤ 100000) : CutMut w base x ns.length := by
  obtain ⟨G, hs', h1, h2, h3, h4, h5⟩ := h
  refine ⟨G, hs', ns, h1, h3, h4, rfl, by omega, h2, fun i hi => ?_⟩
  have hil : i < (cellsB l).length := by rw [cellsB_length]; omega
  obtain ⟨u, hu⟩ : ∃ u, (cellsB l)[i]? = some u := ⟨_, List.getElem?_eq_getElem hil⟩
  obtain ⟨k1, k2⟩ := h5 i u hu
  simp only [cellsB, List.getElem?_map] at hu
  obtain ⟨b, _, rfl⟩ := Option.map_eq_some_iff.1 hu
  exact ⟨⟨_, k1⟩, k2⟩

/-- Both Cuts, at once. -/
theorem cut_fact (l : List UInt8) (zs : List Int) (hl : l.length ≤ 100000) (hz : zs.length ≤ 100000) : ∃ (e : Int) (ps : List (List UInt8)), ps.length ≤ 100000 ∧
    (∀ w v v2, Bs w v l → Ns w v2 zs → Calls Tryd.prog 46 #[v, v2] w fun r w' => ∃ x, r = .returned (.tuple #[x, .int .i64 e]) ∧ CutMut w' w.heap.size x ps.length ∧ Ls w' x ps ∧ Below w.heap.size w w') ∧
    (∀ w v v2, Bs w v l → Ns w v2 zs → Calls Tryd.prog 47 #[v, v2] w fun r w' => ∃ x, r = .returned (.tuple #[x, .int .i64 e]) ∧ Ls w' x ps ∧ Below w.heap.size w w') := by
  have nilL : ∀ w, Ls w (.slice none 0 0) [] := fun w => ⟨none, 0, rfl, Nat.le_refl _, fun _ => rfl, fun h => absurd h (by simp)⟩
  cases hn : neg zs with
  | true =>
    refine ⟨2, [], by simp, fun w v v2 h h2 => (wcut_any v l v2 zs w h h2 hl hz).mono fun e w' ⟨hr, hb⟩ => ?_, fun w v v2 h h2 => (rcut_any v l v2 zs w h h2 hl hz).mono fun e w' ⟨hr, hb⟩ => ?_⟩
    · rcases hr with ⟨_, he⟩ | ⟨h1, _⟩ | ⟨h1, _⟩
      · exact ⟨_, he, CutMut.nil _ _, nilL _, hb⟩
      · rw [hn] at h1; cases h1
      · rw [hn] at h1; cases h1
    · rcases hr with ⟨_, he⟩ | ⟨h1, _⟩ | ⟨h1, _⟩
      · exact ⟨_, he, nilL _, hb⟩
      · rw [hn] at h1; cases h1
      · rw [hn] at h1; cases h1
  | false =>
    by_cases hs : (natsOf zs).sum = l.length
    · refine ⟨0, parts l (natsOf zs), by rw [parts_length, List.length_map]; exact hz, fun w v v2 h h2 => (wcut_any v l v2 zs w h h2 hl hz).mono fun e w' ⟨hr, hb⟩ => ?_, fun w v v2 h h2 => (rcut_any v l v2 zs w h h2 hl hz).mono fun e w' ⟨hr, hb⟩ => ?_⟩
      · rcases hr with ⟨h1, _⟩ | ⟨_, h1, _⟩ | ⟨_, _, x, he, hx⟩
        · rw [hn] at h1; cases h1
        · exact absurd hs h1
        · exact ⟨x, he, by rw [parts_length]; exact hx.mut hs hl, hx.lists hs, hb⟩
      · rcases hr with ⟨h1, _⟩ | ⟨_, h1, _⟩ | ⟨_, _, x, he, hx⟩
        · rw [hn] at h1; cases h1
        · exact absurd hs h1
        · exact ⟨x, he, hx, hb⟩
    · refine ⟨4, [], by simp, fun w v v2 h h2 => (wcut_any v l v2 zs w h h2 hl hz).mono fun e w' ⟨hr, hb⟩ => ?_, fun w v v2 h h2 => (rcut_any v l v2 zs w h h2 hl hz).mono fun e w' ⟨hr, hb⟩ => ?_⟩
      · rcases hr with ⟨h1, _⟩ | ⟨_, _, he⟩ | ⟨_, h1, _⟩
        · rw [hn] at h1; cases h1
        · exact ⟨_, he, CutMut.nil _ _, nilL _, hb⟩
        · exact absurd h1 hs
      · rcases hr with ⟨h1, _⟩ | ⟨_, _, he⟩ | ⟨_, h1, _⟩
        · rw [hn] at h1; cases h1
        · exact ⟨_, he, nilL _, hb⟩
        · exact absurd h1 hs
theorem Bs.ownTake {w : World} {base g cap : Nat} {l : List UInt8} {u : Value} (h : w.ownsRow base 5 1 (.slice (some ⟨g, 0, none⟩) (l.length + 1) cap) (l.length + 1) (cellsB l ++ [u])) : Bs w (.slice (some ⟨g, 0, none⟩) l.length cap) l := by
  refine ⟨_, cap, rfl, ?_, (fun h => by cases h), fun hp => ⟨g, 0, rfl, (h.lt g rfl).2, fun j v hv => ?_⟩⟩
  · obtain ⟨b, c, hv, hc⟩ := own_slice h
    injection hv with _ _ h3
    omega
  · have hlt := (List.getElem?_eq_some_iff.1 hv).1
    have := h.cells (g := g) rfl j v (by rw [List.getElem?_append_left hlt]; exact hv)
    rwa [show ((⟨g, 0, none⟩ : Addr).add j) = ⟨g, 0 + j, none⟩ from by unfold Addr.add; by_cases hj : j = 0 <;> simp [hj]] at this

set_option maxRecDepth 100000 in
set_option maxHeartbeats 4000000 in
theorem wireParts_walk (v0 : Value) (ls : List (List UInt8)) (v1 : Value) (l : List UInt8) (v2 : Value) (zs : List Int) (w : World) (hv0 : Ls w v0 ls) (hv1 : Bs w v1 l) (hv2 : Ns w v2 zs) (E : Env w) :
    Calls Tryd.prog 9 #[v0, v1, v2] w fun e w' => e = .returned (.bool true) ∧ Below w.heap.size w w' := by
  have HL := Lib.hid hv0
  have HB := Lib.hid hv1
  have HN := Lib.hid hv2
  have HM := Lib.hid (much_any v0 ls w hv0)
  obtain ⟨A0, c0, rfl, hc0, _, _⟩ := hv0
  obtain ⟨A1, c1, rfl, hc1, _, _⟩ := hv1
  obtain ⟨A2, c2, rfl, hc2, _, _⟩ := hv2
  by_cases hl : 9000 < l.length
  · have dl : 9000 < (l.length : Int) := by omega
    go_enter Tryd.func9, Tryd.ntmps9
    go_wp2_with (first
      | (go_at_call 43; refine HM.out.mono ?_; rintro e w1 ⟨⟨r, rfl, hr⟩, hb1⟩; have HR := Lib.hid hr; clear hr)
      | (go_at_call 16; refine (known_any _ (E.here hb1)).mono ?_; rintro e w2 ⟨rfl, hb2⟩))
    all_goals
      go_ret
      exact ⟨rfl, hb1.trans (hb2.mono hb1.size)⟩
  have dl : decide (9000 < (l.length : Int)) = false := by simp; omega
  by_cases hz : 9000 < zs.length
  · have dz : 9000 < (zs.length : Int) := by omega
    go_enter Tryd.func9, Tryd.ntmps9
    go_wp2_with (first
      | (go_at_call 43; refine HM.out.mono ?_; rintro e w1 ⟨⟨r, rfl, hr⟩, hb1⟩; have HR := Lib.hid hr; clear hr)
      | (go_at_call 16; refine (known_any _ (E.here hb1)).mono ?_; rintro e w2 ⟨rfl, hb2⟩))
    all_goals
      go_ret
      exact ⟨rfl, hb1.trans (hb2.mono hb1.size)⟩
  have dz : decide (9000 < (zs.length : Int)) = false := by simp; omega
  obtain ⟨ec, ps, hps, HC1, HC2⟩ := cut_fact l zs (by omega) (by omega)
  have HC1 := Lib.hid HC1
  have HC2 := Lib.hid HC2
  have hl9 : l.length ≤ 9000 := by omega
  have hz9 : zs.length ≤ 9000 := by omega
  clear hl hz
  go_enter Tryd.func9, Tryd.ntmps9
  go_wp2_with (first
    | (go_at_call 43; refine HM.out.mono ?_; rintro e w1 ⟨⟨r, rfl, hr⟩, hb1⟩; have HR := Lib.hid hr; clear hr)
    | (go_at_call 16; refine (known_any _ (E.here hb1)).mono ?_; rintro e w2 ⟨rfl, hb2⟩))
  · go_ret
    exact ⟨rfl, hb1.trans (hb2.mono hb1.size)⟩
  · have hbd : ls.length + total ls ≤ 9000 := HR.out (Bool.eq_false_iff.2 (by assumption))
    have HL1 := Lib.hid (HL.out.below hb1.drew)
    go_region_with (first
      | (go_at_call 44; refine (wjoin_any _ ls _ HL1.out hbd).mono ?_; rintro e w2 ⟨⟨x, rfl, hown⟩, hb2⟩; have cv1 := (Bs.own hown).conv; have HL2 := Lib.hid (HL1.out.below hb2))
      | (go_at_call 45; refine (rjoin_any _ ls _ HL2.out hbd).mono ?_; rintro e w3 ⟨⟨x3, rfl, hown3⟩, hb3⟩; have cv2 := (Bs.own hown3).conv; have cv3 := (Bs.own (own_below hown hb3)).conv))
    all_goals
      have hbw3 : Below w.heap.size w w3 := hb1.drew.trans ((hb2.trans (hb3.mono hb2.size)).mono hb1.size)
      have HB3 := Lib.hid (HB.out.below hbw3)
      clear hown hown3 hb2 hb3 cv1 cv2 cv3 HL2 HL1
      go_wp2_with (at_builtin; refine wpList_cat rfl (.const (.slice none 0 0)) (.tmp 34) rfl w3.heap.size _ 0 [] rfl (World.ownsRow_nil _ _ _ _) _ l rfl HB3.out (by omega) (Nat.le_refl _) ?_)
      intro v4 w4 hown4 hg4
      try simp only [Nat.zero_add, List.nil_append] at hown4
      have hbw4 : Below w.heap.size w w4 := hbw3.grown hg4 hbw3.size fun k hk => by simp [Value.ownBlock] at hk
      have hz4 := hg4.size
      clear hg4
      go_wp2_with (at_builtin; refine wpList_push rfl (.tmp 35) (.tmp 36) 23 rfl w3.heap.size 5 info_u8 rfl (by decide) Tryd.underlying23 v4 l.length _ rfl hown4 rfl rfl (by omega) hz4 ?_)
      intro v5 w5 hown5 hg5
      have hbw5 : Below w.heap.size w w5 := hbw4.grown hg5 hbw4.size fun k hk => by have := (hown4.lt k hk).1; have := hbw3.size; omega
      obtain ⟨g, cap, rfl, hg3, hg5'⟩ := hown5.form (by omega)
      have hcap : l.length ≤ cap := by
        obtain ⟨b, c, hv, hc⟩ := own_slice hown5
        injection hv with _ _ h3
        omega
      have HOW := Lib.hid (show Bs w5 _ (l ++ [7]) from Bs.own (n := l.length + 1) (by rw [cellsB_append]; exact hown5))
      have HTK := Lib.hid (Bs.ownTake hown5)
      have HN5 := Lib.hid (HN.out.below hbw5)
      have HB5 := Lib.hid (HB.out.below hbw5)
      have E5 := E.here hbw5
      have HBW := Lib.hid hbw5
      clear hown4 hown5 hg5 hbw3 hbw4 hbw5 hb1
      go_upto_region 8 with (first
        | (go_at_call 46; refine (HC1.out _ _ _ HTK.out HN5.out).mono ?_; rintro e w6 ⟨x6, rfl, hcm, hx6, hb6⟩; obtain ⟨y6, rfl⟩ : ∃ y : Ext _, w6 = y.w := ⟨⟨_, hb6⟩, rfl⟩; have HCM := Lib.hid hcm; have HX6 := Lib.hid hx6; clear hcm hx6 hb6)
        | (go_at_call 47; refine (HC2.out _ _ _ (HB5.out.ext y6) (HN5.out.below y6.below)).mono ?_; rintro e w7 ⟨x7, rfl, hx7, hb7⟩; obtain ⟨y7, rfl⟩ : ∃ y : Ext _, w7 = y.w := ⟨⟨_, hb7⟩, rfl⟩; have HX7 := Lib.hid hx7; clear hx7 hb7))
      have HS := Lib.hid (ext_of (sameL_true _ _ ps _ (HX6.out.below y7.below) HX7.out (by omega)))
      go_wp2_with (first
        | (go_at_call 48; refine HS.out.mono ?_; rintro e w' ⟨rfl, y8, rfl⟩)
        | (go_at_call 20; refine (num_any _ _).mono ?_; rintro e w' ⟨rfl, rfl⟩))
      have hb8 : Below w5.heap.size w5 y8.w := Ext.lift y8 (Ext.lift y7 y6.below)
      obtain ⟨G, hs, ns, hG, hGne, hH, hnl, hns, hmut⟩ := (HCM.out.below y7.below).below y8.below
      obtain ⟨bx, cx, rfl, hxc⟩ := own_slice hmut.1
      have hnl9 : ns.length ≤ 100000 := by omega
      have HMU := Lib.hid hmut
      have HB8 := Lib.hid hb8
      have HH := Lib.hid hH
      have HGN := Lib.hid hGne
      clear hmut hb8 hH hGne HCM HX6 HX7 HS HC1 HC2 hnl
      go_loopw [12] (fun i wr => ∃ j : Nat, j ≤ ns.length ∧ i = .int .i64 j ∧ Hid (Mut wr w5.heap.size G (.slice bx ns.length cx) hs ns) ∧ Below w5.heap.size w5 wr) (fun i _ => ns.length - (intOf i).toNat)
      case atStart => exact ⟨0, Nat.zero_le _, rfl, HMU, HB8.out⟩
      case round =>
        obtain ⟨j, hj, rfl, HMr, hbr⟩ := hrel
        by_cases hlt : j < ns.length
        · obtain ⟨gx, cap', hxe, hgx, _⟩ := HMr.out.1.form (by omega)
          injection hxe with hx1 _ hx3
          subst hx1 hx3
          obtain ⟨nj, hnj⟩ : ∃ nj, ns[j]? = some nj := ⟨_, List.getElem?_eq_getElem hlt⟩
          obtain ⟨Aj, hhj, hAj⟩ := HH.out.2 j nj hnj
          have hrow : ∀ wr', Mut wr' w5.heap.size G (.slice (some ⟨gx, 0, none⟩) ns.length cx) hs ns → wr'.cell? ⟨gx, j, none⟩ = some (.slice Aj nj nj) := fun wr' hm => by
            have := hm.1.cells (g := gx) rfl j _ hhj
            rwa [show ((⟨gx, 0, none⟩ : Addr).add j) = ⟨gx, j, none⟩ from by unfold Addr.add; by_cases hj : j = 0 <;> simp [hj]] at this
          have HROW := Lib.hid hrow
          have HAJ := Lib.hid hAj
          have hsj := sum_take hnj
          have hsl := sum_take_le ns (j + 1)
          obtain ⟨sj, hsje⟩ : ∃ sj, (ns.take j).sum = sj := ⟨_, rfl⟩
          rw [hsje] at hsj HAJ
          have hsn : sj + nj ≤ ns.sum := by omega
          clear hrow hAj hsj hsl hsje hhj hnj
          go_wp2
          go_loopw [13] (fun i wr => ∃ k : Nat, k ≤ nj ∧ i = .int .i64 k ∧ Hid (Mut wr w5.heap.size G (.slice (some ⟨gx, 0, none⟩) ns.length cx) hs ns) ∧ Below w5.heap.size w5 wr) (fun i _ => nj - (intOf i).toNat)
          case atStart => exact ⟨0, Nat.zero_le _, rfl, HMr, hbr⟩
          case round =>
            clear hbr HMr
            obtain ⟨k, hk, rfl, HMr, hbr⟩ := hrel
            have hr := HROW.out _ HMr.out
            have hjn : (j : Int) < (ns.length : Int) := by omega
            by_cases hlk : k < nj
            · obtain ⟨⟨z, hz⟩, hfz⟩ := HMr.out.2 (sj + k) (by omega)
              have hA := HAJ.out (by omega)
              subst hA
              have HMn := Lib.hid (HMr.out.set HGN.out (sj + k) ((z + 1) % 256)).drew
              have hbn := Lib.hid (hbr.setCell (p := ⟨G, sj + k, none⟩) (show w5.heap.size ≤ G by omega) (.int .u8 ((z + 1) % 256))).drew
              have hlk' : (k : Int) < (nj : Int) := by omega
              go_wp2
              go_region
              go_wp2
              go_roundw
              case rel => exact ⟨k + 1, by omega, by go_num, HMn, hbn.out⟩
              case measure => simp [intOf]; omega
            · obtain rfl : k = nj := by omega
              go_wp2
              go_roundw
              case rel => repeat (first | exact ⟨j + 1, by omega, by go_num, HMr, hbr⟩ | exact ⟨⟨j + 1, by omega, by go_num, HMr, hbr⟩, rfl⟩ | refine Exists.intro _ ?_)
              case measure => simp [intOf]; omega
        · obtain rfl : j = ns.length := by omega
          have hbw : Below w.heap.size w wr := HBW.out.trans (hbr.mono HBW.out.size)
          have cv1 := (HOW.out.below hbr).conv
          have cv2 := (HB5.out.below hbr).conv
          have Er := E.here hbw
          have hstr : l ++ [7] = (({ data := l.toArray } : ByteArray) ++ { data := #[7] }).toList := by rw [Lib.toList_data, ByteArray.data_append]; simp
          go_wp2_with (go_at_call 16; refine (ext_of (known_any _ Er)).mono ?_; rintro e w' ⟨rfl, y9, rfl⟩)
          go_ret
          exact ⟨rfl, Ext.lift y9 hbw⟩
end Go.Proofs.YteafakpipbhioaaDoor
