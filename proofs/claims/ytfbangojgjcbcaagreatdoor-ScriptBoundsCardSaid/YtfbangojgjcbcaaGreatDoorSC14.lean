/- Part 14 of the proof: JoinA, MayS, TextA, ActN. -/
import Derived.LoopN
import Derived.Test.YtfbangojgjcbcaaGreatDoorSC02
import Derived.Test.YtfbangojgjcbcaaGreatDoorSC03
import Derived.Test.YtfbangojgjcbcaaGreatDoorSC06
import Derived.Test.YtfbangojgjcbcaaGreatDoorSC09
import Derived.Test.YtfbangojgjcbcaaGreatDoorSC11
import Derived.Test.YtfbangojgjcbcaaGreatDoorSC13
namespace Go.Proofs.YtfbangojgjcbcaaGreatDoor
open Go.RowKit Pl
abbrev eI (n : Int) : Value := .int .i64 n
theorem eI_inj : ∀ x y : Int, eI x = eI y → x = y := fun x y h => by injection h
abbrev eE (p : Int × Int) : Value := .agg #[.int .i64 p.1, .int .i64 p.2]
/-- What the map of ports says behind these configurations. -/
def portsF (cs : List Cfg) (n : Int) : Option Value := (findN cs n).map fun c => .int .i64 (c.ports.length : Int)
theorem portsF_snoc {cs : List Cfg} {c : Cfg} (h : (cs.any fun x => x.node == c.node) = false) : portsF (cs ++ [c]) = fun x => if x = c.node then some (.int .i64 (c.ports.length : Int)) else portsF cs x := by
  funext x
  unfold portsF
  rw [findN_snoc]
  by_cases e : x = c.node
  · subst e
    rw [findN_none.2 h]
    simp
  · rw [if_neg (fun h => e h.symm), if_neg e]
    simp
/-- What a loop over the configurations has behind j of them. -/
structure JoinC (w : World) (M : Nat) (cv lv : Value) (cs : List Cfg) (ls : List Lk) (j : Nat) (W : World) : Prop where
  map : MapIs Tryz.prog 3 eI W M j (portsF (cs.take j))
  box : Whole W w.heap.size 73 #[cv, lv]
  confs : Confs W cv cs
  links : Links W lv ls
  below : Below w.heap.size w W
/-- The length that the map of ports says; of none 0. -/
def portN (cs : List Cfg) (n : Int) : Int := match findN cs n with
  | some c => (c.ports.length : Int)
  | none => 0
theorem portsF_get (cs : List Cfg) (n : Int) : (portsF cs n).getD (.int .i64 0) = .int .i64 (portN cs n) := by
  unfold portsF portN
  cases findN cs n <;> rfl
theorem hasPort_no {cs : List Cfg} {n p : Int} (h : portN cs n ≤ p) : hasPort cs n p = false := by
  unfold hasPort portN at *
  cases hf : findN cs n with
  | none => rfl
  | some c => rw [hf] at h; simp only at h ⊢; rw [decide_eq_false (p := p < (c.ports.length : Int)) (by omega)]; simp
theorem hasPort_yes {cs : List Cfg} {n p : Int} (h0 : ¬ p < 0) (h : ¬ portN cs n ≤ p) : hasPort cs n p = true := by
  unfold hasPort portN at *
  cases hf : findN cs n with
  | none => rw [hf] at h; simp only at h; omega
  | some c => rw [hf] at h; simp only at h ⊢; rw [decide_eq_true (p := p < (c.ports.length : Int)) (by omega), decide_eq_true (p := 0 ≤ p) (by omega)]; rfl
theorem linkOk_a {cs : List Cfg} {u : List (Int × Int)} {n1 p1 n2 p2 : Int} (h : hasPort cs n1 p1 = false) : linkOk cs u (n1, p1, n2, p2) = false := by unfold linkOk; simp only; rw [h]; simp
theorem linkOk_b {cs : List Cfg} {u : List (Int × Int)} {n1 p1 n2 p2 : Int} (h : hasPort cs n2 p2 = false) : linkOk cs u (n1, p1, n2, p2) = false := by unfold linkOk; simp only; rw [h]; simp
theorem used_put {u : List (Int × Int)} {f : Int × Int → Option Value} {a b : Int × Int} {va vb : Value} (h : ∀ e, (f e).isSome = u.contains e) :
    ∀ e, (if e = b then some vb else if e = a then some va else f e).isSome = (b :: a :: u).contains e := fun e => by
  simp only [List.contains_cons]
  by_cases hb : e = b
  · simp [hb]
  · by_cases ha : e = a
    · subst ha
      simp [hb]
    · rw [if_neg hb, if_neg ha, h e, beq_eq_false_iff_ne.2 hb, beq_eq_false_iff_ne.2 ha]
      rfl
/-- Two ends in new boxes, in whatever order they were made. -/
def TwoEnds (t : TypeId) (W1 W2 : World) (ga gb : Nat) (n1 p1 n2 p2 : Int) : Prop :=
  Whole W2 ga t #[.int .i64 n1, .int .i64 p1] ∧ Whole W2 gb t #[.int .i64 n2, .int .i64 p2] ∧ W1.heap.size ≤ ga ∧ W1.heap.size ≤ gb ∧ Below W1.heap.size W1 W2
theorem TwoEnds.ab (t : TypeId) (W1 : World) (n1 p1 n2 p2 : Int) : TwoEnds t W1 ((W1.alloc (.cells #[.int .i64 n1, .int .i64 p1] t)).alloc (.cells #[.int .i64 n2, .int .i64 p2] t)).drew W1.heap.size (W1.heap.size + 1) n1 p1 n2 p2 := by
  have h2 := Whole.new (W1.alloc (.cells #[.int .i64 n1, .int .i64 p1] t)) t #[.int .i64 n2, .int .i64 p2]
  rw [World.size_alloc] at h2
  exact ⟨((Whole.new W1 _ _).alloc _).drew, h2.drew, Nat.le_refl _, Nat.le_succ _, (((Below.refl _ _).alloc (Nat.le_refl _) _).alloc (by simp) _).drew⟩
theorem TwoEnds.ba (t : TypeId) (W1 : World) (n1 p1 n2 p2 : Int) : TwoEnds t W1 ((W1.alloc (.cells #[.int .i64 n2, .int .i64 p2] t)).alloc (.cells #[.int .i64 n1, .int .i64 p1] t)).drew (W1.heap.size + 1) W1.heap.size n1 p1 n2 p2 := by
  have h2 := Whole.new (W1.alloc (.cells #[.int .i64 n2, .int .i64 p2] t)) t #[.int .i64 n1, .int .i64 p1]
  rw [World.size_alloc] at h2
  exact ⟨h2.drew, ((Whole.new W1 _ _).alloc _).drew, Nat.le_succ _, Nat.le_refl _, (((Below.refl _ _).alloc (Nat.le_refl _) _).alloc (by simp) _).drew⟩
/-- What the loop over the links has behind i of them. -/
structure JoinL (w : World) (M : Nat) (cv lv : Value) (cs : List Cfg) (ls : List Lk) (i : Nat) (W : World) : Prop where
  ports : MapIs Tryz.prog 3 eI W (w.heap.size + 1) cs.length (portsF cs)
  peers : ∃ n f, MapIs Tryz.prog 235 eE W M n f ∧ (∀ e, (f e).isSome = (usedL (ls.take i)).contains e) ∧ ∀ e v, f e = some v → ∃ q, v = eE q
  which : ∃ n f, MapIs Tryz.prog 235 eE W (M + 1) n f ∧ ∀ e, (f e).isSome = (usedL (ls.take i)).contains e
  box : Whole W w.heap.size 73 #[cv, lv]
  below : Below w.heap.size w W
set_option maxRecDepth 100000 in
set_option maxHeartbeats 40000000 in
theorem joined_any (cv lv : Value) (cs : List Cfg) (ls : List Lk) (w : World) (hc : Confs w cv cs) (hl : Links w lv ls) (hA : ∀ c ∈ cs, Addrs4 c)
    (hn : ∀ c ∈ cs, c.own.length ≤ 1000000 ∧ c.ports.length ≤ 1000000 ∧ In64 c.node) (hI : ∀ l ∈ ls, In4 l) (hcl : cs.length ≤ 1000000) (hll : ls.length ≤ 1000000) :
    Calls Tryz.prog 150 #[.agg #[cv, lv]] w fun e w' => (∃ m1 m2, e = .returned (.tuple #[m1, m2, .bool (maySet cs ls)])) ∧ Below w.heap.size w w' := by
  obtain ⟨A1, k1, rfl, -⟩ := id hc
  obtain ⟨A2, k2, rfl, -⟩ := id hl
  obtain ⟨W0, hW0⟩ : ∃ W0, (w.alloc (.cells #[.slice A1 cs.length k1, .slice A2 ls.length k2] 73)).alloc (.map #[] 0) = W0 := ⟨_, rfl⟩
  have HJ0 : Hid (JoinC w (w.heap.size + 1) (.slice A1 cs.length k1) (.slice A2 ls.length k2) cs ls 0 W0) := Lib.hid (by
    have hb : Below w.heap.size w W0 := by rw [← hW0]; exact ((Below.refl _ _).alloc (Nat.le_refl _) _).alloc (by simp) _
    refine ⟨?_, ?_, hc.here hb, hl.here hb, hb⟩
    · rw [← hW0]
      have := MapIs.new (P := Tryz.prog) (k := 3) (ek := eI) (w.alloc (.cells #[.slice A1 cs.length k1, .slice A2 ls.length k2] 73))
      rw [World.size_alloc] at this
      exact this
    · rw [← hW0]; exact (Whole.new w _ _).alloc _)
  have HW0 := Lib.hid hW0
  obtain ⟨R, hR⟩ : ∃ R, okC [] cs = R := ⟨_, rfl⟩
  have HR : Hid (okC (cs.take 0) (cs.drop 0) = R) := Lib.hid hR
  have HC := Lib.hid hc
  have HL := Lib.hid hl
  have HFA : Hid (R = false → maySet cs ls = false) := Lib.hid (fun h => by unfold maySet confsOk; rw [hR, h]; simp)
  have HA0 := Lib.hid hA
  have HN0 := Lib.hid hn
  have HI0 := Lib.hid hI
  clear hW0 hc hl hA hn hI
  have hmm := run_makeMap (P := Tryz.prog)
  go_enter Tryz.func150, Tryz.ntmps150
  go_upto_region 2 with fail
  rw [HW0.out]
  clear hmm
  have b0 : W0.cell? ⟨w.heap.size, 0, none⟩ = some (.slice A1 cs.length k1) := HJ0.out.box.cell 0
  have bl : w.heap.size < W0.heap.size := HJ0.out.box.lt
  go_wp2
  go_loopw [7, 8, 9, 24] (fun _ _ _ i wr => ∃ j : Nat, j ≤ cs.length ∧ i = .int .i64 j ∧ Hid (okC (cs.take j) (cs.drop j) = R) ∧ Hid (JoinC w (w.heap.size + 1) (.slice A1 cs.length k1) (.slice A2 ls.length k2) cs ls j wr)) (fun _ _ _ i _ => cs.length - (intOf i).toNat)
  case atStart => exact ⟨0, Nat.zero_le _, rfl, HR, HJ0⟩
  case round =>
    obtain ⟨j, hj, rfl, HK, HJ⟩ := hrel
    by_cases hlt : j < cs.length
    · obtain ⟨c, hcj⟩ : ∃ c, cs[j]? = some c := ⟨_, List.getElem?_eq_getElem hlt⟩
      have hst := okC_step hcj
      rw [HK.out] at hst
      obtain ⟨b, off, rfl, hbl, hq⟩ := HJ.out.confs.at hcj
      obtain ⟨A3, k3, A4, k4, hcfg, c0, c1, c2, c3, c4, c5, c6, c7, c8, c9, c10⟩ := hq.cfg
      have hmem := List.mem_of_getElem? hcj
      obtain ⟨W1, hW1⟩ : ∃ W1, wr.alloc (.cells #[.int .i64 c.node, .int .u32 c.addr, .slice A3 c.own.length k3, .slice A4 c.ports.length k4, .int .i64 c.hello, .int .i64 c.dead, .int .i64 c.again, .int .i64 c.room, .int .i64 c.queue, .int .i64 c.tokens, .int .i64 c.refill] 28) = W1 := ⟨_, rfl⟩
      have hbel : Below wr.heap.size wr W1 := by rw [← hW1]; exact (Below.refl _ _).alloc (Nat.le_refl _) _
      have HX1 : Hid (Whole W1 wr.heap.size 28 #[.int .i64 c.node, .int .u32 c.addr, .slice A3 c.own.length k3, .slice A4 c.ports.length k4, .int .i64 c.hello, .int .i64 c.dead, .int .i64 c.again, .int .i64 c.room, .int .i64 c.queue, .int .i64 c.tokens, .int .i64 c.refill]) := Lib.hid (by rw [← hW1]; exact Whole.new wr _ _)
      have HM1 := Lib.hid (HJ.out.map.here hbel)
      have HB1 := Lib.hid hbel
      have HCF := Lib.hid (hcfg.below hbel)
      have HAD := Lib.hid (HA0.out c hmem)
      have HNN := Lib.hid (HN0.out c hmem)
      have HW1 := Lib.hid hW1
      have HST := Lib.hid hst
      have HCJ := Lib.hid hcj
      clear hW1 hbel hst hq hcfg hcj hmem
      go_upto_region 5 with fail
      rw [HW1.out]
      have x0 : W1.cell? ⟨wr.heap.size, 0, none⟩ = some (.int .i64 c.node) := HX1.out.cell 0
      have x1 : W1.cell? ⟨wr.heap.size, 1, none⟩ = some (.int .u32 c.addr) := HX1.out.cell 1
      have x2 : W1.cell? ⟨wr.heap.size, 2, none⟩ = some (.slice A3 c.own.length k3) := HX1.out.cell 2
      have x3 : W1.cell? ⟨wr.heap.size, 3, none⟩ = some (.slice A4 c.ports.length k4) := HX1.out.cell 3
      have x4 : W1.cell? ⟨wr.heap.size, 4, none⟩ = some (.int .i64 c.hello) := HX1.out.cell 4
      have x5 : W1.cell? ⟨wr.heap.size, 5, none⟩ = some (.int .i64 c.dead) := HX1.out.cell 5
      have x6 : W1.cell? ⟨wr.heap.size, 6, none⟩ = some (.int .i64 c.again) := HX1.out.cell 6
      have x7 : W1.cell? ⟨wr.heap.size, 7, none⟩ = some (.int .i64 c.room) := HX1.out.cell 7
      have x8 : W1.cell? ⟨wr.heap.size, 8, none⟩ = some (.int .i64 c.queue) := HX1.out.cell 8
      have x9 : W1.cell? ⟨wr.heap.size, 9, none⟩ = some (.int .i64 c.tokens) := HX1.out.cell 9
      have x10 : W1.cell? ⟨wr.heap.size, 10, none⟩ = some (.int .i64 c.refill) := HX1.out.cell 10
      have xl : wr.heap.size < W1.heap.size := HX1.out.lt
      have HBW := Lib.hid (HJ.out.below.trans (HB1.out.mono HJ.out.below.size))
      clear c0 c1 c2 c3 c4 c5 c6 c7 c8 c9 c10 HW1
      obtain ⟨kl, hkl⟩ := key_int HNN.out.2.2
      have HKL := Lib.hid hkl
      have hlk := HM1.out.look kInt Tryz.underlying233 eI_inj c.node hkl (zero_int _) true
      clear hkl
      cases hd : (cs.take j).any fun x => x.node == c.node with
      | true =>
        have hF := HFA.out (by rw [HST.out, hd]; simp)
        have hsm : (portsF (cs.take j) c.node).isSome = true := by
          unfold portsF
          rw [Option.isSome_map]
          cases hf : findN (cs.take j) c.node with
          | none => rw [findN_none.1 hf] at hd; cases hd
          | some _ => rfl
        obtain ⟨z, hz⟩ : ∃ z, (portsF (cs.take j) c.node).getD (.int .i64 0) = z := ⟨_, rfl⟩
        rw [hsm, hz] at hlk
        simp only [if_true] at hlk
        have HF := Lib.hid hF
        clear hd hsm hz hF
        go_wp2
        exact bodyPost_ret (v := .tuple #[.map none, .map none, .bool false]) (by simp [results, Tryz.results150, go_sem]) rfl ⟨⟨_, _, by rw [HF.out]⟩, HBW.out⟩
      | false =>
        have hnn : portsF (cs.take j) c.node = none := by
          unfold portsF
          rw [findN_none.2 hd]; rfl
        rw [hnn] at hlk
        simp only [if_true, Option.getD_none, Option.isSome_none] at hlk
        have HPN := Lib.hid hnn
        have HD := Lib.hid hd
        clear hnn hd
        go_wp2_with fail
        refine (may_any' _ c W1 HCF.out HAD.out HNN.out.1 HNN.out.2.1).mono ?_
        rintro e w2 ⟨rfl, hb2⟩
        have HB2 := Lib.hid (HBW.out.trans (hb2.mono HBW.out.size))
        have HM2 := Lib.hid (HM1.out.here hb2)
        have HX2 := Lib.hid (HX1.out.here hb2)
        have HBX2 := Lib.hid ((HJ.out.box.here HB1.out).here hb2)
        clear hb2 hlk x0 x1 x2 x3 x4 x5 x6 x7 x8 x9 x10 xl
        cases hm : mayC c with
        | false =>
          have HF := Lib.hid (HFA.out (by rw [HST.out, hm]; simp))
          clear hm
          go_wp2
          exact bodyPost_ret (v := .tuple #[.map none, .map none, .bool false]) (by simp [results, Tryz.results150, go_sem]) rfl ⟨⟨_, _, by rw [HF.out]⟩, HB2.out⟩
        | true =>
          have hR2 : okC (cs.take (j + 1)) (cs.drop (j + 1)) = R := by rw [HST.out, hm, HD.out]; rfl
          have HR2 := Lib.hid hR2
          clear hm hR2
          obtain ⟨kl, hkl⟩ := key_int HNN.out.2.2
          obtain ⟨w3, hput, hm3, hg3⟩ := HM2.out.put kInt Tryz.underlying233 eI_inj c.node hkl (.int .i64 (c.ports.length : Int)) HPN.out
          have x0 : w2.cell? ⟨wr.heap.size, 0, none⟩ = some (.int .i64 c.node) := HX2.out.cell 0
          have x3 : w2.cell? ⟨wr.heap.size, 3, none⟩ = some (.slice A4 c.ports.length k4) := HX2.out.cell 3
          have xl : wr.heap.size < w2.heap.size := HX2.out.lt
          have hsz := HB2.out.size
          have hb3 : Below w.heap.size w w3 := HB2.out.grown hg3 hsz (fun g hg => by injection hg with hg; omega)
          have HJ3 : Hid (JoinC w (w.heap.size + 1) (.slice (some ⟨b, off, none⟩) cs.length k1) (.slice A2 ls.length k2) cs ls (j + 1) w3) := Lib.hid ⟨by rw [take_at HCJ.out, portsF_snoc HD.out]; exact hm3, HBX2.out.kept hg3 (by simp), HC.out.here hb3, HL.out.here hb3, hb3⟩
          clear hkl hm3 hg3 hb3
          go_wp2
          go_roundw
          case rel => exact ⟨j + 1, by omega, by go_num, HR2, HJ3⟩
          case measure => simp [intOf]; omega
    · obtain rfl : j = cs.length := by omega
      have hR1 : R = true := by
        have := HK.out
        rw [List.drop_length] at this
        exact this.symm
      have HB := Lib.hid HJ.out.below
      have hml := fun ty => HJ.out.map.len Tryz.underlying233 ty
      have hmp := HJ.out.map
      rw [List.take_length] at hmp
      have HMP := Lib.hid hmp
      clear hmp
      by_cases h1 : cs.length < 1
      · have HF : Hid (maySet cs ls = false) := Lib.hid (by unfold maySet confsOk; rw [decide_eq_false (by omega)]; rfl)
        have d1 : decide ((cs.length : Int) < 1) = true := decide_eq_true (by omega)
        clear h1 hlt
        go_wp2
        exact bodyPost_ret (v := .tuple #[.map none, .map none, .bool false]) (by simp [results, Tryz.results150, go_sem]) rfl ⟨⟨_, _, by rw [HF.out]⟩, HB.out⟩
      · have d1 : decide ((cs.length : Int) < 1) = false := decide_eq_false (by omega)
        by_cases h16 : 16 < cs.length
        · have HF : Hid (maySet cs ls = false) := Lib.hid (by unfold maySet confsOk; rw [decide_eq_false (p := cs.length ≤ 16) (by omega)]; simp)
          have d2 : decide ((16 : Int) < (cs.length : Int)) = true := decide_eq_true (by omega)
          clear h1 h16 hlt
          go_wp2
          exact bodyPost_ret (v := .tuple #[.map none, .map none, .bool false]) (by simp [results, Tryz.results150, go_sem]) rfl ⟨⟨_, _, by rw [HF.out]⟩, HB.out⟩
        · have d2 : decide ((16 : Int) < (cs.length : Int)) = false := decide_eq_false (by omega)
          have HOK : Hid (maySet cs ls = okL cs [] ls) := Lib.hid (by
            unfold maySet confsOk
            rw [hR, hR1, decide_eq_true (p := 1 ≤ cs.length) (by omega), decide_eq_true (p := cs.length ≤ 16) (by omega)]
            rfl)
          clear h1 h16 hlt
          go_upto_region 12 with fail
          obtain ⟨M, hM⟩ : ∃ M, wr.heap.size = M := ⟨_, rfl⟩
          obtain ⟨W5, hW5⟩ : ∃ W5, (wr.alloc (.map #[] 0)).alloc (.map #[] 0) = W5 := ⟨_, rfl⟩
          have hb5 : Below wr.heap.size wr W5 := by rw [← hW5]; exact ((Below.refl _ _).alloc (Nat.le_refl _) _).alloc (by simp) _
          have HJL : Hid (JoinL w M (.slice A1 cs.length k1) (.slice A2 ls.length k2) cs ls 0 W5) := Lib.hid ⟨HMP.out.here hb5, ⟨0, _, by rw [← hW5, ← hM]; exact (MapIs.new _).alloc _, fun e => rfl, fun e v h => by cases h⟩, ⟨0, _, by
            rw [← hW5, ← hM]
            have := MapIs.new (P := Tryz.prog) (k := 235) (ek := eE) (wr.alloc (.map #[] 0))
            rw [World.size_alloc] at this
            exact this, fun e => rfl⟩, HJ.out.box.here hb5, HB.out.trans (hb5.mono HB.out.size)⟩
          have HMw : Hid (w.heap.size + 2 ≤ M) := Lib.hid (by rw [← hM]; exact HMP.out.lt)
          have b1 : W5.cell? ⟨w.heap.size, 1, none⟩ = some (.slice A2 ls.length k2) := HJL.out.box.cell 1
          have b2 : w.heap.size < W5.heap.size := HJL.out.box.lt
          have HW5 := Lib.hid hW5
          have HMM := Lib.hid hM
          obtain ⟨RL, hRL⟩ : ∃ R, okL cs [] ls = R := ⟨_, rfl⟩
          have HRL : Hid (okL cs (usedL (ls.take 0)) (ls.drop 0) = RL) := Lib.hid hRL
          rw [hRL] at HOK
          have hin := fun w => run_makeMap (P := Tryz.prog) 194 w
          have hin3 := fun w => run_makeMap (P := Tryz.prog) 195 w
          clear hW5 hb5 hRL
          go_upto_region 13 with fail
          rw [HW5.out]
          clear hin hin3 hM b0 bl hml d1 d2 hcl hR1
          go_wp2
          go_loopw [12, 13, 14, 15, 17, 18, 19, 61] (fun _ _ _ _ _ _ _ ix wz => ∃ i : Nat, i ≤ ls.length ∧ ix = .int .i64 i ∧ Hid (okL cs (usedL (ls.take i)) (ls.drop i) = RL) ∧ Hid (JoinL w M (.slice A1 cs.length k1) (.slice A2 ls.length k2) cs ls i wz)) (fun _ _ _ _ _ _ _ ix _ => ls.length - (intOf ix).toNat)
          case atStart => exact ⟨0, Nat.zero_le _, rfl, HRL, HJL⟩
          case round =>
            obtain ⟨i, hi, rfl, HKL, HJi⟩ := hrel
            by_cases hlt : i < ls.length
            · obtain ⟨l, hli⟩ : ∃ l, ls[i]? = some l := ⟨_, List.getElem?_eq_getElem hlt⟩
              have hst := okL_step (cs := cs) hli
              rw [HKL.out] at hst
              obtain ⟨n1, p1, n2, p2⟩ := l
              obtain ⟨b, off, rfl, hbl, c0, c1, c2, c3⟩ := (HL.out.here HJi.out.below).at hli
              have HIL := Lib.hid (HI0.out _ (List.mem_of_getElem? hli))
              have HST := Lib.hid hst
              have HLI := Lib.hid hli
              simp only at c0 c1 c2 c3
              obtain ⟨W1, hW1⟩ : ∃ W1, wr.alloc (.cells #[.int .i64 n1, .int .i64 p1, .int .i64 n2, .int .i64 p2] 63) = W1 := ⟨_, rfl⟩
              have hbel : Below wr.heap.size wr W1 := by rw [← hW1]; exact (Below.refl _ _).alloc (Nat.le_refl _) _
              have HX1 : Hid (Whole W1 wr.heap.size 63 #[.int .i64 n1, .int .i64 p1, .int .i64 n2, .int .i64 p2]) := Lib.hid (by rw [← hW1]; exact Whole.new wr _ _)
              have HB1 := Lib.hid hbel
              have HWs : Hid (M + 1 < wr.heap.size) := Lib.hid (by obtain ⟨_, _, h, _⟩ := HJi.out.which; exact h.lt)
              have HW1 := Lib.hid hW1
              clear hst hli hbel hW1
              go_upto_region 16 with fail
              rw [HW1.out]
              have x0 : W1.cell? ⟨wr.heap.size, 0, none⟩ = some (.int .i64 n1) := HX1.out.cell 0
              have x1 : W1.cell? ⟨wr.heap.size, 1, none⟩ = some (.int .i64 p1) := HX1.out.cell 1
              have x2 : W1.cell? ⟨wr.heap.size, 2, none⟩ = some (.int .i64 n2) := HX1.out.cell 2
              have x3 : W1.cell? ⟨wr.heap.size, 3, none⟩ = some (.int .i64 p2) := HX1.out.cell 3
              have xl : wr.heap.size < W1.heap.size := HX1.out.lt
              clear c0 c1 c2 c3 hbl
              have ALL := Lib.hid (And.intro hll (And.intro hR (And.intro HR (And.intro HC (And.intro HFA (And.intro HA0 (And.intro HN0 (And.intro HI0 (And.intro hj (And.intro HK (And.intro HB (And.intro HMP (And.intro HMw (And.intro b2 (And.intro HW5 (And.intro HMM (And.intro HOK (And.intro HRL (And.intro hi (And.intro HKL (And.intro hlt (And.intro HJ0 (And.intro HW0 (And.intro HL (And.intro HJ (And.intro HJL (And.intro b1 (And.intro HJi (And.intro HIL (And.intro HST (And.intro HLI (And.intro HX1 (And.intro HB1 (And.intro HWs HW1))))))))))))))))))))))))))))))))))
              clear hll hR HR HC HFA HA0 HN0 HI0 hj HK HB HMP HMw b2 HW5 HMM HOK HRL hi HKL hlt HJ0 HW0 HL HJ HJL b1 HJi HIL HST HLI HX1 HB1 HWs HW1
              refine (fun (TAIL : (?T : Prop)) => ?reg) ?tail
              case reg =>
                go_region
                · have hf := Lib.hid (TwoEnds.ab 235 W1 n1 p1 n2 p2)
                  generalize ((W1.alloc (.cells #[.int .i64 n1, .int .i64 p1] 235)).alloc (.cells #[.int .i64 n2, .int .i64 p2] 235)).drew = W2 at hf ⊢
                  generalize W1.heap.size + 1 = gb at hf ⊢
                  generalize W1.heap.size = ga at hf ⊢
                  revert ga gb W2
                  exact TAIL
                · have hf := Lib.hid (TwoEnds.ba 235 W1 n1 p1 n2 p2)
                  generalize ((W1.alloc (.cells #[.int .i64 n2, .int .i64 p2] 235)).alloc (.cells #[.int .i64 n1, .int .i64 p1] 235)).drew = W2 at hf ⊢
                  generalize W1.heap.size = gb at hf ⊢
                  generalize gb + 1 = ga at hf ⊢
                  revert ga gb W2
                  exact TAIL
              case tail =>
                intro W2 gb ga HTE
                obtain ⟨hll, hR, HR, HC, HFA, HA0, HN0, HI0, hj, HK, HB, HMP, HMw, b2, HW5, HMM, HOK, HRL, hi, HKL, hlt, HJ0, HW0, HL, HJ, HJL, b1, HJi, HIL, HST, HLI, HX1, HB1, HWs, HW1⟩ := ALL.out
                clear ALL
                obtain ⟨hxa, hxb, hga, hgb, hb2⟩ := HTE.out
                have HB2 : Hid (Below wr.heap.size wr W2) := Lib.hid (HB1.out.trans (hb2.mono HB1.out.size))
                clear hb2 x0 x1 x2 x3 xl
                have HXA := Lib.hid hxa
                have HXB := Lib.hid hxb
                have a0 : W2.cell? ⟨ga, 0, none⟩ = some (.int .i64 n1) := hxa.cell 0
                have a1 : W2.cell? ⟨ga, 1, none⟩ = some (.int .i64 p1) := hxa.cell 1
                have al : ga < W2.heap.size := hxa.lt
                have b0' : W2.cell? ⟨gb, 0, none⟩ = some (.int .i64 n2) := hxb.cell 0
                have b1' : W2.cell? ⟨gb, 1, none⟩ = some (.int .i64 p2) := hxb.cell 1
                have bl' : gb < W2.heap.size := hxb.lt
                have HGA : Hid (M + 2 ≤ ga) := Lib.hid (by have := HWs.out; have := HB1.out.size; omega)
                have HGB : Hid (M + 2 ≤ gb) := Lib.hid (by have := HWs.out; have := HB1.out.size; omega)
                clear hga hgb hxa hxb
                obtain ⟨np, fp, hpe, hfp, hfv⟩ := HJi.out.peers
                have HPE := Lib.hid hpe
                have HFP := Lib.hid hfp
                have HFV := Lib.hid hfv
                clear hpe hfp hfv
                obtain ⟨W3, hW3⟩ : ∃ X, W2.alloc (.cells #[.int .i64 n1, .int .i64 p1, .int .i64 n2, .int .i64 p2] 235) = X := ⟨_, rfl⟩
                have HB3 : Hid (Below wr.heap.size wr W3) := Lib.hid (by rw [← hW3]; exact HB2.out.alloc HB2.out.size _)
                have HS3 : Hid (Whole W3 W2.heap.size 235 #[.int .i64 n1, .int .i64 p1, .int .i64 n2, .int .i64 p2]) := Lib.hid (by rw [← hW3]; exact Whole.new W2 _ _)
                have HXA3 : Hid (Whole W3 ga 235 #[.int .i64 n1, .int .i64 p1]) := Lib.hid (by rw [← hW3]; exact HXA.out.alloc _)
                have HXB3 : Hid (Whole W3 gb 235 #[.int .i64 n2, .int .i64 p2]) := Lib.hid (by rw [← hW3]; exact HXB.out.alloc _)
                have HW3 := Lib.hid hW3
                clear hW3
                go_wp2
                rw [HW3.out]
                refine wp_loop_rounds 3 ?_
                rw [rounds_succ]
                have s0 : W3.cell? ⟨W2.heap.size, 0, none⟩ = some (.int .i64 n1) := HS3.out.cell 0
                have s1 : W3.cell? ⟨W2.heap.size, 1, none⟩ = some (.int .i64 p1) := HS3.out.cell 1
                have sl : W2.heap.size < W3.heap.size := HS3.out.lt
                clear a0 a1 al b0' b1' bl'
                obtain ⟨Xa1, hXa1⟩ : ∃ X, W3.alloc (.cells #[.int .i64 n1, .int .i64 p1] 235) = X := ⟨_, rfl⟩
                have hbXa1 : Below wr.heap.size wr Xa1 := by rw [← hXa1]; exact HB3.out.alloc HB3.out.size _
                have HBXa1 := Lib.hid hbXa1
                have HWXa1 : Hid (Whole Xa1 W3.heap.size 235 #[.int .i64 n1, .int .i64 p1]) := Lib.hid (by rw [← hXa1]; exact Whole.new W3 _ _)
                have HSXa1 : Hid (Whole Xa1 W2.heap.size 235 #[.int .i64 n1, .int .i64 p1, .int .i64 n2, .int .i64 p2]) := Lib.hid (by rw [← hXa1]; exact HS3.out.alloc _)
                have HAXa1 : Hid (Whole Xa1 ga 235 #[.int .i64 n1, .int .i64 p1]) := Lib.hid (by rw [← hXa1]; exact HXA3.out.alloc _)
                have HCXa1 : Hid (Whole Xa1 gb 235 #[.int .i64 n2, .int .i64 p2]) := Lib.hid (by rw [← hXa1]; exact HXB3.out.alloc _)
                have HXa1 := Lib.hid hXa1
                have y0 : Xa1.cell? ⟨W3.heap.size, 0, none⟩ = some (.int .i64 n1) := HWXa1.out.cell 0
                have y1 : Xa1.cell? ⟨W3.heap.size, 1, none⟩ = some (.int .i64 p1) := HWXa1.out.cell 1
                have yl : W3.heap.size < Xa1.heap.size := HWXa1.out.lt
                obtain ⟨kla, hkla⟩ := key_end HIL.out.1 HIL.out.2.1
                have hlk := (HPE.out.here hbXa1).look kEnd Tryz.underlying194 end_inj (n1, p1) hkla (zero_end _) true
                simp only at hlk
                clear hkla hXa1 hbXa1
                go_upto_region 20 with fail
                rw [HXa1.out]
                cases hua : (usedL (ls.take i)).contains (n1, p1) with
                | true =>
                  have hsm := HFP.out (n1, p1)
                  rw [hua] at hsm
                  obtain ⟨v, hv⟩ : ∃ v, fp (n1, p1) = some v := Option.isSome_iff_exists.1 hsm
                  obtain ⟨q, rfl⟩ := HFV.out _ _ hv
                  rw [hv] at hlk
                  simp only [if_true, Option.getD_some, Option.isSome_some] at hlk
                  have HF : Hid (RL = false) := Lib.hid (by rw [HST.out]; unfold linkOk; rw [hua]; simp)
                  have HBR : Hid (Below wr.heap.size wr (Xa1.alloc (.cells #[.int .i64 q.1, .int .i64 q.2] 235))) := Lib.hid (HBXa1.out.alloc HBXa1.out.size _)
                  clear hsm hv hua
                  go_wp2
                  exact bodyPost_ret (v := .tuple #[.map none, .map none, .bool false]) (by simp [results, Tryz.results150, go_sem]) rfl ⟨⟨_, _, by rw [HOK.out, HF.out]⟩, HJi.out.below.trans (HBR.out.mono HJi.out.below.size)⟩
                | false =>
                  have hsm := HFP.out (n1, p1)
                  rw [hua] at hsm
                  have hv : fp (n1, p1) = none := by
                    cases hv : fp (n1, p1) with
                    | none => rfl
                    | some _ => rw [hv] at hsm; cases hsm
                  rw [hv] at hlk
                  simp only [if_true, Option.getD_none, Option.isSome_none] at hlk
                  have HUa := Lib.hid hua
                  have HVa := Lib.hid hv
                  obtain ⟨Xa2, hXa2⟩ : ∃ X, Xa1.alloc (.cells #[.int .i64 0, .int .i64 0] 235) = X := ⟨_, rfl⟩
                  have HBXa2 : Hid (Below wr.heap.size wr Xa2) := Lib.hid (by rw [← hXa2]; exact HBXa1.out.alloc HBXa1.out.size _)
                  have HWXa2 : Hid (Whole Xa2 W3.heap.size 235 #[.int .i64 n1, .int .i64 p1]) := Lib.hid (by rw [← hXa2]; exact HWXa1.out.alloc _)
                  have HSXa2 : Hid (Whole Xa2 W2.heap.size 235 #[.int .i64 n1, .int .i64 p1, .int .i64 n2, .int .i64 p2]) := Lib.hid (by rw [← hXa2]; exact HSXa1.out.alloc _)
                  have HAXa2 : Hid (Whole Xa2 ga 235 #[.int .i64 n1, .int .i64 p1]) := Lib.hid (by rw [← hXa2]; exact HAXa1.out.alloc _)
                  have HCXa2 : Hid (Whole Xa2 gb 235 #[.int .i64 n2, .int .i64 p2]) := Lib.hid (by rw [← hXa2]; exact HCXa1.out.alloc _)
                  have HXa2 := Lib.hid hXa2
                  clear hsm hv hua hXa2
                  go_upto_region 21 with fail
                  rw [HXa2.out]
                  clear hlk y0 y1 yl
                  have y0 : Xa2.cell? ⟨W3.heap.size, 0, none⟩ = some (.int .i64 n1) := HWXa2.out.cell 0
                  have y1 : Xa2.cell? ⟨W3.heap.size, 1, none⟩ = some (.int .i64 p1) := HWXa2.out.cell 1
                  have yl : W3.heap.size < Xa2.heap.size := HWXa2.out.lt
                  by_cases hp0 : p1 < 0
                  · have hp0' : decide (p1 < 0) = true := decide_eq_true hp0
                    have HF : Hid (RL = false) := Lib.hid (by rw [HST.out, linkOk_a (by unfold hasPort; split <;> simp <;> omega)]; rfl)
                    clear hp0
                    go_wp2
                    exact bodyPost_ret (v := .tuple #[.map none, .map none, .bool false]) (by simp [results, Tryz.results150, go_sem]) rfl ⟨⟨_, _, by rw [HOK.out, HF.out]⟩, HJi.out.below.trans (HBXa2.out.mono HJi.out.below.size)⟩
                  · have hp0' : decide (p1 < 0) = false := decide_eq_false hp0
                    obtain ⟨kn, hkn⟩ := key_int HIL.out.1
                    have hlk := (HJi.out.ports.here HBXa2.out).look kInt Tryz.underlying233 eI_inj n1 hkn (zero_int _) false
                    rw [portsF_get] at hlk
                    simp only [Bool.false_eq_true, if_false] at hlk
                    clear hkn
                    by_cases hpl : portN cs n1 ≤ p1
                    · have hpl' : decide (portN cs n1 ≤ p1) = true := decide_eq_true hpl
                      have HF : Hid (RL = false) := Lib.hid (by rw [HST.out, linkOk_a (hasPort_no hpl)]; rfl)
                      clear hp0 hpl
                      go_wp2
                      exact bodyPost_ret (v := .tuple #[.map none, .map none, .bool false]) (by simp [results, Tryz.results150, go_sem]) rfl ⟨⟨_, _, by rw [HOK.out, HF.out]⟩, HJi.out.below.trans (HBXa2.out.mono HJi.out.below.size)⟩
                    · have hpl' : decide (portN cs n1 ≤ p1) = false := decide_eq_false hpl
                      have HPa : Hid (hasPort cs n1 p1 = true) := Lib.hid (hasPort_yes hp0 hpl)
                      clear hp0 hpl
                      go_wp2
                      rw [rounds_succ]
                      clear s0 s1 sl hlk hp0' hpl' y0 y1 yl
                      have s0 : Xa2.cell? ⟨W2.heap.size, 2, none⟩ = some (.int .i64 n2) := HSXa2.out.cell 2
                      have s1 : Xa2.cell? ⟨W2.heap.size, 3, none⟩ = some (.int .i64 p2) := HSXa2.out.cell 3
                      have sl : W2.heap.size < Xa2.heap.size := HSXa2.out.lt
                      obtain ⟨Xb1, hXb1⟩ : ∃ X, Xa2.alloc (.cells #[.int .i64 n2, .int .i64 p2] 235) = X := ⟨_, rfl⟩
                      have hbXb1 : Below wr.heap.size wr Xb1 := by rw [← hXb1]; exact HBXa2.out.alloc HBXa2.out.size _
                      have HBXb1 := Lib.hid hbXb1
                      have HWXb1 : Hid (Whole Xb1 Xa2.heap.size 235 #[.int .i64 n2, .int .i64 p2]) := Lib.hid (by rw [← hXb1]; exact Whole.new Xa2 _ _)
                      have HSXb1 : Hid (Whole Xb1 W2.heap.size 235 #[.int .i64 n1, .int .i64 p1, .int .i64 n2, .int .i64 p2]) := Lib.hid (by rw [← hXb1]; exact HSXa2.out.alloc _)
                      have HAXb1 : Hid (Whole Xb1 ga 235 #[.int .i64 n1, .int .i64 p1]) := Lib.hid (by rw [← hXb1]; exact HAXa2.out.alloc _)
                      have HCXb1 : Hid (Whole Xb1 gb 235 #[.int .i64 n2, .int .i64 p2]) := Lib.hid (by rw [← hXb1]; exact HCXa2.out.alloc _)
                      have HXb1 := Lib.hid hXb1
                      have y0 : Xb1.cell? ⟨Xa2.heap.size, 0, none⟩ = some (.int .i64 n2) := HWXb1.out.cell 0
                      have y1 : Xb1.cell? ⟨Xa2.heap.size, 1, none⟩ = some (.int .i64 p2) := HWXb1.out.cell 1
                      have yl : Xa2.heap.size < Xb1.heap.size := HWXb1.out.lt
                      obtain ⟨klb, hklb⟩ := key_end HIL.out.2.2.1 HIL.out.2.2.2
                      have hlk := (HPE.out.here hbXb1).look kEnd Tryz.underlying194 end_inj (n2, p2) hklb (zero_end _) true
                      simp only at hlk
                      clear hklb hXb1 hbXb1
                      go_upto_region 20 with fail
                      rw [HXb1.out]
                      cases hub : (usedL (ls.take i)).contains (n2, p2) with
                      | true =>
                        have hsm := HFP.out (n2, p2)
                        rw [hub] at hsm
                        obtain ⟨v, hv⟩ : ∃ v, fp (n2, p2) = some v := Option.isSome_iff_exists.1 hsm
                        obtain ⟨q, rfl⟩ := HFV.out _ _ hv
                        rw [hv] at hlk
                        simp only [if_true, Option.getD_some, Option.isSome_some] at hlk
                        have HF : Hid (RL = false) := Lib.hid (by rw [HST.out]; unfold linkOk; rw [hub]; simp)
                        have HBR : Hid (Below wr.heap.size wr (Xb1.alloc (.cells #[.int .i64 q.1, .int .i64 q.2] 235))) := Lib.hid (HBXb1.out.alloc HBXb1.out.size _)
                        clear hsm hv hub
                        go_wp2
                        exact bodyPost_ret (v := .tuple #[.map none, .map none, .bool false]) (by simp [results, Tryz.results150, go_sem]) rfl ⟨⟨_, _, by rw [HOK.out, HF.out]⟩, HJi.out.below.trans (HBR.out.mono HJi.out.below.size)⟩
                      | false =>
                        have hsm := HFP.out (n2, p2)
                        rw [hub] at hsm
                        have hv : fp (n2, p2) = none := by
                          cases hv : fp (n2, p2) with
                          | none => rfl
                          | some _ => rw [hv] at hsm; cases hsm
                        rw [hv] at hlk
                        simp only [if_true, Option.getD_none, Option.isSome_none] at hlk
                        have HUb := Lib.hid hub
                        have HVb := Lib.hid hv
                        obtain ⟨Xb2, hXb2⟩ : ∃ X, Xb1.alloc (.cells #[.int .i64 0, .int .i64 0] 235) = X := ⟨_, rfl⟩
                        have HBXb2 : Hid (Below wr.heap.size wr Xb2) := Lib.hid (by rw [← hXb2]; exact HBXb1.out.alloc HBXb1.out.size _)
                        have HWXb2 : Hid (Whole Xb2 Xa2.heap.size 235 #[.int .i64 n2, .int .i64 p2]) := Lib.hid (by rw [← hXb2]; exact HWXb1.out.alloc _)
                        have HSXb2 : Hid (Whole Xb2 W2.heap.size 235 #[.int .i64 n1, .int .i64 p1, .int .i64 n2, .int .i64 p2]) := Lib.hid (by rw [← hXb2]; exact HSXb1.out.alloc _)
                        have HAXb2 : Hid (Whole Xb2 ga 235 #[.int .i64 n1, .int .i64 p1]) := Lib.hid (by rw [← hXb2]; exact HAXb1.out.alloc _)
                        have HCXb2 : Hid (Whole Xb2 gb 235 #[.int .i64 n2, .int .i64 p2]) := Lib.hid (by rw [← hXb2]; exact HCXb1.out.alloc _)
                        have HXb2 := Lib.hid hXb2
                        clear hsm hv hub hXb2
                        go_upto_region 21 with fail
                        rw [HXb2.out]
                        clear hlk y0 y1 yl
                        have y0 : Xb2.cell? ⟨Xa2.heap.size, 0, none⟩ = some (.int .i64 n2) := HWXb2.out.cell 0
                        have y1 : Xb2.cell? ⟨Xa2.heap.size, 1, none⟩ = some (.int .i64 p2) := HWXb2.out.cell 1
                        have yl : Xa2.heap.size < Xb2.heap.size := HWXb2.out.lt
                        by_cases hp0 : p2 < 0
                        · have hp0' : decide (p2 < 0) = true := decide_eq_true hp0
                          have HF : Hid (RL = false) := Lib.hid (by rw [HST.out, linkOk_b (by unfold hasPort; split <;> simp <;> omega)]; rfl)
                          clear hp0
                          go_wp2
                          exact bodyPost_ret (v := .tuple #[.map none, .map none, .bool false]) (by simp [results, Tryz.results150, go_sem]) rfl ⟨⟨_, _, by rw [HOK.out, HF.out]⟩, HJi.out.below.trans (HBXb2.out.mono HJi.out.below.size)⟩
                        · have hp0' : decide (p2 < 0) = false := decide_eq_false hp0
                          obtain ⟨kn, hkn⟩ := key_int HIL.out.2.2.1
                          have hlk := (HJi.out.ports.here HBXb2.out).look kInt Tryz.underlying233 eI_inj n2 hkn (zero_int _) false
                          rw [portsF_get] at hlk
                          simp only [Bool.false_eq_true, if_false] at hlk
                          clear hkn
                          by_cases hpl : portN cs n2 ≤ p2
                          · have hpl' : decide (portN cs n2 ≤ p2) = true := decide_eq_true hpl
                            have HF : Hid (RL = false) := Lib.hid (by rw [HST.out, linkOk_b (hasPort_no hpl)]; rfl)
                            clear hp0 hpl
                            go_wp2
                            exact bodyPost_ret (v := .tuple #[.map none, .map none, .bool false]) (by simp [results, Tryz.results150, go_sem]) rfl ⟨⟨_, _, by rw [HOK.out, HF.out]⟩, HJi.out.below.trans (HBXb2.out.mono HJi.out.below.size)⟩
                          · have hpl' : decide (portN cs n2 ≤ p2) = false := decide_eq_false hpl
                            have HPb : Hid (hasPort cs n2 p2 = true) := Lib.hid (hasPort_yes hp0 hpl)
                            clear hp0 hpl
                            go_wp2
                            rw [rounds_succ]
                            clear s0 s1 sl hlk hp0' hpl' y0 y1 yl
                            have a0 : Xb2.cell? ⟨ga, 0, none⟩ = some (.int .i64 n1) := HAXb2.out.cell 0
                            have a1 : Xb2.cell? ⟨ga, 1, none⟩ = some (.int .i64 p1) := HAXb2.out.cell 1
                            have al : ga < Xb2.heap.size := HAXb2.out.lt
                            have b0' : Xb2.cell? ⟨gb, 0, none⟩ = some (.int .i64 n2) := HCXb2.out.cell 0
                            have b1' : Xb2.cell? ⟨gb, 1, none⟩ = some (.int .i64 p2) := HCXb2.out.cell 1
                            have bl' : gb < Xb2.heap.size := HCXb2.out.lt
                            by_cases hnn : n1 = n2
                            · have hn1 : (n1 == n2) = true := by simpa using hnn
                              have HF : Hid (RL = false) := Lib.hid (by rw [HST.out]; unfold linkOk; simp only; rw [hn1]; rfl)
                              clear hnn
                              go_wp2
                              exact bodyPost_ret (v := .tuple #[.map none, .map none, .bool false]) (by simp [results, Tryz.results150, go_sem]) rfl ⟨⟨_, _, by rw [HOK.out, HF.out]⟩, HJi.out.below.trans (HBXb2.out.mono HJi.out.below.size)⟩
                            · have hn1 : (n1 == n2) = false := by simpa using hnn
                              have hab : (n2, p2) ≠ (n1, p1) := fun e => hnn (by injection e with e1 e2; exact e1.symm)
                              have HR2 : Hid (okL cs (usedL (ls.take (i + 1))) (ls.drop (i + 1)) = RL) := Lib.hid (by
                                rw [HST.out]
                                unfold linkOk
                                simp only
                                rw [hn1, HPa.out, HPb.out, HUa.out, HUb.out]
                                rfl)
                              obtain ⟨ka, hka⟩ := key_end HIL.out.1 HIL.out.2.1
                              obtain ⟨kb, hkb⟩ := key_end HIL.out.2.2.1 HIL.out.2.2.2
                              obtain ⟨V1, hp1, hm1, hg1⟩ := (HPE.out.here HBXb2.out.drew).put kEnd Tryz.underlying194 end_inj (n1, p1) hka (eE (n2, p2)) HVa.out
                              have hs1 : (fun x => if x = (n1, p1) then some (eE (n2, p2)) else fp x) (n2, p2) = none := by simp only [if_neg hab]; exact HVb.out
                              obtain ⟨V2, hp2, hm2, hg2⟩ := hm1.put kEnd Tryz.underlying194 end_inj (n2, p2) hkb (eE (n1, p1)) hs1
                              obtain ⟨nw, fw, hwi, hfw⟩ := HJi.out.which
                              have hwn1 : fw (n1, p1) = none := by
                                have := hfw (n1, p1)
                                rw [HUa.out] at this
                                cases hv : fw (n1, p1) with
                                | none => rfl
                                | some _ => rw [hv] at this; cases this
                              have hwn2 : fw (n2, p2) = none := by
                                have := hfw (n2, p2)
                                rw [HUb.out] at this
                                cases hv : fw (n2, p2) with
                                | none => rfl
                                | some _ => rw [hv] at this; cases this
                              have hw0 := hwi.here HBXb2.out.drew
                              have hw1 := hw0.block (hg1.block _ hw0.lt (by simp))
                              have hw2 := hw1.block (hg2.block _ hw1.lt (by simp))
                              obtain ⟨V3, hp3, hm3, hg3⟩ := hw2.put kEnd Tryz.underlying195 end_inj (n1, p1) hka (.int .i64 (i : Int)) hwn1
                              have hs3 : (fun x => if x = (n1, p1) then some (.int .i64 (i : Int)) else fw x) (n2, p2) = none := by simp only [if_neg hab]; exact hwn2
                              obtain ⟨V4, hp4, hm4, hg4⟩ := hm3.put kEnd Tryz.underlying195 end_inj (n2, p2) hkb (.int .i64 (i : Int)) hs3
                              have hga := HGA.out
                              have hgb := HGB.out
                              have hA1 := HAXb2.out.drew.kept hg1 (fun e => by injection e with e; omega)
                              have hA2 := hA1.kept hg2 (fun e => by injection e with e; omega)
                              have hA3 := hA2.kept hg3 (fun e => by injection e with e; omega)
                              have hC1 := HCXb2.out.drew.kept hg1 (fun e => by injection e with e; omega)
                              have hC2 := hC1.kept hg2 (fun e => by injection e with e; omega)
                              have hC3 := hC2.kept hg3 (fun e => by injection e with e; omega)
                              have HJN : Hid (JoinL w M (.slice A1 cs.length k1) (.slice (some ⟨b, off, none⟩) ls.length k2) cs ls (i + 1) V4) := Lib.hid (by
                                have hMw := HMw.out
                                have hwl := HJi.out.below.size
                                have hpo := HJi.out.ports.here HBXb2.out.drew
                                have hbo := HJi.out.box.here HBXb2.out.drew
                                have hbb := HJi.out.below.trans (HBXb2.out.drew.mono HJi.out.below.size)
                                have gs1 := hg1.size
                                have gs2 := hg2.size
                                have gs3 := hg3.size
                                have q1 := hpo.block (hg1.block _ hpo.lt (fun e => by injection e with e; omega))
                                have q2 := q1.block (hg2.block _ q1.lt (fun e => by injection e with e; omega))
                                have q3 := q2.block (hg3.block _ q2.lt (fun e => by injection e with e; omega))
                                have q4 := q3.block (hg4.block _ q3.lt (fun e => by injection e with e; omega))
                                have r1 := hbo.kept hg1 (fun e => by injection e with e; omega)
                                have r2 := r1.kept hg2 (fun e => by injection e with e; omega)
                                have r3 := r2.kept hg3 (fun e => by injection e with e; omega)
                                have r4 := r3.kept hg4 (fun e => by injection e with e; omega)
                                have t1 := hbb.grown hg1 hbb.size (fun g e => by injection e with e; omega)
                                have t2 := t1.grown hg2 t1.size (fun g e => by injection e with e; omega)
                                have t3 := t2.grown hg3 t2.size (fun g e => by injection e with e; omega)
                                have t4 := t3.grown hg4 t3.size (fun g e => by injection e with e; omega)
                                have m3 := hm2.block (hg3.block _ hm2.lt (by simp))
                                have m4 := m3.block (hg4.block _ m3.lt (by simp))
                                refine ⟨q4, ⟨_, _, m4, ?_, ?_⟩, ⟨_, _, hm4, ?_⟩, r4, t4⟩
                                · rw [usedL_step HLI.out]; exact used_put HFP.out
                                · intro e v hv
                                  split at hv
                                  · injection hv with hv; exact ⟨_, hv.symm⟩
                                  · split at hv
                                    · injection hv with hv; exact ⟨_, hv.symm⟩
                                    · exact HFV.out _ _ hv
                                · rw [usedL_step HLI.out]; exact used_put hfw)
                              have a0x : V1.cell? ⟨ga, 0, none⟩ = some (.int .i64 n1) := hA1.cell 0
                              have a0y : V1.cell? ⟨ga, 1, none⟩ = some (.int .i64 p1) := hA1.cell 1
                              have a0l : ga < V1.heap.size := hA1.lt
                              have b0x : V1.cell? ⟨gb, 0, none⟩ = some (.int .i64 n2) := hC1.cell 0
                              have b0y : V1.cell? ⟨gb, 1, none⟩ = some (.int .i64 p2) := hC1.cell 1
                              have b0l : gb < V1.heap.size := hC1.lt
                              have a1x : V2.cell? ⟨ga, 0, none⟩ = some (.int .i64 n1) := hA2.cell 0
                              have a1y : V2.cell? ⟨ga, 1, none⟩ = some (.int .i64 p1) := hA2.cell 1
                              have a1l : ga < V2.heap.size := hA2.lt
                              have b1x : V2.cell? ⟨gb, 0, none⟩ = some (.int .i64 n2) := hC2.cell 0
                              have b1y : V2.cell? ⟨gb, 1, none⟩ = some (.int .i64 p2) := hC2.cell 1
                              have b1l : gb < V2.heap.size := hC2.lt
                              have a2x : V3.cell? ⟨ga, 0, none⟩ = some (.int .i64 n1) := hA3.cell 0
                              have a2y : V3.cell? ⟨ga, 1, none⟩ = some (.int .i64 p1) := hA3.cell 1
                              have a2l : ga < V3.heap.size := hA3.lt
                              have b2x : V3.cell? ⟨gb, 0, none⟩ = some (.int .i64 n2) := hC3.cell 0
                              have b2y : V3.cell? ⟨gb, 1, none⟩ = some (.int .i64 p2) := hC3.cell 1
                              have b2l : gb < V3.heap.size := hC3.lt
                              clear hm1 hm2 hm3 hm4 hg1 hg2 hg3 hg4 hA1 hA2 hA3 hC1 hC2 hC3 hw0 hw1 hw2 hwi hfw hwn1 hwn2 hs1 hs3 hka hkb hab hnn hga hgb
                              go_upto_region 26 with fail
                              refine (fun (TAIL : (?T2 : Prop)) => ?reg2) ?tail2
                              case reg2 =>
                                go_region
                                exact TAIL
                              case tail2 =>
                                go_wp2
                                go_roundw
                                case rel => exact ⟨i + 1, by omega, by go_num, HR2, HJN⟩
                                case measure => simp [intOf]; omega
            · obtain rfl : i = ls.length := by omega
              have HF : Hid (maySet cs ls = true) := Lib.hid (by
                rw [HOK.out]
                have := HKL.out
                rw [List.drop_length] at this
                exact this.symm)
              go_wp2
              exact bodyPost_ret (v := .tuple #[.map (some M), .map (some (M + 1)), .bool true]) (by simp [results, Tryz.results150, go_sem]) rfl ⟨⟨_, _, by rw [HF.out]⟩, HJi.out.below⟩
end Go.Proofs.YtfbangojgjcbcaaGreatDoor
namespace Go.Proofs.YtfbangojgjcbcaaGreatDoor
open Go.RowKit Pl
set_option maxRecDepth 100000 in
theorem smay_any (cv lv : Value) (cs : List Cfg) (ls : List Lk) (w : World) (hc : Confs w cv cs) (hl : Links w lv ls) (hA : ∀ c ∈ cs, Addrs4 c)
    (hn : ∀ c ∈ cs, c.own.length ≤ 1000000 ∧ c.ports.length ≤ 1000000 ∧ In64 c.node) (hI : ∀ l ∈ ls, In4 l) (hcl : cs.length ≤ 1000000) (hll : ls.length ≤ 1000000) :
    Calls Tryz.prog 92 #[.agg #[cv, lv]] w fun e w' => e = .returned (.bool (maySet cs ls)) ∧ Below w.heap.size w w' := by
  obtain ⟨W0, hW0⟩ : ∃ W0, w.alloc (.cells #[cv, lv] 73) = W0 := ⟨_, rfl⟩
  have hb0 : Below w.heap.size w W0 := by rw [← hW0]; exact (Below.refl _ _).alloc (Nat.le_refl _) _
  have HX0 : Hid (Whole W0 w.heap.size 73 #[cv, lv]) := Lib.hid (by rw [← hW0]; exact Whole.new w _ _)
  have HB0 := Lib.hid hb0
  have HJ := Lib.hid (joined_any cv lv cs ls W0 (hc.here hb0) (hl.here hb0) hA hn hI hcl hll)
  have b0 : W0.cell? ⟨w.heap.size, 0, none⟩ = some cv := HX0.out.cell 0
  have b1 : W0.cell? ⟨w.heap.size, 1, none⟩ = some lv := HX0.out.cell 1
  have bl : w.heap.size < W0.heap.size := HX0.out.lt
  have HW0 := Lib.hid hW0
  clear hW0 hb0 hc hl hA hn hI
  go_enter Tryz.func92, Tryz.ntmps92
  go_upto_region 1 with fail
  rw [HW0.out]
  go_wp2_with fail
  refine HJ.out.mono ?_
  rintro e w' ⟨⟨m1, m2, rfl⟩, hb⟩
  go_wp2
  go_ret
  exact ⟨rfl, HB0.out.trans (hb.mono HB0.out.size)⟩
end Go.Proofs.YtfbangojgjcbcaaGreatDoor
namespace Go.Proofs.YtfbangojgjcbcaaGreatDoor
open Go.RowKit Pl
set_option maxRecDepth 100000 in
theorem text1_any (a : ActP) (bv : Value) (w : World) (h : Bs w bv a.bytes) (hl : a.bytes.length ≤ 1000000000) :
    Calls Tryz.prog 94 #[actV a bv] w fun e w' => e = .returned (.bool (!mayA a)) ∧ Below w.heap.size w w' := by
  obtain ⟨W0, hW0⟩ : ∃ X, w.alloc (.cells #[.int .i64 a.kind, .int .i64 a.node, .int .i64 a.port, .int .i64 a.cost, .int .i64 a.n, .bool a.up, .int .u8 (a.by_.toNat : Int), .bool a.unread, bv] 51) = X := ⟨_, rfl⟩
  have hb0 : Below w.heap.size w W0 := by rw [← hW0]; exact (Below.refl _ _).alloc (Nat.le_refl _) _
  have HX0 : Hid (Whole W0 w.heap.size 51 #[.int .i64 a.kind, .int .i64 a.node, .int .i64 a.port, .int .i64 a.cost, .int .i64 a.n, .bool a.up, .int .u8 (a.by_.toNat : Int), .bool a.unread, bv]) := Lib.hid (by rw [← hW0]; exact Whole.new w _ _)
  have HB0 := Lib.hid hb0
  have HM := Lib.hid (cmayAct_any a bv W0 (h.below hb0) hl)
  have x0 := HX0.out.cell 0
  have x1 := HX0.out.cell 1
  have x2 := HX0.out.cell 2
  have x3 := HX0.out.cell 3
  have x4 := HX0.out.cell 4
  have x5 := HX0.out.cell 5
  have x6 := HX0.out.cell 6
  have x7 := HX0.out.cell 7
  have x8 := HX0.out.cell 8
  simp only [List.getElem?_toArray, List.getElem?_cons_succ, List.getElem?_cons_zero] at x0 x1 x2 x3 x4 x5 x6 x7 x8
  have xl := HX0.out.lt
  have HW0 := Lib.hid hW0
  clear hW0 hb0 h
  go_enter Tryz.func94, Tryz.ntmps94
  go_upto_region 1 with fail
  rw [HW0.out]
  go_wp2_with (go_at_call 31; refine HM.out.mono ?_; rintro e w' ⟨rfl, hb⟩)
  go_ret
  exact ⟨rfl, HB0.out.trans (hb.mono HB0.out.size)⟩
def IdxRes (zs : List ActP) (e : Ending) : Prop := ∃ r : Int, e = .returned (.int .i64 r) ∧ decide (0 ≤ r) = zs.any fun a => !mayA a
set_option maxRecDepth 100000 in
set_option maxHeartbeats 2000000 in
theorem idxA_any (v : Value) (zs : List ActP) (w : World) (h : Acts w v zs) (hn : zs.length ≤ 1000000) (hl : ∀ a ∈ zs, a.bytes.length ≤ 1000000000) :
    Calls Tryz.prog 151 #[v, .func (.func 94) #[] #[]] w fun e w' => IdxRes zs e ∧ Below w.heap.size w w' := by
  have HP := Lib.hid h
  have HLL := Lib.hid hl
  obtain ⟨A, k1, rfl, _⟩ := h
  clear hl
  go_enter Tryz.func151, Tryz.ntmps151
  go_wp2
  go_loopw [4, 5, 8] (fun _ _ i wr => ∃ j : Nat, j ≤ zs.length ∧ i = .int .i64 j ∧ Hid (((zs.take j).any fun a => !mayA a) = false) ∧ Hid (Below w.heap.size w wr)) (fun _ _ i _ => zs.length - (intOf i).toNat)
  case atStart => exact ⟨0, Nat.zero_le _, rfl, Lib.hid rfl, Lib.hid (Below.refl _ _)⟩
  case round =>
    obtain ⟨j, hj, rfl, HI, HB⟩ := hrel
    by_cases hlt : j < zs.length
    · obtain ⟨x, hx⟩ : ∃ u, zs[j]? = some u := ⟨_, List.getElem?_eq_getElem hlt⟩
      obtain ⟨b1, o1, rfl, hb1, bv, hbv, p0, p1, p2, p3, p4, p5, p6, p7, p8⟩ := (HP.out.here HB.out).at hx
      obtain ⟨A3, k3, rfl, -⟩ := id hbv
      have HC : Hid (∀ W, Below wr.heap.size wr W → Calls Tryz.prog 94 #[.agg #[.int .i64 x.kind, .int .i64 x.node, .int .i64 x.port, .int .i64 x.cost, .int .i64 x.n, .bool x.up, .int .u8 (x.by_.toNat : Int), .bool x.unread, .slice A3 x.bytes.length k3]] W fun e w' => e = .returned (.bool (!mayA x)) ∧ Below W.heap.size W w') := Lib.hid (fun W hb => text1_any x _ W (hbv.below hb) (HLL.out x (List.mem_of_getElem? hx)))
      have HT : Hid (((zs.take (j + 1)).any fun a => !mayA a) = !mayA x) := Lib.hid (by rw [take_at hx, List.any_append, HI.out]; simp)
      have HY : Hid (mayA x = false → (zs.any fun a => !mayA a) = true) := Lib.hid (fun e => List.any_eq_true.2 ⟨x, List.mem_of_getElem? hx, by rw [e]; rfl⟩)
      clear hx hbv
      cases hm : mayA x with
      | true =>
        rw [hm] at HC HT
        clear hm
        go_wp2_with (go_at_call 94; refine (ext_of (HC.out _ (Below.refl _ _))).mono ?_; rintro e w' ⟨rfl, z, rfl⟩)
        go_roundw
        case rel => exact ⟨j + 1, by omega, by go_num, HT, Lib.hid (HB.out.trans (z.below.mono HB.out.size))⟩
        case measure => simp [intOf]; omega
      | false =>
        rw [hm] at HC
        have HZ := Lib.hid (HY.out hm)
        clear hm
        go_wp2_with (go_at_call 94; refine (ext_of (HC.out _ (Below.refl _ _))).mono ?_; rintro e w' ⟨rfl, z, rfl⟩)
        go_ret
        exact ⟨⟨_, rfl, by rw [HZ.out]; simp⟩, HB.out.trans (z.below.mono HB.out.size)⟩
    · obtain rfl : j = zs.length := by omega
      have HZ : Hid ((zs.any fun a => !mayA a) = false) := Lib.hid (by have := HI.out; rwa [List.take_length] at this)
      go_wp2
      go_ret
      exact ⟨⟨_, rfl, by rw [HZ.out]; rfl⟩, HB.out⟩
set_option maxRecDepth 100000 in
theorem containsA_any (v : Value) (zs : List ActP) (w : World) (h : Acts w v zs) (hn : zs.length ≤ 1000000) (hl : ∀ a ∈ zs, a.bytes.length ≤ 1000000000) :
    Calls Tryz.prog 93 #[v, .func (.func 94) #[] #[]] w fun e w' => e = .returned (.bool (zs.any fun a => !mayA a)) ∧ Below w.heap.size w w' := by
  have HI := Lib.hid (idxA_any v zs w h hn hl)
  obtain ⟨A, k1, rfl, _⟩ := h
  clear hl
  go_enter Tryz.func93, Tryz.ntmps93
  go_wp2_with fail
  refine HI.out.mono ?_
  rintro e w' ⟨⟨r, rfl, hr⟩, hb⟩
  have HR := Lib.hid hr
  clear hr
  go_wp2
  go_ret
  exact ⟨by rw [← HR.out]; rfl, hb⟩
set_option maxRecDepth 100000 in
theorem put2_any (base b : Nat) (l s : List UInt8) (w : World) (h : BAt base b l w) (hl : l.length ≤ 100000000) (hs : s.length ≤ 10000000) (hbase : base ≤ w.heap.size) :
    Calls Tryz.prog 95 #[.string (str s), .pointer (some ⟨b, 0, none⟩)] w fun e w' => e = .returned (.tuple #[]) ∧ BAt base b (l ++ (s ++ [10])) w' ∧ Moves base b w w' := by
  have hsz := str_size s
  have hcat : str s ++ ({ data := #[10] } : ByteArray) = str (s ++ [10]) := by
    show str s ++ str [10] = _
    rw [str_append]
  have HW := Lib.hid (writeString_any base b l (s ++ [10]) w h hl (by simp; omega) hbase)
  rw [← hcat] at HW
  have hs2 : (str s).size ≤ 10000000 := by omega
  clear hsz hcat h
  go_enter Tryz.func95, Tryz.ntmps95
  go_wp2_with fail
  refine HW.out.mono ?_
  rintro e w' ⟨rfl, hb, hm⟩
  go_wp2
  go_end0
  exact ⟨rfl, hb, hm⟩
end Go.Proofs.YtfbangojgjcbcaaGreatDoor
namespace Go.Proofs.YtfbangojgjcbcaaGreatDoor
open Go.RowKit Pl
theorem beqd (a b : List UInt8) : (a == b) = decide (a = b) := by
  by_cases h : a = b
  · rw [decide_eq_true h]; exact beq_iff_eq.2 h
  · rw [decide_eq_false h]; exact beq_eq_false_iff_ne.2 h
set_option maxRecDepth 100000 in
set_option maxHeartbeats 4000000 in
theorem rsameAct_any (a b : ActP) (va vb : Value) (w : World) (h : Bs w va a.bytes) (h' : Bs w vb b.bytes) :
    Calls Tryz.prog 38 #[actV a va, actV b vb] w fun e w' => e = .returned (.bool (sameA a b)) ∧ Below w.heap.size w w' := by
  have HA := Lib.hid h
  have HB := Lib.hid h'
  obtain ⟨A, c, rfl, -⟩ := h
  obtain ⟨B, c', rfl, -⟩ := h'
  obtain ⟨k, node, port, cost, n, up, by_, unread, bytes⟩ := a
  obtain ⟨k', node', port', cost', n', up', by_', unread', bytes'⟩ := b
  simp only at HA HB ⊢
  obtain ⟨W0, hW0⟩ : ∃ W0, (w.alloc (.cells #[.int .i64 k, .int .i64 node, .int .i64 port, .int .i64 cost, .int .i64 n, .bool up, .int .u8 (by_.toNat : Int), .bool unread, .slice A bytes.length c] 51)).alloc (.cells #[.int .i64 k', .int .i64 node', .int .i64 port', .int .i64 cost', .int .i64 n', .bool up', .int .u8 (by_'.toNat : Int), .bool unread', .slice B bytes'.length c'] 51) = W0 := ⟨_, rfl⟩
  have HB0 : Hid (Below w.heap.size w W0) := Lib.hid (by rw [← hW0]; exact ((Below.refl _ _).alloc (Nat.le_refl _) _).alloc (by simp) _)
  have HX1 : Whole W0 w.heap.size 51 #[.int .i64 k, .int .i64 node, .int .i64 port, .int .i64 cost, .int .i64 n, .bool up, .int .u8 (by_.toNat : Int), .bool unread, .slice A bytes.length c] := by rw [← hW0]; exact (Whole.new w _ _).alloc _
  have HX2 : Whole W0 (w.heap.size + 1) 51 #[.int .i64 k', .int .i64 node', .int .i64 port', .int .i64 cost', .int .i64 n', .bool up', .int .u8 (by_'.toNat : Int), .bool unread', .slice B bytes'.length c'] := by
    rw [← hW0]
    have := Whole.new (w.alloc (.cells #[.int .i64 k, .int .i64 node, .int .i64 port, .int .i64 cost, .int .i64 n, .bool up, .int .u8 (by_.toNat : Int), .bool unread, .slice A bytes.length c] 51)) 51 #[.int .i64 k', .int .i64 node', .int .i64 port', .int .i64 cost', .int .i64 n', .bool up', .int .u8 (by_'.toNat : Int), .bool unread', .slice B bytes'.length c']
    simpa using this
  have hlt1 := HX1.lt
  have hlt2 := HX2.lt
  have y0 : W0.cell? ⟨w.heap.size, 0, none⟩ = some (.int .i64 k) := HX1.cell 0
  have z0 : W0.cell? ⟨w.heap.size + 1, 0, none⟩ = some (.int .i64 k') := HX2.cell 0
  have y1 : W0.cell? ⟨w.heap.size, 1, none⟩ = some (.int .i64 node) := HX1.cell 1
  have z1 : W0.cell? ⟨w.heap.size + 1, 1, none⟩ = some (.int .i64 node') := HX2.cell 1
  have y2 : W0.cell? ⟨w.heap.size, 2, none⟩ = some (.int .i64 port) := HX1.cell 2
  have z2 : W0.cell? ⟨w.heap.size + 1, 2, none⟩ = some (.int .i64 port') := HX2.cell 2
  have y3 : W0.cell? ⟨w.heap.size, 3, none⟩ = some (.int .i64 cost) := HX1.cell 3
  have z3 : W0.cell? ⟨w.heap.size + 1, 3, none⟩ = some (.int .i64 cost') := HX2.cell 3
  have y4 : W0.cell? ⟨w.heap.size, 4, none⟩ = some (.int .i64 n) := HX1.cell 4
  have z4 : W0.cell? ⟨w.heap.size + 1, 4, none⟩ = some (.int .i64 n') := HX2.cell 4
  have y5 : W0.cell? ⟨w.heap.size, 5, none⟩ = some (.bool up) := HX1.cell 5
  have z5 : W0.cell? ⟨w.heap.size + 1, 5, none⟩ = some (.bool up') := HX2.cell 5
  have y6 : W0.cell? ⟨w.heap.size, 6, none⟩ = some (.int .u8 (by_.toNat : Int)) := HX1.cell 6
  have z6 : W0.cell? ⟨w.heap.size + 1, 6, none⟩ = some (.int .u8 (by_'.toNat : Int)) := HX2.cell 6
  have y7 : W0.cell? ⟨w.heap.size, 7, none⟩ = some (.bool unread) := HX1.cell 7
  have z7 : W0.cell? ⟨w.heap.size + 1, 7, none⟩ = some (.bool unread') := HX2.cell 7
  have y8 : W0.cell? ⟨w.heap.size, 8, none⟩ = some (.slice A bytes.length c) := HX1.cell 8
  have z8 : W0.cell? ⟨w.heap.size + 1, 8, none⟩ = some (.slice B bytes'.length c') := HX2.cell 8
  have hcv1 := (HA.out.below HB0.out).conv
  have hcv2 := (HB.out.below HB0.out).conv
  have HW0 := Lib.hid hW0
  clear hW0 HX1 HX2
  by_cases e0 : k = k'
  · subst e0
    by_cases e1 : node = node'
    · subst e1
      by_cases e2 : port = port'
      · subst e2
        by_cases e3 : cost = cost'
        · subst e3
          by_cases e4 : n = n'
          · subst e4
            by_cases e5 : up = up'
            · subst e5
              by_cases e6 : by_ = by_'
              · subst e6
                by_cases e7 : unread = unread'
                · subst e7
                  go_enter Tryz.func38, Tryz.ntmps38
                  go_upto_region 1 with fail
                  rw [HW0.out]
                  have HS : Hid (sameA ⟨k, node, port, cost, n, up, by_, unread, bytes⟩ ⟨k, node, port, cost, n, up, by_, unread, bytes'⟩ = decide (bytes = bytes')) := Lib.hid (by simp [sameA])
                  go_wp2
                  go_ret
                  have dq := beqd bytes bytes'
                  exact ⟨by rw [HS.out]; exact congrArg (fun b => Ending.returned (Value.bool b)) dq, HB0.out⟩
                · have d : (unread == unread') = false := by simpa using e7
                  have HS : Hid (sameA ⟨k, node, port, cost, n, up, by_, unread, bytes⟩ ⟨k, node, port, cost, n, up, by_, unread', bytes'⟩ = false) := Lib.hid (by simp [sameA, e7])
                  clear e7
                  go_enter Tryz.func38, Tryz.ntmps38
                  go_upto_region 1 with fail
                  rw [HW0.out]
                  go_wp2
                  go_ret
                  exact ⟨by rw [HS.out]; rfl, HB0.out⟩
              · have d : ((by_.toNat : Int) == (by_'.toNat : Int)) = false := by
                  rw [beq_eq_false_iff_ne]
                  intro h
                  exact e6 (UInt8.toNat_inj.1 (by omega))
                have HS : Hid (sameA ⟨k, node, port, cost, n, up, by_, unread, bytes⟩ ⟨k, node, port, cost, n, up, by_', unread', bytes'⟩ = false) := Lib.hid (by simp [sameA, e6])
                clear e6
                go_enter Tryz.func38, Tryz.ntmps38
                go_upto_region 1 with fail
                rw [HW0.out]
                go_wp2
                go_ret
                exact ⟨by rw [HS.out]; rfl, HB0.out⟩
            · have d : (up == up') = false := by simpa using e5
              have HS : Hid (sameA ⟨k, node, port, cost, n, up, by_, unread, bytes⟩ ⟨k, node, port, cost, n, up', by_', unread', bytes'⟩ = false) := Lib.hid (by simp [sameA, e5])
              clear e5
              go_enter Tryz.func38, Tryz.ntmps38
              go_upto_region 1 with fail
              rw [HW0.out]
              go_wp2
              go_ret
              exact ⟨by rw [HS.out]; rfl, HB0.out⟩
          · have d : (n == n') = false := by simpa using e4
            have HS : Hid (sameA ⟨k, node, port, cost, n, up, by_, unread, bytes⟩ ⟨k, node, port, cost, n', up', by_', unread', bytes'⟩ = false) := Lib.hid (by simp [sameA, e4])
            clear e4
            go_enter Tryz.func38, Tryz.ntmps38
            go_upto_region 1 with fail
            rw [HW0.out]
            go_wp2
            go_ret
            exact ⟨by rw [HS.out]; rfl, HB0.out⟩
        · have d : (cost == cost') = false := by simpa using e3
          have HS : Hid (sameA ⟨k, node, port, cost, n, up, by_, unread, bytes⟩ ⟨k, node, port, cost', n', up', by_', unread', bytes'⟩ = false) := Lib.hid (by simp [sameA, e3])
          clear e3
          go_enter Tryz.func38, Tryz.ntmps38
          go_upto_region 1 with fail
          rw [HW0.out]
          go_wp2
          go_ret
          exact ⟨by rw [HS.out]; rfl, HB0.out⟩
      · have d : (port == port') = false := by simpa using e2
        have HS : Hid (sameA ⟨k, node, port, cost, n, up, by_, unread, bytes⟩ ⟨k, node, port', cost', n', up', by_', unread', bytes'⟩ = false) := Lib.hid (by simp [sameA, e2])
        clear e2
        go_enter Tryz.func38, Tryz.ntmps38
        go_upto_region 1 with fail
        rw [HW0.out]
        go_wp2
        go_ret
        exact ⟨by rw [HS.out]; rfl, HB0.out⟩
    · have d : (node == node') = false := by simpa using e1
      have HS : Hid (sameA ⟨k, node, port, cost, n, up, by_, unread, bytes⟩ ⟨k, node', port', cost', n', up', by_', unread', bytes'⟩ = false) := Lib.hid (by simp [sameA, e1])
      clear e1
      go_enter Tryz.func38, Tryz.ntmps38
      go_upto_region 1 with fail
      rw [HW0.out]
      go_wp2
      go_ret
      exact ⟨by rw [HS.out]; rfl, HB0.out⟩
  · have d : (k == k') = false := by simpa using e0
    have HS : Hid (sameA ⟨k, node, port, cost, n, up, by_, unread, bytes⟩ ⟨k', node', port', cost', n', up', by_', unread', bytes'⟩ = false) := Lib.hid (by simp [sameA, e0])
    clear e0
    go_enter Tryz.func38, Tryz.ntmps38
    go_upto_region 1 with fail
    rw [HW0.out]
    go_wp2
    go_ret
    exact ⟨by rw [HS.out]; rfl, HB0.out⟩
end Go.Proofs.YtfbangojgjcbcaaGreatDoor
