/- Part 12 of the proof: ConfOo, TextR, PortR, MayR, RSamS, PlainU. -/
import Derived.WalkMore
import Derived.Test.YtfbangojgjcbcaaGreatDoorST01
import Derived.Test.YtfbangojgjcbcaaGreatDoorST03
import Derived.Test.YtfbangojgjcbcaaGreatDoorST06
import Derived.Test.YtfbangojgjcbcaaGreatDoorST07
import Derived.Test.YtfbangojgjcbcaaGreatDoorST08
import Derived.Test.YtfbangojgjcbcaaGreatDoorST09
import Derived.Test.YtfbangojgjcbcaaGreatDoorST11
namespace Go.Proofs.YtfbangojgjcbcaaGreatDoor
open Go.RowKit Pl Go.Shelf
theorem joinNl_take {ls : List (List UInt8)} {j : Nat} {l : List UInt8} (h : ls[j]? = some l) : joinNl (ls.take (j + 1)) = joinNl (ls.take j) ++ l ++ [10] := by
  rw [List.take_add_one, h]
  show joinNl (ls.take j ++ [l]) = _
  rw [joinNl_snoc, List.append_assoc]
set_option maxRecDepth 100000 in
set_option maxHeartbeats 2000000 in
theorem rtext19 (v : Value) (c : Cfg) (w : World) (h : CfgIs w v c) (hA : Addrs4 c) (hm : mayC c = true) (E : Env w) :
    Calls Tryz.prog 28 #[v] w fun e w' => e = .returned (.string (str (textP c))) ∧ Below w.heap.size w w' := by
  have HLL := Lib.hid (lines_len hm)
  have HC := Lib.hid h
  obtain ⟨own, ports, rfl, hO, hP⟩ := h.is
  obtain ⟨A1, k1, rfl, -⟩ := hO
  obtain ⟨A2, k2, rfl, -⟩ := hP
  obtain ⟨W0, hW0⟩ : ∃ W0, w.alloc (.cells #[.int .i64 c.node, .int .u32 c.addr, .slice A1 c.own.length k1, .slice A2 c.ports.length k2, .int .i64 c.hello, .int .i64 c.dead, .int .i64 c.again, .int .i64 c.room, .int .i64 c.queue, .int .i64 c.tokens, .int .i64 c.refill] 28) = W0 := ⟨_, rfl⟩
  have HB0 : Hid (Below w.heap.size w W0) := Lib.hid (by rw [← hW0]; exact (Below.refl _ _).alloc (Nat.le_refl _) _)
  have HX : Whole W0 w.heap.size 28 #[.int .i64 c.node, .int .u32 c.addr, .slice A1 c.own.length k1, .slice A2 c.ports.length k2, .int .i64 c.hello, .int .i64 c.dead, .int .i64 c.again, .int .i64 c.room, .int .i64 c.queue, .int .i64 c.tokens, .int .i64 c.refill] := by rw [← hW0]; exact Whole.new _ _ _
  have HW0 := Lib.hid hW0
  have hlt0 := HX.lt
  have HLN : Hid (Calls Tryz.prog 21 #[.agg #[.int .i64 c.node, .int .u32 c.addr, .slice A1 c.own.length k1, .slice A2 c.ports.length k2, .int .i64 c.hello, .int .i64 c.dead, .int .i64 c.again, .int .i64 c.room, .int .i64 c.queue, .int .i64 c.tokens, .int .i64 c.refill]] W0 fun e w' => ∃ v, e = .returned v ∧ w'.ownsRow (W0.heap.size + 1) 9 1 v (linesP c).length ((linesP c).map Sv) ∧ Below W0.heap.size W0 w') := Lib.hid (rlines19 _ c W0 (HC.out.below HB0.out) hA hm (E.here HB0.out))
  have y0 := HX.cell 0
  have y1 := HX.cell 1
  have y2 := HX.cell 2
  have y3 := HX.cell 3
  have y4 := HX.cell 4
  have y5 := HX.cell 5
  have y6 := HX.cell 6
  have y7 := HX.cell 7
  have y8 := HX.cell 8
  have y9 := HX.cell 9
  have y10 := HX.cell 10
  simp only [List.getElem?_toArray, List.getElem?_cons_succ, List.getElem?_cons_zero] at y0 y1 y2 y3 y4 y5 y6 y7 y8 y9 y10
  have hn0 : 0 < (linesP c).length := by unfold linesP; rw [List.length_append, tails_len]; omega
  clear h hW0 hm E HX
  unfold cfgV
  go_enter Tryz.func28, Tryz.ntmps28
  go_upto_region 1 with fail
  rw [HW0.out]
  go_wp2_with fail
  refine HLN.out.mono ?_
  rintro e w2 ⟨v2, rfl, hown, hb2⟩
  obtain ⟨g, cap, rfl, hg1, hg2⟩ := hown.form hn0
  have hlc : (linesP c).length ≤ cap := by
    rcases hown.2 with ⟨h', _⟩ | ⟨g', cap', cur, h', _, _, hnc, _⟩
    · cases h'
    · injection h' with _ _ h'; omega
  have hgl := (hown.lt g rfl).2
  have HCL : Hid (∀ j l, (linesP c)[j]? = some l → w2.cell? ⟨g, j, none⟩ = some (Sv l)) := Lib.hid (fun j l hj => by
    have := hown.cells (g := g) rfl j (Sv l) (by rw [List.getElem?_map, hj]; rfl)
    rw [show ((⟨g, 0, none⟩ : Addr).add j) = ⟨g, j, none⟩ from by unfold Addr.add; by_cases hj : j = 0 <;> simp [hj]] at this
    exact this)
  have HB2 := Lib.hid (HB0.out.trans (hb2.mono HB0.out.size))
  have hl25 := HLL.out.2
  clear hown hb2 hg1 hg2
  go_wp2
  go_loop [4, 5] (fun s i => ∃ j : Nat, j ≤ (linesP c).length ∧ i = .int .i64 j ∧ s = .string (str (joinNl ((linesP c).take j)))) (fun _ i => (linesP c).length - (intOf i).toNat)
  case atStart => exact ⟨0, Nat.zero_le _, rfl, rfl⟩
  case round =>
    obtain ⟨j, hj, rfl, rfl⟩ := hrel
    by_cases hjl : j < (linesP c).length
    · obtain ⟨l, hu⟩ : ∃ u, (linesP c)[j]? = some u := ⟨_, List.getElem?_eq_getElem hjl⟩
      have c0 : w2.cell? ⟨g, j, none⟩ = some (.string (str l)) := HCL.out j l hu
      have hl40 := HLL.out.1 l (List.mem_of_getElem? hu)
      have hjn := joinNl_len ((linesP c).take j) (fun x hx => HLL.out.1 x (List.mem_of_mem_take hx))
      have htl : ((linesP c).take j).length ≤ 25 := by rw [List.length_take]; omega
      have s1 : (str (joinNl ((linesP c).take j))).size ≤ 2000 := by rw [str_size]; omega
      have s2 : (str l).size ≤ 40 := by rw [str_size]; omega
      have HT : Hid (str (joinNl ((linesP c).take j)) ++ str l ++ { data := #[10] } = str (joinNl ((linesP c).take (j + 1)))) := Lib.hid (by
        rw [joinNl_take hu]
        show _ ++ str [10] = _
        simp only [str_append])
      clear hu hjn htl
      go_wp2
      go_round
      case rel => exact ⟨j + 1, by omega, by go_num, by rw [HT.out]⟩
      case measure => simp [intOf]; omega
    · obtain rfl : j = (linesP c).length := by omega
      go_wp2
      go_ret
      exact ⟨rfl, HB2.out⟩
theorem Ss.ownP {α : Type} (lo hi : Nat) (v : Value) (ls : List (List UInt8)) : Own (fun (_ : α) W => Ss lo hi W v ls) := fun _ X Y row hs hg hrow => by
  obtain ⟨A, c, rfl, hA⟩ := hs
  refine ⟨A, c, rfl, fun hp => ?_⟩
  obtain ⟨b, off, rfl, hb, hcell⟩ := hA hp
  refine ⟨b, off, rfl, hb, fun j l hj => ?_⟩
  have h1 := hcell j l hj
  refine (World.cell?_of_block (a := ⟨b, off + j, none⟩) (hg.block b (block_lt_of_cell h1) ?_)).trans h1
  intro e
  obtain ⟨o, ho, hc⟩ := hrow b e.symm
  have h2 := h1
  unfold World.cell? at h2
  simp only [ho] at h2
  cases o <;> simp [Obj.isCells] at hc h2
theorem Ss.far {lo hi : Nat} {W : World} {v : Value} {ls : List (List UInt8)} (h : Ss lo hi W v ls) {p : Addr} (hp : p.block < lo ∨ hi ≤ p.block) (u : Value) : Ss lo hi (W.setCell p u) v ls := by
  obtain ⟨A, c, rfl, hA⟩ := h
  refine ⟨A, c, rfl, fun hq => ?_⟩
  obtain ⟨b, off, h1, h2, h3⟩ := hA hq
  exact ⟨b, off, h1, h2, fun j l hj => (World.cell?_of_block (a := ⟨b, off + j, none⟩) (Below.heap_setCell W p u b (by omega))).trans (h3 j l hj)⟩
theorem Ss.at {lo hi : Nat} {W : World} {A : Option Addr} {n k : Nat} {ls : List (List UInt8)} (h : Ss lo hi W (.slice A n k) ls) {j : Nat} {l : List UInt8} (hj : ls[j]? = some l) : ∃ b off, A = some ⟨b, off, none⟩ ∧ n = ls.length ∧ W.cell? ⟨b, off + j, none⟩ = some (.string (str l)) := by
  obtain ⟨A', c, hv, hA⟩ := h
  injection hv with h1 h2 h3
  subst h1
  obtain ⟨b, off, rfl, _, hcell⟩ := hA (by have := (List.getElem?_eq_some_iff.1 hj).1; omega)
  exact ⟨b, off, rfl, h2, hcell j l hj⟩
theorem Ss.len {lo hi : Nat} {W : World} {A : Option Addr} {n k : Nat} {ls : List (List UInt8)} (h : Ss lo hi W (.slice A n k) ls) : n = ls.length := by
  obtain ⟨A', c, hv, _⟩ := h
  injection hv
/-- What the pass holds behind so many lines. -/
def OnceIn (b Nb : Nat) (vw : Value) (ls : List (List UInt8)) (most : Int) (pre : List (List UInt8)) (W : World) : Prop :=
  Whole W Nb 3 #[.int .i64 (pre.length : Int)] ∧ Whole W (b + 2) 4 #[.bool false] ∧ Whole W (b + 1) 3 #[.int .i64 most] ∧ Whole W (b + 3) 40 #[vw] ∧ Ss (b + 4) Nb W vw ls
theorem OnceIn.own (b Nb : Nat) (vw : Value) (ls : List (List UInt8)) (most : Int) : Own (OnceIn b Nb vw ls most) := fun pre X Y row hs hg hr =>
  ⟨whole_own Nb _ (fun pre : List (List UInt8) => #[Value.int .i64 (pre.length : Int)]) pre X Y row hs.1 hg hr, whole_own (b + 2) _ (fun _ : List (List UInt8) => #[Value.bool false]) pre X Y row hs.2.1 hg hr,
    whole_own (b + 1) _ (fun _ : List (List UInt8) => #[Value.int .i64 most]) pre X Y row hs.2.2.1 hg hr, whole_own (b + 3) _ (fun _ : List (List UInt8) => #[vw]) pre X Y row hs.2.2.2.1 hg hr,
    Ss.ownP (b + 4) Nb vw ls pre X Y row hs.2.2.2.2 hg hr⟩
end Go.Proofs.YtfbangojgjcbcaaGreatDoor
namespace Go.Proofs.YtfbangojgjcbcaaGreatDoor
open Go.RowKit Pl Go.Shelf
attribute [local go_sem] Oper.semAt_some
theorem prefix_at {ls pre : List (List UInt8)} {y z : List UInt8} (hz : ls[pre.length]? = some z) (h : pre ++ [y] <+: ls) : y = z := by
  obtain ⟨t, rfl⟩ := h
  simp at hz
  exact hz
end Go.Proofs.YtfbangojgjcbcaaGreatDoor
namespace Go.Proofs.YtfbangojgjcbcaaGreatDoor
open Go.RowKit Pl
set_option maxRecDepth 100000 in
set_option maxHeartbeats 16000000 in
theorem rtext25_any (cv lv av : Value) (cs : List Cfg) (ls : List Lk) (zs : List ActP) (w : World) (h : ScrIs w cv lv av cs ls zs) (k : ScrOk cs ls zs) (E : Env w) (hlen : (textS cs ls zs).length ≤ 10000000)
    (hmc : ∀ c ∈ cs, mayC c = true) (hma : ∀ a ∈ zs, mayA a = true) :
    Calls Tryz.prog 50 #[.agg #[cv, lv, av]] w fun e w' => e = .returned (.string (str (textS cs ls zs))) ∧ Below w.heap.size w w' := by
  have HS := Lib.hid h
  have HK := Lib.hid k
  have EE := Lib.hid E
  have HMC := Lib.hid hmc
  have HALL := Lib.hid hma
  have HLEN := Lib.hid hlen
  obtain ⟨A1, k1, rfl, -⟩ := h.confs
  obtain ⟨A2, k2, rfl, -⟩ := h.links
  obtain ⟨A3, k3, rfl, -⟩ := h.acts
  have hnc := k.nc
  have hnl := k.nl
  have hna := k.na
  clear h k E hmc hma hlen
  obtain ⟨i0, hi0, hz0, hz1, hz2⟩ := info_parts info_u8
  obtain ⟨W0, hW0⟩ : ∃ X, w.alloc (.cells #[.slice A1 cs.length k1, .slice A2 ls.length k2, .slice A3 zs.length k3] 76) = X := ⟨_, rfl⟩
  have HB0 : Hid (Below w.heap.size w W0) := Lib.hid (by rw [← hW0]; exact (Below.refl _ _).alloc (Nat.le_refl _) _)
  have HX0 : Hid (Whole W0 w.heap.size 76 #[.slice A1 cs.length k1, .slice A2 ls.length k2, .slice A3 zs.length k3]) := Lib.hid (by rw [← hW0]; exact Whole.new w _ _)
  have hs0 : W0.heap.size = w.heap.size + 1 := by rw [← hW0]; simp
  have HS0 := Lib.hid hs0
  have HW0 := Lib.hid hW0
  clear hW0
  have x0 : W0.cell? ⟨w.heap.size, 0, none⟩ = some (.slice A1 cs.length k1) := HX0.out.cell 0
  have x1 : W0.cell? ⟨w.heap.size, 1, none⟩ = some (.slice A2 ls.length k2) := HX0.out.cell 1
  have x2 : W0.cell? ⟨w.heap.size, 2, none⟩ = some (.slice A3 zs.length k3) := HX0.out.cell 2
  have xl : w.heap.size < W0.heap.size := HX0.out.lt
  clear hs0
  go_enter Tryz.func50, Tryz.ntmps50
  go_upto_region 1 with fail
  rw [HW0.out]
  go_wp2
  go_loopw [3, 4] (fun v i wr => ∃ j : Nat, j ≤ cs.length ∧ i = .int .i64 j ∧ Hid (wr.ownsRow (w.heap.size + 1) 5 1 v ((cs.take j).flatMap textP).length (cellsB ((cs.take j).flatMap textP))) ∧ Hid (Below (w.heap.size + 1) W0 wr)) (fun _ i _ => cs.length - (intOf i).toNat)
  case atStart => exact ⟨0, Nat.zero_le _, rfl, Lib.hid (World.ownsRow_nil _ _ _ _), Lib.hid (Below.refl _ _)⟩
  case round =>
    obtain ⟨j, hj, rfl, HO, HBW⟩ := hrel
    have hsz := HS0.out
    have HBA := Lib.hid (HB0.out.trans (HBW.out.mono (by omega)))
    have HSZ : Hid (w.heap.size + 1 ≤ wr.heap.size) := Lib.hid (by have := HBW.out.size; omega)
    have HXR := Lib.hid (HX0.out.below HBW.out (by omega))
    clear hsz
    try clear x0 x1 x2 xl
    have x0 : wr.cell? ⟨w.heap.size, 0, none⟩ = some (.slice A1 cs.length k1) := HXR.out.cell 0
    have x1 : wr.cell? ⟨w.heap.size, 1, none⟩ = some (.slice A2 ls.length k2) := HXR.out.cell 1
    have x2 : wr.cell? ⟨w.heap.size, 2, none⟩ = some (.slice A3 zs.length k3) := HXR.out.cell 2
    have xl : w.heap.size < wr.heap.size := HXR.out.lt
    by_cases hlt : j < cs.length
    · obtain ⟨x, hx⟩ : ∃ u, cs[j]? = some u := ⟨_, List.getElem?_eq_getElem hlt⟩
      obtain ⟨g, off, rfl, hg, hq⟩ := (HS.out.here HBA.out).confs.at hx
      obtain ⟨A4, k4, A5, k5, hcx, p0, p1, p2, p3, p4, p5, p6, p7, p8, p9, p10⟩ := hq.cfg
      have hmem := List.mem_of_getElem? hx
      have HCT : Hid (Calls Tryz.prog 28 #[.agg #[.int .i64 x.node, .int .u32 x.addr, .slice A4 x.own.length k4, .slice A5 x.ports.length k5, .int .i64 x.hello, .int .i64 x.dead, .int .i64 x.again, .int .i64 x.room, .int .i64 x.queue, .int .i64 x.tokens, .int .i64 x.refill]] wr fun e w' => e = .returned (.string (str (textP x))) ∧ Below wr.heap.size wr w') := Lib.hid (rtext19 _ x wr hcx (HK.out.addrs x hmem) (HMC.out x hmem) (EE.out.here HBA.out))
      have HNX := Lib.hid (flat_next textP hx)
      have HLN : Hid (((cs.take j).flatMap textP).length ≤ 10000000 ∧ (textP x).length ≤ 10000000) := Lib.hid (by
        have h1 := flat_take textP cs j
        have h2 := flat_mem textP hmem
        have h3 := HLEN.out
        unfold textS at h3
        simp only [List.length_append] at h3
        omega)
      clear hx hq hcx hmem
      go_wp2_with fail
      refine HCT.out.mono ?_
      rintro e w5 ⟨rfl, hb5⟩
      have HO5 := Lib.hid (own_below HO.out hb5)
      have HB5 := Lib.hid (HBW.out.trans (hb5.mono HSZ.out))
      have HSZ1 := Lib.hid (Nat.le_trans HSZ.out hb5.size)
      clear hb5 p0 p1 p2 p3 p4 p5 p6 p7 p8 p9 p10 hg x0 x1 x2 xl
      obtain ⟨cur, hcur⟩ : ∃ c, (cs.take j).flatMap textP = c := ⟨_, rfl⟩
      have HCUR := Lib.hid hcur
      rw [hcur] at HO5 HLN
      clear hcur
      have h63 : cur.length + (str (textP x)).size ≤ maxLen := by rw [str_size]; have := HLN.out; unfold maxLen; omega
      have h47 : cur.length + (str (textP x)).size ≤ 140737488355328 := by rw [str_size]; have := HLN.out; omega
      have hbs : w.heap.size + 1 ≤ w5.heap.size := HSZ1.out
      go_wp2_with (at_builtin; refine Lib.wpList_append_own_string _ rfl (.tmp 15) (.tmp 22) 37 9 rfl (w.heap.size + 1) 5 i0 Tryz.underlying37 Tryz.underlying9 hi0 hz0 hz1 hz2 _ _ _ rfl HO5.out (str (textP x)) rfl h63 h47 hbs ?_)
      intro va1 wa1 hoa hga _
      obtain ⟨cur2, hcur2⟩ : ∃ c, cur ++ textP x = c := ⟨_, rfl⟩
      have HCUR2 := Lib.hid hcur2
      have HOA1 : Hid (wa1.ownsRow (w.heap.size + 1) 5 1 va1 cur2.length (cellsB cur2)) := Lib.hid (by
        rw [strCells_str, ← cellsB_append, str_size] at hoa
        rw [← hcur2, List.length_append]
        exact hoa)
      have HLN2 : Hid (cur2.length ≤ 20000000) := Lib.hid (by rw [← hcur2, List.length_append]; have := HLN.out; omega)
      have HBA1 := Lib.hid (HB5.out.grown hga hbs (fun g hg => (HO5.out.lt g hg).1))
      have HSA1 : Hid (w.heap.size + 1 ≤ wa1.heap.size) := Lib.hid (Nat.le_trans hbs hga.size)
      clear hoa hga h63 h47 hbs hcur2
      go_wp2
      go_roundw
      case rel => exact ⟨j + 1, by omega, by go_num, Lib.hid (by rw [HNX.out, HCUR.out, HCUR2.out]; exact HOA1.out), HBA1⟩
      case measure => simp [intOf]; omega
    · obtain rfl : j = cs.length := by omega
      have ho := HO.out
      rw [List.take_length] at ho
      have HOC := Lib.hid ho
      have HBC := HBW
      clear ho hlt
      go_wp2
      go_loopw [3, 5] (fun v i wr => ∃ j : Nat, j ≤ ls.length ∧ i = .int .i64 j ∧ Hid (wr.ownsRow (w.heap.size + 1) 5 1 v (cs.flatMap textP ++ linesL (ls.take j)).length (cellsB (cs.flatMap textP ++ linesL (ls.take j)))) ∧ Hid (Below (w.heap.size + 1) W0 wr)) (fun _ i _ => ls.length - (intOf i).toNat)
      case atStart => exact ⟨0, Nat.zero_le _, rfl, Lib.hid (by have := HOC.out; simpa [linesL] using this), HBC⟩
      case round =>
        obtain ⟨j, hj, rfl, HO, HBW⟩ := hrel
        have hsz := HS0.out
        have HBA := Lib.hid (HB0.out.trans (HBW.out.mono (by omega)))
        have HSZ : Hid (w.heap.size + 1 ≤ wr.heap.size) := Lib.hid (by have := HBW.out.size; omega)
        have HXR := Lib.hid (HX0.out.below HBW.out (by omega))
        clear hsz
        try clear x0 x1 x2 xl
        have x0 : wr.cell? ⟨w.heap.size, 0, none⟩ = some (.slice A1 cs.length k1) := HXR.out.cell 0
        have x1 : wr.cell? ⟨w.heap.size, 1, none⟩ = some (.slice A2 ls.length k2) := HXR.out.cell 1
        have x2 : wr.cell? ⟨w.heap.size, 2, none⟩ = some (.slice A3 zs.length k3) := HXR.out.cell 2
        have xl : w.heap.size < wr.heap.size := HXR.out.lt
        by_cases hlt : j < ls.length
        · obtain ⟨⟨n1, n2, n3, n4⟩, hx⟩ : ∃ u, ls[j]? = some u := ⟨_, List.getElem?_eq_getElem hlt⟩
          obtain ⟨g, off, rfl, hg, p0, p1, p2, p3⟩ := (HS.out.here HBA.out).links.at hx
          simp only at p0 p1 p2 p3
          have hmem := List.mem_of_getElem? hx
          have HCT : Hid (Calls Tryz.prog 42 #[.agg #[.int .i64 n1, .int .i64 n2, .int .i64 n3, .int .i64 n4]] wr fun e w' => e = .returned (.string (str (linkText (n1, n2, n3, n4)))) ∧ Below wr.heap.size wr w') := Lib.hid (rlinkText_any (n1, n2, n3, n4) wr (HK.out.links _ hmem) (EE.out.here HBA.out))
          have HNX : Hid (linesL (ls.take (j + 1)) = linesL (ls.take j) ++ (linkText (n1, n2, n3, n4) ++ [10])) := Lib.hid (flat_next _ hx)
          have HLN : Hid ((cs.flatMap textP ++ linesL (ls.take j)).length ≤ 10000000 ∧ (linkText (n1, n2, n3, n4)).length ≤ 10000000) := Lib.hid (by
            have h1 : (linesL (ls.take j)).length ≤ (linesL ls).length := flat_take _ ls j
            have h2 : (linkText (n1, n2, n3, n4) ++ [10]).length ≤ (linesL ls).length := flat_mem (fun l => linkText l ++ [10]) hmem
            have h3 := HLEN.out
            unfold textS at h3
            simp only [List.length_append] at h3 h2 ⊢
            omega)
          clear hx hmem
          go_wp2_with fail
          refine HCT.out.mono ?_
          rintro e w5 ⟨rfl, hb5⟩
          have HO5 := Lib.hid (own_below HO.out hb5)
          have HB5 := Lib.hid (HBW.out.trans (hb5.mono HSZ.out))
          have HSZ2 := Lib.hid (Nat.le_trans HSZ.out hb5.size)
          clear hb5 p0 p1 p2 p3 hg x0 x1 x2 xl
          obtain ⟨cur, hcur⟩ : ∃ c, cs.flatMap textP ++ linesL (ls.take j) = c := ⟨_, rfl⟩
          have HCUR := Lib.hid hcur
          rw [hcur] at HO5 HLN
          clear hcur
          have h63 : cur.length + (str (linkText (n1, n2, n3, n4))).size ≤ maxLen := by rw [str_size]; have := HLN.out; unfold maxLen; omega
          have h47 : cur.length + (str (linkText (n1, n2, n3, n4))).size ≤ 140737488355328 := by rw [str_size]; have := HLN.out; omega
          have hbs : w.heap.size + 1 ≤ w5.heap.size := HSZ2.out
          go_wp2_with (at_builtin; refine Lib.wpList_append_own_string _ rfl (.tmp 32) (.tmp 39) 37 9 rfl (w.heap.size + 1) 5 i0 Tryz.underlying37 Tryz.underlying9 hi0 hz0 hz1 hz2 _ _ _ rfl HO5.out (str (linkText (n1, n2, n3, n4))) rfl h63 h47 hbs ?_)
          intro va2 wa2 hoa hga _
          obtain ⟨cur2, hcur2⟩ : ∃ c, cur ++ linkText (n1, n2, n3, n4) = c := ⟨_, rfl⟩
          have HCUR2 := Lib.hid hcur2
          have HOA2 : Hid (wa2.ownsRow (w.heap.size + 1) 5 1 va2 cur2.length (cellsB cur2)) := Lib.hid (by
            rw [strCells_str, ← cellsB_append, str_size] at hoa
            rw [← hcur2, List.length_append]
            exact hoa)
          have HLN2 : Hid (cur2.length ≤ 20000000) := Lib.hid (by rw [← hcur2, List.length_append]; have := HLN.out; omega)
          have HBA2 := Lib.hid (HB5.out.grown hga hbs (fun g hg => (HO5.out.lt g hg).1))
          have HSA2 : Hid (w.heap.size + 1 ≤ wa2.heap.size) := Lib.hid (Nat.le_trans hbs hga.size)
          clear hoa hga h63 h47 hbs hcur2
          have hbs : w.heap.size + 1 ≤ wa2.heap.size := HSA2.out
          have hln : cur2.length ≤ 1000000000 := by have := HLN2.out; omega
          go_wp2_with (at_builtin; refine wpList_push rfl _ _ 37 rfl (w.heap.size + 1) 5 info_u8 rfl (by decide) Tryz.underlying37 _ _ _ rfl HOA2.out rfl rfl hln hbs ?_)
          intro vp wp hop hgp
          have HOP : Hid (wp.ownsRow (w.heap.size + 1) 5 1 vp (cur2 ++ [10]).length (cellsB (cur2 ++ [10]))) := Lib.hid (by
            rw [cellsB_append, List.length_append]
            exact hop)
          have HBP := Lib.hid (HBA2.out.grown hgp hbs (fun g hg => (HOA2.out.lt g hg).1))
          clear hop hgp hbs hln
          go_wp2
          go_roundw
          case rel => exact ⟨j + 1, by omega, by go_num, Lib.hid (by rw [HNX.out, ← List.append_assoc, ← List.append_assoc, HCUR.out, HCUR2.out]; exact HOP.out), HBP⟩
          case measure => simp [intOf]; omega
        · obtain rfl : j = ls.length := by omega
          have ho := HO.out
          rw [List.take_length] at ho
          have HOC := Lib.hid ho
          have HSZ3 := HSZ
          have HLN : Hid ((cs.flatMap textP ++ linesL ls).length ≤ 10000000) := Lib.hid (by
            have h3 := HLEN.out
            unfold textS at h3
            simp only [List.length_append] at h3 ⊢
            omega)
          clear ho hlt
          obtain ⟨cur, hcur⟩ : ∃ c, cs.flatMap textP ++ linesL ls = c := ⟨_, rfl⟩
          have HCUR := Lib.hid hcur
          rw [hcur] at HOC HLN
          clear hcur
          have h63 : cur.length + (str [114, 117, 110, 10]).size ≤ maxLen := by rw [str_size]; have := HLN.out; unfold maxLen; simp only [List.length_cons, List.length_nil]; omega
          have h47 : cur.length + (str [114, 117, 110, 10]).size ≤ 140737488355328 := by rw [str_size]; have := HLN.out; simp only [List.length_cons, List.length_nil]; omega
          have hbs : w.heap.size + 1 ≤ wr.heap.size := HSZ3.out
          go_wp2_with (at_builtin; refine Lib.wpList_append_own_string _ rfl (.tmp 43) _ 37 9 rfl (w.heap.size + 1) 5 i0 Tryz.underlying37 Tryz.underlying9 hi0 hz0 hz1 hz2 _ _ _ rfl HOC.out (str [114, 117, 110, 10]) rfl h63 h47 hbs ?_)
          intro va3 wa3 hoa hga _
          have HOA3 : Hid (wa3.ownsRow (w.heap.size + 1) 5 1 va3 (cs.flatMap textP ++ linesL ls ++ [114, 117, 110, 10]).length (cellsB (cs.flatMap textP ++ linesL ls ++ [114, 117, 110, 10]))) := Lib.hid (by
            rw [strCells_str, ← cellsB_append, str_size] at hoa
            rw [HCUR.out, List.length_append]
            exact hoa)
          have HBA3 := Lib.hid (HBW.out.grown hga hbs (fun g hg => (HOC.out.lt g hg).1))
          clear hoa hga h63 h47 hbs x0 x1 x2 xl
          have HXS : Hid (Whole wa3 w.heap.size 76 #[.slice A1 cs.length k1, .slice A2 ls.length k2, .slice A3 zs.length k3]) := Lib.hid (HX0.out.below HBA3.out (by omega))
          have x0 : wa3.cell? ⟨w.heap.size, 0, none⟩ = some (.slice A1 cs.length k1) := HXS.out.cell 0
          have x1 : wa3.cell? ⟨w.heap.size, 1, none⟩ = some (.slice A2 ls.length k2) := HXS.out.cell 1
          have x2 : wa3.cell? ⟨w.heap.size, 2, none⟩ = some (.slice A3 zs.length k3) := HXS.out.cell 2
          have xl : w.heap.size < wa3.heap.size := HXS.out.lt
          go_wp2
          go_loopw [3, 6] (fun v i wr => ∃ j : Nat, j ≤ zs.length ∧ i = .int .i64 j ∧ Hid (wr.ownsRow (w.heap.size + 1) 5 1 v (cs.flatMap textP ++ linesL ls ++ [114, 117, 110, 10] ++ linesA (zs.take j)).length (cellsB (cs.flatMap textP ++ linesL ls ++ [114, 117, 110, 10] ++ linesA (zs.take j)))) ∧ Hid (Below (w.heap.size + 1) W0 wr)) (fun _ i _ => zs.length - (intOf i).toNat)
          case atStart => exact ⟨0, Nat.zero_le _, rfl, Lib.hid (by have := HOA3.out; simpa [linesA] using this), HBA3⟩
          case round =>
            obtain ⟨j, hj, rfl, HO, HBW⟩ := hrel
            have hsz := HS0.out
            have HBA := Lib.hid (HB0.out.trans (HBW.out.mono (by omega)))
            have HSZ : Hid (w.heap.size + 1 ≤ wr.heap.size) := Lib.hid (by have := HBW.out.size; omega)
            have HXR := Lib.hid (HX0.out.below HBW.out (by omega))
            clear hsz
            try clear x0 x1 x2 xl
            have x0 : wr.cell? ⟨w.heap.size, 0, none⟩ = some (.slice A1 cs.length k1) := HXR.out.cell 0
            have x1 : wr.cell? ⟨w.heap.size, 1, none⟩ = some (.slice A2 ls.length k2) := HXR.out.cell 1
            have x2 : wr.cell? ⟨w.heap.size, 2, none⟩ = some (.slice A3 zs.length k3) := HXR.out.cell 2
            have xl : w.heap.size < wr.heap.size := HXR.out.lt
            by_cases hlt : j < zs.length
            · obtain ⟨x, hx⟩ : ∃ u, zs[j]? = some u := ⟨_, List.getElem?_eq_getElem hlt⟩
              obtain ⟨g, off, rfl, hg, bv, hbv, p0, p1, p2, p3, p4, p5, p6, p7, p8⟩ := (HS.out.here HBA.out).acts.at hx
              obtain ⟨A4, k4, rfl, -⟩ := id hbv
              have hmem := List.mem_of_getElem? hx
              have hmx := HALL.out x hmem
              have HK9 : Hid (K9 x ∧ x.bytes.length ≤ 2048) := Lib.hid (by unfold mayA at hmx; simp only [Bool.and_eq_true, decide_eq_true_eq] at hmx; exact ⟨⟨hmx.1.1.1, hmx.1.1.2⟩, hmx.2⟩)
              have HCT : Hid (Calls Tryz.prog 34 #[.agg #[.int .i64 x.kind, .int .i64 x.node, .int .i64 x.port, .int .i64 x.cost, .int .i64 x.n, .bool x.up, .int .u8 (x.by_.toNat : Int), .bool x.unread, .slice A4 x.bytes.length k4]] wr fun e w' => e = .returned (.string (str (actText x))) ∧ Below wr.heap.size wr w') := Lib.hid (ractText_any x _ wr HK9.out.1 hbv (HK.out.acts x hmem).1 HK9.out.2 (EE.out.here HBA.out))
              have HNX : Hid (linesA (zs.take (j + 1)) = linesA (zs.take j) ++ (actText x ++ [10])) := Lib.hid (flat_next _ hx)
              have HLN : Hid ((cs.flatMap textP ++ linesL ls ++ [114, 117, 110, 10] ++ linesA (zs.take j)).length ≤ 10000000 ∧ (actText x).length ≤ 10000000) := Lib.hid (by
                have h1 : (linesA (zs.take j)).length ≤ (linesA zs).length := flat_take _ zs j
                have h2 : (actText x ++ [10]).length ≤ (linesA zs).length := flat_mem (fun a => actText a ++ [10]) hmem
                have h3 := HLEN.out
                unfold textS at h3
                simp only [List.length_append, List.length_cons, List.length_nil] at h3 h2 ⊢
                omega)
              clear hx hmem hbv hmx
              go_wp2_with fail
              refine HCT.out.mono ?_
              rintro e w5 ⟨rfl, hb5⟩
              have HO5 := Lib.hid (own_below HO.out hb5)
              have HB5 := Lib.hid (HBW.out.trans (hb5.mono HSZ.out))
              have HSZ4 := Lib.hid (Nat.le_trans HSZ.out hb5.size)
              clear hb5 p0 p1 p2 p3 p4 p5 p6 p7 p8 hg x0 x1 x2 xl
              obtain ⟨cur, hcur⟩ : ∃ c, cs.flatMap textP ++ linesL ls ++ [114, 117, 110, 10] ++ linesA (zs.take j) = c := ⟨_, rfl⟩
              have HCUR := Lib.hid hcur
              rw [hcur] at HO5 HLN
              clear hcur
              have h63 : cur.length + (str (actText x)).size ≤ maxLen := by rw [str_size]; have := HLN.out; unfold maxLen; omega
              have h47 : cur.length + (str (actText x)).size ≤ 140737488355328 := by rw [str_size]; have := HLN.out; omega
              have hbs : w.heap.size + 1 ≤ w5.heap.size := HSZ4.out
              go_wp2_with (at_builtin; refine Lib.wpList_append_own_string _ rfl (.tmp 52) (.tmp 58) 37 9 rfl (w.heap.size + 1) 5 i0 Tryz.underlying37 Tryz.underlying9 hi0 hz0 hz1 hz2 _ _ _ rfl HO5.out (str (actText x)) rfl h63 h47 hbs ?_)
              intro va4 wa4 hoa hga _
              obtain ⟨cur2, hcur2⟩ : ∃ c, cur ++ actText x = c := ⟨_, rfl⟩
              have HCUR2 := Lib.hid hcur2
              have HOA4 : Hid (wa4.ownsRow (w.heap.size + 1) 5 1 va4 cur2.length (cellsB cur2)) := Lib.hid (by
                rw [strCells_str, ← cellsB_append, str_size] at hoa
                rw [← hcur2, List.length_append]
                exact hoa)
              have HLN2 : Hid (cur2.length ≤ 20000000) := Lib.hid (by rw [← hcur2, List.length_append]; have := HLN.out; omega)
              have HBA4 := Lib.hid (HB5.out.grown hga hbs (fun g hg => (HO5.out.lt g hg).1))
              have HSA4 : Hid (w.heap.size + 1 ≤ wa4.heap.size) := Lib.hid (Nat.le_trans hbs hga.size)
              clear hoa hga h63 h47 hbs hcur2
              have hbs : w.heap.size + 1 ≤ wa4.heap.size := HSA4.out
              have hln : cur2.length ≤ 1000000000 := by have := HLN2.out; omega
              go_wp2_with (at_builtin; refine wpList_push rfl _ _ 37 rfl (w.heap.size + 1) 5 info_u8 rfl (by decide) Tryz.underlying37 _ _ _ rfl HOA4.out rfl rfl hln hbs ?_)
              intro vp wp hop hgp
              have HOP : Hid (wp.ownsRow (w.heap.size + 1) 5 1 vp (cur2 ++ [10]).length (cellsB (cur2 ++ [10]))) := Lib.hid (by
                rw [cellsB_append, List.length_append]
                exact hop)
              have HBP := Lib.hid (HBA4.out.grown hgp hbs (fun g hg => (HOA4.out.lt g hg).1))
              clear hop hgp hbs hln
              go_wp2
              go_roundw
              case rel => exact ⟨j + 1, by omega, by go_num, Lib.hid (by rw [HNX.out, ← List.append_assoc, ← List.append_assoc, HCUR.out, HCUR2.out]; exact HOP.out), HBP⟩
              case measure => simp [intOf]; omega
            · obtain rfl : j = zs.length := by omega
              have ho := HO.out
              rw [List.take_length, show cs.flatMap textP ++ linesL ls ++ [114, 117, 110, 10] ++ linesA zs = textS cs ls zs from rfl] at ho
              have hcv := (Bs.own ho).conv
              clear ho hlt
              go_wp2
              go_ret
              exact ⟨rfl, HBA.out⟩
end Go.Proofs.YtfbangojgjcbcaaGreatDoor
namespace Go.Proofs.YtfbangojgjcbcaaGreatDoor
open Go.RowKit Pl
theorem hasPort_from {cs : List Cfg} {n p : Int} {j : Nat} {c : Cfg} (h : findN (cs.take j) n = none) (hc : cs[j]? = some c) (hn : c.node = n) : hasPort cs n p = (decide (0 ≤ p) && decide (p < (c.ports.length : Int))) := by
  unfold hasPort
  have : findN cs n = some c := by
    have h1 := findN_snoc (cs.take j) c n
    rw [← take_at hc, h, if_pos hn] at h1
    unfold findN at h1 ⊢
    have h2 : cs.find? (fun c => c.node == n) = ((cs.take (j + 1)) ++ (cs.drop (j + 1))).find? (fun c => c.node == n) := by rw [List.take_append_drop]
    rw [h2, List.find?_append, h1]
    rfl
  rw [this]
set_option maxRecDepth 100000 in
set_option maxHeartbeats 2000000 in
theorem rport_any (cv lv : Value) (cs : List Cfg) (n p : Int) (w : World) (hc : Confs w cv cs) (hl : ∃ A n k, lv = .slice A n k) (hcl : cs.length ≤ 1000000000) :
    Calls Tryz.prog 101 #[.agg #[cv, lv], .int .i64 n, .int .i64 p] w fun e w' => e = .returned (.bool (hasPort cs n p)) ∧ Below w.heap.size w w' := by
  obtain ⟨A1, k1, rfl, -⟩ := id hc
  obtain ⟨A2, n2, k2, rfl⟩ := hl
  obtain ⟨W0, hW0⟩ : ∃ W0, w.alloc (.cells #[.slice A1 cs.length k1, .slice A2 n2 k2] 73) = W0 := ⟨_, rfl⟩
  have hb0 : Below w.heap.size w W0 := by rw [← hW0]; exact (Below.refl _ _).alloc (Nat.le_refl _) _
  have HB0 := Lib.hid hb0
  have HC0 := Lib.hid (hc.here hb0)
  have HX0 : Hid (Whole W0 w.heap.size 73 #[.slice A1 cs.length k1, .slice A2 n2 k2]) := Lib.hid (by rw [← hW0]; exact Whole.new w _ _)
  have HW0 := Lib.hid hW0
  have b0 : W0.cell? ⟨w.heap.size, 0, none⟩ = some (.slice A1 cs.length k1) := HX0.out.cell 0
  have bl : w.heap.size < W0.heap.size := HX0.out.lt
  clear hW0 hc hb0
  go_enter Tryz.func101, Tryz.ntmps101
  go_upto_region 1 with fail
  rw [HW0.out]
  go_wp2
  go_loop [7] (fun i => ∃ j : Nat, j ≤ cs.length ∧ i = .int .i64 j ∧ Hid (findN (cs.take j) n = none)) (fun i => cs.length - (intOf i).toNat)
  case atStart => exact ⟨0, Nat.zero_le _, rfl, Lib.hid rfl⟩
  case round =>
    obtain ⟨j, hj, rfl, HF⟩ := hrel
    by_cases hlt : j < cs.length
    · obtain ⟨c, hcj⟩ : ∃ c, cs[j]? = some c := ⟨_, List.getElem?_eq_getElem hlt⟩
      obtain ⟨b, off, rfl, hbl, hq⟩ := HC0.out.at hcj
      obtain ⟨A3, k3, A4, k4, -, c0, c1, c2, c3, c4, c5, c6, c7, c8, c9, c10⟩ := hq.cfg
      have HCJ := Lib.hid hcj
      by_cases hn : c.node = n
      · have hn1 : (c.node == n) = true := by simpa using hn
        have HP := Lib.hid (hasPort_from (p := p) HF.out hcj hn)
        clear hcj hq c1 c2 c4 c5 c6 c7 c8 c9 c10 hn
        by_cases hp : 0 ≤ p
        · have hp' : decide (0 ≤ p) = true := decide_eq_true hp
          clear hp
          go_wp2
          go_ret
          exact ⟨by rw [HP.out, hp']; rfl, HB0.out⟩
        · have hp' : decide (0 ≤ p) = false := decide_eq_false hp
          clear hp
          go_wp2
          go_ret
          exact ⟨by rw [HP.out, hp']; rfl, HB0.out⟩
      · have hn1 : (c.node == n) = false := by simpa using hn
        have HN : Hid (findN (cs.take (j + 1)) n = none) := Lib.hid (by rw [take_at hcj, findN_snoc, HF.out, if_neg hn]; rfl)
        clear hcj hq c1 c2 c3 c4 c5 c6 c7 c8 c9 c10 hn
        go_wp2
        go_round
        case rel => exact ⟨j + 1, by omega, by go_num, HN⟩
        case measure => simp [intOf]; omega
    · obtain rfl : j = cs.length := by omega
      have HP : Hid (hasPort cs n p = false) := Lib.hid (by have := HF.out; rw [List.take_length] at this; unfold hasPort; rw [this])
      go_wp2
      go_ret
      exact ⟨by rw [HP.out]; rfl, HB0.out⟩
end Go.Proofs.YtfbangojgjcbcaaGreatDoor
namespace Go.Proofs.YtfbangojgjcbcaaGreatDoor
open Go.RowKit Pl
theorem any_step {cs : List Cfg} {j : Nat} {c : Cfg} (n : Int) (h : cs[j]? = some c) : ((cs.take (j + 1)).any fun x => x.node == n) = (((cs.take j).any fun x => x.node == n) || (c.node == n)) := by
  rw [take_at h, List.any_append]
  simp
theorem field_is (x : Bool) (W : World) : (Instr.field 160 (.agg #[.bool x]) 0).run Tryz.prog W = .ok (.bool x) W := by kernel_rfl
structure UsedL (w : World) (M : Nat) (cv lv : Value) (ls : List Lk) (i : Nat) (W : World) : Prop where
  used : ∃ n f, MapIs Tryz.prog 158 eE W M n f ∧ (∀ e, (f e).isSome = (usedL (ls.take i)).contains e) ∧ ∀ e v, f e = some v → v = .agg #[.bool true]
  box : Whole W w.heap.size 73 #[cv, lv]
  below : Below w.heap.size w W
set_option maxRecDepth 100000 in
set_option maxHeartbeats 40000000 in
theorem rmaysetup_any (cv lv : Value) (cs : List Cfg) (ls : List Lk) (w : World) (hc : Confs w cv cs) (hl : Links w lv ls) (hA : ∀ c ∈ cs, Addrs4 c)
    (hn : ∀ c ∈ cs, c.own.length ≤ 1000000 ∧ c.ports.length ≤ 1000000 ∧ In64 c.node) (hI : ∀ l ∈ ls, In4 l) (hcl : cs.length ≤ 1000000) (hll : ls.length ≤ 1000000) :
    Calls Tryz.prog 49 #[.agg #[cv, lv]] w fun e w' => e = .returned (.bool (maySet cs ls)) ∧ Below w.heap.size w w' := by
  have HC := Lib.hid hc
  have HL := Lib.hid hl
  have HA0 := Lib.hid hA
  have HN0 := Lib.hid hn
  have HI0 := Lib.hid hI
  obtain ⟨A1, k1, rfl, -⟩ := id hc
  obtain ⟨A2, k2, rfl, -⟩ := id hl
  obtain ⟨W0, hW0⟩ : ∃ W0, w.alloc (.cells #[.slice A1 cs.length k1, .slice A2 ls.length k2] 73) = W0 := ⟨_, rfl⟩
  have HB0 : Hid (Below w.heap.size w W0) := Lib.hid (by rw [← hW0]; exact (Below.refl _ _).alloc (Nat.le_refl _) _)
  have HX0 : Hid (Whole W0 w.heap.size 73 #[.slice A1 cs.length k1, .slice A2 ls.length k2]) := Lib.hid (by rw [← hW0]; exact Whole.new w _ _)
  have HW0 := Lib.hid hW0
  have hs0 : W0.heap.size = w.heap.size + 1 := by rw [← hW0]; simp
  have HS0 := Lib.hid hs0
  obtain ⟨R, hR⟩ : ∃ R, okC [] cs = R := ⟨_, rfl⟩
  have HR : Hid (okC (cs.take 0) (cs.drop 0) = R) := Lib.hid hR
  have HFA : Hid (R = false → maySet cs ls = false) := Lib.hid (fun h => by unfold maySet confsOk; rw [hR, h]; simp)
  have HRR := Lib.hid hR
  have b0 : W0.cell? ⟨w.heap.size, 0, none⟩ = some (.slice A1 cs.length k1) := HX0.out.cell 0
  have bl : w.heap.size < W0.heap.size := HX0.out.lt
  clear hW0 hc hl hA hn hI hs0 hR
  by_cases h1 : cs.length < 1
  · have HF : Hid (maySet cs ls = false) := Lib.hid (by unfold maySet confsOk; rw [decide_eq_false (by omega)]; rfl)
    have d1 : decide ((cs.length : Int) < 1) = true := decide_eq_true (by omega)
    clear h1
    go_enter Tryz.func49, Tryz.ntmps49
    go_upto_region 1 with fail
    rw [HW0.out]
    go_wp2
    go_ret
    exact ⟨by rw [HF.out]; rfl, HB0.out⟩
  · have d1 : decide ((cs.length : Int) < 1) = false := decide_eq_false (by omega)
    by_cases h16 : 16 < cs.length
    · have HF : Hid (maySet cs ls = false) := Lib.hid (by unfold maySet confsOk; rw [decide_eq_false (p := cs.length ≤ 16) (by omega)]; simp)
      have d2 : decide ((16 : Int) < (cs.length : Int)) = true := decide_eq_true (by omega)
      clear h1 h16
      go_enter Tryz.func49, Tryz.ntmps49
      go_upto_region 1 with fail
      rw [HW0.out]
      go_wp2
      go_ret
      exact ⟨by rw [HF.out]; rfl, HB0.out⟩
    · have d2 : decide ((16 : Int) < (cs.length : Int)) = false := decide_eq_false (by omega)
      have HLN : Hid (1 ≤ cs.length ∧ cs.length ≤ 16) := Lib.hid ⟨by omega, by omega⟩
      clear h1 h16
      go_enter Tryz.func49, Tryz.ntmps49
      go_upto_region 1 with fail
      rw [HW0.out]
      go_wp2
      clear d1 d2
      go_loopw [3, 4] (fun i _ wr => ∃ j : Nat, j ≤ cs.length ∧ i = .int .i64 j ∧ Hid (okC (cs.take j) (cs.drop j) = R) ∧ Hid (Below W0.heap.size W0 wr)) (fun i _ _ => cs.length - (intOf i).toNat)
      case atStart => exact ⟨0, Nat.zero_le _, rfl, HR, Lib.hid (Below.refl _ _)⟩
      case round =>
        obtain ⟨j, hj, rfl, HK, HB⟩ := hrel
        have HBW := Lib.hid (HB0.out.trans (HB.out.mono HB0.out.size))
        have HXR := Lib.hid (HX0.out.here HB.out)
        clear b0 bl
        have b0 : wr.cell? ⟨w.heap.size, 0, none⟩ = some (.slice A1 cs.length k1) := HXR.out.cell 0
        have b1 : wr.cell? ⟨w.heap.size, 1, none⟩ = some (.slice A2 ls.length k2) := HXR.out.cell 1
        have bl : w.heap.size < wr.heap.size := HXR.out.lt
        by_cases hlt : j < cs.length
        · obtain ⟨c, hcj⟩ : ∃ c, cs[j]? = some c := ⟨_, List.getElem?_eq_getElem hlt⟩
          have hst := okC_step hcj
          rw [HK.out] at hst
          obtain ⟨b, off, rfl, hbl, hq⟩ := (HC.out.here HBW.out).at hcj
          obtain ⟨A3, k3, A4, k4, hcfg, c0, c1, c2, c3, c4, c5, c6, c7, c8, c9, c10⟩ := hq.cfg
          have hmem := List.mem_of_getElem? hcj
          have hnn := HN0.out c hmem
          have HCM : Hid (Calls Tryz.prog 20 #[.agg #[.int .i64 c.node, .int .u32 c.addr, .slice A3 c.own.length k3, .slice A4 c.ports.length k4, .int .i64 c.hello, .int .i64 c.dead, .int .i64 c.again, .int .i64 c.room, .int .i64 c.queue, .int .i64 c.tokens, .int .i64 c.refill]] wr fun e w' => e = .returned (.bool (mayC c)) ∧ Below wr.heap.size wr w') := Lib.hid (rmay19 _ c wr hcfg (HA0.out c hmem) hnn.1 hnn.2.1)
          have HST := Lib.hid hst
          have HCJ := Lib.hid hcj
          have hjl : j ≤ 16 := by have := HLN.out; omega
          clear hst hq hcfg hcj hmem hnn
          go_wp2_with fail
          refine HCM.out.mono ?_
          rintro e w2 ⟨rfl, hb2⟩
          have HB2 := Lib.hid (HB.out.trans (hb2.mono HB.out.size))
          have HBW2 := Lib.hid (HBW.out.trans (hb2.mono HBW.out.size))
          have HX2 := Lib.hid (HXR.out.here hb2)
          clear hb2 c0 c1 c2 c3 c4 c5 c6 c7 c8 c9 c10 b0 b1 bl hbl
          cases hm : mayC c with
          | false =>
            have HF := Lib.hid (HFA.out (by rw [HST.out, hm]; rfl))
            clear hm
            go_wp2
            go_ret
            exact ⟨by rw [HF.out]; rfl, HBW2.out⟩
          | true =>
            have hR2 : (!(cs.take j).any fun x => x.node == c.node) = true → okC (cs.take (j + 1)) (cs.drop (j + 1)) = R := fun h => by rw [HST.out, hm, h]; rfl
            have HR2 := Lib.hid hR2
            have HF2 : Hid (((cs.take j).any fun x => x.node == c.node) = true → maySet cs ls = false) := Lib.hid (fun h => HFA.out (by rw [HST.out, h]; simp))
            clear hm hR2
            have b0 : w2.cell? ⟨w.heap.size, 0, none⟩ = some (.slice (some ⟨b, off, none⟩) cs.length k1) := HX2.out.cell 0
            have b1 : w2.cell? ⟨w.heap.size, 1, none⟩ = some (.slice A2 ls.length k2) := HX2.out.cell 1
            have bl : w.heap.size < w2.heap.size := HX2.out.lt
            go_wp2
            go_loopw [4] (fun i wx => ∃ k : Nat, k ≤ j ∧ i = .int .i64 k ∧ Hid (((cs.take k).any fun x => x.node == c.node) = false) ∧ Hid (Below w2.heap.size w2 wx)) (fun i _ => j - (intOf i).toNat)
            case atStart => exact ⟨0, Nat.zero_le _, rfl, Lib.hid rfl, Lib.hid (Below.refl _ _)⟩
            case round =>
              obtain ⟨q, hq, rfl, HQ, HBx⟩ := hrel
              have HBW3 := Lib.hid (HBW2.out.trans (HBx.out.mono HBW2.out.size))
              have HB3 := Lib.hid (HB2.out.trans (HBx.out.mono HB2.out.size))
              have HX3 := Lib.hid (HX2.out.here HBx.out)
              clear b0 b1 bl
              have b0 : wr.cell? ⟨w.heap.size, 0, none⟩ = some (.slice (some ⟨b, off, none⟩) cs.length k1) := HX3.out.cell 0
              have b1 : wr.cell? ⟨w.heap.size, 1, none⟩ = some (.slice A2 ls.length k2) := HX3.out.cell 1
              have bl : w.heap.size < wr.heap.size := HX3.out.lt
              by_cases hqj : q < j
              · obtain ⟨d, hdq⟩ : ∃ d, cs[q]? = some d := ⟨_, List.getElem?_eq_getElem (by omega)⟩
                obtain ⟨b', off', hA', hbl', hqd⟩ := (HC.out.here HBW3.out).at hdq
                injection hA' with hA'
                injection hA' with e1 e2
                subst e1 e2
                obtain ⟨b'', off'', hA'', hbl'', hqc⟩ := (HC.out.here HBW3.out).at HCJ.out
                injection hA'' with hA''
                injection hA'' with e1 e2
                subst e1 e2
                obtain ⟨B3, l3, B4, l4, -, d0, -⟩ := hqd.cfg
                obtain ⟨B5, l5, B6, l6, -, c0, -⟩ := hqc.cfg
                have HAS := Lib.hid (any_step c.node hdq)
                have HMEM : Hid (d.node = c.node → ((cs.take j).any fun x => x.node == c.node) = true) := Lib.hid (fun e => by
                  refine List.any_eq_true.2 ⟨d, ?_, by simpa using e⟩
                  exact List.mem_of_getElem? (by rw [List.getElem?_take, if_pos hqj]; exact hdq))
                clear hqd hqc hdq
                by_cases hdn : d.node = c.node
                · have HF := Lib.hid (HF2.out (HMEM.out hdn))
                  have dd : (d.node == c.node) = true := by simpa using hdn
                  clear hdn
                  go_wp2
                  go_region
                  go_wp2
                  go_ret
                  exact ⟨by rw [HF.out]; rfl, HBW3.out.drew⟩
                · have dd : (d.node == c.node) = false := by simpa using hdn
                  have HQ2 : Hid (((cs.take (q + 1)).any fun x => x.node == c.node) = false) := Lib.hid (by rw [HAS.out, HQ.out, dd]; rfl)
                  clear hdn
                  go_wp2
                  go_region
                  go_wp2
                  go_roundw
                  case rel => exact ⟨q + 1, by omega, by go_num, HQ2, Lib.hid HBx.out.drew⟩
                  case measure => simp [intOf]; omega
              · obtain rfl : q = j := by omega
                have HR3 := Lib.hid (HR2.out (by rw [HQ.out]; rfl))
                go_wp2
                go_roundw
                case rel => exact ⟨q + 1, by omega, by go_num, HR3, HB3⟩
                case measure => simp [intOf]; omega
        · obtain rfl : j = cs.length := by omega
          have hR1 : R = true := by
            have := HK.out
            rw [List.drop_length] at this
            exact this.symm
          have HOK0 : Hid (maySet cs ls = okL cs [] ls) := Lib.hid (by
            unfold maySet confsOk
            have := HLN.out
            rw [HRR.out, hR1, decide_eq_true (p := 1 ≤ cs.length) (by omega), decide_eq_true (p := cs.length ≤ 16) (by omega)]
            rfl)
          obtain ⟨RL, hRL⟩ : ∃ R, okL cs [] ls = R := ⟨_, rfl⟩
          have HRL : Hid (okL cs (usedL (ls.take 0)) (ls.drop 0) = RL) := Lib.hid hRL
          have HOK : Hid (maySet cs ls = RL) := Lib.hid (HOK0.out.trans hRL)
          clear hRL hR1 hlt
          obtain ⟨M, hM⟩ : ∃ M, wr.heap.size = M := ⟨_, rfl⟩
          obtain ⟨W5, hW5⟩ : ∃ W5, wr.alloc (.map #[] 0) = W5 := ⟨_, rfl⟩
          have hb5 : Below wr.heap.size wr W5 := by rw [← hW5]; exact (Below.refl _ _).alloc (Nat.le_refl _) _
          have HUL : Hid (UsedL w M (.slice A1 cs.length k1) (.slice A2 ls.length k2) ls 0 W5) := Lib.hid ⟨⟨0, _, by rw [← hW5, ← hM]; exact MapIs.new _, fun e => rfl, fun e v h => by cases h⟩, HXR.out.here hb5, HBW.out.trans (hb5.mono HBW.out.size)⟩
          have HMw : Hid (w.heap.size < M) := Lib.hid (by rw [← hM]; exact bl)
          have HW5 := Lib.hid hW5
          have hin := fun w => run_makeMap (P := Tryz.prog) 157 w
          clear hb5 hW5
          go_upto_region 14 with fail
          rw [HW5.out]
          clear hin hM b0 b1 bl
          have b0 : W5.cell? ⟨w.heap.size, 0, none⟩ = some (.slice A1 cs.length k1) := HUL.out.box.cell 0
          have b1 : W5.cell? ⟨w.heap.size, 1, none⟩ = some (.slice A2 ls.length k2) := HUL.out.box.cell 1
          have bl : w.heap.size < W5.heap.size := HUL.out.box.lt
          go_wp2
          go_loopw [6, 7, 8, 9] (fun ix _ _ _ wz => ∃ i : Nat, i ≤ ls.length ∧ ix = .int .i64 i ∧ Hid (okL cs (usedL (ls.take i)) (ls.drop i) = RL) ∧ Hid (UsedL w M (.slice A1 cs.length k1) (.slice A2 ls.length k2) ls i wz)) (fun ix _ _ _ _ => ls.length - (intOf ix).toNat)
          case atStart => exact ⟨0, Nat.zero_le _, rfl, HRL, HUL⟩
          case round =>
            obtain ⟨i, hi, rfl, HKL, HUi⟩ := hrel
            clear b0 b1 bl
            have b0 : wr.cell? ⟨w.heap.size, 0, none⟩ = some (.slice A1 cs.length k1) := HUi.out.box.cell 0
            have b1 : wr.cell? ⟨w.heap.size, 1, none⟩ = some (.slice A2 ls.length k2) := HUi.out.box.cell 1
            have bl : w.heap.size < wr.heap.size := HUi.out.box.lt
            by_cases hlt : i < ls.length
            · obtain ⟨l, hli⟩ : ∃ l, ls[i]? = some l := ⟨_, List.getElem?_eq_getElem hlt⟩
              have hst := okL_step (cs := cs) hli
              rw [HKL.out] at hst
              obtain ⟨n1, p1, n2, p2⟩ := l
              obtain ⟨g, off, rfl, hg, c0, c1, c2, c3⟩ := (HL.out.here HUi.out.below).at hli
              have HIL := Lib.hid (HI0.out _ (List.mem_of_getElem? hli))
              have HST := Lib.hid hst
              have HLI := Lib.hid hli
              simp only at c0 c1 c2 c3
              obtain ⟨W1, hW1⟩ : ∃ W1, wr.alloc (.cells #[.int .i64 n1, .int .i64 p1, .int .i64 n2, .int .i64 p2] 63) = W1 := ⟨_, rfl⟩
              have HB1 : Hid (Below wr.heap.size wr W1) := Lib.hid (by rw [← hW1]; exact (Below.refl _ _).alloc (Nat.le_refl _) _)
              have HX1 : Hid (Whole W1 wr.heap.size 63 #[.int .i64 n1, .int .i64 p1, .int .i64 n2, .int .i64 p2]) := Lib.hid (by rw [← hW1]; exact Whole.new wr _ _)
              have HWs : Hid (M < wr.heap.size) := Lib.hid (by obtain ⟨_, _, h, _⟩ := HUi.out.used; exact h.lt)
              have HW1 := Lib.hid hW1
              clear hst hli hW1
              go_upto_region 18 with fail
              rw [HW1.out]
              have x0 : W1.cell? ⟨wr.heap.size, 0, none⟩ = some (.int .i64 n1) := HX1.out.cell 0
              have x1 : W1.cell? ⟨wr.heap.size, 1, none⟩ = some (.int .i64 p1) := HX1.out.cell 1
              have x2 : W1.cell? ⟨wr.heap.size, 2, none⟩ = some (.int .i64 n2) := HX1.out.cell 2
              have x3 : W1.cell? ⟨wr.heap.size, 3, none⟩ = some (.int .i64 p2) := HX1.out.cell 3
              have xl : wr.heap.size < W1.heap.size := HX1.out.lt
              clear c0 c1 c2 c3 hg b0 b1 bl
              refine (fun (TAIL : (?T : Prop)) => ?reg) ?tail
              case reg =>
                go_region
                · have hf := Lib.hid (TwoEnds.ab 158 W1 n1 p1 n2 p2)
                  generalize ((W1.alloc (.cells #[.int .i64 n1, .int .i64 p1] 158)).alloc (.cells #[.int .i64 n2, .int .i64 p2] 158)).drew = W2 at hf ⊢
                  generalize W1.heap.size + 1 = gb at hf ⊢
                  generalize W1.heap.size = ga at hf ⊢
                  revert ga gb W2
                  exact TAIL
                · have hf := Lib.hid (TwoEnds.ba 158 W1 n1 p1 n2 p2)
                  generalize ((W1.alloc (.cells #[.int .i64 n2, .int .i64 p2] 158)).alloc (.cells #[.int .i64 n1, .int .i64 p1] 158)).drew = W2 at hf ⊢
                  generalize W1.heap.size = gb at hf ⊢
                  generalize gb + 1 = ga at hf ⊢
                  revert ga gb W2
                  exact TAIL
              case tail =>
                intro W2 gb ga HTE
                obtain ⟨hxa, hxb, hga, hgb, hb2⟩ := HTE.out
                have HB2 : Hid (Below wr.heap.size wr W2) := Lib.hid (HB1.out.trans (hb2.mono HB1.out.size))
                have HXL := Lib.hid (HX1.out.here hb2)
                clear hb2 x0 x1 x2 x3 xl
                have HXA := Lib.hid hxa
                have HXB := Lib.hid hxb
                have HGA : Hid (M < ga ∧ M < gb) := Lib.hid (by have := HWs.out; have := HB1.out.size; omega)
                obtain ⟨np, fp, hpe, hfp, hfv⟩ := HUi.out.used
                have HPE := Lib.hid (hpe.here HB2.out)
                have HFP := Lib.hid hfp
                have HFV := Lib.hid hfv
                have HBX2 := Lib.hid (HUi.out.box.here HB2.out)
                have HBW2 := Lib.hid (HUi.out.below.trans (HB2.out.mono HUi.out.below.size))
                clear hpe hfp hfv hxa hxb hga hgb
                have HPA := Lib.hid (fun W (hb : Below w.heap.size w W) => rport_any (.slice A1 cs.length k1) (.slice (some ⟨g, off, none⟩) ls.length k2) cs n1 p1 W (HC.out.here hb) ⟨_, _, _, rfl⟩ (by omega))
                have HPB := Lib.hid (fun W (hb : Below w.heap.size w W) => rport_any (.slice A1 cs.length k1) (.slice (some ⟨g, off, none⟩) ls.length k2) cs n2 p2 W (HC.out.here hb) ⟨_, _, _, rfl⟩ (by omega))
                try clear x0 x1 x2 x3 xl b0 b1 bl
                have x0 : W2.cell? ⟨wr.heap.size, 0, none⟩ = some (.int .i64 n1) := HXL.out.cell 0
                have x1 : W2.cell? ⟨wr.heap.size, 1, none⟩ = some (.int .i64 p1) := HXL.out.cell 1
                have x2 : W2.cell? ⟨wr.heap.size, 2, none⟩ = some (.int .i64 n2) := HXL.out.cell 2
                have x3 : W2.cell? ⟨wr.heap.size, 3, none⟩ = some (.int .i64 p2) := HXL.out.cell 3
                have xl : wr.heap.size < W2.heap.size := HXL.out.lt
                have b0 : W2.cell? ⟨w.heap.size, 0, none⟩ = some (.slice A1 cs.length k1) := HBX2.out.cell 0
                have b1 : W2.cell? ⟨w.heap.size, 1, none⟩ = some (.slice (some ⟨g, off, none⟩) ls.length k2) := HBX2.out.cell 1
                have bl : w.heap.size < W2.heap.size := HBX2.out.lt
                by_cases hnn : n1 = n2
                · have hn1 : (n1 == n2) = true := by simpa using hnn
                  have HF : Hid (maySet cs ls = false) := Lib.hid (by rw [HOK.out, HST.out]; unfold linkOk; simp only; rw [hn1]; rfl)
                  clear hnn
                  go_wp2
                  go_ret
                  exact ⟨by rw [HF.out]; rfl, HBW2.out⟩
                · have hn1 : (n1 == n2) = false := by simpa using hnn
                  have hab : (n2, p2) ≠ (n1, p1) := fun e => hnn (by injection e with e1 e2; exact e1.symm)
                  have HAB := Lib.hid hab
                  clear hnn hab
                  have HP3 := Lib.hid (HPA.out _ HBW2.out)
                  cases hpa : hasPort cs n1 p1 with
                  | false =>
                    have HF : Hid (maySet cs ls = false) := Lib.hid (by rw [HOK.out, HST.out, linkOk_a hpa]; rfl)
                    rw [hpa] at HP3
                    clear hpa
                    go_wp2_with fail
                    refine HP3.out.mono ?_
                    rintro e w3 ⟨rfl, hb⟩
                    have HBW3 := Lib.hid (HBW2.out.trans (hb.mono HBW2.out.size))
                    go_wp2
                    go_ret
                    exact ⟨by rw [HF.out]; rfl, HBW3.out⟩
                  | true =>
                    have HPa := Lib.hid hpa
                    rw [hpa] at HP3
                    clear hpa
                    go_wp2_with fail
                    refine HP3.out.mono ?_
                    rintro e w3 ⟨rfl, hb⟩
                    have HBW3 := Lib.hid (HBW2.out.trans (hb.mono HBW2.out.size))
                    have HXL3 := Lib.hid (HXL.out.here hb)
                    have HBX3 := Lib.hid (HBX2.out.here hb)
                    have HXA3 := Lib.hid (HXA.out.here hb)
                    have HXB3 := Lib.hid (HXB.out.here hb)
                    have HPE3 := Lib.hid (HPE.out.here hb)
                    have HBR3 := Lib.hid (HB2.out.trans (hb.mono HB2.out.size))
                    clear hb
                    try clear x0 x1 x2 x3 xl b0 b1 bl
                    have x0 : w3.cell? ⟨wr.heap.size, 0, none⟩ = some (.int .i64 n1) := HXL3.out.cell 0
                    have x1 : w3.cell? ⟨wr.heap.size, 1, none⟩ = some (.int .i64 p1) := HXL3.out.cell 1
                    have x2 : w3.cell? ⟨wr.heap.size, 2, none⟩ = some (.int .i64 n2) := HXL3.out.cell 2
                    have x3 : w3.cell? ⟨wr.heap.size, 3, none⟩ = some (.int .i64 p2) := HXL3.out.cell 3
                    have xl : wr.heap.size < w3.heap.size := HXL3.out.lt
                    have b0 : w3.cell? ⟨w.heap.size, 0, none⟩ = some (.slice A1 cs.length k1) := HBX3.out.cell 0
                    have b1 : w3.cell? ⟨w.heap.size, 1, none⟩ = some (.slice (some ⟨g, off, none⟩) ls.length k2) := HBX3.out.cell 1
                    have bl : w.heap.size < w3.heap.size := HBX3.out.lt
                    have HP4 := Lib.hid (HPB.out _ HBW3.out)
                    cases hpb : hasPort cs n2 p2 with
                    | false =>
                      have HF : Hid (maySet cs ls = false) := Lib.hid (by rw [HOK.out, HST.out, linkOk_b hpb]; rfl)
                      rw [hpb] at HP4
                      clear hpb
                      go_wp2_with fail
                      refine HP4.out.mono ?_
                      rintro e w4 ⟨rfl, hb⟩
                      have HBW4 := Lib.hid (HBW3.out.trans (hb.mono HBW3.out.size))
                      go_wp2
                      go_ret
                      exact ⟨by rw [HF.out]; rfl, HBW4.out⟩
                    | true =>
                      have HPb := Lib.hid hpb
                      rw [hpb] at HP4
                      clear hpb
                      go_wp2_with fail
                      refine HP4.out.mono ?_
                      rintro e w4 ⟨rfl, hb⟩
                      have HBW4 := Lib.hid (HBW3.out.trans (hb.mono HBW3.out.size))
                      have HXL4 := Lib.hid (HXL3.out.here hb)
                      have HBX4 := Lib.hid (HBX3.out.here hb)
                      have HXA4 := Lib.hid (HXA3.out.here hb)
                      have HXB4 := Lib.hid (HXB3.out.here hb)
                      have HPE4 := Lib.hid (HPE3.out.here hb)
                      have HBR4 := Lib.hid (HBR3.out.trans (hb.mono HBR3.out.size))
                      clear hb
                      try clear x0 x1 x2 x3 xl b0 b1 bl
                      have x0 : w4.cell? ⟨wr.heap.size, 0, none⟩ = some (.int .i64 n1) := HXL4.out.cell 0
                      have x1 : w4.cell? ⟨wr.heap.size, 1, none⟩ = some (.int .i64 p1) := HXL4.out.cell 1
                      have x2 : w4.cell? ⟨wr.heap.size, 2, none⟩ = some (.int .i64 n2) := HXL4.out.cell 2
                      have x3 : w4.cell? ⟨wr.heap.size, 3, none⟩ = some (.int .i64 p2) := HXL4.out.cell 3
                      have xl : wr.heap.size < w4.heap.size := HXL4.out.lt
                      have b0 : w4.cell? ⟨w.heap.size, 0, none⟩ = some (.slice A1 cs.length k1) := HBX4.out.cell 0
                      have b1 : w4.cell? ⟨w.heap.size, 1, none⟩ = some (.slice (some ⟨g, off, none⟩) ls.length k2) := HBX4.out.cell 1
                      have bl : w.heap.size < w4.heap.size := HBX4.out.lt
                      have a0 : w4.cell? ⟨ga, 0, none⟩ = some (.int .i64 n1) := HXA4.out.cell 0
                      have a1 : w4.cell? ⟨ga, 1, none⟩ = some (.int .i64 p1) := HXA4.out.cell 1
                      have al : ga < w4.heap.size := HXA4.out.lt
                      have b0' : w4.cell? ⟨gb, 0, none⟩ = some (.int .i64 n2) := HXB4.out.cell 0
                      have b1' : w4.cell? ⟨gb, 1, none⟩ = some (.int .i64 p2) := HXB4.out.cell 1
                      have bl' : gb < w4.heap.size := HXB4.out.lt
                      obtain ⟨ka, hka⟩ := key_arr HIL.out.1 HIL.out.2.1
                      obtain ⟨kb, hkb⟩ := key_arr HIL.out.2.2.1 HIL.out.2.2.2
                      have HKA := Lib.hid hka
                      have HKB := Lib.hid hkb
                      have hla := HPE4.out.look kArr Tryz.underlying157 end_inj (n1, p1) hka (zero_is _) false
                      have hlb := HPE4.out.look kArr Tryz.underlying157 end_inj (n2, p2) hkb (zero_is _) false
                      simp only [Bool.false_eq_true, if_false] at hla hlb
                      have hfld := fun x => field_is x w4
                      clear hka hkb x0 x1 x2 x3 xl b0 b1 bl
                      have hsa := HFP.out (n1, p1)
                      cases hua : (usedL (ls.take i)).contains (n1, p1) with
                      | true =>
                        rw [hua] at hsa
                        obtain ⟨v, hv⟩ : ∃ v, fp (n1, p1) = some v := Option.isSome_iff_exists.1 hsa
                        obtain rfl := HFV.out _ _ hv
                        rw [hv] at hla
                        simp only [Option.getD_some] at hla
                        have HF : Hid (maySet cs ls = false) := Lib.hid (by rw [HOK.out, HST.out]; unfold linkOk; rw [hua]; simp)
                        clear hsa hv hua
                        go_wp2
                        go_ret
                        exact ⟨by rw [HF.out]; rfl, HBW4.out⟩
                      | false =>
                        rw [hua] at hsa
                        have hva : fp (n1, p1) = none := by
                          cases hv : fp (n1, p1) with
                          | none => rfl
                          | some _ => rw [hv] at hsa; cases hsa
                        rw [hva] at hla
                        simp only [Option.getD_none] at hla
                        have HVa := Lib.hid hva
                        have HUa := Lib.hid hua
                        clear hsa hva hua
                        have hsb := HFP.out (n2, p2)
                        cases hub : (usedL (ls.take i)).contains (n2, p2) with
                        | true =>
                          rw [hub] at hsb
                          obtain ⟨v, hv⟩ : ∃ v, fp (n2, p2) = some v := Option.isSome_iff_exists.1 hsb
                          obtain rfl := HFV.out _ _ hv
                          rw [hv] at hlb
                          simp only [Option.getD_some] at hlb
                          have HF : Hid (maySet cs ls = false) := Lib.hid (by rw [HOK.out, HST.out]; unfold linkOk; rw [hub]; simp)
                          clear hsb hv hub
                          go_wp2
                          go_ret
                          exact ⟨by rw [HF.out]; rfl, HBW4.out⟩
                        | false =>
                          rw [hub] at hsb
                          have hvb : fp (n2, p2) = none := by
                            cases hv : fp (n2, p2) with
                            | none => rfl
                            | some _ => rw [hv] at hsb; cases hsb
                          rw [hvb] at hlb
                          simp only [Option.getD_none] at hlb
                          have HVb := Lib.hid hvb
                          have HUb := Lib.hid hub
                          clear hsb hvb hub
                          have HR2 : Hid (okL cs (usedL (ls.take (i + 1))) (ls.drop (i + 1)) = RL) := Lib.hid (by
                            rw [HST.out]
                            unfold linkOk
                            simp only
                            rw [hn1, HPa.out, HPb.out, HUa.out, HUb.out]
                            rfl)
                          go_upto_region 21 with fail
                          clear hla hlb hfld
                          have hpe' : MapIs Tryz.prog 158 eE w4.drew M np fp := HPE4.out
                          obtain ⟨V1, hp1, hm1, hg1⟩ := hpe'.put kArr Tryz.underlying157 end_inj (n1, p1) HKA.out (.agg #[.bool true]) HVa.out
                          have hs1 : (fun x => if x = (n1, p1) then some (Value.agg #[.bool true]) else fp x) (n2, p2) = none := by simp only [if_neg HAB.out]; exact HVb.out
                          obtain ⟨V2, hp2, hm2, hg2⟩ := hm1.put kArr Tryz.underlying157 end_inj (n2, p2) HKB.out (.agg #[.bool true]) hs1
                          have hgg := HGA.out
                          have hA1 := HXA4.out.drew.kept hg1 (fun e => by injection e with e; omega)
                          have hC1 := HXB4.out.drew.kept hg1 (fun e => by injection e with e; omega)
                          have a0x : V1.cell? ⟨ga, 0, none⟩ = some (.int .i64 n1) := hA1.cell 0
                          have a0y : V1.cell? ⟨ga, 1, none⟩ = some (.int .i64 p1) := hA1.cell 1
                          have a0l : ga < V1.heap.size := hA1.lt
                          have b0x : V1.cell? ⟨gb, 0, none⟩ = some (.int .i64 n2) := hC1.cell 0
                          have b0y : V1.cell? ⟨gb, 1, none⟩ = some (.int .i64 p2) := hC1.cell 1
                          have b0l : gb < V1.heap.size := hC1.lt
                          have HUN : Hid (UsedL w M (.slice A1 cs.length k1) (.slice (some ⟨g, off, none⟩) ls.length k2) ls (i + 1) V2) := Lib.hid (by
                            have hMw := HMw.out
                            have hbo := HBX4.out.drew
                            have hbb := HBW4.out.drew
                            have r1 := hbo.kept hg1 (fun e => by injection e with e; omega)
                            have r2 := r1.kept hg2 (fun e => by injection e with e; omega)
                            have t1 := hbb.grown hg1 hbb.size (fun g e => by injection e with e; omega)
                            have t2 := t1.grown hg2 t1.size (fun g e => by injection e with e; omega)
                            refine ⟨⟨_, _, hm2, ?_, ?_⟩, r2, t2⟩
                            · rw [usedL_step HLI.out]; exact used_put HFP.out
                            · intro e v hv
                              split at hv
                              · injection hv with hv; exact hv.symm
                              · split at hv
                                · injection hv with hv; exact hv.symm
                                · exact HFV.out _ _ hv)
                          clear hm1 hm2 hg1 hg2 hA1 hC1 hs1 hgg hpe'
                          go_region
                          go_wp2
                          go_roundw
                          case rel => exact ⟨i + 1, by omega, by go_num, HR2, HUN⟩
                          case measure => simp [intOf]; omega
            · obtain rfl : i = ls.length := by omega
              have HF : Hid (maySet cs ls = true) := Lib.hid (by
                rw [HOK.out]
                have := HKL.out
                rw [List.drop_length] at this
                exact this.symm)
              go_wp2
              go_ret
              exact ⟨by rw [HF.out]; rfl, HUi.out.below⟩
end Go.Proofs.YtfbangojgjcbcaaGreatDoor
namespace Go.Proofs.YtfbangojgjcbcaaGreatDoor
open Go.RowKit Pl
set_option maxRecDepth 100000 in
set_option maxHeartbeats 8000000 in
theorem rsame25_any (cv lv av cv' lv' av' : Value) (cs cs' : List Cfg) (ls ls' : List Lk) (zs zs' : List ActP) (w : World) (h : ScrIs w cv lv av cs ls zs) (h' : ScrIs w cv' lv' av' cs' ls' zs') (k : ScrOk cs ls zs) (k' : ScrOk cs' ls' zs') :
    Calls Tryz.prog 48 #[.agg #[cv, lv, av], .agg #[cv', lv', av']] w fun e w' => e = .returned (.bool (sameS cs cs' ls ls' zs zs')) ∧ Below w.heap.size w w' := by
  have HS := Lib.hid h
  have HS' := Lib.hid h'
  have HK := Lib.hid k
  have HK' := Lib.hid k'
  obtain ⟨A1, k1, rfl, -⟩ := h.confs
  obtain ⟨A2, k2, rfl, -⟩ := h.links
  obtain ⟨A3, k3, rfl, -⟩ := h.acts
  obtain ⟨B1, l1, rfl, -⟩ := h'.confs
  obtain ⟨B2, l2, rfl, -⟩ := h'.links
  obtain ⟨B3, l3, rfl, -⟩ := h'.acts
  have hnc := k.nc
  have hnl := k.nl
  have hna := k.na
  clear h h' k k'
  obtain ⟨W0, hW0⟩ : ∃ X, (w.alloc (.cells #[.slice A1 cs.length k1, .slice A2 ls.length k2, .slice A3 zs.length k3] 76)).alloc (.cells #[.slice B1 cs'.length l1, .slice B2 ls'.length l2, .slice B3 zs'.length l3] 76) = X := ⟨_, rfl⟩
  have hb0 : Below w.heap.size w W0 := by rw [← hW0]; exact ((Below.refl _ _).alloc (Nat.le_refl _) _).alloc (by simp) _
  have HB0 := Lib.hid hb0
  have HX0 : Hid (Whole W0 w.heap.size 76 #[.slice A1 cs.length k1, .slice A2 ls.length k2, .slice A3 zs.length k3]) := Lib.hid (by rw [← hW0]; exact (Whole.new w _ _).alloc _)
  have HY0 : Hid (Whole W0 (w.heap.size + 1) 76 #[.slice B1 cs'.length l1, .slice B2 ls'.length l2, .slice B3 zs'.length l3]) := Lib.hid (by
    rw [← hW0]
    have := Whole.new (w.alloc (.cells #[.slice A1 cs.length k1, .slice A2 ls.length k2, .slice A3 zs.length k3] 76)) 76 #[.slice B1 cs'.length l1, .slice B2 ls'.length l2, .slice B3 zs'.length l3]
    rw [World.size_alloc] at this
    exact this)
  have HW0 := Lib.hid hW0
  clear hW0 hb0
  have HOUT : Hid (∀ b, sameS cs cs' ls ls' zs zs' = b → Ending.returned (.bool b) = .returned (.bool (sameS cs cs' ls ls' zs zs'))) := Lib.hid (fun b e => by rw [e])

  have HXx := Lib.hid (HX0.out.here (Below.refl _ _))
  have HYx := Lib.hid (HY0.out.here (Below.refl _ _))
  have x0 : W0.cell? ⟨w.heap.size, 0, none⟩ = some (.slice A1 cs.length k1) := HXx.out.cell 0
  have xq0 : W0.cell? ⟨w.heap.size + 1, 0, none⟩ = some (.slice B1 cs'.length l1) := HYx.out.cell 0
  have x1 : W0.cell? ⟨w.heap.size, 1, none⟩ = some (.slice A2 ls.length k2) := HXx.out.cell 1
  have xq1 : W0.cell? ⟨w.heap.size + 1, 1, none⟩ = some (.slice B2 ls'.length l2) := HYx.out.cell 1
  have x2 : W0.cell? ⟨w.heap.size, 2, none⟩ = some (.slice A3 zs.length k3) := HXx.out.cell 2
  have xq2 : W0.cell? ⟨w.heap.size + 1, 2, none⟩ = some (.slice B3 zs'.length l3) := HYx.out.cell 2
  have xl : w.heap.size < W0.heap.size := HXx.out.lt
  have xm : w.heap.size + 1 < W0.heap.size := HYx.out.lt
  by_cases n0 : cs.length = cs'.length
  · have d0 : ((cs.length : Int) != (cs'.length : Int)) = false := by simp [n0]
    have HN0 := Lib.hid n0
    clear n0
    by_cases n1 : ls.length = ls'.length
    · have d1 : ((ls.length : Int) != (ls'.length : Int)) = false := by simp [n1]
      have HN1 := Lib.hid n1
      clear n1
      by_cases n2 : zs.length = zs'.length
      · have d2 : ((zs.length : Int) != (zs'.length : Int)) = false := by simp [n2]
        have HN2 := Lib.hid n2
        clear n2
        go_enter Tryz.func48, Tryz.ntmps48
        go_upto_region 1 with fail
        rw [HW0.out]
        go_wp2
        go_loopw [5] (fun i wr => ∃ j : Nat, j ≤ cs.length ∧ i = .int .i64 j ∧ Hid (cs.take j = cs'.take j) ∧ Hid (Below W0.heap.size W0 wr)) (fun i _ => cs.length - (intOf i).toNat)
        case atStart => exact ⟨0, Nat.zero_le _, rfl, Lib.hid rfl, Lib.hid (Below.refl _ _)⟩
        case round =>
          obtain ⟨j, hj, rfl, HT, HB⟩ := hrel
          try clear x0 xq0 x1 xq1 x2 xq2 xl xm
          have HXx := Lib.hid (HX0.out.here (HB.out))
          have HYx := Lib.hid (HY0.out.here (HB.out))
          have x0 : wr.cell? ⟨w.heap.size, 0, none⟩ = some (.slice A1 cs.length k1) := HXx.out.cell 0
          have xq0 : wr.cell? ⟨w.heap.size + 1, 0, none⟩ = some (.slice B1 cs'.length l1) := HYx.out.cell 0
          have x1 : wr.cell? ⟨w.heap.size, 1, none⟩ = some (.slice A2 ls.length k2) := HXx.out.cell 1
          have xq1 : wr.cell? ⟨w.heap.size + 1, 1, none⟩ = some (.slice B2 ls'.length l2) := HYx.out.cell 1
          have x2 : wr.cell? ⟨w.heap.size, 2, none⟩ = some (.slice A3 zs.length k3) := HXx.out.cell 2
          have xq2 : wr.cell? ⟨w.heap.size + 1, 2, none⟩ = some (.slice B3 zs'.length l3) := HYx.out.cell 2
          have xl : w.heap.size < wr.heap.size := HXx.out.lt
          have xm : w.heap.size + 1 < wr.heap.size := HYx.out.lt
          by_cases hlt : j < cs.length
          · have hlt' : j < cs'.length := by have := HN0.out; omega
            obtain ⟨x, hu⟩ : ∃ u, cs[j]? = some u := ⟨_, List.getElem?_eq_getElem hlt⟩
            obtain ⟨y, hv⟩ : ∃ u, cs'[j]? = some u := ⟨_, List.getElem?_eq_getElem hlt'⟩
            have HBW := Lib.hid (HB0.out.trans (HB.out.mono HB0.out.size))
            obtain ⟨b1, o1, rfl, hb1, hq1⟩ := (HS.out.here HBW.out).confs.at hu
            obtain ⟨b2, o2, rfl, hb2, hq2⟩ := (HS'.out.here HBW.out).confs.at hv
            obtain ⟨A4, k4, A5, k5, hcx, p0, p1, p2, p3, p4, p5, p6, p7, p8, p9, p10⟩ := hq1.cfg
            obtain ⟨B4, l4, B5, l5, hcy, q0, q1, q2, q3, q4, q5, q6, q7, q8, q9, q10⟩ := hq2.cfg
            have hkx := HK.out.confs x (List.mem_of_getElem? hu)
            have hky := HK'.out.confs y (List.mem_of_getElem? hv)
            have HCL : Hid (∀ z : Ext wr, Calls Tryz.prog 16 #[.agg #[.int .i64 x.node, .int .u32 x.addr, .slice A4 x.own.length k4, .slice A5 x.ports.length k5, .int .i64 x.hello, .int .i64 x.dead, .int .i64 x.again, .int .i64 x.room, .int .i64 x.queue, .int .i64 x.tokens, .int .i64 x.refill], .agg #[.int .i64 y.node, .int .u32 y.addr, .slice B4 y.own.length l4, .slice B5 y.ports.length l5, .int .i64 y.hello, .int .i64 y.dead, .int .i64 y.again, .int .i64 y.room, .int .i64 y.queue, .int .i64 y.tokens, .int .i64 y.refill]] z.w fun e w' => e = .returned (.bool (sameC x y)) ∧ Below z.w.heap.size z.w w') := Lib.hid (fun z => rsame_any _ _ x y z.w (hcx.below z.below) (hcy.below z.below) hkx.1 hkx.2.1 hky.1 hky.2.1)
            clear hkx hky hcx hcy hq1 hq2
            have HU := Lib.hid hu
            have HV := Lib.hid hv
            clear hu hv
            by_cases hxy : x = y
            · have HT2 : Hid (cs.take (j + 1) = cs'.take (j + 1)) := Lib.hid (takeG_next HU.out (by rw [hxy]; exact HV.out) HT.out)
              rw [show sameC x y = true by rw [hxy]; exact sameC_self y] at HCL
              clear hxy
              go_wp2
              refine wp_region_ext (by kernel_rfl) (by kernel_rfl) ?_
              repeat (go_big_quiet_step (first | (go_at_call 16; exact Ext.call (HCL.out _))))
              refine wpQuiet_nil ?_
              rintro _ ⟨z, rfl⟩
              go_wp2
              go_roundw
              case rel => exact ⟨j + 1, by omega, by go_num, HT2, Lib.hid (HB.out.trans (z.below.mono HB.out.size))⟩
              case measure => simp [intOf]; omega
            · have HF := Lib.hid (takeG_ne HU.out HV.out hxy)
              have hne : sameC x y = false := by
                cases hs : sameC x y with
                | true => exact absurd (sameC_eq hs) hxy
                | false => rfl
              rw [hne] at HCL
              clear hxy hne
              go_wp2
              refine wp_region_ext (by kernel_rfl) (by kernel_rfl) ?_
              repeat (go_big_quiet_step (first | (go_at_call 16; exact Ext.call (HCL.out _))))
              refine wpQuiet_nil ?_
              rintro _ ⟨z, rfl⟩
              go_wp2
              go_ret
              exact ⟨HOUT.out _ (by unfold sameS; simp [HF.out]), HBW.out.trans (z.below.mono HBW.out.size)⟩
          · obtain rfl : j = cs.length := by omega
            have HE0 := Lib.hid (takeG_all HN0.out HT.out)
            have HBW := Lib.hid (HB0.out.trans (HB.out.mono HB0.out.size))
            have HBK := HB
            clear hlt
            go_wp2
            go_loopw [6] (fun i wz => ∃ j : Nat, j ≤ ls.length ∧ i = .int .i64 j ∧ Hid (ls.take j = ls'.take j) ∧ Hid (Below W0.heap.size W0 wz)) (fun i _ => ls.length - (intOf i).toNat)
            case atStart => exact ⟨0, Nat.zero_le _, rfl, Lib.hid rfl, HBK⟩
            case round =>
              obtain ⟨j, hj, rfl, HT, HB⟩ := hrel
              try clear x0 xq0 x1 xq1 x2 xq2 xl xm
              have HXx := Lib.hid (HX0.out.here (HB.out))
              have HYx := Lib.hid (HY0.out.here (HB.out))
              have x0 : wr.cell? ⟨w.heap.size, 0, none⟩ = some (.slice A1 cs.length k1) := HXx.out.cell 0
              have xq0 : wr.cell? ⟨w.heap.size + 1, 0, none⟩ = some (.slice B1 cs'.length l1) := HYx.out.cell 0
              have x1 : wr.cell? ⟨w.heap.size, 1, none⟩ = some (.slice A2 ls.length k2) := HXx.out.cell 1
              have xq1 : wr.cell? ⟨w.heap.size + 1, 1, none⟩ = some (.slice B2 ls'.length l2) := HYx.out.cell 1
              have x2 : wr.cell? ⟨w.heap.size, 2, none⟩ = some (.slice A3 zs.length k3) := HXx.out.cell 2
              have xq2 : wr.cell? ⟨w.heap.size + 1, 2, none⟩ = some (.slice B3 zs'.length l3) := HYx.out.cell 2
              have xl : w.heap.size < wr.heap.size := HXx.out.lt
              have xm : w.heap.size + 1 < wr.heap.size := HYx.out.lt
              by_cases hlt : j < ls.length
              · have hlt' : j < ls'.length := by have := HN1.out; omega
                obtain ⟨⟨u1, u2, u3, u4⟩, hu⟩ : ∃ u, ls[j]? = some u := ⟨_, List.getElem?_eq_getElem hlt⟩
                obtain ⟨⟨v1, v2, v3, v4⟩, hv⟩ : ∃ u, ls'[j]? = some u := ⟨_, List.getElem?_eq_getElem hlt'⟩
                have HBW := Lib.hid (HB0.out.trans (HB.out.mono HB0.out.size))
                obtain ⟨b1, o1, rfl, hb1, p0, p1, p2, p3⟩ := (HS.out.here HBW.out).links.at hu
                obtain ⟨b2, o2, rfl, hb2, q0, q1, q2, q3⟩ := (HS'.out.here HBW.out).links.at hv
                simp only at p0 p1 p2 p3 q0 q1 q2 q3
                have HU := Lib.hid hu
                have HV := Lib.hid hv
                clear hu hv
                by_cases e0 : u1 = v1
                · subst e0
                  by_cases e1 : u2 = v2
                  · subst e1
                    by_cases e2 : u3 = v3
                    · subst e2
                      by_cases e3 : u4 = v4
                      · subst e3
                        have HT2 := Lib.hid (takeG_next HU.out HV.out HT.out)
                        go_wp2
                        go_region
                        go_wp2
                        go_roundw
                        case rel => exact ⟨j + 1, by omega, by go_num, HT2, Lib.hid HB.out.drew⟩
                        case measure => simp [intOf]; omega
                      · have HF := Lib.hid (takeG_ne HU.out HV.out (fun e => e3 (by injections)))
                        have dd : (u4 == v4) = false := by simpa using e3
                        clear e3
                        go_wp2
                        go_region
                        go_wp2
                        go_ret
                        exact ⟨HOUT.out _ (by unfold sameS; simp [HF.out]), HBW.out.drew⟩
                    · have HF := Lib.hid (takeG_ne HU.out HV.out (fun e => e2 (by injections)))
                      have dd : (u3 == v3) = false := by simpa using e2
                      clear e2
                      go_wp2
                      go_region
                      go_wp2
                      go_ret
                      exact ⟨HOUT.out _ (by unfold sameS; simp [HF.out]), HBW.out.drew⟩
                  · have HF := Lib.hid (takeG_ne HU.out HV.out (fun e => e1 (by injections)))
                    have dd : (u2 == v2) = false := by simpa using e1
                    clear e1
                    go_wp2
                    go_region
                    go_wp2
                    go_ret
                    exact ⟨HOUT.out _ (by unfold sameS; simp [HF.out]), HBW.out.drew⟩
                · have HF := Lib.hid (takeG_ne HU.out HV.out (fun e => e0 (by injections)))
                  have dd : (u1 == v1) = false := by simpa using e0
                  clear e0
                  go_wp2
                  go_region
                  go_wp2
                  go_ret
                  exact ⟨HOUT.out _ (by unfold sameS; simp [HF.out]), HBW.out.drew⟩
              · obtain rfl : j = ls.length := by omega
                have HE1 := Lib.hid (takeG_all HN1.out HT.out)
                have HBW := Lib.hid (HB0.out.trans (HB.out.mono HB0.out.size))
                have HBK := HB
                clear hlt
                go_wp2
                go_loopw [7] (fun i wz => ∃ j : Nat, j ≤ zs.length ∧ i = .int .i64 j ∧ Hid (zs.take j = zs'.take j) ∧ Hid (Below W0.heap.size W0 wz)) (fun i _ => zs.length - (intOf i).toNat)
                case atStart => exact ⟨0, Nat.zero_le _, rfl, Lib.hid rfl, HBK⟩
                case round =>
                  obtain ⟨j, hj, rfl, HT, HB⟩ := hrel
                  try clear x0 xq0 x1 xq1 x2 xq2 xl xm
                  have HXx := Lib.hid (HX0.out.here (HB.out))
                  have HYx := Lib.hid (HY0.out.here (HB.out))
                  have x0 : wr.cell? ⟨w.heap.size, 0, none⟩ = some (.slice A1 cs.length k1) := HXx.out.cell 0
                  have xq0 : wr.cell? ⟨w.heap.size + 1, 0, none⟩ = some (.slice B1 cs'.length l1) := HYx.out.cell 0
                  have x1 : wr.cell? ⟨w.heap.size, 1, none⟩ = some (.slice A2 ls.length k2) := HXx.out.cell 1
                  have xq1 : wr.cell? ⟨w.heap.size + 1, 1, none⟩ = some (.slice B2 ls'.length l2) := HYx.out.cell 1
                  have x2 : wr.cell? ⟨w.heap.size, 2, none⟩ = some (.slice A3 zs.length k3) := HXx.out.cell 2
                  have xq2 : wr.cell? ⟨w.heap.size + 1, 2, none⟩ = some (.slice B3 zs'.length l3) := HYx.out.cell 2
                  have xl : w.heap.size < wr.heap.size := HXx.out.lt
                  have xm : w.heap.size + 1 < wr.heap.size := HYx.out.lt
                  by_cases hlt : j < zs.length
                  · have hlt' : j < zs'.length := by have := HN2.out; omega
                    obtain ⟨x, hu⟩ : ∃ u, zs[j]? = some u := ⟨_, List.getElem?_eq_getElem hlt⟩
                    obtain ⟨y, hv⟩ : ∃ u, zs'[j]? = some u := ⟨_, List.getElem?_eq_getElem hlt'⟩
                    have HBW := Lib.hid (HB0.out.trans (HB.out.mono HB0.out.size))
                    obtain ⟨b1, o1, rfl, hb1, hq1⟩ := (HS.out.here HBW.out).acts.at hu
                    obtain ⟨b2, o2, rfl, hb2, hq2⟩ := (HS'.out.here HBW.out).acts.at hv
                    obtain ⟨bvx, hbx, p0, p1, p2, p3, p4, p5, p6, p7, p8⟩ := hq1
                    obtain ⟨bvy, hby, q0, q1, q2, q3, q4, q5, q6, q7, q8⟩ := hq2
                    obtain ⟨A4, k4, rfl, -⟩ := id hbx
                    obtain ⟨B4, l4, rfl, -⟩ := id hby
                    have HCL : Hid (∀ z : Ext wr, Calls Tryz.prog 38 #[.agg #[.int .i64 x.kind, .int .i64 x.node, .int .i64 x.port, .int .i64 x.cost, .int .i64 x.n, .bool x.up, .int .u8 (x.by_.toNat : Int), .bool x.unread, .slice A4 x.bytes.length k4], .agg #[.int .i64 y.kind, .int .i64 y.node, .int .i64 y.port, .int .i64 y.cost, .int .i64 y.n, .bool y.up, .int .u8 (y.by_.toNat : Int), .bool y.unread, .slice B4 y.bytes.length l4]] z.w fun e w' => e = .returned (.bool (sameA x y)) ∧ Below z.w.heap.size z.w w') := Lib.hid (fun z => rsameAct_any x y _ _ z.w (hbx.below z.below) (hby.below z.below))
                    clear hbx hby
                    have HU := Lib.hid hu
                    have HV := Lib.hid hv
                    clear hu hv
                    by_cases hxy : x = y
                    · have HT2 : Hid (zs.take (j + 1) = zs'.take (j + 1)) := Lib.hid (takeG_next HU.out (by rw [hxy]; exact HV.out) HT.out)
                      rw [show sameA x y = true by rw [hxy]; exact sameA_refl y] at HCL
                      clear hxy
                      go_wp2
                      refine wp_region_ext (by kernel_rfl) (by kernel_rfl) ?_
                      repeat (go_big_quiet_step (first | (go_at_call 38; exact Ext.call (HCL.out _))))
                      refine wpQuiet_nil ?_
                      rintro _ ⟨z, rfl⟩
                      go_wp2
                      go_roundw
                      case rel => exact ⟨j + 1, by omega, by go_num, HT2, Lib.hid (HB.out.trans (z.below.mono HB.out.size))⟩
                      case measure => simp [intOf]; omega
                    · have HF := Lib.hid (takeG_ne HU.out HV.out hxy)
                      have hne : sameA x y = false := by
                        cases hs : sameA x y with
                        | true => exact absurd (sameA_eq hs) hxy
                        | false => rfl
                      rw [hne] at HCL
                      clear hxy hne
                      go_wp2
                      refine wp_region_ext (by kernel_rfl) (by kernel_rfl) ?_
                      repeat (go_big_quiet_step (first | (go_at_call 38; exact Ext.call (HCL.out _))))
                      refine wpQuiet_nil ?_
                      rintro _ ⟨z, rfl⟩
                      go_wp2
                      go_ret
                      exact ⟨HOUT.out _ (by unfold sameS; simp [HF.out]), HBW.out.trans (z.below.mono HBW.out.size)⟩
                  · obtain rfl : j = zs.length := by omega
                    have HE2 := Lib.hid (takeG_all HN2.out HT.out)
                    have HBW := Lib.hid (HB0.out.trans (HB.out.mono HB0.out.size))
                    go_wp2
                    go_ret
                    exact ⟨HOUT.out _ (by unfold sameS; rw [HE0.out, HE1.out, HE2.out]; rfl), HBW.out⟩
      · have d2 : ((zs.length : Int) != (zs'.length : Int)) = true := by simp; omega
        have HF : Hid (decide (zs = zs') = false) := Lib.hid (decide_eq_false fun e => n2 (by rw [e]))
        clear n2
        go_enter Tryz.func48, Tryz.ntmps48
        go_upto_region 1 with fail
        rw [HW0.out]
        go_wp2
        go_ret
        exact ⟨HOUT.out _ (by unfold sameS; simp [HF.out]), HB0.out⟩
    · have d1 : ((ls.length : Int) != (ls'.length : Int)) = true := by simp; omega
      have HF : Hid (decide (ls = ls') = false) := Lib.hid (decide_eq_false fun e => n1 (by rw [e]))
      clear n1
      go_enter Tryz.func48, Tryz.ntmps48
      go_upto_region 1 with fail
      rw [HW0.out]
      go_wp2
      go_ret
      exact ⟨HOUT.out _ (by unfold sameS; simp [HF.out]), HB0.out⟩
  · have d0 : ((cs.length : Int) != (cs'.length : Int)) = true := by simp; omega
    have HF : Hid (decide (cs = cs') = false) := Lib.hid (decide_eq_false fun e => n0 (by rw [e]))
    clear n0
    go_enter Tryz.func48, Tryz.ntmps48
    go_upto_region 1 with fail
    rw [HW0.out]
    go_wp2
    go_ret
    exact ⟨HOUT.out _ (by unfold sameS; simp [HF.out]), HB0.out⟩
end Go.Proofs.YtfbangojgjcbcaaGreatDoor
namespace Go.Proofs.YtfbangojgjcbcaaGreatDoor.Pl
/-- Ahead of the byte i, acc read. -/
def UnInv (l : List UInt8) (i : Nat) (acc : List UInt8) : Prop := unhex l = (unhex (l.drop i)).map fun r => acc ++ r
theorem UnInv.start (l : List UInt8) : UnInv l 0 [] := by simp [UnInv]
theorem UnInv.done {l : List UInt8} {acc : List UInt8} (h : UnInv l l.length acc) : unhex l = some acc := by
  unfold UnInv at h; rw [h, List.drop_length]; simp [unhex]
theorem UnInv.good {l : List UInt8} {i : Nat} {acc : List UInt8} (h : UnInv l i acc) (hi : i + 1 < l.length) {a b : UInt8} (ha : l[i] = a) (hb : l[i + 1] = b) {p q : Nat} (hp : dig a = some p) (hq : dig b = some q) :
    UnInv l (i + 2) (acc ++ [UInt8.ofNat (16 * p + q)]) := by
  unfold UnInv at h ⊢
  rw [h, unhex_step l i hi, ha, hb, hp, hq]
  cases unhex (l.drop (i + 2)) <;> simp
theorem UnInv.bad {l : List UInt8} {i : Nat} {acc : List UInt8} (h : UnInv l i acc) (hi : i + 1 < l.length) {a b : UInt8} (ha : l[i] = a) (hb : l[i + 1] = b) (hn : dig a = none ∨ dig b = none) : unhex l = none := by
  unfold UnInv at h
  rw [h, unhex_step l i hi, ha, hb]
  rcases hn with hn | hn
  · rw [hn]; rfl
  · rw [hn]; cases dig a <;> rfl
end Go.Proofs.YtfbangojgjcbcaaGreatDoor.Pl
