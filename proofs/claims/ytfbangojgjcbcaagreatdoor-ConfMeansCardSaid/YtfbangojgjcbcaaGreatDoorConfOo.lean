/- The document's text of a configuration; the law's pass over a configuration's lines. -/
/- The law's pass over a configuration's lines answers true. -/
import Derived.Test.YtfbangojgjcbcaaGreatDoorConfEr
import Derived.Test.YtfbangojgjcbcaaGreatDoorConfTx
namespace Go.Proofs.YtfbangojgjcbcaaGreatDoor
open Go.RowKit Pl Go.Shelf

theorem joinNl_take {ls : List (List UInt8)} {j : Nat} {l : List UInt8} (h : ls[j]? = some l) : joinNl (ls.take (j + 1)) = joinNl (ls.take j) ++ l ++ [10] := by
  rw [List.take_add_one, h]
  show joinNl (ls.take j ++ [l]) = _
  rw [joinNl_snoc, List.append_assoc]
set_option maxRecDepth 100000 in
set_option maxHeartbeats 2000000 in
theorem rtext19 (v : Value) (c : Cfg) (w : World) (h : CfgIs w v c) (hA : Addrs4 c) (hm : mayC c = true) (E : Env w) :
    Calls Tryz.prog 28 #[v] w fun e w' => e = .returned (.string (str (textP c))) ∧ Below w.heap.size w w' := by
  have HLL := Lib.hid (lines_len hm)
  have HC := Lib.hid h
  obtain ⟨own, ports, rfl, hO, hP⟩ := h.is
  obtain ⟨A1, k1, rfl, -⟩ := hO
  obtain ⟨A2, k2, rfl, -⟩ := hP
  obtain ⟨W0, hW0⟩ : ∃ W0, w.alloc (.cells #[.int .i64 c.node, .int .u32 c.addr, .slice A1 c.own.length k1, .slice A2 c.ports.length k2, .int .i64 c.hello, .int .i64 c.dead, .int .i64 c.again, .int .i64 c.room, .int .i64 c.queue, .int .i64 c.tokens, .int .i64 c.refill] 28) = W0 := ⟨_, rfl⟩
  have HB0 : Hid (Below w.heap.size w W0) := Lib.hid (by rw [← hW0]; exact (Below.refl _ _).alloc (Nat.le_refl _) _)
  have HX : Whole W0 w.heap.size 28 #[.int .i64 c.node, .int .u32 c.addr, .slice A1 c.own.length k1, .slice A2 c.ports.length k2, .int .i64 c.hello, .int .i64 c.dead, .int .i64 c.again, .int .i64 c.room, .int .i64 c.queue, .int .i64 c.tokens, .int .i64 c.refill] := by rw [← hW0]; exact Whole.new _ _ _
  have HW0 := Lib.hid hW0
  have hlt0 := HX.lt
  have HLN : Hid (Calls Tryz.prog 21 #[.agg #[.int .i64 c.node, .int .u32 c.addr, .slice A1 c.own.length k1, .slice A2 c.ports.length k2, .int .i64 c.hello, .int .i64 c.dead, .int .i64 c.again, .int .i64 c.room, .int .i64 c.queue, .int .i64 c.tokens, .int .i64 c.refill]] W0 fun e w' => ∃ v, e = .returned v ∧ w'.ownsRow (W0.heap.size + 1) 9 1 v (linesP c).length ((linesP c).map Sv) ∧ Below W0.heap.size W0 w') := Lib.hid (rlines19 _ c W0 (HC.out.below HB0.out) hA hm (E.here HB0.out))
  have y0 := HX.cell 0
  have y1 := HX.cell 1
  have y2 := HX.cell 2
  have y3 := HX.cell 3
  have y4 := HX.cell 4
  have y5 := HX.cell 5
  have y6 := HX.cell 6
  have y7 := HX.cell 7
  have y8 := HX.cell 8
  have y9 := HX.cell 9
  have y10 := HX.cell 10
  simp only [List.getElem?_toArray, List.getElem?_cons_succ, List.getElem?_cons_zero] at y0 y1 y2 y3 y4 y5 y6 y7 y8 y9 y10
  have hn0 : 0 < (linesP c).length := by unfold linesP; rw [List.length_append, tails_len]; omega
  clear h hW0 hm E HX
  unfold cfgV
  go_enter Tryz.func28, Tryz.ntmps28
  go_upto_region 1 with fail
  rw [HW0.out]
  go_wp2_with fail
  refine HLN.out.mono ?_
  rintro e w2 ⟨v2, rfl, hown, hb2⟩
  obtain ⟨g, cap, rfl, hg1, hg2⟩ := hown.form hn0
  have hlc : (linesP c).length ≤ cap := by
    rcases hown.2 with ⟨h', _⟩ | ⟨g', cap', cur, h', _, _, hnc, _⟩
    · cases h'
    · injection h' with _ _ h'; omega
  have hgl := (hown.lt g rfl).2
  have HCL : Hid (∀ j l, (linesP c)[j]? = some l → w2.cell? ⟨g, j, none⟩ = some (Sv l)) := Lib.hid (fun j l hj => by
    have := hown.cells (g := g) rfl j (Sv l) (by rw [List.getElem?_map, hj]; rfl)
    rw [show ((⟨g, 0, none⟩ : Addr).add j) = ⟨g, j, none⟩ from by unfold Addr.add; by_cases hj : j = 0 <;> simp [hj]] at this
    exact this)
  have HB2 := Lib.hid (HB0.out.trans (hb2.mono HB0.out.size))
  have hl25 := HLL.out.2
  clear hown hb2 hg1 hg2
  go_wp2
  go_loop [4, 5] (fun s i => ∃ j : Nat, j ≤ (linesP c).length ∧ i = .int .i64 j ∧ s = .string (str (joinNl ((linesP c).take j)))) (fun _ i => (linesP c).length - (intOf i).toNat)
  case atStart => exact ⟨0, Nat.zero_le _, rfl, rfl⟩
  case round =>
    obtain ⟨j, hj, rfl, rfl⟩ := hrel
    by_cases hjl : j < (linesP c).length
    · obtain ⟨l, hu⟩ : ∃ u, (linesP c)[j]? = some u := ⟨_, List.getElem?_eq_getElem hjl⟩
      have c0 : w2.cell? ⟨g, j, none⟩ = some (.string (str l)) := HCL.out j l hu
      have hl40 := HLL.out.1 l (List.mem_of_getElem? hu)
      have hjn := joinNl_len ((linesP c).take j) (fun x hx => HLL.out.1 x (List.mem_of_mem_take hx))
      have htl : ((linesP c).take j).length ≤ 25 := by rw [List.length_take]; omega
      have s1 : (str (joinNl ((linesP c).take j))).size ≤ 2000 := by rw [str_size]; omega
      have s2 : (str l).size ≤ 40 := by rw [str_size]; omega
      have HT : Hid (str (joinNl ((linesP c).take j)) ++ str l ++ { data := #[10] } = str (joinNl ((linesP c).take (j + 1)))) := Lib.hid (by
        rw [joinNl_take hu]
        show _ ++ str [10] = _
        simp only [str_append])
      clear hu hjn htl
      go_wp2
      go_round
      case rel => exact ⟨j + 1, by omega, by go_num, by rw [HT.out]⟩
      case measure => simp [intOf]; omega
    · obtain rfl : j = (linesP c).length := by omega
      go_wp2
      go_ret
      exact ⟨rfl, HB2.out⟩

theorem eqlI_fun (d f : Nat) (lb : Array Value) (W : World) : (Op.equalIn (d + 1) 113 (.func (.func f) #[] lb) .nilFunc).run Tryz.prog W = .ok false W := by
  simp [Op.equalIn, run_underlying Tryz.underlying113, Result.andThen]
theorem eql_fun (f : Nat) (lb : Array Value) (W : World) : (binOp BinOp.eql 113 (.func (.func f) #[] lb) .nilFunc).run Tryz.prog W = .ok (.bool false) W := by
  have h : (Op.equal 113 (.func (.func f) #[] lb) .nilFunc).run Tryz.prog W = .ok false W := eqlI_fun _ f lb W
  simp [binOp, h, Result.andThen]
theorem Ss.ownP {α : Type} (lo hi : Nat) (v : Value) (ls : List (List UInt8)) : Own (fun (_ : α) W => Ss lo hi W v ls) := fun _ X Y row hs hg hrow => by
  obtain ⟨A, c, rfl, hA⟩ := hs
  refine ⟨A, c, rfl, fun hp => ?_⟩
  obtain ⟨b, off, rfl, hb, hcell⟩ := hA hp
  refine ⟨b, off, rfl, hb, fun j l hj => ?_⟩
  have h1 := hcell j l hj
  refine (World.cell?_of_block (a := ⟨b, off + j, none⟩) (hg.block b (block_lt_of_cell h1) ?_)).trans h1
  intro e
  obtain ⟨o, ho, hc⟩ := hrow b e.symm
  have h2 := h1
  unfold World.cell? at h2
  simp only [ho] at h2
  cases o <;> simp [Obj.isCells] at hc h2
theorem Ss.far {lo hi : Nat} {W : World} {v : Value} {ls : List (List UInt8)} (h : Ss lo hi W v ls) {p : Addr} (hp : p.block < lo ∨ hi ≤ p.block) (u : Value) : Ss lo hi (W.setCell p u) v ls := by
  obtain ⟨A, c, rfl, hA⟩ := h
  refine ⟨A, c, rfl, fun hq => ?_⟩
  obtain ⟨b, off, h1, h2, h3⟩ := hA hq
  exact ⟨b, off, h1, h2, fun j l hj => (World.cell?_of_block (a := ⟨b, off + j, none⟩) (Below.heap_setCell W p u b (by omega))).trans (h3 j l hj)⟩
theorem Ss.at {lo hi : Nat} {W : World} {A : Option Addr} {n k : Nat} {ls : List (List UInt8)} (h : Ss lo hi W (.slice A n k) ls) {j : Nat} {l : List UInt8} (hj : ls[j]? = some l) : ∃ b off, A = some ⟨b, off, none⟩ ∧ n = ls.length ∧ W.cell? ⟨b, off + j, none⟩ = some (.string (str l)) := by
  obtain ⟨A', c, hv, hA⟩ := h
  injection hv with h1 h2 h3
  subst h1
  obtain ⟨b, off, rfl, _, hcell⟩ := hA (by have := (List.getElem?_eq_some_iff.1 hj).1; omega)
  exact ⟨b, off, rfl, h2, hcell j l hj⟩
theorem Ss.len {lo hi : Nat} {W : World} {A : Option Addr} {n k : Nat} {ls : List (List UInt8)} (h : Ss lo hi W (.slice A n k) ls) : n = ls.length := by
  obtain ⟨A', c, hv, _⟩ := h
  injection hv

/-- What the pass holds behind so many lines. -/
def OnceIn (b Nb : Nat) (vw : Value) (ls : List (List UInt8)) (most : Int) (pre : List (List UInt8)) (W : World) : Prop :=
  Whole W Nb 3 #[.int .i64 (pre.length : Int)] ∧ Whole W (b + 2) 4 #[.bool false] ∧ Whole W (b + 1) 3 #[.int .i64 most] ∧ Whole W (b + 3) 40 #[vw] ∧ Ss (b + 4) Nb W vw ls
theorem OnceIn.own (b Nb : Nat) (vw : Value) (ls : List (List UInt8)) (most : Int) : Own (OnceIn b Nb vw ls most) := fun pre X Y row hs hg hr =>
  ⟨whole_own Nb _ (fun pre : List (List UInt8) => #[Value.int .i64 (pre.length : Int)]) pre X Y row hs.1 hg hr, whole_own (b + 2) _ (fun _ : List (List UInt8) => #[Value.bool false]) pre X Y row hs.2.1 hg hr,
    whole_own (b + 1) _ (fun _ : List (List UInt8) => #[Value.int .i64 most]) pre X Y row hs.2.2.1 hg hr, whole_own (b + 3) _ (fun _ : List (List UInt8) => #[vw]) pre X Y row hs.2.2.2.1 hg hr,
    Ss.ownP (b + 4) Nb vw ls pre X Y row hs.2.2.2.2 hg hr⟩
/-- .. and where it is left early. -/
def OnceOut (b : Nat) (ls : List (List UInt8)) (w : World) (c : Code) (pre : List (List UInt8)) (W : World) : Prop :=
  c = .ret ∧ (∃ r, Whole W (b + 2) 4 #[.bool r] ∧ (pre <+: ls → r = true)) ∧ Below w.heap.size w W
end Go.Proofs.YtfbangojgjcbcaaGreatDoor
namespace Go.Proofs.YtfbangojgjcbcaaGreatDoor
open Go.RowKit Pl Go.Shelf

attribute [local go_sem] Oper.semAt_some

theorem prefix_at {ls pre : List (List UInt8)} {y z : List UInt8} (hz : ls[pre.length]? = some z) (h : pre ++ [y] <+: ls) : y = z := by
  obtain ⟨t, rfl⟩ := h
  simp at hz
  exact hz
set_option maxRecDepth 100000 in
set_option maxHeartbeats 8000000 in
theorem once_any (v : Value) (c : Cfg) (most : Int) (w : World) (h : CfgIs w v c) (hA : Addrs4 c) (hl : c.own.length ≤ 1000000) (hp : c.ports.length ≤ 1000000) (E : Env w) :
    Calls Tryz.prog 27 #[v, .int .i64 most] w fun e w' => e = .returned (.bool true) ∧ Below w.heap.size w w' := by
  have HC := Lib.hid h
  have HL25 : Hid ((linesC c).length ≤ 25) := Lib.hid (by
    unfold linesC
    cases hm : mayC c with
    | true => rw [if_pos rfl]; exact (lines_len hm).2
    | false => simp)
  obtain ⟨own, ports, rfl, hO, hP⟩ := h.is
  obtain ⟨A1, k1, rfl, -⟩ := hO
  obtain ⟨A2, k2, rfl, -⟩ := hP
  obtain ⟨W0, hW0⟩ : ∃ W0, (((w.alloc (.cells #[.int .i64 c.node, .int .u32 c.addr, .slice A1 c.own.length k1, .slice A2 c.ports.length k2, .int .i64 c.hello, .int .i64 c.dead, .int .i64 c.again, .int .i64 c.room, .int .i64 c.queue, .int .i64 c.tokens, .int .i64 c.refill] 28)).alloc (.cells #[.int .i64 most] 3)).alloc (.cells #[.bool false] 4)).alloc (.cells #[.slice none 0 0] 40) = W0 := ⟨_, rfl⟩
  have HB0 : Hid (Below w.heap.size w W0) := Lib.hid (by rw [← hW0]; exact ((((Below.refl _ _).alloc (Nat.le_refl _) _).alloc (by simp) _).alloc (by simp; omega) _).alloc (by simp; omega) _)
  have hs0 : W0.heap.size = w.heap.size + 4 := by rw [← hW0]; simp
  have HX : Hid (Whole W0 w.heap.size 28 #[.int .i64 c.node, .int .u32 c.addr, .slice A1 c.own.length k1, .slice A2 c.ports.length k2, .int .i64 c.hello, .int .i64 c.dead, .int .i64 c.again, .int .i64 c.room, .int .i64 c.queue, .int .i64 c.tokens, .int .i64 c.refill]) := Lib.hid (by rw [← hW0]; exact (((Whole.new w _ _).alloc _).alloc _).alloc _)
  have HM1 : Hid (Whole W0 (w.heap.size + 1) 3 #[.int .i64 most]) := Lib.hid (by
    rw [← hW0]
    have := ((Whole.new (w.alloc (.cells #[.int .i64 c.node, .int .u32 c.addr, .slice A1 c.own.length k1, .slice A2 c.ports.length k2, .int .i64 c.hello, .int .i64 c.dead, .int .i64 c.again, .int .i64 c.room, .int .i64 c.queue, .int .i64 c.tokens, .int .i64 c.refill] 28)) 3 #[.int .i64 most]).alloc (.cells #[.bool false] 4)).alloc (.cells #[.slice none 0 0] 40)
    simpa using this)
  have HR1 : Hid (Whole W0 (w.heap.size + 2) 4 #[.bool false]) := Lib.hid (by
    rw [← hW0]
    have := (Whole.new ((w.alloc (.cells #[.int .i64 c.node, .int .u32 c.addr, .slice A1 c.own.length k1, .slice A2 c.ports.length k2, .int .i64 c.hello, .int .i64 c.dead, .int .i64 c.again, .int .i64 c.room, .int .i64 c.queue, .int .i64 c.tokens, .int .i64 c.refill] 28)).alloc (.cells #[.int .i64 most] 3)) 4 #[.bool false]).alloc (.cells #[.slice none 0 0] 40)
    simpa using this)
  have HN1 : Hid (Whole W0 (w.heap.size + 3) 40 #[.slice none 0 0]) := Lib.hid (by
    rw [← hW0]
    have := Whole.new (((w.alloc (.cells #[.int .i64 c.node, .int .u32 c.addr, .slice A1 c.own.length k1, .slice A2 c.ports.length k2, .int .i64 c.hello, .int .i64 c.dead, .int .i64 c.again, .int .i64 c.room, .int .i64 c.queue, .int .i64 c.tokens, .int .i64 c.refill] 28)).alloc (.cells #[.int .i64 most] 3)).alloc (.cells #[.bool false] 4)) 40 #[.slice none 0 0]
    simpa using this)
  have HW0 := Lib.hid hW0
  have E0 := Lib.hid (E.here HB0.out)
  have HMAY : Hid (Calls Tryz.prog 20 #[.agg #[.int .i64 c.node, .int .u32 c.addr, .slice A1 c.own.length k1, .slice A2 c.ports.length k2, .int .i64 c.hello, .int .i64 c.dead, .int .i64 c.again, .int .i64 c.room, .int .i64 c.queue, .int .i64 c.tokens, .int .i64 c.refill]] W0 fun e w' => e = .returned (.bool (mayC c)) ∧ Below W0.heap.size W0 w') := Lib.hid (rmay19 _ c W0 (HC.out.below HB0.out) hA hl hp)
  have HLR : Hid (mayC c = true → ∀ W, Below W0.heap.size W0 W → Calls Tryz.prog 21 #[.agg #[.int .i64 c.node, .int .u32 c.addr, .slice A1 c.own.length k1, .slice A2 c.ports.length k2, .int .i64 c.hello, .int .i64 c.dead, .int .i64 c.again, .int .i64 c.room, .int .i64 c.queue, .int .i64 c.tokens, .int .i64 c.refill]] W fun e w' => ∃ v, e = .returned v ∧ w'.ownsRow (W.heap.size + 1) 9 1 v (linesP c).length ((linesP c).map Sv) ∧ Below W.heap.size W w') := Lib.hid (fun hm W hb => rlines19 _ c W ((HC.out.below HB0.out).below hb) hA hm (E0.out.here hb))
  have HLC : Hid (∀ W, Below w.heap.size w W → Calls Tryz.prog 61 #[.agg #[.int .i64 c.node, .int .u32 c.addr, .slice A1 c.own.length k1, .slice A2 c.ports.length k2, .int .i64 c.hello, .int .i64 c.dead, .int .i64 c.again, .int .i64 c.room, .int .i64 c.queue, .int .i64 c.tokens, .int .i64 c.refill]] W fun e w' => SeqOf W.heap.size (linesC c) e w' ∧ Below W.heap.size W w') := Lib.hid (fun W hb => lines_any _ c W (HC.out.below hb) hA hl hp (E.here hb))
  have y0 := HX.out.cell 0
  have y1 := HX.out.cell 1
  have y2 := HX.out.cell 2
  have y3 := HX.out.cell 3
  have y4 := HX.out.cell 4
  have y5 := HX.out.cell 5
  have y6 := HX.out.cell 6
  have y7 := HX.out.cell 7
  have y8 := HX.out.cell 8
  have y9 := HX.out.cell 9
  have y10 := HX.out.cell 10
  simp only [List.getElem?_toArray, List.getElem?_cons_succ, List.getElem?_cons_zero] at y0 y1 y2 y3 y4 y5 y6 y7 y8 y9 y10
  have hlt0 := HX.out.lt
  have HS0 := Lib.hid hs0
  clear h hA E hW0 hs0
  unfold cfgV
  refine (callsIn_wide (n := 3)).1 ?_
  refine callsIn_of_wp_marks Tryz.func27 rfl trivial ?_ rfl
  simp only [Tryz.ntmps27, List.size_toArray, List.length_cons, List.length_nil, Nat.reduceAdd, Nat.reduceSub, Array.replicate_succ, Array.replicate_zero, List.push_toArray, List.append_toArray, List.nil_append, List.cons_append]
  gi_wp2
  rw [HW0.out]
  refine ⟨trivial, (callsIn_wide.2 HMAY.out).mono ?_⟩
  rintro e W1 ⟨rfl, hb1⟩
  have HB1 := Lib.hid hb1
  have HX1 := Lib.hid (HX.out.here hb1)
  have HM2 := Lib.hid (HM1.out.here hb1)
  have HR2 := Lib.hid (HR1.out.here hb1)
  have HN2 := Lib.hid (HN1.out.here hb1)
  have hz1 : w.heap.size + 4 ≤ W1.heap.size := by have := HS0.out; have := hb1.size; omega
  clear hb1 HMAY HX HM1 HR1 HN1 y0 y1 y2 y3 y4 y5 y6 y7 y8 y9 y10 hlt0
  have y0 := HX1.out.cell 0
  have y1 := HX1.out.cell 1
  have y2 := HX1.out.cell 2
  have y3 := HX1.out.cell 3
  have y4 := HX1.out.cell 4
  have y5 := HX1.out.cell 5
  have y6 := HX1.out.cell 6
  have y7 := HX1.out.cell 7
  have y8 := HX1.out.cell 8
  have y9 := HX1.out.cell 9
  have y10 := HX1.out.cell 10
  simp only [List.getElem?_toArray, List.getElem?_cons_succ, List.getElem?_cons_zero] at y0 y1 y2 y3 y4 y5 y6 y7 y8 y9 y10
  have hlt1 : w.heap.size < W1.heap.size := by omega
  cases hm : mayC c with
  | true =>
    have HM := Lib.hid hm
    have HLQ := Lib.hid (HLR.out hm W1 HB1.out)
    clear hm HLR
    gi_wp2
    refine ⟨trivial, (callsIn_wide.2 HLQ.out).mono ?_⟩
    rintro e W2 ⟨vw, rfl, hown, hb2⟩
    obtain ⟨g, cap, rfl⟩ := own_slice_n hown
    have HSS : Hid (Ss (w.heap.size + 4) W2.heap.size W2 (.slice g (linesP c).length cap) (linesC c)) := Lib.hid (by
      unfold linesC
      rw [HM.out, if_pos rfl]
      exact (Ss.own hown).low (by omega))
    have HB2 := Lib.hid hb2
    have HX2 := Lib.hid (HX1.out.here hb2)
    have HM3 := Lib.hid (HM2.out.here hb2)
    have HR3 := Lib.hid (HR2.out.here hb2)
    have HN3 := Lib.hid (HN2.out.here hb2)
    have hz2 : w.heap.size + 4 ≤ W2.heap.size := by have := hb2.size; omega
    have hlt2 : w.heap.size < W2.heap.size := by omega
    clear hown hb2 y0 y1 y2 y3 y4 y5 y6 y7 y8 y9 y10
    have y0 := HX2.out.cell 0
    have y1 := HX2.out.cell 1
    have y2 := HX2.out.cell 2
    have y3 := HX2.out.cell 3
    have y4 := HX2.out.cell 4
    have y5 := HX2.out.cell 5
    have y6 := HX2.out.cell 6
    have y7 := HX2.out.cell 7
    have y8 := HX2.out.cell 8
    have y9 := HX2.out.cell 9
    have y10 := HX2.out.cell 10
    simp only [List.getElem?_toArray, List.getElem?_cons_succ, List.getElem?_cons_zero] at y0 y1 y2 y3 y4 y5 y6 y7 y8 y9 y10
    have n0 : W2.cell? ⟨w.heap.size + 1 + 1 + 1, 0, none⟩ = some (.slice none 0 0) := HN3.out.cell 0
    have f0 : W2.frozen? ⟨w.heap.size + 1 + 1 + 1, 0, none⟩ = false := HN3.out.frozen 0
    gi_wp2
    obtain ⟨W4, hW4⟩ : ∃ W4, (W2.setCell ⟨w.heap.size + 1 + 1 + 1, 0, none⟩ (.slice g (linesP c).length cap)).alloc (.cells #[.int .i64 0] 3) = W4 := ⟨_, rfl⟩
    rw [hW4]
    generalize hNb : W2.heap.size = Nb
    have hNb0 : w.heap.size + 4 ≤ Nb := by omega
    have hssz : (W2.setCell ⟨w.heap.size + 1 + 1 + 1, 0, none⟩ (.slice g (linesP c).length cap)).heap.size = W2.heap.size := by simp [World.setCell]
    have HBW : Hid (Below w.heap.size w W4) := Lib.hid (by rw [← hW4]; exact (((HB0.out.trans (HB1.out.mono (by have := HS0.out; omega))).trans (HB2.out.mono (by omega))).setCell (p := ⟨w.heap.size + 1 + 1 + 1, 0, none⟩) (by simp; omega) _).alloc (by rw [hssz]; omega) _)
    have HXn : Hid (Whole W4 Nb 3 #[.int .i64 0]) := Lib.hid (by
      rw [← hW4, ← hNb]
      have := Whole.new (W2.setCell ⟨w.heap.size + 1 + 1 + 1, 0, none⟩ (.slice g (linesP c).length cap)) 3 #[.int .i64 0]
      rw [hssz] at this
      exact this)
    have HXm : Hid (Whole W4 (w.heap.size + 1) 3 #[.int .i64 most]) := Lib.hid (by rw [← hW4]; exact (HM3.out.far (p := ⟨w.heap.size + 1 + 1 + 1, 0, none⟩) (by simp) _).alloc _)
    have HXr : Hid (Whole W4 (w.heap.size + 2) 4 #[.bool false]) := Lib.hid (by rw [← hW4]; exact (HR3.out.far (p := ⟨w.heap.size + 1 + 1 + 1, 0, none⟩) (by simp) _).alloc _)
    obtain ⟨gw, N, kw, HVW, HVS⟩ : ∃ gw N kw, Hid (Whole W4 (w.heap.size + 3) 40 #[.slice gw N kw]) ∧ Hid (Ss (w.heap.size + 4) Nb W4 (.slice gw N kw) (linesC c)) := ⟨g, _, cap, Lib.hid (by rw [← hW4]; exact (HN3.out.set 0 _).alloc _), Lib.hid (by
      have h1 := HSS.out.far (p := ⟨w.heap.size + 1 + 1 + 1, 0, none⟩) (.inl (by simp)) (.slice g (linesP c).length cap)
      have h2 := h1.here (by rw [hssz]; exact Nat.le_refl _) (Nat.le_refl _) ((Below.refl _ _).alloc (Nat.le_refl _) (.cells #[.int .i64 0] 3))
      rw [← hW4, ← hNb]
      exact h2)⟩
    clear hW4 HSS HB2 HX2 HM3 HR3 HN3 hssz n0 f0 y0 y1 y2 y3 y4 y5 y6 y7 y8 y9 y10 hNb
    have hNb1 : Nb < W4.heap.size := HXn.out.lt
    have HLB := Lib.hid (HLC.out W4 HBW.out)
    clear HLC
    refine ⟨trivial, (callsIn_wide.2 HLB.out).mono ?_⟩
    rintro e W5 ⟨⟨Bs, vs, rfl, ⟨hlo, hBs⟩, hc, hS⟩, hb5⟩
    have hbn := eql_fun 160 #[.pointer (some ⟨Bs, 0, none⟩)]
    have HS := Lib.hid hS
    have hs5 := hb5.size
    have HB5 : Hid (Below w.heap.size w W5) := Lib.hid (HBW.out.trans (hb5.mono HBW.out.size))
    have HI5 : Hid (OnceIn w.heap.size Nb (.slice gw N kw) (linesC c) most [] W5) := Lib.hid ⟨HXn.out.here hb5, HXr.out.here hb5, HXm.out.here hb5, HVW.out.here hb5, HVS.out.here (Nat.le_of_lt hNb1) (Nat.le_refl _) hb5⟩
    have hlines : (linesC c).length ≤ 25 := HL25.out
    have HN : Hid (N = (linesC c).length) := Lib.hid HVS.out.len
    have HSM : Hid (Ss W4.heap.size W5.heap.size W5 vs ((linesC c).map fun x => x)) := Lib.hid (by rw [List.map_id']; exact hS)
    clear hb5 hS
    gi_wp2
    refine wpIn_rangeFunc_ownH (F := Fence.wide) rfl (by decide) (gf := 160) (lb := #[.pointer (some ⟨Bs, 0, none⟩)]) rfl trivial (enters_of Tryz.func160 (by kernel_rfl) rfl)
      (values1_stops (fun x : List UInt8 => x) Fence.wide 2 trivial rfl (by decide) Bs W4.heap.size W5.heap.size vs (linesC c) (by omega) W5 hBs (Nat.le_refl _) hc HSM.out) Between.trans (fun W l o o' hl _ _ _ => Between.put hl) (Below.refl _ _) (fun _ => rfl)
      (fun pre W => (OnceIn w.heap.size Nb (.slice gw N kw) (linesC c) most pre W ∧ Below w.heap.size w W) ∧ W5.heap.size ≤ W.heap.size)
      (fun c' pre W => OnceOut w.heap.size (linesC c) w c' pre W)
      (OwnFrom.and (OwnFrom.and (Own.from (OnceIn.own _ _ _ _ _) _) (ownFrom_below (Nat.le_refl _) (by omega))) (fun _ _ _ _ hs hg _ => Nat.le_trans hs hg.size))
      (fun c' pre X Y row hs hg hr => by
        obtain ⟨h1, ⟨r, h2, h3⟩, h4⟩ := hs
        exact ⟨h1, ⟨r, whole_own _ _ (fun _ : Unit => #[Value.bool r]) () X Y row h2 hg (fun r' e => (hr r' e).2), h3⟩, ownFrom_below (β := Unit) (Nat.le_refl _) (by omega) () X Y row h4 hg hr⟩)
      ⟨⟨HI5.out, HB5.out⟩, Nat.le_refl _⟩
      (fun y a' _ => ∃ u0 u1 u2 u7 u9 u10 u11 u12 u13 u14 u15 u16 u17 u18 u19 u20 u21 u22 u23 u24 u25 u26 u27 u28 u29 u30 u31 u32 u33 u34 u35 u36 u37 u38 u39, a' = { tmps := #[u0, u1, u2, .pointer (some ⟨w.heap.size + 1, 0, none⟩), .pointer (some ⟨w.heap.size + 1 + 1, 0, none⟩), .pointer (some ⟨w.heap.size + 1 + 1 + 1, 0, none⟩), .pointer (some ⟨Nb, 0, none⟩), u7, .string (str y), u9, u10, u11, u12, u13, u14, u15, u16, u17, u18, u19, u20, u21, u22, u23, u24, u25, u26, u27, u28, u29, u30, u31, u32, u33, u34, u35, u36, u37, u38, u39], defers := [] })
      (fun y a' _ X Y row hs hg hr => hs)
      ?assign ?body ?done ?stop
    case assign =>
      rintro l pre y W K hI hK
      gi_wp2
      exact hK _ _ ((KeepsOthers.refl _).from _) (Between.refl W) hI ⟨_, _, _, _, _, _, _, _, _, _, _, _, _, _, _, _, _, _, _, _, _, _, _, _, _, _, _, _, _, _, _, _, _, _, _, rfl⟩
    case body =>
      rintro l pre y a' W hl _ ⟨⟨⟨hn, hr, hmo, hwa, hss⟩, hB⟩, hz⟩ ⟨u0, u1, u2, u7, u9, u10, u11, u12, u13, u14, u15, u16, u17, u18, u19, u20, u21, u22, u23, u24, u25, u26, u27, u28, u29, u30, u31, u32, u33, u34, u35, u36, u37, u38, u39, rfl⟩ hlt
      obtain ⟨z, hzl⟩ : ∃ z, (linesC c)[pre.length]? = some z := ⟨_, List.getElem?_eq_getElem hlt⟩
      obtain ⟨gb, go, rfl, -, c0⟩ := hss.at hzl
      have k0 : W.cell? ⟨Nb, 0, none⟩ = some (.int .i64 (pre.length : Int)) := hn.cell 0
      have k1 : W.cell? ⟨w.heap.size + 1 + 1, 0, none⟩ = some (.bool false) := hr.cell 0
      have k2 : W.cell? ⟨w.heap.size + 1, 0, none⟩ = some (.int .i64 most) := hmo.cell 0
      have k3 : W.cell? ⟨w.heap.size + 1 + 1 + 1, 0, none⟩ = some (.slice (some ⟨gb, go, none⟩) N kw) := hwa.cell 0
      have f0 := hn.frozen 0
      have f1 : W.frozen? ⟨w.heap.size + 1 + 1, 0, none⟩ = false := hr.frozen 0
      have hltN : pre.length < N := by rw [HN.out]; exact hlt
      have d1 : decide ((N : Int) ≤ (pre.length : Int)) = false := decide_eq_false (by omega)
      by_cases hy : y = z
      · subst hy
        by_cases hq : (pre.length : Int) + 1 = most
        · have hq2 : (((pre.length : Int) + 1) == most) = true := beq_iff_eq.2 hq
          clear hq hzl
          gi_wp2
          exact ⟨((KeepsOthers.setCell _ _ _).trans (KeepsOthers.setCell _ _ _)).from _, rfl, ⟨true, (hr.far (p := ⟨Nb, 0, none⟩) (by simp; omega) _).set 0 (.bool true), fun _ => rfl⟩, (hB.setCell (p := ⟨Nb, 0, none⟩) (by simp; omega) _).setCell (p := ⟨w.heap.size + 1 + 1, 0, none⟩) (by simp; omega) _⟩
        · have hq2 : (((pre.length : Int) + 1) == most) = false := beq_eq_false_iff_ne.2 hq
          clear hq hzl
          gi_wp2
          refine ⟨(KeepsOthers.setCell _ _ _).from _, (Between.refl W).set (p := ⟨Nb, 0, none⟩) (by simp; omega) _, ⟨⟨?_, hr.far (p := ⟨Nb, 0, none⟩) (by simp; omega) _, hmo.far (p := ⟨Nb, 0, none⟩) (by simp; omega) _, hwa.far (p := ⟨Nb, 0, none⟩) (by simp; omega) _, hss.far (p := ⟨Nb, 0, none⟩) (.inr (Nat.le_refl _)) _⟩, hB.setCell (p := ⟨Nb, 0, none⟩) (by simp; omega) _⟩, by simp only [World.setCell, Array.size_modify]; exact hz⟩
          have hn2 := hn.set 0 (.int .i64 ((pre.length : Int) + 1))
          rw [show (((pre ++ [y]).length : Nat) : Int) = (pre.length : Int) + 1 by simp]
          exact hn2
      · have hy2 := str_eq_false hy
        have HZ := Lib.hid hzl
        have HY := Lib.hid hy
        clear hzl hy
        gi_wp2
        exact ⟨(KeepsOthers.setCell _ _ _).from _, rfl, ⟨false, hr.set 0 (.bool false), fun h => absurd (prefix_at HZ.out h) HY.out⟩, hB.setCell (p := ⟨w.heap.size + 1 + 1, 0, none⟩) (by simp; omega) _⟩
    case done =>
      rintro D ys W hD rfl ⟨⟨⟨hn, hr, hmo, hwa, hss⟩, hB⟩, hz⟩ hK
      have k0 : W.cell? ⟨Nb, 0, none⟩ = some (.int .i64 ((linesC c).length : Int)) := hn.cell 0
      have k1 : W.cell? ⟨w.heap.size + 1 + 1, 0, none⟩ = some (.bool false) := hr.cell 0
      have k3 : W.cell? ⟨w.heap.size + 1 + 1 + 1, 0, none⟩ = some (.slice gw N kw) := hwa.cell 0
      have f1 : W.frozen? ⟨w.heap.size + 1 + 1, 0, none⟩ = false := hr.frozen 0
      have d1 : (((linesC c).length : Int) == (N : Int)) = true := by rw [HN.out]; simp
      gi_wp2
      have hkd := (KeepsOthers.setCell W ⟨w.heap.size + 1 + 1, 0, none⟩ (.bool true)).same D _ hK rfl
      have hr2 := hr.set 0 (.bool true)
      have hB2 := hB.setCell (p := ⟨w.heap.size + 1 + 1, 0, none⟩) (by simp; omega) (.bool true)
      generalize W.setCell ⟨w.heap.size + 1 + 1, 0, none⟩ (.bool true) = X at *
      have hkx : X.heap[D]? = some (.deferred (some [])) := hkd
      refine ⟨by simp, .inl ⟨_, _, rfl, run_takeDeferred hkx, ?_⟩⟩
      have q1 := (hr2.kept (grownBy_putObj' X D (.deferred none)) (fun e => by cases e; omega)).cell 0
      refine ⟨.bool true, ?_, rfl, hB2.trans (belowK_b (w := w) (Nat.le_refl _) X D _ _ (by omega) hkx rfl rfl)⟩
      simp at q1
      simp [results, Tryz.results27, go_sem, q1]
    case stop =>
      rintro D c' pre W hD hpre ⟨rfl, ⟨r, hr, himp⟩, hB⟩ hK
      obtain rfl : r = true := himp hpre
      gi_wp2
      refine ⟨by simp, .inl ⟨_, _, rfl, run_takeDeferred hK, ?_⟩⟩
      have q1 := (hr.kept (grownBy_putObj' W D (.deferred none)) (fun e => by cases e; omega)).cell 0
      refine ⟨.bool true, ?_, rfl, hB.trans (belowK_b (w := w) (Nat.le_refl _) W D _ _ (by omega) hK rfl rfl)⟩
      simp at q1
      simp [results, Tryz.results27, go_sem, q1]
  | false =>
    have HM := Lib.hid hm
    clear hm HLR
    gi_wp2
    obtain ⟨W4, hW4⟩ : ∃ W4, W1.alloc (.cells #[.int .i64 0] 3) = W4 := ⟨_, rfl⟩
    rw [hW4]
    generalize hNb : W1.heap.size = Nb
    have hNb0 : w.heap.size + 4 ≤ Nb := by omega
    have HBW : Hid (Below w.heap.size w W4) := Lib.hid (by rw [← hW4]; exact (HB0.out.trans (HB1.out.mono (by have := HS0.out; omega))).alloc (by omega) _)
    have HXn : Hid (Whole W4 Nb 3 #[.int .i64 0]) := Lib.hid (by
      rw [← hW4, ← hNb]
      exact Whole.new W1 _ _)
    have HXm : Hid (Whole W4 (w.heap.size + 1) 3 #[.int .i64 most]) := Lib.hid (by rw [← hW4]; exact HM2.out.alloc _)
    have HXr : Hid (Whole W4 (w.heap.size + 2) 4 #[.bool false]) := Lib.hid (by rw [← hW4]; exact HR2.out.alloc _)
    obtain ⟨gw, N, kw, HVW, HVS⟩ : ∃ gw N kw, Hid (Whole W4 (w.heap.size + 3) 40 #[.slice gw N kw]) ∧ Hid (Ss (w.heap.size + 4) Nb W4 (.slice gw N kw) (linesC c)) := ⟨none, 0, 0, Lib.hid (by rw [← hW4]; exact HN2.out.alloc _), Lib.hid (by
      unfold linesC
      rw [HM.out]
      exact ⟨none, 0, rfl, fun h => absurd h (by simp)⟩)⟩
    clear hW4 y0 y1 y2 y3 y4 y5 y6 y7 y8 y9 y10 hNb
    have hNb1 : Nb < W4.heap.size := HXn.out.lt
    have HLB := Lib.hid (HLC.out W4 HBW.out)
    clear HLC
    refine ⟨trivial, (callsIn_wide.2 HLB.out).mono ?_⟩
    rintro e W5 ⟨⟨Bs, vs, rfl, ⟨hlo, hBs⟩, hc, hS⟩, hb5⟩
    have hbn := eql_fun 160 #[.pointer (some ⟨Bs, 0, none⟩)]
    have HS := Lib.hid hS
    have hs5 := hb5.size
    have HB5 : Hid (Below w.heap.size w W5) := Lib.hid (HBW.out.trans (hb5.mono HBW.out.size))
    have HI5 : Hid (OnceIn w.heap.size Nb (.slice gw N kw) (linesC c) most [] W5) := Lib.hid ⟨HXn.out.here hb5, HXr.out.here hb5, HXm.out.here hb5, HVW.out.here hb5, HVS.out.here (Nat.le_of_lt hNb1) (Nat.le_refl _) hb5⟩
    have hlines : (linesC c).length ≤ 25 := HL25.out
    have HN : Hid (N = (linesC c).length) := Lib.hid HVS.out.len
    have HSM : Hid (Ss W4.heap.size W5.heap.size W5 vs ((linesC c).map fun x => x)) := Lib.hid (by rw [List.map_id']; exact hS)
    clear hb5 hS
    gi_wp2
    refine wpIn_rangeFunc_ownH (F := Fence.wide) rfl (by decide) (gf := 160) (lb := #[.pointer (some ⟨Bs, 0, none⟩)]) rfl trivial (enters_of Tryz.func160 (by kernel_rfl) rfl)
      (values1_stops (fun x : List UInt8 => x) Fence.wide 2 trivial rfl (by decide) Bs W4.heap.size W5.heap.size vs (linesC c) (by omega) W5 hBs (Nat.le_refl _) hc HSM.out) Between.trans (fun W l o o' hl _ _ _ => Between.put hl) (Below.refl _ _) (fun _ => rfl)
      (fun pre W => (OnceIn w.heap.size Nb (.slice gw N kw) (linesC c) most pre W ∧ Below w.heap.size w W) ∧ W5.heap.size ≤ W.heap.size)
      (fun c' pre W => OnceOut w.heap.size (linesC c) w c' pre W)
      (OwnFrom.and (OwnFrom.and (Own.from (OnceIn.own _ _ _ _ _) _) (ownFrom_below (Nat.le_refl _) (by omega))) (fun _ _ _ _ hs hg _ => Nat.le_trans hs hg.size))
      (fun c' pre X Y row hs hg hr => by
        obtain ⟨h1, ⟨r, h2, h3⟩, h4⟩ := hs
        exact ⟨h1, ⟨r, whole_own _ _ (fun _ : Unit => #[Value.bool r]) () X Y row h2 hg (fun r' e => (hr r' e).2), h3⟩, ownFrom_below (β := Unit) (Nat.le_refl _) (by omega) () X Y row h4 hg hr⟩)
      ⟨⟨HI5.out, HB5.out⟩, Nat.le_refl _⟩
      (fun y a' _ => ∃ u0 u1 u2 u7 u9 u10 u11 u12 u13 u14 u15 u16 u17 u18 u19 u20 u21 u22 u23 u24 u25 u26 u27 u28 u29 u30 u31 u32 u33 u34 u35 u36 u37 u38 u39, a' = { tmps := #[u0, u1, u2, .pointer (some ⟨w.heap.size + 1, 0, none⟩), .pointer (some ⟨w.heap.size + 1 + 1, 0, none⟩), .pointer (some ⟨w.heap.size + 1 + 1 + 1, 0, none⟩), .pointer (some ⟨Nb, 0, none⟩), u7, .string (str y), u9, u10, u11, u12, u13, u14, u15, u16, u17, u18, u19, u20, u21, u22, u23, u24, u25, u26, u27, u28, u29, u30, u31, u32, u33, u34, u35, u36, u37, u38, u39], defers := [] })
      (fun y a' _ X Y row hs hg hr => hs)
      ?assign ?body ?done ?stop
    case assign =>
      rintro l pre y W K hI hK
      gi_wp2
      exact hK _ _ ((KeepsOthers.refl _).from _) (Between.refl W) hI ⟨_, _, _, _, _, _, _, _, _, _, _, _, _, _, _, _, _, _, _, _, _, _, _, _, _, _, _, _, _, _, _, _, _, _, _, rfl⟩
    case body =>
      rintro l pre y a' W hl _ ⟨⟨⟨hn, hr, hmo, hwa, hss⟩, hB⟩, hz⟩ ⟨u0, u1, u2, u7, u9, u10, u11, u12, u13, u14, u15, u16, u17, u18, u19, u20, u21, u22, u23, u24, u25, u26, u27, u28, u29, u30, u31, u32, u33, u34, u35, u36, u37, u38, u39, rfl⟩ hlt
      obtain ⟨z, hzl⟩ : ∃ z, (linesC c)[pre.length]? = some z := ⟨_, List.getElem?_eq_getElem hlt⟩
      obtain ⟨gb, go, rfl, -, c0⟩ := hss.at hzl
      have k0 : W.cell? ⟨Nb, 0, none⟩ = some (.int .i64 (pre.length : Int)) := hn.cell 0
      have k1 : W.cell? ⟨w.heap.size + 1 + 1, 0, none⟩ = some (.bool false) := hr.cell 0
      have k2 : W.cell? ⟨w.heap.size + 1, 0, none⟩ = some (.int .i64 most) := hmo.cell 0
      have k3 : W.cell? ⟨w.heap.size + 1 + 1 + 1, 0, none⟩ = some (.slice (some ⟨gb, go, none⟩) N kw) := hwa.cell 0
      have f0 := hn.frozen 0
      have f1 : W.frozen? ⟨w.heap.size + 1 + 1, 0, none⟩ = false := hr.frozen 0
      have hltN : pre.length < N := by rw [HN.out]; exact hlt
      have d1 : decide ((N : Int) ≤ (pre.length : Int)) = false := decide_eq_false (by omega)
      by_cases hy : y = z
      · subst hy
        by_cases hq : (pre.length : Int) + 1 = most
        · have hq2 : (((pre.length : Int) + 1) == most) = true := beq_iff_eq.2 hq
          clear hq hzl
          gi_wp2
          exact ⟨((KeepsOthers.setCell _ _ _).trans (KeepsOthers.setCell _ _ _)).from _, rfl, ⟨true, (hr.far (p := ⟨Nb, 0, none⟩) (by simp; omega) _).set 0 (.bool true), fun _ => rfl⟩, (hB.setCell (p := ⟨Nb, 0, none⟩) (by simp; omega) _).setCell (p := ⟨w.heap.size + 1 + 1, 0, none⟩) (by simp; omega) _⟩
        · have hq2 : (((pre.length : Int) + 1) == most) = false := beq_eq_false_iff_ne.2 hq
          clear hq hzl
          gi_wp2
          refine ⟨(KeepsOthers.setCell _ _ _).from _, (Between.refl W).set (p := ⟨Nb, 0, none⟩) (by simp; omega) _, ⟨⟨?_, hr.far (p := ⟨Nb, 0, none⟩) (by simp; omega) _, hmo.far (p := ⟨Nb, 0, none⟩) (by simp; omega) _, hwa.far (p := ⟨Nb, 0, none⟩) (by simp; omega) _, hss.far (p := ⟨Nb, 0, none⟩) (.inr (Nat.le_refl _)) _⟩, hB.setCell (p := ⟨Nb, 0, none⟩) (by simp; omega) _⟩, by simp only [World.setCell, Array.size_modify]; exact hz⟩
          have hn2 := hn.set 0 (.int .i64 ((pre.length : Int) + 1))
          rw [show (((pre ++ [y]).length : Nat) : Int) = (pre.length : Int) + 1 by simp]
          exact hn2
      · have hy2 := str_eq_false hy
        have HZ := Lib.hid hzl
        have HY := Lib.hid hy
        clear hzl hy
        gi_wp2
        exact ⟨(KeepsOthers.setCell _ _ _).from _, rfl, ⟨false, hr.set 0 (.bool false), fun h => absurd (prefix_at HZ.out h) HY.out⟩, hB.setCell (p := ⟨w.heap.size + 1 + 1, 0, none⟩) (by simp; omega) _⟩
    case done =>
      rintro D ys W hD rfl ⟨⟨⟨hn, hr, hmo, hwa, hss⟩, hB⟩, hz⟩ hK
      have k0 : W.cell? ⟨Nb, 0, none⟩ = some (.int .i64 ((linesC c).length : Int)) := hn.cell 0
      have k1 : W.cell? ⟨w.heap.size + 1 + 1, 0, none⟩ = some (.bool false) := hr.cell 0
      have k3 : W.cell? ⟨w.heap.size + 1 + 1 + 1, 0, none⟩ = some (.slice gw N kw) := hwa.cell 0
      have f1 : W.frozen? ⟨w.heap.size + 1 + 1, 0, none⟩ = false := hr.frozen 0
      have d1 : (((linesC c).length : Int) == (N : Int)) = true := by rw [HN.out]; simp
      gi_wp2
      have hkd := (KeepsOthers.setCell W ⟨w.heap.size + 1 + 1, 0, none⟩ (.bool true)).same D _ hK rfl
      have hr2 := hr.set 0 (.bool true)
      have hB2 := hB.setCell (p := ⟨w.heap.size + 1 + 1, 0, none⟩) (by simp; omega) (.bool true)
      generalize W.setCell ⟨w.heap.size + 1 + 1, 0, none⟩ (.bool true) = X at *
      have hkx : X.heap[D]? = some (.deferred (some [])) := hkd
      refine ⟨by simp, .inl ⟨_, _, rfl, run_takeDeferred hkx, ?_⟩⟩
      have q1 := (hr2.kept (grownBy_putObj' X D (.deferred none)) (fun e => by cases e; omega)).cell 0
      refine ⟨.bool true, ?_, rfl, hB2.trans (belowK_b (w := w) (Nat.le_refl _) X D _ _ (by omega) hkx rfl rfl)⟩
      simp at q1
      simp [results, Tryz.results27, go_sem, q1]
    case stop =>
      rintro D c' pre W hD hpre ⟨rfl, ⟨r, hr, himp⟩, hB⟩ hK
      obtain rfl : r = true := himp hpre
      gi_wp2
      refine ⟨by simp, .inl ⟨_, _, rfl, run_takeDeferred hK, ?_⟩⟩
      have q1 := (hr.kept (grownBy_putObj' W D (.deferred none)) (fun e => by cases e; omega)).cell 0
      refine ⟨.bool true, ?_, rfl, hB.trans (belowK_b (w := w) (Nat.le_refl _) W D _ _ (by omega) hK rfl rfl)⟩
      simp at q1
      simp [results, Tryz.results27, go_sem, q1]
end Go.Proofs.YtfbangojgjcbcaaGreatDoor
