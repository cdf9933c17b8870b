/- Part 8 of the proof: ConfM, ConfR, PlainJ, ConfS. -/
import Derived.Test.YtfbangojgjcbcaaGreatDoorSC01
import Derived.Test.YtfbangojgjcbcaaGreatDoorSC02
import Derived.Test.YtfbangojgjcbcaaGreatDoorSC04
import Derived.Test.YtfbangojgjcbcaaGreatDoorSC07
namespace Go.Proofs.YtfbangojgjcbcaaGreatDoor
open Go.RowKit Pl
/-- A method does to the reader what the line says. -/
def StepsTo (f : Nat) (c : Cfg) (st : Nat) (l s : List UInt8) (B R : Nat) (w : World) : Prop :=
  (∀ args W, (callFunc f args).run Tryz.prog W = .ok (.enter f args) W) ∧
  Calls Tryz.prog f #[.pointer (some ⟨R, 0, none⟩), .string (str s)] w fun e w' => RdRes w B R (stepC c st l s) e w'
theorem step_any (l s : List UInt8) (c : Cfg) (st : Nat) (B R : Nat) (w : World) (h : Rd 89 w B R c (st : Int)) (E : Env w) (hNG : 8 ≤ B) (hBw : B ≤ w.heap.size) (hs : s.length ≤ 1000000) (hI : CInv c) :
    (wordV l = .nilFunc ∧ stepC c st l s = none) ∨ ∃ f, wordV l = .func (.func f) #[] #[] ∧ StepsTo f c st l s B R w := by
  by_cases e0 : l = wNode
  · subst e0
    refine .inr ⟨102, by kernel_rfl, enters_of Tryz.func102 (by kernel_rfl) rfl, ?_⟩
    have hm := mnode_any s c st B R w h E hNG hBw hs
    unfold stepC
    rw [if_pos rfl]
    exact hm
  by_cases e1 : l = wAddress
  · subst e1
    refine .inr ⟨103, by kernel_rfl, enters_of Tryz.func103 (by kernel_rfl) rfl, ?_⟩
    have hm := maddress_any s c st B R w h E hNG hBw hs
    unfold stepC
    rw [if_neg (show ¬ wAddress = wNode by decide), if_pos rfl]
    exact hm
  by_cases e2 : l = wOwn
  · subst e2
    refine .inr ⟨104, by kernel_rfl, enters_of Tryz.func104 (by kernel_rfl) rfl, ?_⟩
    have hm := mown_any s c st B R w h E hNG hBw hs hI.addrs hI.own hI.ports
    unfold stepC
    rw [if_neg (show ¬ wOwn = wNode by decide), if_neg (show ¬ wOwn = wAddress by decide), if_pos rfl]
    exact hm
  by_cases e3 : l = wPort
  · subst e3
    refine .inr ⟨105, by kernel_rfl, enters_of Tryz.func105 (by kernel_rfl) rfl, ?_⟩
    have hm := mport_any s c st B R w h E hNG hBw hs hI.addrs hI.own hI.ports
    unfold stepC
    rw [if_neg (show ¬ wPort = wNode by decide), if_neg (show ¬ wPort = wAddress by decide), if_neg (show ¬ wPort = wOwn by decide), if_pos rfl]
    exact hm
  by_cases e4 : l = wHello
  · subst e4
    refine .inr ⟨106, by kernel_rfl, enters_of Tryz.func106 (by kernel_rfl) rfl, ?_⟩
    have hm := mhello_any s c st B R w h E hNG hBw hs hI.addrs (Nat.le_trans hI.own (by decide))
    unfold stepC
    rw [if_neg (show ¬ wHello = wNode by decide), if_neg (show ¬ wHello = wAddress by decide), if_neg (show ¬ wHello = wOwn by decide), if_neg (show ¬ wHello = wPort by decide), if_pos rfl]
    exact hm
  by_cases e5 : l = wDead
  · subst e5
    refine .inr ⟨107, by kernel_rfl, enters_of Tryz.func107 (by kernel_rfl) rfl, ?_⟩
    have hm := mdead_any s c st B R w h E hNG hBw hs (fun _ => hI.hello)
    unfold stepC
    rw [if_neg (show ¬ wDead = wNode by decide), if_neg (show ¬ wDead = wAddress by decide), if_neg (show ¬ wDead = wOwn by decide), if_neg (show ¬ wDead = wPort by decide), if_neg (show ¬ wDead = wHello by decide), if_pos rfl]
    exact hm
  by_cases e6 : l = wAgain
  · subst e6
    refine .inr ⟨108, by kernel_rfl, enters_of Tryz.func108 (by kernel_rfl) rfl, ?_⟩
    have hm := magain_any s c st B R w h E hNG hBw hs
    unfold stepC
    rw [if_neg (show ¬ wAgain = wNode by decide), if_neg (show ¬ wAgain = wAddress by decide), if_neg (show ¬ wAgain = wOwn by decide), if_neg (show ¬ wAgain = wPort by decide), if_neg (show ¬ wAgain = wHello by decide), if_neg (show ¬ wAgain = wDead by decide), if_pos rfl]
    exact hm
  by_cases e7 : l = wRoom
  · subst e7
    refine .inr ⟨109, by kernel_rfl, enters_of Tryz.func109 (by kernel_rfl) rfl, ?_⟩
    have hm := mroom_any s c st B R w h E hNG hBw hs
    unfold stepC
    rw [if_neg (show ¬ wRoom = wNode by decide), if_neg (show ¬ wRoom = wAddress by decide), if_neg (show ¬ wRoom = wOwn by decide), if_neg (show ¬ wRoom = wPort by decide), if_neg (show ¬ wRoom = wHello by decide), if_neg (show ¬ wRoom = wDead by decide), if_neg (show ¬ wRoom = wAgain by decide), if_pos rfl]
    exact hm
  by_cases e8 : l = wQueue
  · subst e8
    refine .inr ⟨110, by kernel_rfl, enters_of Tryz.func110 (by kernel_rfl) rfl, ?_⟩
    have hm := mqueue_any s c st B R w h E hNG hBw hs
    unfold stepC
    rw [if_neg (show ¬ wQueue = wNode by decide), if_neg (show ¬ wQueue = wAddress by decide), if_neg (show ¬ wQueue = wOwn by decide), if_neg (show ¬ wQueue = wPort by decide), if_neg (show ¬ wQueue = wHello by decide), if_neg (show ¬ wQueue = wDead by decide), if_neg (show ¬ wQueue = wAgain by decide), if_neg (show ¬ wQueue = wRoom by decide), if_pos rfl]
    exact hm
  by_cases e9 : l = wTokens
  · subst e9
    refine .inr ⟨111, by kernel_rfl, enters_of Tryz.func111 (by kernel_rfl) rfl, ?_⟩
    have hm := mtokens_any s c st B R w h E hNG hBw hs
    unfold stepC
    rw [if_neg (show ¬ wTokens = wNode by decide), if_neg (show ¬ wTokens = wAddress by decide), if_neg (show ¬ wTokens = wOwn by decide), if_neg (show ¬ wTokens = wPort by decide), if_neg (show ¬ wTokens = wHello by decide), if_neg (show ¬ wTokens = wDead by decide), if_neg (show ¬ wTokens = wAgain by decide), if_neg (show ¬ wTokens = wRoom by decide), if_neg (show ¬ wTokens = wQueue by decide), if_pos rfl]
    exact hm
  by_cases e10 : l = wRefill
  · subst e10
    refine .inr ⟨112, by kernel_rfl, enters_of Tryz.func112 (by kernel_rfl) rfl, ?_⟩
    have hm := mrefill_any s c st B R w h E hNG hBw hs
    unfold stepC
    rw [if_neg (show ¬ wRefill = wNode by decide), if_neg (show ¬ wRefill = wAddress by decide), if_neg (show ¬ wRefill = wOwn by decide), if_neg (show ¬ wRefill = wPort by decide), if_neg (show ¬ wRefill = wHello by decide), if_neg (show ¬ wRefill = wDead by decide), if_neg (show ¬ wRefill = wAgain by decide), if_neg (show ¬ wRefill = wRoom by decide), if_neg (show ¬ wRefill = wQueue by decide), if_neg (show ¬ wRefill = wTokens by decide), if_pos rfl]
    exact hm
  refine .inl ⟨?_, stepC_none (fun e => absurd e e0) (fun e => absurd e e1) (fun e => absurd e e2) (fun e => absurd e e3) (fun e => absurd e e4) (fun e => absurd e e5) (fun e => absurd e e6) (fun e => absurd e e7) (fun e => absurd e e8) (fun e => absurd e e9) (fun e => absurd e e10)⟩
  have hw : wordFn l = none := by
    unfold wordFn wordsL
    simp only [List.find?_cons, List.find?_nil, decide_eq_false (fun e => e0 e.symm : ¬ wNode = l), decide_eq_false (fun e => e1 e.symm : ¬ wAddress = l), decide_eq_false (fun e => e2 e.symm : ¬ wOwn = l), decide_eq_false (fun e => e3 e.symm : ¬ wPort = l), decide_eq_false (fun e => e4 e.symm : ¬ wHello = l), decide_eq_false (fun e => e5 e.symm : ¬ wDead = l), decide_eq_false (fun e => e6 e.symm : ¬ wAgain = l), decide_eq_false (fun e => e7 e.symm : ¬ wRoom = l), decide_eq_false (fun e => e8 e.symm : ¬ wQueue = l), decide_eq_false (fun e => e9 e.symm : ¬ wTokens = l), decide_eq_false (fun e => e10 e.symm : ¬ wRefill = l)]
    rfl
  unfold wordV
  rw [hw]
end Go.Proofs.YtfbangojgjcbcaaGreatDoor
namespace Go.Proofs.YtfbangojgjcbcaaGreatDoor
open Go.RowKit Pl
/-- Its rows lie in blocks from base on. -/
def RowFrom (base : Nat) (v : Value) : Prop := ∀ b o n c, v = .slice (some ⟨b, o, none⟩) n c → base ≤ b
theorem RowFrom.nil (base : Nat) : RowFrom base (.slice none 0 0) := fun _ _ _ _ h => by injection h with h; cases h
theorem RowFrom.own {w : World} {base B size n : Nat} {e : TypeId} {v : Value} {xs : List Value} (h : w.ownsRow B e size v n xs) (hB : base ≤ B) : RowFrom base v := fun b o n c hv => by
  subst hv
  exact Nat.le_trans hB (h.lt b rfl).1
def CfgFresh (base : Nat) (v : Value) : Prop := ∃ c own ports, v = cfgV c own ports ∧ RowFrom base own ∧ RowFrom base ports
def ParseFrom (r : Cfg × Nat × Int) (base : Nat) (e : Ending) (w' : World) : Prop :=
  ∃ v, e = .returned (.tuple #[v, .int .i64 (r.2.1 : Int), .int .i64 r.2.2]) ∧ (CfgIs w' v r.1 ∧ CfgFresh base v)
def cfg0 : Value := .agg #[.int .i64 0, .int .u32 0, .slice none 0 0, .slice none 0 0, .int .i64 0, .int .i64 0, .int .i64 0, .int .i64 0, .int .i64 0, .int .i64 0, .int .i64 0]
theorem CfgIs.zero (w : World) : CfgIs w cfg0 {} := ⟨⟨_, _, rfl, Rs.nil _ _, Rs.nil _ _⟩⟩
theorem CfgFresh.zero (base : Nat) : CfgFresh base cfg0 := ⟨{}, _, _, rfl, RowFrom.nil _, RowFrom.nil _⟩
/-- Eleven cells, stored one after another. -/
theorem box_end {W : World} {g : Nat} {t : TypeId} {x0 x1 x2 x3 x4 x5 x6 x7 x8 x9 x10 : Value} (a0 a1 a2 a3 a4 a5 a6 a7 a8 a9 a10 : Value) (h : Whole W g t #[x0, x1, x2, x3, x4, x5, x6, x7, x8, x9, x10]) :
    Whole (((((((((((W.setCell ⟨g, 0, none⟩ a0).setCell ⟨g, 1, none⟩ a1).setCell ⟨g, 2, none⟩ a2).setCell ⟨g, 3, none⟩ a3).setCell ⟨g, 4, none⟩ a4).setCell ⟨g, 5, none⟩ a5).setCell ⟨g, 6, none⟩ a6).setCell ⟨g, 7, none⟩ a7).setCell ⟨g, 8, none⟩ a8).setCell ⟨g, 9, none⟩ a9).setCell ⟨g, 10, none⟩ a10) g t #[a0, a1, a2, a3, a4, a5, a6, a7, a8, a9, a10] := by
  have := (((((((((((h.set 0 a0).set 1 a1).set 2 a2).set 3 a3).set 4 a4).set 5 a5).set 6 a6).set 7 a7).set 8 a8).set 9 a9).set 10 a10)
  simp only [List.setIfInBounds_toArray, List.set_cons_zero, List.set_cons_succ] at this
  exact this
theorem box_below {W w : World} {B g : Nat} (a0 a1 a2 a3 a4 a5 a6 a7 a8 a9 a10 : Value) (hb : Below B w W) (hB : B ≤ g) : Below B w (((((((((((W.setCell ⟨g, 0, none⟩ a0).setCell ⟨g, 1, none⟩ a1).setCell ⟨g, 2, none⟩ a2).setCell ⟨g, 3, none⟩ a3).setCell ⟨g, 4, none⟩ a4).setCell ⟨g, 5, none⟩ a5).setCell ⟨g, 6, none⟩ a6).setCell ⟨g, 7, none⟩ a7).setCell ⟨g, 8, none⟩ a8).setCell ⟨g, 9, none⟩ a9).setCell ⟨g, 10, none⟩ a10) := (((((((((((hb.setCell (p := ⟨g, 0, none⟩) hB a0).setCell (p := ⟨g, 1, none⟩) hB a1).setCell (p := ⟨g, 2, none⟩) hB a2).setCell (p := ⟨g, 3, none⟩) hB a3).setCell (p := ⟨g, 4, none⟩) hB a4).setCell (p := ⟨g, 5, none⟩) hB a5).setCell (p := ⟨g, 6, none⟩) hB a6).setCell (p := ⟨g, 7, none⟩) hB a7).setCell (p := ⟨g, 8, none⟩) hB a8).setCell (p := ⟨g, 9, none⟩) hB a9).setCell (p := ⟨g, 10, none⟩) hB a10)
theorem box_grown {W : World} {g : Nat} (a0 a1 a2 a3 a4 a5 a6 a7 a8 a9 a10 : Value) : W.grownBy (((((((((((W.setCell ⟨g, 0, none⟩ a0).setCell ⟨g, 1, none⟩ a1).setCell ⟨g, 2, none⟩ a2).setCell ⟨g, 3, none⟩ a3).setCell ⟨g, 4, none⟩ a4).setCell ⟨g, 5, none⟩ a5).setCell ⟨g, 6, none⟩ a6).setCell ⟨g, 7, none⟩ a7).setCell ⟨g, 8, none⟩ a8).setCell ⟨g, 9, none⟩ a9).setCell ⟨g, 10, none⟩ a10) (some g) := grown_trans (grown_trans (grown_trans (grown_trans (grown_trans (grown_trans (grown_trans (grown_trans (grown_trans (grown_trans (grown_trans (World.grownBy.refl W _) (grown_set _ g 0 a0)) (grown_set _ g 1 a1)) (grown_set _ g 2 a2)) (grown_set _ g 3 a3)) (grown_set _ g 4 a4)) (grown_set _ g 5 a5)) (grown_set _ g 6 a6)) (grown_set _ g 7 a7)) (grown_set _ g 8 a8)) (grown_set _ g 9 a9)) (grown_set _ g 10 a10)
theorem eq_fun (d f : Nat) (W : World) : (Op.equalIn (d + 1) 94 (.func (.func f) #[] #[]) .nilFunc).run Tryz.prog W = .ok false W := by
  simp [Op.equalIn, run_underlying Tryz.underlying94, Result.andThen]
theorem eq_nilf (d : Nat) (W : World) : (Op.equalIn (d + 1) 94 .nilFunc .nilFunc).run Tryz.prog W = .ok true W := by
  simp [Op.equalIn, run_underlying Tryz.underlying94, Result.andThen]
theorem neq_fun (f : Nat) (W : World) : (binOp BinOp.neq 94 (.func (.func f) #[] #[]) .nilFunc).run Tryz.prog W = .ok (.bool true) W := by
  have h : (Op.equal 94 (.func (.func f) #[] #[]) .nilFunc).run Tryz.prog W = .ok false W := eq_fun _ f W
  simp [binOp, h, Result.andThen]
theorem neq_nil (W : World) : (binOp BinOp.neq 94 .nilFunc .nilFunc).run Tryz.prog W = .ok (.bool false) W := by
  have h : (Op.equal 94 .nilFunc .nilFunc).run Tryz.prog W = .ok true W := eq_nilf _ W
  simp [binOp, h, Result.andThen]
theorem Rd.here {t : TypeId} {w w' : World} {B R : Nat} {c : Cfg} {st : Int} (h : Rd t w B R c st) (hb : Below w.heap.size w w') : Rd t w' B R c st := by
  obtain ⟨h0, own, ports, h1, h2, h3⟩ := h
  exact ⟨h0, own, ports, h1.here hb, own_below h2 hb, own_below h3 hb⟩
set_option maxRecDepth 100000 in
set_option maxHeartbeats 4000000 in
theorem parse_from (text : List UInt8) (w : World) (hl : text.length ≤ 1000000000) (E : Env w) :
    Calls Tryz.prog 14 #[.string (str text)] w fun e w' => ParseFrom (parseC text) w.heap.size e w' ∧ Below w.heap.size w w' := by
  have hsz : (str text).size = text.length := str_size text
  by_cases h4 : 4096 < text.length
  · have HR : Hid (parseC text = ({}, 0, 3)) := Lib.hid (by unfold parseC; rw [if_pos h4])
    have h4' : (4096 : Int) < ((str text).size : Int) := by rw [hsz]; omega
    have HSZ := Lib.hid hsz
    clear hsz
    go_enter Tryz.func14, Tryz.ntmps14
    go_wp2
    go_step3
    go_wp2
    have HX0 := Lib.hid (Whole.new w 28 #[.int .i64 0, .int .u32 0, .slice none 0 0, .slice none 0 0, .int .i64 0, .int .i64 0, .int .i64 0, .int .i64 0, .int .i64 0, .int .i64 0, .int .i64 0])
    have HB0 := Lib.hid ((Below.refl w.heap.size w).alloc (Nat.le_refl _) (.cells #[.int .i64 0, .int .u32 0, .slice none 0 0, .slice none 0 0, .int .i64 0, .int .i64 0, .int .i64 0, .int .i64 0, .int .i64 0, .int .i64 0, .int .i64 0] 28))
    generalize w.alloc (.cells #[.int .i64 0, .int .u32 0, .slice none 0 0, .slice none 0 0, .int .i64 0, .int .i64 0, .int .i64 0, .int .i64 0, .int .i64 0, .int .i64 0, .int .i64 0] 28) = W0 at *
    try rw [Exit.noGoto_ret]
    have hq := HX0.out
    have hbq := HB0.out
    have q0 := hq.cell 0
    have q1 := hq.cell 1
    have q2 := hq.cell 2
    have q3 := hq.cell 3
    have q4 := hq.cell 4
    have q5 := hq.cell 5
    have q6 := hq.cell 6
    have q7 := hq.cell 7
    have q8 := hq.cell 8
    have q9 := hq.cell 9
    have q10 := hq.cell 10
    simp at q0 q1 q2 q3 q4 q5 q6 q7 q8 q9 q10
    exact bodyPost_ret (v := .tuple #[cfg0, .int .i64 0, .int .i64 3]) (by simp [results, Tryz.results14, go_sem, cfg0, q0, q1, q2, q3, q4, q5, q6, q7, q8, q9, q10]) rfl ⟨⟨cfg0, by rw [HR.out]; rfl, by rw [HR.out]; exact ⟨CfgIs.zero _, CfgFresh.zero _⟩⟩, hbq⟩
  · have HR : Hid (parseC text = runC (splitOn 10 text) {} 0 0) := Lib.hid (by unfold parseC; rw [if_neg h4])
    obtain ⟨RES, hRES⟩ : ∃ R, parseC text = R := ⟨_, rfl⟩
    rw [hRES] at HR ⊢
    clear hRES
    have h4' : decide ((4096 : Int) < ((str text).size : Int)) = false := decide_eq_false (by rw [hsz]; omega)
    have HSZ := Lib.hid hsz
    clear hsz
    go_enter Tryz.func14, Tryz.ntmps14
    go_wp2
    go_step3
    go_wp2_with fail
    refine (words_any _).mono ?_
    rintro e w1 ⟨rfl, hw, hb1⟩
    have hW0 : Below w.heap.size w ((w.alloc (.cells #[.int .i64 0, .int .u32 0, .slice none 0 0, .slice none 0 0, .int .i64 0, .int .i64 0, .int .i64 0, .int .i64 0, .int .i64 0, .int .i64 0, .int .i64 0] 28)).alloc (.cells #[.int .i64 0, .int .u32 0, .slice none 0 0, .slice none 0 0, .int .i64 0, .int .i64 0, .int .i64 0, .int .i64 0, .int .i64 0, .int .i64 0, .int .i64 0, .int .i64 0] 89)) := ((Below.refl _ _).alloc (Nat.le_refl _) _).alloc (by simp) _
    have HB1 := Lib.hid (hW0.trans (hb1.mono hW0.size))
    have hsz0 : ((w.alloc (.cells #[.int .i64 0, .int .u32 0, .slice none 0 0, .slice none 0 0, .int .i64 0, .int .i64 0, .int .i64 0, .int .i64 0, .int .i64 0, .int .i64 0, .int .i64 0] 28)).alloc (.cells #[.int .i64 0, .int .u32 0, .slice none 0 0, .slice none 0 0, .int .i64 0, .int .i64 0, .int .i64 0, .int .i64 0, .int .i64 0, .int .i64 0, .int .i64 0, .int .i64 0] 89)).heap.size = w.heap.size + 2 := by simp
    rw [hsz0] at hw hb1
    have HWD : Hid (IsWords w1 (w.heap.size + 2)) := Lib.hid hw
    have hs1 : w.heap.size + 3 ≤ w1.heap.size := (Array.getElem?_eq_some_iff.1 hw).1
    have HBX : Hid (Whole w1 w.heap.size 28 #[.int .i64 0, .int .u32 0, .slice none 0 0, .slice none 0 0, .int .i64 0, .int .i64 0, .int .i64 0, .int .i64 0, .int .i64 0, .int .i64 0, .int .i64 0]) := Lib.hid (((Whole.new w _ _).alloc _).below hb1 (by omega))
    have HRD : Hid (Rd 89 w1 (w.heap.size + 3) (w.heap.size + 1) {} ((0 : Nat) : Int)) := Lib.hid ⟨Nat.le_trans E.size (Nat.le_succ _), .slice none 0 0, .slice none 0 0, by
      have := (Whole.new (w.alloc (.cells #[.int .i64 0, .int .u32 0, .slice none 0 0, .slice none 0 0, .int .i64 0, .int .i64 0, .int .i64 0, .int .i64 0, .int .i64 0, .int .i64 0, .int .i64 0] 28)) 89 #[.int .i64 0, .int .u32 0, .slice none 0 0, .slice none 0 0, .int .i64 0, .int .i64 0, .int .i64 0, .int .i64 0, .int .i64 0, .int .i64 0, .int .i64 0, .int .i64 0])
      rw [World.size_alloc] at this
      exact this.below hb1 (by omega), World.ownsRow_nil _ _ _ _, World.ownsRow_nil _ _ _ _⟩
    have hNB : 8 ≤ w.heap.size + 3 := Nat.le_trans E.size (by omega)
    have h4n : text.length ≤ 4096 := by omega
    clear hW0 hsz0 hw hb1 h4
    go_wp2
    go_step3
    go_wp2
    go_loopg [7, 8, 9] (text.length) (fun g n good rest wr => ∃ (k : Nat) (r : List UInt8) (c : Cfg) (st : Nat), g = r.length ∧ n = .int .i64 k ∧ good = .bool true ∧ rest = .string (str r) ∧ k + r.length ≤ 4096 ∧ Hid (runC (splitOn 10 r) c st k = RES) ∧ Hid (Rd 89 wr (w.heap.size + 3) (w.heap.size + 1) c (st : Int)) ∧ Hid (CInv c) ∧ Hid (Kb (w.heap.size + 3) (w.heap.size + 1) w1 wr))
    case atStart => exact ⟨0, text, {}, 0, rfl, rfl, rfl, rfl, by omega, Lib.hid HR.out.symm, HRD, Lib.hid CInv.start, Lib.hid (Kb.refl _ _ _)⟩
    case round =>
      obtain ⟨k, r, c, st, hg, rfl, rfl, rfl, hkr, HRUN, HRd, HI, HK⟩ := hrel
      have HG := Lib.hid hg
      clear hg
      have HW2 : Hid (IsWords wr (w.heap.size + 2)) := Lib.hid ((HK.out.block (w.heap.size + 2) (by omega) (by omega)).trans HWD.out)
      have HX2 : Hid (Whole wr w.heap.size 28 #[.int .i64 0, .int .u32 0, .slice none 0 0, .slice none 0 0, .int .i64 0, .int .i64 0, .int .i64 0, .int .i64 0, .int .i64 0, .int .i64 0, .int .i64 0]) := Lib.hid ⟨(HK.out.block w.heap.size (by omega) (by omega)).trans HBX.out.is⟩
      have HB2 : Hid (Below w.heap.size w wr) := Lib.hid (HB1.out.trans (HK.out.below (by omega) (by omega)))
      have E2 := E.here HB2.out
      obtain ⟨own, ports, hRW, hRO, hRP⟩ := HRd.out.is
      have HRW := Lib.hid hRW
      have HRO := Lib.hid hRO
      have HRP := Lib.hid hRP
      have c11 : wr.cell? ⟨w.heap.size + 1, 11, none⟩ = some (.int .i64 (st : Int)) := hRW.cell 11
      clear hRW hRO hRP
      by_cases hr : r = []
      · subst hr
        have t0 : (!(str []).toList.isEmpty) = false := by rw [str_toList]; rfl
        by_cases h10 : st = 10
        · have HRES : Hid ((c, 0, 0) = RES) := Lib.hid (by have := HRUN.out; rw [runC_nil, if_pos h10] at this; exact this)
          subst h10
          obtain ⟨A1, k1, rfl⟩ := own_slice_n HRO.out
          obtain ⟨A2, k2, rfl⟩ := own_slice_n HRP.out
          have c0 : wr.cell? ⟨w.heap.size + 1, 0, none⟩ = some (.int .i64 c.node) := HRW.out.cell 0
          have c1 : wr.cell? ⟨w.heap.size + 1, 1, none⟩ = some (.int .u32 c.addr) := HRW.out.cell 1
          have c2 : wr.cell? ⟨w.heap.size + 1, 2, none⟩ = some (.slice A1 c.own.length k1) := HRW.out.cell 2
          have c3 : wr.cell? ⟨w.heap.size + 1, 3, none⟩ = some (.slice A2 c.ports.length k2) := HRW.out.cell 3
          have c4 : wr.cell? ⟨w.heap.size + 1, 4, none⟩ = some (.int .i64 c.hello) := HRW.out.cell 4
          have c5 : wr.cell? ⟨w.heap.size + 1, 5, none⟩ = some (.int .i64 c.dead) := HRW.out.cell 5
          have c6 : wr.cell? ⟨w.heap.size + 1, 6, none⟩ = some (.int .i64 c.again) := HRW.out.cell 6
          have c7 : wr.cell? ⟨w.heap.size + 1, 7, none⟩ = some (.int .i64 c.room) := HRW.out.cell 7
          have c8 : wr.cell? ⟨w.heap.size + 1, 8, none⟩ = some (.int .i64 c.queue) := HRW.out.cell 8
          have c9 : wr.cell? ⟨w.heap.size + 1, 9, none⟩ = some (.int .i64 c.tokens) := HRW.out.cell 9
          have c10 : wr.cell? ⟨w.heap.size + 1, 10, none⟩ = some (.int .i64 c.refill) := HRW.out.cell 10
          have b0 : wr.cell? ⟨w.heap.size, 0, none⟩ = some (.int .i64 0) := HX2.out.cell 0
          have f0 := HX2.out.frozen 0
          have b1 : wr.cell? ⟨w.heap.size, 1, none⟩ = some (.int .u32 0) := HX2.out.cell 1
          have f1 := HX2.out.frozen 1
          have b2 : wr.cell? ⟨w.heap.size, 2, none⟩ = some (.slice none 0 0) := HX2.out.cell 2
          have f2 := HX2.out.frozen 2
          have b3 : wr.cell? ⟨w.heap.size, 3, none⟩ = some (.slice none 0 0) := HX2.out.cell 3
          have f3 := HX2.out.frozen 3
          have b4 : wr.cell? ⟨w.heap.size, 4, none⟩ = some (.int .i64 0) := HX2.out.cell 4
          have f4 := HX2.out.frozen 4
          have b5 : wr.cell? ⟨w.heap.size, 5, none⟩ = some (.int .i64 0) := HX2.out.cell 5
          have f5 := HX2.out.frozen 5
          have b6 : wr.cell? ⟨w.heap.size, 6, none⟩ = some (.int .i64 0) := HX2.out.cell 6
          have f6 := HX2.out.frozen 6
          have b7 : wr.cell? ⟨w.heap.size, 7, none⟩ = some (.int .i64 0) := HX2.out.cell 7
          have f7 := HX2.out.frozen 7
          have b8 : wr.cell? ⟨w.heap.size, 8, none⟩ = some (.int .i64 0) := HX2.out.cell 8
          have f8 := HX2.out.frozen 8
          have b9 : wr.cell? ⟨w.heap.size, 9, none⟩ = some (.int .i64 0) := HX2.out.cell 9
          have f9 := HX2.out.frozen 9
          have b10 : wr.cell? ⟨w.heap.size, 10, none⟩ = some (.int .i64 0) := HX2.out.cell 10
          have f10 := HX2.out.frozen 10
          go_wp2
          try rw [Exit.noGoto_ret]
          have hq := box_end (.int .i64 c.node) (.int .u32 c.addr) (.slice A1 c.own.length k1) (.slice A2 c.ports.length k2) (.int .i64 c.hello) (.int .i64 c.dead) (.int .i64 c.again) (.int .i64 c.room) (.int .i64 c.queue) (.int .i64 c.tokens) (.int .i64 c.refill) HX2.out
          have hbq := box_below (.int .i64 c.node) (.int .u32 c.addr) (.slice A1 c.own.length k1) (.slice A2 c.ports.length k2) (.int .i64 c.hello) (.int .i64 c.dead) (.int .i64 c.again) (.int .i64 c.room) (.int .i64 c.queue) (.int .i64 c.tokens) (.int .i64 c.refill) HB2.out (Nat.le_refl _)
          have hgq := box_grown (W := wr) (g := w.heap.size) (.int .i64 c.node) (.int .u32 c.addr) (.slice A1 c.own.length k1) (.slice A2 c.ports.length k2) (.int .i64 c.hello) (.int .i64 c.dead) (.int .i64 c.again) (.int .i64 c.room) (.int .i64 c.queue) (.int .i64 c.tokens) (.int .i64 c.refill)
          have ho2 := own_grown HX2.out HRO.out (by decide) hgq
          have hp2 := own_grown HX2.out HRP.out (by decide) hgq
          have q0 := hq.cell 0
          have q1 := hq.cell 1
          have q2 := hq.cell 2
          have q3 := hq.cell 3
          have q4 := hq.cell 4
          have q5 := hq.cell 5
          have q6 := hq.cell 6
          have q7 := hq.cell 7
          have q8 := hq.cell 8
          have q9 := hq.cell 9
          have q10 := hq.cell 10
          simp at q0 q1 q2 q3 q4 q5 q6 q7 q8 q9 q10
          exact bodyPost_ret (v := .tuple #[cfgV c (.slice A1 c.own.length k1) (.slice A2 c.ports.length k2), .int .i64 0, .int .i64 0]) (by simp [results, Tryz.results14, go_sem, cfgV, q0, q1, q2, q3, q4, q5, q6, q7, q8, q9, q10]) rfl ⟨⟨cfgV c (.slice A1 c.own.length k1) (.slice A2 c.ports.length k2), by rw [← HRES.out]; rfl, by rw [← HRES.out]; exact ⟨⟨⟨_, _, rfl, Rs.own rfl ho2, Rs.own rfl hp2⟩⟩, ⟨c, _, _, rfl, RowFrom.own ho2 (by omega), RowFrom.own hp2 (by omega)⟩⟩⟩, hbq⟩
        · have t1 : ((st : Int) != 10) = true := by simp only [bne_iff_ne]; omega
          have HRES : Hid (({}, k, 4) = RES) := Lib.hid (by have := HRUN.out; rw [runC_nil, if_neg h10] at this; exact this)
          have b0 : wr.cell? ⟨w.heap.size, 0, none⟩ = some (.int .i64 0) := HX2.out.cell 0
          have f0 := HX2.out.frozen 0
          have b1 : wr.cell? ⟨w.heap.size, 1, none⟩ = some (.int .u32 0) := HX2.out.cell 1
          have f1 := HX2.out.frozen 1
          have b2 : wr.cell? ⟨w.heap.size, 2, none⟩ = some (.slice none 0 0) := HX2.out.cell 2
          have f2 := HX2.out.frozen 2
          have b3 : wr.cell? ⟨w.heap.size, 3, none⟩ = some (.slice none 0 0) := HX2.out.cell 3
          have f3 := HX2.out.frozen 3
          have b4 : wr.cell? ⟨w.heap.size, 4, none⟩ = some (.int .i64 0) := HX2.out.cell 4
          have f4 := HX2.out.frozen 4
          have b5 : wr.cell? ⟨w.heap.size, 5, none⟩ = some (.int .i64 0) := HX2.out.cell 5
          have f5 := HX2.out.frozen 5
          have b6 : wr.cell? ⟨w.heap.size, 6, none⟩ = some (.int .i64 0) := HX2.out.cell 6
          have f6 := HX2.out.frozen 6
          have b7 : wr.cell? ⟨w.heap.size, 7, none⟩ = some (.int .i64 0) := HX2.out.cell 7
          have f7 := HX2.out.frozen 7
          have b8 : wr.cell? ⟨w.heap.size, 8, none⟩ = some (.int .i64 0) := HX2.out.cell 8
          have f8 := HX2.out.frozen 8
          have b9 : wr.cell? ⟨w.heap.size, 9, none⟩ = some (.int .i64 0) := HX2.out.cell 9
          have f9 := HX2.out.frozen 9
          have b10 : wr.cell? ⟨w.heap.size, 10, none⟩ = some (.int .i64 0) := HX2.out.cell 10
          have f10 := HX2.out.frozen 10
          go_wp2
          try rw [Exit.noGoto_ret]
          have hq := box_end (.int .i64 0) (.int .u32 0) (.slice none 0 0) (.slice none 0 0) (.int .i64 0) (.int .i64 0) (.int .i64 0) (.int .i64 0) (.int .i64 0) (.int .i64 0) (.int .i64 0) HX2.out
          have hbq := box_below (.int .i64 0) (.int .u32 0) (.slice none 0 0) (.slice none 0 0) (.int .i64 0) (.int .i64 0) (.int .i64 0) (.int .i64 0) (.int .i64 0) (.int .i64 0) (.int .i64 0) HB2.out (Nat.le_refl _)
          have q0 := hq.cell 0
          have q1 := hq.cell 1
          have q2 := hq.cell 2
          have q3 := hq.cell 3
          have q4 := hq.cell 4
          have q5 := hq.cell 5
          have q6 := hq.cell 6
          have q7 := hq.cell 7
          have q8 := hq.cell 8
          have q9 := hq.cell 9
          have q10 := hq.cell 10
          simp at q0 q1 q2 q3 q4 q5 q6 q7 q8 q9 q10
          exact bodyPost_ret (v := .tuple #[cfg0, .int .i64 (k : Int), .int .i64 4]) (by simp [results, Tryz.results14, go_sem, cfg0, q0, q1, q2, q3, q4, q5, q6, q7, q8, q9, q10]) rfl ⟨⟨cfg0, by rw [← HRES.out], by rw [← HRES.out]; exact ⟨CfgIs.zero _, CfgFresh.zero _⟩⟩, hbq⟩
      · have t0 : (!(str r).toList.isEmpty) = true := by rw [str_toList]; cases r with
          | nil => exact absurd rfl hr
          | cons x r => rfl
        have hrl : r.length ≤ 1000000 := by omega
        by_cases h10 : (10 : UInt8) ∈ r
        · obtain ⟨hcA, hcB⟩ := cut_len 10 r
          have hlt := (splitOn_cut 10 r h10).2
          have HR1 := Lib.hid ((runC_cut r c st k h10).symm.trans HRUN.out)
          have HC1 : Hid (∀ W, Env W → Calls Tryz.prog 52 #[.string (str r), .string (str [10])] W fun e w' => e = .returned (.tuple #[.string (str (cutA 10 r)), .string (str (cutB 10 r)), .bool true]) ∧ Below W.heap.size W w') := Lib.hid (fun W hE => by
            have := cut_full 10 r W hrl hE
            rwa [cut_found, decide_eq_true h10] at this)
          obtain ⟨l, hl1⟩ : ∃ l, cutA 10 r = l := ⟨_, rfl⟩
          obtain ⟨r', hr1⟩ : ∃ r', cutB 10 r = r' := ⟨_, rfl⟩
          rw [hl1, hr1] at HC1 HR1
          rw [hl1] at hcA
          rw [hr1] at hcB hlt
          have hll : l.length ≤ 1000000 := by omega
          clear hr h10 hl1 hr1
          go_wp2_with fail
          refine (HC1.out _ E2).mono ?_
          rintro e w3 ⟨rfl, hb3⟩
          have E3 := E2.here hb3
          by_cases h32 : (32 : UInt8) ∈ l
          · have HR2 := Lib.hid (show (match stepC c st (cutA 32 l) (cutB 32 l) with
              | some (c', st') => runC (splitOn 10 r') c' st' (k + 1)
              | none => ({}, k, 4)) = RES from by have := HR1.out; rwa [if_pos h32] at this)
            have HC2 : Hid (Calls Tryz.prog 52 #[.string (str l), .string (str [32])] w3 fun e w' => e = .returned (.tuple #[.string (str (cutA 32 l)), .string (str (cutB 32 l)), .bool true]) ∧ Below w3.heap.size w3 w') := Lib.hid (by
              have := cut_full 32 l w3 hll E3
              rwa [cut_found, decide_eq_true h32] at this)
            have hcl2 := (cut_len 32 l).2
            clear h32
            go_wp2_with fail
            refine HC2.out.mono ?_
            rintro e w4 ⟨rfl, hb4⟩
            have HX4 := Lib.hid ((HX2.out.here hb3).here hb4)
            have HB4 := Lib.hid (HB2.out.trans ((hb3.mono HB2.out.size).trans (hb4.mono (Nat.le_trans HB2.out.size hb3.size))))
            have hW4 : IsWords w4 (w.heap.size + 1 + 1) := (HW2.out.below hb3 (Array.getElem?_eq_some_iff.1 HW2.out).1).below hb4 (Nat.lt_of_lt_of_le (Array.getElem?_eq_some_iff.1 HW2.out).1 hb3.size)
            have hlk := run_word (cutA 32 l) w4 (w.heap.size + 1 + 1) hW4
            have E4 := E3.here hb4
            have HRd4 := Lib.hid ((HRd.out.here hb3).here hb4)
            have HK4 : Hid (Kb (w.heap.size + 3) (w.heap.size + 1) w1 w4) := Lib.hid (HK.out.trans (Kb.of_below ((hb3.mono (Nat.le_trans hs1 HK.out.size)).trans (hb4.mono (Nat.le_trans (Nat.le_trans hs1 HK.out.size) hb3.size)))))
            have hB4s : w.heap.size + 3 ≤ w4.heap.size := Nat.le_trans hs1 HK4.out.size
            rcases step_any (cutA 32 l) (cutB 32 l) c st (w.heap.size + 3) (w.heap.size + 1) w4 HRd4.out E4 hNB hB4s (by omega) HI.out with ⟨hv, hstep⟩ | ⟨f, hv, hen, hcall⟩
            · have HRES : Hid (({}, k, 4) = RES) := Lib.hid (by have := HR2.out; rwa [hstep] at this)
              rw [hv] at hlk
              have hbn := neq_nil
              clear hv hstep hW4
              have b0 : w4.cell? ⟨w.heap.size, 0, none⟩ = some (.int .i64 0) := HX4.out.cell 0
              have f0 := HX4.out.frozen 0
              have b1 : w4.cell? ⟨w.heap.size, 1, none⟩ = some (.int .u32 0) := HX4.out.cell 1
              have f1 := HX4.out.frozen 1
              have b2 : w4.cell? ⟨w.heap.size, 2, none⟩ = some (.slice none 0 0) := HX4.out.cell 2
              have f2 := HX4.out.frozen 2
              have b3 : w4.cell? ⟨w.heap.size, 3, none⟩ = some (.slice none 0 0) := HX4.out.cell 3
              have f3 := HX4.out.frozen 3
              have b4 : w4.cell? ⟨w.heap.size, 4, none⟩ = some (.int .i64 0) := HX4.out.cell 4
              have f4 := HX4.out.frozen 4
              have b5 : w4.cell? ⟨w.heap.size, 5, none⟩ = some (.int .i64 0) := HX4.out.cell 5
              have f5 := HX4.out.frozen 5
              have b6 : w4.cell? ⟨w.heap.size, 6, none⟩ = some (.int .i64 0) := HX4.out.cell 6
              have f6 := HX4.out.frozen 6
              have b7 : w4.cell? ⟨w.heap.size, 7, none⟩ = some (.int .i64 0) := HX4.out.cell 7
              have f7 := HX4.out.frozen 7
              have b8 : w4.cell? ⟨w.heap.size, 8, none⟩ = some (.int .i64 0) := HX4.out.cell 8
              have f8 := HX4.out.frozen 8
              have b9 : w4.cell? ⟨w.heap.size, 9, none⟩ = some (.int .i64 0) := HX4.out.cell 9
              have f9 := HX4.out.frozen 9
              have b10 : w4.cell? ⟨w.heap.size, 10, none⟩ = some (.int .i64 0) := HX4.out.cell 10
              have f10 := HX4.out.frozen 10
              go_wp2
              try rw [Exit.noGoto_ret]
              have hq := box_end (.int .i64 0) (.int .u32 0) (.slice none 0 0) (.slice none 0 0) (.int .i64 0) (.int .i64 0) (.int .i64 0) (.int .i64 0) (.int .i64 0) (.int .i64 0) (.int .i64 0) HX4.out
              have hbq := box_below (.int .i64 0) (.int .u32 0) (.slice none 0 0) (.slice none 0 0) (.int .i64 0) (.int .i64 0) (.int .i64 0) (.int .i64 0) (.int .i64 0) (.int .i64 0) (.int .i64 0) HB4.out (Nat.le_refl _)
              have q0 := hq.cell 0
              have q1 := hq.cell 1
              have q2 := hq.cell 2
              have q3 := hq.cell 3
              have q4 := hq.cell 4
              have q5 := hq.cell 5
              have q6 := hq.cell 6
              have q7 := hq.cell 7
              have q8 := hq.cell 8
              have q9 := hq.cell 9
              have q10 := hq.cell 10
              simp at q0 q1 q2 q3 q4 q5 q6 q7 q8 q9 q10
              exact bodyPost_ret (v := .tuple #[cfg0, .int .i64 (k : Int), .int .i64 4]) (by simp [results, Tryz.results14, go_sem, cfg0, q0, q1, q2, q3, q4, q5, q6, q7, q8, q9, q10]) rfl ⟨⟨cfg0, by rw [← HRES.out], by rw [← HRES.out]; exact ⟨CfgIs.zero _, CfgFresh.zero _⟩⟩, hbq⟩
            · rw [hv] at hlk
              have HEN := Lib.hid hen
              have HCALL := Lib.hid hcall
              clear hv hen hcall hW4
              have hbn := neq_fun f
              go_wp2_with fail
              rw [HEN.out]
              show Calls _ _ _ _ _
              refine HCALL.out.mono ?_
              rintro e w5 ⟨hres, hkb⟩
              have HK5 : Hid (Kb (w.heap.size + 3) (w.heap.size + 1) w1 w5) := Lib.hid (HK4.out.trans hkb)
              have HX5 : Hid (Whole w5 w.heap.size 28 #[.int .i64 0, .int .u32 0, .slice none 0 0, .slice none 0 0, .int .i64 0, .int .i64 0, .int .i64 0, .int .i64 0, .int .i64 0, .int .i64 0, .int .i64 0]) := Lib.hid ⟨(hkb.block w.heap.size (by omega) (by omega)).trans HX4.out.is⟩
              have HB5 : Hid (Below w.heap.size w w5) := Lib.hid (HB4.out.trans (hkb.below (by omega) (by omega)))
              clear hkb hlk
              cases hstep : stepC c st (cutA 32 l) (cutB 32 l) with
              | none =>
                rw [hstep] at hres
                have HRES : Hid (({}, k, 4) = RES) := Lib.hid (by have := HR2.out; rwa [hstep] at this)
                clear hstep
                obtain rfl := hres
                have b0 : w5.cell? ⟨w.heap.size, 0, none⟩ = some (.int .i64 0) := HX5.out.cell 0
                have f0 := HX5.out.frozen 0
                have b1 : w5.cell? ⟨w.heap.size, 1, none⟩ = some (.int .u32 0) := HX5.out.cell 1
                have f1 := HX5.out.frozen 1
                have b2 : w5.cell? ⟨w.heap.size, 2, none⟩ = some (.slice none 0 0) := HX5.out.cell 2
                have f2 := HX5.out.frozen 2
                have b3 : w5.cell? ⟨w.heap.size, 3, none⟩ = some (.slice none 0 0) := HX5.out.cell 3
                have f3 := HX5.out.frozen 3
                have b4 : w5.cell? ⟨w.heap.size, 4, none⟩ = some (.int .i64 0) := HX5.out.cell 4
                have f4 := HX5.out.frozen 4
                have b5 : w5.cell? ⟨w.heap.size, 5, none⟩ = some (.int .i64 0) := HX5.out.cell 5
                have f5 := HX5.out.frozen 5
                have b6 : w5.cell? ⟨w.heap.size, 6, none⟩ = some (.int .i64 0) := HX5.out.cell 6
                have f6 := HX5.out.frozen 6
                have b7 : w5.cell? ⟨w.heap.size, 7, none⟩ = some (.int .i64 0) := HX5.out.cell 7
                have f7 := HX5.out.frozen 7
                have b8 : w5.cell? ⟨w.heap.size, 8, none⟩ = some (.int .i64 0) := HX5.out.cell 8
                have f8 := HX5.out.frozen 8
                have b9 : w5.cell? ⟨w.heap.size, 9, none⟩ = some (.int .i64 0) := HX5.out.cell 9
                have f9 := HX5.out.frozen 9
                have b10 : w5.cell? ⟨w.heap.size, 10, none⟩ = some (.int .i64 0) := HX5.out.cell 10
                have f10 := HX5.out.frozen 10
                go_wp2
                try rw [Exit.noGoto_ret]
                have hq := box_end (.int .i64 0) (.int .u32 0) (.slice none 0 0) (.slice none 0 0) (.int .i64 0) (.int .i64 0) (.int .i64 0) (.int .i64 0) (.int .i64 0) (.int .i64 0) (.int .i64 0) HX5.out
                have hbq := box_below (.int .i64 0) (.int .u32 0) (.slice none 0 0) (.slice none 0 0) (.int .i64 0) (.int .i64 0) (.int .i64 0) (.int .i64 0) (.int .i64 0) (.int .i64 0) (.int .i64 0) HB5.out (Nat.le_refl _)
                have q0 := hq.cell 0
                have q1 := hq.cell 1
                have q2 := hq.cell 2
                have q3 := hq.cell 3
                have q4 := hq.cell 4
                have q5 := hq.cell 5
                have q6 := hq.cell 6
                have q7 := hq.cell 7
                have q8 := hq.cell 8
                have q9 := hq.cell 9
                have q10 := hq.cell 10
                simp at q0 q1 q2 q3 q4 q5 q6 q7 q8 q9 q10
                exact bodyPost_ret (v := .tuple #[cfg0, .int .i64 (k : Int), .int .i64 4]) (by simp [results, Tryz.results14, go_sem, cfg0, q0, q1, q2, q3, q4, q5, q6, q7, q8, q9, q10]) rfl ⟨⟨cfg0, by rw [← HRES.out], by rw [← HRES.out]; exact ⟨CfgIs.zero _, CfgFresh.zero _⟩⟩, hbq⟩
              | some q =>
                obtain ⟨c', st'⟩ := q
                rw [hstep] at hres
                have HRN : Hid (runC (splitOn 10 r') c' st' (k + 1) = RES) := Lib.hid (by have := HR2.out; rwa [hstep] at this)
                have HI5 := Lib.hid (stepC_inv HI.out hstep)
                clear hstep
                obtain ⟨rfl, hrd5⟩ := hres
                have HRD5 := Lib.hid hrd5
                clear hrd5
                have hk0 : (k : Int) < 9223372036854775807 := by omega
                go_wp2
                go_roundg (r'.length)
                case measure => rw [HG.out]; exact hlt
                case rel => exact ⟨k + 1, r', c', st', rfl, by go_num, rfl, rfl, by omega, HRN, HRD5, HI5, HK5⟩
          · have HRES : Hid (({}, k, 4) = RES) := Lib.hid (by have := HR1.out; rwa [if_neg h32] at this)
            have HC2 : Hid (Calls Tryz.prog 52 #[.string (str l), .string (str [32])] w3 fun e w' => e = .returned (.tuple #[.string (str (cutA 32 l)), .string (str (cutB 32 l)), .bool false]) ∧ Below w3.heap.size w3 w') := Lib.hid (by
              have := cut_full 32 l w3 hll E3
              rwa [cut_found, decide_eq_false h32] at this)
            clear h32
            go_wp2_with fail
            refine HC2.out.mono ?_
            rintro e w4 ⟨rfl, hb4⟩
            have HX4 := Lib.hid ((HX2.out.here hb3).here hb4)
            have HB4 := Lib.hid (HB2.out.trans ((hb3.mono HB2.out.size).trans (hb4.mono (Nat.le_trans HB2.out.size hb3.size))))
            have hlk := run_word (cutA 32 l) w4 (w.heap.size + 1 + 1) (((HW2.out.below hb3 (Array.getElem?_eq_some_iff.1 HW2.out).1).below hb4 (Nat.lt_of_lt_of_le (Array.getElem?_eq_some_iff.1 HW2.out).1 hb3.size)))
            have b0 : w4.cell? ⟨w.heap.size, 0, none⟩ = some (.int .i64 0) := HX4.out.cell 0
            have f0 := HX4.out.frozen 0
            have b1 : w4.cell? ⟨w.heap.size, 1, none⟩ = some (.int .u32 0) := HX4.out.cell 1
            have f1 := HX4.out.frozen 1
            have b2 : w4.cell? ⟨w.heap.size, 2, none⟩ = some (.slice none 0 0) := HX4.out.cell 2
            have f2 := HX4.out.frozen 2
            have b3 : w4.cell? ⟨w.heap.size, 3, none⟩ = some (.slice none 0 0) := HX4.out.cell 3
            have f3 := HX4.out.frozen 3
            have b4 : w4.cell? ⟨w.heap.size, 4, none⟩ = some (.int .i64 0) := HX4.out.cell 4
            have f4 := HX4.out.frozen 4
            have b5 : w4.cell? ⟨w.heap.size, 5, none⟩ = some (.int .i64 0) := HX4.out.cell 5
            have f5 := HX4.out.frozen 5
            have b6 : w4.cell? ⟨w.heap.size, 6, none⟩ = some (.int .i64 0) := HX4.out.cell 6
            have f6 := HX4.out.frozen 6
            have b7 : w4.cell? ⟨w.heap.size, 7, none⟩ = some (.int .i64 0) := HX4.out.cell 7
            have f7 := HX4.out.frozen 7
            have b8 : w4.cell? ⟨w.heap.size, 8, none⟩ = some (.int .i64 0) := HX4.out.cell 8
            have f8 := HX4.out.frozen 8
            have b9 : w4.cell? ⟨w.heap.size, 9, none⟩ = some (.int .i64 0) := HX4.out.cell 9
            have f9 := HX4.out.frozen 9
            have b10 : w4.cell? ⟨w.heap.size, 10, none⟩ = some (.int .i64 0) := HX4.out.cell 10
            have f10 := HX4.out.frozen 10
            go_wp2
            try rw [Exit.noGoto_ret]
            have hq := box_end (.int .i64 0) (.int .u32 0) (.slice none 0 0) (.slice none 0 0) (.int .i64 0) (.int .i64 0) (.int .i64 0) (.int .i64 0) (.int .i64 0) (.int .i64 0) (.int .i64 0) HX4.out
            have hbq := box_below (.int .i64 0) (.int .u32 0) (.slice none 0 0) (.slice none 0 0) (.int .i64 0) (.int .i64 0) (.int .i64 0) (.int .i64 0) (.int .i64 0) (.int .i64 0) (.int .i64 0) HB4.out (Nat.le_refl _)
            have q0 := hq.cell 0
            have q1 := hq.cell 1
            have q2 := hq.cell 2
            have q3 := hq.cell 3
            have q4 := hq.cell 4
            have q5 := hq.cell 5
            have q6 := hq.cell 6
            have q7 := hq.cell 7
            have q8 := hq.cell 8
            have q9 := hq.cell 9
            have q10 := hq.cell 10
            simp at q0 q1 q2 q3 q4 q5 q6 q7 q8 q9 q10
            exact bodyPost_ret (v := .tuple #[cfg0, .int .i64 (k : Int), .int .i64 4]) (by simp [results, Tryz.results14, go_sem, cfg0, q0, q1, q2, q3, q4, q5, q6, q7, q8, q9, q10]) rfl ⟨⟨cfg0, by rw [← HRES.out], by rw [← HRES.out]; exact ⟨CfgIs.zero _, CfgFresh.zero _⟩⟩, hbq⟩
        · have HRES : Hid (({}, k, 4) = RES) := Lib.hid (by have := HRUN.out; rwa [runC_open r c st k hr h10] at this)
          obtain ⟨e1, e2⟩ := cut_none 10 r h10
          have HC1 : Hid (∀ W, Env W → Calls Tryz.prog 52 #[.string (str r), .string (str [10])] W fun e w' => e = .returned (.tuple #[.string (str r), .string (str []), .bool false]) ∧ Below W.heap.size W w') := Lib.hid (fun W hE => by
            have := cut_full 10 r W hrl hE
            rwa [cut_found, decide_eq_false h10, e1, e2] at this)
          clear hr h10 e1 e2
          go_wp2_with fail
          refine (HC1.out _ E2).mono ?_
          rintro e w3 ⟨rfl, hb3⟩
          have E3 := E2.here hb3
          have HC2 : Hid (∃ b, Calls Tryz.prog 52 #[.string (str r), .string (str [32])] w3 fun e w' => e = .returned (.tuple #[.string (str (cutA 32 r)), .string (str (cutB 32 r)), .bool b]) ∧ Below w3.heap.size w3 w') := Lib.hid ⟨_, cut_full 32 r w3 hrl E3⟩
          go_wp2_with fail
          obtain ⟨b, hC2⟩ := HC2.out
          refine hC2.mono ?_
          rintro e w4 ⟨rfl, hb4⟩
          clear hC2
          have HX4 := Lib.hid ((HX2.out.here hb3).here hb4)
          have HB4 := Lib.hid (HB2.out.trans ((hb3.mono HB2.out.size).trans (hb4.mono (Nat.le_trans HB2.out.size hb3.size))))
          have hW4 : IsWords w4 (w.heap.size + 1 + 1) := (HW2.out.below hb3 (Array.getElem?_eq_some_iff.1 HW2.out).1).below hb4 (Nat.lt_of_lt_of_le (Array.getElem?_eq_some_iff.1 HW2.out).1 hb3.size)
          have hlk := run_word (cutA 32 r) w4 (w.heap.size + 1 + 1) hW4
          have b0 : w4.cell? ⟨w.heap.size, 0, none⟩ = some (.int .i64 0) := HX4.out.cell 0
          have f0 := HX4.out.frozen 0
          have b1 : w4.cell? ⟨w.heap.size, 1, none⟩ = some (.int .u32 0) := HX4.out.cell 1
          have f1 := HX4.out.frozen 1
          have b2 : w4.cell? ⟨w.heap.size, 2, none⟩ = some (.slice none 0 0) := HX4.out.cell 2
          have f2 := HX4.out.frozen 2
          have b3 : w4.cell? ⟨w.heap.size, 3, none⟩ = some (.slice none 0 0) := HX4.out.cell 3
          have f3 := HX4.out.frozen 3
          have b4 : w4.cell? ⟨w.heap.size, 4, none⟩ = some (.int .i64 0) := HX4.out.cell 4
          have f4 := HX4.out.frozen 4
          have b5 : w4.cell? ⟨w.heap.size, 5, none⟩ = some (.int .i64 0) := HX4.out.cell 5
          have f5 := HX4.out.frozen 5
          have b6 : w4.cell? ⟨w.heap.size, 6, none⟩ = some (.int .i64 0) := HX4.out.cell 6
          have f6 := HX4.out.frozen 6
          have b7 : w4.cell? ⟨w.heap.size, 7, none⟩ = some (.int .i64 0) := HX4.out.cell 7
          have f7 := HX4.out.frozen 7
          have b8 : w4.cell? ⟨w.heap.size, 8, none⟩ = some (.int .i64 0) := HX4.out.cell 8
          have f8 := HX4.out.frozen 8
          have b9 : w4.cell? ⟨w.heap.size, 9, none⟩ = some (.int .i64 0) := HX4.out.cell 9
          have f9 := HX4.out.frozen 9
          have b10 : w4.cell? ⟨w.heap.size, 10, none⟩ = some (.int .i64 0) := HX4.out.cell 10
          have f10 := HX4.out.frozen 10
          clear hW4
          go_wp2
          try rw [Exit.noGoto_ret]
          have hq := box_end (.int .i64 0) (.int .u32 0) (.slice none 0 0) (.slice none 0 0) (.int .i64 0) (.int .i64 0) (.int .i64 0) (.int .i64 0) (.int .i64 0) (.int .i64 0) (.int .i64 0) HX4.out
          have hbq := box_below (.int .i64 0) (.int .u32 0) (.slice none 0 0) (.slice none 0 0) (.int .i64 0) (.int .i64 0) (.int .i64 0) (.int .i64 0) (.int .i64 0) (.int .i64 0) (.int .i64 0) HB4.out (Nat.le_refl _)
          have q0 := hq.cell 0
          have q1 := hq.cell 1
          have q2 := hq.cell 2
          have q3 := hq.cell 3
          have q4 := hq.cell 4
          have q5 := hq.cell 5
          have q6 := hq.cell 6
          have q7 := hq.cell 7
          have q8 := hq.cell 8
          have q9 := hq.cell 9
          have q10 := hq.cell 10
          simp at q0 q1 q2 q3 q4 q5 q6 q7 q8 q9 q10
          exact bodyPost_ret (v := .tuple #[cfg0, .int .i64 (k : Int), .int .i64 4]) (by simp [results, Tryz.results14, go_sem, cfg0, q0, q1, q2, q3, q4, q5, q6, q7, q8, q9, q10]) rfl ⟨⟨cfg0, by rw [← HRES.out], by rw [← HRES.out]; exact ⟨CfgIs.zero _, CfgFresh.zero _⟩⟩, hbq⟩
end Go.Proofs.YtfbangojgjcbcaaGreatDoor
namespace Go.Proofs.YtfbangojgjcbcaaGreatDoor.Pl
def goodTo (l : List Pr) (j : Nat) : Prop := rising (l.take j) = true ∧ (l.take j).all (fun p => mayP p.1 p.2) = true
theorem goodTo.start (l : List Pr) : goodTo l 0 := ⟨rfl, rfl⟩
theorem goodTo.first {l : List Pr} {p : Pr} (hp : l[0]? = some p) (hm : mayP p.1 p.2 = true) : goodTo l (0 + 1) := by
  have e : l.take (0 + 1) = [p] := by
    cases l with
    | nil => simp at hp
    | cons x l => simp at hp; subst hp; simp
  unfold goodTo
  rw [e]
  exact ⟨rfl, by simp [hm]⟩
theorem goodTo.next {l : List Pr} {j : Nat} {z p : Pr} (h : goodTo l (j + 1)) (hz : l[j]? = some z) (hp : l[j + 1]? = some p) (hm : mayP p.1 p.2 = true) (hc : cmpP z.1 z.2 p.1 p.2 = -1) : goodTo l (j + 1 + 1) := by
  obtain ⟨h1, h2⟩ := h
  have e1 : l.take (j + 1) = l.take j ++ [z] := by rw [List.take_add_one, hz]; rfl
  have e2 := take_two hz hp
  unfold goodTo
  rw [e2, rising_snoc2, ← e1, h1]
  refine ⟨by rw [hc]; rfl, ?_⟩
  rw [show l.take j ++ [z, p] = l.take (j + 1) ++ [p] by rw [e1]; simp, List.all_append, h2]
  simp [hm]
theorem goodTo.done {l : List Pr} {j : Nat} (h : goodTo l j) (hj : j = l.length ∨ (j = 9 ∧ 9 ≤ l.length)) : ownOk l = inI l.length 1 8 := by
  rcases hj with rfl | ⟨rfl, hl⟩
  · obtain ⟨h1, h2⟩ := h
    rw [List.take_length] at h1 h2
    unfold ownOk inI
    rw [h1, h2]
    simp
    rw [Bool.eq_iff_iff]; simp; omega
  · have : inI l.length 1 8 = false := by unfold inI; simp; omega
    rw [this]; exact ownOk_len (by omega)
theorem mem_at {l : List Pr} {j : Nat} {p : Pr} (hp : l[j]? = some p) : p ∈ l := List.mem_of_getElem? hp
end Go.Proofs.YtfbangojgjcbcaaGreatDoor.Pl
namespace Go.Proofs.YtfbangojgjcbcaaGreatDoor
open Go.RowKit Pl
end Go.Proofs.YtfbangojgjcbcaaGreatDoor
namespace Go.Proofs.YtfbangojgjcbcaaGreatDoor
open Go.RowKit Pl
end Go.Proofs.YtfbangojgjcbcaaGreatDoor
namespace Go.Proofs.YtfbangojgjcbcaaGreatDoor.Pl
open Go.Lib (decDigits itoa)
theorem itoa_len {n : Int} (h : 0 ≤ n) (h2 : n < 1000000000) : (itoa n).length ≤ 9 := by
  obtain ⟨m, rfl⟩ := Int.eq_ofNat_of_zero_le h
  rw [itoa_nat]
  have := (dec_isNum m (by omega)).1
  unfold isNum at this
  simp only [Bool.and_eq_true, decide_eq_true_eq] at this
  exact this.1.1.2
theorem lines_len {c : Cfg} (h : mayC c = true) : (∀ l ∈ linesP c, l.length ≤ 40) ∧ (linesP c).length ≤ 25 := by
  obtain ⟨h1, h2, h3, h4, h5, h6, h7, h8, h9, h10, h11, h12⟩ := mayC_parts h
  constructor
  · intro l hl
    unfold linesP heads tails at hl
    simp only [List.mem_append, List.mem_cons, List.not_mem_nil, or_false, List.mem_map] at hl
    have num : ∀ (w : List UInt8) (n : Int), w.length ≤ 10 → 0 ≤ n → n < 1000000000 → (lnNum w n).length ≤ 40 := fun w n k1 k2 k3 => by
      have := itoa_len k2 k3
      unfold lnNum; simp; omega
    rcases hl with (((rfl | rfl) | ⟨p, hp, rfl⟩) | ⟨p, hp, rfl⟩) | rfl | rfl | rfl | rfl | rfl | rfl | rfl
    · exact num _ _ (by decide) (by omega) (by omega)
    · have := addrText_len c.addr.toNat
      unfold lnAddr; simp [wAddress]; omega
    · have hm : mayP p.1 p.2 = true := by
        unfold ownOk at h1
        simp only [Bool.and_eq_true, List.all_eq_true] at h1
        exact h1.1.2 p hp
      obtain ⟨hn0, hn1, _⟩ := (mayP_iff _ _).1 hm
      have e1 := addrText_len p.1.toNat
      have e2 := dec_len p.2.toNat (by omega)
      unfold lnOwn prefixText; simp [wOwn]; omega
    · have := (List.all_eq_true.1 h3) p hp
      unfold portOk at this
      simp only [Bool.and_eq_true, inI_iff] at this
      have e1 := itoa_len (n := p.1) (by omega) (by omega)
      have e2 := itoa_len (n := p.2) (by omega) (by omega)
      unfold lnPort; simp [wPort]; omega
    · exact num _ _ (by decide) (by omega) (by omega)
    · exact num _ _ (by decide) (by omega) (by omega)
    · exact num _ _ (by decide) (by omega) (by omega)
    · exact num _ _ (by decide) (by omega) (by omega)
    · exact num _ _ (by decide) (by omega) (by omega)
    · exact num _ _ (by decide) (by omega) (by omega)
    · exact num _ _ (by decide) (by omega) (by omega)
  · have h8' : c.own.length ≤ 8 := by
      unfold ownOk at h1
      simp only [Bool.and_eq_true, decide_eq_true_eq] at h1
      exact h1.1.1.2
    unfold linesP heads tails; simp; omega
end Go.Proofs.YtfbangojgjcbcaaGreatDoor.Pl
namespace Go.Proofs.YtfbangojgjcbcaaGreatDoor.Pl
open Go.Lib (decDigits itoa)
def tailsTo (c : Cfg) (k : Nat) : List (List UInt8) := (tails c).take k
/-- The lines that were read up to a stage. -/
def partL (c : Cfg) (st : Nat) : List (List UInt8) := (if 1 ≤ st then [lnNum wNode c.node] else []) ++ (if 2 ≤ st then [lnAddr c.addr] else []) ++ c.own.map lnOwn ++ c.ports.map lnPort ++ tailsTo c (st - 3)
structure SInv (c : Cfg) (st : Nat) : Prop where
  le : st ≤ 10
  node : 1 ≤ st → 1 ≤ c.node ∧ c.node ≤ 16
  addr : 2 ≤ st → 0 ≤ c.addr ∧ c.addr < 4294967296
  own0 : st < 3 → c.own = []
  own : 3 ≤ st → ownOk c.own = true
  ports0 : st < 3 → c.ports = []
  ports : c.ports.length ≤ 8 ∧ c.ports.all portOk = true
  owns : ∀ p ∈ c.own, 0 ≤ p.1 ∧ p.1 < 4294967296
  hello : 4 ≤ st → hasAny c.own c.addr = true ∧ 1 ≤ c.hello ∧ c.hello ≤ 100
  dead : 5 ≤ st → c.hello + 1 ≤ c.dead ∧ c.dead ≤ 100
  again : 6 ≤ st → 1 ≤ c.again ∧ c.again ≤ 100
  room : 7 ≤ st → 0 ≤ c.room ∧ c.room ≤ 64
  queue : 8 ≤ st → 1 ≤ c.queue ∧ c.queue ≤ 64
  tokens : 9 ≤ st → 0 ≤ c.tokens ∧ c.tokens ≤ 64
  refill : 10 ≤ st → 1 ≤ c.refill ∧ c.refill ≤ 100
theorem SInv.start : SInv {} 0 := ⟨by omega, fun h => by omega, fun h => by omega, fun _ => rfl, fun h => by omega, fun _ => rfl, by simp, by simp, fun h => by omega, fun h => by omega, fun h => by omega, fun h => by omega, fun h => by omega, fun h => by omega, fun h => by omega⟩
theorem portIn_some {s : List UInt8} {p : Int × Int} (h : portIn s = some p) : s = itoa p.1 ++ 32 :: itoa p.2 ∧ portOk p = true := by
  unfold portIn at h
  split at h
  · rename_i x y hs
    split at h
    · rename_i c m hc hm
      injection h with h
      subst h
      obtain ⟨rfl, h1, h2⟩ := numIn_some hc
      obtain ⟨rfl, h3, h4⟩ := numIn_some hm
      refine ⟨?_, ?_⟩
      · have := splitOn_join 32 s
        rw [hs] at this
        rw [← this]; simp [Go.Lib.join, List.intercalate, List.intersperse]
      · unfold portOk
        simp only [Bool.and_eq_true, inI_iff]
        exact ⟨⟨by omega, by omega⟩, by omega, by omega⟩
    · cases h
  · cases h
theorem stepC_part {c c' : Cfg} {st st' : Nat} {w s : List UInt8} (h : SInv c st) (hs : stepC c st w s = some (c', st')) : SInv c' st' ∧ partL c' st' = partL c st ++ [w ++ 32 :: s] := by
  obtain ⟨hle, hnode, haddr, hown0, hown, hports0, hports, howns, hhello, hdead, hagain, hroom, hqueue, htokens, hrefill⟩ := h
  unfold stepC at hs
  by_cases e0 : w = wNode
  · rw [if_pos e0] at hs
    split at hs
    · rename_i hst
      obtain ⟨n, hn, hq⟩ := Option.map_eq_some_iff.1 hs
      injection hq with q1 q2
      subst q1 q2 hst e0
      obtain ⟨rfl, h1, h2⟩ := numIn_some hn
      refine ⟨⟨by omega, fun _ => ⟨by omega, by omega⟩, fun h => by omega, fun _ => hown0 (by omega), fun h => by omega, fun _ => hports0 (by omega), hports, howns, fun h => by omega, fun h => by omega, fun h => by omega, fun h => by omega, fun h => by omega, fun h => by omega, fun h => by omega⟩, ?_⟩
      unfold partL tailsTo; rw [hown0 (by omega), hports0 (by omega)]; simp [lnNum]
    · cases hs
  rw [if_neg e0] at hs
  by_cases e1 : w = wAddress
  · rw [if_pos e1] at hs
    split at hs
    · rename_i hst
      obtain ⟨n, hn, hq⟩ := Option.map_eq_some_iff.1 hs
      injection hq with q1 q2
      subst q1 q2 hst e1
      obtain ⟨rfl, h1⟩ := addrOf_some s n hn
      refine ⟨⟨by omega, fun _ => hnode (by omega), fun _ => ⟨by simp only; omega, by simp only; omega⟩, fun _ => hown0 (by omega), fun h => by omega, fun _ => hports0 (by omega), hports, howns, fun h => by omega, fun h => by omega, fun h => by omega, fun h => by omega, fun h => by omega, fun h => by omega, fun h => by omega⟩, ?_⟩
      unfold partL tailsTo; rw [hown0 (by omega), hports0 (by omega)]; simp [lnAddr]
    · cases hs
  rw [if_neg e1] at hs
  by_cases e2 : w = wOwn
  · rw [if_pos e2] at hs
    split at hs
    · rename_i hst
      split at hs
      · rename_i a n hp
        split at hs
        · rename_i hok
          injection hs with hq
          injection hq with q1 q2
          subst q1 q2 e2
          obtain ⟨rfl, ha, hm⟩ := prefixOf_some s a n hp
          have hpo : c.ports = [] := by rcases hst with h | h; exact hports0 (by omega); exact h.2
          have hst23 : 2 ≤ st ∧ st ≤ 3 := by rcases hst with h | h; omega; have := h.1; omega
          refine ⟨⟨by omega, fun _ => hnode (by omega), fun _ => haddr (by omega), fun h => by omega, fun _ => hok, fun h => by omega, hports, fun p hp => ?_, fun h => by omega, fun h => by omega, fun h => by omega, fun h => by omega, fun h => by omega, fun h => by omega, fun h => by omega⟩, ?_⟩
          · simp only [List.mem_append, List.mem_singleton] at hp
            rcases hp with hp | rfl
            · exact howns p hp
            · exact ⟨by simp only; omega, by simp only; omega⟩
          · unfold partL tailsTo
            rw [hpo, if_pos (show 1 ≤ 3 by omega), if_pos (show 2 ≤ 3 by omega), if_pos (show 1 ≤ st by omega), if_pos (show 2 ≤ st by omega), show st - 3 = 0 by omega]
            simp [lnOwn]
        · cases hs
      · cases hs
    · cases hs
  rw [if_neg e2] at hs
  by_cases e3 : w = wPort
  · rw [if_pos e3] at hs
    split at hs
    · rename_i hst
      obtain ⟨p, hp, hq⟩ := Option.map_eq_some_iff.1 hs
      injection hq with q1 q2
      obtain ⟨hst, hany, h8⟩ := hst
      subst q1 q2 hst e3
      obtain ⟨rfl, hpo⟩ := portIn_some hp
      refine ⟨⟨by omega, fun _ => hnode (by omega), fun _ => haddr (by omega), fun h => by omega, fun _ => hown (by omega), fun h => by omega, ⟨by simp; omega, ?_⟩, howns, fun h => by omega, fun h => by omega, fun h => by omega, fun h => by omega, fun h => by omega, fun h => by omega, fun h => by omega⟩, ?_⟩
      · simp only [List.all_append, Bool.and_eq_true, List.all_cons, List.all_nil, Bool.and_true]
        exact ⟨hports.2, hpo⟩
      · unfold partL tailsTo; simp [lnPort]
    · cases hs
  rw [if_neg e3] at hs
  by_cases e4 : w = wHello
  · rw [if_pos e4] at hs
    split at hs
    · rename_i hst
      obtain ⟨n, hn, hq⟩ := Option.map_eq_some_iff.1 hs
      injection hq with q1 q2
      obtain ⟨hst, hany⟩ := hst
      subst q1 q2 hst e4
      obtain ⟨rfl, h1, h2⟩ := numIn_some hn
      refine ⟨⟨by omega, fun _ => hnode (by omega), fun _ => haddr (by omega), fun h => by omega, fun _ => hown (by omega), fun h => by omega, hports, howns, fun _ => ⟨hany, by simp only; omega, by simp only; omega⟩, fun h => by omega, fun h => by omega, fun h => by omega, fun h => by omega, fun h => by omega, fun h => by omega⟩, ?_⟩
      unfold partL tailsTo tails; simp [lnNum]
    · cases hs
  rw [if_neg e4] at hs
  by_cases e5 : w = wDead
  · rw [if_pos e5] at hs
    split at hs
    · rename_i hst
      obtain ⟨n, hn, hq⟩ := Option.map_eq_some_iff.1 hs
      injection hq with q1 q2
      subst q1 q2 hst e5
      obtain ⟨rfl, h1, h2⟩ := numIn_some hn
      refine ⟨⟨by omega, fun _ => hnode (by omega), fun _ => haddr (by omega), fun h => by omega, fun _ => hown (by omega), fun h => by omega, hports, howns, fun _ => hhello (by omega), fun _ => ⟨by have := hhello (by omega); simp only; omega, by simp only; omega⟩, fun h => by omega, fun h => by omega, fun h => by omega, fun h => by omega, fun h => by omega⟩, ?_⟩
      unfold partL tailsTo tails; simp [lnNum]
    · cases hs
  rw [if_neg e5] at hs
  by_cases e6 : w = wAgain
  · rw [if_pos e6] at hs
    split at hs
    · rename_i hst
      obtain ⟨n, hn, hq⟩ := Option.map_eq_some_iff.1 hs
      injection hq with q1 q2
      subst q1 q2 hst e6
      obtain ⟨rfl, h1, h2⟩ := numIn_some hn
      refine ⟨⟨by omega, fun _ => hnode (by omega), fun _ => haddr (by omega), fun h => by omega, fun _ => hown (by omega), fun h => by omega, hports, howns, fun _ => hhello (by omega), fun _ => hdead (by omega), fun _ => ⟨by simp only; omega, by simp only; omega⟩, fun h => by omega, fun h => by omega, fun h => by omega, fun h => by omega⟩, ?_⟩
      unfold partL tailsTo tails; simp [lnNum]
    · cases hs
  rw [if_neg e6] at hs
  by_cases e7 : w = wRoom
  · rw [if_pos e7] at hs
    split at hs
    · rename_i hst
      obtain ⟨n, hn, hq⟩ := Option.map_eq_some_iff.1 hs
      injection hq with q1 q2
      subst q1 q2 hst e7
      obtain ⟨rfl, h1, h2⟩ := numIn_some hn
      refine ⟨⟨by omega, fun _ => hnode (by omega), fun _ => haddr (by omega), fun h => by omega, fun _ => hown (by omega), fun h => by omega, hports, howns, fun _ => hhello (by omega), fun _ => hdead (by omega), fun _ => hagain (by omega), fun _ => ⟨by simp only; omega, by simp only; omega⟩, fun h => by omega, fun h => by omega, fun h => by omega⟩, ?_⟩
      unfold partL tailsTo tails; simp [lnNum]
    · cases hs
  rw [if_neg e7] at hs
  by_cases e8 : w = wQueue
  · rw [if_pos e8] at hs
    split at hs
    · rename_i hst
      obtain ⟨n, hn, hq⟩ := Option.map_eq_some_iff.1 hs
      injection hq with q1 q2
      subst q1 q2 hst e8
      obtain ⟨rfl, h1, h2⟩ := numIn_some hn
      refine ⟨⟨by omega, fun _ => hnode (by omega), fun _ => haddr (by omega), fun h => by omega, fun _ => hown (by omega), fun h => by omega, hports, howns, fun _ => hhello (by omega), fun _ => hdead (by omega), fun _ => hagain (by omega), fun _ => hroom (by omega), fun _ => ⟨by simp only; omega, by simp only; omega⟩, fun h => by omega, fun h => by omega⟩, ?_⟩
      unfold partL tailsTo tails; simp [lnNum]
    · cases hs
  rw [if_neg e8] at hs
  by_cases e9 : w = wTokens
  · rw [if_pos e9] at hs
    split at hs
    · rename_i hst
      obtain ⟨n, hn, hq⟩ := Option.map_eq_some_iff.1 hs
      injection hq with q1 q2
      subst q1 q2 hst e9
      obtain ⟨rfl, h1, h2⟩ := numIn_some hn
      refine ⟨⟨by omega, fun _ => hnode (by omega), fun _ => haddr (by omega), fun h => by omega, fun _ => hown (by omega), fun h => by omega, hports, howns, fun _ => hhello (by omega), fun _ => hdead (by omega), fun _ => hagain (by omega), fun _ => hroom (by omega), fun _ => hqueue (by omega), fun _ => ⟨by simp only; omega, by simp only; omega⟩, fun h => by omega⟩, ?_⟩
      unfold partL tailsTo tails; simp [lnNum]
    · cases hs
  rw [if_neg e9] at hs
  by_cases e10 : w = wRefill
  · rw [if_pos e10] at hs
    split at hs
    · rename_i hst
      obtain ⟨n, hn, hq⟩ := Option.map_eq_some_iff.1 hs
      injection hq with q1 q2
      subst q1 q2 hst e10
      obtain ⟨rfl, h1, h2⟩ := numIn_some hn
      refine ⟨⟨by omega, fun _ => hnode (by omega), fun _ => haddr (by omega), fun h => by omega, fun _ => hown (by omega), fun h => by omega, hports, howns, fun _ => hhello (by omega), fun _ => hdead (by omega), fun _ => hagain (by omega), fun _ => hroom (by omega), fun _ => hqueue (by omega), fun _ => htokens (by omega), fun _ => ⟨by simp only; omega, by simp only; omega⟩⟩, ?_⟩
      unfold partL tailsTo tails; simp [lnNum]
    · cases hs
  rw [if_neg e10] at hs
  cases hs
theorem cut_self : ∀ (l : List UInt8), 32 ∈ l → l = cutA 32 l ++ 32 :: cutB 32 l := by
  intro l h
  obtain ⟨a, b, rfl, ha⟩ : ∃ a b : List UInt8, l = a ++ 32 :: b ∧ (32 : UInt8) ∉ a := by
    induction l with
    | nil => simp at h
    | cons x l ih =>
      by_cases hx : x = 32
      · subst hx; exact ⟨[], l, rfl, by simp⟩
      · have hl : 32 ∈ l := by
          rcases List.mem_cons.1 h with e | e
          · exact absurd e.symm hx
          · exact e
        obtain ⟨a, b, rfl, ha⟩ := ih hl
        exact ⟨x :: a, b, rfl, by simp only [List.mem_cons, not_or]; exact ⟨fun e => hx e.symm, ha⟩⟩
  obtain ⟨h1, h2⟩ := cut_app 32 a b ha
  rw [h1, h2]
theorem runL_part : ∀ (ls : List (List UInt8)) {c c' : Cfg} {st st' : Nat}, SInv c st → runL ls c st = some (c', st') → SInv c' st' ∧ partL c' st' = partL c st ++ ls
  | [], c, c', st, st', h, hr => by simp [runL] at hr; obtain ⟨rfl, rfl⟩ := hr; exact ⟨h, by simp⟩
  | l :: ls, c, c', st, st', h, hr => by
    simp only [runL] at hr
    split at hr
    · rename_i h32
      cases hs : stepC c st (cutA 32 l) (cutB 32 l) with
      | none => rw [hs] at hr; cases hr
      | some q =>
        obtain ⟨c1, st1⟩ := q
        rw [hs] at hr
        obtain ⟨k1, k2⟩ := stepC_part h hs
        obtain ⟨k3, k4⟩ := runL_part ls k1 hr
        rw [← cut_self l h32] at k2
        exact ⟨k3, by rw [k4, k2]; simp⟩
    · cases hr
theorem runC_ok : ∀ (ls : List (List UInt8)) {c d : Cfg} {st n m : Nat}, runC ls c st n = (d, m, 0) → m = 0 ∧ ∃ ls0, ls = ls0 ++ [[]] ∧ runL ls0 c st = some (d, 10)
  | [], c, d, st, n, m, h => by simp [runC] at h
  | [l], c, d, st, n, m, h => by
    unfold runC at h
    split at h
    · rename_i hc
      obtain ⟨rfl, rfl⟩ := hc
      simp at h
      obtain ⟨rfl, rfl⟩ := h
      exact ⟨rfl, [], rfl, rfl⟩
    · simp at h
  | l :: l' :: ls, c, d, st, n, m, h => by
    unfold runC at h
    split at h
    · rename_i h32
      cases hs : stepC c st (cutA 32 l) (cutB 32 l) with
      | none => rw [hs] at h; simp at h
      | some q =>
        obtain ⟨c1, st1⟩ := q
        rw [hs] at h
        obtain ⟨rfl, ls0, e1, e2⟩ := runC_ok (l' :: ls) h
        refine ⟨rfl, l :: ls0, by rw [e1]; rfl, ?_⟩
        simp only [runL]
        rw [if_pos h32, hs]; exact e2
    · simp at h
theorem join_lines : ∀ (ls : List (List UInt8)), Go.Lib.join (ls ++ [[]]) [10] = ls.flatMap (· ++ [10])
  | [] => rfl
  | l :: ls => by
    have ih := join_lines ls
    cases ls with
    | nil => simp [Go.Lib.join, List.intercalate, List.intersperse]
    | cons l' ls => simp [Go.Lib.join, List.intercalate, List.intersperse] at ih ⊢; rw [ih]
/-- What a text is read as may be, and has that text. -/
theorem parse_sound {s : List UInt8} {d : Cfg} {m : Nat} (h : parseC s = (d, m, 0)) : m = 0 ∧ mayC d = true ∧ Addrs4 d ∧ textP d = s := by
  unfold parseC at h
  split at h
  · simp at h
  · obtain ⟨rfl, ls0, e1, e2⟩ := runC_ok _ h
    obtain ⟨k, hk⟩ := runL_part ls0 SInv.start e2
    have hl : linesP d = ls0 := by
      have : partL d 10 = linesP d := by unfold partL tailsTo linesP heads tails; simp
      rw [← this, hk]; rfl
    refine ⟨rfl, mayC_of (k.own (by omega)) k.ports.1 k.ports.2 (k.hello (by omega)).1 (k.node (by omega)) (k.hello (by omega)).2 (k.dead (by omega)) (k.again (by omega)) (k.room (by omega)) (k.queue (by omega)) (k.tokens (by omega)) (k.refill (by omega)), ⟨k.addr (by omega), k.owns⟩, ?_⟩
    have hj := splitOn_join 10 s
    rw [e1, join_lines] at hj
    unfold textP; rw [hl]; exact hj
end Go.Proofs.YtfbangojgjcbcaaGreatDoor.Pl
namespace Go.Proofs.YtfbangojgjcbcaaGreatDoor.Pl
theorem ownOk_may_all {l : List Pr} (h : ownOk l = true) {p : Pr} (hp : p ∈ l) : mayP p.1 p.2 = true := by
  unfold ownOk at h
  simp only [Bool.and_eq_true, List.all_eq_true] at h
  exact h.1.2 p hp
end Go.Proofs.YtfbangojgjcbcaaGreatDoor.Pl
namespace Go.Proofs.YtfbangojgjcbcaaGreatDoor
open Go.RowKit Pl
def Sv (l : List UInt8) : Value := .string (str l)
theorem itoa_size9 {n : Int} (h0 : 0 ≤ n) (h1 : n < 1000000000) : (str (Lib.itoa n)).size ≤ 9 := by rw [str_size]; exact itoa_len h0 h1
theorem prefixText_size {x n : Int} (_hx : IsAddr x) (hn : 0 ≤ n ∧ n ≤ 32) : (str (prefixText x.toNat n.toNat)).size ≤ 30 := by
  have h1 := addrText_len x.toNat
  have h2 := itoa_len hn.1 (by omega : n < 1000000000)
  have h3 : (Go.Lib.decDigits n.toNat).length ≤ 9 := by
    rw [show n = ((n.toNat : Nat) : Int) by omega, itoa_nat] at h2; exact h2
  rw [str_size]
  unfold prefixText
  simp only [List.length_append, List.length_cons]
  omega
theorem sv_cat (l m r : List UInt8) (h : l ++ m = r) : Value.string (str l ++ str m) = Sv r := by unfold Sv; rw [← h, str_append]
end Go.Proofs.YtfbangojgjcbcaaGreatDoor
