/- What the method does that a line's word names. Printed by confstep.py. -/
import Derived.Test.YtfbangojgjcbcaaGreatDoorConfK
import Derived.Test.YtfbangojgjcbcaaGreatDoorPlainX
namespace Go.Proofs.YtfbangojgjcbcaaGreatDoor
open Go.RowKit Pl

/-- A method does to the reader what the line says. -/
def StepsTo (f : Nat) (c : Cfg) (st : Nat) (l s : List UInt8) (B R : Nat) (w : World) : Prop :=
  (∀ args W, (callFunc f args).run Tryz.prog W = .ok (.enter f args) W) ∧
  Calls Tryz.prog f #[.pointer (some ⟨R, 0, none⟩), .string (str s)] w fun e w' => RdRes w B R (stepC c st l s) e w'
theorem step_any (l s : List UInt8) (c : Cfg) (st : Nat) (B R : Nat) (w : World) (h : Rd 89 w B R c (st : Int)) (E : Env w) (hNG : 8 ≤ B) (hBw : B ≤ w.heap.size) (hs : s.length ≤ 1000000) (hI : CInv c) :
    (wordV l = .nilFunc ∧ stepC c st l s = none) ∨ ∃ f, wordV l = .func (.func f) #[] #[] ∧ StepsTo f c st l s B R w := by
  by_cases e0 : l = wNode
  · subst e0
    refine .inr ⟨102, by kernel_rfl, enters_of Tryz.func102 (by kernel_rfl) rfl, ?_⟩
    have hm := mnode_any s c st B R w h E hNG hBw hs
    unfold stepC
    rw [if_pos rfl]
    exact hm
  by_cases e1 : l = wAddress
  · subst e1
    refine .inr ⟨103, by kernel_rfl, enters_of Tryz.func103 (by kernel_rfl) rfl, ?_⟩
    have hm := maddress_any s c st B R w h E hNG hBw hs
    unfold stepC
    rw [if_neg (show ¬ wAddress = wNode by decide), if_pos rfl]
    exact hm
  by_cases e2 : l = wOwn
  · subst e2
    refine .inr ⟨104, by kernel_rfl, enters_of Tryz.func104 (by kernel_rfl) rfl, ?_⟩
    have hm := mown_any s c st B R w h E hNG hBw hs hI.addrs hI.own hI.ports
    unfold stepC
    rw [if_neg (show ¬ wOwn = wNode by decide), if_neg (show ¬ wOwn = wAddress by decide), if_pos rfl]
    exact hm
  by_cases e3 : l = wPort
  · subst e3
    refine .inr ⟨105, by kernel_rfl, enters_of Tryz.func105 (by kernel_rfl) rfl, ?_⟩
    have hm := mport_any s c st B R w h E hNG hBw hs hI.addrs hI.own hI.ports
    unfold stepC
    rw [if_neg (show ¬ wPort = wNode by decide), if_neg (show ¬ wPort = wAddress by decide), if_neg (show ¬ wPort = wOwn by decide), if_pos rfl]
    exact hm
  by_cases e4 : l = wHello
  · subst e4
    refine .inr ⟨106, by kernel_rfl, enters_of Tryz.func106 (by kernel_rfl) rfl, ?_⟩
    have hm := mhello_any s c st B R w h E hNG hBw hs hI.addrs (Nat.le_trans hI.own (by decide))
    unfold stepC
    rw [if_neg (show ¬ wHello = wNode by decide), if_neg (show ¬ wHello = wAddress by decide), if_neg (show ¬ wHello = wOwn by decide), if_neg (show ¬ wHello = wPort by decide), if_pos rfl]
    exact hm
  by_cases e5 : l = wDead
  · subst e5
    refine .inr ⟨107, by kernel_rfl, enters_of Tryz.func107 (by kernel_rfl) rfl, ?_⟩
    have hm := mdead_any s c st B R w h E hNG hBw hs (fun _ => hI.hello)
    unfold stepC
    rw [if_neg (show ¬ wDead = wNode by decide), if_neg (show ¬ wDead = wAddress by decide), if_neg (show ¬ wDead = wOwn by decide), if_neg (show ¬ wDead = wPort by decide), if_neg (show ¬ wDead = wHello by decide), if_pos rfl]
    exact hm
  by_cases e6 : l = wAgain
  · subst e6
    refine .inr ⟨108, by kernel_rfl, enters_of Tryz.func108 (by kernel_rfl) rfl, ?_⟩
    have hm := magain_any s c st B R w h E hNG hBw hs
    unfold stepC
    rw [if_neg (show ¬ wAgain = wNode by decide), if_neg (show ¬ wAgain = wAddress by decide), if_neg (show ¬ wAgain = wOwn by decide), if_neg (show ¬ wAgain = wPort by decide), if_neg (show ¬ wAgain = wHello by decide), if_neg (show ¬ wAgain = wDead by decide), if_pos rfl]
    exact hm
  by_cases e7 : l = wRoom
  · subst e7
    refine .inr ⟨109, by kernel_rfl, enters_of Tryz.func109 (by kernel_rfl) rfl, ?_⟩
    have hm := mroom_any s c st B R w h E hNG hBw hs
    unfold stepC
    rw [if_neg (show ¬ wRoom = wNode by decide), if_neg (show ¬ wRoom = wAddress by decide), if_neg (show ¬ wRoom = wOwn by decide), if_neg (show ¬ wRoom = wPort by decide), if_neg (show ¬ wRoom = wHello by decide), if_neg (show ¬ wRoom = wDead by decide), if_neg (show ¬ wRoom = wAgain by decide), if_pos rfl]
    exact hm
  by_cases e8 : l = wQueue
  · subst e8
    refine .inr ⟨110, by kernel_rfl, enters_of Tryz.func110 (by kernel_rfl) rfl, ?_⟩
    have hm := mqueue_any s c st B R w h E hNG hBw hs
    unfold stepC
    rw [if_neg (show ¬ wQueue = wNode by decide), if_neg (show ¬ wQueue = wAddress by decide), if_neg (show ¬ wQueue = wOwn by decide), if_neg (show ¬ wQueue = wPort by decide), if_neg (show ¬ wQueue = wHello by decide), if_neg (show ¬ wQueue = wDead by decide), if_neg (show ¬ wQueue = wAgain by decide), if_neg (show ¬ wQueue = wRoom by decide), if_pos rfl]
    exact hm
  by_cases e9 : l = wTokens
  · subst e9
    refine .inr ⟨111, by kernel_rfl, enters_of Tryz.func111 (by kernel_rfl) rfl, ?_⟩
    have hm := mtokens_any s c st B R w h E hNG hBw hs
    unfold stepC
    rw [if_neg (show ¬ wTokens = wNode by decide), if_neg (show ¬ wTokens = wAddress by decide), if_neg (show ¬ wTokens = wOwn by decide), if_neg (show ¬ wTokens = wPort by decide), if_neg (show ¬ wTokens = wHello by decide), if_neg (show ¬ wTokens = wDead by decide), if_neg (show ¬ wTokens = wAgain by decide), if_neg (show ¬ wTokens = wRoom by decide), if_neg (show ¬ wTokens = wQueue by decide), if_pos rfl]
    exact hm
  by_cases e10 : l = wRefill
  · subst e10
    refine .inr ⟨112, by kernel_rfl, enters_of Tryz.func112 (by kernel_rfl) rfl, ?_⟩
    have hm := mrefill_any s c st B R w h E hNG hBw hs
    unfold stepC
    rw [if_neg (show ¬ wRefill = wNode by decide), if_neg (show ¬ wRefill = wAddress by decide), if_neg (show ¬ wRefill = wOwn by decide), if_neg (show ¬ wRefill = wPort by decide), if_neg (show ¬ wRefill = wHello by decide), if_neg (show ¬ wRefill = wDead by decide), if_neg (show ¬ wRefill = wAgain by decide), if_neg (show ¬ wRefill = wRoom by decide), if_neg (show ¬ wRefill = wQueue by decide), if_neg (show ¬ wRefill = wTokens by decide), if_pos rfl]
    exact hm
  refine .inl ⟨?_, stepC_none (fun e => absurd e e0) (fun e => absurd e e1) (fun e => absurd e e2) (fun e => absurd e e3) (fun e => absurd e e4) (fun e => absurd e e5) (fun e => absurd e e6) (fun e => absurd e e7) (fun e => absurd e e8) (fun e => absurd e e9) (fun e => absurd e e10)⟩
  have hw : wordFn l = none := by
    unfold wordFn wordsL
    simp only [List.find?_cons, List.find?_nil, decide_eq_false (fun e => e0 e.symm : ¬ wNode = l), decide_eq_false (fun e => e1 e.symm : ¬ wAddress = l), decide_eq_false (fun e => e2 e.symm : ¬ wOwn = l), decide_eq_false (fun e => e3 e.symm : ¬ wPort = l), decide_eq_false (fun e => e4 e.symm : ¬ wHello = l), decide_eq_false (fun e => e5 e.symm : ¬ wDead = l), decide_eq_false (fun e => e6 e.symm : ¬ wAgain = l), decide_eq_false (fun e => e7 e.symm : ¬ wRoom = l), decide_eq_false (fun e => e8 e.symm : ¬ wQueue = l), decide_eq_false (fun e => e9 e.symm : ¬ wTokens = l), decide_eq_false (fun e => e10 e.symm : ¬ wRefill = l)]
    rfl
  unfold wordV
  rw [hw]
end Go.Proofs.YtfbangojgjcbcaaGreatDoor
