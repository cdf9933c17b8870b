/- The law's loop that fills a block. -/
import Derived.Test.YtfmaapbibmnfgaaGreatDoorEvLd
import Derived.Test.YtfmaapbibmnfgaaGreatDoorEvLe
set_option linter.unusedSectionVars false
set_option linter.unusedVariables false
set_option linter.unusedSimpArgs false
namespace Go.Proofs.YtfmaapbibmnfgaaGreatDoor
open Go Go.Proofs.YtfmaapbibmnfgaaGreatDoor.Ev Go.RowKit
def sL : Code → Code
  | .seq a _ => a
  | c => c
def sR : Code → Code
  | .seq _ b => b
  | c => c
noncomputable def c3 : Code := ((Tryz.prog.funcs[3]?).bind (·.body)).getD .skip
def loopIn : Code → Code
  | .block _ (.loop b) => b
  | c => c
noncomputable def p0 : Code := sL c3
noncomputable def p1 : Code := sL (sR c3)
noncomputable def p2 : Code := sL (sR (sR c3))
noncomputable def p4 : Code := sL (sR (sR (sR c3)))
noncomputable def q5 : Code := sL (sR (sR (sR (sR c3))))
noncomputable def pt : Code := sR (sR (sR (sR (sR c3))))
noncomputable def lb : Code := loopIn (sR q5)
theorem c3_eq : c3 = .seq p0 (.seq p1 (.seq p2 (.seq p4 (.seq (.seq (sL q5) (.block 0 (.loop lb))) pt)))) := by kernel_rfl
theorem b3_eq : ((Tryz.prog.funcs[3]?).map fun f => (f.ntmps, f.body.isSome)) = some (173, true) := by kernel_rfl
/-! ### A round, told -/
noncomputable abbrev T (d : Nat) (fr : FrA) : AV := (tgF [] d).f fr.t
noncomputable def G (d : Nat) (fr : FrA) (v : AV) : FrA := ⟨(tsF [] d).f fr.t v, fr.ds⟩
noncomputable def qo (ev : Ev) (d : Nat) (f : FrA → AS → AN) (k : FrA → AS → R (FrA × AS)) : FrA → AS → R (FrA × AS) := fun fr s => bindR (oneN ev s (f fr s)) fun x => k (G d fr x.1) x.2
noncomputable def qn (ev : Ev) (f : FrA → AS → AN) (k : FrA → AS → R (FrA × AS)) : FrA → AS → R (FrA × AS) := fun fr s => bindR (oneN ev s (f fr s)) fun x => k fr x.2
noncomputable def qe : FrA → AS → R (FrA × AS) := fun fr s => .one (fr, s)
noncomputable def qr (k : FrA → AS → R (FrA × AS)) : FrA → AS → R (Out × AS) := fun fr s => bindR (k fr s) fun x => .one (.ex .normal x.1, x.2)
noncomputable def r6 (ev : Ev) := qr (qo ev 12 (fun fr _ => .get (T 3 fr)) (qo ev 13 (fun fr _ => .get (T 2 fr)) (qo ev 14 (fun fr s => (lenA Tryz.prog 24).f (T 13 fr) s) (qo ev 15 (fun fr s => (binA Tryz.prog false .lss 3).f (T 12 fr) (T 14 fr) s) qe))))
noncomputable def rc : FrA → AS → R (Out × AS) := fun fr s => vBool (T 15 fr) .no fun t => cB t (.one (.ex .normal fr, s)) (.one (.ex (.exit 0) fr, s))
noncomputable def r8 (ev : Ev) := qr (qo ev 18 (fun fr _ => .get (T 2 fr)) (qo ev 19 (fun fr _ => .get (T 3 fr)) (qo ev 20 (fun fr _ => (indexAddrA Tryz.prog 24).f (T 18 fr) (T 19 fr)) (qn ev (fun fr s => (storeA Tryz.prog 5).f (T 20 fr) (.int .u8 (.ofNat 120)) s) qe))))
noncomputable def rb (ev : Ev) : FrA → AS → R (Out × AS) := fun fr s => bindR (r8 ev fr s) fun y => cOut y.1 (fun _ => .no) fun e fr => cX e (.one y) (fun j => cB (Nat.beq 1 j) (.one (.ex .normal fr, y.2)) (.one y)) (.one y)
noncomputable def r7 (ev : Ev) := qr (qo ev 16 (fun fr _ => .get (T 3 fr)) (qo ev 17 (fun fr s => (binA Tryz.prog true .add 3).f (T 16 fr) (.int .i64 (.ofNat 1)) s) (qo ev 3 (fun fr _ => .get (T 17 fr)) qe)))
theorem lb_eq (ev : Ev) (fr : FrA) (s : AS) : (kCode Tryz.prog cfT [] 3 173 lb).f none ev fr s = thenA (thenA (r6 ev fr s) rc) fun fr s => thenA (rb ev fr s) (r7 ev) := by kernel_rfl
theorem len24 (b : Nam) (o n c : Nat) (s : AS) : (lenA Tryz.prog 24).f (.slice b o n c) s = intV n := by kernel_rfl
theorem lss3 (a b : Int) (s : AS) : (binA Tryz.prog false .lss 3).f (.int .i64 a) (.int .i64 b) s = .get (.bool (bNot (ile b a))) := by kernel_rfl
theorem add3 (a b : Int) (s : AS) : (binA Tryz.prog true .add 3).f (.int .i64 a) (.int .i64 b) s = .get (.int .i64 (wrapA .i64 (iadd a b))) := by kernel_rfl
theorem idx24 (b : Nam) (n c i : Nat) : (indexAddrA Tryz.prog 24).f (.slice b 0 n c) (.int .i64 (.ofNat i)) = cO (cB (Nat.blt i n) (some i) none) .no fun k => .get (.ptr b (Nat.add 0 (Nat.mul k 1))) := by kernel_rfl
theorem store5 (b : Nam) (o : Nat) (s : AS) : (storeA Tryz.prog 5).f (.ptr b o) (.int .u8 (.ofNat 120)) s = oCells (getA s b) .no fun m e cs => cMd m (putC m e s b (put [.int .u8 (.ofNat 120)] o cs)) (putC m e s b (put [.int .u8 (.ofNat 120)] o cs)) .no := by kernel_rfl
end Go.Proofs.YtfmaapbibmnfgaaGreatDoor
