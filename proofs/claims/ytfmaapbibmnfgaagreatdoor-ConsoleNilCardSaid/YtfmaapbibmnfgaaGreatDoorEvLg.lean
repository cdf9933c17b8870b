/- The law's loop that fills a block: a round, and all of them. -/
import Derived.Test.YtfmaapbibmnfgaaGreatDoorEvLf
set_option linter.unusedSectionVars false
set_option linter.unusedVariables false
set_option linter.unusedSimpArgs false
namespace Go.Proofs.YtfmaapbibmnfgaaGreatDoor
open Go Go.Proofs.YtfmaapbibmnfgaaGreatDoor.Ev Go.RowKit
set_option maxRecDepth 100000
theorem T_same (d : Nat) (fr : FrA) (v : AV) : T d (G d fr v) = v := tget_same v [] d fr.t
theorem T_ne {i j : Nat} (hi : i < 256) (hj : j < 256) (h : i ≠ j) (fr : FrA) (v : AV) : T i (G j fr v) = T i fr := tget_ne v hi hj h fr.t
theorem one_get (ev : Ev) (s : AS) (v : AV) : oneN ev s (.get v) = .one (v, s) := rfl
theorem one_val (ev : Ev) (s s' : AS) (v : AV) : oneN ev s (.val v s') = .one (v, s') := rfl
theorem bind_one {α β : Type} (x : α) (f : α → R β) : bindR (.one x) f = f x := rfl
noncomputable def frA (fr : FrA) (b : Nam) (m i : Nat) : FrA := G 14 (G 13 (G 12 fr (.int .i64 (.ofNat i))) (.slice b 0 m m)) (.int .i64 (.ofNat m))
noncomputable def frB (fr : FrA) (b : Nam) (m i : Nat) : FrA :=
  G 3 (G 17 (G 16 (G 20 (G 19 (G 18 (G 15 (frA fr b m i) (.bool true)) (.slice b 0 m m)) (.int .i64 (.ofNat i))) (.ptr b i)) (.int .i64 (.ofNat i))) (.int .i64 (.ofNat (i + 1)))) (.int .i64 (.ofNat (i + 1)))
theorem wrap_ok {i : Nat} (h : i + 1 < 9223372036854775808) : wrapA .i64 (iadd (.ofNat i) (.ofNat 1)) = .ofNat (i + 1) := by
  show cB (Nat.blt (Nat.add i 1) (hlf .i64)) (Int.ofNat (Nat.add i 1)) _ = _
  rw [show Nat.blt (Nat.add i 1) (hlf .i64) = true by simp [hlf, IntKind.signed, IntKind.bits]; exact h]; rfl
theorem head_run (ev : Ev) {fr : FrA} {S : AS} {b : Nam} {m i : Nat} (h2 : T 2 fr = .slice b 0 m m) (h3 : T 3 fr = .int .i64 (.ofNat i)) :
    r6 ev fr S = .one (.ex .normal (G 15 (frA fr b m i) (.bool (bNot (Nat.ble m i)))), S) := by
  have e2 : T 2 (G 12 fr (.int .i64 (.ofNat i))) = .slice b 0 m m := by rw [T_ne (by omega) (by omega) (by omega), h2]
  have e13 : T 13 (G 13 (G 12 fr (.int .i64 (.ofNat i))) (.slice b 0 m m)) = .slice b 0 m m := T_same _ _ _
  have e12 : T 12 (frA fr b m i) = .int .i64 (.ofNat i) := by unfold frA; rw [T_ne (by omega) (by omega) (by omega), T_ne (by omega) (by omega) (by omega), T_same]
  have e14 : T 14 (frA fr b m i) = .int .i64 (.ofNat m) := T_same _ _ _
  unfold r6 qr
  show bindR (bindR (oneN ev S (.get (T 3 fr))) _) _ = _
  rw [h3, one_get, bind_one]
  show bindR (bindR (oneN ev S (.get (T 2 (G 12 fr (.int .i64 (.ofNat i)))))) _) _ = _
  rw [e2, one_get, bind_one]
  show bindR (bindR (oneN ev S ((lenA Tryz.prog 24).f (T 13 (G 13 (G 12 fr (.int .i64 (.ofNat i))) (.slice b 0 m m))) S)) _) _ = _
  rw [e13, len24, show intV m = .get (.int .i64 (.ofNat m)) from rfl, one_get, bind_one]
  show bindR (bindR (oneN ev S ((binA Tryz.prog false .lss 3).f (T 12 (frA fr b m i)) (T 14 (frA fr b m i)) S)) _) _ = _
  rw [e12, e14, lss3, one_get, bind_one]
  rfl
theorem round_exit (ev : Ev) {fr : FrA} {S : AS} {b : Nam} {m : Nat} (h2 : T 2 fr = .slice b 0 m m) (h3 : T 3 fr = .int .i64 (.ofNat m)) :
    (kCode Tryz.prog cfT [] 3 173 lb).f none ev fr S = .one (.ex (.exit 0) (G 15 (frA fr b m m) (.bool false)), S) := by
  rw [lb_eq, head_run ev h2 h3, show bNot (Nat.ble m m) = false by rw [show Nat.ble m m = true from Nat.ble_eq_true_of_le (Nat.le_refl _)]; rfl]
  show thenA (rc (G 15 (frA fr b m m) (.bool false)) S) _ = _
  unfold rc
  rw [T_same]; rfl
theorem round_go (ev : Ev) {fr : FrA} {S : AS} {b : Nam} {m i e : Nat} {cs cs' : List AV} (hm : m < 9223372036854775808) (h2 : T 2 fr = .slice b 0 m m) (h3 : T 3 fr = .int .i64 (.ofNat i)) (hi : i < m) (ho : getA S b = .cells .own e cs)
    (hp : put [.int .u8 (.ofNat 120)] i cs = some cs') : (kCode Tryz.prog cfT [] 3 173 lb).f none ev fr S = .one (.ex .normal (frB fr b m i), putA S b (.cells .own e cs')) := by
  have hb : bNot (Nat.ble m i) = true := by
    have : Nat.ble m i = false := by cases h : Nat.ble m i with | false => rfl | true => have := Nat.le_of_ble_eq_true h; omega
    rw [this]; rfl
  rw [lb_eq, head_run ev h2 h3, hb]
  generalize hf : G 15 (frA fr b m i) (.bool true) = f1
  have t15 : T 15 f1 = .bool true := by rw [← hf]; exact T_same _ _ _
  have t2 : T 2 f1 = .slice b 0 m m := by rw [← hf]; unfold frA; rw [T_ne (by omega) (by omega) (by omega), T_ne (by omega) (by omega) (by omega), T_ne (by omega) (by omega) (by omega), T_ne (by omega) (by omega) (by omega), h2]
  have t3 : T 3 f1 = .int .i64 (.ofNat i) := by rw [← hf]; unfold frA; rw [T_ne (by omega) (by omega) (by omega), T_ne (by omega) (by omega) (by omega), T_ne (by omega) (by omega) (by omega), T_ne (by omega) (by omega) (by omega), h3]
  have e1 : thenA (R.one (Out.ex Ex.normal f1, S)) rc = .one (.ex .normal f1, S) := by
    show rc f1 S = _
    unfold rc
    rw [t15]; rfl
  rw [e1]
  show thenA (rb ev f1 S) (r7 ev) = _
  have x3 : T 3 (G 18 f1 (.slice b 0 m m)) = .int .i64 (.ofNat i) := by rw [T_ne (by omega) (by omega) (by omega), t3]
  generalize hg : G 19 (G 18 f1 (.slice b 0 m m)) (.int .i64 (.ofNat i)) = f2
  have y18 : T 18 f2 = .slice b 0 m m := by rw [← hg, T_ne (by omega) (by omega) (by omega), T_same]
  have y19 : T 19 f2 = .int .i64 (.ofNat i) := by rw [← hg]; exact T_same _ _ _
  have y3 : T 3 f2 = .int .i64 (.ofNat i) := by rw [← hg, T_ne (by omega) (by omega) (by omega), x3]
  generalize hk : G 20 f2 (.ptr b i) = f3
  have z20 : T 20 f3 = .ptr b i := by rw [← hk]; exact T_same _ _ _
  have z3 : T 3 f3 = .int .i64 (.ofNat i) := by rw [← hk, T_ne (by omega) (by omega) (by omega), y3]
  have e8 : r8 ev f1 S = .one (.ex .normal f3, putA S b (.cells .own e cs')) := by
    unfold r8 qr
    show bindR (bindR (oneN ev S (.get (T 2 f1))) _) _ = _
    rw [t2, one_get, bind_one]
    show bindR (bindR (oneN ev S (.get (T 3 (G 18 f1 (.slice b 0 m m))))) _) _ = _
    rw [x3, one_get, bind_one]
    show bindR (bindR (oneN ev S ((indexAddrA Tryz.prog 24).f (T 18 (G 19 (G 18 f1 (.slice b 0 m m)) (.int .i64 (.ofNat i)))) (T 19 (G 19 (G 18 f1 (.slice b 0 m m)) (.int .i64 (.ofNat i)))))) (fun x => (qn ev (fun fr s => (storeA Tryz.prog 5).f (T 20 fr) (.int .u8 (.ofNat 120)) s) qe) (G 20 (G 19 (G 18 f1 (.slice b 0 m m)) (.int .i64 (.ofNat i))) x.1) x.2)) _ = _
    rw [hg, y18, y19, idx24, show Nat.blt i m = true by simpa using hi]
    have e0 : (cO (cB true (some i) none) AN.no fun k => AN.get (AV.ptr b (Nat.add 0 (Nat.mul k 1)))) = .get (.ptr b i) := by
      show AN.get (AV.ptr b (0 + i * 1)) = _
      rw [Nat.mul_one, Nat.zero_add]
    rw [e0, one_get, bind_one]
    show bindR (bindR (oneN ev S ((storeA Tryz.prog 5).f (T 20 (G 20 f2 (.ptr b i))) (.int .u8 (.ofNat 120)) S)) (fun x => qe (G 20 f2 (.ptr b i)) x.2)) _ = _
    rw [hk, z20, store5, ho]
    show bindR (bindR (oneN ev S (putC .own e S b (put [.int .u8 (.ofNat 120)] i cs))) (fun x => qe f3 x.2)) _ = _
    rw [hp]
    show bindR (bindR (oneN ev S (.val (.tuple []) (putA S b (.cells .own e cs')))) (fun x => qe f3 x.2)) _ = _
    rw [one_val, bind_one]; rfl
  have eb : rb ev f1 S = .one (.ex .normal f3, putA S b (.cells .own e cs')) := by
    unfold rb; rw [e8]; rfl
  rw [eb]
  show r7 ev f3 (putA S b (.cells .own e cs')) = _
  generalize putA S b (.cells .own e cs') = S2
  have u16 : T 16 (G 16 f3 (.int .i64 (.ofNat i))) = .int .i64 (.ofNat i) := T_same _ _ _
  unfold r7 qr
  show bindR (bindR (oneN ev S2 (.get (T 3 f3))) _) _ = _
  rw [z3, one_get, bind_one]
  show bindR (bindR (oneN ev S2 ((binA Tryz.prog true .add 3).f (T 16 (G 16 f3 (.int .i64 (.ofNat i)))) (.int .i64 (.ofNat 1)) S2)) _) _ = _
  rw [u16, add3, wrap_ok (by omega), one_get, bind_one]
  show bindR (bindR (oneN ev S2 (.get (T 17 (G 17 (G 16 f3 (.int .i64 (.ofNat i))) (.int .i64 (.ofNat (i + 1))))))) _) _ = _
  rw [T_same, one_get, bind_one]
  unfold frB
  rw [hf, hg, hk]; rfl
end Go.Proofs.YtfmaapbibmnfgaaGreatDoor
