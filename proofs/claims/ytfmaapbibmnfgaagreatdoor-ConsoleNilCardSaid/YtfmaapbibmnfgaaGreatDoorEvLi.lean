/- The law's loop that fills a block, as one step; the law's body. -/
import Derived.Test.YtfmaapbibmnfgaaGreatDoorEvLh
set_option linter.unusedSectionVars false
set_option linter.unusedVariables false
set_option linter.unusedSimpArgs false
namespace Go.Proofs.YtfmaapbibmnfgaaGreatDoor
open Go Go.Proofs.YtfmaapbibmnfgaaGreatDoor.Ev Go.RowKit
set_option maxRecDepth 100000
noncomputable def handC (fr : FrA) (s : AS) (b : Nam) (n : Nat) : R (Out × AS) := oFill (getA s b) .no fun m _ => cB (Nat.beq n m) (.one (.ex .normal (frX fr b n), putA s b (.fill n 120))) .no
noncomputable def handB (fr : FrA) (s : AS) (b : Nam) (n : Nat) : R (Out × AS) := vInt (T 3 fr) .no fun k i => cB (bAnd (kEq k .i64) (ieq i (.ofNat 0))) (handC fr s b n) .no
noncomputable def handA (fr : FrA) (s : AS) (b : Nam) (o n c : Nat) : R (Out × AS) := cB (bAnd (Nat.beq o 0) (bAnd (Nat.beq n c) (bAnd (Nat.ble 1 n) (small n)))) (handB fr s b n) .no
noncomputable def handL (fr : FrA) (s : AS) : R (Out × AS) := vSl (T 2 fr) .no .no (handA fr s) fun _ _ _ _ => .no
section
variable [Vr]
theorem okB' {b : Bool} {x : R (Out × AS)} (h : (cB b x .no).ok) : b = true ∧ cB b x .no = x := by
  cases b with
  | false => exact h.elim
  | true => exact ⟨rfl, rfl⟩
theorem handC_ok {fr : FrA} {S : AS} {b : Nam} {n : Nat} (h : (handC fr S b n).ok) : (∃ d, getA S b = .fill n d) ∧ handC fr S b n = .one (.ex .normal (frX fr b n), putA S b (.fill n 120)) := by
  unfold handC at h ⊢
  cases ho : getA S b with
  | fill m d =>
    rw [ho] at h
    obtain ⟨k5, k6⟩ := okB' (b := Nat.beq n m) (x := .one (.ex .normal (frX fr b n), putA S b (.fill n 120))) h
    have e4 : n = m := Nat.eq_of_beq_eq_true k5
    subst e4
    exact ⟨⟨d, rfl⟩, k6⟩
  | _ => rw [ho] at h; exact h.elim
theorem handB_ok {fr : FrA} {S : AS} {b : Nam} {n : Nat} (h : (handB fr S b n).ok) : T 3 fr = .int .i64 (.ofNat 0) ∧ (handC fr S b n).ok ∧ handB fr S b n = handC fr S b n := by
  unfold handB at h ⊢
  cases h3 : T 3 fr with
  | int k i =>
    rw [h3] at h
    obtain ⟨k3, k4⟩ := okB' (b := bAnd (kEq k .i64) (ieq i (.ofNat 0))) (x := handC fr S b n) h
    obtain ⟨a7, a8⟩ := bAnd_iff.1 k3
    cases kEq_iff.1 a7
    have e3 : i = .ofNat 0 := (ieq_iff _ _).1 a8
    subst e3
    exact ⟨rfl, by rw [← k4]; exact h, k4⟩
  | _ => rw [h3] at h; exact h.elim
theorem handL_ok {fr : FrA} {S : AS} (h : (handL fr S).ok) : ∃ b n d, T 2 fr = .slice b 0 n n ∧ T 3 fr = .int .i64 (.ofNat 0) ∧ getA S b = .fill n d ∧ 1 ≤ n ∧ n ≤ 1000000000 ∧ handL fr S = .one (.ex .normal (frX fr b n), putA S b (.fill n 120)) := by
  unfold handL at h ⊢
  cases h2 : T 2 fr with
  | slice b o n c =>
    rw [h2] at h
    obtain ⟨k1, k2⟩ := okB' (b := bAnd (Nat.beq o 0) (bAnd (Nat.beq n c) (bAnd (Nat.ble 1 n) (small n)))) (x := handB fr S b n) h
    have hq : (cB (bAnd (Nat.beq o 0) (bAnd (Nat.beq n c) (bAnd (Nat.ble 1 n) (small n)))) (handB fr S b n) R.no).ok := h
    rw [k2] at hq
    obtain ⟨a1, a2⟩ := bAnd_iff.1 k1
    obtain ⟨a3, a4⟩ := bAnd_iff.1 a2
    obtain ⟨a5, a6⟩ := bAnd_iff.1 a4
    have e1 : o = 0 := Nat.eq_of_beq_eq_true a1
    have e2 : n = c := Nat.eq_of_beq_eq_true a3
    subst e1; subst e2
    obtain ⟨h3, h4, h5⟩ := handB_ok hq
    obtain ⟨⟨d, h6⟩, h7⟩ := handC_ok h4
    exact ⟨b, n, d, rfl, h3, h6, Nat.le_of_ble_eq_true a5, Nat.le_of_ble_eq_true a6, k2.trans (h5.trans h7)⟩
  | _ => rw [h2] at h; exact h.elim
theorem hand_is {ev : Ev} (he : EvSpec Tryz.prog ev) (hmix : Tryz.prog.follows .mixedOrders = true) : CodeX Tryz.prog [] 173 (.block 0 (.loop lb)) handL := fun ρ S w fr a hs hf hok N => by
  obtain ⟨b, n, d, h2, h3, ho, h1, hn, hr⟩ := handL_ok hok
  rw [hr]
  rw [getA_eq] at ho
  have hobj := hs.obj b.p
  rw [ho] at hobj
  obtain ⟨g, cap, e, o1, o2, o3⟩ := hobj
  have hlive : (S.at b.p).live := by rw [ho]; exact trivial
  have hat : ∀ p, p ≠ b.p → (putA S b (.cells .own e (csF n d 0))).at p = S.at p := fun p hp => by rw [at_putA (by intro e; cases e), if_neg hp]
  have hatb : (putA S b (.cells .own e (csF n d 0))).at b.p = .cells .own e (csF n d 0) := by rw [at_putA (by intro e; cases e), if_pos rfl]
  have hc0 : csF n d 0 = List.replicate n (.int .u8 (.ofNat d)) := by unfold csF; simp
  have hrel : relO Tryz.prog ρ w.heap b.p ((putA S b (.cells .own e (csF n d 0))).at b.p) := by
    rw [hatb]
    refine ⟨g, 0, cap, _, (0, 0), List.replicate n (.int .u8 (.ofNat d)), o1, o2, fz0 _, by rw [hc0]; exact concs_rep1 (cIn _ _) n, fun i v hv => ?_, fun _ => ⟨rfl, by simp, rfl⟩, (fun h => nomatch h), trivial⟩
    rw [Nat.zero_add]
    rw [List.getElem?_replicate] at hv
    split at hv
    · rename_i hi; cases hv; rw [Array.getElem?_replicate, if_pos hi]
    · cases hv
  have hL : LI ρ S w fr b e n d 0 ρ (putA S b (.cells .own e (csF n d 0))) w fr a :=
    ⟨recast hs hlive hat hrel, hf, rfl, h2, h3, fun _ _ _ _ _ _ _ _ _ _ _ _ => rfl, fun h => absurd h (Nat.lt_irrefl 0), hatb, hat, recastX hlive hat (Tr.put rfl)⟩
  refine wpIn_block (wpIn_mono (loop_all he hmix (by omega) h1 n 0 (by omega) hL N) fun ex a' w' hp => ?_)
  obtain ⟨ex', fr', S', ρ', q1, q2, q3, q4, q5⟩ := hp
  cases q1
  cases ex with
  | exit j =>
    have q2 : 0 = j := q2
    subst q2
    exact ⟨.normal, frX fr b n, putA S b (.fill n 120), ρ', rfl, trivial, q3, q4, q5⟩
  | _ => exact q2.elim
/-! ### The body -/
noncomputable def ev3 : Ev := ev Tryz.prog cfT 1000000
noncomputable def kc (c : Code) : FrA → AS → R (Out × AS) := fun fr s => (kCode Tryz.prog cfT [] 3 173 c).f none ev3 fr s
noncomputable def body3 : FrA → AS → R (Out × AS) := fun fr s => thenA (kc p0 fr s) fun fr s => thenA (kc p1 fr s) fun fr s => thenA (kc p2 fr s) fun fr s => thenA (kc p4 fr s) fun fr s => thenA (thenA (kc (sL q5) fr s) handL) (kc pt)
theorem body3_is (hlib : LibOk Tryz.prog cfT) (hmix : Tryz.prog.follows .mixedOrders = true) : CodeX Tryz.prog [] 173 c3 body3 := by
  have he : EvSpec Tryz.prog ev3 := ev_spec hmix hlib 1000000
  have k : ∀ c, CodeX Tryz.prog [] 173 c (kc c) := fun c => CodeX.of he hmix c
  rw [c3_eq]
  exact (k p0).seq ((k p1).seq ((k p2).seq ((k p4).seq (((k (sL q5)).seq (hand_is he hmix)).seq (k pt)))))
end
end Go.Proofs.YtfmaapbibmnfgaaGreatDoor
