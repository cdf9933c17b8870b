/- The law's loop that fills a block: the whole loop. -/
import Derived.Test.YtfmaapbibmnfgaaGreatDoorEvLg
set_option linter.unusedSectionVars false
set_option linter.unusedVariables false
set_option linter.unusedSimpArgs false
namespace Go.Proofs.YtfmaapbibmnfgaaGreatDoor
open Go Go.Proofs.YtfmaapbibmnfgaaGreatDoor.Ev Go.RowKit
set_option maxRecDepth 100000
section
variable [Vr]
variable {P : Program} {ρ : Rho} {S : AS} {w : World}
/-- An object told otherwise. -/
theorem recast (hs : Sat P ρ S w) {b : Pth} {S' : AS} (hl : (S.at b).live) (hS : ∀ p, p ≠ b → S'.at p = S.at p) (hrel : relO P ρ w.heap b (S'.at b)) : Sat P ρ S' w := by
  have lv : ∀ {p}, (S'.at p).live → (S.at p).live := fun {p} h => by
    by_cases e : p = b
    · rw [e]; exact hl
    · rwa [hS p e] at h
  refine ⟨fun p => ?_, fun p q g o c o' c' hp hq => hs.inj p q g o c o' c' (lv hp) (lv hq), hs.bnd, hs.stp, hs.stinj, hs.glob, fun g hg => ⟨(hs.vars g hg).1, fun p o c h => (hs.vars g hg).2 p o c (lv h)⟩⟩
  by_cases e : p = b
  · rw [e]; exact hrel
  · rw [hS p e]; exact hs.obj p
theorem recastX {b : Pth} {S' : AS} (hl : (S.at b).live) (hS : ∀ p, p ≠ b → S'.at p = S.at p) (htr : Tr S S') : Ext ρ S w ρ S' w :=
  ⟨Le.refl _, Nat.le_refl _, fun _ _ _ => rfl, fun g _ ⟨p, o, c, e1, e2⟩ => ⟨p, o, c, e1, by
    by_cases e : p = b
    · rw [e]; exact hl
    · rwa [hS p e] at e2⟩, rfl, rfl, rfl, htr⟩
theorem FR.same {vm : Vm} {fr fr' : FrA} {n : Nat} {X : Nat → Prop} {a : Act} (h : FR vm ρ fr n X a) (ht : ∀ i, i < 256 → (tgF vm i).f fr'.t = (tgF vm i).f fr.t) (hd : fr'.ds = fr.ds) : FR vm ρ fr' n X a :=
  ⟨h.size, fun i hi hx => by rw [ht i hi]; exact h.tmps i hi hx, by rw [hd]; exact h.defs⟩
/-- The block while it is filled. -/
def csF (m d i : Nat) : List AV := List.replicate i (.int .u8 (.ofNat 120)) ++ List.replicate (m - i) (.int .u8 (.ofNat d))
theorem put_F {m d i : Nat} (h : i < m) : put [.int .u8 (.ofNat 120)] i (csF m d i) = some (csF m d (i + 1)) := by
  have key : ∀ (i : Nat) (x : AV) (l : List AV), put [.int .u8 (.ofNat 120)] i (List.replicate i (.int .u8 (.ofNat 120)) ++ x :: l) = some (List.replicate (i + 1) (.int .u8 (.ofNat 120)) ++ l) := by
    intro i x l
    induction i with
    | zero => rfl
    | succ i ih =>
      show cO (put [.int .u8 (.ofNat 120)] i (List.replicate i (.int .u8 (.ofNat 120)) ++ x :: l)) none (fun r => some (.int .u8 (.ofNat 120) :: r)) = _
      rw [ih]; rfl
  unfold csF
  rw [show m - i = (m - (i + 1)) + 1 by omega, List.replicate_succ (n := m - (i + 1))]
  exact key i _ _
theorem concs_rep1 {v : AV} {u : Value} (h : conc ρ v = some u) : ∀ n, concs ρ (List.replicate n v) = some (List.replicate n u)
  | 0 => rfl
  | n + 1 => concs_cons' h (concs_rep1 h n)
structure LI (ρ0 : Rho) (S0 : AS) (w0 : World) (fr0 : FrA) (b : Nam) (e m d i : Nat) (ρ : Rho) (S : AS) (w : World) (fr : FrA) (a : Act) : Prop where
  sat : Sat Tryz.prog ρ S w
  fh : FR [] ρ fr 173 (fun _ => False) a
  ds : fr.ds = fr0.ds
  t2 : T 2 fr = .slice b 0 m m
  t3 : T 3 fr = .int .i64 (.ofNat i)
  oth : ∀ j, j < 256 → j ≠ 3 → j ≠ 12 → j ≠ 13 → j ≠ 14 → j ≠ 15 → j ≠ 16 → j ≠ 17 → j ≠ 18 → j ≠ 19 → j ≠ 20 → T j fr = T j fr0
  late : 0 < i → T 16 fr = .int .i64 (.ofNat (i - 1)) ∧ T 17 fr = .int .i64 (.ofNat i) ∧ T 18 fr = .slice b 0 m m ∧ T 19 fr = .int .i64 (.ofNat (i - 1)) ∧ T 20 fr = .ptr b (i - 1)
  here : S.at b.p = .cells .own e (csF m d i)
  rest : ∀ p, p ≠ b.p → S.at p = S0.at p
  ext : Ext ρ0 S0 w0 ρ S w
theorem TG {i j : Nat} (hj : j < 256) (hi : i < 256) (fr : FrA) (v : AV) : T j (G i fr v) = if j = i then v else T j fr := by
  by_cases h : j = i
  · subst h; rw [if_pos rfl, T_same]
  · rw [if_neg h, T_ne hj hi h]
noncomputable def frX (fr0 : FrA) (b : Nam) (m : Nat) : FrA :=
  G 15 (frA (G 3 (G 17 (G 16 (G 20 (G 19 (G 18 fr0 (.slice b 0 m m)) (.int .i64 (.ofNat (m - 1)))) (.ptr b (m - 1))) (.int .i64 (.ofNat (m - 1)))) (.int .i64 (.ofNat m))) (.int .i64 (.ofNat m))) b m m) (.bool false)
theorem loop_all {ev : Ev} (he : EvSpec Tryz.prog ev) (hmix : Tryz.prog.follows .mixedOrders = true) {ρ0 : Rho} {S0 : AS} {w0 : World} {fr0 : FrA} {b : Nam} {e m d : Nat} (hm : m < 9223372036854775808) (hm0 : 0 < m) :
    ∀ (k i : Nat) {ρ : Rho} {S : AS} {w : World} {fr : FrA} {a : Act}, i + k = m → LI ρ0 S0 w0 fr0 b e m d i ρ S w fr a → ∀ N, (Code.loop lb).wpIn (Wf none) N Tryz.prog (CodePost Tryz.prog [] ρ0 S0 w0 173 (.one (.ex (.exit 0) (frX fr0 b m), putA S0 b (.fill m 120)))) a w := by
  intro k
  induction k with
  | zero =>
    intro i ρ S w fr a hik h N
    obtain rfl : i = m := by omega
    have hr := round_exit ev h.t2 h.t3 (S := S)
    refine wpIn_unroll plainly_code (wpIn_mono (kCode_ok (cf := cfT) (vm := []) (fn := 3) (n := 173) he hmix (range_is he) lb ρ S w none none fr a h.sat trivial h.fh (by rw [hr]; exact trivial) N) fun ex a' w' hp => ?_)
    rw [hr] at hp
    obtain ⟨ex', fr', S', ρ', q1, q2, q3, q4, q5⟩ := hp
    cases q1
    cases ex with
    | exit j =>
      cases q2
      have hlive : (S.at b.p).live := by rw [h.here]; exact trivial
      have hat : ∀ p, p ≠ b.p → (putA S0 b (.fill i 120)).at p = S.at p := fun p hp => by rw [at_putA (by intro e; cases e), if_neg hp, h.rest p hp]
      have hatb : (putA S0 b (.fill i 120)).at b.p = .fill i 120 := by rw [at_putA (by intro e; cases e), if_pos rfl]
      have hrel : relO Tryz.prog ρ' w'.heap b.p ((putA S0 b (.fill i 120)).at b.p) := by
        rw [hatb]
        obtain ⟨g, off, cap, arr, fz, l, rc⟩ := relC_of q4 h.here
        obtain ⟨o1, o2, o3⟩ := rc.own rfl
        subst o1
        have hv := rc.vals
        have : csF i d i = List.replicate i (.int .u8 (.ofNat 120)) := by unfold csF; rw [Nat.sub_self]; simp
        rw [this, concs_rep1 (u := .int .u8 (.ofNat 120)) (cIn _ _)] at hv
        cases hv
        refine ⟨g, cap, e, rc.here, ?_, by decide⟩
        rw [rc.obj, o2, o3]
        simp
      have hext : Ext ρ0 S0 w0 ρ' S w' := h.ext.trans q3
      have hx := recastX (ρ := ρ') (w := w') (S := S) (S' := putA S0 b (.fill i 120)) hlive hat
      refine ⟨.exit 0, frX fr0 b i, putA S0 b (.fill i 120), ρ', rfl, rfl, ⟨hext.le, hext.size, hext.old, fun g hg ⟨p, o, c, e1, e2⟩ => hext.owns g hg ⟨p, o, c, e1, ?_⟩, hext.os, hext.tape, hext.output, Tr.put rfl⟩, recast q4 hlive hat hrel, FR.same q5 (fun j hj => ?_) ?_⟩
      · by_cases e : p = b.p
        · rw [e]; exact hlive
        · rwa [hat p e] at e2
      · obtain ⟨l16, l17, l18, l19, l20⟩ := h.late hm0
        show T j (frX fr0 b i) = T j (G 15 (frA fr b i i) (.bool false))
        unfold frX frA
        simp only [TG hj (show 15 < 256 by omega), TG hj (show 14 < 256 by omega), TG hj (show 13 < 256 by omega), TG hj (show 12 < 256 by omega), TG hj (show 3 < 256 by omega), TG hj (show 16 < 256 by omega), TG hj (show 17 < 256 by omega), TG hj (show 18 < 256 by omega), TG hj (show 19 < 256 by omega), TG hj (show 20 < 256 by omega)]
        by_cases c15 : j = 15; · simp [c15]
        by_cases c14 : j = 14; · simp [c14]
        by_cases c13 : j = 13; · simp [c13]
        by_cases c12 : j = 12; · simp [c12]
        simp only [if_neg c15, if_neg c14, if_neg c13, if_neg c12]
        by_cases c3 : j = 3; · subst c3; rw [if_pos rfl]; exact h.t3.symm
        by_cases c17 : j = 17; · subst c17; rw [if_neg c3, if_pos rfl]; exact l17.symm
        by_cases c16 : j = 16; · subst c16; rw [if_neg c3, if_neg c17, if_pos rfl]; exact l16.symm
        by_cases c20 : j = 20; · subst c20; rw [if_neg c3, if_neg c17, if_neg c16, if_pos rfl]; exact l20.symm
        by_cases c19 : j = 19; · subst c19; rw [if_neg c3, if_neg c17, if_neg c16, if_neg c20, if_pos rfl]; exact l19.symm
        by_cases c18 : j = 18; · subst c18; rw [if_neg c3, if_neg c17, if_neg c16, if_neg c20, if_neg c19, if_pos rfl]; exact l18.symm
        rw [if_neg c3, if_neg c17, if_neg c16, if_neg c20, if_neg c19, if_neg c18]
        exact (h.oth j hj c3 c12 c13 c14 c15 c16 c17 c18 c19 c20).symm
      · show fr0.ds = fr.ds
        exact h.ds.symm
    | _ => exact q2.elim
  | succ k ih =>
    intro i ρ S w fr a hik h N
    have hr := round_go ev (S := S) hm h.t2 h.t3 (show i < m by omega) (by rw [getA_eq]; exact h.here) (put_F (by omega))
    refine wpIn_unroll plainly_code (wpIn_mono (kCode_ok (cf := cfT) (vm := []) (fn := 3) (n := 173) he hmix (range_is he) lb ρ S w none none fr a h.sat trivial h.fh (by rw [hr]; exact trivial) N) fun ex a' w' hp => ?_)
    rw [hr] at hp
    obtain ⟨ex', fr', S', ρ', q1, q2, q3, q4, q5⟩ := hp
    cases q1
    cases ex with
    | normal =>
      have hatb : (putA S b (.cells .own e (csF m d (i + 1)))).at b.p = .cells .own e (csF m d (i + 1)) := by rw [at_putA (by intro e; cases e), if_pos rfl]
      refine ih (i + 1) (by omega) ⟨q4, q5, ?_, ?_, ?_, fun j hj c3 c12 c13 c14 c15 c16 c17 c18 c19 c20 => ?_, fun _ => ⟨?_, ?_, ?_, ?_, ?_⟩, hatb, fun p hp => ?_, h.ext.trans q3⟩ N
      · exact h.ds
      · unfold frB frA; simp only [TG (show 2 < 256 by omega) (show 15 < 256 by omega), TG (show 2 < 256 by omega) (show 14 < 256 by omega), TG (show 2 < 256 by omega) (show 13 < 256 by omega), TG (show 2 < 256 by omega) (show 12 < 256 by omega), TG (show 2 < 256 by omega) (show 3 < 256 by omega), TG (show 2 < 256 by omega) (show 16 < 256 by omega), TG (show 2 < 256 by omega) (show 17 < 256 by omega), TG (show 2 < 256 by omega) (show 18 < 256 by omega), TG (show 2 < 256 by omega) (show 19 < 256 by omega), TG (show 2 < 256 by omega) (show 20 < 256 by omega)]
        simpa using h.t2
      · exact T_same _ _ _
      · unfold frB frA
        simp only [TG hj (show 15 < 256 by omega), TG hj (show 14 < 256 by omega), TG hj (show 13 < 256 by omega), TG hj (show 12 < 256 by omega), TG hj (show 3 < 256 by omega), TG hj (show 16 < 256 by omega), TG hj (show 17 < 256 by omega), TG hj (show 18 < 256 by omega), TG hj (show 19 < 256 by omega), TG hj (show 20 < 256 by omega), if_neg c3, if_neg c12, if_neg c13, if_neg c14, if_neg c15, if_neg c16, if_neg c17, if_neg c18, if_neg c19, if_neg c20]
        exact h.oth j hj c3 c12 c13 c14 c15 c16 c17 c18 c19 c20
      · unfold frB; rw [T_ne (by omega) (by omega) (by omega), T_ne (by omega) (by omega) (by omega), T_same]; rfl
      · unfold frB; rw [T_ne (by omega) (by omega) (by omega), T_same]
      · unfold frB; rw [T_ne (by omega) (by omega) (by omega), T_ne (by omega) (by omega) (by omega), T_ne (by omega) (by omega) (by omega), T_ne (by omega) (by omega) (by omega), T_ne (by omega) (by omega) (by omega), T_same]
      · unfold frB; rw [T_ne (by omega) (by omega) (by omega), T_ne (by omega) (by omega) (by omega), T_ne (by omega) (by omega) (by omega), T_ne (by omega) (by omega) (by omega), T_same]; rfl
      · unfold frB; rw [T_ne (by omega) (by omega) (by omega), T_ne (by omega) (by omega) (by omega), T_ne (by omega) (by omega) (by omega), T_same]; rfl
      · rw [at_putA (by intro e; cases e), if_neg hp, h.rest p hp]
    | _ => exact q2.elim
end
end Go.Proofs.YtfmaapbibmnfgaaGreatDoor
