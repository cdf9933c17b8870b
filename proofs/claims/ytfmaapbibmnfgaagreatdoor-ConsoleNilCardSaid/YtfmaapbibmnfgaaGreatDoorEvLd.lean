/- The functions of the library that this seat's run comes to: all of them. -/
import Derived.Test.YtfmaapbibmnfgaaGreatDoorEvLb
import Derived.KernelRfl
set_option linter.unusedSectionVars false
set_option linter.unusedVariables false
set_option linter.unusedSimpArgs false
namespace Go.Proofs.YtfmaapbibmnfgaaGreatDoor
open Go Go.Proofs.YtfmaapbibmnfgaaGreatDoor.Ev Go.RowKit
noncomputable def lbS (f : FuncId) : Nat := cB (Nat.beq f 28) 1 (cB (Nat.beq f 224) 2 (cB (Nat.beq f 36) 3 (cB (Nat.beq f 65) 4 (cB (Nat.beq f 41) 5 (cB (Nat.beq f 92) 6 (cB (Nat.beq f 50) 7 (cB (Nat.beq f 49) 8 (cB (Nat.beq f 107) 9 (0)))))))))
noncomputable def flS (f : FuncId) : Bool := cB (Nat.beq f 215) true (cB (Nat.beq f 456) true (cB (Nat.beq f 461) true (Nat.beq f 499)))
noncomputable def cfS : Cf := ⟨flS, fun _ => 0, fun _ => 0, fun _ => [], lbS, 9⟩
noncomputable def lbT (f : FuncId) : Nat := cB (Nat.beq f 13) 10 (lbS f)
noncomputable def cfT : Cf := ⟨flS, fun _ => 0, fun _ => 0, fun _ => [], lbT, 9⟩
/-- The library's variables, untold. -/
noncomputable def top0 : H6 := hput (hput (hput (hput (hput (hput (hput (hput E6 (digs 0) .dead) (digs 1) .dead) (digs 2) .dead) (digs 3) .dead) (digs 4) .dead) (digs 5) .dead) (digs 6) .dead) (digs 7) .dead
noncomputable def st0 : AS := ⟨top0, [], [], 8⟩
section
variable [Vr]
theorem enterF {f : FuncId} {args : Array Value} {w : World} (h : (Tryz.prog.funcs[f]?).map (fun fn => (fn.name == "runtime.NumGoroutine", fn.body.isSome)) = some (false, true)) : (callFunc f args).run Tryz.prog w = .ok (.enter f args) w := by
  cases hfn : Tryz.prog.funcs[f]? with
  | none => rw [hfn] at h; cases h
  | some fn =>
    rw [hfn] at h
    simp only [Option.map_some, Option.some.injEq, Prod.mk.injEq] at h
    obtain ⟨h1, h2⟩ := h
    have h1 : ¬ fn.name = "runtime.NumGoroutine" := by intro e; rw [e] at h1; simp at h1
    cases hb : fn.body with
    | none => rw [hb] at h2; cases h2
    | some c => simp [callFunc, hfn, h1, hb]
theorem ent28 : (Tryz.prog.funcs[28]?).map (fun fn => (fn.name == "runtime.NumGoroutine", fn.body.isSome)) = some (false, true) := by kernel_rfl
theorem ent224 : (Tryz.prog.funcs[224]?).map (fun fn => (fn.name == "runtime.NumGoroutine", fn.body.isSome)) = some (false, true) := by kernel_rfl
theorem ent36 : (Tryz.prog.funcs[36]?).map (fun fn => (fn.name == "runtime.NumGoroutine", fn.body.isSome)) = some (false, true) := by kernel_rfl
theorem ent65 : (Tryz.prog.funcs[65]?).map (fun fn => (fn.name == "runtime.NumGoroutine", fn.body.isSome)) = some (false, true) := by kernel_rfl
theorem ent41 : (Tryz.prog.funcs[41]?).map (fun fn => (fn.name == "runtime.NumGoroutine", fn.body.isSome)) = some (false, true) := by kernel_rfl
theorem ent92 : (Tryz.prog.funcs[92]?).map (fun fn => (fn.name == "runtime.NumGoroutine", fn.body.isSome)) = some (false, true) := by kernel_rfl
theorem ent50 : (Tryz.prog.funcs[50]?).map (fun fn => (fn.name == "runtime.NumGoroutine", fn.body.isSome)) = some (false, true) := by kernel_rfl
theorem ent49 : (Tryz.prog.funcs[49]?).map (fun fn => (fn.name == "runtime.NumGoroutine", fn.body.isSome)) = some (false, true) := by kernel_rfl
theorem ent107 : (Tryz.prog.funcs[107]?).map (fun fn => (fn.name == "runtime.NumGoroutine", fn.body.isSome)) = some (false, true) := by kernel_rfl
theorem libS (hE : VrIs) : LibOk Tryz.prog cfS := by
  intro f k e ρ S w ev args us hs ha hok
  have E : EnvW w := hE w fun g hg => (hs.vars g hg).1
  have e : lbS f = k + 1 := e
  unfold lbS at e
  cases h1 : Nat.beq f 28 with
  | true =>
    rw [h1] at e
    have e : 1 = k + 1 := e
    have hf := Nat.eq_of_beq_eq_true h1
    subst hf
    obtain rfl : k = 0 := by omega
    exact ⟨enterF ent28, (lib1 E hs ha hok).lib⟩
  | false =>
  rw [h1] at e
  cases h2 : Nat.beq f 224 with
  | true =>
    rw [h2] at e
    have e : 2 = k + 1 := e
    have hf := Nat.eq_of_beq_eq_true h2
    subst hf
    obtain rfl : k = 1 := by omega
    exact ⟨enterF ent224, (lib2 hs ha hok).lib⟩
  | false =>
  rw [h2] at e
  cases h3 : Nat.beq f 36 with
  | true =>
    rw [h3] at e
    have e : 3 = k + 1 := e
    have hf := Nat.eq_of_beq_eq_true h3
    subst hf
    obtain rfl : k = 2 := by omega
    exact ⟨enterF ent36, (lib3 E hs ha hok).lib⟩
  | false =>
  rw [h3] at e
  cases h4 : Nat.beq f 65 with
  | true =>
    rw [h4] at e
    have e : 4 = k + 1 := e
    have hf := Nat.eq_of_beq_eq_true h4
    subst hf
    obtain rfl : k = 3 := by omega
    exact ⟨enterF ent65, (lib4 E hs ha hok).lib⟩
  | false =>
  rw [h4] at e
  cases h5 : Nat.beq f 41 with
  | true =>
    rw [h5] at e
    have e : 5 = k + 1 := e
    have hf := Nat.eq_of_beq_eq_true h5
    subst hf
    obtain rfl : k = 4 := by omega
    exact ⟨enterF ent41, (lib5 E hs ha hok).lib⟩
  | false =>
  rw [h5] at e
  cases h6 : Nat.beq f 92 with
  | true =>
    rw [h6] at e
    have e : 6 = k + 1 := e
    have hf := Nat.eq_of_beq_eq_true h6
    subst hf
    obtain rfl : k = 5 := by omega
    exact ⟨enterF ent92, (lib6 hs ha hok).lib⟩
  | false =>
  rw [h6] at e
  cases h7 : Nat.beq f 50 with
  | true =>
    rw [h7] at e
    have e : 7 = k + 1 := e
    have hf := Nat.eq_of_beq_eq_true h7
    subst hf
    obtain rfl : k = 6 := by omega
    exact ⟨enterF ent50, (lib7 E hs ha hok).lib⟩
  | false =>
  rw [h7] at e
  cases h8 : Nat.beq f 49 with
  | true =>
    rw [h8] at e
    have e : 8 = k + 1 := e
    have hf := Nat.eq_of_beq_eq_true h8
    subst hf
    obtain rfl : k = 7 := by omega
    exact ⟨enterF ent49, (lib8 E hs ha hok).lib⟩
  | false =>
  rw [h8] at e
  cases h9 : Nat.beq f 107 with
  | true =>
    rw [h9] at e
    have e : 9 = k + 1 := e
    have hf := Nat.eq_of_beq_eq_true h9
    subst hf
    obtain rfl : k = 8 := by omega
    exact ⟨enterF ent107, (lib9 hs ha hok).lib⟩
  | false =>
  rw [h9] at e
  exact absurd (show 0 = k + 1 from e) (by omega)
/-- What 'known' of the law is: shown apart. -/
def K13 : Prop := ∀ w : World, EnvW w → (∀ g, g < Tryz.prog.globals.size → w.heap[g]? = Vr.H g) → Calls Tryz.prog 13 #[] w fun e w' => e = .returned (.bool true) ∧ Below w.heap.size w w'
theorem ent13 : (Tryz.prog.funcs[13]?).map (fun fn => (fn.name == "runtime.NumGoroutine", fn.body.isSome)) = some (false, true) := by kernel_rfl
theorem libT (hE : VrIs) (h13 : K13) : LibOk Tryz.prog cfT := by
  intro f k e ρ S w ev args us hs ha hok
  have e : lbT f = k + 1 := e
  unfold lbT at e
  cases h : Nat.beq f 13 with
  | false => rw [h] at e; exact libS hE f k e hs ha hok
  | true =>
    rw [h] at e
    have e : 10 = k + 1 := e
    have hf := Nat.eq_of_beq_eq_true h
    subst hf
    obtain rfl : k = 9 := by omega
    cases args with
    | cons _ _ => exact hok.elim
    | nil =>
      rw [concs_nil ha]
      exact ⟨enterF ent13, (gives_one hs (cBo true) (h13 w (hE w fun g hg => (hs.vars g hg).1) fun g hg => (hs.vars g hg).1)).lib⟩
end
end Go.Proofs.YtfmaapbibmnfgaaGreatDoor
