/- The law answers true in every world whose library variables are as they should be. -/
import Derived.Test.YtfmaapbibmnfgaaGreatDoorEvLj
import Derived.Test.YtfmaapbibmnfgaaGreatDoorEvLq
set_option linter.unusedSectionVars false
set_option linter.unusedVariables false
set_option linter.unusedSimpArgs false
namespace Go.Proofs.YtfmaapbibmnfgaaGreatDoor
open Go Go.Proofs.YtfmaapbibmnfgaaGreatDoor.Ev Go.RowKit
set_option maxRecDepth 100000
theorem ng8 : Tryz.prog.globals.size = 8 := by kernel_rfl
theorem hmix3 : Tryz.prog.follows .mixedOrders = true := by kernel_rfl
noncomputable def rho0 : Rho := fun p => if p.num < 8 then some (.blk p.num 0 0) else none
theorem hget_put (h : H6) (p q : Pth) (o : AO) : hget (hput h q o) p = if p = q then o else hget h p := by
  by_cases e : p = q
  · rw [if_pos e, e, hget_same]
  · rw [if_neg e, hget_other h q p o e]
theorem st0_at (p : Pth) : st0.at p = if p.num < 8 then .dead else .free := by
  have e : st0.at p = hget top0 p := by
    show oFree (hget top0 p) (hget top0 p) .free = _
    cases hget top0 p <;> rfl
  rw [e]
  unfold top0
  simp only [hget_put, hget_E6]
  have key : ∀ k, k < 8 → (p = digs k ↔ p.num = k) := fun k hk => ⟨fun h => by rw [h]; exact digs_num (by omega), fun h => Pth.num_inj (by rw [h, digs_num (by omega)])⟩
  simp only [key 0 (by omega), key 1 (by omega), key 2 (by omega), key 3 (by omega), key 4 (by omega), key 5 (by omega), key 6 (by omega), key 7 (by omega)]
  by_cases h : p.num < 8
  · rw [if_pos h]
    have : p.num = 0 ∨ p.num = 1 ∨ p.num = 2 ∨ p.num = 3 ∨ p.num = 4 ∨ p.num = 5 ∨ p.num = 6 ∨ p.num = 7 := by omega
    rcases this with c | c | c | c | c | c | c | c <;> simp [c]
  · rw [if_neg h, if_neg (by omega), if_neg (by omega), if_neg (by omega), if_neg (by omega), if_neg (by omega), if_neg (by omega), if_neg (by omega), if_neg (by omega)]
section
variable [Vr]
theorem st0_dead {p : Pth} : ¬ (st0.at p).live := by
  rw [st0_at]
  split <;> exact fun h => h
theorem start0 {w : World} (hsz : 8 ≤ w.heap.size) (hv : ∀ g, g < Tryz.prog.globals.size → w.heap[g]? = Vr.H g) : Sat Tryz.prog rho0 st0 w := by
  have hr : ∀ {p t}, rho0 p = some t → p.num < 8 ∧ t = .blk p.num 0 0 := fun {p t} h => by
    unfold rho0 at h
    split at h
    · rename_i c; cases h; exact ⟨c, rfl⟩
    · cases h
  refine ⟨fun p => ?_, fun p q g o c o' c' h => absurd h st0_dead, fun p g o c h => ?_, fun p g k h => ?_, fun p q g k h => ?_, fun g hg => ⟨0, ?_⟩, fun g hg => ⟨hv g hg, fun p o c h => absurd h st0_dead⟩⟩
  · rw [st0_at]
    by_cases h : p.num < 8
    · rw [if_pos h]; exact trivial
    · rw [if_neg h]; exact if_neg h
  · obtain ⟨h1, h2⟩ := hr h; cases h2; omega
  · obtain ⟨_, h2⟩ := hr h; cases h2
  · obtain ⟨_, h2⟩ := hr h; cases h2
  · rw [ng8] at hg
    have : (digs g).num = g := digs_num (by omega)
    show Ev.look rho0 ⟨g, digs g⟩ = _
    unfold Ev.look
    rw [if_pos this.symm]
    show (if (digs g).num < 8 then some (Tgt.blk (digs g).num 0 0) else none) = _
    rw [this, if_pos hg]
theorem below0 {w w' : World} {ρ' : Rho} {S' : AS} (h : Ext rho0 st0 w ρ' S' w') : Below w.heap.size w w' :=
  ⟨h.os, h.tape, h.output, h.size, fun k hk => h.old k hk fun ⟨p, o, c, _, h2⟩ => st0_dead h2⟩
theorem known13 (hE : VrIs) : K13 := fun w E hv => by
  obtain ⟨h1, h2⟩ := allTrue_ok run13
  obtain ⟨_, h3⟩ := (ev_spec hmix3 (libS hE) 1000000).call (start0 E.size hv) (args := []) (us := []) rfl h1
  refine callsIn_wide.1 (CallsIn.mono (h3 0) fun e w' hp => ?_)
  cases e with
  | panicked c => exact hp.elim
  | outgrown => exact hp.elim
  | returned u =>
    obtain ⟨v, S', ρ', q1, q2, q3, q4⟩ := hp
    cases h2 v S' q1
    cases conc_bool q4
    exact ⟨rfl, below0 q2⟩
theorem law3 (hE : VrIs) {w : World} (E : EnvW w) (hv : ∀ g, g < Tryz.prog.globals.size → w.heap[g]? = Vr.H g) : Calls Tryz.prog 3 #[] w fun e w' => e = .returned (.bool true) ∧ Below w.heap.size w w' := by
  obtain ⟨h1, h2⟩ := allTrue_ok run3
  cases hfn : Tryz.prog.funcs[3]? with
  | none => have := b3_eq; rw [hfn] at this; cases this
  | some fn =>
  have hb3 := b3_eq
  rw [hfn] at hb3
  simp only [Option.map_some, Option.some.injEq, Prod.mk.injEq] at hb3
  obtain ⟨hn, hbs⟩ := hb3
  cases hb : fn.body with
  | none => rw [hb] at hbs; cases hbs
  | some c =>
  have hc : c = c3 := by unfold c3; rw [hfn]; simp [hb]
  subst hc
  have hrs : fn.results.toList = rs3 := by unfold rs3; rw [hfn]; rfl
  have hres : okRes fn.results.toList = true := by rw [hrs]; kernel_rfl
  have hx := body3_is (libT hE (known13 hE)) hmix3
  rw [← hn] at hx
  have hok : (finsA Tryz.prog [] fn.results.toList (body3 ⟨UF, []⟩ st0)).ok := by rw [hrs]; exact (bindR_ok h1).1
  refine callsIn_wide.1 (CallsIn.mono (fnX_ok hfn hb hres (by omega) hx (start0 E.size hv) (args := []) (us := []) rfl (t := UF) (by rw [hn]; rfl) (Q := fun u w' => u = .bool true ∧ Below w.heap.size w w') hok (fun v S' ρ' u w' k1 k2 k3 k4 => ?_) 0) fun e w' hp => ?_)
  · rw [hrs] at k1
    have := h2 v S' (((bindR_ok h1).2 _ k1).2 _ rfl)
    subst this
    cases conc_bool k4
    exact ⟨rfl, below0 k2⟩
  · cases e with
    | returned u => obtain ⟨rfl, hb⟩ := hp; exact ⟨rfl, hb⟩
    | _ => exact hp.elim
end
theorem EnvW.same {w w' : World} (E : EnvW w) (h : ∀ g, g < Tryz.prog.globals.size → w'.heap[g]? = w.heap[g]?) : EnvW w' := by
  rw [ng8] at h
  have cell : ∀ g, g < 8 → w'.cell? ⟨g, 0, none⟩ = w.cell? ⟨g, 0, none⟩ := fun g hg => by simp only [World.cell?, h g hg]
  obtain ⟨hs, hm, hp, hy⟩ := E
  refine ⟨?_, ?_, ?_, ?_⟩
  · have h7 : w'.heap[7]? = some (w.heap[7]'(by omega)) := by rw [h 7 (by omega)]; exact Array.getElem?_eq_getElem _
    have := (Array.getElem?_eq_some_iff.1 h7).1
    omega
  · rw [cell 0 (by omega)]; exact hm
  · unfold Lib.TabIs World.var? at hp ⊢
    have e : Tryz.prog.globalNamed "internal/strconv.uint64pow10" = some 5 := by kernel_rfl
    rw [e] at hp ⊢
    simp only [Option.bind_some] at hp ⊢
    rw [h 5 (by omega)]; exact hp
  · rw [cell 1 (by omega)]; exact hy
/-- The law, wherever the library's variables are as they should be. -/
theorem law_walk (w : World) (E : EnvW w) : Calls Tryz.prog 3 #[] w fun e w' => e = .returned (.bool true) ∧ Below w.heap.size w w' := by
  letI : Vr := ⟨fun g => w.heap[g]?⟩
  exact law3 (fun w' h => E.same h) E fun _ _ => rfl
end Go.Proofs.YtfmaapbibmnfgaaGreatDoor
