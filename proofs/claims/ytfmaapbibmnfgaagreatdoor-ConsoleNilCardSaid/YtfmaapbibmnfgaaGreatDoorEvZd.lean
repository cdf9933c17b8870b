/- A run of a program on abstract memory: blocks that are told of late; what is held. -/
import Derived.Test.YtfmaapbibmnfgaaGreatDoorEvYa
set_option linter.unusedSectionVars false
set_option linter.unusedVariables false
set_option linter.unusedSimpArgs false
namespace Go.Proofs.YtfmaapbibmnfgaaGreatDoor.Ev
variable [Vr]
section
variable {P : Program} {ρ : Rho} {S : AS} {w : World}

/-! ### Sameness of values -/
mutual
theorem beqV_eq : ∀ (u v : AV) {a b : Value}, beqV u v = true → conc ρ u = some a → conc ρ v = some b → u = v
  | .bool x, v, a, b, h, _, _ => by cases v <;> first | (simp [beqV] at h; done) | (simp [beqV] at h; rw [h])
  | .int k x, v, a, b, h, _, _ => by
    cases v with
    | int j y =>
      simp only [beqV, Bool.and_eq_true] at h
      rw [kEq_iff.1 h.1, (ieq_iff _ _).1 h.2]
    | _ => simp [beqV] at h
  | .rstr x y, v, a, b, h, _, _ => by
    cases v with
    | rstr x' y' => simp only [beqV, Bool.and_eq_true, Nat.beq_eq] at h; rw [h.1, h.2]
    | _ => simp [beqV] at h
  | .ifo x, v, a, b, h, hu, hv => by
    cases v with
    | ifo y =>
      simp only [beqV, Nat.beq_eq] at h
      obtain ⟨_, _, _, h1⟩ := conc_ifo hu
      obtain ⟨_, _, _, h2⟩ := conc_ifo hv
      rw [nam_eq h1 h2 h]
    | _ => simp [beqV] at h
  | .str x, v, a, b, h, _, _ => by
    cases v with
    | str y => simp only [beqV] at h; rw [(natsEq_iff _ _).1 h]
    | _ => simp [beqV] at h
  | .ptr x o, v, a, b, h, hu, hv => by
    cases v with
    | ptr y p =>
      simp only [beqV, Bool.and_eq_true, Nat.beq_eq] at h
      obtain ⟨_, _, _, h1, _⟩ := conc_ptr hu
      obtain ⟨_, _, _, h2, _⟩ := conc_ptr hv
      rw [nam_eq h1 h2 h.1, h.2]
    | _ => simp [beqV] at h
  | .nilp, v, a, b, h, _, _ => by cases v <;> first | rfl | (simp [beqV] at h; done)
  | .slice x o n c, v, a, b, h, hu, hv => by
    cases v with
    | slice y p m d =>
      simp only [beqV, Bool.and_eq_true, Nat.beq_eq] at h
      obtain ⟨_, _, _, h1, _⟩ := conc_slice hu
      obtain ⟨_, _, _, h2, _⟩ := conc_slice hv
      rw [nam_eq h1 h2 h.1.1.1, h.1.1.2, h.1.2, h.2]
    | _ => simp [beqV] at h
  | .row x o n c, v, a, b, h, hu, hv => by
    cases v with
    | row y p m d =>
      simp only [beqV, Bool.and_eq_true, Nat.beq_eq] at h
      obtain ⟨_, _, _, h1, _⟩ := conc_row hu
      obtain ⟨_, _, _, h2, _⟩ := conc_row hv
      rw [nam_eq h1 h2 h.1.1.1, h.1.1.2, h.1.2, h.2]
    | _ => simp [beqV] at h
  | .tail x o n c, v, a, b, h, hu, hv => by
    cases v with
    | tail y p m d =>
      simp only [beqV, Bool.and_eq_true, Nat.beq_eq] at h
      obtain ⟨_, _, _, h1, _⟩ := conc_tail hu
      obtain ⟨_, _, _, h2, _⟩ := conc_tail hv
      rw [nam_eq h1 h2 h.1.1.1, h.1.1.2, h.1.2, h.2]
    | _ => simp [beqV] at h
  | .nils, v, a, b, h, _, _ => by cases v <;> first | rfl | (simp [beqV] at h; done)
  | .map x, v, a, b, h, hu, hv => by
    cases v with
    | map y =>
      simp only [beqV, Nat.beq_eq] at h
      obtain ⟨_, _, _, h1, _⟩ := conc_map hu
      obtain ⟨_, _, _, h2, _⟩ := conc_map hv
      rw [nam_eq h1 h2 h]
    | _ => simp [beqV] at h
  | .nilm, v, a, b, h, _, _ => by cases v <;> first | rfl | (simp [beqV] at h; done)
  | .func f x y, v, a, b, h, hu, hv => by
    cases v with
    | func g x' y' =>
      simp only [beqV, Bool.and_eq_true, Nat.beq_eq] at h
      obtain ⟨_, _, _, h1, h2⟩ := conc_func hu
      obtain ⟨_, _, _, h3, h4⟩ := conc_func hv
      rw [h.1.1, beqVs_eq x x' h.1.2 h1 h3, beqVs_eq y y' h.2 h2 h4]
    | _ => simp [beqV] at h
  | .yld x, v, a, b, h, hu, hv => by
    cases v with
    | yld y =>
      simp only [beqV, Nat.beq_eq] at h
      obtain ⟨_, _, _, _, h1⟩ := conc_yld hu
      obtain ⟨_, _, _, _, h2⟩ := conc_yld hv
      rw [nam_eq h1 h2 h]
    | _ => simp [beqV] at h
  | .nilf, v, a, b, h, _, _ => by cases v <;> first | rfl | (simp [beqV] at h; done)
  | .iface t x, v, a, b, h, hu, hv => by
    cases v with
    | iface t' y =>
      simp only [beqV, Bool.and_eq_true, Nat.beq_eq] at h
      simp only [conc] at hu hv
      split at hu
      · rename_i e1
        split at hv
        · rename_i e2
          rw [h.1, beqV_eq x y h.2 e1 e2]
        · cases hv
      · cases hu
    | _ => simp [beqV] at h
  | .nili, v, a, b, h, _, _ => by cases v <;> first | rfl | (simp [beqV] at h; done)
  | .agg x, v, a, b, h, hu, hv => by
    cases v with
    | agg y =>
      simp only [beqV] at h
      obtain ⟨_, _, h1⟩ := conc_agg hu
      obtain ⟨_, _, h2⟩ := conc_agg hv
      rw [beqVs_eq x y h h1 h2]
    | _ => simp [beqV] at h
  | .tuple x, v, a, b, h, hu, hv => by
    cases v with
    | tuple y =>
      simp only [beqV] at h
      obtain ⟨_, _, h1⟩ := conc_tuple hu
      obtain ⟨_, _, h2⟩ := conc_tuple hv
      rw [beqVs_eq x y h h1 h2]
    | _ => simp [beqV] at h
  | .stamp x, v, a, b, h, hu, hv => by
    cases v with
    | stamp y =>
      simp only [beqV, Nat.beq_eq] at h
      simp only [conc] at hu hv
      split at hu
      · rename_i e1
        split at hv
        · rename_i e2
          rw [nam_eq e1 e2 h]
        · cases hv
      · cases hu
    | _ => simp [beqV] at h
theorem beqVs_eq : ∀ (l m : List AV) {a b : List Value}, beqVs l m = true → concs ρ l = some a → concs ρ m = some b → l = m
  | [], m, _, _, h, _, _ => by cases m <;> first | rfl | (simp [beqVs] at h; done)
  | x :: l, m, a, b, h, hu, hv => by
    cases m with
    | nil => simp [beqVs] at h
    | cons y m =>
      simp only [beqVs, Bool.and_eq_true] at h
      obtain ⟨_, _, _, h1, h2⟩ := concs_cons hu
      obtain ⟨_, _, _, h3, h4⟩ := concs_cons hv
      rw [beqV_eq x y h.1 h1 h3, beqVs_eq l m h.2 h2 h4]
end

/-! ### A block that no name stands for -/
theorem Sat.push (hs : Sat P ρ S w) (ob : Obj) : Sat P ρ S { w with heap := w.heap.push ob } := by
  have hget : ∀ g, g < w.heap.size → (w.heap.push ob)[g]? = w.heap[g]? := fun g hg => by rw [Array.getElem?_push, if_neg (Nat.ne_of_lt hg)]
  refine ⟨fun p => ?_, hs.inj, fun p g o c h => ?_, fun p g k h => ?_, hs.stinj, hs.glob, fun g hg => ?_⟩
  rotate_right
  · obtain ⟨c, hc⟩ := hs.glob g hg
    exact ⟨(hget g (hs.bnd _ _ _ _ (look_path hc))).trans (hs.vars g hg).1, (hs.vars g hg).2⟩
  · by_cases hf : S.at p = .free
    · have := hs.obj p; rw [hf] at this ⊢; exact this
    · exact (hs.obj p).mono hf (Le.refl _) fun g off cap hg _ => hget g (hs.bnd _ _ _ _ hg)
  · have := hs.bnd _ _ _ _ h; simp; omega
  · obtain ⟨h1, h2⟩ := hs.stp _ _ _ h
    exact ⟨by simp; omega, fun es c hc => h2 es c (by rw [← hget g h1]; exact hc)⟩
theorem Ext.push {ρ0 : Rho} {S0 : AS} {w0 : World} (he : Ext ρ0 S0 w0 ρ S w) (ob : Obj) : Ext ρ0 S0 w0 ρ S { w with heap := w.heap.push ob } :=
  ⟨he.le, by have := he.size; simp; omega, fun g hg hn => by
    have h1 := he.size
    show (w.heap.push ob)[g]? = _
    rw [Array.getElem?_push, if_neg (by omega)]; exact he.old g hg hn, he.owns, he.os, he.tape, he.output, he.tr⟩
/-- Such a block gets a name. -/
theorem Sat.bind {ρ0 : Rho} {S0 : AS} {w0 : World} (hs : Sat P ρ S w) (he : Ext ρ0 S0 w0 ρ S w) {i : Nam} {o : AO} {g : Nat} {S' : AS} (hf : S.at i.p = .free) (hS : ∀ p, S'.at p = if p = i.p then o else S.at p) (htr : Tr S S')
    (hg : g < w.heap.size) (hg0 : w0.heap.size ≤ g) (hno : ¬ Owns ρ S g) (hng : ∀ k, k < P.globals.size → k ≠ g) (hrel : relO P (ρ.set i.p (.blk g 0 0)) w.heap i.p o) : Sat P (ρ.set i.p (.blk g 0 0)) S' w ∧ Ext ρ0 S0 w0 (ρ.set i.p (.blk g 0 0)) S' w := by
  have hn : ρ i.p = none := by have := hs.obj i.p; rw [hf] at this; exact this
  have hle : Le ρ (ρ.set i.p (.blk g 0 0)) := Rho.set_le hn
  refine ⟨⟨fun p => ?_, ?_, ?_, ?_, ?_, ?_, ?_⟩, ⟨he.le.trans hle, he.size, he.old, ?_, he.os, he.tape, he.output, he.tr.trans htr⟩⟩
  · rw [hS p]
    by_cases e : p = i.p
    · subst e; rw [if_pos rfl]; exact hrel
    · rw [if_neg e]
      by_cases hfr : S.at p = .free
      · rw [hfr]; show ρ.set i.p _ p = none
        rw [Rho.set_other _ _ e]
        have := hs.obj p; rw [hfr] at this; exact this
      · exact (hs.obj p).mono hfr hle fun _ _ _ _ _ => rfl
  · intro p q g' a b a' b' hp hq h1 h2
    rw [hS p] at hp
    rw [hS q] at hq
    by_cases ep : p = i.p <;> by_cases eq : q = i.p
    · rw [ep, eq]
    · subst ep
      rw [Rho.set_same] at h1; cases h1
      rw [Rho.set_other _ _ eq] at h2
      rw [if_neg eq] at hq
      exact absurd ⟨q, _, _, h2, hq⟩ hno
    · subst eq
      rw [Rho.set_same] at h2; cases h2
      rw [Rho.set_other _ _ ep] at h1
      rw [if_neg ep] at hp
      exact absurd ⟨p, _, _, h1, hp⟩ hno
    · rw [Rho.set_other _ _ ep] at h1
      rw [Rho.set_other _ _ eq] at h2
      rw [if_neg ep] at hp
      rw [if_neg eq] at hq
      exact hs.inj _ _ _ _ _ _ _ hp hq h1 h2
  · intro p g' a b h
    by_cases ep : p = i.p
    · subst ep; rw [Rho.set_same] at h; cases h; exact hg
    · rw [Rho.set_other _ _ ep] at h; exact hs.bnd _ _ _ _ h
  · intro p g' k h
    by_cases ep : p = i.p
    · subst ep; rw [Rho.set_same] at h; cases h
    · rw [Rho.set_other _ _ ep] at h; exact hs.stp _ _ _ h
  · intro p q g' k h1 h2
    by_cases ep : p = i.p
    · subst ep; rw [Rho.set_same] at h1; cases h1
    · by_cases eq : q = i.p
      · subst eq; rw [Rho.set_same] at h2; cases h2
      · rw [Rho.set_other _ _ ep] at h1
        rw [Rho.set_other _ _ eq] at h2
        exact hs.stinj _ _ _ _ h1 h2
  · intro g' hg'
    obtain ⟨c, hc⟩ := hs.glob g' hg'
    exact ⟨c, hle.look hc⟩
  · intro g' hg'
    refine ⟨(hs.vars g' hg').1, fun p a c hl hp => ?_⟩
    rw [hS p] at hl
    by_cases ep : p = i.p
    · subst ep; rw [Rho.set_same] at hp; cases hp; exact hng _ hg' rfl
    · rw [Rho.set_other _ _ ep] at hp; rw [if_neg ep] at hl; exact (hs.vars g' hg').2 p a c hl hp
  · rintro g' hg' ⟨p, a, c, h1, h2⟩
    rw [hS p] at h2
    by_cases ep : p = i.p
    · subst ep; rw [Rho.set_same] at h1; cases h1; omega
    · rw [Rho.set_other _ _ ep] at h1
      rw [if_neg ep] at h2
      exact he.owns g' hg' ⟨p, a, c, h1, h2⟩

/-! ### Operations that only make a block -/
variable {cf : Cf} {vm : Vm} {fn : FuncId}
/-- What such an operation makes. -/
structure Late (P : Program) (cf : Cf) (vm : Vm) (fn : FuncId) (ρ : Rho) (o : Oper) (fr : FrA) (η : Operand → Value) (obj : AO) (mk : Nam → AV) (ob : Obj) (u : Nat → Value) : Prop where
  live : obj.live
  abs : ∀ S, (kOp P cf vm fn o).f fr S = newA S obj 1 .no fun i s => .val (mk i) s
  run : ∀ w, (execOp η o).run P w = .ok (.value (u w.heap.size)) { w with heap := w.heap.push ob }
  rel : ∀ ρ' heap' i g, Le ρ ρ' → look ρ' i = some (.blk g 0 0) → heap'[g]? = some ob → relO P ρ' heap' i.p obj ∧ conc ρ' (mk i) = some (u g)
theorem Late.own {o : Oper} {fr : FrA} {η : Operand → Value} {t : TypeId} {cs : List AV} {l : List Value} {mk : Nam → AV} {u : Nat → Value} (hcs : concs ρ cs = some l) (hmk : ∀ i ρ' g, look ρ' i = some (.blk g 0 0) → conc ρ' (mk i) = some (u g))
    (habs : ∀ S, (kOp P cf vm fn o).f fr S = newA S (.cells .own t cs) 1 .no fun i s => .val (mk i) s) (hrun : ∀ w, (execOp η o).run P w = .ok (.value (u w.heap.size)) { w with heap := w.heap.push (.cells l.toArray t) }) :
    Late P cf vm fn ρ o fr η (.cells .own t cs) mk (.cells l.toArray t) u :=
  ⟨trivial, habs, hrun, fun ρ' heap' i g hle hi hg => ⟨⟨g, 0, 0, l.toArray, (0, 0), l, look_path hi, hg, fz0 _, concs_mono hle _ hcs, fun j v hj => by rw [Nat.zero_add, List.getElem?_toArray]; exact hj, fun _ => ⟨rfl, rfl, rfl⟩, (fun h => nomatch h), trivial⟩, hmk i ρ' g hi⟩⟩
theorem cO_no {α : Type} {x : Option α} {f : α → AN} (h : cO x .no f ≠ .no) : ∃ a, x = some a := by
  cases x with
  | none => exact absurd rfl h
  | some a => exact ⟨a, rfl⟩
theorem late_ok {o : Oper} {fr : FrA} {η : Operand → Value} (hl : lateOp o = true) (hx : ∀ x ∈ o.op.operands.toList, Opd vm P.globals.size ρ fr η x) (hne : (kOp P cf vm fn o).f fr S ≠ .no) :
    ∃ obj mk ob u, Late P cf vm fn ρ o fr η obj mk ob u := by
  obtain ⟨dst, op, type, pos, after, guard⟩ := o
  simp only [lateOp, Bool.and_eq_true] at hl
  have hl := hl.2
  cases op with
  | alloc e =>
    cases hz : zeroA P e with
    | none => exact absurd (by simp only [kOp, hz]; rfl) hne
    | some z =>
      obtain ⟨u, hr, hc⟩ := zero_run hz (ρ := ρ)
      refine ⟨_, _, _, _, Late.own (t := e) (mk := fun i => .ptr i 0) (u := fun g => .pointer (some ⟨g, 0, none⟩)) (cellsA_conc hc) (fun i ρ' g h => by simp [conc, h]) (fun S => by simp only [kOp, hz]; rfl) fun w => ?_⟩
      simp [execOp, Instr.alloc, hr, newVar, newRow]
  | box e x =>
    cases hk : okX P.globals.size x with
    | false => exact absurd (by simp only [kOp, hk]; rfl) hne
    | true =>
      have hc := hx x (by simp [Op.operands]) hk
      refine ⟨_, _, _, _, Late.own (t := e) (mk := fun i => .ptr i 0) (u := fun g => .pointer (some ⟨g, 0, none⟩)) (cellsA_conc hc) (fun i ρ' g h => by simp [conc, h]) (fun S => by simp only [kOp, hk]; rfl) fun w => ?_⟩
      simp [execOp, Instr.box, newVar, newRow]
  | makeMap t r =>
    cases r with
    | some _ => cases hl
    | none =>
      exact ⟨.map [] 0, fun i => .map i, .map #[] 0, fun g => .map (some g), trivial, fun S => rfl, fun w => by simp [execOp, Instr.makeMap],
        fun ρ' heap' i g hle hi hg => ⟨⟨g, 0, 0, #[], look_path hi, hg, ⟨⟨[], .nil, .refl _⟩, by simp, by simp, by simp⟩⟩, by simp [conc, hi]⟩⟩
  | buildSlice t n ps =>
    cases hk : okXs P.globals.size (ps.toList.map (·.2)) with
    | false => exact absurd (by simp only [kOp, hk]; rfl) hne
    | true =>
      have hp := cXI_ok (l := ps.toList) (ρ := ρ) (fr := fr) (η := η) (fun x h => hx x.2 (by simp [Op.operands]; exact ⟨x.1, by simpa using h⟩)) hk
      have hkop : ∀ S, (kOp P cf vm fn ⟨dst, .buildSlice t n ps, type, pos, after, guard⟩).f fr S = (buildSliceA P t n).f ((cXI vm ps.toList).f fr) S := fun S => by simp only [kOp, hk]
      rw [hkop] at hne
      have hq : (ps.map fun (x : Nat × Operand) => (x.1, η x.2)) = (ps.toList.map fun x => (x.1, η x.2)).toArray := by apply Array.ext'; simp
      generalize (cXI vm ps.toList).f fr = as at hp hne hkop
      generalize hqs : (ps.toList.map fun x => (x.1, η x.2)) = qs at hp hq
      cases hu : P.underlying t with
      | none => exact absurd (by simp only [buildSliceA, hu]) hne
      | some td =>
        cases td with
        | slice e =>
          cases hz : sizeA P e with
          | none => exact absurd (by simp only [buildSliceA, hu, hz]) hne
          | some z =>
          cases hzv : zeroA P e with
          | none => exact absurd (by simp only [buildSliceA, hu, hz, hzv]) hne
          | some zv =>
          cases hb : (Nat.beq (len (cellsA zv)) z && Nat.ble (n * z) 16777216) with
          | false => exact absurd (by simp only [buildSliceA, hu, hz, hzv, hb]) hne
          | true =>
          have hA : ∀ S, (buildSliceA P t n).f as S = cO (fillA (fun i => some (Nat.mul i z, z)) as (rep (cellsA zv) n)) .no fun cs => newA S (.cells .own e cs) 1 .no fun i s' => .val (.slice i 0 n n) s' := fun S => by simp only [buildSliceA, hu, hz, hzv, hb]
          rw [hA] at hne
          obtain ⟨cs, hcs⟩ := cO_no hne
          simp only [Bool.and_eq_true] at hb
          obtain ⟨uz, hzr, hzc⟩ := zero_run hzv (ρ := ρ)
          have hcz := cellsA_conc hzc
          have hzl : uz.cells.size = z := by
            have := concs_length hcz
            have h1 := hb.1
            rw [Nat.beq_eq, len_eq] at h1
            simp only [Array.length_toList] at this
            omega
          have hlim : n * z ≤ 16777216 := by simpa using hb.2
          obtain ⟨l', h1, h2⟩ := fill_ok as qs _ cs _ hp (concs_rep hcz n) hcs
          have h2 : Instr.fill (fun i => some (i * z, z)) (rep uz.cells.toList n).toArray qs = some l'.toArray := h2
          refine ⟨_, _, _, _, Late.own (t := e) (mk := fun i => .slice i 0 n n) (u := fun g => .slice (some ⟨g, 0, none⟩) n n) h1 (fun i ρ' g h => by simp only [conc, h]; rw [if_pos (Nat.le_refl _)]) (fun S => by rw [hkop, hA, hcs]; rfl) fun w => ?_⟩
          have hlim' : ¬ (n * z > 2 ^ 24) := by omega
          have hzeros : (Array.range (n * z)).map (fun i => uz.cells[i % uz.cells.size]!) = (rep uz.cells.toList n).toArray := zeros_eq uz.cells n _ (by rw [hzl])
          have hz' : ∀ w, (sizeOf e).run P w = .ok z w := fun w => size_run hz
          have hrun : (Instr.buildSlice t n qs.toArray).run P w = .ok (.slice (some ⟨w.heap.size, 0, none⟩) n n) { w with heap := w.heap.push (.cells l'.toArray e) } := by
            by_cases h0 : n * z = 0
            · have hr0 : (rep uz.cells.toList n).toArray = #[] := by rw [← hzeros, h0]; simp
              have r0 : Array.range 0 = #[] := Array.ext' (by simp)
              rw [hr0] at h2
              simp [Instr.buildSlice, run_underlying hu, hz', h0, r0, h2, newRow]
            · simp only [Instr.buildSlice, Sem.run_bind, run_underlying hu, Result.andThen_ok, hz', hlim', if_false, Sem.run_pure, h0, hzr, hzeros, h2, newRow, run_newObj]
          have hq' : (ps.map fun (x : Nat × Operand) => match x with | (i, y) => (i, η y)) = qs.toArray := hq
          simp only [execOp, Sem.run_bind, Sem.run_pure]
          rw [hq', hrun]; rfl
        | _ => exact absurd (by simp only [buildSliceA, hu]) hne
  | makeSlice t xl xc =>
    have hbig : bigC xl = false := by
      cases hq : bigC xl with
      | false => rfl
      | true => simp [lateOp, hq] at hl
    cases hk : okXs P.globals.size [xl, xc] with
    | false => exact absurd (by simp only [kOp, hk]; rfl) hne
    | true =>
      obtain ⟨hk1, hk2⟩ := okXs2 hk
      have hl' := hx xl (by simp [Op.operands]) hk1
      have hc' := hx xc (by simp [Op.operands]) hk2
      have hkop : ∀ S, (kOp P cf vm fn ⟨dst, .makeSlice t xl xc, type, pos, after, guard⟩).f fr S = (makeSliceA P t).f ((cX1 vm xl).f fr) ((cX1 vm xc).f fr) S := fun S => by simp only [kOp, hk, hbig]
      rw [hkop] at hne
      generalize (cX1 vm xl).f fr = l at hl' hne hkop
      generalize (cX1 vm xc).f fr = c at hc' hne hkop
      cases hu : P.underlying t with
      | none => exact absurd (by simp only [makeSliceA, hu]) hne
      | some td =>
        cases td with
        | slice e =>
          cases hz : sizeA P e with
          | none => exact absurd (by simp only [makeSliceA, hu, hz]) hne
          | some z =>
          cases hzv : zeroA P e with
          | none => exact absurd (by simp only [makeSliceA, hu, hz, hzv]) hne
          | some zv =>
          cases hzl : Nat.beq (len (cellsA zv)) z with
          | false => exact absurd (by simp only [makeSliceA, hu, hz, hzv, hzl]) hne
          | true =>
          have hA : ∀ S, (makeSliceA P t).f l c S = vInt l .no fun _ l => vInt c .no fun _ c => cI l (fun n => cI c (fun m =>
              cB (bAnd (Nat.ble n m) (small (Nat.mul m (Nat.add (Nat.add z 1) (bytesA P e))))) (newA S (.cells .own e (rep (cellsA zv) m)) 1 .no fun i s' => .val (.slice i 0 n m) s') .no) fun _ => .no) fun _ => .no := fun S => by simp only [makeSliceA, hu, hz, hzv, hzl]
          rw [hA] at hne
          cases l with
          | int kl n =>
            cases c with
            | int kc m =>
              cases n with
              | negSucc n => exact absurd rfl hne
              | ofNat n =>
              cases m with
              | negSucc m => exact absurd rfl hne
              | ofNat m =>
              cases hb : bAnd (Nat.ble n m) (small (Nat.mul m (Nat.add (Nat.add z 1) (bytesA P e)))) with
              | false =>
                exfalso; apply hne
                show cB (bAnd (Nat.ble n m) (small (Nat.mul m (Nat.add (Nat.add z 1) (bytesA P e))))) _ AN.no = _
                rw [hb]; rfl
              | true =>
              have hul := conc_int hl'
              have huc := conc_int hc'
              obtain ⟨hb1, hb2⟩ := bAnd_iff.1 hb
              have hnm : n ≤ m := by simpa using hb1
              have hsm : m * (z + 1 + bytesA P e) ≤ 1000000000 := by simpa [small] using hb2
              obtain ⟨u, hzr, hzc⟩ := zero_run hzv (ρ := ρ)
              have hcz := cellsA_conc hzc
              have hzl' : u.cells.size = z := by
                have := concs_length hcz
                rw [Nat.beq_eq, len_eq] at hzl
                simp only [Array.length_toList] at this
                omega
              obtain ⟨ti, hti, htz⟩ := info_run hz
              have hby : bytesA P e = ti.bytes := by simp [bytesA, hti]
              have hm9 : m ≤ 1000000000 := Nat.le_trans (Nat.le_mul_of_pos_right m (by omega)) hsm
              have hbm : m * ti.bytes ≤ 1000000000 := by rw [← hby]; exact Nat.le_trans (Nat.mul_le_mul_left m (by omega)) hsm
              have hbm' : (ti.bytes : Int) * (m : Int) ≤ 281474976710656 := by
                have : (ti.bytes : Int) * (m : Int) = ((m * ti.bytes : Nat) : Int) := by rw [Int.natCast_mul, Int.mul_comm]
                rw [this]; omega
              have hzi : ti.zero = some u := by
                have := hzr default
                simp only [zeroValue, Sem.run_bind, typeInfo, run_program, hti, Result.andThen_ok, Sem.run_pure] at this
                cases hq : ti.zero with
                | none => rw [hq] at this; cases this
                | some y => rw [hq] at this; cases this; rfl
              refine ⟨_, _, _, _, Late.own (t := e) (mk := fun i => .slice i 0 n m) (u := fun g => .slice (some ⟨g, 0, none⟩) n m) (concs_rep hcz m) (fun i ρ' g h => by simp only [conc, h]; rw [if_pos hnm]) (fun S => by
                rw [hkop, hA]
                show cB (bAnd (Nat.ble n m) (small (Nat.mul m (Nat.add (Nat.add z 1) (bytesA P e))))) _ AN.no = _
                rw [hb]; rfl) fun w => ?_⟩
              have hrun := run_make (P := P) w t e ti u hu hti hzi kl kc n m (by omega) (by omega) hbm' (by omega)
              rw [← zeros_eq u.cells m (m * ti.size) (by rw [htz, hzl'])]
              simp only [execOp, Sem.run_bind, Sem.run_pure, hul, huc]
              have hrun' : (Instr.makeSlice t (.int kl (Int.ofNat n)) (.int kc (Int.ofNat m))).run P w = _ := hrun
              rw [hrun']; rfl
            | _ => exact absurd rfl hne
          | _ => exact absurd rfl hne
        | _ => exact absurd (by simp only [makeSliceA, hu]) hne
  | _ => cases hl
end
end Go.Proofs.YtfmaapbibmnfgaaGreatDoor.Ev
namespace Go.Proofs.YtfmaapbibmnfgaaGreatDoor.Ev
variable [Vr]
section
variable {P : Program} {ρ : Rho} {S : AS} {w : World} {cf : Cf} {vm : Vm} {fn : FuncId} {ops : Array Oper}

/-! ### What is held -/
mutual
theorem beqV_refl : ∀ v : AV, beqV v v = true
  | .bool b => by simp [beqV]
  | .int k n => by simp [beqV, kEq_iff.2 rfl, (ieq_iff n n).2 rfl]
  | .str l => by simp [beqV, (natsEq_iff l l).2 rfl]
  | .rstr _ _ => by simp [beqV]
  | .ifo _ => by simp [beqV]
  | .ptr _ _ => by simp [beqV]
  | .nilp => rfl
  | .slice _ _ _ _ => by simp [beqV]
  | .row _ _ _ _ => by simp [beqV]
  | .tail _ _ _ _ => by simp [beqV]
  | .nils => rfl
  | .map _ => by simp [beqV]
  | .nilm => rfl
  | .func _ a b => by simp [beqV, beqVs_refl a, beqVs_refl b]
  | .yld _ => by simp [beqV]
  | .nilf => rfl
  | .iface _ v => by simp [beqV, beqV_refl v]
  | .nili => rfl
  | .agg l => by simp [beqV, beqVs_refl l]
  | .tuple l => by simp [beqV, beqVs_refl l]
  | .stamp _ => by simp [beqV]
theorem beqVs_refl : ∀ l : List AV, beqVs l l = true
  | [] => rfl
  | v :: l => by simp [beqVs, beqV_refl v, beqVs_refl l]
end
theorem heldA_cons {h : Hd} {l : List Hd} : heldA S (h :: l) = true ↔ (∃ u, h.k.f h.fr S = .get u ∧ beqV u h.v = true) ∧ heldA S l = true := by
  have e : heldA S (h :: l) = cAN (h.k.f h.fr S) false (fun u => cB (beqV u h.v) (heldA S l) false) (fun _ _ => false) (fun _ _ => false) (fun _ _ => false) fun _ => false := rfl
  rw [e]
  cases hk : h.k.f h.fr S with
  | get u =>
    show cB (beqV u h.v) (heldA S l) false = true ↔ _
    cases hb : beqV u h.v with
    | true => exact ⟨fun h => ⟨⟨u, rfl, hb⟩, h⟩, fun h => h.2⟩
    | false => exact ⟨fun h => (by cases h), fun ⟨⟨u', h1, h2⟩, _⟩ => by cases h1; rw [hb] at h2; cases h2⟩
  | _ => exact ⟨fun h => (by cases h), fun ⟨⟨u', h1, _⟩, _⟩ => by cases h1⟩
theorem heldA_mem : ∀ {l : List Hd}, heldA S l = true → ∀ h ∈ l, ∃ u, h.k.f h.fr S = .get u ∧ beqV u h.v = true
  | [], _, h, hm => by cases hm
  | x :: l, hl, h, hm => by
    obtain ⟨h1, h2⟩ := heldA_cons.1 hl
    rcases List.mem_cons.1 hm with rfl | hm
    · exact h1
    · exact heldA_mem h2 h hm
theorem keepH_mem {ws : List Nat} : ∀ {l : List Hd} {h : Hd}, h ∈ l → h.i ∉ ws → h ∈ keepH ws l
  | [], h, hm, _ => by cases hm
  | x :: l, h, hm, hn => by
    have e : keepH ws (x :: l) = cB (itL false (fun i _ r => cB (Nat.beq i x.i) true r) ws) (keepH ws l) (x :: keepH ws l) := rfl
    rw [e]
    have hit : ∀ ws : List Nat, itL false (fun i _ r => cB (Nat.beq i x.i) true r) ws = true → x.i ∈ ws := by
      intro ws
      induction ws with
      | nil => intro h; cases h
      | cons a t ih =>
        intro h
        have h' : cB (Nat.beq a x.i) true (itL false (fun i _ r => cB (Nat.beq i x.i) true r) t) = true := h
        cases c : Nat.beq a x.i with
        | true => rw [Nat.beq_eq] at c; simp [c]
        | false => rw [c] at h'; exact List.mem_cons_of_mem _ (ih h')
    rcases List.mem_cons.1 hm with rfl | hm
    · cases hb : itL false (fun i _ r => cB (Nat.beq i h.i) true r) ws with
      | true => exact absurd (hit ws hb) hn
      | false => simp [cB]
    · have := keepH_mem hm hn
      cases itL false (fun i _ r => cB (Nat.beq i x.i) true r) ws with
      | true => exact this
      | false => exact List.mem_cons_of_mem _ this
noncomputable def isW (vm : Vm) (ops : Array Oper) (o : Oper) (fr : FrA) : Bool := match kWant vm ops o with
  | none => true
  | some g => g.f fr
structure HeldI (P : Program) (cf : Cf) (vm : Vm) (fn : FuncId) (ops : Array Oper) (hs : List Hd) (ρ : Rho) (h : Hq) (o : Oper) (fr : FrA) (v : AV) (y : Value) (η : Operand → Value) : Prop where
  op : ops[h.i]? = some o
  opd : ∀ x ∈ o.op.operands.toList, Opd vm P.globals.size ρ fr η x
  val : conc ρ v = some y
  hold : h.hold = fun w => isW vm ops o fr = true → (execOp η o).run P w = .ok (.value y) w
  src : (∀ S, (kSee P cf vm fn ops o).f fr S = .get v) ∨ (⟨h.i, kSee P cf vm fn ops o, fr, v⟩ : Hd) ∈ hs
theorem HeldI.mono {hs hs' : List Hd} {ρ' : Rho} {h : Hq} {o : Oper} {fr : FrA} {v : AV} {y : Value} {η : Operand → Value} (x : HeldI P cf vm fn ops hs ρ h o fr v y η) (hl : Le ρ ρ') (hm : ∀ q ∈ hs, q.i = h.i → q ∈ hs') : HeldI P cf vm fn ops hs' ρ' h o fr v y η :=
  ⟨x.op, fun z hz hk => conc_mono hl _ (x.opd z hz hk), conc_mono hl _ x.val, x.hold, x.src.imp id fun q => hm _ q rfl⟩
theorem HeldI.holds {hs : List Hd} {h : Hq} {o : Oper} {fr : FrA} {v : AV} {y : Value} {η : Operand → Value} (x : HeldI P cf vm fn ops hs ρ h o fr v y η) (hsat : Sat P ρ S w) (hh : heldA S hs = true) : h.hold w := by
  rw [x.hold]
  intro hw
  have hsee : ∃ u, (kSee P cf vm fn ops o).f fr S = .get u ∧ beqV u v = true := by
    rcases x.src with h1 | h1
    · exact ⟨v, h1 S, beqV_refl v⟩
    · exact heldA_mem hh _ h1
  obtain ⟨u, h1, h2⟩ := hsee
  have h3 : (kOp P cf vm fn o).f fr S = .get u := by
    unfold isW at hw
    unfold kSee at h1
    cases hk : kWant vm ops o with
    | none => rw [hk] at h1; exact h1
    | some g =>
      rw [hk] at h1 hw
      have hw : g.f fr = true := hw
      have h1 : cB (g.f fr) ((kOp P cf vm fn o).f fr S) (.get (.tuple [])) = .get u := h1
      rw [hw] at h1
      exact h1
  have h4 := kOp_ok hsat cf fn o x.opd
  rw [h3] at h4
  obtain ⟨y', h5, h6⟩ := h4
  have := beqV_eq u v h2 h5 x.val
  subst this
  rw [x.val] at h5; cases h5
  exact h6

/-! ### Counting -/
noncomputable def unl (L : Array Bool) : Nat := L.toList.countP (fun b => !b)
theorem countP_set : ∀ (l : List Bool) (j : Nat), l[j]? = some false → (l.set j true).countP (fun b => !b) + 1 = l.countP (fun b => !b)
  | [], _, h => by simp at h
  | b :: l, 0, h => by simp at h; subst h; simp
  | b :: l, j + 1, h => by
    simp at h
    have := countP_set l j h
    simp only [List.set_cons_succ, List.countP_cons]
    omega
theorem unl_set {L : Array Bool} {j : Nat} (h : L.getD j true = false) : unl (L.setIfInBounds j true) + 1 = unl L := by
  unfold unl
  rw [Array.toList_setIfInBounds]
  apply countP_set
  rw [Array.getElem?_toList]
  rw [Array.getD_eq_getD_getElem?] at h
  cases hj : L[j]? with
  | none => rw [hj] at h; cases h
  | some b => rw [hj] at h; simp at h; rw [h]
theorem getD_same {L : Array Bool} {j : Nat} {d : Bool} (h : j < L.size) : (L.setIfInBounds j true).getD j d = true := by simp [h]
theorem lt_of_getD {L : Array Bool} {j : Nat} (h : L.getD j true = false) : j < L.size := by
  rcases Nat.lt_or_ge j L.size with h' | h'
  · exact h'
  · rw [Array.getD_eq_getD_getElem?, Array.getElem?_eq_none h'] at h; cases h

/-! ### How late blocks go on -/
theorem cX1_congr {fr fr' : FrA} {x : Operand} (h : ∀ i, x = .tmp i → i < 256 → (tgF vm i).f fr.t = (tgF vm i).f fr'.t) {ng : Nat} (hk : okX ng x = true) : (cX1 vm x).f fr = (cX1 vm x).f fr' := by
  cases x with
  | tmp i => exact h i rfl (by simpa [okX] using hk)
  | const v => simp only [cX1]; split <;> rfl
  | global g => rfl
  | func f => rfl
theorem cXI_congr {fr fr' : FrA} {ng : Nat} : ∀ {l : List (Nat × Operand)}, (∀ x ∈ l, ∀ i, x.2 = .tmp i → i < 256 → (tgF vm i).f fr.t = (tgF vm i).f fr'.t) → okXs ng (l.map (·.2)) = true → (cXI vm l).f fr = (cXI vm l).f fr'
  | [], _, _ => rfl
  | (i, x) :: l, h, hk => by
    simp only [okXs, List.map_cons, List.all_cons, Bool.and_eq_true] at hk
    show (i, (cX1 vm x).f fr) :: (cXI vm l).f fr = (i, (cX1 vm x).f fr') :: (cXI vm l).f fr'
    rw [cX1_congr (h (i, x) (by simp)) hk.1, cXI_congr (fun y hy => h y (by simp [hy])) hk.2]
theorem late_congr {o : Oper} {fr fr' : FrA} (hl : lateOp o = true) (h : ∀ x ∈ o.op.operands.toList, ∀ i, x = .tmp i → i < 256 → (tgF vm i).f fr.t = (tgF vm i).f fr'.t) (S : AS) : (kOp P cf vm fn o).f fr S = (kOp P cf vm fn o).f fr' S := by
  obtain ⟨dst, op, type, pos, after, guard⟩ := o
  simp only [lateOp, Bool.and_eq_true] at hl
  have hl := hl.2
  cases op with
  | alloc e => simp only [kOp]; split <;> rfl
  | box e x =>
    simp only [kOp]
    split
    · rename_i hk; show newV S e (cellsA ((cX1 vm x).f fr)) = newV S e (cellsA ((cX1 vm x).f fr')); rw [cX1_congr (h x (by simp [Op.operands])) hk]
    · rfl
  | makeMap t r => cases r <;> rfl
  | buildSlice t n ps =>
    simp only [kOp]
    split
    · rename_i hk
      show (buildSliceA P t n).f ((cXI vm ps.toList).f fr) S = (buildSliceA P t n).f ((cXI vm ps.toList).f fr') S
      rw [cXI_congr (fun x hx => h x.2 (by simp [Op.operands]; exact ⟨x.1, by simpa using hx⟩)) hk]
    · rfl
  | makeSlice t a b =>
    simp only [kOp]
    split
    · rename_i hk _
      obtain ⟨h1, h2⟩ := okXs2 hk
      show (makeSliceA P t).f ((cX1 vm a).f fr) ((cX1 vm b).f fr) S = (makeSliceA P t).f ((cX1 vm a).f fr') ((cX1 vm b).f fr') S
      rw [cX1_congr (h a (by simp [Op.operands])) h1, cX1_congr (h b (by simp [Op.operands])) h2]
    · rename_i hk _
      obtain ⟨h1, h2⟩ := okXs2 hk
      show (makeFillA P t).f ((cX1 vm a).f fr) ((cX1 vm b).f fr) S = (makeFillA P t).f ((cX1 vm a).f fr') ((cX1 vm b).f fr') S
      rw [cX1_congr (h a (by simp [Op.operands])) h1, cX1_congr (h b (by simp [Op.operands])) h2]
    · rfl
  | _ => cases hl
theorem Late.mono {o : Oper} {fr fr' : FrA} {η η' : Operand → Value} {obj : AO} {mk : Nam → AV} {ob : Obj} {u : Nat → Value} {ρ' : Rho} (x : Late P cf vm fn ρ o fr η obj mk ob u) (hl : Le ρ ρ') (hk : ∀ S, (kOp P cf vm fn o).f fr' S = (kOp P cf vm fn o).f fr S) (hη : execOp η' o = execOp η o) :
    Late P cf vm fn ρ' o fr' η' obj mk ob u :=
  ⟨x.live, fun S => by rw [hk]; exact x.abs S, fun w => by rw [hη]; exact x.run w, fun ρ'' heap' i g h => x.rel ρ'' heap' i g (hl.trans h)⟩
theorem cD_tget {n : Nat} {dst : Option Tmp} (hd : okD n dst = true) {fr : FrA} {v : AV} {i : Nat} (hi : i < 256) (hne : dst ≠ some i) : (tgF vm i).f ((cD vm n dst).f fr v).t = (tgF vm i).f fr.t := by
  cases dst with
  | none => rfl
  | some d =>
    have hd' : n ≤ d ∨ d < 256 := by simpa [okD] using hd
    cases hb : Nat.blt d n with
    | false => simp only [cD, hb]
    | true =>
      have hdn : d < n := by simpa using hb
      have hd256 : d < 256 := hd'.resolve_left (fun h => absurd hdn (Nat.not_lt.2 h))
      simp only [cD, hb]
      exact tget_ne v hi hd256 (fun e => hne (by rw [e])) _
theorem looksAt_op {o : Oper} {d : Tmp} (h : .tmp d ∈ o.op.operands.toList) : d ∈ o.looksAt ops := List.mem_append_left _ (List.mem_filterMap.2 ⟨.tmp d, h, rfl⟩)
theorem looksAt_guard {o p : Oper} {j : Nat} {b : Bool} {d : Tmp} (hg : o.guard = some (j, b)) (hj : ops[j]? = some p) (hd : p.dst = some d) : d ∈ o.looksAt ops := by
  unfold Oper.looksAt
  rw [hg]
  simp [hj, hd]

/-! ### The state of a plan -/
noncomputable def PX (ops : Array Oper) (n : Nat) (D L : Array Bool) (d : Nat) : Prop := d < n ∧ ∃ j o, D.getD j true = false ∧ L.getD j true = true ∧ ops[j]? = some o ∧ o.dst = some d
structure LateI (P : Program) (cf : Cf) (vm : Vm) (fn : FuncId) (ops : Array Oper) (n : Nat) (w0 : World) (D : Array Bool) (G : Nat → Option Nat) (ρ : Rho) (S : AS) (w : World) (fr : FrA) (a : Act) (j : Nat) (o : Oper) (obj : AO) (mk : Nam → AV) (ob : Obj) (u : Nat → Value) (η : Operand → Value) : Prop where
  op : ops[j]? = some o
  is : lateOp o = true
  free : FreeAt ops o j D
  deps : ∀ e ∈ o.after, Region.binds .any e = true → D.getD e.on false = true
  ok : okOp n ops o = true
  late : Late P cf vm fn ρ o fr η obj mk ob u
  eval : G j = none → execOp a.eval o = execOp η o
  made : ∀ g, G j = some g → g < w.heap.size ∧ w0.heap.size ≤ g ∧ w.heap[g]? = some ob ∧ ¬ Owns ρ S g ∧ ∀ d, o.dst = some d → d < n → a.tmps.getD d undef = u g
structure PInv (P : Program) (cf : Cf) (vm : Vm) (fn : FuncId) (ops : Array Oper) (n : Nat) (ρ0 : Rho) (S0 : AS) (w0 : World) (hs : List Hd) (D L listed : Array Bool) (H : List Hq) (G : Nat → Option Nat) (ρ : Rho) (S : AS) (w : World) (fr : FrA) (a : Act) : Prop where
  sat : Sat P ρ S w
  ext : Ext ρ0 S0 w0 ρ S w
  szD : D.size = ops.size
  szL : L.size = ops.size
  szl : listed.size = ops.size
  DL : ∀ j, D.getD j true = true → L.getD j true = true
  lst : ∀ j, j < ops.size → (listed.getD j true = true ↔ (D.getD j true = true ∨ ∃ g, G j = some g))
  gl : ∀ j g, G j = some g → L.getD j true = true ∧ D.getD j true = false
  ginj : ∀ j j' g, G j = some g → G j' = some g → j = j'
  late : ∀ j, D.getD j true = false → L.getD j true = true → ∃ o obj mk ob u η, LateI P cf vm fn ops n w0 D G ρ S w fr a j o obj mk ob u η
  fr : FR vm ρ fr n (PX ops n D L) a
  held : ∀ h ∈ H, ∃ o fr' v y η, HeldI P cf vm fn ops hs ρ h o fr' v y η
  seen : heldA S hs = true
  vb : ∀ k, k < P.globals.size → k < w0.heap.size
section
variable {n : Nat} {ρ0 : Rho} {S0 : AS} {w0 : World} {hs : List Hd} {D L listed : Array Bool} {H : List Hq} {G : Nat → Option Nat} {fr : FrA} {a : Act}
theorem getD_tf {A : Array Bool} {j : Nat} (h : j < A.size) (d d' : Bool) : A.getD j d = A.getD j d' := by simp [h]
/-- One that is ready in truth is one that waits to be told of, or ready by the plan. -/
theorem PInv.ready (inv : PInv P cf vm fn ops n ρ0 S0 w0 hs D L listed H G ρ S w fr a) {j : Nat} (hj : j ∈ Region.ready .any ops listed) (hL : L.getD j true = false) : j ∈ Region.ready .any ops L := by
  obtain ⟨h1, o, ho, h2⟩ := mem_ready.1 hj
  refine mem_ready.2 ⟨hL, o, ho, fun e he hb => ?_⟩
  have h3 := h2 e he hb
  have hlt : e.on < listed.size := by
    rcases Nat.lt_or_ge e.on listed.size with h' | h'
    · exact h'
    · rw [Array.getD_eq_getD_getElem?, Array.getElem?_eq_none h'] at h3; cases h3
  have hlt' : e.on < ops.size := by rw [← inv.szl]; exact hlt
  rw [getD_tf hlt false true] at h3
  rw [getD_tf (by rw [inv.szL]; exact hlt') false true]
  rcases (inv.lst e.on hlt').1 h3 with h4 | ⟨g, h4⟩
  · exact inv.DL _ h4
  · exact (inv.gl _ _ h4).1
theorem PInv.unlisted (inv : PInv P cf vm fn ops n ρ0 S0 w0 hs D L listed H G ρ S w fr a) {j : Nat} (hj : listed.getD j true = false) : D.getD j true = false ∧ G j = none := by
  have hlt : j < ops.size := by rw [← inv.szl]; exact lt_of_getD hj
  refine ⟨?_, ?_⟩
  · cases hd : D.getD j true with
    | false => rfl
    | true => rw [(inv.lst j hlt).2 (.inl hd)] at hj; cases hj
  · cases hg : G j with
    | none => rfl
    | some g => rw [(inv.lst j hlt).2 (.inr ⟨g, hg⟩)] at hj; cases hj
/-- One that the plan is at is ready in truth. -/
theorem PInv.here (inv : PInv P cf vm fn ops n ρ0 S0 w0 hs D L listed H G ρ S w fr a) {j : Nat} (hD : j ∈ Region.ready .any ops D) (hL : G j = none) : j ∈ Region.ready .any ops listed := by
  obtain ⟨h1, o, ho, h2⟩ := mem_ready.1 hD
  have hlt : j < ops.size := (Array.getElem?_eq_some_iff.1 ho).1
  refine mem_ready.2 ⟨?_, o, ho, fun e he hb => ?_⟩
  · cases hl : listed.getD j true with
    | false => rfl
    | true =>
      rcases (inv.lst j hlt).1 hl with h3 | ⟨g, h3⟩
      · rw [h1] at h3; cases h3
      · rw [hL] at h3; cases h3
  · have h3 := h2 e he hb
    have hlt' : e.on < D.size := by
      rcases Nat.lt_or_ge e.on D.size with h' | h'
      · exact h'
      · rw [Array.getD_eq_getD_getElem?, Array.getElem?_eq_none h'] at h3; cases h3
    rw [getD_tf hlt' false true] at h3
    have hlt2 : e.on < ops.size := by rw [← inv.szD]; exact hlt'
    rw [getD_tf (by rw [inv.szl]; exact hlt2) false true]
    exact (inv.lst _ hlt2).2 (.inl h3)
/-- What the plan is at looks at nothing that waits to be told of. -/
theorem PInv.avoid (inv : PInv P cf vm fn ops n ρ0 S0 w0 hs D L listed H G ρ S w fr a) {e : Nat} {oe : Oper} (hD : e ∈ Region.ready .any ops D) (hL : L.getD e true = false) (he : ops[e]? = some oe) :
    (∀ d ∈ oe.looksAt ops, ¬ PX ops n D L d) ∧ (∀ d, oe.dst = some d → ¬ PX ops n D L d) ∧ ∀ j o, D.getD j true = false → L.getD j true = true → ops[j]? = some o → o.apart ops oe = true := by
  have hap : ∀ j o, D.getD j true = false → L.getD j true = true → ops[j]? = some o → o.apart ops oe = true := fun j o h1 h2 h3 => by
    obtain ⟨o', obj, mk, ob, u, η, li⟩ := inv.late j h1 h2
    have := li.op
    rw [h3] at this; cases this
    refine li.free e oe he (fun e1 => ?_) (mem_ready.1 hD).1 (not_waits hD h1)
    subst e1
    rw [hL] at h2; cases h2
  refine ⟨fun d hd ⟨_, j, o, h1, h2, h3, h4⟩ => ?_, fun d hd ⟨_, j, o, h1, h2, h3, h4⟩ => ?_, hap⟩
  · exact (Oper.apart_spec (hap j o h1 h2 h3)).1 d h4 hd
  · exact (Oper.apart_spec (hap j o h1 h2 h3)).2.1 d h4 hd
theorem PX_set {e : Nat} (hL : L.getD e true = false) {d : Nat} (h : PX ops n D L d) : PX ops n (D.setIfInBounds e true) (L.setIfInBounds e true) d := by
  obtain ⟨hd, j, o, h1, h2, h3, h4⟩ := h
  have hne : e ≠ j := by intro x; subst x; rw [hL] at h2; cases h2
  exact ⟨hd, j, o, by rw [getD_set_ne true hne]; exact h1, by rw [getD_set_ne true hne]; exact h2, h3, h4⟩
theorem FR.weaken {X X' : Nat → Prop} (h : FR vm ρ fr n X a) (hx : ∀ i, X i → X' i) : FR vm ρ fr n X' a := ⟨h.size, fun i hi hn => h.tmps i hi (fun q => hn (hx i q)), h.defs⟩
theorem getD_put {a : Act} {dst : Option Tmp} {v : Value} {d : Nat} (h : dst ≠ some d) : (a.put dst v).tmps.getD d undef = a.tmps.getD d undef := by
  cases dst with
  | none => rfl
  | some x =>
    have hne : x ≠ d := fun e => h (by rw [e])
    simp only [Act.put, Array.getD_eq_getD_getElem?]
    rw [Array.getElem?_setIfInBounds_ne hne]
theorem getD_put_out {a : Act} {v : Value} {d : Nat} (h : a.tmps.size ≤ d) : (a.put (some d) v).tmps.getD d undef = a.tmps.getD d undef := by
  simp only [Act.put, Array.getD_eq_getD_getElem?]
  rw [Array.getElem?_eq_none (by simpa using h), Array.getElem?_eq_none h]
theorem getD_put_same {a : Act} {v : Value} {d : Nat} (h : d < a.tmps.size) : (a.put (some d) v).tmps.getD d undef = v := by
  simp [Act.put, h]
/-- The plan goes on behind an operation that it is at. -/
theorem PInv.step (inv : PInv P cf vm fn ops n ρ0 S0 w0 hs D L listed H G ρ S w fr a) (hds : noDS ops = true) {e : Nat} {oe : Oper} (hD : e ∈ Region.ready .any ops D) (hL : L.getD e true = false) (he : ops[e]? = some oe) (hop : okOp n ops oe = true)
    {ρ' : Rho} {S' : AS} {w' : World} {v : AV} {y : Value} (hext : Ext ρ S w ρ' S' w') (hsat : Sat P ρ' S' w') (hv : conc ρ' v = some y) {hs' : List Hd} {H' : List Hq} (hheld : ∀ h ∈ H', ∃ o fr' v y η, HeldI P cf vm fn ops hs' ρ' h o fr' v y η) (hseen : heldA S' hs' = true) :
    PInv P cf vm fn ops n ρ0 S0 w0 hs' (D.setIfInBounds e true) (L.setIfInBounds e true) (listed.setIfInBounds e true) H' G ρ' S' w' ((cD vm n oe.dst).f fr v) (a.put oe.dst y) := by
  have hd : okD n oe.dst = true := by simp only [okOp, Bool.and_eq_true] at hop; exact hop.1
  obtain ⟨av1, av2, av3⟩ := inv.avoid hD hL he
  have helt : e < ops.size := (Array.getElem?_eq_some_iff.1 he).1
  have hGe : ∀ g, G e ≠ some g := fun g hg => by have := (inv.gl e g hg).1; rw [hL] at this; cases this
  refine ⟨hsat, inv.ext.trans hext, by simp [inv.szD], by simp [inv.szL], by simp [inv.szl], fun j hj => ?_, fun j hj => ?_, fun j g hg => ?_, inv.ginj, fun j h1 h2 => ?_, ?_, hheld, hseen, inv.vb⟩
  · by_cases c : e = j
    · subst c; exact getD_same (by rw [inv.szL]; exact helt)
    · rw [getD_set_ne true c] at hj ⊢; exact inv.DL j hj
  · by_cases c : e = j
    · subst c
      rw [getD_same (by rw [inv.szl]; exact helt), getD_same (by rw [inv.szD]; exact helt)]
      simp
    · rw [getD_set_ne true c, getD_set_ne true c]; exact inv.lst j hj
  · have c : e ≠ j := by intro c; subst c; exact hGe g hg
    rw [getD_set_ne true c, getD_set_ne true c]; exact inv.gl j g hg
  · have c : e ≠ j := by intro c; subst c; rw [getD_same (by rw [inv.szD]; exact helt)] at h1; cases h1
    rw [getD_set_ne true c] at h1 h2
    obtain ⟨o, obj, mk, ob, u, η, li⟩ := inv.late j h1 h2
    have hap := av3 j o h1 h2 li.op
    obtain ⟨p1, p2, p3⟩ := Oper.apart_spec hap
    refine ⟨o, obj, mk, ob, u, η, li.op, li.is, li.free.mono e, fun x hx hb => getD_set_true (li.deps x hx hb), li.ok, li.late.mono hext.le (fun S => (late_congr li.is (fun x hx i hxi hi => ?_) S).symm) rfl, fun hg => ?_, fun g hg => ?_⟩
    · symm
      exact cD_tget hd hi (fun q => p3 i q (looksAt_op (by rw [← hxi]; exact hx)))
    · exact (execOp_put o (noDS_spec hds li.op).2 a oe.dst y p3).trans (li.eval hg)
    · obtain ⟨g1, g2, g3, g4, g5⟩ := li.made g hg
      refine ⟨Nat.lt_of_lt_of_le g1 hext.size, g2, by rw [hext.old g g1 g4]; exact g3, fun q => g4 (hext.owns g g1 q), fun d hd1 hd2 => ?_⟩
      rw [getD_put (fun q => p2 d hd1 q)]
      exact g5 d hd1 hd2
  · refine FR.weaken (X := PX ops n D L) ((inv.fr.mono hext.le).put hd hv) fun i hi => PX_set hL hi
end
end
end Go.Proofs.YtfmaapbibmnfgaaGreatDoor.Ev
namespace Go.Proofs.YtfmaapbibmnfgaaGreatDoor.Ev
variable [Vr]
section
variable {P : Program} {ρ : Rho} {S : AS} {w : World} {cf : Cf} {vm : Vm} {fn : FuncId} {ops : Array Oper} {n : Nat} {ρ0 : Rho} {S0 : AS} {w0 : World} {hs : List Hd} {D L listed : Array Bool} {H : List Hq} {G : Nat → Option Nat} {fr : FrA} {a : Act}
variable {Q : Exit → Act → World → Prop} {rn : Option Nat} {N : Nat}

theorem isW_none {o : Oper} (h : o.guard = none) : isW vm ops o fr = true := by unfold isW kWant; rw [h]
theorem late_noguard {o : Oper} (h : lateOp o = true) : o.guard = none := by
  simp only [lateOp, Bool.and_eq_true] at h
  cases hg : o.guard with
  | none => rfl
  | some _ => rw [hg] at h; simp at h
/-- One that only makes a block comes up before it is told of. -/
theorem PInv.early (inv : PInv P cf vm fn ops n ρ0 S0 w0 hs D L listed H G ρ S w fr a) (hds : noDS ops = true) {j : Nat} (hj : j ∈ Region.ready .any ops listed) (hL : L.getD j true = true) {k : Nat}
    (next : ∀ {a' : Act} {w' : World} {G' : Nat → Option Nat}, (∀ i, i ≠ j → G' i = G i) → (∃ g, G' j = some g) → PInv P cf vm fn ops n ρ0 S0 w0 hs D L (listed.setIfInBounds j true) H G' ρ S w' fr a' → wpH P ops Q rn N k H (listed.setIfInBounds j true) a' w') :
    wpOpIn (Wf rn) N P ops Q j (fun a' w' => (∀ h ∈ H, ¬ waitsB ops j h.i → h.hold w') ∧ ∃ H', (∀ h ∈ H, ¬ waitsB ops j h.i → h ∈ H') ∧ wpH P ops Q rn N k H' (listed.setIfInBounds j true) a' w') a w := by
  have hun := (mem_ready.1 hj).1
  obtain ⟨hD, hG⟩ := inv.unlisted hun
  obtain ⟨o, obj, mk, ob, u, η, li⟩ := inv.late j hD hL
  have hjlt : j < ops.size := (Array.getElem?_eq_some_iff.1 li.op).1
  unfold wpOpIn
  simp only [li.op]
  have hw : Region.wanted o (yielded ops a.tmps) = true := by unfold Region.wanted; rw [late_noguard li.is]
  rw [if_pos hw]
  refine ⟨fun _ _ => trivial, ?_⟩
  rw [Oper.semAt_eq _ _ _ (noDS_spec hds li.op).1, li.eval hG, li.late.run w]
  show _ ∧ _
  have hsat' := inv.sat.push ob
  have hsz : ∀ g, g < w.heap.size → (w.heap.push ob)[g]? = w.heap[g]? := fun g hg => by rw [Array.getElem?_push, if_neg (Nat.ne_of_lt hg)]
  refine ⟨fun h hm _ => ?_, H, fun h hm _ => hm, next (G' := fun i => if i = j then some w.heap.size else G i) (fun i hi => if_neg hi) ⟨_, if_pos rfl⟩ ?_⟩
  · obtain ⟨o', fr', v, y, η, hi⟩ := inv.held h hm
    exact hi.holds hsat' inv.seen
  · have hd : okD n o.dst = true := by have := li.ok; simp only [okOp, Bool.and_eq_true] at this; exact this.1
    have hPX : ∀ d, o.dst = some d → d < n → PX ops n D L d := fun d hd hn => ⟨hn, j, o, hD, hL, li.op, hd⟩
    refine ⟨hsat', inv.ext.push ob, inv.szD, inv.szL, by simp [inv.szl], inv.DL, fun i hi => ?_, fun i g hg => ?_, fun i i' g h1 h2 => ?_, fun i h1 h2 => ?_, ?_, inv.held, inv.seen, inv.vb⟩
    · by_cases c : j = i
      · subst c
        rw [getD_same (by rw [inv.szl]; exact hjlt)]
        simp
      · rw [getD_set_ne true c]
        have c' : ¬ i = j := fun e => c e.symm
        simp only [c', if_false]
        exact inv.lst i hi
    · by_cases c : i = j
      · subst c; exact ⟨hL, hD⟩
      · simp only [c, if_false] at hg; exact inv.gl i g hg
    · have old : ∀ {i g}, G i = some g → g < w.heap.size := fun {i g} h => by
        obtain ⟨q1, q2⟩ := inv.gl i g h
        obtain ⟨_, _, _, _, _, _, li'⟩ := inv.late i q2 q1
        exact (li'.made g h).1
      by_cases c : i = j <;> by_cases c' : i' = j
      · rw [c, c']
      · simp only [c, if_true] at h1; simp only [c', if_false] at h2
        cases h1
        exact absurd (old h2) (Nat.lt_irrefl _)
      · simp only [c, if_false] at h1; simp only [c', if_true] at h2
        cases h2
        exact absurd (old h1) (Nat.lt_irrefl _)
      · simp only [c, if_false] at h1; simp only [c', if_false] at h2
        exact inv.ginj i i' g h1 h2
    · by_cases c : i = j
      · subst c
        refine ⟨o, obj, mk, ob, u, η, li.op, li.is, li.free, li.deps, li.ok, li.late, fun hg => by simp at hg, fun g hg => ?_⟩
        · simp only [if_true] at hg
          cases hg
          refine ⟨by simp, inv.ext.size, by simp, fun ⟨p, oo, c, q1, q2⟩ => ?_, fun d hd1 hd2 => ?_⟩
          · have := inv.sat.bnd _ _ _ _ q1; omega
          · rw [hd1]; exact getD_put_same (by rw [inv.fr.size]; exact hd2)
      · obtain ⟨o2, obj2, mk2, ob2, u2, η2, li2⟩ := inv.late i h1 h2
        have hap : o2.apart ops o = true := li2.free j o li.op (Ne.symm c) hD fun ⟨o', ho', e, he, hb, heq⟩ => by
          rw [li.op] at ho'; cases ho'
          have h3 := li.deps e he hb
          rw [heq] at h3
          have hlt : i < D.size := lt_of_getD h1
          rw [getD_tf hlt false true, h1] at h3; cases h3
        obtain ⟨p1, p2, p3⟩ := Oper.apart_spec hap
        refine ⟨o2, obj2, mk2, ob2, u2, η2, li2.op, li2.is, li2.free, li2.deps, li2.ok, li2.late, fun hg => (execOp_put o2 (noDS_spec hds li2.op).2 a o.dst _ p3).trans (li2.eval (by simpa only [c, if_false] using hg)), fun g hg => ?_⟩
        simp only [c, if_false] at hg
        obtain ⟨g1, g2, g3, g4, g5⟩ := li2.made g hg
        refine ⟨by simp; omega, g2, by show (w.heap.push ob)[g]? = _; rw [hsz g g1]; exact g3, g4, fun d hd1 hd2 => ?_⟩
        rw [getD_put (fun q => p2 d hd1 q)]
        exact g5 d hd1 hd2
    · refine ⟨by cases o.dst <;> simp [Act.put, inv.fr.size], fun i hi hn => ?_, by cases o.dst <;> exact inv.fr.defs⟩
      rw [inv.fr.tmps i hi hn]
      by_cases hq : o.dst = some i
      · rw [hq]
        rw [getD_put_out (by rw [inv.fr.size]; exact Nat.le_of_not_lt fun hlt => hn (hPX i hq hlt))]
      · rw [getD_put hq]
/-- Such a block is told of. -/
theorem PInv.bind (inv : PInv P cf vm fn ops n ρ0 S0 w0 hs D L listed H G ρ S w fr a) {i : Nat} {o : Oper} {obj : AO} {mk : Nam → AV} {ob : Obj} {u : Nat → Value} {η : Operand → Value} (hD : D.getD i true = false) (hL : L.getD i true = true) {g : Nat} (hg : G i = some g)
    (li : LateI P cf vm fn ops n w0 D G ρ S w fr a i o obj mk ob u η) {nm : Nam} {S' : AS} (hnm : nm.n = nm.p.num) (hfree : S.at nm.p = .free) (hS : ∀ p, S'.at p = if p = nm.p then obj else S.at p) (htr : Tr S S') (hseen : heldA S' hs = true) :
    PInv P cf vm fn ops n ρ0 S0 w0 hs (D.setIfInBounds i true) L listed H (fun j => if j = i then none else G j) (ρ.set nm.p (.blk g 0 0)) S' w ((cD vm n o.dst).f fr (mk nm)) a := by
  have hn : ρ nm.p = none := by have := inv.sat.obj nm.p; rw [hfree] at this; exact this
  have hle : Le ρ (ρ.set nm.p (.blk g 0 0)) := Rho.set_le hn
  obtain ⟨g1, g2, g3, g4, g5⟩ := li.made g hg
  obtain ⟨r1, r2⟩ := li.late.rel _ w.heap nm g hle (look_set hnm _) g3
  obtain ⟨b1, b2⟩ := inv.sat.bind inv.ext hfree hS htr g1 g2 g4 (fun k hk e => by have := inv.vb k hk; omega) r1
  have hilt : i < ops.size := (Array.getElem?_eq_some_iff.1 li.op).1
  have hd : okD n o.dst = true := by have := li.ok; simp only [okOp, Bool.and_eq_true] at this; exact this.1
  refine ⟨b1, b2, by simp [inv.szD], inv.szL, inv.szl, fun j hj => ?_, fun j hj => ?_, fun j g' hg' => ?_, fun j j' g' h1 h2 => ?_, fun j h1 h2 => ?_, ?_, fun h hm => ?_, hseen, inv.vb⟩
  · by_cases c : i = j
    · subst c; exact hL
    · rw [getD_set_ne true c] at hj; exact inv.DL j hj
  · by_cases c : i = j
    · subst c
      rw [getD_same (by rw [inv.szD]; exact hilt)]
      simp only [true_or, iff_true]
      exact (inv.lst i hilt).2 (.inr ⟨g, hg⟩)
    · have c' : ¬ j = i := fun e => c e.symm
      rw [getD_set_ne true c]
      simp only [c', if_false]
      exact inv.lst j hj
  · have c : ¬ j = i := by intro c; simp [c] at hg'
    simp only [c, if_false] at hg'
    rw [getD_set_ne true (fun e => c e.symm)]
    exact inv.gl j g' hg'
  · have c : ¬ j = i := by intro c; simp [c] at h1
    have c' : ¬ j' = i := by intro c; simp [c] at h2
    simp only [c, if_false] at h1
    simp only [c', if_false] at h2
    exact inv.ginj j j' g' h1 h2
  · have c : i ≠ j := by intro c; subst c; rw [getD_same (by rw [inv.szD]; exact hilt)] at h1; cases h1
    have c' : ¬ j = i := fun e => c e.symm
    rw [getD_set_ne true c] at h1
    obtain ⟨o2, obj2, mk2, ob2, u2, η2, li2⟩ := inv.late j h1 h2
    have hap : o2.apart ops o = true := li2.free i o li.op c hD fun ⟨o', ho', e, he, hb, heq⟩ => by
      rw [li.op] at ho'; cases ho'
      have h3 := li.deps e he hb
      rw [heq] at h3
      have hlt : j < D.size := lt_of_getD h1
      rw [getD_tf hlt false true, h1] at h3; cases h3
    obtain ⟨p1, p2, p3⟩ := Oper.apart_spec hap
    refine ⟨o2, obj2, mk2, ob2, u2, η2, li2.op, li2.is, li2.free.mono i, fun x hx hb => getD_set_true (li2.deps x hx hb), li2.ok, li2.late.mono hle (fun S => (late_congr li2.is (fun x hx k hxk hk => ?_) S).symm) rfl, fun hg' => ?_, fun g' hg' => ?_⟩
    · symm
      exact cD_tget hd hk (fun q => p3 k q (looksAt_op (by rw [← hxk]; exact hx)))
    · exact li2.eval (by simpa only [c', if_false] using hg')
    · simp only [c', if_false] at hg'
      obtain ⟨q1, q2, q3, q4, q5⟩ := li2.made g' hg'
      refine ⟨q1, q2, q3, fun ⟨p, oo, cc, x1, x2⟩ => ?_, q5⟩
      by_cases ep : p = nm.p
      · subst ep
        rw [Rho.set_same] at x1; cases x1
        exact c' (inv.ginj _ _ _ hg' hg)
      · rw [Rho.set_other _ _ ep] at x1
        rw [hS, if_neg ep] at x2
        exact q4 ⟨p, oo, cc, x1, x2⟩
  · refine ⟨inv.fr.size, fun k hk hnx => ?_, ?_⟩
    · by_cases hq : o.dst = some k
      · by_cases hkn : k < n
        · have hcd : (cD vm n o.dst).f fr (mk nm) = ⟨(tsF vm k).f fr.t (mk nm), fr.ds⟩ := by rw [hq]; simp only [cD, show Nat.blt k n = true by simpa using hkn]
          rw [hcd]
          show conc _ ((tgF vm k).f ((tsF vm k).f fr.t (mk nm))) = _
          rw [tget_same, r2, g5 k hq hkn]
        · have hcd : (cD vm n o.dst).f fr (mk nm) = fr := by
            rw [hq]
            have : Nat.blt k n = false := by cases hb : Nat.blt k n with | false => rfl | true => exact absurd (by simpa using hb) hkn
            simp only [cD, this]
          rw [hcd]
          exact conc_mono hle _ (inv.fr.tmps k hk fun ⟨x, _⟩ => hkn x)
      · rw [cD_tget hd hk hq]
        refine conc_mono hle _ (inv.fr.tmps k hk fun ⟨x, j, o2, y1, y2, y3, y4⟩ => hnx ⟨x, j, o2, ?_, y2, y3, y4⟩)
        have c : i ≠ j := by intro c; subst c; rw [li.op] at y3; cases y3; exact hq y4
        rw [getD_set_ne true c]; exact y1
    · have hds : ((cD vm n o.dst).f fr (mk nm)).ds = fr.ds := by
        cases o.dst with
        | none => rfl
        | some d => simp only [cD]; split <;> rfl
      rw [hds]
      exact All2.mono (fun _ _ ⟨g, o, c, h1, h2⟩ => ⟨g, o, c, hle.look h1, h2⟩) inv.fr.defs
  · obtain ⟨o', fr', v, y, η', hi⟩ := inv.held h hm
    exact ⟨o', fr', v, y, η', hi.mono hle fun q hq _ => hq⟩
end
end Go.Proofs.YtfmaapbibmnfgaaGreatDoor.Ev
namespace Go.Proofs.YtfmaapbibmnfgaaGreatDoor.Ev
variable [Vr]
section
variable {P : Program} {cf : Cf} {vm : Vm} {fn : FuncId} {ops : Array Oper} {n : Nat} {ρ0 : Rho} {S0 : AS} {w0 : World}
variable {Q : Exit → Act → World → Prop} {rn : Option Nat} {N : Nat}

theorem cAN_get {α : Type} {Z : R α → Prop} {x : AN} {f : AV → R α} (hno : ¬ Z .no) (h : Z (cAN x .no f (fun _ _ => .no) (fun _ _ => .no) (fun _ _ => .no) fun _ => .no)) : ∃ v, x = .get v ∧ Z (f v) := by
  cases x with
  | get v => exact ⟨v, rfl, h⟩
  | _ => exact absurd h hno
theorem cAN_val {α : Type} {Z : R α → Prop} {x : AN} {y : R α} (hno : ¬ Z .no) (h : Z (cAN x .no (fun _ => .no) (fun _ _ => y) (fun _ _ => .no) (fun _ _ => .no) fun _ => .no)) : x ≠ .no ∧ Z y := by
  cases x with
  | val v s => exact ⟨(by intro e; cases e), h⟩
  | _ => exact absurd h hno
theorem kSee_pure {o : Oper} (hp : pureOp P o = true) (fr : FrA) (S S' : AS) : (kSee P cf vm fn ops o).f fr S = (kSee P cf vm fn ops o).f fr S' := by
  have key : (kOp P cf vm fn o).f fr S = (kOp P cf vm fn o).f fr S' := by
    obtain ⟨dst, op, type, pos, after, guard⟩ := o
    cases op with
    | binOp bop t x y yt =>
      simp only [pureOp] at hp
      simp only [kOp]
      split
      · show (binA P _ bop t).f _ _ S = (binA P _ bop t).f _ _ S'
        unfold binA
        split
        · split <;> rfl
        · split <;> rfl
        · split <;> rfl
        · have he : ∀ a b, (eqA P t).f a b S = (eqA P t).f a b S' := fun a b => by
            unfold eqA
            split
            · rfl
            · split <;> rfl
            · split <;> rfl
            · rename_i e hu; rw [hu] at hp; cases hp
            · rfl
            · rfl
            · rfl
            · rfl
          split
          · show cO ((eqA P t).f _ _ S) _ _ = cO ((eqA P t).f _ _ S') _ _
            rw [he]
          · show cO ((eqA P t).f _ _ S) _ _ = cO ((eqA P t).f _ _ S') _ _
            rw [he]
          · rfl
      · rfl
    | convert s d x =>
      simp only [pureOp] at hp
      simp only [kOp]
      split
      · show (convA P s d).f _ S = (convA P s d).f _ S'
        unfold convA
        split
        · rfl
        · rename_i e h1 h2
          rw [h1] at hp
          simp at hp
        · rename_i e h1 h2
          rw [h1] at hp
          simp at hp
        · rfl
      · rfl
    | move x => simp only [kOp]; split <;> rfl
    | assign x => simp only [kOp]; split <;> rfl
    | pick c a b => simp only [kOp]; split <;> rfl
    | build t ps => simp only [kOp]; split <;> rfl
    | nilCheck x => simp only [kOp]; split <;> rfl
    | unOp op t x => simp only [kOp]; split <;> rfl
    | makeInterface t x => simp only [kOp]; split <;> rfl
    | makeFunc f a b => simp only [kOp]; split <;> rfl
    | fieldAddr t x f => simp only [kOp]; split <;> rfl
    | field t x f => simp only [kOp]; split <;> rfl
    | indexAddr t x i => simp only [kOp]; split <;> rfl
    | index t x i => simp only [kOp]; split <;> rfl
    | extract x i => simp only [kOp]; split <;> rfl
    | typeAssert a b c d => simp only [kOp]; split <;> rfl
    | _ => simp [pureOp] at hp
  unfold kSee
  cases hk : kWant vm ops o with
  | none => exact key
  | some g => show cB (g.f fr) _ _ = cB (g.f fr) _ _; rw [key]
/-- What a float yields. -/
theorem see_yield {ρ : Rho} {S : AS} {w : World} {fr : FrA} {o : Oper} {v : AV} {η : Operand → Value} (hs : Sat P ρ S w) (hx : ∀ x ∈ o.op.operands.toList, Opd vm P.globals.size ρ fr η x) (hv : (kSee P cf vm fn ops o).f fr S = .get v) :
    ∃ y, conc ρ v = some y ∧ (isW vm ops o fr = true → (execOp η o).run P w = .ok (.value y) w) ∧ (isW vm ops o fr = false → y = undef) := by
  unfold kSee at hv
  unfold isW
  cases hk : kWant vm ops o with
  | none =>
    rw [hk] at hv
    have h4 := kOp_ok hs cf fn o hx
    rw [hv] at h4
    obtain ⟨y, h5, h6⟩ := h4
    exact ⟨y, h5, fun _ => h6, fun h => by cases h⟩
  | some g =>
    rw [hk] at hv
    have hv : cB (g.f fr) ((kOp P cf vm fn o).f fr S) (.get (.tuple [])) = .get v := hv
    cases hg : g.f fr with
    | true =>
      rw [hg] at hv
      have hv : (kOp P cf vm fn o).f fr S = .get v := hv
      have h4 := kOp_ok hs cf fn o hx
      rw [hv] at h4
      obtain ⟨y, h5, h6⟩ := h4
      exact ⟨y, h5, fun _ => h6, fun h => (by have h : g.f fr = false := h; rw [hg] at h; cases h)⟩
    | false =>
      rw [hg] at hv
      cases hv
      exact ⟨undef, by simp [conc, concs, undef], fun h => (by have h : g.f fr = true := h; rw [hg] at h; cases h), fun _ => rfl⟩
theorem oneN_ne {ev : Ev} {S : AS} {x : AN} (h : (oneN ev S x).ok) : x ≠ .no := by intro e; subst e; exact h
theorem ready_nil {L : Array Bool} (h : ∀ j, j ∉ Region.ready .any ops L) : Region.ready .any ops L = [] := List.eq_nil_iff_forall_not_mem.2 h
theorem plan_ok {ev : Ev} (he : EvSpec P ev) (hds : noDS ops = true) (hQ : ∀ c a w, ¬ Q (.panic c) a w) : ∀ (p : Plan) {D L : Array Bool} {hs : List Hd} {fr : FrA} {S : AS}, okPlan ops p D L = true → ((kPlan P cf vm fn n ops p).f ev hs fr S).ok →
    (∀ fr' S' ρ' a' w', ((kPlan P cf vm fn n ops p).f ev hs fr S).has (fr', S') → Ext ρ0 S0 w0 ρ' S' w' → Sat P ρ' S' w' → FR vm ρ' fr' n (fun _ => False) a' → Q .normal a' w') →
    ∀ (k : Nat) {listed : Array Bool} {H : List Hq} {G : Nat → Option Nat} {ρ : Rho} {w : World} {a : Act}, PInv P cf vm fn ops n ρ0 S0 w0 hs D L listed H G ρ S w fr a → unl listed ≤ k → wpH P ops Q rn N k H listed a w
  | .done, D, L, hs, fr, S, hp, _, hpost => by
    intro k listed H G ρ w a inv hk
    simp only [okPlan, Bool.and_eq_true, decide_eq_true_eq] at hp
    obtain ⟨rfl, hr⟩ := hp
    have hnil : Region.ready .any ops listed = [] := ready_nil fun j hj => by
      obtain ⟨h1, _⟩ := inv.unlisted (mem_ready.1 hj).1
      have := inv.ready hj h1
      rw [hr] at this; cases this
    have hq : Q .normal a w := hpost fr S ρ a w rfl inv.ext inv.sat (inv.fr.weaken fun i ⟨_, j, o, h1, h2, _⟩ => by rw [h1] at h2; cases h2)
    cases k with
    | zero => exact ⟨hnil, hq⟩
    | succ k => exact ⟨fun _ => hq, by rw [hnil]; simp⟩
  | .flt i p, D, L, hs, fr, S, hp, hok, hpost => by
    intro k listed H G ρ w a inv hk
    simp only [okPlan, Bool.and_eq_true, List.contains_iff_mem] at hp
    obtain ⟨⟨⟨hrL, hrD⟩, hfree⟩, hp⟩ := hp
    have hL := (mem_ready.1 hrL).1
    obtain ⟨_, o, ho, _⟩ := mem_ready.1 hrD
    have hG : G i = none := by
      cases hg : G i with
      | none => rfl
      | some g => have := (inv.gl i g hg).1; rw [hL] at this; cases this
    have hready := inv.here hrD hG
    have hun := (mem_ready.1 hready).1
    obtain ⟨av1, av2, av3⟩ := inv.avoid hrD hL ho
    unfold kPlan at hok hpost
    simp only [ho] at hok hpost
    cases hop : okOp n ops o with
    | false => simp only [hop] at hok; exact hok.elim
    | true =>
    have hop2 := hop
    simp only [okOp, Bool.and_eq_true] at hop2
    have hopd : ∀ x ∈ o.op.operands.toList, Opd vm P.globals.size ρ fr a.eval x := fun x hx => inv.fr.opd inv.sat x fun d e => av1 d (looksAt_op (by rw [← e]; exact hx))
    have hwant := wanted_ok inv.fr hop2.2 fun j b p d h1 h2 h3 => av1 d (looksAt_guard h1 h2 h3)
    have hfree' : FreeAt ops o i listed := fun j oj hj hne hunj hw => free_of ho hfree j oj hj hne (inv.unlisted hunj).1 hw
    have hHold : ∀ h ∈ H, h.hold w := fun h hm => by obtain ⟨o', fr', v, y, η, hi⟩ := inv.held h hm; exact hi.holds inv.sat inv.seen
    have main : ∀ {v : AV} {hs' : List Hd}, (kSee P cf vm fn ops o).f fr S = .get v → (∀ q ∈ hs, q ∈ hs') → heldA S hs' = true → ((∀ S, (kSee P cf vm fn ops o).f fr S = .get v) ∨ (⟨i, kSee P cf vm fn ops o, fr, v⟩ : Hd) ∈ hs') →
        ((kPlan P cf vm fn n ops p).f ev hs' ((cD vm n o.dst).f fr v) S).ok → (∀ fr' S' ρ' a' w', ((kPlan P cf vm fn n ops p).f ev hs' ((cD vm n o.dst).f fr v) S).has (fr', S') → Ext ρ0 S0 w0 ρ' S' w' → Sat P ρ' S' w' → FR vm ρ' fr' n (fun _ => False) a' → Q .normal a' w') →
        wpH P ops Q rn N k H listed a w := by
      intro v hs' hv hsub hseen hsrc hok' hpost'
      obtain ⟨y, y1, y2, y3⟩ := see_yield inv.sat hopd hv
      have hunl := unl_set hun
      obtain ⟨k', rfl⟩ : ∃ k', k = k' + 1 := ⟨k - 1, by omega⟩
      have hW : isW vm ops o fr = Region.wanted o (yielded ops a.tmps) := hwant
      refine wpH_first hds hQ ho k' (y := y) (hold := fun w => isW vm ops o fr = true → (execOp a.eval o).run P w = .ok (.value y) w) hfree' hready hHold y2 (fun w' hh => ?_) ?_
      · rw [← hW]
        cases hb : isW vm ops o fr with
        | true => rw [if_pos rfl]; exact hh hb
        | false => rw [if_neg (by simp)]; exact y3 hb
      · refine plan_ok he hds hQ p hp hok' hpost' k' (G := G) (inv.step hds hrD hL ho hop (Ext.refl _ _ _) inv.sat y1 (hs' := hs') (fun h hm => ?_) hseen) (by omega)
        rcases List.mem_cons.1 hm with rfl | hm
        · exact ⟨o, fr, v, y, a.eval, ho, hopd, y1, rfl, hsrc⟩
        · obtain ⟨o', fr', v', y', η, hi⟩ := inv.held h hm
          exact ⟨o', fr', v', y', η, hi.mono (Le.refl _) fun q hq _ => hsub q hq⟩
    cases hpure : pureOp P o with
    | true =>
      simp only [hop, hpure] at hok hpost
      obtain ⟨v, hv, hok'⟩ := cAN_get (Z := R.ok) (fun h => h) hok
      rw [hv] at hpost
      exact main hv (fun q hq => hq) inv.seen (.inl fun S' => by rw [← hv]; exact kSee_pure hpure fr S' S) hok' hpost
    | false =>
      simp only [hop, hpure] at hok hpost
      obtain ⟨v, hv, hok'⟩ := cAN_get (Z := R.ok) (fun h => h) hok
      rw [hv] at hpost
      exact main hv (fun q hq => List.mem_cons_of_mem _ hq) (heldA_cons.2 ⟨⟨v, hv, beqV_refl v⟩, inv.seen⟩) (.inr (by simp)) hok' hpost
  | .prep i p, D, L, hs, fr, S, hp, hok, hpost => by
    intro k listed H G ρ w a inv hk
    simp only [okPlan, Bool.and_eq_true, List.contains_iff_mem] at hp
    obtain ⟨⟨⟨⟨hrL, hrD⟩, hfree⟩, hlate⟩, hp⟩ := hp
    have hL := (mem_ready.1 hrL).1
    obtain ⟨hD, o, ho, hdeps⟩ := mem_ready.1 hrD
    have hilt : i < ops.size := (Array.getElem?_eq_some_iff.1 ho).1
    obtain ⟨av1, av2, av3⟩ := inv.avoid hrD hL ho
    unfold kPlan at hok hpost
    simp only [ho] at hok hpost
    cases hop : okOp n ops o with
    | false => simp only [hop] at hok; exact hok.elim
    | true =>
    simp only [hop] at hok hpost
    have hlo : lateOp o = true := by unfold lateAt at hlate; rw [ho] at hlate; exact hlate
    obtain ⟨hne, hok'⟩ := cAN_val (Z := R.ok) (fun h => h) hok
    have hopd : ∀ x ∈ o.op.operands.toList, Opd vm P.globals.size ρ fr a.eval x := fun x hx => inv.fr.opd inv.sat x fun d e => av1 d (looksAt_op (by rw [← e]; exact hx))
    obtain ⟨obj, mk, ob, u, hlt⟩ := late_ok (cf := cf) (fn := fn) hlo hopd hne
    have hval : ∃ v s, (kOp P cf vm fn o).f fr S = .val v s := by
      have h1 := hlt.abs S
      rw [h1] at hne ⊢
      obtain ⟨nm, _, _, h2⟩ := newA_ok (x := newA S obj 1 AN.no fun i s => AN.val (mk i) s) rfl hne
      exact ⟨_, _, h2.symm⟩
    obtain ⟨v, s, hval⟩ := hval
    rw [hval] at hok hpost
    have hG : G i = none := by
      cases hg : G i with
      | none => rfl
      | some g => have := (inv.gl i g hg).1; rw [hL] at this; cases this
    refine plan_ok he hds hQ p hp hok hpost k (G := G) ⟨inv.sat, inv.ext, inv.szD, by simp [inv.szL], inv.szl, fun j hj => ?_, inv.lst, fun j g hg => ?_, inv.ginj, fun j h1 h2 => ?_, ?_, inv.held, inv.seen, inv.vb⟩ hk
    · by_cases c : i = j
      · subst c; exact getD_same (by rw [inv.szL]; exact hilt)
      · rw [getD_set_ne true c]; exact inv.DL j hj
    · have c : i ≠ j := by intro c; subst c; rw [hG] at hg; cases hg
      rw [getD_set_ne true c]; exact inv.gl j g hg
    · by_cases c : i = j
      · subst c
        exact ⟨o, obj, mk, ob, u, a.eval, ho, hlo, free_of ho hfree, hdeps, hop, hlt, fun _ => rfl, fun g hg => by rw [hG] at hg; cases hg⟩
      · rw [getD_set_ne true c] at h2; exact inv.late j h1 h2
    · refine inv.fr.weaken fun d ⟨x, j, o2, y1, y2, y3, y4⟩ => ⟨x, j, o2, y1, ?_, y3, y4⟩
      by_cases c : i = j
      · subst c; exact getD_same (by rw [inv.szL]; exact hilt)
      · rw [getD_set_ne true c]; exact y2
  | .bind i p, D, L, hs, fr, S, hp, hok, hpost => by
    simp only [okPlan, Bool.and_eq_true, decide_eq_true_eq] at hp
    obtain ⟨⟨⟨⟨hlate, hD⟩, hL⟩, hrL⟩, hp⟩ := hp
    have hD : D.getD i true = false := by simpa using hD
    have hL : L.getD i true = true := by
      rcases Nat.lt_or_ge i L.size with h' | h'
      · rw [getD_tf h' true false]; exact hL
      · rw [Array.getD_eq_getD_getElem?, Array.getElem?_eq_none h']; rfl
    have key : ∀ {listed : Array Bool} {H : List Hq} {G : Nat → Option Nat} {ρ : Rho} {w : World} {a : Act}, PInv P cf vm fn ops n ρ0 S0 w0 hs D L listed H G ρ S w fr a → (∃ g, G i = some g) → ∀ k, unl listed ≤ k → wpH P ops Q rn N k H listed a w := by
      intro listed H G ρ w a inv ⟨g, hg⟩ k hk
      obtain ⟨o, obj, mk, ob, u, η, li⟩ := inv.late i hD hL
      unfold kPlan at hok hpost
      simp only [li.op, li.ok] at hok hpost
      obtain ⟨h1, h2⟩ := bindR_ok hok
      have hne := oneN_ne h1
      have habs := li.late.abs S
      rw [habs] at hne
      obtain ⟨nm, q1, q2, q3⟩ := newA_ok (x := newA S obj 1 AN.no fun i s => AN.val (mk i) s) rfl hne
      have hval : (kOp P cf vm fn o).f fr S = .val (mk nm) ⟨hput S.top nm.p obj, S.lay, logA S nm, Nat.add S.next 1⟩ := by rw [habs]; exact q3.symm
      rw [hval] at h2 hpost
      obtain ⟨h3, h4⟩ := h2 (mk nm, ⟨hput S.top nm.p obj, S.lay, logA S nm, Nat.add S.next 1⟩) rfl
      simp only at h3 h4
      cases hheld : heldA (⟨hput S.top nm.p obj, S.lay, logA S nm, Nat.add S.next 1⟩ : AS) hs with
      | false => rw [hheld] at h3; exact h3.elim
      | true =>
      rw [hheld] at h3 h4
      have hb := inv.bind hD hL hg li (nm := nm) (S' := ⟨hput S.top nm.p obj, S.lay, logA S nm, Nat.add S.next 1⟩) q1 q2 (at_put (live_ne li.late.live) rfl) (Tr.put rfl) hheld
      exact plan_ok he hds hQ p hp h3 (fun fr' S' ρ' a' w' r1 r2 r3 r4 => hpost fr' S' ρ' a' w' (h4 _ r1) r2 r3 r4) k hb hk
    intro k
    induction k with
    | zero =>
      intro listed H G ρ w a inv hk
      cases hg : G i with
      | some g => exact key inv ⟨g, hg⟩ 0 hk
      | none =>
        obtain ⟨o, obj, mk, ob, u, η, li⟩ := inv.late i hD hL
        have hready := inv.here (mem_ready.2 ⟨hD, o, li.op, li.deps⟩) hg
        have := unl_set (mem_ready.1 hready).1
        omega
    | succ k ih =>
      intro listed H G ρ w a inv hk
      cases hg : G i with
      | some g => exact key inv ⟨g, hg⟩ (k + 1) hk
      | none =>
        obtain ⟨o, obj, mk, ob, u, η, li⟩ := inv.late i hD hL
        have hready := inv.here (mem_ready.2 ⟨hD, o, li.op, li.deps⟩) hg
        refine ⟨fun h => (by rw [h] at hready; cases hready), fun j hj => ?_⟩
        have hun := (mem_ready.1 hj).1
        have hunl := unl_set hun
        cases hjL : L.getD j true with
        | true => exact inv.early hds hj hjL fun {a' w' G'} _ _ inv' => ih inv' (by omega)
        | false =>
          exfalso
          have hji : j ∈ Region.ready .any ops (L.setIfInBounds i false) := by
            obtain ⟨_, oj, hoj, hall⟩ := mem_ready.1 hj
            have hne : i ≠ j := by intro e; subst e; rw [hL] at hjL; exact absurd hjL (by simp)
            refine mem_ready.2 ⟨?_, oj, hoj, fun e he' hb => ?_⟩
            · rw [Array.getD_eq_getD_getElem?, Array.getElem?_setIfInBounds_ne hne, ← Array.getD_eq_getD_getElem?]; exact hjL
            · have h3 := hall e he' hb
              have hlt : e.on < listed.size := by
                rcases Nat.lt_or_ge e.on listed.size with h' | h'
                · exact h'
                · rw [Array.getD_eq_getD_getElem?, Array.getElem?_eq_none h'] at h3; cases h3
              have hlt' : e.on < ops.size := by rw [← inv.szl]; exact hlt
              rw [getD_tf hlt false true] at h3
              have hne2 : i ≠ e.on := by
                intro q
                rw [← q] at h3
                rcases (inv.lst i (by rw [q]; exact hlt')).1 h3 with h4 | ⟨g, h4⟩
                · rw [hD] at h4; cases h4
                · rw [hg] at h4; cases h4
              rw [Array.getD_eq_getD_getElem?, Array.getElem?_setIfInBounds_ne hne2, ← Array.getD_eq_getD_getElem?, getD_tf (by rw [inv.szL]; exact hlt') false true]
              rcases (inv.lst e.on hlt').1 h3 with h4 | ⟨g, h4⟩
              · exact inv.DL _ h4
              · exact (inv.gl _ _ h4).1
          rw [hrL, List.mem_singleton] at hji
          subst hji
          rw [hL] at hjL; exact absurd hjL (by simp)
  | .eff e p, D, L, hs, fr, S, hp, hok, hpost => by
    simp only [okPlan, Bool.and_eq_true, decide_eq_true_eq, List.contains_iff_mem] at hp
    obtain ⟨⟨hrL, hrD⟩, hp⟩ := hp
    have heL : e ∈ Region.ready .any ops L := by rw [hrL]; simp
    have hL := (mem_ready.1 heL).1
    obtain ⟨hD, o, ho, _⟩ := mem_ready.1 hrD
    unfold kPlan at hok hpost
    simp only [ho] at hok hpost
    cases hop : okOp n ops o with
    | false => simp only [hop] at hok; exact hok.elim
    | true =>
    simp only [hop] at hok hpost
    obtain ⟨h1, h2⟩ := bindR_ok hok
    have hnoG : ∀ {listed : Array Bool} {H : List Hq} {G : Nat → Option Nat} {ρ : Rho} {w : World} {a : Act}, PInv P cf vm fn ops n ρ0 S0 w0 hs D L listed H G ρ S w fr a → G e = none := fun {listed H G ρ w a} inv => by
      cases hg : G e with
      | none => rfl
      | some g => have := (inv.gl e g hg).1; rw [hL] at this; cases this
    intro k
    induction k with
    | zero =>
      intro listed H G ρ w a inv hk
      have hready := inv.here hrD (hnoG inv)
      have := unl_set (mem_ready.1 hready).1
      omega
    | succ k ih =>
      intro listed H G ρ w a inv hk
      have hready := inv.here hrD (hnoG inv)
      refine ⟨fun h => (by rw [h] at hready; cases hready), fun j hj => ?_⟩
      have hun := (mem_ready.1 hj).1
      have hunl := unl_set hun
      cases hjL : L.getD j true with
      | true => exact inv.early hds hj hjL fun {a' w' G'} _ _ inv' => ih inv' (by omega)
      | false =>
        have hje := inv.ready hj hjL
        rw [hrL, List.mem_singleton] at hje
        subst hje
        obtain ⟨av1, av2, av3⟩ := inv.avoid hrD hL ho
        unfold wpOpIn
        simp only [ho]
        refine step_ok (rn := rn) (N := N) (Q := Q) he inv.sat inv.fr hop (fun x hx d q => av1 d (looksAt_op (by rw [← q]; exact hx))) (fun _ _ _ _ g1 g2 g3 => av1 _ (looksAt_guard g1 g2 g3)) h1 fun v S' ρ' u w' q1 q2 q3 q4 => ?_
        obtain ⟨h3, h4⟩ := h2 (v, S') q1
        simp only at h3 h4
        cases hheld : heldA S' (keepH (waitsOn ops o) hs) with
        | false => rw [hheld] at h3; exact h3.elim
        | true =>
        rw [hheld] at h3 h4
        have hkeep : ∀ h ∈ H, ¬ waitsB ops j h.i → ∃ o fr' v y η, HeldI P cf vm fn ops (keepH (waitsOn ops o) hs) ρ' h o fr' v y η ∨ True := fun h hm hn => ⟨o, fr, v, u, a.eval, .inr trivial⟩
        have hk2 : ∀ h ∈ H, ¬ waitsB ops j h.i → ∃ o' fr' v y η, HeldI P cf vm fn ops (keepH (waitsOn ops o) hs) ρ' h o' fr' v y η := fun h hm hn => by
          obtain ⟨o', fr', v', y', η, hi⟩ := inv.held h hm
          refine ⟨o', fr', v', y', η, hi.mono q2.le fun q hq hqi => keepH_mem hq fun hmem => ?_⟩
          obtain ⟨_, hw⟩ := List.mem_filter.1 hmem
          unfold waits at hw
          obtain ⟨x, hx, hb⟩ := Array.any_eq_true'.1 hw
          simp only [Bool.and_eq_true, beq_iff_eq] at hb
          exact hn ⟨o, ho, x, hx, hb.1, by rw [hb.2, hqi]⟩
        have hcl : ∀ h : Hq, Decidable (¬ waitsB ops j h.i) := fun _ => Classical.propDecidable _
        refine ⟨fun h hm hn => ?_, H.filter (fun h => decide (¬ waitsB ops j h.i)), fun h hm hn => List.mem_filter.2 ⟨hm, by simpa using hn⟩, ?_⟩
        · obtain ⟨o', fr', v', y', η, hi⟩ := hk2 h hm hn
          exact hi.holds q3 hheld
        · refine plan_ok he hds hQ p hp h3 (fun fr' S'' ρ'' a' w'' r1 r2 r3 r4 => hpost fr' S'' ρ'' a' w'' (h4 _ r1) r2 r3 r4) k (G := G) (inv.step hds hrD hL ho hop q2 q3 q4 (fun h hm => ?_) hheld) (by omega)
          obtain ⟨m1, m2⟩ := List.mem_filter.1 hm
          exact hk2 h m1 (by simpa using m2)
end
end Go.Proofs.YtfmaapbibmnfgaaGreatDoor.Ev
