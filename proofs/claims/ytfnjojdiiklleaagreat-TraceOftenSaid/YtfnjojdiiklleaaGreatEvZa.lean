/- A run of a program on abstract memory: blocks that are told of late; what is held. -/
import Derived.Test.YtfnjojdiiklleaaGreatEvY
namespace Go.Proofs.YtfnjojdiiklleaaGreat.Ev
section
variable {P : Program} {ρ : Rho} {S : AS} {w : World}

/-! ### Sameness of values -/
mutual
theorem beqV_eq : ∀ (u v : AV) {a b : Value}, beqV u v = true → conc ρ u = some a → conc ρ v = some b → u = v
  | .bool x, v, a, b, h, _, _ => by cases v <;> first | (simp [beqV] at h; done) | (simp [beqV] at h; rw [h])
  | .int k x, v, a, b, h, _, _ => by
    cases v with
    | int j y =>
      simp only [beqV, Bool.and_eq_true] at h
      rw [kEq_iff.1 h.1, (ieq_iff _ _).1 h.2]
    | _ => simp [beqV] at h
  | .str x, v, a, b, h, _, _ => by
    cases v with
    | str y => simp only [beqV] at h; rw [(natsEq_iff _ _).1 h]
    | _ => simp [beqV] at h
  | .ptr x o, v, a, b, h, hu, hv => by
    cases v with
    | ptr y p =>
      simp only [beqV, Bool.and_eq_true, Nat.beq_eq] at h
      obtain ⟨_, _, _, h1, _⟩ := conc_ptr hu
      obtain ⟨_, _, _, h2, _⟩ := conc_ptr hv
      rw [nam_eq h1 h2 h.1, h.2]
    | _ => simp [beqV] at h
  | .nilp, v, a, b, h, _, _ => by cases v <;> first | rfl | (simp [beqV] at h; done)
  | .slice x o n c, v, a, b, h, hu, hv => by
    cases v with
    | slice y p m d =>
      simp only [beqV, Bool.and_eq_true, Nat.beq_eq] at h
      obtain ⟨_, _, _, h1, _⟩ := conc_slice hu
      obtain ⟨_, _, _, h2, _⟩ := conc_slice hv
      rw [nam_eq h1 h2 h.1.1.1, h.1.1.2, h.1.2, h.2]
    | _ => simp [beqV] at h
  | .row x o n c, v, a, b, h, hu, hv => by
    cases v with
    | row y p m d =>
      simp only [beqV, Bool.and_eq_true, Nat.beq_eq] at h
      obtain ⟨_, _, _, h1, _⟩ := conc_row hu
      obtain ⟨_, _, _, h2, _⟩ := conc_row hv
      rw [nam_eq h1 h2 h.1.1.1, h.1.1.2, h.1.2, h.2]
    | _ => simp [beqV] at h
  | .tail x o n c, v, a, b, h, hu, hv => by
    cases v with
    | tail y p m d =>
      simp only [beqV, Bool.and_eq_true, Nat.beq_eq] at h
      obtain ⟨_, _, _, h1, _⟩ := conc_tail hu
      obtain ⟨_, _, _, h2, _⟩ := conc_tail hv
      rw [nam_eq h1 h2 h.1.1.1, h.1.1.2, h.1.2, h.2]
    | _ => simp [beqV] at h
  | .nils, v, a, b, h, _, _ => by cases v <;> first | rfl | (simp [beqV] at h; done)
  | .map x, v, a, b, h, hu, hv => by
    cases v with
    | map y =>
      simp only [beqV, Nat.beq_eq] at h
      obtain ⟨_, _, _, h1, _⟩ := conc_map hu
      obtain ⟨_, _, _, h2, _⟩ := conc_map hv
      rw [nam_eq h1 h2 h]
    | _ => simp [beqV] at h
  | .nilm, v, a, b, h, _, _ => by cases v <;> first | rfl | (simp [beqV] at h; done)
  | .func f x y, v, a, b, h, hu, hv => by
    cases v with
    | func g x' y' =>
      simp only [beqV, Bool.and_eq_true, Nat.beq_eq] at h
      obtain ⟨_, _, _, h1, h2⟩ := conc_func hu
      obtain ⟨_, _, _, h3, h4⟩ := conc_func hv
      rw [h.1.1, beqVs_eq x x' h.1.2 h1 h3, beqVs_eq y y' h.2 h2 h4]
    | _ => simp [beqV] at h
  | .yld x, v, a, b, h, hu, hv => by
    cases v with
    | yld y =>
      simp only [beqV, Nat.beq_eq] at h
      obtain ⟨_, _, _, _, h1⟩ := conc_yld hu
      obtain ⟨_, _, _, _, h2⟩ := conc_yld hv
      rw [nam_eq h1 h2 h]
    | _ => simp [beqV] at h
  | .nilf, v, a, b, h, _, _ => by cases v <;> first | rfl | (simp [beqV] at h; done)
  | .iface t x, v, a, b, h, hu, hv => by
    cases v with
    | iface t' y =>
      simp only [beqV, Bool.and_eq_true, Nat.beq_eq] at h
      simp only [conc] at hu hv
      split at hu
      · rename_i e1
        split at hv
        · rename_i e2
          rw [h.1, beqV_eq x y h.2 e1 e2]
        · cases hv
      · cases hu
    | _ => simp [beqV] at h
  | .nili, v, a, b, h, _, _ => by cases v <;> first | rfl | (simp [beqV] at h; done)
  | .agg x, v, a, b, h, hu, hv => by
    cases v with
    | agg y =>
      simp only [beqV] at h
      obtain ⟨_, _, h1⟩ := conc_agg hu
      obtain ⟨_, _, h2⟩ := conc_agg hv
      rw [beqVs_eq x y h h1 h2]
    | _ => simp [beqV] at h
  | .tuple x, v, a, b, h, hu, hv => by
    cases v with
    | tuple y =>
      simp only [beqV] at h
      obtain ⟨_, _, h1⟩ := conc_tuple hu
      obtain ⟨_, _, h2⟩ := conc_tuple hv
      rw [beqVs_eq x y h h1 h2]
    | _ => simp [beqV] at h
  | .stamp x, v, a, b, h, hu, hv => by
    cases v with
    | stamp y =>
      simp only [beqV, Nat.beq_eq] at h
      simp only [conc] at hu hv
      split at hu
      · rename_i e1
        split at hv
        · rename_i e2
          rw [nam_eq e1 e2 h]
        · cases hv
      · cases hu
    | _ => simp [beqV] at h
theorem beqVs_eq : ∀ (l m : List AV) {a b : List Value}, beqVs l m = true → concs ρ l = some a → concs ρ m = some b → l = m
  | [], m, _, _, h, _, _ => by cases m <;> first | rfl | (simp [beqVs] at h; done)
  | x :: l, m, a, b, h, hu, hv => by
    cases m with
    | nil => simp [beqVs] at h
    | cons y m =>
      simp only [beqVs, Bool.and_eq_true] at h
      obtain ⟨_, _, _, h1, h2⟩ := concs_cons hu
      obtain ⟨_, _, _, h3, h4⟩ := concs_cons hv
      rw [beqV_eq x y h.1 h1 h3, beqVs_eq l m h.2 h2 h4]
end

/-! ### A block that no name stands for -/
theorem Sat.push (hs : Sat P ρ S w) (ob : Obj) : Sat P ρ S { w with heap := w.heap.push ob } := by
  have hget : ∀ g, g < w.heap.size → (w.heap.push ob)[g]? = w.heap[g]? := fun g hg => by rw [Array.getElem?_push, if_neg (Nat.ne_of_lt hg)]
  refine ⟨fun p => ?_, hs.inj, fun p g o c h => ?_, fun p g k h => ?_, hs.stinj, hs.glob⟩
  · by_cases hf : S.at p = .free
    · have := hs.obj p; rw [hf] at this ⊢; exact this
    · exact (hs.obj p).mono hf (Le.refl _) fun g off cap hg _ => hget g (hs.bnd _ _ _ _ hg)
  · have := hs.bnd _ _ _ _ h; simp; omega
  · obtain ⟨h1, h2⟩ := hs.stp _ _ _ h
    exact ⟨by simp; omega, fun es c hc => h2 es c (by rw [← hget g h1]; exact hc)⟩
theorem Ext.push {ρ0 : Rho} {S0 : AS} {w0 : World} (he : Ext ρ0 S0 w0 ρ S w) (ob : Obj) : Ext ρ0 S0 w0 ρ S { w with heap := w.heap.push ob } :=
  ⟨he.le, by have := he.size; simp; omega, fun g hg hn => by
    have h1 := he.size
    show (w.heap.push ob)[g]? = _
    rw [Array.getElem?_push, if_neg (by omega)]; exact he.old g hg hn, he.owns, he.os, he.tape, he.output, he.tr⟩
/-- Such a block gets a name. -/
theorem Sat.bind {ρ0 : Rho} {S0 : AS} {w0 : World} (hs : Sat P ρ S w) (he : Ext ρ0 S0 w0 ρ S w) {i : Nam} {o : AO} {g : Nat} {S' : AS} (hf : S.at i.p = .free) (hS : ∀ p, S'.at p = if p = i.p then o else S.at p) (htr : Tr S S')
    (hg : g < w.heap.size) (hg0 : w0.heap.size ≤ g) (hno : ¬ Owns ρ S g) (hrel : relO P (ρ.set i.p (.blk g 0 0)) w.heap i.p o) : Sat P (ρ.set i.p (.blk g 0 0)) S' w ∧ Ext ρ0 S0 w0 (ρ.set i.p (.blk g 0 0)) S' w := by
  have hn : ρ i.p = none := by have := hs.obj i.p; rw [hf] at this; exact this
  have hle : Le ρ (ρ.set i.p (.blk g 0 0)) := Rho.set_le hn
  refine ⟨⟨fun p => ?_, ?_, ?_, ?_, ?_, ?_⟩, ⟨he.le.trans hle, he.size, he.old, ?_, he.os, he.tape, he.output, he.tr.trans htr⟩⟩
  · rw [hS p]
    by_cases e : p = i.p
    · subst e; rw [if_pos rfl]; exact hrel
    · rw [if_neg e]
      by_cases hfr : S.at p = .free
      · rw [hfr]; show ρ.set i.p _ p = none
        rw [Rho.set_other _ _ e]
        have := hs.obj p; rw [hfr] at this; exact this
      · exact (hs.obj p).mono hfr hle fun _ _ _ _ _ => rfl
  · intro p q g' a b a' b' hp hq h1 h2
    rw [hS p] at hp
    rw [hS q] at hq
    by_cases ep : p = i.p <;> by_cases eq : q = i.p
    · rw [ep, eq]
    · subst ep
      rw [Rho.set_same] at h1; cases h1
      rw [Rho.set_other _ _ eq] at h2
      rw [if_neg eq] at hq
      exact absurd ⟨q, _, _, h2, hq⟩ hno
    · subst eq
      rw [Rho.set_same] at h2; cases h2
      rw [Rho.set_other _ _ ep] at h1
      rw [if_neg ep] at hp
      exact absurd ⟨p, _, _, h1, hp⟩ hno
    · rw [Rho.set_other _ _ ep] at h1
      rw [Rho.set_other _ _ eq] at h2
      rw [if_neg ep] at hp
      rw [if_neg eq] at hq
      exact hs.inj _ _ _ _ _ _ _ hp hq h1 h2
  · intro p g' a b h
    by_cases ep : p = i.p
    · subst ep; rw [Rho.set_same] at h; cases h; exact hg
    · rw [Rho.set_other _ _ ep] at h; exact hs.bnd _ _ _ _ h
  · intro p g' k h
    by_cases ep : p = i.p
    · subst ep; rw [Rho.set_same] at h; cases h
    · rw [Rho.set_other _ _ ep] at h; exact hs.stp _ _ _ h
  · intro p q g' k h1 h2
    by_cases ep : p = i.p
    · subst ep; rw [Rho.set_same] at h1; cases h1
    · by_cases eq : q = i.p
      · subst eq; rw [Rho.set_same] at h2; cases h2
      · rw [Rho.set_other _ _ ep] at h1
        rw [Rho.set_other _ _ eq] at h2
        exact hs.stinj _ _ _ _ h1 h2
  · intro g' hg'
    obtain ⟨c, hc⟩ := hs.glob g' hg'
    exact ⟨c, hle.look hc⟩
  · rintro g' hg' ⟨p, a, c, h1, h2⟩
    rw [hS p] at h2
    by_cases ep : p = i.p
    · subst ep; rw [Rho.set_same] at h1; cases h1; omega
    · rw [Rho.set_other _ _ ep] at h1
      rw [if_neg ep] at h2
      exact he.owns g' hg' ⟨p, a, c, h1, h2⟩

/-! ### Operations that only make a block -/
variable {cf : Cf} {vm : Vm} {fn : FuncId}
/-- What such an operation makes. -/
structure Late (P : Program) (cf : Cf) (vm : Vm) (fn : FuncId) (ρ : Rho) (o : Oper) (fr : FrA) (η : Operand → Value) (obj : AO) (mk : Nam → AV) (ob : Obj) (u : Nat → Value) : Prop where
  live : obj.live
  abs : ∀ S, (kOp P cf vm fn o).f fr S = newA S obj 1 .no fun i s => .val (mk i) s
  run : ∀ w, (execOp η o).run P w = .ok (.value (u w.heap.size)) { w with heap := w.heap.push ob }
  rel : ∀ ρ' heap' i g, Le ρ ρ' → look ρ' i = some (.blk g 0 0) → heap'[g]? = some ob → relO P ρ' heap' i.p obj ∧ conc ρ' (mk i) = some (u g)
theorem Late.own {o : Oper} {fr : FrA} {η : Operand → Value} {t : TypeId} {cs : List AV} {l : List Value} {mk : Nam → AV} {u : Nat → Value} (hcs : concs ρ cs = some l) (hmk : ∀ i ρ' g, look ρ' i = some (.blk g 0 0) → conc ρ' (mk i) = some (u g))
    (habs : ∀ S, (kOp P cf vm fn o).f fr S = newA S (.cells .own t cs) 1 .no fun i s => .val (mk i) s) (hrun : ∀ w, (execOp η o).run P w = .ok (.value (u w.heap.size)) { w with heap := w.heap.push (.cells l.toArray t) }) :
    Late P cf vm fn ρ o fr η (.cells .own t cs) mk (.cells l.toArray t) u :=
  ⟨trivial, habs, hrun, fun ρ' heap' i g hle hi hg => ⟨⟨g, 0, 0, l.toArray, (0, 0), l, look_path hi, hg, fz0 _, concs_mono hle _ hcs, fun j v hj => by rw [Nat.zero_add, List.getElem?_toArray]; exact hj, fun _ => ⟨rfl, rfl, rfl⟩, (fun h => nomatch h), trivial⟩, hmk i ρ' g hi⟩⟩
theorem cO_no {α : Type} {x : Option α} {f : α → AN} (h : cO x .no f ≠ .no) : ∃ a, x = some a := by
  cases x with
  | none => exact absurd rfl h
  | some a => exact ⟨a, rfl⟩
theorem late_ok {o : Oper} {fr : FrA} {η : Operand → Value} (hl : lateOp o = true) (hx : ∀ x ∈ o.op.operands.toList, Opd vm P.globals.size ρ fr η x) (hne : (kOp P cf vm fn o).f fr S ≠ .no) :
    ∃ obj mk ob u, Late P cf vm fn ρ o fr η obj mk ob u := by
  obtain ⟨dst, op, type, pos, after, guard⟩ := o
  simp only [lateOp, Bool.and_eq_true] at hl
  have hl := hl.2
  cases op with
  | alloc e =>
    cases hz : zeroA P e with
    | none => exact absurd (by simp only [kOp, hz]; rfl) hne
    | some z =>
      obtain ⟨u, hr, hc⟩ := zero_run hz (ρ := ρ)
      refine ⟨_, _, _, _, Late.own (t := e) (mk := fun i => .ptr i 0) (u := fun g => .pointer (some ⟨g, 0, none⟩)) (cellsA_conc hc) (fun i ρ' g h => by simp [conc, h]) (fun S => by simp only [kOp, hz]; rfl) fun w => ?_⟩
      simp [execOp, Instr.alloc, hr, newVar, newRow]
  | box e x =>
    cases hk : okX P.globals.size x with
    | false => exact absurd (by simp only [kOp, hk]; rfl) hne
    | true =>
      have hc := hx x (by simp [Op.operands]) hk
      refine ⟨_, _, _, _, Late.own (t := e) (mk := fun i => .ptr i 0) (u := fun g => .pointer (some ⟨g, 0, none⟩)) (cellsA_conc hc) (fun i ρ' g h => by simp [conc, h]) (fun S => by simp only [kOp, hk]; rfl) fun w => ?_⟩
      simp [execOp, Instr.box, newVar, newRow]
  | makeMap t r =>
    cases r with
    | some _ => cases hl
    | none =>
      exact ⟨.map [] 0, fun i => .map i, .map #[] 0, fun g => .map (some g), trivial, fun S => rfl, fun w => by simp [execOp, Instr.makeMap],
        fun ρ' heap' i g hle hi hg => ⟨⟨g, 0, 0, #[], look_path hi, hg, ⟨⟨[], .nil, .refl _⟩, by simp, by simp, by simp⟩⟩, by simp [conc, hi]⟩⟩
  | buildSlice t n ps =>
    cases hk : okXs P.globals.size (ps.toList.map (·.2)) with
    | false => exact absurd (by simp only [kOp, hk]; rfl) hne
    | true =>
      have hp := cXI_ok (l := ps.toList) (ρ := ρ) (fr := fr) (η := η) (fun x h => hx x.2 (by simp [Op.operands]; exact ⟨x.1, by simpa using h⟩)) hk
      have hkop : ∀ S, (kOp P cf vm fn ⟨dst, .buildSlice t n ps, type, pos, after, guard⟩).f fr S = (buildSliceA P t n).f ((cXI vm ps.toList).f fr) S := fun S => by simp only [kOp, hk]
      rw [hkop] at hne
      have hq : (ps.map fun (x : Nat × Operand) => (x.1, η x.2)) = (ps.toList.map fun x => (x.1, η x.2)).toArray := by apply Array.ext'; simp
      generalize (cXI vm ps.toList).f fr = as at hp hne hkop
      generalize hqs : (ps.toList.map fun x => (x.1, η x.2)) = qs at hp hq
      cases hu : P.underlying t with
      | none => exact absurd (by simp only [buildSliceA, hu]) hne
      | some td =>
        cases td with
        | slice e =>
          cases hz : sizeA P e with
          | none => exact absurd (by simp only [buildSliceA, hu, hz]) hne
          | some z =>
          cases hzv : zeroA P e with
          | none => exact absurd (by simp only [buildSliceA, hu, hz, hzv]) hne
          | some zv =>
          cases hb : (Nat.beq (len (cellsA zv)) z && Nat.ble (n * z) 16777216) with
          | false => exact absurd (by simp only [buildSliceA, hu, hz, hzv, hb]) hne
          | true =>
          have hA : ∀ S, (buildSliceA P t n).f as S = cO (fillA (fun i => some (Nat.mul i z, z)) as (rep (cellsA zv) n)) .no fun cs => newA S (.cells .own e cs) 1 .no fun i s' => .val (.slice i 0 n n) s' := fun S => by simp only [buildSliceA, hu, hz, hzv, hb]
          rw [hA] at hne
          obtain ⟨cs, hcs⟩ := cO_no hne
          simp only [Bool.and_eq_true] at hb
          obtain ⟨uz, hzr, hzc⟩ := zero_run hzv (ρ := ρ)
          have hcz := cellsA_conc hzc
          have hzl : uz.cells.size = z := by
            have := concs_length hcz
            have h1 := hb.1
            rw [Nat.beq_eq, len_eq] at h1
            simp only [Array.length_toList] at this
            omega
          have hlim : n * z ≤ 16777216 := by simpa using hb.2
          obtain ⟨l', h1, h2⟩ := fill_ok as qs _ cs _ hp (concs_rep hcz n) hcs
          have h2 : Instr.fill (fun i => some (i * z, z)) (rep uz.cells.toList n).toArray qs = some l'.toArray := h2
          refine ⟨_, _, _, _, Late.own (t := e) (mk := fun i => .slice i 0 n n) (u := fun g => .slice (some ⟨g, 0, none⟩) n n) h1 (fun i ρ' g h => by simp only [conc, h]; rw [if_pos (Nat.le_refl _)]) (fun S => by rw [hkop, hA, hcs]; rfl) fun w => ?_⟩
          have hlim' : ¬ (n * z > 2 ^ 24) := by omega
          have hzeros : (Array.range (n * z)).map (fun i => uz.cells[i % uz.cells.size]!) = (rep uz.cells.toList n).toArray := zeros_eq uz.cells n _ (by rw [hzl])
          have hz' : ∀ w, (sizeOf e).run P w = .ok z w := fun w => size_run hz
          have hrun : (Instr.buildSlice t n qs.toArray).run P w = .ok (.slice (some ⟨w.heap.size, 0, none⟩) n n) { w with heap := w.heap.push (.cells l'.toArray e) } := by
            by_cases h0 : n * z = 0
            · have hr0 : (rep uz.cells.toList n).toArray = #[] := by rw [← hzeros, h0]; simp
              have r0 : Array.range 0 = #[] := Array.ext' (by simp)
              rw [hr0] at h2
              simp [Instr.buildSlice, run_underlying hu, hz', h0, r0, h2, newRow]
            · simp only [Instr.buildSlice, Sem.run_bind, run_underlying hu, Result.andThen_ok, hz', hlim', if_false, Sem.run_pure, h0, hzr, hzeros, h2, newRow, run_newObj]
          have hq' : (ps.map fun (x : Nat × Operand) => match x with | (i, y) => (i, η y)) = qs.toArray := hq
          simp only [execOp, Sem.run_bind, Sem.run_pure]
          rw [hq', hrun]; rfl
        | _ => exact absurd (by simp only [buildSliceA, hu]) hne
  | makeSlice t xl xc =>
    cases hk : okXs P.globals.size [xl, xc] with
    | false => exact absurd (by simp only [kOp, hk]; rfl) hne
    | true =>
      obtain ⟨hk1, hk2⟩ := okXs2 hk
      have hl' := hx xl (by simp [Op.operands]) hk1
      have hc' := hx xc (by simp [Op.operands]) hk2
      have hkop : ∀ S, (kOp P cf vm fn ⟨dst, .makeSlice t xl xc, type, pos, after, guard⟩).f fr S = (makeSliceA P t).f ((cX1 vm xl).f fr) ((cX1 vm xc).f fr) S := fun S => by simp only [kOp, hk]
      rw [hkop] at hne
      generalize (cX1 vm xl).f fr = l at hl' hne hkop
      generalize (cX1 vm xc).f fr = c at hc' hne hkop
      cases hu : P.underlying t with
      | none => exact absurd (by simp only [makeSliceA, hu]) hne
      | some td =>
        cases td with
        | slice e =>
          cases hz : sizeA P e with
          | none => exact absurd (by simp only [makeSliceA, hu, hz]) hne
          | some z =>
          cases hzv : zeroA P e with
          | none => exact absurd (by simp only [makeSliceA, hu, hz, hzv]) hne
          | some zv =>
          cases hzl : Nat.beq (len (cellsA zv)) z with
          | false => exact absurd (by simp only [makeSliceA, hu, hz, hzv, hzl]) hne
          | true =>
          have hA : ∀ S, (makeSliceA P t).f l c S = vInt l .no fun _ l => vInt c .no fun _ c => cI l (fun n => cI c (fun m =>
              cB (bAnd (Nat.ble n m) (small (Nat.mul m (Nat.add (Nat.add z 1) (bytesA P e))))) (newA S (.cells .own e (rep (cellsA zv) m)) 1 .no fun i s' => .val (.slice i 0 n m) s') .no) fun _ => .no) fun _ => .no := fun S => by simp only [makeSliceA, hu, hz, hzv, hzl]
          rw [hA] at hne
          cases l with
          | int kl n =>
            cases c with
            | int kc m =>
              cases n with
              | negSucc n => exact absurd rfl hne
              | ofNat n =>
              cases m with
              | negSucc m => exact absurd rfl hne
              | ofNat m =>
              cases hb : bAnd (Nat.ble n m) (small (Nat.mul m (Nat.add (Nat.add z 1) (bytesA P e)))) with
              | false =>
                exfalso; apply hne
                show cB (bAnd (Nat.ble n m) (small (Nat.mul m (Nat.add (Nat.add z 1) (bytesA P e))))) _ AN.no = _
                rw [hb]; rfl
              | true =>
              have hul := conc_int hl'
              have huc := conc_int hc'
              obtain ⟨hb1, hb2⟩ := bAnd_iff.1 hb
              have hnm : n ≤ m := by simpa using hb1
              have hsm : m * (z + 1 + bytesA P e) ≤ 1000000000 := by simpa [small] using hb2
              obtain ⟨u, hzr, hzc⟩ := zero_run hzv (ρ := ρ)
              have hcz := cellsA_conc hzc
              have hzl' : u.cells.size = z := by
                have := concs_length hcz
                rw [Nat.beq_eq, len_eq] at hzl
                simp only [Array.length_toList] at this
                omega
              obtain ⟨ti, hti, htz⟩ := info_run hz
              have hby : bytesA P e = ti.bytes := by simp [bytesA, hti]
              have hm9 : m ≤ 1000000000 := Nat.le_trans (Nat.le_mul_of_pos_right m (by omega)) hsm
              have hbm : m * ti.bytes ≤ 1000000000 := by rw [← hby]; exact Nat.le_trans (Nat.mul_le_mul_left m (by omega)) hsm
              have hbm' : (ti.bytes : Int) * (m : Int) ≤ 281474976710656 := by
                have : (ti.bytes : Int) * (m : Int) = ((m * ti.bytes : Nat) : Int) := by rw [Int.natCast_mul, Int.mul_comm]
                rw [this]; omega
              have hzi : ti.zero = some u := by
                have := hzr default
                simp only [zeroValue, Sem.run_bind, typeInfo, run_program, hti, Result.andThen_ok, Sem.run_pure] at this
                cases hq : ti.zero with
                | none => rw [hq] at this; cases this
                | some y => rw [hq] at this; cases this; rfl
              refine ⟨_, _, _, _, Late.own (t := e) (mk := fun i => .slice i 0 n m) (u := fun g => .slice (some ⟨g, 0, none⟩) n m) (concs_rep hcz m) (fun i ρ' g h => by simp only [conc, h]; rw [if_pos hnm]) (fun S => by
                rw [hkop, hA]
                show cB (bAnd (Nat.ble n m) (small (Nat.mul m (Nat.add (Nat.add z 1) (bytesA P e))))) _ AN.no = _
                rw [hb]; rfl) fun w => ?_⟩
              have hrun := run_make (P := P) w t e ti u hu hti hzi kl kc n m (by omega) (by omega) hbm' (by omega)
              rw [← zeros_eq u.cells m (m * ti.size) (by rw [htz, hzl'])]
              simp only [execOp, Sem.run_bind, Sem.run_pure, hul, huc]
              have hrun' : (Instr.makeSlice t (.int kl (Int.ofNat n)) (.int kc (Int.ofNat m))).run P w = _ := hrun
              rw [hrun']; rfl
            | _ => exact absurd rfl hne
          | _ => exact absurd rfl hne
        | _ => exact absurd (by simp only [makeSliceA, hu]) hne
  | _ => cases hl
end
end Go.Proofs.YtfnjojdiiklleaaGreat.Ev
