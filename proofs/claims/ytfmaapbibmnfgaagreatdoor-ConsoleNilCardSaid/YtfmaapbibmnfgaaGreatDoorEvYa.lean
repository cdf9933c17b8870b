/- A run of a program on abstract memory: operations. -/
import Derived.Test.YtfmaapbibmnfgaaGreatDoorEvVa
import Derived.RangeFuncLeaves
import Derived.TacticsIn
import Derived.OrdersIn
import Derived.OwnWalkIn
set_option linter.unusedSectionVars false
namespace Go.Proofs.YtfmaapbibmnfgaaGreatDoor.Ev
variable [Vr]
section
variable {P : Program} {vm : Vm} {ρ : Rho} {S : AS} {w : World}

/-- What an operation comes to. -/
noncomputable def AN.ok (P : Program) (ρ : Rho) (S : AS) (w : World) (r : Result Next) : AN → Prop
  | .no => True
  | .get v => ∃ u, conc ρ v = some u ∧ r = .ok (.value u) w
  | .val v S' => ∃ ρ' u w', (r = .ok (.value u) w' ∨ (r = .ok .skip w' ∧ u = undef)) ∧ Ext ρ S w ρ' S' w' ∧ Sat P ρ' S' w' ∧ conc ρ' v = some u
  | .pick l => ∃ x, x ∈ l ∧ ∃ ρ' u w', r = .ok (.value u) w' ∧ Ext ρ S w ρ' x.2 w' ∧ Sat P ρ' x.2 w' ∧ conc ρ' x.1 = some u
  | .enter f args => ∃ us, concs ρ args = some us ∧ r = (callFunc f us.toArray).run P w
  | .round l args => ∃ us g o c, concs ρ args = some us ∧ look ρ l = some (.blk g o c) ∧ r = (Instr.yield g us.toArray).run P w
theorem AN.okV.lift {r : Result Value} {x : AN} (h : AN.okV P ρ S w r x) {r' : Result Next} (hr : r' = r.andThen fun u w' => .ok (.value u) w') : AN.ok P ρ S w r' x := by
  subst hr
  cases x with
  | no => exact trivial
  | get v => obtain ⟨u, h1, rfl⟩ := h; exact ⟨u, h1, rfl⟩
  | val v S' => obtain ⟨ρ', u, w', rfl, h1, h2, h3⟩ := h; exact ⟨ρ', u, w', .inl rfl, h1, h2, h3⟩
  | pick l => obtain ⟨y, hy, ρ', u, w', rfl, h1, h2, h3⟩ := h; exact ⟨y, hy, ρ', u, w', rfl, h1, h2, h3⟩
  | enter f args => exact h.elim
  | round l args => exact h.elim
theorem AN.okU.lift {r : Result Unit} {x : AN} (h : AN.okU P ρ S w r x) {r' : Result Next} (hr : r' = r.andThen fun _ w' => .ok .skip w') : AN.ok P ρ S w r' x := by
  subst hr
  cases x with
  | no => exact trivial
  | val v S' => obtain ⟨rfl, ρ', w', rfl, h1, h2⟩ := h; exact ⟨ρ', undef, w', .inr ⟨rfl, rfl⟩, h1, h2, by simp [conc, concs, undef]⟩
  | get v => exact h.elim
  | pick l => exact h.elim
  | enter f args => exact h.elim
  | round l args => exact h.elim
variable {η : Operand → Value} {fr : FrA}
theorem cXO_ok {x : Option Operand} (h : ∀ y, x = some y → Opd vm P.globals.size ρ fr η y) (hk : okO P.globals.size x = true) : OptC ρ ((cXO vm x).f fr) (x.map η) := by
  cases x with
  | none => exact trivial
  | some y => exact h y rfl hk
theorem cXI_ok : ∀ {l : List (Nat × Operand)}, (∀ x ∈ l, Opd vm P.globals.size ρ fr η x.2) → okXs P.globals.size (l.map (·.2)) = true → All2 (fun a b => a.1 = b.1 ∧ conc ρ a.2 = some b.2) ((cXI vm l).f fr) (l.map fun x => (x.1, η x.2))
  | [], _, _ => .nil
  | (i, x) :: l, h, hk => by
    simp only [okXs, List.map_cons, List.all_cons, Bool.and_eq_true] at hk
    exact .cons ⟨rfl, h (i, x) (by simp) hk.1⟩ (cXI_ok (fun y hy => h y (by simp [hy])) hk.2)
theorem nilCheck_ok {x : AV} {u : Value} (hx : conc ρ x = some u) {r : Result Next} (hr : (∀ p, u = .pointer (some p) → r = .ok (.value u) w) ∧ (∀ f a b, u = .func (.func f) a b → r = .ok (.value u) w) ∧ (∀ l a b, u = .func (.yield l) a b → r = .ok (.value u) w)) :
    AN.ok P ρ S w r (nilCheckA x) := by
  refine cB_ok (fun h => ?_) fun _ => ?_
  · cases x with
    | ptr b o => obtain ⟨g, off, cap, hb, rfl⟩ := conc_ptr hx; exact ⟨_, hx, hr.1 _ rfl⟩
    | _ => cases h
  · refine vFn_ok trivial (fun f a b e => ?_) fun l e => ?_
    · subst e
      refine ⟨u, hx, ?_⟩
      simp only [conc] at hx
      split at hx
      · cases hx; exact hr.2.1 _ _ _ rfl
      · cases hx
    · subst e
      refine ⟨u, hx, ?_⟩
      simp only [conc] at hx
      split at hx
      · cases hx; exact hr.2.2 _ _ _ rfl
      · cases hx
theorem buildSlice_ok (hs : Sat P ρ S w) {t : TypeId} {n : Nat} {ps : List (Nat × AV)} {qs : List (Nat × Value)} (hp : All2 (fun a b => a.1 = b.1 ∧ conc ρ a.2 = some b.2) ps qs) :
    AN.okV P ρ S w ((Instr.buildSlice t n qs.toArray).run P w) ((buildSliceA P t n).f ps S) := by
  unfold buildSliceA
  split
  · rename_i e hu
    split
    · rename_i z zv hz hzv
      split
      · rename_i hb
        simp only [Bool.and_eq_true] at hb
        obtain ⟨uz, hzr, hzc⟩ := zero_run hzv (ρ := ρ)
        have hcz := cellsA_conc hzc
        have hzl : uz.cells.size = z := by
          have := concs_length hcz
          have h1 := hb.1
          rw [Nat.beq_eq, len_eq] at h1
          simp only [Array.length_toList] at this
          omega
        have hlim : n * z ≤ 16777216 := by simpa using hb.2
        refine cO_ok trivial fun cs hcs => ?_
        obtain ⟨l', h1, h2⟩ := fill_ok ps qs _ cs _ hp (concs_rep hcz n) hcs
        have h2 : Instr.fill (fun i => some (i * z, z)) (rep uz.cells.toList n).toArray qs = some l'.toArray := h2
        refine new_own hs h1 (k := fun i => .slice i 0 n n) (u := fun g => .slice (some ⟨g, 0, none⟩) n n) (fun i ρ' g h => by simp only [conc, h]; rw [if_pos (Nat.le_refl _)]) ?_
        have hlim' : ¬ (n * z > 2 ^ 24) := by omega
        have hzeros : (Array.range (n * z)).map (fun i => uz.cells[i % uz.cells.size]!) = (rep uz.cells.toList n).toArray := zeros_eq uz.cells n _ (by rw [hzl])
        have hz' : ∀ w, (sizeOf e).run P w = .ok z w := fun w => size_run hz
        by_cases h0 : n * z = 0
        · have hr0 : (rep uz.cells.toList n).toArray = #[] := by rw [← hzeros, h0]; simp
          have r0 : Array.range 0 = #[] := Array.ext' (by simp)
          rw [hr0] at h2
          simp [Instr.buildSlice, run_underlying hu, hz', h0, r0, h2, newRow]
        · simp only [Instr.buildSlice, Sem.run_bind, run_underlying hu, Result.andThen_ok, hz', hlim', if_false, Sem.run_pure, h0, hzr, hzeros, h2, newRow, run_newObj]
      · exact trivial
    · exact trivial
  · exact trivial
theorem makeMap_ok (hs : Sat P ρ S w) {t : TypeId} : AN.okV P ρ S w ((Instr.makeMap t none).run P w) (newA S (.map [] 0) 1 .no fun i s => .val (.map i) s) := by
  refine newA_okQ trivial fun i hi hf => ?_
  obtain ⟨h1, h2⟩ := hs.new (o := .map [] 0) (ob := .map #[] 0) (off := 0) (cap := 0) (w' := { w with heap := w.heap.push (.map #[] 0) }) hf (at_put (by intro e; cases e) rfl) (Tr.put rfl) rfl rfl rfl rfl fun hle =>
    ⟨w.heap.size, 0, 0, #[], Rho.set_same _ _ _, by simp, ⟨⟨[], .nil, .refl _⟩, by simp, by simp, by simp⟩⟩
  exact ⟨_, .map (some w.heap.size), _, by simp [Instr.makeMap], h2, h1, by simp [conc, look_set hi]⟩
theorem okXs2 {ng : Nat} {x y : Operand} (h : okXs ng [x, y] = true) : okX ng x = true ∧ okX ng y = true := by simpa [okXs] using h
theorem okXs3 {ng : Nat} {x y z : Operand} (h : okXs ng [x, y, z] = true) : okX ng x = true ∧ okX ng y = true ∧ okX ng z = true := by simpa [okXs] using h
theorem conc_func {f : FuncId} {a b : List AV} {u : Value} (h : conc ρ (.func f a b) = some u) : ∃ x y, u = .func (.func f) x.toArray y.toArray ∧ concs ρ a = some x ∧ concs ρ b = some y := by
  simp only [conc] at h
  split at h
  · rename_i x y h1 h2; cases h; exact ⟨x, y, rfl, h1, h2⟩
  · cases h
theorem conc_yld {l : Nam} {u : Value} (h : conc ρ (.yld l) = some u) : ∃ g o c, u = .func (.yield g) #[] #[] ∧ look ρ l = some (.blk g o c) := by
  simp only [conc] at h
  split at h
  · rename_i g o c e; cases h; exact ⟨g, o, c, rfl, e⟩
  · cases h
/-! ### Interfaces -/
theorem vIf_ok {α : Type} {Q : α → Prop} {no : α} {v : AV} {fnili : _} {fiface : _} (hno : Q no) (hnili : v = .nili → Q fnili) (hiface : ∀ t x, v = .iface t x → Q (fiface t x)) : Q (vIf v no fnili fiface) := by
  cases v <;> first | exact hno | exact hnili rfl | exact hiface _ _ rfl
theorem conc_iface {t : Nat} {v : AV} {u : Value} (h : conc ρ (.iface t v) = some u) : ∃ x, u = .iface t x ∧ conc ρ v = some x := by
  simp only [conc] at h
  split at h
  · rename_i x e; cases h; exact ⟨x, rfl, e⟩
  · cases h
theorem iface_ok {t : TypeId} {x : AV} {u : Value} (hx : conc ρ x = some u) : AN.okV P ρ S w ((Instr.makeInterface t u).run P w) ((ifaceA P t).f x) := by
  unfold ifaceA
  split
  · exact trivial
  · rename_i d hd hu
    refine ⟨.iface t u, by simp only [conc, hx], ?_⟩
    cases d <;> first | exact (hd _ rfl).elim | simp [Instr.makeInterface, run_underlying hu]
  · exact trivial
theorem assert_ok {xt a : TypeId} {two : Bool} {x : AV} {u : Value} (hx : conc ρ x = some u) : AN.okV P ρ S w ((Instr.typeAssert u xt a two).run P w) ((assertA P a two).f x) := by
  unfold assertA
  split
  · exact trivial
  · rename_i d hd hu
    refine vIf_ok trivial (fun _ => trivial) fun t v e => ?_
    subst e
    obtain ⟨y, rfl, hy⟩ := conc_iface hx
    refine cB_ok (fun h => ?_) fun h => ?_
    rotate_left
    · cases two with
      | false => exact trivial
      | true =>
        refine (show AN.okV P ρ S w _ (cO (zeroA P a) .no fun z => .get (.tuple [z, .bool false])) from ?_)
        refine cO_ok trivial fun z hz => ?_
        obtain ⟨q, q1, q2⟩ := zero_run (ρ := ρ) hz
        have hne : t ≠ a := fun e => by rw [e, Nat.beq_refl] at h; cases h
        refine ⟨.tuple #[q, .bool false], by simp only [conc, concs, q2], ?_⟩
        cases d <;> first | exact (hd _ rfl).elim | simp [Instr.typeAssert, run_underlying hu, hne, q1]
    have h : t = a := Nat.eq_of_beq_eq_true h
    subst h
    cases two with
    | true =>
      refine ⟨.tuple #[y, .bool true], by show conc ρ (.tuple [v, .bool true]) = _; simp only [conc, concs, hy], ?_⟩
      cases d <;> first | exact (hd _ rfl).elim | simp [Instr.typeAssert, run_underlying hu]
    | false =>
      refine ⟨y, hy, ?_⟩
      cases d <;> first | exact (hd _ rfl).elim | simp [Instr.typeAssert, run_underlying hu]
  · exact trivial
theorem method_run {name : String} {t e : TypeId} {f : FuncId} {p : Bool} {u : Value} (h : methA P name t = some (f, p)) (he : ptrE P t = some e) {x : Value}
    (hx : (p = true → x = u) ∧ (p = false → ∃ a, u = .pointer (some a) ∧ (loadVar e a).run P w = .ok x w)) (n : Nat) : (method (n + 1) t u name).run P w = .ok (f, x) w := by
  unfold methA at h
  split at h
  · rename_i i hi
    split at h
    · rename_i m hm
      split at h
      · rename_i hp
        have hu : P.underlying t = some (.pointer e) := by
          unfold ptrE at he
          split at he
          · rename_i e' hu; cases he; exact hu
          · cases he
        have hpath : m.path.toList = [] := by
          have : m.path = #[] := by simpa using hp
          rw [this]
        have hp0 : m.path = #[] := by simpa using hp
        cases p with
        | true =>
          have := hx.1 rfl
          subst this
          simp [method, typeInfo, hi, hm, hpath, follow, h, receiverAt, run_underlying hu, Place.get]
        | false =>
          obtain ⟨a, rfl, hl⟩ := hx.2 rfl
          have hck : ∀ A T s1 s2, Builtin.ssaWrapNilChk_ A T #[.pointer (some a), .string s1, .string s2] = pure (.pointer (some a)) := fun _ _ _ _ => rfl
          simp [method, typeInfo, hi, hm, hp0, follow, h, receiverAt, run_underlying hu, Place.get, strVal, hck, asAddr, hl]
      · cases h
    · cases h
  · cases h
theorem kCall_ok (hs : Sat P ρ S w) (cf : Cf) (fn : FuncId) (c : Call) (type : TypeId) (hx : ∀ x ∈ c.operands.toList, Opd vm P.globals.size ρ fr η x) :
    AN.ok P ρ S w ((do let d ← resolve η c type; invoke d.target d.args : Sem Next).run P w) ((kCall P cf vm fn c).f fr S) := by
  unfold kCall
  split
  · exact trivial
  · rename_i hargs
    have hxa : ∀ x ∈ c.args.toList, Opd vm P.globals.size ρ fr η x := fun x h => hx x (by simp [Call.operands]; exact .inr (by simpa using h))
    have hok : ∀ x ∈ c.args.toList, okX P.globals.size x = true := fun x h => List.all_eq_true.1 hargs x h
    have hcs := cXs_ok hxa hargs
    split
    · rename_i b hcal
      have hrun : (do let d ← resolve η c type; invoke d.target d.args : Sem Next).run P w = (builtin b c.argTypes type (c.args.map fun | .const _ => true | _ => false) (c.args.map η)).run P w := by
        simp only [resolve, hcal, Sem.run_bind, Sem.run_pure, Result.andThen_ok, invoke]
        rfl
      rw [hrun]
      have hmap1 : ∀ x, c.args.toList = [x] → c.args.map η = #[η x] := fun x h => by apply Array.ext'; simp [h]
      have hmap2 : ∀ x y, c.args.toList = [x, y] → c.args.map η = #[η x, η y] := fun x y h => by apply Array.ext'; simp [h]
      have hty : ∀ t l, c.argTypes.toList = t :: l → c.argTypes[0]? = some t := fun t l h => by rw [← Array.getElem?_toList, h]; rfl
      have hty1 : ∀ t u l, c.argTypes.toList = t :: u :: l → c.argTypes[1]? = some u := fun t u l h => by rw [← Array.getElem?_toList, h]; rfl
      split
      · rename_i ty l x h1 h2
        rw [hmap1 x h2]
        exact (len_ok hs (ty := type) (hty _ _ h1) (hxa x (by simp [h2]) (hok x (by simp [h2])))).lift (by simp [builtin])
      · rename_i ty l x h1 h2
        rw [hmap1 x h2]
        exact (cap_ok (ty := type) (hty _ _ h1) (hxa x (by simp [h2]) (hok x (by simp [h2])))).lift (by simp [builtin])
      · rename_i l x h2
        refine vInt_ok trivial fun k n e => ?_
        rw [h2] at hcs
        obtain ⟨u, q, hq, h3, h4⟩ := concs_cons hcs
        rw [List.map_cons] at hq
        have h5 : c.args.map η = (u :: q).toArray := by apply Array.ext'; simp [h2, hq]
        rw [h5]
        exact (min_ok h4 h3).lift (by simp [builtin, Builtin.min_])
      · rename_i l x h2
        refine vInt_ok trivial fun k n e => ?_
        rw [h2] at hcs
        obtain ⟨u, q, hq, h3, h4⟩ := concs_cons hcs
        rw [List.map_cons] at hq
        have h5 : c.args.map η = (u :: q).toArray := by apply Array.ext'; simp [h2, hq]
        rw [h5]
        exact (max_ok h4 h3).lift (by simp [builtin, Builtin.max_])
      · rename_i sT yT l x y h1 h2
        rw [hmap2 x y h2]
        exact (append_ok hs (ty := type) (hty _ _ h1) (hty1 _ _ _ h1) (hxa x (by simp [h2]) (hok x (by simp [h2]))) (hxa y (by simp [h2]) (hok y (by simp [h2])))).lift (by simp [builtin])
      · rename_i sT yT l x y h1 h2
        rw [hmap2 x y h2]
        exact (copy_ok hs (ty := type) (yT := yT) (hty _ _ h1) (hxa x (by simp [h2]) (hok x (by simp [h2]))) (hxa y (by simp [h2]) (hok y (by simp [h2])))).lift (by simp [builtin])
      · rename_i ty l x h1 h2
        rw [hmap1 x h2]
        exact (clear_ok hs (ty := type) (hty _ _ h1) (hxa x (by simp [h2]) (hok x (by simp [h2])))).lift (by simp [builtin])
      · rename_i mT l m k h1 h2
        rw [hmap2 m k h2]
        exact (delete_ok hs (ty := type) (hty _ _ h1) (hxa m (by simp [h2]) (hok m (by simp [h2]))) (hxa k (by simp [h2]) (hok k (by simp [h2])))).lift (by simp [builtin])
      · exact trivial
    · rename_i f hcal
      have hxf : Opd vm P.globals.size ρ fr η f := hx f (by simp [Call.operands, hcal])
      have hcs' : (c.args.map η) = (c.args.toList.map η).toArray := by apply Array.ext'; simp
      split
      · rename_i g
        have hgo : (do let d ← resolve η c type; invoke d.target d.args : Sem Next).run P w = (callFunc g (c.args.toList.map η).toArray).run P w := by
          have : η (.func g) = .func (.func g) #[] #[] := by
            have := hxf rfl
            simp only [cX1, conc, concs] at this
            exact (Option.some.inj this).symm
          simp only [resolve, hcal, Sem.run_bind, this, Deferred.ofValue, Sem.run_pure, Result.andThen_ok, invoke, hcs']
          simp
        rw [hgo]
        split
        · rename_i hcl
          exact (clone_ok hs hcs).lift (clone_run hcl _)
        refine ⟨_, hcs, rfl⟩
      · rename_i f hkf
        have hf := hxf hkf
        refine vFn_ok trivial (fun g a b e => ?_) fun l e => ?_
        · rw [e] at hf
          obtain ⟨x, y, h1, h2, h3⟩ := conc_func hf
          refine ⟨x ++ (c.args.toList.map η ++ y), by rw [app_eq, app_eq]; exact concs_append h2 (concs_append hcs h3), ?_⟩
          simp only [resolve, hcal, Sem.run_bind, h1, Deferred.ofValue, Sem.run_pure, Result.andThen_ok, invoke, hcs']
          simp
        · rw [e] at hf
          obtain ⟨g, o, cc, h1, h2⟩ := conc_yld hf
          refine ⟨_, g, o, cc, hcs, h2, ?_⟩
          simp only [resolve, hcal, Sem.run_bind, h1, Deferred.ofValue, Sem.run_pure, Result.andThen_ok, invoke, hcs']
          simp
      · exact trivial
    · rename_i r name hcal
      have hxr : Opd vm P.globals.size ρ fr η r := hx r (by simp [Call.operands, hcal])
      have hcs' : (c.args.map η) = (c.args.toList.map η).toArray := by apply Array.ext'; simp
      split
      · rename_i hkr
        have hr := hxr hkr
        refine vIf_ok trivial (fun _ => trivial) fun t v e => ?_
        rw [e] at hr
        obtain ⟨u, hu1, hu2⟩ := conc_iface hr
        refine cO_ok trivial fun x hm => cO_ok trivial fun el hel => ?_
        obtain ⟨f, p⟩ := x
        have hrun : ∀ y, (∀ n, (method (n + 1) t u name).run P w = .ok (f, y) w) → (do let d ← resolve η c type; invoke d.target d.args : Sem Next).run P w = (callFunc f (y :: c.args.toList.map η).toArray).run P w := fun y hy => by
          have h1 := hy (P.types.size + 99)
          simp only [resolve, hcal, Sem.run_bind, Sem.run_pure, Result.andThen_ok, invoke, hu1, callMethod, hcs']
          simp only [Made.depth]
          have ht : List.take c.args.size (List.map η c.args.toList) = List.map η c.args.toList := List.take_of_length_le (by simp)
          simp [h1, ht]
        refine cB_ok (fun h => ?_) fun h => ?_
        · have h : p = true := h
          refine ⟨_, concs_cons' hu2 hcs, hrun u fun n => method_run hm hel ⟨fun _ => rfl, fun e => ?_⟩ n⟩
          rw [h] at e; cases e
        · have h : p = false := h
          refine vPtr_ok trivial fun b o ev => ?_
          refine cO_ok trivial fun lv hlv => ?_
          obtain ⟨y, hy1, hy2⟩ := load_ok hs hlv hu2
          subst ev
          obtain ⟨g, off, cap, hb, rfl⟩ := conc_ptr hu2
          refine ⟨_, concs_cons' hy1 hcs, hrun y fun n => method_run hm hel ⟨fun e => ?_, fun _ => ⟨_, rfl, ?_⟩⟩ n⟩
          · rw [h] at e; cases e
          · simpa [Instr.loadAt, Instr.sureAddr] using hy2
      · exact trivial
theorem kOp_ok (hs : Sat P ρ S w) (cf : Cf) (fn : FuncId) (o : Oper) (hx : ∀ x ∈ o.op.operands.toList, Opd vm P.globals.size ρ fr η x) : AN.ok P ρ S w ((execOp η o).run P w) ((kOp P cf vm fn o).f fr S) := by
  obtain ⟨dst, op, type, pos, after, guard⟩ := o
  simp only at hx
  cases op <;> simp only [kOp, execOp] <;> first | exact trivial | skip
  case move x =>
    split
    · rename_i hk; exact ⟨_, hx x (by simp [Op.operands]) hk, rfl⟩
    · exact trivial
  case assign x =>
    split
    · rename_i hk; exact ⟨_, hx x (by simp [Op.operands]) hk, rfl⟩
    · exact trivial
  case pick c a b =>
    split
    · rename_i hk
      obtain ⟨h1, h2, h3⟩ := okXs3 hk
      refine vBool_ok trivial fun t e => ?_
      have hc := hx c (by simp [Op.operands]) h1
      rw [e] at hc
      have hc := conc_bool hc
      refine cB_ok (fun ht => ?_) fun ht => ?_
      · subst ht; exact ⟨_, hx a (by simp [Op.operands]) h2, by simp [hc, asBool]⟩
      · subst ht; exact ⟨_, hx b (by simp [Op.operands]) h3, by simp [hc, asBool]⟩
    · exact trivial
  case alloc e =>
    split
    · rename_i z hz; exact (alloc_ok hs hz).lift (by simp)
    · exact trivial
  case box e x =>
    split
    · rename_i hk; exact (newV_ok hs (hx x (by simp [Op.operands]) hk)).lift (by simp only [Instr.box, Sem.run_bind, Sem.run_pure])
    · exact trivial
  case build t ps =>
    split
    · rename_i hk
      have := build_ok (P := P) (S := S) (w := w) (t := t) (cXI_ok (l := ps.toList) (ρ := ρ) (fr := fr) (η := η) (fun x h => hx x.2 (by simp [Op.operands]; exact ⟨x.1, by simpa using h⟩)) hk)
      refine this.lift ?_
      have e : (ps.map fun (x : Nat × Operand) => (x.1, η x.2)) = (ps.toList.map fun x => (x.1, η x.2)).toArray := by apply Array.ext'; simp
      simp [← e]
    · exact trivial
  case buildSlice t n ps =>
    split
    · rename_i hk
      have := buildSlice_ok hs (t := t) (n := n) (cXI_ok (l := ps.toList) (ρ := ρ) (fr := fr) (η := η) (fun x h => hx x.2 (by simp [Op.operands]; exact ⟨x.1, by simpa using h⟩)) hk)
      refine this.lift ?_
      have e : (ps.map fun (x : Nat × Operand) => (x.1, η x.2)) = (ps.toList.map fun x => (x.1, η x.2)).toArray := by apply Array.ext'; simp
      simp [← e]
    · exact trivial
  case load t a =>
    split
    · rename_i hk
      refine cO_ok trivial fun v hv => ?_
      obtain ⟨y, h1, h2⟩ := load_ok hs hv (hx a (by simp [Op.operands]) hk)
      exact ⟨y, h1, by simp [h2]⟩
    · exact trivial
  case store t a x =>
    split
    · rename_i hk
      obtain ⟨h1, h2⟩ := okXs2 hk
      exact (store_ok hs (t := t) (hx a (by simp [Op.operands]) h1) (hx x (by simp [Op.operands]) h2)).lift (by simp)
    · exact trivial
  case nilCheck x =>
    cases hk : okX P.globals.size x with
    | false => exact trivial
    | true => exact nilCheck_ok (hx x (by simp [Op.operands]) hk) ⟨fun p e => by simp [e], fun f a b e => by simp [e], fun l a b e => by simp [e]⟩
  case binOp op t x y yt =>
    split
    · rename_i hk
      obtain ⟨h1, h2⟩ := okXs2 hk
      exact (bin_ok hs _ op t x y (fun hc => by cases x <;> cases y <;> simp_all [isC]) (hx x (by simp [Op.operands]) h1) (hx y (by simp [Op.operands]) h2)).lift (by
        simp only [Sem.run_bind, Sem.run_pure])
    · exact trivial
  case unOp op t x =>
    split
    · rename_i hk; exact (un_ok op _ _ (hx x (by simp [Op.operands]) hk)).lift (by simp)
    · exact trivial
  case convert s d x =>
    split
    · rename_i hk; exact (conv_ok hs (hx x (by simp [Op.operands]) hk)).lift (by simp)
    · exact trivial
  case makeInterface t x =>
    split
    · rename_i hk; exact (iface_ok (hx x (by simp [Op.operands]) hk)).lift (by simp)
    · exact trivial
  case typeAssert x xt a two =>
    split
    · rename_i hk; exact (assert_ok (xt := xt) (hx x (by simp [Op.operands]) hk)).lift (by simp)
    · exact trivial
  case makeFunc f a b =>
    split
    · rename_i g hk
      simp only [Bool.and_eq_true] at hk
      have h1 := cXs_ok (l := a.toList) (ρ := ρ) (fr := fr) (η := η) (fun x h => hx x (by simp [Op.operands]; exact .inl (by simpa using h))) hk.1
      have h2 := cXs_ok (l := b.toList) (ρ := ρ) (fr := fr) (η := η) (fun x h => hx x (by simp [Op.operands]; exact .inr (by simpa using h))) hk.2
      refine ⟨.func (.func g) (a.toList.map η).toArray (b.toList.map η).toArray, by simp only [conc, h1, h2], ?_⟩
      have e1 : a.map η = (a.toList.map η).toArray := by apply Array.ext'; simp
      have e2 : b.map η = (b.toList.map η).toArray := by apply Array.ext'; simp
      simp [Instr.makeFunc, e1, e2]
    · exact trivial
  case makeMap t r =>
    cases r with
    | none => exact (makeMap_ok hs (t := t)).lift (by simp)
    | some _ => exact trivial
  case makeSlice t l c =>
    split
    · rename_i hk _
      obtain ⟨h1, h2⟩ := okXs2 hk
      exact (makeSlice_ok hs (hx l (by simp [Op.operands]) h1) (hx c (by simp [Op.operands]) h2)).lift (by simp)
    · rename_i hk _
      obtain ⟨h1, h2⟩ := okXs2 hk
      exact (makeFill_ok hs (hx l (by simp [Op.operands]) h1) (hx c (by simp [Op.operands]) h2)).lift (by simp)
    · exact trivial
  case slice t x lo hi mx =>
    split
    · rename_i hk
      simp only [Bool.and_eq_true] at hk
      obtain ⟨⟨⟨h1, h2⟩, h3⟩, h4⟩ := hk
      refine (slice_ok hs (t := t) (hx x (by simp [Op.operands]) h1) (cXO_ok (x := lo) (η := η) (fun y e => hx y (by simp [Op.operands, e])) h2) (cXO_ok (x := hi) (η := η) (fun y e => hx y (by simp [Op.operands, e])) h3)
        (cXO_ok (x := mx) (η := η) (fun y e => hx y (by simp [Op.operands, e])) h4)).lift (by simp)
    · exact trivial
  case fieldAddr st x f =>
    split
    · rename_i hk; exact (fieldAddr_ok (hx x (by simp [Op.operands]) hk)).lift (by simp)
    · exact trivial
  case field st x f =>
    split
    · rename_i hk; exact (field_ok (hx x (by simp [Op.operands]) hk)).lift (by simp)
    · exact trivial
  case indexAddr t x i =>
    split
    · rename_i hk
      obtain ⟨h1, h2⟩ := okXs2 hk
      exact (indexAddr_ok (hx x (by simp [Op.operands]) h1) (hx i (by simp [Op.operands]) h2)).lift (by simp)
    · exact trivial
  case index t x i =>
    split
    · rename_i hk
      obtain ⟨h1, h2⟩ := okXs2 hk
      exact (index_ok (hx x (by simp [Op.operands]) h1) (hx i (by simp [Op.operands]) h2)).lift (by simp)
    · exact trivial
  case lookup t x i ok =>
    split
    · rename_i hk
      obtain ⟨h1, h2⟩ := okXs2 hk
      exact (lookup_ok hs (hx x (by simp [Op.operands]) h1) (hx i (by simp [Op.operands]) h2)).lift (by simp)
    · exact trivial
  case mapUpdate t m k v =>
    split
    · rename_i hk
      obtain ⟨h1, h2, h3⟩ := okXs3 hk
      exact (mapPut_ok hs (hx m (by simp [Op.operands]) h1) (hx k (by simp [Op.operands]) h2) (hx v (by simp [Op.operands]) h3)).lift (by simp)
    · exact trivial
  case insert t m k v =>
    split
    · rename_i hk
      obtain ⟨h1, h2, h3⟩ := okXs3 hk
      exact (mapPut_ok hs (hx m (by simp [Op.operands]) h1) (hx k (by simp [Op.operands]) h2) (hx v (by simp [Op.operands]) h3)).lift (by simp)
    · exact trivial
  case mapEntry t m k =>
    split
    · rename_i hk
      obtain ⟨h1, h2⟩ := okXs2 hk
      exact (mapEntry_ok hs (hx m (by simp [Op.operands]) h1) (hx k (by simp [Op.operands]) h2)).lift (by simp)
    · exact trivial
  case entryStore t m i v =>
    split
    · rename_i hk
      obtain ⟨h1, h2, h3⟩ := okXs3 hk
      exact (entryStore_ok hs (ty := t) (hx m (by simp [Op.operands]) h1) (hx i (by simp [Op.operands]) h2) (hx v (by simp [Op.operands]) h3)).lift (by simp)
    · exact trivial
  case range t x =>
    split
    · rename_i hk; exact (range_ok hs (hx x (by simp [Op.operands]) hk)).lift (by simp)
    · exact trivial
  case next it isS =>
    split
    · rename_i hk; exact (next_ok hs (t := type) (hx it (by simp [Op.operands]) hk)).lift (by simp)
    · exact trivial
  case entry it =>
    split
    · rename_i hk; exact (entry_ok hs (hx it (by simp [Op.operands]) hk)).lift (by simp)
    · exact trivial
  case extract x i =>
    split
    · rename_i hk
      refine vTup_ok trivial fun l e => ?_
      have h1 := hx x (by simp [Op.operands]) hk
      rw [e] at h1
      obtain ⟨r, h2, h3⟩ := conc_tuple h1
      refine cO_ok trivial fun v hv => ?_
      rw [nth_eq] at hv
      obtain ⟨u, h4, h5⟩ := concs_get h3 hv
      exact ⟨u, h5, by simp [Instr.extract, h2, h4]⟩
    · exact trivial
  case call c => exact kCall_ok hs cf fn c type hx
end
end Go.Proofs.YtfmaapbibmnfgaaGreatDoor.Ev
namespace Go.Proofs.YtfmaapbibmnfgaaGreatDoor.Ev
variable [Vr]
section
variable {P : Program} {vm : Vm} {ρ : Rho} {S : AS} {w : World}

/-- A fence that lets all in. -/
abbrev Wf (rn : Option Nat) : Fence := { Fence.wide with round := rn }
/-- What a frame holds; some temporaries left out. -/
structure FR (vm : Vm) (ρ : Rho) (fr : FrA) (n : Nat) (X : Nat → Prop) (a : Act) : Prop where
  size : a.tmps.size = n
  tmps : ∀ i, i < 256 → ¬ X i → conc ρ ((tgF vm i).f fr.t) = some (a.tmps.getD i undef)
  defs : All2 (fun i d => ∃ g o c, look ρ i = some (.blk g o c) ∧ d = ({ target := .collected g, args := #[] } : Deferred)) fr.ds a.defers
theorem FR.mono {ρ' : Rho} {fr : FrA} {n : Nat} {X : Nat → Prop} {a : Act} (h : FR vm ρ fr n X a) (hl : Le ρ ρ') : FR vm ρ' fr n X a :=
  ⟨h.size, fun i hi hx => conc_mono hl _ (h.tmps i hi hx), All2.mono (fun _ _ ⟨g, o, c, h1, h2⟩ => ⟨g, o, c, hl.look h1, h2⟩) h.defs⟩
theorem FR.put {fr : FrA} {n : Nat} {X : Nat → Prop} {a : Act} (h : FR vm ρ fr n X a) {dst : Option Tmp} (hd : okD n dst = true) {v : AV} {u : Value} (hv : conc ρ v = some u) : FR vm ρ ((cD vm n dst).f fr v) n X (a.put dst u) := by
  cases dst with
  | none => exact h
  | some d =>
    have hd' : n ≤ d ∨ d < 256 := by simpa [okD] using hd
    cases hb : Nat.blt d n with
    | true =>
      have hdn : d < n := by simpa using hb
      have hd256 : d < 256 := hd'.resolve_left (fun h => absurd hdn (Nat.not_lt.2 h))
      have hcd : (cD vm n (some d)).f fr v = ⟨(tsF vm d).f fr.t v, fr.ds⟩ := by simp only [cD, hb]
      rw [hcd]
      refine ⟨by simp [Act.put, h.size], fun i hi hx => ?_, h.defs⟩
      by_cases e : i = d
      · subst e
        rw [tget_same]
        simp [Act.put, Array.getD_eq_getD_getElem?, h.size, hdn, hv]
      · rw [tget_ne v hi hd256 e]
        have := h.tmps i hi hx
        rw [this]
        simp only [Act.put, Array.getD_eq_getD_getElem?]
        rw [Array.getElem?_setIfInBounds_ne (Ne.symm e)]
    | false =>
      have hdn : ¬ d < n := by intro e; rw [show Nat.blt d n = true by simpa using e] at hb; cases hb
      have hcd : (cD vm n (some d)).f fr v = fr := by simp only [cD, hb]
      rw [hcd]
      refine ⟨by simp [Act.put, h.size], fun i hi hx => ?_, h.defs⟩
      rw [h.tmps i hi hx]
      simp only [Act.put, Array.getD_eq_getD_getElem?]
      rw [Array.getElem?_setIfInBounds]
      by_cases e : d = i
      · subst e; simp [h.size, hdn]
      · simp [e]
theorem FR.opd (hs : Sat P ρ S w) {fr : FrA} {n : Nat} {X : Nat → Prop} {a : Act} (h : FR vm ρ fr n X a) (x : Operand) (hx : ∀ i, x = .tmp i → ¬ X i) : Opd vm P.globals.size ρ fr a.eval x :=
  opd_of hs x fun i e hi => h.tmps i hi (hx i e)

/-! ### What is to be shown -/
noncomputable def ValPost (P : Program) (ρ : Rho) (S : AS) (w : World) (x : R (Out × AS)) (u : Value) (w' : World) : Prop :=
  ∃ v S' ρ', x.has (.val v, S') ∧ Ext ρ S w ρ' S' w' ∧ Sat P ρ' S' w' ∧ conc ρ' v = some u
noncomputable def RetPost (P : Program) (ρ : Rho) (S : AS) (w : World) (x : R (Out × AS)) : Ending → World → Prop
  | .returned u, w' => ValPost P ρ S w x u w'
  | _, _ => False
noncomputable def relX : Ex → Exit → Prop
  | .normal, .normal => True
  | .exit i, .exit j => i = j
  | .ret, .ret => True
  | _, _ => False
noncomputable def CodePost (P : Program) (vm : Vm) (ρ : Rho) (S : AS) (w : World) (n : Nat) (x : R (Out × AS)) (e : Exit) (a : Act) (w' : World) : Prop :=
  ∃ ex fr S' ρ', x.has (.ex ex fr, S') ∧ relX ex e ∧ Ext ρ S w ρ' S' w' ∧ Sat P ρ' S' w' ∧ FR vm ρ' fr n (fun _ => False) a
noncomputable def relR (ρ : Rho) (rd : Option Nam) (rn : Option Nat) : Prop := match rd, rn with
  | none, none => True
  | some l, some g => ∃ o c, look ρ l = some (.blk g o c)
  | _, _ => False
theorem relR.mono {ρ' : Rho} {rd : Option Nam} {rn : Option Nat} (h : relR ρ rd rn) (hl : Le ρ ρ') : relR ρ' rd rn := by
  cases rd <;> cases rn <;> first | exact h | (obtain ⟨o, c, h⟩ := h; exact ⟨o, c, hl.look h⟩)
structure EvSpec (P : Program) (ev : Ev) : Prop where
  call : ∀ {ρ : Rho} {S : AS} {w : World} {f : FuncId} {args : List AV} {us : List Value}, Sat P ρ S w → concs ρ args = some us → (ev (.call f args) S).ok →
    (callFunc f us.toArray).run P w = .ok (.enter f us.toArray) w ∧ ∀ N, CallsIn Fence.wide N P f us.toArray w (RetPost P ρ S w (ev (.call f args) S))
  code : ∀ {ρ : Rho} {S : AS} {w : World} {c : Code} {f : FuncId} {vm : Vm} {n : Nat} {rd : Option Nam} {rn : Option Nat} {fr : FrA} {a : Act}, Sat P ρ S w → relR ρ rd rn → FR vm ρ fr n (fun _ => False) a → (ev (.code c f vm n rd fr) S).ok →
    ∀ N, c.wpIn (Wf rn) N P (CodePost P vm ρ S w n (ev (.code c f vm n rd fr) S)) a w
  round : ∀ {ρ : Rho} {S : AS} {w : World} {l : Nam} {g o c : Nat} {args : List AV} {us : List Value}, Sat P ρ S w → look ρ l = some (.blk g o c) → concs ρ args = some us → (ev (.round l args) S).ok →
    ∃ fn tmps assign body, (Instr.yield g us.toArray).run P w = .ok (.round g fn tmps assign body) w ∧ ∀ N, RoundIn Fence.wide N P g fn tmps assign body w (RetPost P ρ S w (ev (.round l args) S))

/-! ### One operation -/
theorem step_one {ev : Ev} (he : EvSpec P ev) (hs : Sat P ρ S w) {x : AN} {o : Oper} {a : Act} {rn : Option Nat} (hx : AN.ok P ρ S w ((o.semAt rn a.eval).run P w) x) (hok : (oneN ev S x).ok) {N : Nat} {K : Act → World → Prop} {Q : Exit → Act → World → Prop}
    (hK : ∀ v S' ρ' u w', (oneN ev S x).has (v, S') → Ext ρ S w ρ' S' w' → Sat P ρ' S' w' → conc ρ' v = some u → K (a.put o.dst u) w') : o.wpIn (Wf rn) N P a w K Q := by
  refine ⟨fun _ _ => trivial, ?_⟩
  show o.uponIn (Wf rn) N P a K Q ((o.semAt rn a.eval).run P w)
  generalize (o.semAt rn a.eval).run P w = r at hx
  cases x with
  | no => exact hok.elim
  | get v =>
    obtain ⟨u, h1, rfl⟩ := hx
    exact hK v S ρ u w rfl (Ext.refl _ _ _) hs h1
  | val v S' =>
    obtain ⟨ρ', u, w', h0, h1, h2, h3⟩ := hx
    rcases h0 with rfl | ⟨rfl, rfl⟩
    · exact hK v S' ρ' u w' rfl h1 h2 h3
    · exact hK v S' ρ' undef w' rfl h1 h2 h3
  | pick l =>
    obtain ⟨y, hy, ρ', u, w', rfl, h1, h2, h3⟩ := hx
    exact hK y.1 y.2 ρ' u w' hy h1 h2 h3
  | enter f args =>
    obtain ⟨us, h1, rfl⟩ := hx
    have hok' : (bindR (ev (.call f args) S) fun y => cOut y.1 (fun v => R.one (v, y.2)) fun _ _ => R.no).ok := hok
    obtain ⟨h2, h3⟩ := bindR_ok hok'
    obtain ⟨h4, h5⟩ := he.call hs h1 h2
    rw [h4]
    refine ⟨fun h => (by cases h), (h5 (N - 1)).mono fun e w' hp => ?_⟩
    cases e with
    | returned u =>
      obtain ⟨v, S', ρ', q1, q2, q3, q4⟩ := hp
      exact hK v S' ρ' u w' ((h3 _ q1).2 _ rfl) q2 q3 q4
    | panicked ch => exact hp.elim
    | outgrown => exact hp.elim
  | round l args =>
    obtain ⟨us, g, oo, c, h1, h1', rfl⟩ := hx
    have hok' : (bindR (ev (.round l args) S) fun y => cOut y.1 (fun v => R.one (v, y.2)) fun _ _ => R.no).ok := hok
    obtain ⟨h2, h3⟩ := bindR_ok hok'
    obtain ⟨fn, tmps, assign, body, h4, h5⟩ := he.round hs h1' h1 h2
    rw [h4]
    refine ⟨fun h => (by cases h), RoundIn.mono (F := Wf rn) (h5 (N - 1)) fun e w' hp => ?_⟩
    cases e with
    | returned u =>
      obtain ⟨v, S', ρ', q1, q2, q3, q4⟩ := hp
      exact hK v S' ρ' u w' ((h3 _ q1).2 _ rfl) q2 q3 q4
    | panicked ch => exact hp.elim
    | outgrown => exact hp.elim
variable {cf : Cf} {fn : FuncId}
theorem kOp_ne_defer {o : Oper} {fr : FrA} {ev : Ev} (h : (oneN ev S ((kOp P cf vm fn o).f fr S)).ok) : ∀ c, o.op ≠ .defer c := by
  intro c e
  have : (kOp P cf vm fn o).f fr S = .no := by unfold kOp; rw [e]; rfl
  rw [this] at h
  exact h
/-- Is an operation wanted? -/
theorem wanted_ok {ops : Array Oper} {o : Oper} {fr : FrA} {n : Nat} {X : Nat → Prop} {a : Act} (hf : FR vm ρ fr n X a) (hg : okG n ops o = true) (hX : ∀ j b p d, o.guard = some (j, b) → ops[j]? = some p → p.dst = some d → ¬ X d) :
    (match kWant vm ops o with | none => true | some g => g.f fr) = Region.wanted o (yielded ops a.tmps) := by
  unfold kWant Region.wanted
  cases hgd : o.guard with
  | none => rfl
  | some jb =>
    obtain ⟨j, want⟩ := jb
    unfold okG at hg
    simp only [hgd] at hg ⊢
    unfold yielded
    cases hj : ops[j]? with
    | none => cases want <;> rfl
    | some p =>
      simp only [hj] at hg
      simp only [Option.bind_some]
      cases hd : p.dst with
      | none => cases want <;> rfl
      | some d =>
        simp only [hd] at hg
        have hg' : d < 256 ∨ n ≤ d := by simpa using hg
        simp only [Option.bind_some]
        cases hb : Nat.blt d 256 with
        | false =>
          have : ¬ d < 256 := by intro e; rw [show Nat.blt d 256 = true by simpa using e] at hb; cases hb
          have hn : a.tmps[d]? = none := Array.getElem?_eq_none (by rw [hf.size]; exact hg'.resolve_left this)
          rw [hn]
          cases want <;> rfl
        | true =>
          have hd256 : d < 256 := by simpa using hb
          have hc := hf.tmps d hd256 (hX j want p d hgd hj hd)
          show vBool ((tgF vm d).f fr.t) false (fun b => bEq b want) = _
          rw [Array.getD_eq_getD_getElem?] at hc
          cases ht : a.tmps[d]? with
          | none =>
            rw [ht] at hc
            have : vBool ((tgF vm d).f fr.t) false (fun b => bEq b want) = false := by
              cases hv : (tgF vm d).f fr.t <;> first | rfl | (rw [hv] at hc; simp [conc, undef] at hc)
            rw [this]
            cases want <;> rfl
          | some y =>
            rw [ht] at hc
            simp only [Option.getD_some] at hc
            cases hv : (tgF vm d).f fr.t with
            | bool b =>
              rw [hv] at hc
              cases conc_bool hc
              show bEq b want = _
              rw [bEq_eq]
              cases b <;> cases want <;> rfl
            | _ =>
              have hne : ∀ b, y ≠ .bool b := by
                intro b e
                rw [hv, e] at hc
                first
                  | (simp [conc] at hc; done)
                  | (simp only [conc] at hc; split at hc <;> cases hc; done)
                  | (simp only [conc] at hc; split at hc <;> first | (split at hc <;> cases hc; done) | cases hc)
              cases y <;> first | exact absurd rfl (hne _) | (cases want <;> rfl)
/-- An operation, wanted or not. -/
theorem step_ok {ev : Ev} (he : EvSpec P ev) (hs : Sat P ρ S w) {ops : Array Oper} {o : Oper} {fr : FrA} {n : Nat} {X : Nat → Prop} {a : Act} {rn : Option Nat} (hf : FR vm ρ fr n X a) (hop : okOp n ops o = true)
    (hX : ∀ x ∈ o.op.operands.toList, ∀ i, x = .tmp i → ¬ X i) (hXg : ∀ j b p d, o.guard = some (j, b) → ops[j]? = some p → p.dst = some d → ¬ X d)
    (hok : ((kOne P cf vm fn ops o).f ev fr S).ok) {N : Nat} {K : Act → World → Prop} {Q : Exit → Act → World → Prop}
    (hK : ∀ v S' ρ' u w', ((kOne P cf vm fn ops o).f ev fr S).has (v, S') → Ext ρ S w ρ' S' w' → Sat P ρ' S' w' → conc ρ' v = some u → K (a.put o.dst u) w') :
    if Region.wanted o (yielded ops a.tmps) then o.wpIn (Wf rn) N P a w K Q else (∀ f, o.about P w a.eval = some f → (Wf rn).fn f) ∧ K (a.put o.dst undef) w := by
  simp only [okOp, Bool.and_eq_true] at hop
  have hw := wanted_ok hf hop.2 hXg
  have hopd : ∀ x ∈ o.op.operands.toList, Opd vm P.globals.size ρ fr a.eval x := fun x hx => hf.opd hs x (hX x hx)
  unfold kOne at hok hK
  cases hk : kWant vm ops o with
  | none =>
    rw [hk] at hw hok hK
    rw [← hw]
    simp only [if_true]
    have hsem := Oper.semAt_eq rn a.eval o (kOp_ne_defer hok)
    exact step_one he hs (by rw [hsem]; exact kOp_ok hs cf fn o hopd) hok hK
  | some g =>
    rw [hk] at hw hok hK
    simp only at hw
    rw [← hw]
    cases hgf : g.f fr with
    | true =>
      simp only [hgf, cB_true] at hok hK
      simp only [if_true]
      have hsem := Oper.semAt_eq rn a.eval o (kOp_ne_defer hok)
      exact step_one he hs (by rw [hsem]; exact kOp_ok hs cf fn o hopd) hok hK
    | false =>
      simp only [hgf, cB_false] at hok hK
      simp only [Bool.false_eq_true, if_false]
      exact ⟨fun _ _ => trivial, hK (.tuple []) S ρ undef w rfl (Ext.refl _ _ _) hs (by simp [conc, concs, undef])⟩
/-- A region in its forced order. -/
theorem kOps_ok {ev : Ev} (he : EvSpec P ev) {ops : Array Oper} {n : Nat} {rn : Option Nat} {N : Nat} {Q : Exit → Act → World → Prop} : ∀ (l : List Oper) {ρ : Rho} {S : AS} {w : World} {fr : FrA} {a : Act}, Sat P ρ S w → FR vm ρ fr n (fun _ => False) a →
    ((kOps P cf vm fn n ops l).f ev fr S).ok → (∀ fr' S' ρ' a' w', ((kOps P cf vm fn n ops l).f ev fr S).has (fr', S') → Ext ρ S w ρ' S' w' → Sat P ρ' S' w' → FR vm ρ' fr' n (fun _ => False) a' → Q .normal a' w') → wpListIn (Wf rn) N P ops Q l a w
  | [], ρ, S, w, fr, a, hs, hf, _, hQ => hQ fr S ρ a w rfl (Ext.refl _ _ _) hs hf
  | o :: l, ρ, S, w, fr, a, hs, hf, hok, hQ => by
    unfold kOps at hok hQ
    cases hop : okOp n ops o with
    | false => rw [hop] at hok; exact hok.elim
    | true =>
      rw [hop] at hok hQ
      obtain ⟨h1, h2⟩ := bindR_ok hok
      refine wpListIn_step fun K hKl => ?_
      refine step_ok (rn := rn) (N := N) (Q := Q) he hs hf hop (fun _ _ _ _ h => h) (fun _ _ _ _ _ _ _ h => h) h1 fun v S' ρ' u w' q1 q2 q3 q4 => hKl _ _ ?_
      obtain ⟨h3, h4⟩ := h2 (v, S') q1
      have hd : okD n o.dst = true := by simp only [okOp, Bool.and_eq_true] at hop; exact hop.1
      exact kOps_ok he l q3 ((hf.mono q2.le).put hd q4) h3 fun fr' S'' ρ'' a' w'' r1 r2 r3 r4 => hQ fr' S'' ρ'' a' w'' (h4 _ r1) (q2.trans r2) r3 r4
end
end Go.Proofs.YtfmaapbibmnfgaaGreatDoor.Ev
namespace Go.Proofs.YtfmaapbibmnfgaaGreatDoor.Ev
variable [Vr]
section
variable {P : Program} {ops : Array Oper} {Q : Exit → Act → World → Prop} {rn : Option Nat} {N : Nat}

theorem noDS_spec (h : noDS ops = true) {j : Nat} {o : Oper} (hj : ops[j]? = some o) : (∀ c, o.op ≠ .defer c) ∧ ∀ cs b, o.op ≠ .select cs b := by
  have := Array.all_eq_true_iff_forall_mem.1 h o (Array.mem_of_getElem? hj)
  exact ⟨fun c e => by simp [e] at this, fun cs b e => by simp [e] at this⟩
/-- What an operation that waits to be told of is known to come to: in which worlds. -/
structure Hq where
  i : Nat
  hold : World → Prop
noncomputable def waitsB (ops : Array Oper) (j i : Nat) : Prop := ∃ o, ops[j]? = some o ∧ ∃ e ∈ o.after, Region.binds .any e = true ∧ e.on = i
/-- Every order, what is held being kept until it is waited for. -/
noncomputable def wpH (P : Program) (ops : Array Oper) (Q : Exit → Act → World → Prop) (rn : Option Nat) (N : Nat) : Nat → List Hq → Array Bool → Act → World → Prop
  | 0, _, L, a, w => Region.ready .any ops L = [] ∧ Q .normal a w
  | k + 1, H, L, a, w => (Region.ready .any ops L = [] → Q .normal a w) ∧ ∀ j ∈ Region.ready .any ops L, wpOpIn (Wf rn) N P ops Q j (fun a' w' => (∀ h ∈ H, ¬ waitsB ops j h.i → h.hold w') ∧ ∃ H', (∀ h ∈ H, ¬ waitsB ops j h.i → h ∈ H') ∧ wpH P ops Q rn N k H' (L.setIfInBounds j true) a' w') a w
theorem wpH_any : ∀ (k : Nat) (H : List Hq) (L : Array Bool) (a : Act) (w : World), wpH P ops Q rn N k H L a w → wpAnyIn (Wf rn) N P .any ops Q k L a w
  | 0, _, _, _, _, h => h
  | k + 1, _, _, _, _, h => ⟨h.1, fun j hj => wpOpIn_mono (fun a' w' ⟨_, H', _, h2⟩ => wpH_any k H' _ a' w' h2) (h.2 j hj)⟩
theorem wpH_less : ∀ (k : Nat) {H H' : List Hq} {L : Array Bool} {a : Act} {w : World}, (∀ h ∈ H', h ∈ H) → wpH P ops Q rn N k H L a w → wpH P ops Q rn N k H' L a w
  | 0, _, _, _, _, _, _, h => h
  | _ + 1, _, _, _, _, _, hs, h => ⟨h.1, fun j hj => wpOpIn_mono (fun _ _ ⟨h1, H2, h2, h3⟩ => ⟨fun x hx hn => h1 x (hs x hx) hn, H2, fun x hx hn => h2 x (hs x hx) hn, h3⟩) (h.2 j hj)⟩
/-- One more turn at hand. -/
theorem wpH_more : ∀ (k : Nat) {H : List Hq} {L : Array Bool} {a : Act} {w : World}, wpH P ops Q rn N k H L a w → wpH P ops Q rn N (k + 1) H L a w
  | 0, _, _, _, _, h => ⟨fun _ => h.2, fun j hj => by rw [h.1] at hj; cases hj⟩
  | k + 1, _, _, _, _, h => ⟨h.1, fun j hj => wpOpIn_mono (fun _ _ ⟨h1, H2, h2, h3⟩ => ⟨h1, H2, h2, wpH_more k h3⟩) (h.2 j hj)⟩
noncomputable def SameAt (ops : Array Oper) (oi : Oper) (a a' : Act) : Prop := execOp a'.eval oi = execOp a.eval oi ∧ Region.wanted oi (yielded ops a'.tmps) = Region.wanted oi (yielded ops a.tmps)
theorem wpOpIn_swap {j : Nat} {oi oj : Oper} {v : Value} (hds : noDS ops = true) {i : Nat} (hi : ops[i]? = some oi) (hj : ops[j]? = some oj) (hap : oi.apart ops oj = true) (hQ : ∀ c a w, ¬ Q (.panic c) a w)
    {K : Act → World → Prop} {a : Act} {w : World} (h : wpOpIn (Wf rn) N P ops Q j K (a.put oi.dst v) w) : wpOpIn (Wf rn) N P ops Q j (fun a' w' => SameAt ops oi a a' ∧ K (a'.put oi.dst v) w') a w := by
  obtain ⟨h1, h2, h3⟩ := Oper.apart_spec hap
  obtain ⟨hdi, hsi⟩ := noDS_spec hds hi
  obtain ⟨hdj, hsj⟩ := noDS_spec hds hj
  have keep : ∀ u, SameAt ops oi a (a.put oj.dst u) := fun u => ⟨execOp_put oi hsi a oj.dst u h3, wanted_put oi a oj.dst u h3⟩
  have keepD : ∀ d, SameAt ops oi a ({ a with defers := d :: a.defers } : Act) := fun d => ⟨rfl, rfl⟩
  have keep2 : ∀ d u, SameAt ops oi a (({ a with defers := d :: a.defers } : Act).put oj.dst u) := fun d u =>
    ⟨(execOp_put oi hsi { a with defers := d :: a.defers } oj.dst u h3).trans rfl, (wanted_put oi { a with defers := d :: a.defers } oj.dst u h3).trans rfl⟩
  unfold wpOpIn at *
  simp only [hj] at *
  rw [wanted_put oj a oi.dst v h1] at h
  split
  · rename_i hw
    simp only [hw, if_true] at h
    refine ⟨fun _ _ => trivial, ?_⟩
    have h := h.2
    rw [Oper.semAt_eq _ _ _ hdj, execOp_put oj hsj a oi.dst v h1] at h
    rw [Oper.semAt_eq _ _ _ hdj]
    generalize (execOp a.eval oj).run P w = r at *
    cases r with
    | ok x w' =>
      cases x <;> simp only [Oper.uponIn] at h ⊢
      case value u => exact ⟨keep u, by rw [← Act.put_comm a v u h2]; exact h⟩
      case skip => exact ⟨keep _, by rw [← Act.put_comm a v undef h2]; exact h⟩
      case defer d =>
        refine ⟨keep2 d _, ?_⟩
        rw [← Act.put_comm _ v undef h2, ← Act.put_defers]
        exact h
      case enter f args =>
        refine ⟨h.1, CallsIn.mono h.2 fun e w'' he => ?_⟩
        cases e with
        | returned u => exact ⟨keep u, by rw [← Act.put_comm a v u h2]; exact he⟩
        | panicked c => exact absurd he (hQ _ _ _)
        | outgrown => exact he
      case row row args => exact ⟨h.1, RowsIn.mono h.2 fun u w'' he => ⟨keep u, by rw [← Act.put_comm a v u h2]; exact he⟩⟩
      case round l f tmps assign body =>
        refine ⟨h.1, RoundIn.mono h.2 fun e w'' he => ?_⟩
        cases e with
        | returned u => exact ⟨keep u, by rw [← Act.put_comm a v u h2]; exact he⟩
        | panicked c => exact absurd he (hQ _ _ _)
        | outgrown => exact he
    | halt x w' =>
      cases x <;> simp only [Oper.uponIn] at h ⊢
      case panic u => exact absurd h (hQ _ _ _)
  · rename_i hw
    simp only [hw] at h
    exact ⟨fun _ _ => trivial, keep _, by rw [← Act.put_comm a v undef h2]; exact h.2⟩
noncomputable def FreeAt (ops : Array Oper) (oi : Oper) (i : Nat) (L : Array Bool) : Prop := ∀ j oj, ops[j]? = some oj → j ≠ i → L.getD j true = false → ¬ waitsB ops j i → oi.apart ops oj = true
theorem FreeAt.mono {oi : Oper} {i : Nat} {L : Array Bool} (h : FreeAt ops oi i L) (j : Nat) : FreeAt ops oi i (L.setIfInBounds j true) := fun k ok hk hki hun hw => by
  refine h k ok hk hki ?_ hw
  by_cases e : j = k
  · subst e
    rcases Nat.lt_or_ge j L.size with h' | h'
    · simp [h'] at hun
    · rw [Array.getD_eq_getD_getElem?, Array.getElem?_eq_none (by simpa using h')] at hun; cases hun
  · rw [getD_set_ne true e] at hun; exact hun
theorem free_of {i : Nat} {oi : Oper} {L : Array Bool} (hi : ops[i]? = some oi) (h : Region.free .any ops L i = true) : FreeAt ops oi i L := fun j oj hj hne hun hw =>
  Region.free_spec hi h j oj hj hne hun fun e he hb heq => hw ⟨oj, hj, e, he, hb, heq⟩
theorem not_waits {i j : Nat} {L : Array Bool} (hj : j ∈ Region.ready .any ops L) (hi : L.getD i true = false) : ¬ waitsB ops j i := by
  rintro ⟨o, ho, e, he, hb, heq⟩
  obtain ⟨_, o', ho', hall⟩ := mem_ready.1 hj
  rw [ho] at ho'; cases ho'
  have h1 := hall e he hb
  rw [heq] at h1
  rcases Nat.lt_or_ge i L.size with h' | h'
  · simp [h'] at hi h1; rw [hi] at h1; cases h1
  · simp [Array.getElem?_eq_none h'] at h1
/-- An operation that only reads is taken first. -/
theorem wpH_first (hds : noDS ops = true) (hQ : ∀ c a w, ¬ Q (.panic c) a w) {i : Nat} {oi : Oper} {y : Value} {hold : World → Prop} (hi : ops[i]? = some oi) : ∀ (k : Nat) {H : List Hq} {L : Array Bool} {a : Act} {w : World}, FreeAt ops oi i L → i ∈ Region.ready .any ops L →
    (∀ h ∈ H, h.hold w) → hold w → (∀ w', hold w' → if Region.wanted oi (yielded ops a.tmps) then (execOp a.eval oi).run P w' = .ok (.value y) w' else y = undef) →
    wpH P ops Q rn N k (⟨i, hold⟩ :: H) (L.setIfInBounds i true) (a.put oi.dst y) w → wpH P ops Q rn N (k + 1) H L a w := by
  have hyield : ∀ {a : Act} {w : World} {K : Act → World → Prop}, (if Region.wanted oi (yielded ops a.tmps) then (execOp a.eval oi).run P w = .ok (.value y) w else y = undef) → K (a.put oi.dst y) w → wpOpIn (Wf rn) N P ops Q i K a w := by
    intro a w K hy hK
    unfold wpOpIn
    simp only [hi]
    split
    · rename_i hw
      rw [if_pos hw] at hy
      refine ⟨fun _ _ => trivial, ?_⟩
      rw [Oper.semAt_eq _ _ _ (noDS_spec hds hi).1, hy]
      exact hK
    · rename_i hw
      rw [if_neg hw] at hy
      subst hy
      exact ⟨fun _ _ => trivial, hK⟩
  intro k
  induction k with
  | zero =>
    intro H L a w hfree hr hH hh hy hrest
    refine ⟨fun h => (by rw [h] at hr; cases hr), fun j hj => ?_⟩
    by_cases hji : j = i
    · subst hji; exact hyield (hy w hh) ⟨fun h hm _ => hH h hm, ⟨j, hold⟩ :: H, fun h hm _ => by simp [hm], hrest⟩
    · have := ready_mono hj hji
      rw [hrest.1] at this
      cases this
  | succ k ih =>
    intro H L a w hfree hr hH hh hy hrest
    refine ⟨fun h => (by rw [h] at hr; cases hr), fun j hj => ?_⟩
    by_cases hji : j = i
    · subst hji; exact hyield (hy w hh) ⟨fun h hm _ => hH h hm, ⟨j, hold⟩ :: H, fun h hm _ => by simp [hm], hrest⟩
    · obtain ⟨hjun, oj, hoj, _⟩ := mem_ready.1 hj
      have hnot := not_waits hj (mem_ready.1 hr).1
      have h1 := wpOpIn_swap hds hi hoj (hfree j oj hoj hji hjun hnot) hQ (hrest.2 j (ready_mono hj hji))
      refine wpOpIn_mono (fun a' w' ⟨⟨s1, s2⟩, q1, H2, q2, q3⟩ => ?_) h1
      have hcl : ∀ h : Hq, Decidable (¬ waitsB ops j h.i) := fun _ => Classical.propDecidable _
      have hq1 : ∀ h ∈ H, ¬ waitsB ops j h.i → h.hold w' := fun h hm hn => q1 h (by simp [hm]) hn
      refine ⟨hq1, H.filter (fun h => decide (¬ waitsB ops j h.i)), fun h hm hn => List.mem_filter.2 ⟨hm, by simpa using hn⟩, ?_⟩
      refine ih (hfree.mono j) (ready_mono hr (Ne.symm hji)) (fun h hm => ?_) (q1 ⟨i, hold⟩ (by simp) hnot) (fun w'' hw'' => ?_) ?_
      · obtain ⟨m1, m2⟩ := List.mem_filter.1 hm
        exact hq1 h m1 (by simpa using m2)
      · rw [s2, s1]; exact hy w'' hw''
      · rw [Array.setIfInBounds_comm _ _ hji]
        refine wpH_less k (fun h hm => ?_) q3
        rcases List.mem_cons.1 hm with rfl | hm
        · exact q2 _ (by simp) hnot
        · obtain ⟨m1, m2⟩ := List.mem_filter.1 hm
          exact q2 h (by simp [m1]) (by simpa using m2)
end
end Go.Proofs.YtfmaapbibmnfgaaGreatDoor.Ev
namespace Go.Proofs.YtfmaapbibmnfgaaGreatDoor.Ev
variable [Vr]
section
variable {P : Program} {ops : Array Oper}

theorem bitA_eq (X i : Nat) : bitA X i = X.testBit i := by
  unfold bitA
  show Nat.beq (X >>> i &&& 1) 1 = X.testBit i
  rw [Nat.testBit, Nat.and_comm 1]
  have h : X >>> i &&& 1 = 0 ∨ X >>> i &&& 1 = 1 := by rw [Nat.and_one_is_mod]; omega
  rcases h with h | h <;> rw [h] <;> rfl
theorem onB_bit (i j : Nat) : (onB i).testBit j = decide (i = j) := by
  unfold onB
  show (1 <<< i).testBit j = _
  rw [Nat.one_shiftLeft, Nat.testBit_two_pow]
theorem setB_bit (X i j : Nat) : (setB X i).testBit j = (X.testBit j || decide (i = j)) := by
  unfold setB
  show (X ||| onB i).testBit j = _
  rw [Nat.testBit_or, onB_bit]
theorem offB_bit (X i j : Nat) : (Nat.xor X (onB i)).testBit j = (X.testBit j ^^ decide (i = j)) := by
  show (X ^^^ onB i).testBit j = _
  rw [Nat.testBit_xor, onB_bit]
theorem depL_bit : ∀ (l : List Edge) (j : Nat), (depL l).testBit j = l.any fun e => Region.binds .any e && e.on == j
  | [], j => by show (0 : Nat).testBit j = _; simp
  | e :: l, j => by
    show (cB (Region.binds .any e) (Nat.lor (depL l) (onB e.on)) (depL l)).testBit j = _
    cases h : Region.binds .any e with
    | false => simp only [cB_false, List.any_cons, h, Bool.false_and, Bool.false_or]; exact depL_bit l j
    | true =>
      show (depL l ||| onB e.on).testBit j = _
      rw [Nat.testBit_or, onB_bit, depL_bit l j, List.any_cons, h, Bool.true_and, Bool.or_comm]
      congr 1
theorem rdL_bit : ∀ (l : List Tmp) (j : Nat), (rdL l).testBit j = l.contains j
  | [], j => by show (0 : Nat).testBit j = _; simp
  | d :: l, j => by
    show (rdL l ||| onB d).testBit j = _
    rw [Nat.testBit_or, onB_bit, rdL_bit l j, List.contains_cons, Bool.or_comm]
    congr 1
    by_cases e : d = j
    · subst e; simp
    · have e' : ¬ j = d := fun x => e x.symm
      simp [e, e']
theorem and_sub {a b : Nat} : Nat.beq (Nat.land a b) a = true ↔ ∀ j, a.testBit j = true → b.testBit j = true := by
  rw [Nat.beq_eq]
  constructor
  · intro h j hj
    have : (a &&& b).testBit j = a.testBit j := congrArg (·.testBit j) h
    rw [Nat.testBit_and, hj] at this
    simpa using this
  · intro h
    refine Nat.eq_of_testBit_eq fun j => ?_
    show (a &&& b).testBit j = _
    rw [Nat.testBit_and]
    cases hj : a.testBit j with
    | false => rfl
    | true => rw [h j hj]; rfl
theorem and_zero {a b : Nat} : Nat.beq (Nat.land a b) 0 = true ↔ ∀ j, a.testBit j = true → b.testBit j = false := by
  rw [Nat.beq_eq]
  constructor
  · intro h j hj
    have : (a &&& b).testBit j = (0 : Nat).testBit j := congrArg (·.testBit j) h
    rw [Nat.testBit_and, hj] at this
    simpa using this
  · intro h
    refine Nat.eq_of_testBit_eq fun j => ?_
    show (a &&& b).testBit j = _
    rw [Nat.testBit_and]
    cases hj : a.testBit j with
    | false => simp
    | true => rw [h j hj]; simp
theorem mks_mem : ∀ (l : List Oper) (i : Nat) (m : Mk), m ∈ mks ops l i ↔ ∃ k o, l[k]? = some o ∧ m = mkOf ops (i + k) o
  | [], i, m => by simp [mks]
  | o :: l, i, m => by
    simp only [mks, List.mem_cons, mks_mem l (i + 1) m]
    constructor
    · rintro (rfl | ⟨k, o', h, rfl⟩)
      · exact ⟨0, o, rfl, rfl⟩
      · exact ⟨k + 1, o', h, by rw [Nat.add_assoc, Nat.add_comm 1 k]⟩
    · rintro ⟨k, o', h, rfl⟩
      cases k with
      | zero => left; cases h; rfl
      | succ k => right; exact ⟨k, o', h, by rw [Nat.add_assoc, Nat.add_comm 1 k]⟩
theorem mks_all {f : Mk → Bool} {ms : List Mk} : itL true (fun m _ r => cB (f m) r false) ms = true ↔ ∀ m ∈ ms, f m = true := by
  induction ms with
  | nil => simp
  | cons m l ih =>
    show cB (f m) (itL true (fun m _ r => cB (f m) r false) l) false = true ↔ _
    cases h : f m with
    | false => simp [h]
    | true => simp [h, ih]
/-- The operation of that number. -/
theorem mks_at {m : Mk} (hm : m ∈ mks ops ops.toList 0) : ∃ o, ops[m.i]? = some o ∧ m = mkOf ops m.i o := by
  obtain ⟨k, o, h1, h2⟩ := (mks_mem _ _ _).1 hm
  rw [Nat.zero_add] at h2
  have : m.i = k := by rw [h2]; rfl
  subst this
  exact ⟨o, by rw [← Array.getElem?_toList]; exact h1, h2⟩
theorem mks_of {j : Nat} {o : Oper} (h : ops[j]? = some o) : mkOf ops j o ∈ mks ops ops.toList 0 :=
  (mks_mem _ _ _).2 ⟨j, o, by rw [Array.getElem?_toList]; exact h, by rw [Nat.zero_add]⟩
/-- A set of operations, as a mask and as an array. -/
structure Rep (ops : Array Oper) (X : Nat) (A : Array Bool) : Prop where
  size : A.size = ops.size
  bit : ∀ j, X.testBit j = A.getD j false
theorem Rep.getD {X : Nat} {A : Array Bool} (h : Rep ops X A) {j : Nat} (hj : j < ops.size) (d : Bool) : A.getD j d = X.testBit j := by
  rw [h.bit, Array.getD_eq_getD_getElem?, Array.getD_eq_getD_getElem?, Array.getElem?_eq_getElem (by rw [h.size]; exact hj)]
  rfl
theorem Rep.on {X : Nat} {A : Array Bool} (h : Rep ops X A) {i : Nat} (hi : i < ops.size) : Rep ops (setB X i) (A.setIfInBounds i true) := by
  refine ⟨by rw [Array.size_setIfInBounds]; exact h.size, fun j => ?_⟩
  rw [setB_bit, h.bit]
  rw [Array.getD_eq_getD_getElem?, Array.getD_eq_getD_getElem?, Array.getElem?_setIfInBounds]
  by_cases e : i = j
  · subst e; simp [h.size, hi]
  · simp [e]
theorem Rep.off {X : Nat} {A : Array Bool} (h : Rep ops X A) {i : Nat} (hi : i < ops.size) (hb : X.testBit i = true) : Rep ops (Nat.xor X (onB i)) (A.setIfInBounds i false) := by
  refine ⟨by rw [Array.size_setIfInBounds]; exact h.size, fun j => ?_⟩
  rw [offB_bit, Array.getD_eq_getD_getElem?, Array.getElem?_setIfInBounds]
  by_cases e : i = j
  · subst e; simp [h.size, hi, hb]
  · simp [e, h.bit]
theorem Rep.none : Rep ops 0 (noneListed ops) := by
  refine ⟨by simp [noneListed], fun j => ?_⟩
  simp only [noneListed, Nat.zero_testBit, Array.getD_eq_getD_getElem?, Array.getElem?_replicate]
  split <;> rfl
theorem Rep.inj {X : Nat} {A B : Array Bool} (h : Rep ops X A) (h' : Rep ops X B) : A = B := by
  refine Array.ext (by rw [h.size, h'.size]) fun j h1 h2 => ?_
  have e1 := h.bit j
  have e2 := h'.bit j
  rw [Array.getD_eq_getD_getElem?, Array.getElem?_eq_getElem h1] at e1
  rw [Array.getD_eq_getD_getElem?, Array.getElem?_eq_getElem h2] at e2
  rw [e1] at e2; exact e2
theorem rdyM_eq {X : Nat} {A : Array Bool} (h : Rep ops X A) {j : Nat} {o : Oper} (hj : ops[j]? = some o) :
    rdyM (mkOf ops j o) X = (!A.getD j true && ((ops[j]?).map (·.after.all fun e => !Region.binds .any e || A.getD e.on false)).getD false) := by
  have hlt : j < ops.size := (Array.getElem?_eq_some_iff.1 hj).1
  rw [h.getD hlt true, hj]
  show cB (bNot (bitA X j)) (Nat.beq (Nat.land (depL o.after.toList) X) (depL o.after.toList)) false = _
  rw [bitA_eq]
  have : bNot (X.testBit j) = !X.testBit j := by cases X.testBit j <;> rfl
  rw [this]
  have e : Nat.beq (Nat.land (depL o.after.toList) X) (depL o.after.toList) = o.after.all fun e => !Region.binds .any e || A.getD e.on false := by
    rw [Bool.eq_iff_iff, and_sub, Array.all_eq_true_iff_forall_mem]
    constructor
    · intro h1 e he
      cases hb : Region.binds .any e with
      | false => rfl
      | true =>
        have := h1 e.on (by rw [depL_bit, List.any_eq_true]; exact ⟨e, by simpa using he, by simp [hb]⟩)
        rw [← h.bit, this]; rfl
    · intro h1 k hk
      rw [depL_bit, List.any_eq_true] at hk
      obtain ⟨e, he, hb⟩ := hk
      simp only [Bool.and_eq_true, beq_iff_eq] at hb
      have := h1 e (by simpa using he)
      rw [hb.1, ← h.bit, hb.2] at this
      simpa using this
  rw [e]
  cases X.testBit j <;> rfl
theorem ready_mem {X : Nat} {A : Array Bool} (h : Rep ops X A) {j : Nat} {o : Oper} (hj : ops[j]? = some o) : j ∈ Region.ready .any ops A ↔ rdyM (mkOf ops j o) X = true := by
  rw [rdyM_eq h hj, Region.ready, List.mem_filter, List.mem_range]
  exact ⟨fun x => x.2, fun x => ⟨(Array.getElem?_eq_some_iff.1 hj).1, x⟩⟩
theorem rdyI_aux {i X : Nat} : ∀ {ms : List Mk}, itL false (fun m _ r => cB (Nat.beq m.i i) (rdyM m X) r) ms = true → ∃ m ∈ ms, m.i = i ∧ rdyM m X = true
  | [], h => by cases h
  | m :: l, h => by
    have h' : cB (Nat.beq m.i i) (rdyM m X) (itL false (fun m _ r => cB (Nat.beq m.i i) (rdyM m X) r) l) = true := h
    cases hb : Nat.beq m.i i with
    | true => rw [hb] at h'; exact ⟨m, by simp, Nat.eq_of_beq_eq_true hb, h'⟩
    | false =>
      rw [hb] at h'
      obtain ⟨m', h1, h2⟩ := rdyI_aux (ms := l) h'
      exact ⟨m', by simp [h1], h2⟩
theorem rdyI_ok {i X : Nat} {A : Array Bool} (h : Rep ops X A) (hr : rdyI (mks ops ops.toList 0) i X = true) : ∃ o, ops[i]? = some o ∧ rdyM (mkOf ops i o) X = true ∧ i ∈ Region.ready .any ops A := by
  obtain ⟨m, hm, rfl, h2⟩ := rdyI_aux hr
  obtain ⟨o, h3, h4⟩ := mks_at hm
  rw [h4] at h2
  exact ⟨o, h3, h2, (ready_mem h h3).2 h2⟩
theorem filter_range_one {n i : Nat} {p : Nat → Bool} (hi : i < n) (h : ∀ j, j < n → p j = decide (j = i)) : (List.range n).filter p = [i] := by
  have : (List.range n).filter p = (List.range n).filter (fun j => decide (j = i)) := List.filter_congr fun j hj => h j (List.mem_range.1 hj)
  rw [this]
  clear this h p
  induction n with
  | zero => omega
  | succ n ih =>
    rw [List.range_succ, List.filter_append]
    by_cases e : i = n
    · subst e
      have : (List.range i).filter (fun j => decide (j = i)) = [] := by
        rw [List.filter_eq_nil_iff]; intro j hj; simp at hj ⊢; omega
      simp [this]
    · rw [ih (by omega)]
      have : ¬ n = i := fun x => e x.symm
      simp [this]
theorem onlyM_ok {i X : Nat} {A : Array Bool} (h : Rep ops X A) (hi : i < ops.size) (ho : onlyM (mks ops ops.toList 0) i X = true) : Region.ready .any ops A = [i] := by
  have ha := (mks_all (f := fun m => bEq (Nat.beq m.i i) (rdyM m X))).1 ho
  refine filter_range_one hi fun j hj => ?_
  have hg : ops[j]? = some ops[j] := Array.getElem?_eq_getElem hj
  have := ha _ (mks_of hg)
  rw [← rdyM_eq h hg]
  have e : (mkOf ops j ops[j]).i = j := rfl
  rw [e] at this
  cases hb : Nat.beq j i with
  | true =>
    rw [hb] at this
    have hji := Nat.eq_of_beq_eq_true hb
    rw [show rdyM (mkOf ops j ops[j]) X = true from this]
    simp [hji]
  | false =>
    rw [hb] at this
    have hji := Nat.ne_of_beq_eq_false hb
    have h2 : bNot (rdyM (mkOf ops j ops[j]) X) = true := this
    cases hr : rdyM (mkOf ops j ops[j]) X with
    | true => rw [hr] at h2; cases h2
    | false => simp [hji]
theorem noneM_ok {X : Nat} {A : Array Bool} (h : Rep ops X A) (ho : noneM (mks ops ops.toList 0) X = true) : Region.ready .any ops A = [] := by
  have ha : ∀ m ∈ mks ops ops.toList 0, bNot (rdyM m X) = true := (mks_all (f := fun m => bNot (rdyM m X))).1 (by
    have e : (fun (m : Mk) (_ : List Mk) (r : Bool) => cB (bNot (rdyM m X)) r false) = fun m _ r => cB (rdyM m X) false r := by
      funext m _ r; cases rdyM m X <;> rfl
    rw [e]; exact ho)
  rw [List.eq_nil_iff_forall_not_mem]
  intro j hj
  have hlt : j < ops.size := by rw [Region.ready, List.mem_filter, List.mem_range] at hj; exact hj.1
  have hg : ops[j]? = some ops[j] := Array.getElem?_eq_getElem hlt
  rw [ready_mem h hg] at hj
  have := ha _ (mks_of hg)
  rw [hj] at this; cases this
theorem apartM_ok {i j : Nat} {x y : Oper} (h : apartM (mkOf ops i x) (mkOf ops j y) = true) : x.apart ops y = true ∧ y.apart ops x = true := by
  have h1 : Nat.beq (Nat.land (cO x.dst 0 onB) (Nat.lor (rdL (y.looksAt ops)) (cO y.dst 0 onB))) 0 = true ∧ Nat.beq (Nat.land (cO y.dst 0 onB) (rdL (x.looksAt ops))) 0 = true := by
    have h' : cB (Nat.beq (Nat.land (cO x.dst 0 onB) (Nat.lor (rdL (y.looksAt ops)) (cO y.dst 0 onB))) 0) (Nat.beq (Nat.land (cO y.dst 0 onB) (rdL (x.looksAt ops))) 0) false = true := h
    cases hb : Nat.beq (Nat.land (cO x.dst 0 onB) (Nat.lor (rdL (y.looksAt ops)) (cO y.dst 0 onB))) 0 with
    | true => rw [hb] at h'; exact ⟨rfl, h'⟩
    | false => rw [hb] at h'; cases h'
  obtain ⟨h1, h2⟩ := h1
  rw [and_zero] at h1 h2
  have hx : ∀ d, x.dst = some d → (y.looksAt ops).contains d = false ∧ y.dst ≠ some d := fun d hd => by
    have h3 := h1 d (by rw [hd]; show (onB d).testBit d = true; rw [onB_bit]; simp)
    have h4 : (rdL (y.looksAt ops) ||| cO y.dst 0 onB).testBit d = false := h3
    rw [Nat.testBit_or, rdL_bit, Bool.or_eq_false_iff] at h4
    refine ⟨h4.1, fun e => ?_⟩
    have h5 := h4.2
    rw [e] at h5
    have h6 : (onB d).testBit d = false := h5
    rw [onB_bit] at h6; simp at h6
  have hy : ∀ d, y.dst = some d → (x.looksAt ops).contains d = false := fun d hd => by
    have h3 := h2 d (by rw [hd]; show (onB d).testBit d = true; rw [onB_bit]; simp)
    rw [rdL_bit] at h3; exact h3
  constructor
  · unfold Oper.apart
    rw [Bool.and_eq_true]
    constructor
    · cases hd : x.dst with
      | none => rfl
      | some d => obtain ⟨k1, k2⟩ := hx d hd; simp only [k1, Bool.not_false, Bool.true_and, bne_iff_ne, ne_eq]; exact k2
    · cases hd : y.dst with
      | none => rfl
      | some d => simp only [hy d hd, Bool.not_false]
  · unfold Oper.apart
    rw [Bool.and_eq_true]
    constructor
    · cases hd : y.dst with
      | none => rfl
      | some d =>
        simp only [hy d hd, Bool.not_false, Bool.true_and, bne_iff_ne, ne_eq]
        exact fun e => (hx d e).2 hd
    · cases hd : x.dst with
      | none => rfl
      | some d => simp only [(hx d hd).1, Bool.not_false]
theorem pairs_aux : ∀ {ms : List Mk}, pairsM ms = true → ∀ a b : Mk, [a, b].Sublist ms → apartM a b = true ∨ b.dep.testBit a.i = true ∨ a.dep.testBit b.i = true
  | [], _, a, b, h => by cases h
  | m :: l, h, a, b, hs => by
    have h' : cB (itL true (fun k _ q => cB (bOr (apartM m k) (bOr (bitA k.dep m.i) (bitA m.dep k.i))) q false) l) (pairsM l) false = true := h
    cases hb : itL true (fun k _ q => cB (bOr (apartM m k) (bOr (bitA k.dep m.i) (bitA m.dep k.i))) q false) l with
    | false => rw [hb] at h'; cases h'
    | true =>
      rw [hb] at h'
      cases hs with
      | cons _ hs => exact pairs_aux (ms := l) h' a b hs
      | cons_cons _ hs =>
        have hbl : b ∈ l := List.singleton_sublist.1 hs
        have := (mks_all (f := fun k => bOr (apartM m k) (bOr (bitA k.dep m.i) (bitA m.dep k.i)))).1 hb b hbl
        have h3 : cB (apartM m b) true (cB (bitA b.dep m.i) true (bitA m.dep b.i)) = true := this
        rw [bitA_eq, bitA_eq] at h3
        cases h4 : apartM m b with
        | true => exact .inl rfl
        | false =>
          rw [h4] at h3
          cases h5 : b.dep.testBit m.i with
          | true => exact .inr (.inl rfl)
          | false => rw [h5] at h3; exact .inr (.inr h3)
theorem mks_sub (l : List Oper) : ∀ (k i j : Nat) (x y : Oper), i < j → l[i]? = some x → l[j]? = some y → [mkOf ops (k + i) x, mkOf ops (k + j) y].Sublist (mks ops l k) := by
  induction l with
  | nil => intro k i j x y _ h _; simp at h
  | cons o l ih =>
    intro k i j x y h h1 h2
    cases j with
    | zero => omega
    | succ j =>
      rw [List.getElem?_cons_succ] at h2
      have e : mks ops (o :: l) k = mkOf ops k o :: mks ops l (k + 1) := rfl
      rw [e]
      cases i with
      | zero =>
        rw [List.getElem?_cons_zero] at h1
        cases h1
        exact List.Sublist.cons_cons _ (List.singleton_sublist.2 ((mks_mem _ _ _).2 ⟨j, y, h2, by rw [Nat.add_assoc, Nat.add_comm 1 j]⟩))
      | succ i =>
        rw [List.getElem?_cons_succ] at h1
        have := ih (k + 1) i j x y (by omega) h1 h2
        rw [Nat.add_assoc, Nat.add_comm 1 i, Nat.add_assoc, Nat.add_comm 1 j] at this
        exact List.Sublist.cons _ this
theorem free_ok (hp : pairsM (mks ops ops.toList 0) = true) {D : Nat} {A : Array Bool} (h : Rep ops D A) {i : Nat} (hr : i ∈ Region.ready .any ops A) : Region.free .any ops A i = true := by
  have hi : i < ops.size := by rw [Region.ready, List.mem_filter, List.mem_range] at hr; exact hr.1
  have hgi : ops[i]? = some ops[i] := Array.getElem?_eq_getElem hi
  rw [ready_mem h hgi] at hr
  have hsub : ∀ k, (depL ops[i].after.toList).testBit k = true → D.testBit k = true := by
    have h1 : cB (bNot (bitA D i)) (Nat.beq (Nat.land (depL ops[i].after.toList) D) (depL ops[i].after.toList)) false = true := hr
    cases hb : bNot (bitA D i) with
    | false => rw [hb] at h1; cases h1
    | true => rw [hb] at h1; exact and_sub.1 h1
  unfold Region.free
  rw [hgi]
  simp only [List.all_eq_true, List.mem_range]
  intro j hj
  have hgj : ops[j]? = some ops[j] := Array.getElem?_eq_getElem hj
  rw [hgj]
  by_cases e : j = i
  · simp [e]
  · have hne : (j == i) = false := by simpa using e
    rw [hne, Bool.false_or]
    cases hd : A.getD j true with
    | true => rfl
    | false =>
      rw [Bool.false_or]
      rw [h.getD hj] at hd
      have key : apartM (mkOf ops i ops[i]) (mkOf ops j ops[j]) = true ∨ apartM (mkOf ops j ops[j]) (mkOf ops i ops[i]) = true ∨ (depL ops[j].after.toList).testBit i = true ∨ (depL ops[i].after.toList).testBit j = true := by
        rcases Nat.lt_or_gt_of_ne e with hlt | hlt
        · have := pairs_aux hp _ _ (mks_sub ops.toList 0 j i _ _ hlt (by rw [Array.getElem?_toList]; exact hgj) (by rw [Array.getElem?_toList]; exact hgi))
          rw [Nat.zero_add, Nat.zero_add] at this
          rcases this with h1 | h1 | h1
          · exact .inr (.inl h1)
          · exact .inr (.inr (.inr h1))
          · exact .inr (.inr (.inl h1))
        · have := pairs_aux hp _ _ (mks_sub ops.toList 0 i j _ _ hlt (by rw [Array.getElem?_toList]; exact hgi) (by rw [Array.getElem?_toList]; exact hgj))
          rw [Nat.zero_add, Nat.zero_add] at this
          rcases this with h1 | h1 | h1
          · exact .inl h1
          · exact .inr (.inr (.inl h1))
          · exact .inr (.inr (.inr h1))
      rcases key with k | k | k | k
      · simp [(apartM_ok k).1]
      · simp [(apartM_ok k).2]
      · rw [depL_bit, List.any_eq_true] at k
        obtain ⟨x, hx, hx2⟩ := k
        rw [Bool.or_eq_true]; left
        rw [Array.any_eq_true']
        exact ⟨x, by simpa using hx, hx2⟩
      · rw [hsub j k] at hd; cases hd
theorem cB3 {a b : Bool} (h : cB a b false = true) : a = true ∧ b = true := by
  cases a with
  | false => cases h
  | true => exact ⟨rfl, h⟩
theorem okPlanM_ok (hp : pairsM (mks ops ops.toList 0) = true) : ∀ (p : Plan) {D L : Nat} {A B : Array Bool}, Rep ops D A → Rep ops L B → okPlanM ops (mks ops ops.toList 0) p D L = true → okPlan ops p A B = true
  | .done, D, L, A, B, hD, hL, h => by
    obtain ⟨h1, h2⟩ := cB3 (show cB (Nat.beq D L) (noneM (mks ops ops.toList 0) L) false = true from h)
    have : D = L := Nat.eq_of_beq_eq_true h1
    subst this
    simp only [okPlan, hD.inj hL, noneM_ok hL h2, decide_true, Bool.and_self]
  | .flt i p, D, L, A, B, hD, hL, h => by
    obtain ⟨h1, h2⟩ := cB3 (show cB (rdyI (mks ops ops.toList 0) i L) (cB (rdyI (mks ops ops.toList 0) i D) (okPlanM ops (mks ops ops.toList 0) p (setB D i) (setB L i)) false) false = true from h)
    obtain ⟨h2, h3⟩ := cB3 h2
    obtain ⟨o, k1, _, k2⟩ := rdyI_ok hL h1
    obtain ⟨_, _, _, k3⟩ := rdyI_ok hD h2
    have hi : i < ops.size := (Array.getElem?_eq_some_iff.1 k1).1
    simp only [okPlan, Bool.and_eq_true, List.contains_iff_mem]
    exact ⟨⟨⟨k2, k3⟩, free_ok hp hD k3⟩, okPlanM_ok hp p (hD.on hi) (hL.on hi) h3⟩
  | .prep i p, D, L, A, B, hD, hL, h => by
    obtain ⟨h1, h2⟩ := cB3 (show cB (rdyI (mks ops ops.toList 0) i L) (cB (rdyI (mks ops ops.toList 0) i D) (cB (lateAt ops i) (okPlanM ops (mks ops ops.toList 0) p D (setB L i)) false) false) false = true from h)
    obtain ⟨h2, h3⟩ := cB3 h2
    obtain ⟨h3, h4⟩ := cB3 h3
    obtain ⟨o, k1, _, k2⟩ := rdyI_ok hL h1
    obtain ⟨_, _, _, k3⟩ := rdyI_ok hD h2
    have hi : i < ops.size := (Array.getElem?_eq_some_iff.1 k1).1
    simp only [okPlan, Bool.and_eq_true, List.contains_iff_mem]
    exact ⟨⟨⟨⟨k2, k3⟩, free_ok hp hD k3⟩, h3⟩, okPlanM_ok hp p hD (hL.on hi) h4⟩
  | .bind i p, D, L, A, B, hD, hL, h => by
    obtain ⟨h1, h2⟩ := cB3 (show cB (lateAt ops i) (cB (bAnd (bNot (bitA D i)) (bitA L i)) (cB (bAnd (Nat.blt i ops.size) (onlyM (mks ops ops.toList 0) i (Nat.xor L (onB i)))) (okPlanM ops (mks ops ops.toList 0) p (setB D i) L) false) false) false = true from h)
    obtain ⟨h2, h3⟩ := cB3 h2
    obtain ⟨h3, h4⟩ := cB3 h3
    obtain ⟨h5, h6⟩ := cB3 (show cB (bNot (bitA D i)) (bitA L i) false = true from h2)
    obtain ⟨h7, h8⟩ := cB3 (show cB (Nat.blt i ops.size) (onlyM (mks ops ops.toList 0) i (Nat.xor L (onB i))) false = true from h3)
    have hi : i < ops.size := by simpa using h7
    rw [bitA_eq] at h5 h6
    have h5' : D.testBit i = false := by cases hb : D.testBit i with
      | true => rw [hb] at h5; cases h5
      | false => rfl
    have hoff := hL.off hi h6
    simp only [okPlan, Bool.and_eq_true, decide_eq_true_eq]
    refine ⟨⟨⟨⟨h1, ?_⟩, ?_⟩, onlyM_ok hoff hi h8⟩, okPlanM_ok hp p (hD.on hi) hL h4⟩
    · rw [hD.getD hi, h5']; rfl
    · rw [hL.getD hi, h6]
  | .eff i p, D, L, A, B, hD, hL, h => by
    obtain ⟨h1, h2⟩ := cB3 (show cB (rdyI (mks ops ops.toList 0) i L) (cB (rdyI (mks ops ops.toList 0) i D) (cB (onlyM (mks ops ops.toList 0) i L) (okPlanM ops (mks ops ops.toList 0) p (setB D i) (setB L i)) false) false) false = true from h)
    obtain ⟨h2, h3⟩ := cB3 h2
    obtain ⟨h3, h4⟩ := cB3 h3
    obtain ⟨o, k1, _, k2⟩ := rdyI_ok hL h1
    obtain ⟨_, _, _, k3⟩ := rdyI_ok hD h2
    have hi : i < ops.size := (Array.getElem?_eq_some_iff.1 k1).1
    simp only [okPlan, Bool.and_eq_true, decide_eq_true_eq, List.contains_iff_mem]
    exact ⟨⟨onlyM_ok hL hi h3, k3⟩, okPlanM_ok hp p (hD.on hi) (hL.on hi) h4⟩
theorem okPlanF_ok {p : Plan} (h : okPlanF ops (mks ops ops.toList 0) p = true) : okPlan ops p (noneListed ops) (noneListed ops) = true := by
  obtain ⟨h1, h2⟩ := cB3 (show cB (pairsM (mks ops ops.toList 0)) (okPlanM ops (mks ops ops.toList 0) p 0 0) false = true from h)
  exact okPlanM_ok h1 p Rep.none Rep.none h2
end
end Go.Proofs.YtfmaapbibmnfgaaGreatDoor.Ev
