/- A run of a program on abstract memory: operations. -/
import Derived.Test.YtfnjojdiiklleaaGreatEvVa
namespace Go.Proofs.YtfnjojdiiklleaaGreat.Ev
section
variable {P : Program} {vm : Vm} {ρ : Rho} {S : AS} {w : World}

/-- What an operation comes to. -/
noncomputable def AN.ok (P : Program) (ρ : Rho) (S : AS) (w : World) (r : Result Next) : AN → Prop
  | .no => True
  | .get v => ∃ u, conc ρ v = some u ∧ r = .ok (.value u) w
  | .val v S' => ∃ ρ' u w', (r = .ok (.value u) w' ∨ (r = .ok .skip w' ∧ u = undef)) ∧ Ext ρ S w ρ' S' w' ∧ Sat P ρ' S' w' ∧ conc ρ' v = some u
  | .pick l => ∃ x, x ∈ l ∧ ∃ ρ' u w', r = .ok (.value u) w' ∧ Ext ρ S w ρ' x.2 w' ∧ Sat P ρ' x.2 w' ∧ conc ρ' x.1 = some u
  | .enter f args => ∃ us, concs ρ args = some us ∧ r = (callFunc f us.toArray).run P w
  | .round l args => ∃ us g o c, concs ρ args = some us ∧ look ρ l = some (.blk g o c) ∧ r = (Instr.yield g us.toArray).run P w
theorem AN.okV.lift {r : Result Value} {x : AN} (h : AN.okV P ρ S w r x) {r' : Result Next} (hr : r' = r.andThen fun u w' => .ok (.value u) w') : AN.ok P ρ S w r' x := by
  subst hr
  cases x with
  | no => exact trivial
  | get v => obtain ⟨u, h1, rfl⟩ := h; exact ⟨u, h1, rfl⟩
  | val v S' => obtain ⟨ρ', u, w', rfl, h1, h2, h3⟩ := h; exact ⟨ρ', u, w', .inl rfl, h1, h2, h3⟩
  | pick l => obtain ⟨y, hy, ρ', u, w', rfl, h1, h2, h3⟩ := h; exact ⟨y, hy, ρ', u, w', rfl, h1, h2, h3⟩
  | enter f args => exact h.elim
  | round l args => exact h.elim
theorem AN.okU.lift {r : Result Unit} {x : AN} (h : AN.okU P ρ S w r x) {r' : Result Next} (hr : r' = r.andThen fun _ w' => .ok .skip w') : AN.ok P ρ S w r' x := by
  subst hr
  cases x with
  | no => exact trivial
  | val v S' => obtain ⟨rfl, ρ', w', rfl, h1, h2⟩ := h; exact ⟨ρ', undef, w', .inr ⟨rfl, rfl⟩, h1, h2, by simp [conc, concs, undef]⟩
  | get v => exact h.elim
  | pick l => exact h.elim
  | enter f args => exact h.elim
  | round l args => exact h.elim
variable {η : Operand → Value} {fr : FrA}
theorem cXO_ok {x : Option Operand} (h : ∀ y, x = some y → Opd vm P.globals.size ρ fr η y) (hk : okO P.globals.size x = true) : OptC ρ ((cXO vm x).f fr) (x.map η) := by
  cases x with
  | none => exact trivial
  | some y => exact h y rfl hk
theorem cXI_ok : ∀ {l : List (Nat × Operand)}, (∀ x ∈ l, Opd vm P.globals.size ρ fr η x.2) → okXs P.globals.size (l.map (·.2)) = true → All2 (fun a b => a.1 = b.1 ∧ conc ρ a.2 = some b.2) ((cXI vm l).f fr) (l.map fun x => (x.1, η x.2))
  | [], _, _ => .nil
  | (i, x) :: l, h, hk => by
    simp only [okXs, List.map_cons, List.all_cons, Bool.and_eq_true] at hk
    exact .cons ⟨rfl, h (i, x) (by simp) hk.1⟩ (cXI_ok (fun y hy => h y (by simp [hy])) hk.2)
theorem nilCheck_ok {x : AV} {u : Value} (hx : conc ρ x = some u) {r : Result Next} (hr : (∀ p, u = .pointer (some p) → r = .ok (.value u) w) ∧ (∀ f a b, u = .func (.func f) a b → r = .ok (.value u) w) ∧ (∀ l a b, u = .func (.yield l) a b → r = .ok (.value u) w)) :
    AN.ok P ρ S w r (nilCheckA x) := by
  refine cB_ok (fun h => ?_) fun _ => ?_
  · cases x with
    | ptr b o => obtain ⟨g, off, cap, hb, rfl⟩ := conc_ptr hx; exact ⟨_, hx, hr.1 _ rfl⟩
    | _ => cases h
  · refine vFn_ok trivial (fun f a b e => ?_) fun l e => ?_
    · subst e
      refine ⟨u, hx, ?_⟩
      simp only [conc] at hx
      split at hx
      · cases hx; exact hr.2.1 _ _ _ rfl
      · cases hx
    · subst e
      refine ⟨u, hx, ?_⟩
      simp only [conc] at hx
      split at hx
      · cases hx; exact hr.2.2 _ _ _ rfl
      · cases hx
theorem buildSlice_ok (hs : Sat P ρ S w) {t : TypeId} {n : Nat} {ps : List (Nat × AV)} {qs : List (Nat × Value)} (hp : All2 (fun a b => a.1 = b.1 ∧ conc ρ a.2 = some b.2) ps qs) :
    AN.okV P ρ S w ((Instr.buildSlice t n qs.toArray).run P w) ((buildSliceA P t n).f ps S) := by
  unfold buildSliceA
  split
  · rename_i e hu
    split
    · rename_i z zv hz hzv
      split
      · rename_i hb
        simp only [Bool.and_eq_true] at hb
        obtain ⟨uz, hzr, hzc⟩ := zero_run hzv (ρ := ρ)
        have hcz := cellsA_conc hzc
        have hzl : uz.cells.size = z := by
          have := concs_length hcz
          have h1 := hb.1
          rw [Nat.beq_eq, len_eq] at h1
          simp only [Array.length_toList] at this
          omega
        have hlim : n * z ≤ 16777216 := by simpa using hb.2
        refine cO_ok trivial fun cs hcs => ?_
        obtain ⟨l', h1, h2⟩ := fill_ok ps qs _ cs _ hp (concs_rep hcz n) hcs
        have h2 : Instr.fill (fun i => some (i * z, z)) (rep uz.cells.toList n).toArray qs = some l'.toArray := h2
        refine new_own hs h1 (k := fun i => .slice i 0 n n) (u := fun g => .slice (some ⟨g, 0, none⟩) n n) (fun i ρ' g h => by simp only [conc, h]; rw [if_pos (Nat.le_refl _)]) ?_
        have hlim' : ¬ (n * z > 2 ^ 24) := by omega
        have hzeros : (Array.range (n * z)).map (fun i => uz.cells[i % uz.cells.size]!) = (rep uz.cells.toList n).toArray := zeros_eq uz.cells n _ (by rw [hzl])
        have hz' : ∀ w, (sizeOf e).run P w = .ok z w := fun w => size_run hz
        by_cases h0 : n * z = 0
        · have hr0 : (rep uz.cells.toList n).toArray = #[] := by rw [← hzeros, h0]; simp
          have r0 : Array.range 0 = #[] := Array.ext' (by simp)
          rw [hr0] at h2
          simp [Instr.buildSlice, run_underlying hu, hz', h0, r0, h2, newRow]
        · simp only [Instr.buildSlice, Sem.run_bind, run_underlying hu, Result.andThen_ok, hz', hlim', if_false, Sem.run_pure, h0, hzr, hzeros, h2, newRow, run_newObj]
      · exact trivial
    · exact trivial
  · exact trivial
theorem makeMap_ok (hs : Sat P ρ S w) {t : TypeId} : AN.okV P ρ S w ((Instr.makeMap t none).run P w) (newA S (.map [] 0) 1 .no fun i s => .val (.map i) s) := by
  refine newA_okQ trivial fun i hi hf => ?_
  obtain ⟨h1, h2⟩ := hs.new (o := .map [] 0) (ob := .map #[] 0) (off := 0) (cap := 0) (w' := { w with heap := w.heap.push (.map #[] 0) }) hf (at_put (by intro e; cases e) rfl) (Tr.put rfl) rfl rfl rfl rfl fun hle =>
    ⟨w.heap.size, 0, 0, #[], Rho.set_same _ _ _, by simp, ⟨⟨[], .nil, .refl _⟩, by simp, by simp, by simp⟩⟩
  exact ⟨_, .map (some w.heap.size), _, by simp [Instr.makeMap], h2, h1, by simp [conc, look_set hi]⟩
theorem okXs2 {ng : Nat} {x y : Operand} (h : okXs ng [x, y] = true) : okX ng x = true ∧ okX ng y = true := by simpa [okXs] using h
theorem okXs3 {ng : Nat} {x y z : Operand} (h : okXs ng [x, y, z] = true) : okX ng x = true ∧ okX ng y = true ∧ okX ng z = true := by simpa [okXs] using h
theorem conc_func {f : FuncId} {a b : List AV} {u : Value} (h : conc ρ (.func f a b) = some u) : ∃ x y, u = .func (.func f) x.toArray y.toArray ∧ concs ρ a = some x ∧ concs ρ b = some y := by
  simp only [conc] at h
  split at h
  · rename_i x y h1 h2; cases h; exact ⟨x, y, rfl, h1, h2⟩
  · cases h
theorem conc_yld {l : Nam} {u : Value} (h : conc ρ (.yld l) = some u) : ∃ g o c, u = .func (.yield g) #[] #[] ∧ look ρ l = some (.blk g o c) := by
  simp only [conc] at h
  split at h
  · rename_i g o c e; cases h; exact ⟨g, o, c, rfl, e⟩
  · cases h
/-! ### Interfaces -/
theorem vIf_ok {α : Type} {Q : α → Prop} {no : α} {v : AV} {fnili : _} {fiface : _} (hno : Q no) (hnili : v = .nili → Q fnili) (hiface : ∀ t x, v = .iface t x → Q (fiface t x)) : Q (vIf v no fnili fiface) := by
  cases v <;> first | exact hno | exact hnili rfl | exact hiface _ _ rfl
theorem conc_iface {t : Nat} {v : AV} {u : Value} (h : conc ρ (.iface t v) = some u) : ∃ x, u = .iface t x ∧ conc ρ v = some x := by
  simp only [conc] at h
  split at h
  · rename_i x e; cases h; exact ⟨x, rfl, e⟩
  · cases h
theorem iface_ok {t : TypeId} {x : AV} {u : Value} (hx : conc ρ x = some u) : AN.okV P ρ S w ((Instr.makeInterface t u).run P w) ((ifaceA P t).f x) := by
  unfold ifaceA
  split
  · exact trivial
  · rename_i d hd hu
    refine ⟨.iface t u, by simp only [conc, hx], ?_⟩
    cases d <;> first | exact (hd _ rfl).elim | simp [Instr.makeInterface, run_underlying hu]
  · exact trivial
theorem assert_ok {xt a : TypeId} {two : Bool} {x : AV} {u : Value} (hx : conc ρ x = some u) : AN.okV P ρ S w ((Instr.typeAssert u xt a two).run P w) ((assertA P a two).f x) := by
  unfold assertA
  split
  · exact trivial
  · rename_i d hd hu
    refine vIf_ok trivial (fun _ => trivial) fun t v e => ?_
    subst e
    obtain ⟨y, rfl, hy⟩ := conc_iface hx
    refine cB_ok (fun h => ?_) fun _ => trivial
    have h : t = a := Nat.eq_of_beq_eq_true h
    subst h
    cases two with
    | true =>
      refine ⟨.tuple #[y, .bool true], by show conc ρ (.tuple [v, .bool true]) = _; simp only [conc, concs, hy], ?_⟩
      cases d <;> first | exact (hd _ rfl).elim | simp [Instr.typeAssert, run_underlying hu]
    | false =>
      refine ⟨y, hy, ?_⟩
      cases d <;> first | exact (hd _ rfl).elim | simp [Instr.typeAssert, run_underlying hu]
  · exact trivial
theorem method_run {name : String} {t e : TypeId} {f : FuncId} {p : Bool} {u : Value} (h : methA P name t = some (f, p)) (he : ptrE P t = some e) {x : Value}
    (hx : (p = true → x = u) ∧ (p = false → ∃ a, u = .pointer (some a) ∧ (loadVar e a).run P w = .ok x w)) (n : Nat) : (method (n + 1) t u name).run P w = .ok (f, x) w := by
  unfold methA at h
  split at h
  · rename_i i hi
    split at h
    · rename_i m hm
      split at h
      · rename_i hp
        have hu : P.underlying t = some (.pointer e) := by
          unfold ptrE at he
          split at he
          · rename_i e' hu; cases he; exact hu
          · cases he
        have hpath : m.path.toList = [] := by
          have : m.path = #[] := by simpa using hp
          rw [this]
        have hp0 : m.path = #[] := by simpa using hp
        cases p with
        | true =>
          have := hx.1 rfl
          subst this
          simp [method, typeInfo, hi, hm, hpath, follow, h, receiverAt, run_underlying hu, Place.get]
        | false =>
          obtain ⟨a, rfl, hl⟩ := hx.2 rfl
          have hck : ∀ A T s1 s2, Builtin.ssaWrapNilChk_ A T #[.pointer (some a), .string s1, .string s2] = pure (.pointer (some a)) := fun _ _ _ _ => rfl
          simp [method, typeInfo, hi, hm, hp0, follow, h, receiverAt, run_underlying hu, Place.get, strVal, hck, asAddr, hl]
      · cases h
    · cases h
  · cases h
theorem kCall_ok (hs : Sat P ρ S w) (cf : Cf) (fn : FuncId) (c : Call) (type : TypeId) (hx : ∀ x ∈ c.operands.toList, Opd vm P.globals.size ρ fr η x) :
    AN.ok P ρ S w ((do let d ← resolve η c type; invoke d.target d.args : Sem Next).run P w) ((kCall P cf vm fn c).f fr S) := by
  unfold kCall
  split
  · exact trivial
  · rename_i hargs
    have hxa : ∀ x ∈ c.args.toList, Opd vm P.globals.size ρ fr η x := fun x h => hx x (by simp [Call.operands]; exact .inr (by simpa using h))
    have hok : ∀ x ∈ c.args.toList, okX P.globals.size x = true := fun x h => List.all_eq_true.1 hargs x h
    have hcs := cXs_ok hxa hargs
    split
    · rename_i b hcal
      have hrun : (do let d ← resolve η c type; invoke d.target d.args : Sem Next).run P w = (builtin b c.argTypes type (c.args.map fun | .const _ => true | _ => false) (c.args.map η)).run P w := by
        simp only [resolve, hcal, Sem.run_bind, Sem.run_pure, Result.andThen_ok, invoke]
        rfl
      rw [hrun]
      have hmap1 : ∀ x, c.args.toList = [x] → c.args.map η = #[η x] := fun x h => by apply Array.ext'; simp [h]
      have hmap2 : ∀ x y, c.args.toList = [x, y] → c.args.map η = #[η x, η y] := fun x y h => by apply Array.ext'; simp [h]
      have hty : ∀ t l, c.argTypes.toList = t :: l → c.argTypes[0]? = some t := fun t l h => by rw [← Array.getElem?_toList, h]; rfl
      have hty1 : ∀ t u l, c.argTypes.toList = t :: u :: l → c.argTypes[1]? = some u := fun t u l h => by rw [← Array.getElem?_toList, h]; rfl
      split
      · rename_i ty l x h1 h2
        rw [hmap1 x h2]
        exact (len_ok hs (ty := type) (hty _ _ h1) (hxa x (by simp [h2]) (hok x (by simp [h2])))).lift (by simp [builtin])
      · rename_i ty l x h1 h2
        rw [hmap1 x h2]
        exact (cap_ok (ty := type) (hty _ _ h1) (hxa x (by simp [h2]) (hok x (by simp [h2])))).lift (by simp [builtin])
      · rename_i l x h2
        refine vInt_ok trivial fun k n e => ?_
        rw [h2] at hcs
        obtain ⟨u, q, hq, h3, h4⟩ := concs_cons hcs
        rw [List.map_cons] at hq
        have h5 : c.args.map η = (u :: q).toArray := by apply Array.ext'; simp [h2, hq]
        rw [h5]
        exact (min_ok h4 h3).lift (by simp [builtin, Builtin.min_])
      · rename_i l x h2
        refine vInt_ok trivial fun k n e => ?_
        rw [h2] at hcs
        obtain ⟨u, q, hq, h3, h4⟩ := concs_cons hcs
        rw [List.map_cons] at hq
        have h5 : c.args.map η = (u :: q).toArray := by apply Array.ext'; simp [h2, hq]
        rw [h5]
        exact (max_ok h4 h3).lift (by simp [builtin, Builtin.max_])
      · rename_i sT yT l x y h1 h2
        rw [hmap2 x y h2]
        exact (append_ok hs (ty := type) (hty _ _ h1) (hty1 _ _ _ h1) (hxa x (by simp [h2]) (hok x (by simp [h2]))) (hxa y (by simp [h2]) (hok y (by simp [h2])))).lift (by simp [builtin])
      · rename_i sT yT l x y h1 h2
        rw [hmap2 x y h2]
        exact (copy_ok hs (ty := type) (yT := yT) (hty _ _ h1) (hxa x (by simp [h2]) (hok x (by simp [h2]))) (hxa y (by simp [h2]) (hok y (by simp [h2])))).lift (by simp [builtin])
      · rename_i ty l x h1 h2
        rw [hmap1 x h2]
        exact (clear_ok hs (ty := type) (hty _ _ h1) (hxa x (by simp [h2]) (hok x (by simp [h2])))).lift (by simp [builtin])
      · rename_i mT l m k h1 h2
        rw [hmap2 m k h2]
        exact (delete_ok hs (ty := type) (hty _ _ h1) (hxa m (by simp [h2]) (hok m (by simp [h2]))) (hxa k (by simp [h2]) (hok k (by simp [h2])))).lift (by simp [builtin])
      · exact trivial
    · rename_i f hcal
      have hxf : Opd vm P.globals.size ρ fr η f := hx f (by simp [Call.operands, hcal])
      have hcs' : (c.args.map η) = (c.args.toList.map η).toArray := by apply Array.ext'; simp
      split
      · rename_i g
        have hgo : (do let d ← resolve η c type; invoke d.target d.args : Sem Next).run P w = (callFunc g (c.args.toList.map η).toArray).run P w := by
          have : η (.func g) = .func (.func g) #[] #[] := by
            have := hxf rfl
            simp only [cX1, conc, concs] at this
            exact (Option.some.inj this).symm
          simp only [resolve, hcal, Sem.run_bind, this, Deferred.ofValue, Sem.run_pure, Result.andThen_ok, invoke, hcs']
          simp
        rw [hgo]
        split
        · rename_i hcl
          exact (clone_ok hs hcs).lift (clone_run hcl _)
        refine ⟨_, hcs, rfl⟩
      · rename_i f hkf
        have hf := hxf hkf
        refine vFn_ok trivial (fun g a b e => ?_) fun l e => ?_
        · rw [e] at hf
          obtain ⟨x, y, h1, h2, h3⟩ := conc_func hf
          refine ⟨x ++ (c.args.toList.map η ++ y), by rw [app_eq, app_eq]; exact concs_append h2 (concs_append hcs h3), ?_⟩
          simp only [resolve, hcal, Sem.run_bind, h1, Deferred.ofValue, Sem.run_pure, Result.andThen_ok, invoke, hcs']
          simp
        · rw [e] at hf
          obtain ⟨g, o, cc, h1, h2⟩ := conc_yld hf
          refine ⟨_, g, o, cc, hcs, h2, ?_⟩
          simp only [resolve, hcal, Sem.run_bind, h1, Deferred.ofValue, Sem.run_pure, Result.andThen_ok, invoke, hcs']
          simp
      · exact trivial
    · rename_i r name hcal
      have hxr : Opd vm P.globals.size ρ fr η r := hx r (by simp [Call.operands, hcal])
      have hcs' : (c.args.map η) = (c.args.toList.map η).toArray := by apply Array.ext'; simp
      split
      · rename_i hkr
        have hr := hxr hkr
        refine vIf_ok trivial (fun _ => trivial) fun t v e => ?_
        rw [e] at hr
        obtain ⟨u, hu1, hu2⟩ := conc_iface hr
        refine cO_ok trivial fun x hm => cO_ok trivial fun el hel => ?_
        obtain ⟨f, p⟩ := x
        have hrun : ∀ y, (∀ n, (method (n + 1) t u name).run P w = .ok (f, y) w) → (do let d ← resolve η c type; invoke d.target d.args : Sem Next).run P w = (callFunc f (y :: c.args.toList.map η).toArray).run P w := fun y hy => by
          have h1 := hy (P.types.size + 99)
          simp only [resolve, hcal, Sem.run_bind, Sem.run_pure, Result.andThen_ok, invoke, hu1, callMethod, hcs']
          simp only [Made.depth]
          have ht : List.take c.args.size (List.map η c.args.toList) = List.map η c.args.toList := List.take_of_length_le (by simp)
          simp [h1, ht]
        refine cB_ok (fun h => ?_) fun h => ?_
        · have h : p = true := h
          refine ⟨_, concs_cons' hu2 hcs, hrun u fun n => method_run hm hel ⟨fun _ => rfl, fun e => ?_⟩ n⟩
          rw [h] at e; cases e
        · have h : p = false := h
          refine vPtr_ok trivial fun b o ev => ?_
          refine cO_ok trivial fun lv hlv => ?_
          obtain ⟨y, hy1, hy2⟩ := load_ok hs hlv hu2
          subst ev
          obtain ⟨g, off, cap, hb, rfl⟩ := conc_ptr hu2
          refine ⟨_, concs_cons' hy1 hcs, hrun y fun n => method_run hm hel ⟨fun e => ?_, fun _ => ⟨_, rfl, ?_⟩⟩ n⟩
          · rw [h] at e; cases e
          · simpa [Instr.loadAt, Instr.sureAddr] using hy2
      · exact trivial
theorem kOp_ok (hs : Sat P ρ S w) (cf : Cf) (fn : FuncId) (o : Oper) (hx : ∀ x ∈ o.op.operands.toList, Opd vm P.globals.size ρ fr η x) : AN.ok P ρ S w ((execOp η o).run P w) ((kOp P cf vm fn o).f fr S) := by
  obtain ⟨dst, op, type, pos, after, guard⟩ := o
  simp only at hx
  cases op <;> simp only [kOp, execOp] <;> first | exact trivial | skip
  case move x =>
    split
    · rename_i hk; exact ⟨_, hx x (by simp [Op.operands]) hk, rfl⟩
    · exact trivial
  case assign x =>
    split
    · rename_i hk; exact ⟨_, hx x (by simp [Op.operands]) hk, rfl⟩
    · exact trivial
  case pick c a b =>
    split
    · rename_i hk
      obtain ⟨h1, h2, h3⟩ := okXs3 hk
      refine vBool_ok trivial fun t e => ?_
      have hc := hx c (by simp [Op.operands]) h1
      rw [e] at hc
      have hc := conc_bool hc
      refine cB_ok (fun ht => ?_) fun ht => ?_
      · subst ht; exact ⟨_, hx a (by simp [Op.operands]) h2, by simp [hc, asBool]⟩
      · subst ht; exact ⟨_, hx b (by simp [Op.operands]) h3, by simp [hc, asBool]⟩
    · exact trivial
  case alloc e =>
    split
    · rename_i z hz; exact (alloc_ok hs hz).lift (by simp)
    · exact trivial
  case box e x =>
    split
    · rename_i hk; exact (newV_ok hs (hx x (by simp [Op.operands]) hk)).lift (by simp only [Instr.box, Sem.run_bind, Sem.run_pure])
    · exact trivial
  case build t ps =>
    split
    · rename_i hk
      have := build_ok (P := P) (S := S) (w := w) (t := t) (cXI_ok (l := ps.toList) (ρ := ρ) (fr := fr) (η := η) (fun x h => hx x.2 (by simp [Op.operands]; exact ⟨x.1, by simpa using h⟩)) hk)
      refine this.lift ?_
      have e : (ps.map fun (x : Nat × Operand) => (x.1, η x.2)) = (ps.toList.map fun x => (x.1, η x.2)).toArray := by apply Array.ext'; simp
      simp [← e]
    · exact trivial
  case buildSlice t n ps =>
    split
    · rename_i hk
      have := buildSlice_ok hs (t := t) (n := n) (cXI_ok (l := ps.toList) (ρ := ρ) (fr := fr) (η := η) (fun x h => hx x.2 (by simp [Op.operands]; exact ⟨x.1, by simpa using h⟩)) hk)
      refine this.lift ?_
      have e : (ps.map fun (x : Nat × Operand) => (x.1, η x.2)) = (ps.toList.map fun x => (x.1, η x.2)).toArray := by apply Array.ext'; simp
      simp [← e]
    · exact trivial
  case load t a =>
    split
    · rename_i hk
      refine cO_ok trivial fun v hv => ?_
      obtain ⟨y, h1, h2⟩ := load_ok hs hv (hx a (by simp [Op.operands]) hk)
      exact ⟨y, h1, by simp [h2]⟩
    · exact trivial
  case store t a x =>
    split
    · rename_i hk
      obtain ⟨h1, h2⟩ := okXs2 hk
      exact (store_ok hs (t := t) (hx a (by simp [Op.operands]) h1) (hx x (by simp [Op.operands]) h2)).lift (by simp)
    · exact trivial
  case nilCheck x =>
    cases hk : okX P.globals.size x with
    | false => exact trivial
    | true => exact nilCheck_ok (hx x (by simp [Op.operands]) hk) ⟨fun p e => by simp [e], fun f a b e => by simp [e], fun l a b e => by simp [e]⟩
  case binOp op t x y yt =>
    split
    · rename_i hk
      obtain ⟨h1, h2⟩ := okXs2 hk
      exact (bin_ok hs op t x y (hx x (by simp [Op.operands]) h1) (hx y (by simp [Op.operands]) h2)).lift (by
        simp only [Sem.run_bind, Sem.run_pure])
    · exact trivial
  case unOp op t x =>
    split
    · rename_i hk; exact (un_ok op _ _ (hx x (by simp [Op.operands]) hk)).lift (by simp)
    · exact trivial
  case convert s d x =>
    split
    · rename_i hk; exact (conv_ok hs (hx x (by simp [Op.operands]) hk)).lift (by simp)
    · exact trivial
  case makeInterface t x =>
    split
    · rename_i hk; exact (iface_ok (hx x (by simp [Op.operands]) hk)).lift (by simp)
    · exact trivial
  case typeAssert x xt a two =>
    split
    · rename_i hk; exact (assert_ok (xt := xt) (hx x (by simp [Op.operands]) hk)).lift (by simp)
    · exact trivial
  case makeFunc f a b =>
    split
    · rename_i g hk
      simp only [Bool.and_eq_true] at hk
      have h1 := cXs_ok (l := a.toList) (ρ := ρ) (fr := fr) (η := η) (fun x h => hx x (by simp [Op.operands]; exact .inl (by simpa using h))) hk.1
      have h2 := cXs_ok (l := b.toList) (ρ := ρ) (fr := fr) (η := η) (fun x h => hx x (by simp [Op.operands]; exact .inr (by simpa using h))) hk.2
      refine ⟨.func (.func g) (a.toList.map η).toArray (b.toList.map η).toArray, by simp only [conc, h1, h2], ?_⟩
      have e1 : a.map η = (a.toList.map η).toArray := by apply Array.ext'; simp
      have e2 : b.map η = (b.toList.map η).toArray := by apply Array.ext'; simp
      simp [Instr.makeFunc, e1, e2]
    · exact trivial
  case makeMap t r =>
    cases r with
    | none => exact (makeMap_ok hs (t := t)).lift (by simp)
    | some _ => exact trivial
  case makeSlice t l c =>
    split
    · rename_i hk
      obtain ⟨h1, h2⟩ := okXs2 hk
      exact (makeSlice_ok hs (hx l (by simp [Op.operands]) h1) (hx c (by simp [Op.operands]) h2)).lift (by simp)
    · exact trivial
  case slice t x lo hi mx =>
    split
    · rename_i hk
      simp only [Bool.and_eq_true] at hk
      obtain ⟨⟨⟨h1, h2⟩, h3⟩, h4⟩ := hk
      refine (slice_ok hs (t := t) (hx x (by simp [Op.operands]) h1) (cXO_ok (x := lo) (η := η) (fun y e => hx y (by simp [Op.operands, e])) h2) (cXO_ok (x := hi) (η := η) (fun y e => hx y (by simp [Op.operands, e])) h3)
        (cXO_ok (x := mx) (η := η) (fun y e => hx y (by simp [Op.operands, e])) h4)).lift (by simp)
    · exact trivial
  case fieldAddr st x f =>
    split
    · rename_i hk; exact (fieldAddr_ok (hx x (by simp [Op.operands]) hk)).lift (by simp)
    · exact trivial
  case field st x f =>
    split
    · rename_i hk; exact (field_ok (hx x (by simp [Op.operands]) hk)).lift (by simp)
    · exact trivial
  case indexAddr t x i =>
    split
    · rename_i hk
      obtain ⟨h1, h2⟩ := okXs2 hk
      exact (indexAddr_ok (hx x (by simp [Op.operands]) h1) (hx i (by simp [Op.operands]) h2)).lift (by simp)
    · exact trivial
  case index t x i =>
    split
    · rename_i hk
      obtain ⟨h1, h2⟩ := okXs2 hk
      exact (index_ok (hx x (by simp [Op.operands]) h1) (hx i (by simp [Op.operands]) h2)).lift (by simp)
    · exact trivial
  case lookup t x i ok =>
    split
    · rename_i hk
      obtain ⟨h1, h2⟩ := okXs2 hk
      exact (lookup_ok hs (hx x (by simp [Op.operands]) h1) (hx i (by simp [Op.operands]) h2)).lift (by simp)
    · exact trivial
  case mapUpdate t m k v =>
    split
    · rename_i hk
      obtain ⟨h1, h2, h3⟩ := okXs3 hk
      exact (mapPut_ok hs (hx m (by simp [Op.operands]) h1) (hx k (by simp [Op.operands]) h2) (hx v (by simp [Op.operands]) h3)).lift (by simp)
    · exact trivial
  case insert t m k v =>
    split
    · rename_i hk
      obtain ⟨h1, h2, h3⟩ := okXs3 hk
      exact (mapPut_ok hs (hx m (by simp [Op.operands]) h1) (hx k (by simp [Op.operands]) h2) (hx v (by simp [Op.operands]) h3)).lift (by simp)
    · exact trivial
  case mapEntry t m k =>
    split
    · rename_i hk
      obtain ⟨h1, h2⟩ := okXs2 hk
      exact (mapEntry_ok hs (hx m (by simp [Op.operands]) h1) (hx k (by simp [Op.operands]) h2)).lift (by simp)
    · exact trivial
  case entryStore t m i v =>
    split
    · rename_i hk
      obtain ⟨h1, h2, h3⟩ := okXs3 hk
      exact (entryStore_ok hs (ty := t) (hx m (by simp [Op.operands]) h1) (hx i (by simp [Op.operands]) h2) (hx v (by simp [Op.operands]) h3)).lift (by simp)
    · exact trivial
  case range t x =>
    split
    · rename_i hk; exact (range_ok hs (hx x (by simp [Op.operands]) hk)).lift (by simp)
    · exact trivial
  case next it isS =>
    split
    · rename_i hk; exact (next_ok hs (t := type) (hx it (by simp [Op.operands]) hk)).lift (by simp)
    · exact trivial
  case entry it =>
    split
    · rename_i hk; exact (entry_ok hs (hx it (by simp [Op.operands]) hk)).lift (by simp)
    · exact trivial
  case extract x i =>
    split
    · rename_i hk
      refine vTup_ok trivial fun l e => ?_
      have h1 := hx x (by simp [Op.operands]) hk
      rw [e] at h1
      obtain ⟨r, h2, h3⟩ := conc_tuple h1
      refine cO_ok trivial fun v hv => ?_
      rw [nth_eq] at hv
      obtain ⟨u, h4, h5⟩ := concs_get h3 hv
      exact ⟨u, h5, by simp [Instr.extract, h2, h4]⟩
    · exact trivial
  case call c => exact kCall_ok hs cf fn c type hx
end
end Go.Proofs.YtfnjojdiiklleaaGreat.Ev
