/- A run of a program on abstract memory: plans of regions. -/
import Derived.Test.YtfnjojdiiklleaaGreatEvZa
namespace Go.Proofs.YtfnjojdiiklleaaGreat.Ev
section
variable {P : Program} {ρ : Rho} {S : AS} {w : World} {cf : Cf} {vm : Vm} {fn : FuncId} {ops : Array Oper}

/-! ### What is held -/
mutual
theorem beqV_refl : ∀ v : AV, beqV v v = true
  | .bool b => by simp [beqV]
  | .int k n => by simp [beqV, kEq_iff.2 rfl, (ieq_iff n n).2 rfl]
  | .str l => by simp [beqV, (natsEq_iff l l).2 rfl]
  | .ptr _ _ => by simp [beqV]
  | .nilp => rfl
  | .slice _ _ _ _ => by simp [beqV]
  | .row _ _ _ _ => by simp [beqV]
  | .tail _ _ _ _ => by simp [beqV]
  | .nils => rfl
  | .map _ => by simp [beqV]
  | .nilm => rfl
  | .func _ a b => by simp [beqV, beqVs_refl a, beqVs_refl b]
  | .yld _ => by simp [beqV]
  | .nilf => rfl
  | .iface _ v => by simp [beqV, beqV_refl v]
  | .nili => rfl
  | .agg l => by simp [beqV, beqVs_refl l]
  | .tuple l => by simp [beqV, beqVs_refl l]
  | .stamp _ => by simp [beqV]
theorem beqVs_refl : ∀ l : List AV, beqVs l l = true
  | [] => rfl
  | v :: l => by simp [beqVs, beqV_refl v, beqVs_refl l]
end
theorem heldA_cons {h : Hd} {l : List Hd} : heldA S (h :: l) = true ↔ (∃ u, h.k.f h.fr S = .get u ∧ beqV u h.v = true) ∧ heldA S l = true := by
  have e : heldA S (h :: l) = cAN (h.k.f h.fr S) false (fun u => cB (beqV u h.v) (heldA S l) false) (fun _ _ => false) (fun _ _ => false) (fun _ _ => false) fun _ => false := rfl
  rw [e]
  cases hk : h.k.f h.fr S with
  | get u =>
    show cB (beqV u h.v) (heldA S l) false = true ↔ _
    cases hb : beqV u h.v with
    | true => exact ⟨fun h => ⟨⟨u, rfl, hb⟩, h⟩, fun h => h.2⟩
    | false => exact ⟨fun h => (by cases h), fun ⟨⟨u', h1, h2⟩, _⟩ => by cases h1; rw [hb] at h2; cases h2⟩
  | _ => exact ⟨fun h => (by cases h), fun ⟨⟨u', h1, _⟩, _⟩ => by cases h1⟩
theorem heldA_mem : ∀ {l : List Hd}, heldA S l = true → ∀ h ∈ l, ∃ u, h.k.f h.fr S = .get u ∧ beqV u h.v = true
  | [], _, h, hm => by cases hm
  | x :: l, hl, h, hm => by
    obtain ⟨h1, h2⟩ := heldA_cons.1 hl
    rcases List.mem_cons.1 hm with rfl | hm
    · exact h1
    · exact heldA_mem h2 h hm
theorem keepH_mem {ws : List Nat} : ∀ {l : List Hd} {h : Hd}, h ∈ l → h.i ∉ ws → h ∈ keepH ws l
  | [], h, hm, _ => by cases hm
  | x :: l, h, hm, hn => by
    have e : keepH ws (x :: l) = cB (itL false (fun i _ r => cB (Nat.beq i x.i) true r) ws) (keepH ws l) (x :: keepH ws l) := rfl
    rw [e]
    have hit : ∀ ws : List Nat, itL false (fun i _ r => cB (Nat.beq i x.i) true r) ws = true → x.i ∈ ws := by
      intro ws
      induction ws with
      | nil => intro h; cases h
      | cons a t ih =>
        intro h
        have h' : cB (Nat.beq a x.i) true (itL false (fun i _ r => cB (Nat.beq i x.i) true r) t) = true := h
        cases c : Nat.beq a x.i with
        | true => rw [Nat.beq_eq] at c; simp [c]
        | false => rw [c] at h'; exact List.mem_cons_of_mem _ (ih h')
    rcases List.mem_cons.1 hm with rfl | hm
    · cases hb : itL false (fun i _ r => cB (Nat.beq i h.i) true r) ws with
      | true => exact absurd (hit ws hb) hn
      | false => simp [cB]
    · have := keepH_mem hm hn
      cases itL false (fun i _ r => cB (Nat.beq i x.i) true r) ws with
      | true => exact this
      | false => exact List.mem_cons_of_mem _ this
noncomputable def isW (vm : Vm) (ops : Array Oper) (o : Oper) (fr : FrA) : Bool := match kWant vm ops o with
  | none => true
  | some g => g.f fr
structure HeldI (P : Program) (cf : Cf) (vm : Vm) (fn : FuncId) (ops : Array Oper) (hs : List Hd) (ρ : Rho) (h : Hq) (o : Oper) (fr : FrA) (v : AV) (y : Value) (η : Operand → Value) : Prop where
  op : ops[h.i]? = some o
  opd : ∀ x ∈ o.op.operands.toList, Opd vm P.globals.size ρ fr η x
  val : conc ρ v = some y
  hold : h.hold = fun w => isW vm ops o fr = true → (execOp η o).run P w = .ok (.value y) w
  src : (∀ S, (kSee P cf vm fn ops o).f fr S = .get v) ∨ (⟨h.i, kSee P cf vm fn ops o, fr, v⟩ : Hd) ∈ hs
theorem HeldI.mono {hs hs' : List Hd} {ρ' : Rho} {h : Hq} {o : Oper} {fr : FrA} {v : AV} {y : Value} {η : Operand → Value} (x : HeldI P cf vm fn ops hs ρ h o fr v y η) (hl : Le ρ ρ') (hm : ∀ q ∈ hs, q.i = h.i → q ∈ hs') : HeldI P cf vm fn ops hs' ρ' h o fr v y η :=
  ⟨x.op, fun z hz hk => conc_mono hl _ (x.opd z hz hk), conc_mono hl _ x.val, x.hold, x.src.imp id fun q => hm _ q rfl⟩
theorem HeldI.holds {hs : List Hd} {h : Hq} {o : Oper} {fr : FrA} {v : AV} {y : Value} {η : Operand → Value} (x : HeldI P cf vm fn ops hs ρ h o fr v y η) (hsat : Sat P ρ S w) (hh : heldA S hs = true) : h.hold w := by
  rw [x.hold]
  intro hw
  have hsee : ∃ u, (kSee P cf vm fn ops o).f fr S = .get u ∧ beqV u v = true := by
    rcases x.src with h1 | h1
    · exact ⟨v, h1 S, beqV_refl v⟩
    · exact heldA_mem hh _ h1
  obtain ⟨u, h1, h2⟩ := hsee
  have h3 : (kOp P cf vm fn o).f fr S = .get u := by
    unfold isW at hw
    unfold kSee at h1
    cases hk : kWant vm ops o with
    | none => rw [hk] at h1; exact h1
    | some g =>
      rw [hk] at h1 hw
      have hw : g.f fr = true := hw
      have h1 : cB (g.f fr) ((kOp P cf vm fn o).f fr S) (.get (.tuple [])) = .get u := h1
      rw [hw] at h1
      exact h1
  have h4 := kOp_ok hsat cf fn o x.opd
  rw [h3] at h4
  obtain ⟨y', h5, h6⟩ := h4
  have := beqV_eq u v h2 h5 x.val
  subst this
  rw [x.val] at h5; cases h5
  exact h6

/-! ### Counting -/
noncomputable def unl (L : Array Bool) : Nat := L.toList.countP (fun b => !b)
theorem countP_set : ∀ (l : List Bool) (j : Nat), l[j]? = some false → (l.set j true).countP (fun b => !b) + 1 = l.countP (fun b => !b)
  | [], _, h => by simp at h
  | b :: l, 0, h => by simp at h; subst h; simp
  | b :: l, j + 1, h => by
    simp at h
    have := countP_set l j h
    simp only [List.set_cons_succ, List.countP_cons]
    omega
theorem unl_set {L : Array Bool} {j : Nat} (h : L.getD j true = false) : unl (L.setIfInBounds j true) + 1 = unl L := by
  unfold unl
  rw [Array.toList_setIfInBounds]
  apply countP_set
  rw [Array.getElem?_toList]
  rw [Array.getD_eq_getD_getElem?] at h
  cases hj : L[j]? with
  | none => rw [hj] at h; cases h
  | some b => rw [hj] at h; simp at h; rw [h]
theorem getD_same {L : Array Bool} {j : Nat} {d : Bool} (h : j < L.size) : (L.setIfInBounds j true).getD j d = true := by simp [h]
theorem lt_of_getD {L : Array Bool} {j : Nat} (h : L.getD j true = false) : j < L.size := by
  rcases Nat.lt_or_ge j L.size with h' | h'
  · exact h'
  · rw [Array.getD_eq_getD_getElem?, Array.getElem?_eq_none h'] at h; cases h

/-! ### How late blocks go on -/
theorem cX1_congr {fr fr' : FrA} {x : Operand} (h : ∀ i, x = .tmp i → i < 256 → (tgF vm i).f fr.t = (tgF vm i).f fr'.t) {ng : Nat} (hk : okX ng x = true) : (cX1 vm x).f fr = (cX1 vm x).f fr' := by
  cases x with
  | tmp i => exact h i rfl (by simpa [okX] using hk)
  | const v => simp only [cX1]; split <;> rfl
  | global g => rfl
  | func f => rfl
theorem cXI_congr {fr fr' : FrA} {ng : Nat} : ∀ {l : List (Nat × Operand)}, (∀ x ∈ l, ∀ i, x.2 = .tmp i → i < 256 → (tgF vm i).f fr.t = (tgF vm i).f fr'.t) → okXs ng (l.map (·.2)) = true → (cXI vm l).f fr = (cXI vm l).f fr'
  | [], _, _ => rfl
  | (i, x) :: l, h, hk => by
    simp only [okXs, List.map_cons, List.all_cons, Bool.and_eq_true] at hk
    show (i, (cX1 vm x).f fr) :: (cXI vm l).f fr = (i, (cX1 vm x).f fr') :: (cXI vm l).f fr'
    rw [cX1_congr (h (i, x) (by simp)) hk.1, cXI_congr (fun y hy => h y (by simp [hy])) hk.2]
theorem late_congr {o : Oper} {fr fr' : FrA} (hl : lateOp o = true) (h : ∀ x ∈ o.op.operands.toList, ∀ i, x = .tmp i → i < 256 → (tgF vm i).f fr.t = (tgF vm i).f fr'.t) (S : AS) : (kOp P cf vm fn o).f fr S = (kOp P cf vm fn o).f fr' S := by
  obtain ⟨dst, op, type, pos, after, guard⟩ := o
  simp only [lateOp, Bool.and_eq_true] at hl
  have hl := hl.2
  cases op with
  | alloc e => simp only [kOp]; split <;> rfl
  | box e x =>
    simp only [kOp]
    split
    · rename_i hk; show newV S e (cellsA ((cX1 vm x).f fr)) = newV S e (cellsA ((cX1 vm x).f fr')); rw [cX1_congr (h x (by simp [Op.operands])) hk]
    · rfl
  | makeMap t r => cases r <;> rfl
  | buildSlice t n ps =>
    simp only [kOp]
    split
    · rename_i hk
      show (buildSliceA P t n).f ((cXI vm ps.toList).f fr) S = (buildSliceA P t n).f ((cXI vm ps.toList).f fr') S
      rw [cXI_congr (fun x hx => h x.2 (by simp [Op.operands]; exact ⟨x.1, by simpa using hx⟩)) hk]
    · rfl
  | makeSlice t a b =>
    simp only [kOp]
    split
    · rename_i hk
      obtain ⟨h1, h2⟩ := okXs2 hk
      show (makeSliceA P t).f ((cX1 vm a).f fr) ((cX1 vm b).f fr) S = (makeSliceA P t).f ((cX1 vm a).f fr') ((cX1 vm b).f fr') S
      rw [cX1_congr (h a (by simp [Op.operands])) h1, cX1_congr (h b (by simp [Op.operands])) h2]
    · rfl
  | _ => cases hl
theorem Late.mono {o : Oper} {fr fr' : FrA} {η η' : Operand → Value} {obj : AO} {mk : Nam → AV} {ob : Obj} {u : Nat → Value} {ρ' : Rho} (x : Late P cf vm fn ρ o fr η obj mk ob u) (hl : Le ρ ρ') (hk : ∀ S, (kOp P cf vm fn o).f fr' S = (kOp P cf vm fn o).f fr S) (hη : execOp η' o = execOp η o) :
    Late P cf vm fn ρ' o fr' η' obj mk ob u :=
  ⟨x.live, fun S => by rw [hk]; exact x.abs S, fun w => by rw [hη]; exact x.run w, fun ρ'' heap' i g h => x.rel ρ'' heap' i g (hl.trans h)⟩
theorem cD_tget {n : Nat} {dst : Option Tmp} (hd : okD n dst = true) {fr : FrA} {v : AV} {i : Nat} (hi : i < 256) (hne : dst ≠ some i) : (tgF vm i).f ((cD vm n dst).f fr v).t = (tgF vm i).f fr.t := by
  cases dst with
  | none => rfl
  | some d =>
    have hd' : n ≤ d ∨ d < 256 := by simpa [okD] using hd
    cases hb : Nat.blt d n with
    | false => simp only [cD, hb]
    | true =>
      have hdn : d < n := by simpa using hb
      have hd256 : d < 256 := hd'.resolve_left (fun h => absurd hdn (Nat.not_lt.2 h))
      simp only [cD, hb]
      exact tget_ne v hi hd256 (fun e => hne (by rw [e])) _
theorem looksAt_op {o : Oper} {d : Tmp} (h : .tmp d ∈ o.op.operands.toList) : d ∈ o.looksAt ops := List.mem_append_left _ (List.mem_filterMap.2 ⟨.tmp d, h, rfl⟩)
theorem looksAt_guard {o p : Oper} {j : Nat} {b : Bool} {d : Tmp} (hg : o.guard = some (j, b)) (hj : ops[j]? = some p) (hd : p.dst = some d) : d ∈ o.looksAt ops := by
  unfold Oper.looksAt
  rw [hg]
  simp [hj, hd]

/-! ### The state of a plan -/
noncomputable def PX (ops : Array Oper) (n : Nat) (D L : Array Bool) (d : Nat) : Prop := d < n ∧ ∃ j o, D.getD j true = false ∧ L.getD j true = true ∧ ops[j]? = some o ∧ o.dst = some d
structure LateI (P : Program) (cf : Cf) (vm : Vm) (fn : FuncId) (ops : Array Oper) (n : Nat) (w0 : World) (D : Array Bool) (G : Nat → Option Nat) (ρ : Rho) (S : AS) (w : World) (fr : FrA) (a : Act) (j : Nat) (o : Oper) (obj : AO) (mk : Nam → AV) (ob : Obj) (u : Nat → Value) (η : Operand → Value) : Prop where
  op : ops[j]? = some o
  is : lateOp o = true
  free : FreeAt ops o j D
  deps : ∀ e ∈ o.after, Region.binds .any e = true → D.getD e.on false = true
  ok : okOp n ops o = true
  late : Late P cf vm fn ρ o fr η obj mk ob u
  eval : G j = none → execOp a.eval o = execOp η o
  made : ∀ g, G j = some g → g < w.heap.size ∧ w0.heap.size ≤ g ∧ w.heap[g]? = some ob ∧ ¬ Owns ρ S g ∧ ∀ d, o.dst = some d → d < n → a.tmps.getD d undef = u g
structure PInv (P : Program) (cf : Cf) (vm : Vm) (fn : FuncId) (ops : Array Oper) (n : Nat) (ρ0 : Rho) (S0 : AS) (w0 : World) (hs : List Hd) (D L listed : Array Bool) (H : List Hq) (G : Nat → Option Nat) (ρ : Rho) (S : AS) (w : World) (fr : FrA) (a : Act) : Prop where
  sat : Sat P ρ S w
  ext : Ext ρ0 S0 w0 ρ S w
  szD : D.size = ops.size
  szL : L.size = ops.size
  szl : listed.size = ops.size
  DL : ∀ j, D.getD j true = true → L.getD j true = true
  lst : ∀ j, j < ops.size → (listed.getD j true = true ↔ (D.getD j true = true ∨ ∃ g, G j = some g))
  gl : ∀ j g, G j = some g → L.getD j true = true ∧ D.getD j true = false
  ginj : ∀ j j' g, G j = some g → G j' = some g → j = j'
  late : ∀ j, D.getD j true = false → L.getD j true = true → ∃ o obj mk ob u η, LateI P cf vm fn ops n w0 D G ρ S w fr a j o obj mk ob u η
  fr : FR vm ρ fr n (PX ops n D L) a
  held : ∀ h ∈ H, ∃ o fr' v y η, HeldI P cf vm fn ops hs ρ h o fr' v y η
  seen : heldA S hs = true
section
variable {n : Nat} {ρ0 : Rho} {S0 : AS} {w0 : World} {hs : List Hd} {D L listed : Array Bool} {H : List Hq} {G : Nat → Option Nat} {fr : FrA} {a : Act}
theorem getD_tf {A : Array Bool} {j : Nat} (h : j < A.size) (d d' : Bool) : A.getD j d = A.getD j d' := by simp [h]
/-- One that is ready in truth is one that waits to be told of, or ready by the plan. -/
theorem PInv.ready (inv : PInv P cf vm fn ops n ρ0 S0 w0 hs D L listed H G ρ S w fr a) {j : Nat} (hj : j ∈ Region.ready .any ops listed) (hL : L.getD j true = false) : j ∈ Region.ready .any ops L := by
  obtain ⟨h1, o, ho, h2⟩ := mem_ready.1 hj
  refine mem_ready.2 ⟨hL, o, ho, fun e he hb => ?_⟩
  have h3 := h2 e he hb
  have hlt : e.on < listed.size := by
    rcases Nat.lt_or_ge e.on listed.size with h' | h'
    · exact h'
    · rw [Array.getD_eq_getD_getElem?, Array.getElem?_eq_none h'] at h3; cases h3
  have hlt' : e.on < ops.size := by rw [← inv.szl]; exact hlt
  rw [getD_tf hlt false true] at h3
  rw [getD_tf (by rw [inv.szL]; exact hlt') false true]
  rcases (inv.lst e.on hlt').1 h3 with h4 | ⟨g, h4⟩
  · exact inv.DL _ h4
  · exact (inv.gl _ _ h4).1
theorem PInv.unlisted (inv : PInv P cf vm fn ops n ρ0 S0 w0 hs D L listed H G ρ S w fr a) {j : Nat} (hj : listed.getD j true = false) : D.getD j true = false ∧ G j = none := by
  have hlt : j < ops.size := by rw [← inv.szl]; exact lt_of_getD hj
  refine ⟨?_, ?_⟩
  · cases hd : D.getD j true with
    | false => rfl
    | true => rw [(inv.lst j hlt).2 (.inl hd)] at hj; cases hj
  · cases hg : G j with
    | none => rfl
    | some g => rw [(inv.lst j hlt).2 (.inr ⟨g, hg⟩)] at hj; cases hj
/-- One that the plan is at is ready in truth. -/
theorem PInv.here (inv : PInv P cf vm fn ops n ρ0 S0 w0 hs D L listed H G ρ S w fr a) {j : Nat} (hD : j ∈ Region.ready .any ops D) (hL : G j = none) : j ∈ Region.ready .any ops listed := by
  obtain ⟨h1, o, ho, h2⟩ := mem_ready.1 hD
  have hlt : j < ops.size := (Array.getElem?_eq_some_iff.1 ho).1
  refine mem_ready.2 ⟨?_, o, ho, fun e he hb => ?_⟩
  · cases hl : listed.getD j true with
    | false => rfl
    | true =>
      rcases (inv.lst j hlt).1 hl with h3 | ⟨g, h3⟩
      · rw [h1] at h3; cases h3
      · rw [hL] at h3; cases h3
  · have h3 := h2 e he hb
    have hlt' : e.on < D.size := by
      rcases Nat.lt_or_ge e.on D.size with h' | h'
      · exact h'
      · rw [Array.getD_eq_getD_getElem?, Array.getElem?_eq_none h'] at h3; cases h3
    rw [getD_tf hlt' false true] at h3
    have hlt2 : e.on < ops.size := by rw [← inv.szD]; exact hlt'
    rw [getD_tf (by rw [inv.szl]; exact hlt2) false true]
    exact (inv.lst _ hlt2).2 (.inl h3)
/-- What the plan is at looks at nothing that waits to be told of. -/
theorem PInv.avoid (inv : PInv P cf vm fn ops n ρ0 S0 w0 hs D L listed H G ρ S w fr a) {e : Nat} {oe : Oper} (hD : e ∈ Region.ready .any ops D) (hL : L.getD e true = false) (he : ops[e]? = some oe) :
    (∀ d ∈ oe.looksAt ops, ¬ PX ops n D L d) ∧ (∀ d, oe.dst = some d → ¬ PX ops n D L d) ∧ ∀ j o, D.getD j true = false → L.getD j true = true → ops[j]? = some o → o.apart ops oe = true := by
  have hap : ∀ j o, D.getD j true = false → L.getD j true = true → ops[j]? = some o → o.apart ops oe = true := fun j o h1 h2 h3 => by
    obtain ⟨o', obj, mk, ob, u, η, li⟩ := inv.late j h1 h2
    have := li.op
    rw [h3] at this; cases this
    refine li.free e oe he (fun e1 => ?_) (mem_ready.1 hD).1 (not_waits hD h1)
    subst e1
    rw [hL] at h2; cases h2
  refine ⟨fun d hd ⟨_, j, o, h1, h2, h3, h4⟩ => ?_, fun d hd ⟨_, j, o, h1, h2, h3, h4⟩ => ?_, hap⟩
  · exact (Oper.apart_spec (hap j o h1 h2 h3)).1 d h4 hd
  · exact (Oper.apart_spec (hap j o h1 h2 h3)).2.1 d h4 hd
theorem PX_set {e : Nat} (hL : L.getD e true = false) {d : Nat} (h : PX ops n D L d) : PX ops n (D.setIfInBounds e true) (L.setIfInBounds e true) d := by
  obtain ⟨hd, j, o, h1, h2, h3, h4⟩ := h
  have hne : e ≠ j := by intro x; subst x; rw [hL] at h2; cases h2
  exact ⟨hd, j, o, by rw [getD_set_ne true hne]; exact h1, by rw [getD_set_ne true hne]; exact h2, h3, h4⟩
theorem FR.weaken {X X' : Nat → Prop} (h : FR vm ρ fr n X a) (hx : ∀ i, X i → X' i) : FR vm ρ fr n X' a := ⟨h.size, fun i hi hn => h.tmps i hi (fun q => hn (hx i q)), h.defs⟩
theorem getD_put {a : Act} {dst : Option Tmp} {v : Value} {d : Nat} (h : dst ≠ some d) : (a.put dst v).tmps.getD d undef = a.tmps.getD d undef := by
  cases dst with
  | none => rfl
  | some x =>
    have hne : x ≠ d := fun e => h (by rw [e])
    simp only [Act.put, Array.getD_eq_getD_getElem?]
    rw [Array.getElem?_setIfInBounds_ne hne]
theorem getD_put_out {a : Act} {v : Value} {d : Nat} (h : a.tmps.size ≤ d) : (a.put (some d) v).tmps.getD d undef = a.tmps.getD d undef := by
  simp only [Act.put, Array.getD_eq_getD_getElem?]
  rw [Array.getElem?_eq_none (by simpa using h), Array.getElem?_eq_none h]
theorem getD_put_same {a : Act} {v : Value} {d : Nat} (h : d < a.tmps.size) : (a.put (some d) v).tmps.getD d undef = v := by
  simp [Act.put, h]
/-- The plan goes on behind an operation that it is at. -/
theorem PInv.step (inv : PInv P cf vm fn ops n ρ0 S0 w0 hs D L listed H G ρ S w fr a) (hds : noDS ops = true) {e : Nat} {oe : Oper} (hD : e ∈ Region.ready .any ops D) (hL : L.getD e true = false) (he : ops[e]? = some oe) (hop : okOp n ops oe = true)
    {ρ' : Rho} {S' : AS} {w' : World} {v : AV} {y : Value} (hext : Ext ρ S w ρ' S' w') (hsat : Sat P ρ' S' w') (hv : conc ρ' v = some y) {hs' : List Hd} {H' : List Hq} (hheld : ∀ h ∈ H', ∃ o fr' v y η, HeldI P cf vm fn ops hs' ρ' h o fr' v y η) (hseen : heldA S' hs' = true) :
    PInv P cf vm fn ops n ρ0 S0 w0 hs' (D.setIfInBounds e true) (L.setIfInBounds e true) (listed.setIfInBounds e true) H' G ρ' S' w' ((cD vm n oe.dst).f fr v) (a.put oe.dst y) := by
  have hd : okD n oe.dst = true := by simp only [okOp, Bool.and_eq_true] at hop; exact hop.1
  obtain ⟨av1, av2, av3⟩ := inv.avoid hD hL he
  have helt : e < ops.size := (Array.getElem?_eq_some_iff.1 he).1
  have hGe : ∀ g, G e ≠ some g := fun g hg => by have := (inv.gl e g hg).1; rw [hL] at this; cases this
  refine ⟨hsat, inv.ext.trans hext, by simp [inv.szD], by simp [inv.szL], by simp [inv.szl], fun j hj => ?_, fun j hj => ?_, fun j g hg => ?_, inv.ginj, fun j h1 h2 => ?_, ?_, hheld, hseen⟩
  · by_cases c : e = j
    · subst c; exact getD_same (by rw [inv.szL]; exact helt)
    · rw [getD_set_ne true c] at hj ⊢; exact inv.DL j hj
  · by_cases c : e = j
    · subst c
      rw [getD_same (by rw [inv.szl]; exact helt), getD_same (by rw [inv.szD]; exact helt)]
      simp
    · rw [getD_set_ne true c, getD_set_ne true c]; exact inv.lst j hj
  · have c : e ≠ j := by intro c; subst c; exact hGe g hg
    rw [getD_set_ne true c, getD_set_ne true c]; exact inv.gl j g hg
  · have c : e ≠ j := by intro c; subst c; rw [getD_same (by rw [inv.szD]; exact helt)] at h1; cases h1
    rw [getD_set_ne true c] at h1 h2
    obtain ⟨o, obj, mk, ob, u, η, li⟩ := inv.late j h1 h2
    have hap := av3 j o h1 h2 li.op
    obtain ⟨p1, p2, p3⟩ := Oper.apart_spec hap
    refine ⟨o, obj, mk, ob, u, η, li.op, li.is, li.free.mono e, fun x hx hb => getD_set_true (li.deps x hx hb), li.ok, li.late.mono hext.le (fun S => (late_congr li.is (fun x hx i hxi hi => ?_) S).symm) rfl, fun hg => ?_, fun g hg => ?_⟩
    · symm
      exact cD_tget hd hi (fun q => p3 i q (looksAt_op (by rw [← hxi]; exact hx)))
    · exact (execOp_put o (noDS_spec hds li.op).2 a oe.dst y p3).trans (li.eval hg)
    · obtain ⟨g1, g2, g3, g4, g5⟩ := li.made g hg
      refine ⟨Nat.lt_of_lt_of_le g1 hext.size, g2, by rw [hext.old g g1 g4]; exact g3, fun q => g4 (hext.owns g g1 q), fun d hd1 hd2 => ?_⟩
      rw [getD_put (fun q => p2 d hd1 q)]
      exact g5 d hd1 hd2
  · refine FR.weaken (X := PX ops n D L) ((inv.fr.mono hext.le).put hd hv) fun i hi => PX_set hL hi
end
end
end Go.Proofs.YtfnjojdiiklleaaGreat.Ev
namespace Go.Proofs.YtfnjojdiiklleaaGreat.Ev
section
variable {P : Program} {ρ : Rho} {S : AS} {w : World} {cf : Cf} {vm : Vm} {fn : FuncId} {ops : Array Oper} {n : Nat} {ρ0 : Rho} {S0 : AS} {w0 : World} {hs : List Hd} {D L listed : Array Bool} {H : List Hq} {G : Nat → Option Nat} {fr : FrA} {a : Act}
variable {Q : Exit → Act → World → Prop} {rn : Option Nat} {N : Nat}

theorem isW_none {o : Oper} (h : o.guard = none) : isW vm ops o fr = true := by unfold isW kWant; rw [h]
theorem late_noguard {o : Oper} (h : lateOp o = true) : o.guard = none := by
  simp only [lateOp, Bool.and_eq_true] at h
  cases hg : o.guard with
  | none => rfl
  | some _ => rw [hg] at h; simp at h
/-- One that only makes a block comes up before it is told of. -/
theorem PInv.early (inv : PInv P cf vm fn ops n ρ0 S0 w0 hs D L listed H G ρ S w fr a) (hds : noDS ops = true) {j : Nat} (hj : j ∈ Region.ready .any ops listed) (hL : L.getD j true = true) {k : Nat}
    (next : ∀ {a' : Act} {w' : World} {G' : Nat → Option Nat}, (∀ i, i ≠ j → G' i = G i) → (∃ g, G' j = some g) → PInv P cf vm fn ops n ρ0 S0 w0 hs D L (listed.setIfInBounds j true) H G' ρ S w' fr a' → wpH P ops Q rn N k H (listed.setIfInBounds j true) a' w') :
    wpOpIn (Wf rn) N P ops Q j (fun a' w' => (∀ h ∈ H, ¬ waitsB ops j h.i → h.hold w') ∧ ∃ H', (∀ h ∈ H, ¬ waitsB ops j h.i → h ∈ H') ∧ wpH P ops Q rn N k H' (listed.setIfInBounds j true) a' w') a w := by
  have hun := (mem_ready.1 hj).1
  obtain ⟨hD, hG⟩ := inv.unlisted hun
  obtain ⟨o, obj, mk, ob, u, η, li⟩ := inv.late j hD hL
  have hjlt : j < ops.size := (Array.getElem?_eq_some_iff.1 li.op).1
  unfold wpOpIn
  simp only [li.op]
  have hw : Region.wanted o (yielded ops a.tmps) = true := by unfold Region.wanted; rw [late_noguard li.is]
  rw [if_pos hw]
  refine ⟨fun _ _ => trivial, ?_⟩
  rw [Oper.semAt_eq _ _ _ (noDS_spec hds li.op).1, li.eval hG, li.late.run w]
  show _ ∧ _
  have hsat' := inv.sat.push ob
  have hsz : ∀ g, g < w.heap.size → (w.heap.push ob)[g]? = w.heap[g]? := fun g hg => by rw [Array.getElem?_push, if_neg (Nat.ne_of_lt hg)]
  refine ⟨fun h hm _ => ?_, H, fun h hm _ => hm, next (G' := fun i => if i = j then some w.heap.size else G i) (fun i hi => if_neg hi) ⟨_, if_pos rfl⟩ ?_⟩
  · obtain ⟨o', fr', v, y, η, hi⟩ := inv.held h hm
    exact hi.holds hsat' inv.seen
  · have hd : okD n o.dst = true := by have := li.ok; simp only [okOp, Bool.and_eq_true] at this; exact this.1
    have hPX : ∀ d, o.dst = some d → d < n → PX ops n D L d := fun d hd hn => ⟨hn, j, o, hD, hL, li.op, hd⟩
    refine ⟨hsat', inv.ext.push ob, inv.szD, inv.szL, by simp [inv.szl], inv.DL, fun i hi => ?_, fun i g hg => ?_, fun i i' g h1 h2 => ?_, fun i h1 h2 => ?_, ?_, inv.held, inv.seen⟩
    · by_cases c : j = i
      · subst c
        rw [getD_same (by rw [inv.szl]; exact hjlt)]
        simp
      · rw [getD_set_ne true c]
        have c' : ¬ i = j := fun e => c e.symm
        simp only [c', if_false]
        exact inv.lst i hi
    · by_cases c : i = j
      · subst c; exact ⟨hL, hD⟩
      · simp only [c, if_false] at hg; exact inv.gl i g hg
    · have old : ∀ {i g}, G i = some g → g < w.heap.size := fun {i g} h => by
        obtain ⟨q1, q2⟩ := inv.gl i g h
        obtain ⟨_, _, _, _, _, _, li'⟩ := inv.late i q2 q1
        exact (li'.made g h).1
      by_cases c : i = j <;> by_cases c' : i' = j
      · rw [c, c']
      · simp only [c, if_true] at h1; simp only [c', if_false] at h2
        cases h1
        exact absurd (old h2) (Nat.lt_irrefl _)
      · simp only [c, if_false] at h1; simp only [c', if_true] at h2
        cases h2
        exact absurd (old h1) (Nat.lt_irrefl _)
      · simp only [c, if_false] at h1; simp only [c', if_false] at h2
        exact inv.ginj i i' g h1 h2
    · by_cases c : i = j
      · subst c
        refine ⟨o, obj, mk, ob, u, η, li.op, li.is, li.free, li.deps, li.ok, li.late, fun hg => by simp at hg, fun g hg => ?_⟩
        · simp only [if_true] at hg
          cases hg
          refine ⟨by simp, inv.ext.size, by simp, fun ⟨p, oo, c, q1, q2⟩ => ?_, fun d hd1 hd2 => ?_⟩
          · have := inv.sat.bnd _ _ _ _ q1; omega
          · rw [hd1]; exact getD_put_same (by rw [inv.fr.size]; exact hd2)
      · obtain ⟨o2, obj2, mk2, ob2, u2, η2, li2⟩ := inv.late i h1 h2
        have hap : o2.apart ops o = true := li2.free j o li.op (Ne.symm c) hD fun ⟨o', ho', e, he, hb, heq⟩ => by
          rw [li.op] at ho'; cases ho'
          have h3 := li.deps e he hb
          rw [heq] at h3
          have hlt : i < D.size := lt_of_getD h1
          rw [getD_tf hlt false true, h1] at h3; cases h3
        obtain ⟨p1, p2, p3⟩ := Oper.apart_spec hap
        refine ⟨o2, obj2, mk2, ob2, u2, η2, li2.op, li2.is, li2.free, li2.deps, li2.ok, li2.late, fun hg => (execOp_put o2 (noDS_spec hds li2.op).2 a o.dst _ p3).trans (li2.eval (by simpa only [c, if_false] using hg)), fun g hg => ?_⟩
        simp only [c, if_false] at hg
        obtain ⟨g1, g2, g3, g4, g5⟩ := li2.made g hg
        refine ⟨by simp; omega, g2, by show (w.heap.push ob)[g]? = _; rw [hsz g g1]; exact g3, g4, fun d hd1 hd2 => ?_⟩
        rw [getD_put (fun q => p2 d hd1 q)]
        exact g5 d hd1 hd2
    · refine ⟨by cases o.dst <;> simp [Act.put, inv.fr.size], fun i hi hn => ?_, by cases o.dst <;> exact inv.fr.defs⟩
      rw [inv.fr.tmps i hi hn]
      by_cases hq : o.dst = some i
      · rw [hq]
        rw [getD_put_out (by rw [inv.fr.size]; exact Nat.le_of_not_lt fun hlt => hn (hPX i hq hlt))]
      · rw [getD_put hq]
/-- Such a block is told of. -/
theorem PInv.bind (inv : PInv P cf vm fn ops n ρ0 S0 w0 hs D L listed H G ρ S w fr a) {i : Nat} {o : Oper} {obj : AO} {mk : Nam → AV} {ob : Obj} {u : Nat → Value} {η : Operand → Value} (hD : D.getD i true = false) (hL : L.getD i true = true) {g : Nat} (hg : G i = some g)
    (li : LateI P cf vm fn ops n w0 D G ρ S w fr a i o obj mk ob u η) {nm : Nam} {S' : AS} (hnm : nm.n = nm.p.num) (hfree : S.at nm.p = .free) (hS : ∀ p, S'.at p = if p = nm.p then obj else S.at p) (htr : Tr S S') (hseen : heldA S' hs = true) :
    PInv P cf vm fn ops n ρ0 S0 w0 hs (D.setIfInBounds i true) L listed H (fun j => if j = i then none else G j) (ρ.set nm.p (.blk g 0 0)) S' w ((cD vm n o.dst).f fr (mk nm)) a := by
  have hn : ρ nm.p = none := by have := inv.sat.obj nm.p; rw [hfree] at this; exact this
  have hle : Le ρ (ρ.set nm.p (.blk g 0 0)) := Rho.set_le hn
  obtain ⟨g1, g2, g3, g4, g5⟩ := li.made g hg
  obtain ⟨r1, r2⟩ := li.late.rel _ w.heap nm g hle (look_set hnm _) g3
  obtain ⟨b1, b2⟩ := inv.sat.bind inv.ext hfree hS htr g1 g2 g4 r1
  have hilt : i < ops.size := (Array.getElem?_eq_some_iff.1 li.op).1
  have hd : okD n o.dst = true := by have := li.ok; simp only [okOp, Bool.and_eq_true] at this; exact this.1
  refine ⟨b1, b2, by simp [inv.szD], inv.szL, inv.szl, fun j hj => ?_, fun j hj => ?_, fun j g' hg' => ?_, fun j j' g' h1 h2 => ?_, fun j h1 h2 => ?_, ?_, fun h hm => ?_, hseen⟩
  · by_cases c : i = j
    · subst c; exact hL
    · rw [getD_set_ne true c] at hj; exact inv.DL j hj
  · by_cases c : i = j
    · subst c
      rw [getD_same (by rw [inv.szD]; exact hilt)]
      simp only [true_or, iff_true]
      exact (inv.lst i hilt).2 (.inr ⟨g, hg⟩)
    · have c' : ¬ j = i := fun e => c e.symm
      rw [getD_set_ne true c]
      simp only [c', if_false]
      exact inv.lst j hj
  · have c : ¬ j = i := by intro c; simp [c] at hg'
    simp only [c, if_false] at hg'
    rw [getD_set_ne true (fun e => c e.symm)]
    exact inv.gl j g' hg'
  · have c : ¬ j = i := by intro c; simp [c] at h1
    have c' : ¬ j' = i := by intro c; simp [c] at h2
    simp only [c, if_false] at h1
    simp only [c', if_false] at h2
    exact inv.ginj j j' g' h1 h2
  · have c : i ≠ j := by intro c; subst c; rw [getD_same (by rw [inv.szD]; exact hilt)] at h1; cases h1
    have c' : ¬ j = i := fun e => c e.symm
    rw [getD_set_ne true c] at h1
    obtain ⟨o2, obj2, mk2, ob2, u2, η2, li2⟩ := inv.late j h1 h2
    have hap : o2.apart ops o = true := li2.free i o li.op c hD fun ⟨o', ho', e, he, hb, heq⟩ => by
      rw [li.op] at ho'; cases ho'
      have h3 := li.deps e he hb
      rw [heq] at h3
      have hlt : j < D.size := lt_of_getD h1
      rw [getD_tf hlt false true, h1] at h3; cases h3
    obtain ⟨p1, p2, p3⟩ := Oper.apart_spec hap
    refine ⟨o2, obj2, mk2, ob2, u2, η2, li2.op, li2.is, li2.free.mono i, fun x hx hb => getD_set_true (li2.deps x hx hb), li2.ok, li2.late.mono hle (fun S => (late_congr li2.is (fun x hx k hxk hk => ?_) S).symm) rfl, fun hg' => ?_, fun g' hg' => ?_⟩
    · symm
      exact cD_tget hd hk (fun q => p3 k q (looksAt_op (by rw [← hxk]; exact hx)))
    · exact li2.eval (by simpa only [c', if_false] using hg')
    · simp only [c', if_false] at hg'
      obtain ⟨q1, q2, q3, q4, q5⟩ := li2.made g' hg'
      refine ⟨q1, q2, q3, fun ⟨p, oo, cc, x1, x2⟩ => ?_, q5⟩
      by_cases ep : p = nm.p
      · subst ep
        rw [Rho.set_same] at x1; cases x1
        exact c' (inv.ginj _ _ _ hg' hg)
      · rw [Rho.set_other _ _ ep] at x1
        rw [hS, if_neg ep] at x2
        exact q4 ⟨p, oo, cc, x1, x2⟩
  · refine ⟨inv.fr.size, fun k hk hnx => ?_, ?_⟩
    · by_cases hq : o.dst = some k
      · by_cases hkn : k < n
        · have hcd : (cD vm n o.dst).f fr (mk nm) = ⟨(tsF vm k).f fr.t (mk nm), fr.ds⟩ := by rw [hq]; simp only [cD, show Nat.blt k n = true by simpa using hkn]
          rw [hcd]
          show conc _ ((tgF vm k).f ((tsF vm k).f fr.t (mk nm))) = _
          rw [tget_same, r2, g5 k hq hkn]
        · have hcd : (cD vm n o.dst).f fr (mk nm) = fr := by
            rw [hq]
            have : Nat.blt k n = false := by cases hb : Nat.blt k n with | false => rfl | true => exact absurd (by simpa using hb) hkn
            simp only [cD, this]
          rw [hcd]
          exact conc_mono hle _ (inv.fr.tmps k hk fun ⟨x, _⟩ => hkn x)
      · rw [cD_tget hd hk hq]
        refine conc_mono hle _ (inv.fr.tmps k hk fun ⟨x, j, o2, y1, y2, y3, y4⟩ => hnx ⟨x, j, o2, ?_, y2, y3, y4⟩)
        have c : i ≠ j := by intro c; subst c; rw [li.op] at y3; cases y3; exact hq y4
        rw [getD_set_ne true c]; exact y1
    · have hds : ((cD vm n o.dst).f fr (mk nm)).ds = fr.ds := by
        cases o.dst with
        | none => rfl
        | some d => simp only [cD]; split <;> rfl
      rw [hds]
      exact All2.mono (fun _ _ ⟨g, o, c, h1, h2⟩ => ⟨g, o, c, hle.look h1, h2⟩) inv.fr.defs
  · obtain ⟨o', fr', v, y, η', hi⟩ := inv.held h hm
    exact ⟨o', fr', v, y, η', hi.mono hle fun q hq _ => hq⟩
end
end Go.Proofs.YtfnjojdiiklleaaGreat.Ev
