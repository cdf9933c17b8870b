/- A run of a program on abstract memory: outcomes that are one; what no one reaches any more is forgotten. -/
import Derived.Test.YtfmaapbibmnfgaaGreatDoorEvZh
import Derived.Test.YtfmaapbibmnfgaaGreatDoorEvC
set_option linter.unusedSectionVars false
set_option linter.unusedVariables false
set_option linter.unusedSimpArgs false
namespace Go.Proofs.YtfmaapbibmnfgaaGreatDoor.Ev
variable [Vr]
section
variable {P : Program}

/-! ### The names that values lean on -/
mutual
theorem idsV_app : ∀ (v : AV) (acc : List Nam), idsV v acc = idsV v [] ++ acc
  | .bool _, _ => rfl
  | .int _ _, _ => rfl
  | .str _, _ => rfl
  | .rstr _ _, _ => rfl
  | .ifo _, _ => rfl
  | .ptr _ _, _ => rfl
  | .nilp, _ => rfl
  | .slice _ _ _ _, _ => rfl
  | .row _ _ _ _, _ => rfl
  | .tail _ _ _ _, _ => rfl
  | .nils, _ => rfl
  | .map _, _ => rfl
  | .nilm, _ => rfl
  | .func _ a b, acc => by
    simp only [idsV]
    rw [idsVs_app a (idsVs b acc), idsVs_app a (idsVs b []), idsVs_app b acc, List.append_assoc]
  | .yld _, _ => rfl
  | .nilf, _ => rfl
  | .iface _ v, acc => by simp only [idsV]; exact idsV_app v acc
  | .nili, _ => rfl
  | .agg l, acc => by simp only [idsV]; exact idsVs_app l acc
  | .tuple l, acc => by simp only [idsV]; exact idsVs_app l acc
  | .stamp _, _ => rfl
theorem idsVs_app : ∀ (l : List AV) (acc : List Nam), idsVs l acc = idsVs l [] ++ acc
  | [], _ => rfl
  | v :: l, acc => by
    simp only [idsVs]
    rw [idsV_app v (idsVs l acc), idsV_app v (idsVs l []), idsVs_app l acc, List.append_assoc]
end
theorem mem_cons_ids {v : AV} {l : List AV} {i : Nam} : i ∈ idsVs (v :: l) [] ↔ i ∈ idsV v [] ∨ i ∈ idsVs l [] := by
  simp only [idsVs]; rw [idsV_app, List.mem_append]
theorem mem_func_ids {f : FuncId} {a b : List AV} {i : Nam} : i ∈ idsV (.func f a b) [] ↔ i ∈ idsVs a [] ∨ i ∈ idsVs b [] := by
  simp only [idsV]; rw [idsVs_app, List.mem_append]
mutual
theorem conc_congr {ρ ρ' : Rho} : ∀ (v : AV), (∀ i ∈ idsV v [], look ρ' i = look ρ i) → conc ρ' v = conc ρ v
  | .bool _, _ => by simp only [conc]
  | .int _ _, _ => by simp only [conc]
  | .str _, _ => by simp only [conc]
  | .rstr _ _, _ => by simp only [conc]
  | .ifo b, h => by simp only [conc, h b (by simp [idsV])]
  | .ptr b _, h => by simp only [conc, h b (by simp [idsV])]
  | .nilp, _ => by simp only [conc]
  | .slice b _ _ _, h => by simp only [conc, h b (by simp [idsV])]
  | .row b _ _ _, h => by simp only [conc, h b (by simp [idsV])]
  | .tail b _ _ _, h => by simp only [conc, h b (by simp [idsV])]
  | .nils, _ => by simp only [conc]
  | .map b, h => by simp only [conc, h b (by simp [idsV])]
  | .nilm, _ => by simp only [conc]
  | .func _ a b, h => by
    simp only [conc, concs_congr a fun i hi => h i (mem_func_ids.2 (.inl hi)), concs_congr b fun i hi => h i (mem_func_ids.2 (.inr hi))]
  | .yld b, h => by simp only [conc, h b (by simp [idsV])]
  | .nilf, _ => by simp only [conc]
  | .iface _ v, h => by simp only [conc, conc_congr v fun i hi => h i (by simpa only [idsV] using hi)]
  | .nili, _ => by simp only [conc]
  | .agg l, h => by simp only [conc, concs_congr l fun i hi => h i (by simpa only [idsV] using hi)]
  | .tuple l, h => by simp only [conc, concs_congr l fun i hi => h i (by simpa only [idsV] using hi)]
  | .stamp b, h => by simp only [conc, h b (by simp [idsV])]
theorem concs_congr {ρ ρ' : Rho} : ∀ (l : List AV), (∀ i ∈ idsVs l [], look ρ' i = look ρ i) → concs ρ' l = concs ρ l
  | [], _ => by simp only [concs]
  | v :: l, h => by
    simp only [concs, conc_congr v fun i hi => h i (mem_cons_ids.2 (.inl hi)), concs_congr l fun i hi => h i (mem_cons_ids.2 (.inr hi))]
end
theorem idsE_mem {es : List Ent} {acc : List Nam} {x : Ent} (hx : x ∈ es) {i : Nam} (hi : i = x.id ∨ i ∈ idsV x.key [] ∨ i ∈ idsV x.val []) : i ∈ idsE es acc := by
  induction es with
  | nil => cases hx
  | cons y l ih =>
    have e : idsE (y :: l) acc = y.id :: idsV y.key (idsV y.val (idsE l acc)) := rfl
    rw [e, idsV_app y.key, idsV_app y.val]
    rcases List.mem_cons.1 hx with rfl | hx
    · rcases hi with h | h | h <;> simp [h]
    · simp [ih hx]
theorem All2.imp {α β : Type} {R Q : α → β → Prop} {l : List α} {m : List β} (h : All2 R l m) (f : ∀ a b, a ∈ l → R a b → Q a b) : All2 Q l m := by
  induction h with
  | nil => exact .nil
  | cons h t ih => exact .cons (f _ _ (by simp) h) (ih fun a b ha => f a b (List.mem_cons_of_mem _ ha))
theorem app_mem {α : Type} {l m : List α} {x : α} : x ∈ app l m ↔ x ∈ l ∨ x ∈ m := by rw [app_eq]; exact List.mem_append
theorem oKeep_ne {o : AO} (h : okKeep o = true) : o ≠ .free ∧ ∀ l, o ≠ .loop l := by
  cases o <;> first | (cases h; done) | exact ⟨fun e => (by cases e), fun _ e => (by cases e)⟩
/-- Under other names that agree on those that an object leans on. -/
theorem relO_congr {ρ ρ' : Rho} {heap : Array Obj} {p : Pth} {o : AO} (hk : okKeep o = true) (hp : ρ' p = ρ p) (hi : ∀ i ∈ idsO o [], look ρ' i = look ρ i) (h : relO P ρ heap p o) : relO P ρ' heap p o := by
  cases o with
  | free => cases hk
  | dead => exact trivial
  | cells m t cs =>
    obtain ⟨g, off, cap, arr, fz, l, r⟩ := h
    exact ⟨g, off, cap, arr, fz, l, hp.trans r.here, r.obj, r.thaw, (concs_congr cs hi).trans r.vals, r.lies, r.own, r.row, r.lib⟩
  | map es clk =>
    obtain ⟨g, off, cap, l, h1, h2, h3⟩ := h
    obtain ⟨m, q1, q2⟩ := h3.perm
    refine ⟨g, off, cap, l, hp.trans h1, h2, ⟨m, q1.imp fun x e hx hr => ?_, q2⟩, h3.born, h3.below, h3.keys⟩
    have hid : ∀ i, (i = x.id ∨ i ∈ idsV x.key [] ∨ i ∈ idsV x.val []) → look ρ' i = look ρ i := fun i hh => hi i (idsE_mem hx hh)
    exact ⟨(conc_congr _ fun i q => hid i (.inr (.inl q))).trans hr.key, (conc_congr _ fun i q => hid i (.inr (.inr q))).trans hr.val, (hid _ (.inl rfl)).trans hr.id⟩
  | iter m since seen base sp =>
    cases m with
    | none =>
      obtain ⟨g, cap, s, c, d, h1, h2⟩ := h
      exact ⟨g, cap, s, c, d, hp.trans h1, h2⟩
    | some m =>
      obtain ⟨g, cap, gm, o, c, seen', ks, h1, h2, h3, h4, h5⟩ := h
      have hid : ∀ i, (i = m ∨ i ∈ seen) → look ρ' i = look ρ i := fun i hh => hi i (by
        show i ∈ m :: app seen []
        rcases hh with rfl | hh
        · exact List.mem_cons_self
        · exact List.mem_cons_of_mem _ (app_mem.2 (.inl hh)))
      exact ⟨g, cap, gm, o, c, seen', ks, hp.trans h1, h2, (hid _ (.inl rfl)).trans h3, h4.imp fun i k hs hl => (hid i (.inr hs)).trans hl, h5⟩
  | fill n c => obtain ⟨g, cap, b, h1, h2⟩ := h; exact ⟨g, cap, b, hp.trans h1, h2⟩
  | loop l => cases hk
  | defr => obtain ⟨g, off, cap, h1, h2⟩ := h; exact ⟨g, off, cap, hp.trans h1, h2⟩
section
variable {ρ ρ1 ρ2 : Rho}
theorem at_between (h1 : Le ρ ρ1) (h2 : Le ρ ρ2) {p : Pth} {t0 t : Tgt} (h0 : ρ p = some t0) (h : ρ1 p = some t) : ρ2 p = some t := by
  have := h1 _ _ h0; rw [h] at this; cases this; exact h2 _ _ h0
theorem look_between (h1 : Le ρ ρ1) (h2 : Le ρ ρ2) {i : Nam} {t0 t : Tgt} (h0 : look ρ i = some t0) (h : look ρ1 i = some t) : look ρ2 i = some t := by
  have := h1.look h0; rw [h] at this; cases this; exact h2.look h0
theorem conc_between (h1 : Le ρ ρ1) (h2 : Le ρ ρ2) {v : AV} {u0 u : Value} (h0 : conc ρ v = some u0) (h : conc ρ1 v = some u) : conc ρ2 v = some u := by
  have := conc_mono h1 v h0; rw [h] at this; cases this; exact conc_mono h2 v h0
theorem concs_between (h1 : Le ρ ρ1) (h2 : Le ρ ρ2) {v : List AV} {u0 u : List Value} (h0 : concs ρ v = some u0) (h : concs ρ1 v = some u) : concs ρ2 v = some u := by
  have := concs_mono h1 v h0; rw [h] at this; cases this; exact concs_mono h2 v h0
theorem All2.both {α β γ : Type} {R : α → β → Prop} {Q : α → γ → Prop} {T : α → γ → Prop} : ∀ {l : List α} {m : List β} {n : List γ}, All2 R l m → All2 Q l n → (∀ a b c, R a b → Q a c → T a c) → All2 T l n
  | [], _, _, .nil, .nil, _ => .nil
  | _ :: _, _, _, .cons h t, .cons h' t', f => .cons (f _ _ _ h h') (t.both t' f)
/-- Under other names that hold of what was there. -/
theorem relO_between (h1 : Le ρ ρ1) (h2 : Le ρ ρ2) {heap0 heap1 : Array Obj} {p : Pth} {o : AO} (hf : o ≠ .free) (h0 : relO P ρ heap0 p o) (h : relO P ρ1 heap1 p o) : relO P ρ2 heap1 p o := by
  cases o with
  | free => exact absurd rfl hf
  | dead => exact trivial
  | cells m t cs =>
    obtain ⟨_, _, _, _, _, _, r0⟩ := h0
    obtain ⟨g, off, cap, arr, fz, l, r⟩ := h
    exact ⟨g, off, cap, arr, fz, l, at_between h1 h2 r0.here r.here, r.obj, r.thaw, concs_between h1 h2 r0.vals r.vals, r.lies, r.own, r.row, r.lib⟩
  | map es clk =>
    obtain ⟨_, _, _, _, a1, _, a3⟩ := h0
    obtain ⟨g, off, cap, l, b1, b2, b3⟩ := h
    obtain ⟨_, q1, _⟩ := a3.perm
    obtain ⟨m, q2, q3⟩ := b3.perm
    refine ⟨g, off, cap, l, at_between h1 h2 a1 b1, b2, ⟨m, q1.both q2 fun x e0 e hr0 hr => ?_, q3⟩, b3.born, b3.below, b3.keys⟩
    exact ⟨conc_between h1 h2 hr0.key hr.key, conc_between h1 h2 hr0.val hr.val, look_between h1 h2 hr0.id hr.id⟩
  | iter m since seen base sp =>
    cases m with
    | none =>
      obtain ⟨_, _, _, _, _, a1, _⟩ := h0
      obtain ⟨g, cap, s, c, d, b1, b2⟩ := h
      exact ⟨g, cap, s, c, d, at_between h1 h2 a1 b1, b2⟩
    | some m =>
      obtain ⟨_, _, _, _, _, _, _, a1, _, a3, a4, _⟩ := h0
      obtain ⟨g, cap, gm, o, c, seen', ks, b1, b2, b3, b4, b5⟩ := h
      exact ⟨g, cap, gm, o, c, seen', ks, at_between h1 h2 a1 b1, b2, look_between h1 h2 a3 b3, a4.both b4 fun i k0 k x y => look_between h1 h2 x y, b5⟩
  | fill n c =>
    obtain ⟨_, _, _, a1, _⟩ := h0
    obtain ⟨g, cap, b, b1, b2⟩ := h
    exact ⟨g, cap, b, at_between h1 h2 a1 b1, b2⟩
  | loop l =>
    obtain ⟨_, _, _, _, a1, _, a3⟩ := h0
    obtain ⟨g, off, cap, r, b1, b2, b3⟩ := h
    obtain ⟨_, _, a4⟩ := a3.defers
    obtain ⟨o, c, b4⟩ := b3.defers
    exact ⟨g, off, cap, r, at_between h1 h2 a1 b1, b2, b3.state, b3.pending, b3.size, fun i hi => conc_between h1 h2 (a3.tmps i hi) (b3.tmps i hi), b3.params, b3.assign, b3.body, o, c, look_between h1 h2 a4 b4⟩
  | defr =>
    obtain ⟨_, _, _, a1, _⟩ := h0
    obtain ⟨g, off, cap, b1, b2⟩ := h
    exact ⟨g, off, cap, at_between h1 h2 a1 b1, b2⟩
end

/-! ### What is kept -/
theorem isFree_iff {o : AO} : isFree o = true ↔ o = .free := by cases o <;> simp [isFree, oFree]
theorem itL_all {α : Type} {f : α → Bool} {l : List α} : itL true (fun a _ r => cB (f a) r false) l = true ↔ ∀ a ∈ l, f a = true := by
  induction l with
  | nil => simp
  | cons a l ih =>
    show cB (f a) (itL true (fun a _ r => cB (f a) r false) l) false = true ↔ _
    cases h : f a with
    | false => simp [h]
    | true => simp [h, ih]
theorem allIn_iff {s : AS} {l : List Nam} : allIn s l = true ↔ ∀ i ∈ l, s.at i.p ≠ .free ∧ i.n = i.p.num := by
  have e : (fun (i : Nam) (_ : List Nam) (r : Bool) => cB (isFree (getA s i)) false (cB (Nat.beq i.n i.p.num) r false)) = fun i _ r => cB (bAnd (bNot (isFree (getA s i))) (Nat.beq i.n i.p.num)) r false := by
    funext i _ r
    cases isFree (getA s i) <;> cases Nat.beq i.n i.p.num <;> rfl
  unfold allIn
  rw [e, itL_all]
  refine forall_congr' fun i => imp_congr_right fun _ => ?_
  rw [getA_eq]
  have h1 : isFree (s.at i.p) = true ↔ s.at i.p = .free := isFree_iff
  cases hf : isFree (s.at i.p) with
  | true => simp [bAnd, bNot, h1.1 hf]
  | false =>
    have : s.at i.p ≠ .free := fun x => by rw [h1.2 x] at hf; cases hf
    simp [bAnd, bNot, this]
theorem closedL_iff {s : AS} {l : List (Nam × AO)} : closedL s l = true ↔ ∀ x ∈ l, okKeep x.2 = true ∧ allIn s (idsO x.2 []) = true := by
  have e : (fun (x : Nam × AO) (_ : List (Nam × AO)) (r : Bool) => cB (okKeep x.2) (cB (allIn s (idsO x.2 [])) r false) false) = fun x _ r => cB (bAnd (okKeep x.2) (allIn s (idsO x.2 []))) r false := by
    funext x _ r
    cases okKeep x.2 <;> cases allIn s (idsO x.2 []) <;> rfl
  unfold closedL
  rw [e, itL_all]
  refine forall_congr' fun i => imp_congr_right fun _ => ?_
  cases okKeep i.2 <;> cases allIn s (idsO i.2 []) <;> simp [bAnd]
theorem hget_setL_out {h : H6} {p : Pth} : ∀ {l : List (Nam × AO)}, (∀ x ∈ l, x.1.p ≠ p) → hget (setL h l) p = hget h p
  | [], _ => rfl
  | x :: l, hn => by
    show hget (hput (setL h l) x.1.p x.2) p = _
    rw [hget_other _ _ _ _ (Ne.symm (hn x (by simp)))]
    exact hget_setL_out fun y hy => hn y (by simp [hy])
theorem hget_setL_in {h : H6} {p : Pth} {f : Pth → AO} : ∀ {l : List (Nam × AO)}, (∀ x ∈ l, x.2 = f x.1.p) → (∃ x ∈ l, x.1.p = p) → hget (setL h l) p = f p
  | [], _, hx => by obtain ⟨_, hx, _⟩ := hx; cases hx
  | x :: l, hf, hx => by
    show hget (hput (setL h l) x.1.p x.2) p = _
    by_cases e : p = x.1.p
    · rw [e, hget_same]; exact hf x (by simp)
    · rw [hget_other _ _ _ _ e]
      refine hget_setL_in (fun y hy => hf y (by simp [hy])) ?_
      obtain ⟨y, hy, hp⟩ := hx
      rcases List.mem_cons.1 hy with rfl | hy
      · exact absurd hp.symm e
      · exact ⟨y, hy, hp⟩
theorem keepL_mem {s0 : AS} {h k : H6} : ∀ {l : List Nam} {x : Nam × AO}, x ∈ keepL s0 h k l → x.2 = hget h x.1.p ∧ x.1 ∈ l
  | [], x, hx => by cases hx
  | i :: l, x, hx => by
    have e : keepL s0 h k (i :: l) = cB (isFree (getA s0 i)) (cB (isFree (hget k i.p)) (keepL s0 h k l) ((i, hget h i.p) :: keepL s0 h k l)) ((i, hget h i.p) :: keepL s0 h k l) := rfl
    rw [e] at hx
    have two : x ∈ (i, hget h i.p) :: keepL s0 h k l → x.2 = hget h x.1.p ∧ x.1 ∈ i :: l := fun hx => by
      rcases List.mem_cons.1 hx with rfl | hx
      · exact ⟨rfl, by simp⟩
      · obtain ⟨a, b⟩ := keepL_mem hx; exact ⟨a, by simp [b]⟩
    cases h1 : isFree (getA s0 i) with
    | false => rw [h1] at hx; exact two hx
    | true =>
      rw [h1] at hx
      cases h2 : isFree (hget k i.p) with
      | false => rw [h2] at hx; exact two hx
      | true => rw [h2] at hx; obtain ⟨a, b⟩ := keepL_mem hx; exact ⟨a, by simp [b]⟩
theorem keepL_old {s0 : AS} {h k : H6} {l : List Nam} {i : Nam} (hi : i ∈ l) (hf : s0.at i.p ≠ .free) : ∃ x ∈ keepL s0 h k l, x.1 = i := by
  induction l with
  | nil => cases hi
  | cons j l ih =>
    have e : keepL s0 h k (j :: l) = cB (isFree (getA s0 j)) (cB (isFree (hget k j.p)) (keepL s0 h k l) ((j, hget h j.p) :: keepL s0 h k l)) ((j, hget h j.p) :: keepL s0 h k l) := rfl
    rw [e]
    rcases List.mem_cons.1 hi with rfl | hi
    · have : isFree (getA s0 i) = false := by
        cases hb : isFree (getA s0 i) with
        | false => rfl
        | true => exact absurd (by rw [← getA_eq]; exact isFree_iff.1 hb) hf
      rw [this]
      exact ⟨_, List.mem_cons_self, rfl⟩
    · obtain ⟨x, hx, hxi⟩ := ih hi
      cases isFree (getA s0 j) with
      | false => exact ⟨x, List.mem_cons_of_mem _ hx, hxi⟩
      | true =>
        cases isFree (hget k j.p) with
        | false => exact ⟨x, List.mem_cons_of_mem _ hx, hxi⟩
        | true => exact ⟨x, hx, hxi⟩
theorem endC_some {s0 : AS} {v : AV} {d : List (Nam × AO)} {y : Left} (h : endC s0 v d = some y) : y = (v, d) ∧ allIn ⟨setL s0.top d, s0.lay, [], 0⟩ (idsV v []) = true ∧ closedL ⟨setL s0.top d, s0.lay, [], 0⟩ d = true := by
  unfold endC at h
  cases h1 : allIn ⟨setL s0.top d, s0.lay, [], 0⟩ (idsV v []) with
  | false => rw [h1] at h; cases h
  | true =>
    cases h2 : closedL ⟨setL s0.top d, s0.lay, [], 0⟩ d with
    | false => rw [h1, h2] at h; cases h
    | true => rw [h1, h2] at h; cases h; exact ⟨rfl, rfl, rfl⟩
theorem namesL_mem {h : H6} {acc : List Nam} : ∀ {d : List (Nam × AO)}, (∀ i ∈ acc, i ∈ namesL h d acc) ∧ ∀ x ∈ d, hget h x.1.p ≠ .free ∨ x.1 ∈ namesL h d acc
  | [] => ⟨fun _ h => h, fun x hx => by cases hx⟩
  | y :: d => by
    obtain ⟨a, b⟩ := namesL_mem (h := h) (acc := acc) (d := d)
    have e : namesL h (y :: d) acc = oFree (hget h y.1.p) (namesL h d acc) (y.1 :: namesL h d acc) := rfl
    have sub : ∀ i ∈ namesL h d acc, i ∈ namesL h (y :: d) acc := fun i hi => by
      rw [e]; cases hget h y.1.p <;> first | exact hi | exact List.mem_cons_of_mem _ hi
    refine ⟨fun i hi => sub i (a i hi), fun x hx => ?_⟩
    rcases List.mem_cons.1 hx with rfl | hx
    · by_cases hf : hget h x.1.p = .free
      · right; rw [e, hf]; exact List.mem_cons_self
      · exact .inl hf
    · exact (b x hx).imp_right (sub _)
/-- The memory in which a call begins whose outcomes become one. -/
noncomputable def under (S : AS) : AS := ⟨E6, S.top :: S.lay, [], S.next⟩
theorem under_at (S : AS) (p : Pth) : (under S).at p = S.at p := by
  show oFree (hget E6 p) (hget E6 p) (layG (S.top :: S.lay) ⟨0, p⟩) = _
  rw [hget_E6]; rfl
theorem outS_tr (S : AS) (d : List (Nam × AO)) : Tr S (outS S d) := by
  refine ⟨rfl, fun hl => ?_⟩
  have hlog : (outS S d).log = namesL S.top d S.log := by
    show cL S.lay S.log (fun _ _ => namesL S.top d S.log) = _
    cases e : S.lay with
    | nil => exact absurd e hl
    | cons a l => rfl
  rw [hlog]
  obtain ⟨a, b⟩ := namesL_mem (h := S.top) (acc := S.log) (d := d)
  refine ⟨a, fun p => ?_⟩
  by_cases hx : ∃ x ∈ d, x.1.p = p
  · obtain ⟨x, hx, rfl⟩ := hx
    exact .inr ((b x hx).imp_right fun h => ⟨_, h, rfl⟩)
  · have : hget (outS S d).top p = hget S.top p := hget_setL_out fun x hx' e => hx ⟨x, hx', e⟩
    rw [this]
    exact (Classical.em _).imp_right .inl
open Classical in
theorem merge_ok {ρ ρ1 : Rho} {S S1 : AS} {w w1 : World} {v : AV} {u : Value} {y : Left} (hs : Sat P ρ S w) (he : Ext ρ (under S) w ρ1 S1 w1) (h1 : Sat P ρ1 S1 w1) (hv : conc ρ1 v = some u) (hy : endA S (v, S1) = some y) :
    ∃ ρ2, Sat P ρ2 (outS S y.2) w1 ∧ Ext ρ S w ρ2 (outS S y.2) w1 ∧ conc ρ2 y.1 = some u := by
  obtain ⟨rfl, hc1, hc2⟩ := endC_some hy
  generalize hd : keepL S S1.top (reach S1.top (rootsL S S1.top v S1.log) E6) S1.log = d at *
  have F1 : ∀ x ∈ d, x.2 = hget S1.top x.1.p ∧ x.1 ∈ S1.log := fun x hx => keepL_mem (by rw [hd]; exact hx)
  have F2 : ∀ i ∈ S1.log, S.at i.p ≠ .free → ∃ x ∈ d, x.1 = i := fun i hi hf => by rw [← hd]; exact keepL_old hi hf
  have F3 : ∀ i ∈ idsV v [], (outS S d).at i.p ≠ .free ∧ i.n = i.p.num := allIn_iff.1 hc1
  have F4 : ∀ x ∈ d, okKeep x.2 = true ∧ ∀ i ∈ idsO x.2 [], (outS S d).at i.p ≠ .free ∧ i.n = i.p.num := fun x hx => by
    obtain ⟨a, b⟩ := closedL_iff.1 hc2 x hx
    exact ⟨a, allIn_iff.1 b⟩
  have in_ : ∀ p, (∃ x ∈ d, x.1.p = p) → (outS S d).at p = S1.at p ∧ ∃ x ∈ d, x.1.p = p ∧ x.2 = S1.at p := fun p hp => by
    have e1 : hget (outS S d).top p = hget S1.top p := hget_setL_in (f := fun p => hget S1.top p) (fun x hx => (F1 x hx).1) hp
    obtain ⟨x, hx, rfl⟩ := hp
    have hne : hget S1.top x.1.p ≠ .free := by rw [← (F1 x hx).1]; exact (oKeep_ne (F4 x hx).1).1
    have e2 : S1.at x.1.p = hget S1.top x.1.p := AS.at_top hne
    rw [AS.at_top (by rw [e1]; exact hne), e1, e2]
    exact ⟨rfl, x, hx, rfl, (F1 x hx).1⟩
  have out : ∀ p, (¬ ∃ x ∈ d, x.1.p = p) → (outS S d).at p = S.at p ∧ (S.at p ≠ .free → S1.at p = S.at p) := fun p hp => by
    have e1 : hget (outS S d).top p = hget S.top p := hget_setL_out fun x hx e => hp ⟨x, hx, e⟩
    refine ⟨?_, fun hf => ?_⟩
    · show oFree (hget (outS S d).top p) (hget (outS S d).top p) (layG S.lay ⟨0, p⟩) = oFree (hget S.top p) (hget S.top p) (layG S.lay ⟨0, p⟩)
      rw [e1]
    · have e2 : hget S1.top p = .free := by
        rcases (he.tr.2 (by intro x; cases x)).2 p with h | h | ⟨i, hi, rfl⟩
        · exact h
        · exact absurd (hget_E6 p) h
        · obtain ⟨x, hx, rfl⟩ := F2 i hi hf
          exact absurd ⟨x, hx, rfl⟩ hp
      show oFree (hget S1.top p) (hget S1.top p) (layG S1.lay ⟨0, p⟩) = _
      rw [e2, he.tr.1]; rfl
  have back : ∀ p, (outS S d).at p ≠ .free → S1.at p = (outS S d).at p := fun p hf => by
    by_cases hp : ∃ x ∈ d, x.1.p = p
    · exact (in_ p hp).1.symm
    · rw [(out p hp).1] at hf ⊢; exact (out p hp).2 hf
  let ρ2 : Rho := fun p => if (outS S d).at p = .free then none else ρ1 p
  have r2 : ∀ p, (outS S d).at p ≠ .free → ρ2 p = ρ1 p := fun p h => if_neg h
  have r2' : ∀ p t, ρ2 p = some t → (outS S d).at p ≠ .free ∧ ρ1 p = some t := fun p t h => by
    by_cases hf : (outS S d).at p = .free
    · have : ρ2 p = none := if_pos hf
      rw [this] at h; cases h
    · exact ⟨hf, by rw [← r2 p hf]; exact h⟩
  have look2 : ∀ i : Nam, (outS S d).at i.p ≠ .free → look ρ2 i = look ρ1 i := fun i h => by unfold look; rw [r2 i.p h]
  have hle : Le ρ ρ2 := fun p t hp => by
    have hf : S.at p ≠ .free := fun e => by have := hs.obj p; rw [e] at this; rw [show ρ p = none from this] at hp; cases hp
    have hf2 : (outS S d).at p ≠ .free := by
      by_cases hx : ∃ x ∈ d, x.1.p = p
      · obtain ⟨e, x, hxm, rfl, hx2⟩ := in_ p hx
        rw [e, ← hx2]; exact (oKeep_ne (F4 x hxm).1).1
      · rw [(out p hx).1]; exact hf
    rw [r2 p hf2]; exact he.le p t hp
  refine ⟨ρ2, ⟨fun p => ?_, fun p q g o c o' c' hp hq e1 e2 => ?_, fun p g o c h => h1.bnd p g o c (r2' _ _ h).2, fun p g k h => h1.stp p g k (r2' _ _ h).2, fun p q g k h h' => h1.stinj p q g k (r2' _ _ h).2 (r2' _ _ h').2, fun g hg => ?_, fun g hg => ⟨(h1.vars g hg).1, fun p o c hl hp => (h1.vars g hg).2 p o c (by rw [back p (live_ne hl)]; exact hl) (r2' _ _ hp).2⟩⟩, ⟨hle, he.size, fun g hg hn => ?_, fun g hg ⟨p, o, c, e1, e2⟩ => ?_, he.os, he.tape, he.output, outS_tr S d⟩, ?_⟩
  · by_cases hf : (outS S d).at p = .free
    · rw [hf]; exact if_pos hf
    · by_cases hx : ∃ x ∈ d, x.1.p = p
      · obtain ⟨e, x, hxm, rfl, hx2⟩ := in_ p hx
        obtain ⟨k1, k2⟩ := F4 x hxm
        rw [e, ← hx2]
        refine relO_congr k1 (r2 _ hf) (fun i hi => look2 i (k2 i hi).1) ?_
        rw [hx2]; exact h1.obj _
      · have hfS : S.at p ≠ .free := by rw [← (out p hx).1]; exact hf
        rw [(out p hx).1]
        refine relO_between he.le hle hfS (hs.obj p) ?_
        rw [← (out p hx).2 hfS]; exact h1.obj p
  · have l1 : (S1.at p).live := by rw [back p (live_ne hp)]; exact hp
    have l2 : (S1.at q).live := by rw [back q (live_ne hq)]; exact hq
    exact h1.inj p q g o c o' c' l1 l2 (r2' _ _ e1).2 (r2' _ _ e2).2
  · obtain ⟨c, hc⟩ := hs.glob g hg
    exact ⟨c, hle.look hc⟩
  · refine he.old g hg fun ⟨p, o, c, e1, e2⟩ => hn ⟨p, o, c, e1, ?_⟩
    rw [under_at] at e2; exact e2
  · obtain ⟨p', o', c', k1, k2⟩ := he.owns g hg ⟨p, o, c, (r2' _ _ e1).2, by rw [back p (live_ne e2)]; exact e2⟩
    exact ⟨p', o', c', k1, by rw [under_at] at k2; exact k2⟩
  · rw [conc_congr v fun i hi => look2 i (F3 i hi).1]; exact hv

/-! ### Sameness -/
noncomputable def WfN (l : List Nam) : Prop := ∀ i ∈ l, i.n = i.p.num
theorem WfN.one {i j : Nam} (hi : i.n = i.p.num) (hj : j.n = j.p.num) (h : i.n = j.n) : i = j := by
  have : i.p = j.p := Pth.num_inj (by rw [← hi, ← hj, h])
  cases i; cases j; simp_all
theorem WfN.sub {l m : List Nam} (h : WfN m) (hs : ∀ i ∈ l, i ∈ m) : WfN l := fun i hi => h i (hs i hi)
mutual
theorem beqV_wf : ∀ (u v : AV), beqV u v = true → WfN (idsV u []) → WfN (idsV v []) → u = v
  | .bool x, v, h, _, _ => by cases v <;> first | (simp [beqV] at h; done) | (simp [beqV] at h; rw [h])
  | .int k x, v, h, _, _ => by
    cases v with
    | int j y =>
      simp only [beqV, Bool.and_eq_true] at h
      rw [kEq_iff.1 h.1, (ieq_iff _ _).1 h.2]
    | _ => simp [beqV] at h
  | .ifo x, v, h, hu, hv => by
    cases v with
    | ifo y =>
      simp only [beqV, Nat.beq_eq] at h
      rw [WfN.one (hu x (by simp [idsV])) (hv y (by simp [idsV])) h]
    | _ => simp [beqV] at h
  | .rstr x y, v, h, _, _ => by
    cases v with
    | rstr x' y' => simp only [beqV, Bool.and_eq_true, Nat.beq_eq] at h; rw [h.1, h.2]
    | _ => simp [beqV] at h
  | .str x, v, h, _, _ => by
    cases v with
    | str y => simp only [beqV] at h; rw [(natsEq_iff _ _).1 h]
    | _ => simp [beqV] at h
  | .ptr x o, v, h, hu, hv => by
    cases v with
    | ptr y p =>
      simp only [beqV, Bool.and_eq_true, Nat.beq_eq] at h
      rw [WfN.one (hu x (by simp [idsV])) (hv y (by simp [idsV])) h.1, h.2]
    | _ => simp [beqV] at h
  | .nilp, v, h, _, _ => by cases v <;> first | rfl | (simp [beqV] at h; done)
  | .slice x o n c, v, h, hu, hv => by
    cases v with
    | slice y p m d =>
      simp only [beqV, Bool.and_eq_true, Nat.beq_eq] at h
      rw [WfN.one (hu x (by simp [idsV])) (hv y (by simp [idsV])) h.1.1.1, h.1.1.2, h.1.2, h.2]
    | _ => simp [beqV] at h
  | .row x o n c, v, h, hu, hv => by
    cases v with
    | row y p m d =>
      simp only [beqV, Bool.and_eq_true, Nat.beq_eq] at h
      rw [WfN.one (hu x (by simp [idsV])) (hv y (by simp [idsV])) h.1.1.1, h.1.1.2, h.1.2, h.2]
    | _ => simp [beqV] at h
  | .tail x o n c, v, h, hu, hv => by
    cases v with
    | tail y p m d =>
      simp only [beqV, Bool.and_eq_true, Nat.beq_eq] at h
      rw [WfN.one (hu x (by simp [idsV])) (hv y (by simp [idsV])) h.1.1.1, h.1.1.2, h.1.2, h.2]
    | _ => simp [beqV] at h
  | .nils, v, h, _, _ => by cases v <;> first | rfl | (simp [beqV] at h; done)
  | .map x, v, h, hu, hv => by
    cases v with
    | map y =>
      simp only [beqV, Nat.beq_eq] at h
      rw [WfN.one (hu x (by simp [idsV])) (hv y (by simp [idsV])) h]
    | _ => simp [beqV] at h
  | .nilm, v, h, _, _ => by cases v <;> first | rfl | (simp [beqV] at h; done)
  | .func f x y, v, h, hu, hv => by
    cases v with
    | func g x' y' =>
      simp only [beqV, Bool.and_eq_true, Nat.beq_eq] at h
      rw [h.1.1, beqVs_wf x x' h.1.2 (hu.sub fun i q => mem_func_ids.2 (.inl q)) (hv.sub fun i q => mem_func_ids.2 (.inl q)),
        beqVs_wf y y' h.2 (hu.sub fun i q => mem_func_ids.2 (.inr q)) (hv.sub fun i q => mem_func_ids.2 (.inr q))]
    | _ => simp [beqV] at h
  | .yld x, v, h, hu, hv => by
    cases v with
    | yld y =>
      simp only [beqV, Nat.beq_eq] at h
      rw [WfN.one (hu x (by simp [idsV])) (hv y (by simp [idsV])) h]
    | _ => simp [beqV] at h
  | .nilf, v, h, _, _ => by cases v <;> first | rfl | (simp [beqV] at h; done)
  | .iface t x, v, h, hu, hv => by
    cases v with
    | iface t' y =>
      simp only [beqV, Bool.and_eq_true, Nat.beq_eq] at h
      rw [h.1, beqV_wf x y h.2 (hu.sub fun i q => by simpa only [idsV] using q) (hv.sub fun i q => by simpa only [idsV] using q)]
    | _ => simp [beqV] at h
  | .nili, v, h, _, _ => by cases v <;> first | rfl | (simp [beqV] at h; done)
  | .agg x, v, h, hu, hv => by
    cases v with
    | agg y =>
      simp only [beqV] at h
      rw [beqVs_wf x y h (hu.sub fun i q => by simpa only [idsV] using q) (hv.sub fun i q => by simpa only [idsV] using q)]
    | _ => simp [beqV] at h
  | .tuple x, v, h, hu, hv => by
    cases v with
    | tuple y =>
      simp only [beqV] at h
      rw [beqVs_wf x y h (hu.sub fun i q => by simpa only [idsV] using q) (hv.sub fun i q => by simpa only [idsV] using q)]
    | _ => simp [beqV] at h
  | .stamp x, v, h, hu, hv => by
    cases v with
    | stamp y =>
      simp only [beqV, Nat.beq_eq] at h
      rw [WfN.one (hu x (by simp [idsV])) (hv y (by simp [idsV])) h]
    | _ => simp [beqV] at h
theorem beqVs_wf : ∀ (l m : List AV), beqVs l m = true → WfN (idsVs l []) → WfN (idsVs m []) → l = m
  | [], m, h, _, _ => by cases m <;> first | rfl | (simp [beqVs] at h; done)
  | x :: l, m, h, hu, hv => by
    cases m with
    | nil => simp [beqVs] at h
    | cons y m =>
      simp only [beqVs, Bool.and_eq_true] at h
      rw [beqV_wf x y h.1 (hu.sub fun i q => mem_cons_ids.2 (.inl q)) (hv.sub fun i q => mem_cons_ids.2 (.inl q)),
        beqVs_wf l m h.2 (hu.sub fun i q => mem_cons_ids.2 (.inr q)) (hv.sub fun i q => mem_cons_ids.2 (.inr q))]
end
theorem beqNs_wf : ∀ (l m : List Nam), beqNs l m = true → WfN l → WfN m → l = m
  | [], m, h, _, _ => by cases m <;> first | rfl | cases h
  | x :: l, m, h, hu, hv => by
    cases m with
    | nil => cases h
    | cons y m =>
      obtain ⟨h1, h2⟩ := cB3 (show cB (Nat.beq x.n y.n) (beqNs l m) false = true from h)
      rw [WfN.one (hu x (by simp)) (hv y (by simp)) (Nat.eq_of_beq_eq_true h1), beqNs_wf l m h2 (hu.sub fun i q => by simp [q]) (hv.sub fun i q => by simp [q])]
theorem beqES_wf : ∀ (l m : List Ent), beqES l m = true → WfN (idsE l []) → WfN (idsE m []) → l = m
  | [], m, h, _, _ => by cases m <;> first | rfl | cases h
  | x :: l, m, h, hu, hv => by
    cases m with
    | nil => cases h
    | cons y m =>
      obtain ⟨h1, h2⟩ := cB3 (show cB (beqV x.key y.key) (cB (beqV x.val y.val) (cB (Nat.beq x.id.n y.id.n) (beqES l m) false) false) false = true from h)
      obtain ⟨h2, h3⟩ := cB3 h2
      obtain ⟨h3, h4⟩ := cB3 h3
      have sub : ∀ {x : Ent} {l : List Ent} {i : Nam}, i ∈ idsE l [] → i ∈ idsE (x :: l) [] := fun {x l i} hi => by
        show i ∈ x.id :: idsV x.key (idsV x.val (idsE l []))
        rw [idsV_app x.key, idsV_app x.val]; simp [hi]
      have e1 := beqV_wf _ _ h1 (hu.sub fun i q => idsE_mem (by simp) (.inr (.inl q))) (hv.sub fun i q => idsE_mem (by simp) (.inr (.inl q)))
      have e2 := beqV_wf _ _ h2 (hu.sub fun i q => idsE_mem (by simp) (.inr (.inr q))) (hv.sub fun i q => idsE_mem (by simp) (.inr (.inr q)))
      have e3 := WfN.one (hu x.id (idsE_mem (by simp) (.inl rfl))) (hv y.id (idsE_mem (by simp) (.inl rfl))) (Nat.eq_of_beq_eq_true h3)
      have e4 := beqES_wf l m h4 (hu.sub fun i q => sub q) (hv.sub fun i q => sub q)
      cases x; cases y; simp_all
theorem beqMd_eq {a b : Md} (h : beqMd a b = true) : a = b := by cases a <;> cases b <;> first | rfl | cases h
theorem beqO_wf (a b : AO) (h : beqO a b = true) (ha : WfN (idsO a [])) (hb : WfN (idsO b [])) : a = b := by
  cases a with
  | free => cases h
  | dead => cases b <;> first | rfl | cases h
  | defr => cases b <;> first | rfl | cases h
  | loop l => cases h
  | cells m t cs =>
    cases b with
    | cells n u ds =>
      simp only [beqO, Bool.and_eq_true, Nat.beq_eq] at h
      rw [beqMd_eq h.1.1, h.1.2, beqVs_wf cs ds h.2 ha hb]
    | _ => cases h
  | map es c =>
    cases b with
    | map fs d =>
      simp only [beqO, Bool.and_eq_true, Nat.beq_eq] at h
      rw [h.2, beqES_wf es fs h.1 ha hb]
    | _ => cases h
  | fill n c =>
    cases b with
    | fill m d =>
      simp only [beqO, Bool.and_eq_true, Nat.beq_eq] at h
      rw [h.2, h.1]
    | _ => cases h
  | iter m v s x y =>
    cases b with
    | iter n u r x' y' =>
      simp only [beqO, Bool.and_eq_true, Nat.beq_eq] at h
      obtain ⟨⟨⟨⟨h1, h2⟩, h3⟩, h4⟩, h5⟩ := h
      have e1 : WfN (idsM m (app s [])) := ha
      have e2 : WfN (idsM n (app r [])) := hb
      have sub : ∀ {m : Option Nam} {s : List Nam} {i : Nam}, i ∈ s → i ∈ idsM m (app s []) := fun {m s i} hi => by
        cases m with
        | none => exact app_mem.2 (.inl hi)
        | some j => exact List.mem_cons_of_mem _ (app_mem.2 (.inl hi))
      have e3 := beqNs_wf s r h3 (e1.sub fun i q => sub q) (e2.sub fun i q => sub q)
      have e4 : m = n := by
        cases m with
        | none => cases n <;> first | rfl | cases h1
        | some i =>
          cases n with
          | none => cases h1
          | some j => rw [WfN.one (e1 i List.mem_cons_self) (e2 j List.mem_cons_self) (Nat.eq_of_beq_eq_true h1)]
      rw [e3, e4, h2, h4, h5]
    | _ => cases h
mutual
theorem conc_wf {ρ : Rho} : ∀ (v : AV) {u : Value}, conc ρ v = some u → WfN (idsV v [])
  | .bool _, _, _ => fun i hi => by cases hi
  | .int _ _, _, _ => fun i hi => by cases hi
  | .str _, _, _ => fun i hi => by cases hi
  | .rstr _ _, _, _ => fun i hi => by cases hi
  | .ifo b, _, h => fun i hi => by
    obtain ⟨_, _, _, h1⟩ := conc_ifo h
    have : i = b := by simpa [idsV] using hi
    subst this; exact look_num h1
  | .ptr b o, _, h => fun i hi => by
    obtain ⟨_, _, _, h1, _⟩ := conc_ptr h
    have : i = b := by simpa [idsV] using hi
    subst this; exact look_num h1
  | .nilp, _, _ => fun i hi => by cases hi
  | .slice b o n c, _, h => fun i hi => by
    obtain ⟨_, _, _, h1, _⟩ := conc_slice h
    have : i = b := by simpa [idsV] using hi
    subst this; exact look_num h1
  | .row b o n c, _, h => fun i hi => by
    obtain ⟨_, _, _, h1, _⟩ := conc_row h
    have : i = b := by simpa [idsV] using hi
    subst this; exact look_num h1
  | .tail b o n c, _, h => fun i hi => by
    obtain ⟨_, _, _, h1, _⟩ := conc_tail h
    have : i = b := by simpa [idsV] using hi
    subst this; exact look_num h1
  | .nils, _, _ => fun i hi => by cases hi
  | .map b, _, h => fun i hi => by
    obtain ⟨_, _, _, h1, _⟩ := conc_map h
    have : i = b := by simpa [idsV] using hi
    subst this; exact look_num h1
  | .nilm, _, _ => fun i hi => by cases hi
  | .func f a b, _, h => fun i hi => by
    obtain ⟨_, _, _, h1, h2⟩ := conc_func h
    rcases mem_func_ids.1 hi with q | q
    · exact concs_wf a h1 i q
    · exact concs_wf b h2 i q
  | .yld b, _, h => fun i hi => by
    obtain ⟨_, _, _, _, h1⟩ := conc_yld h
    have : i = b := by simpa [idsV] using hi
    subst this; exact look_num h1
  | .nilf, _, _ => fun i hi => by cases hi
  | .iface t v, _, h => fun i hi => by
    simp only [conc] at h
    split at h
    · rename_i e; exact conc_wf v e i (by simpa only [idsV] using hi)
    · cases h
  | .nili, _, _ => fun i hi => by cases hi
  | .agg l, _, h => fun i hi => by
    obtain ⟨_, _, h1⟩ := conc_agg h
    exact concs_wf l h1 i (by simpa only [idsV] using hi)
  | .tuple l, _, h => fun i hi => by
    obtain ⟨_, _, h1⟩ := conc_tuple h
    exact concs_wf l h1 i (by simpa only [idsV] using hi)
  | .stamp b, _, h => fun i hi => by
    simp only [conc] at h
    split at h
    · rename_i e
      have : i = b := by simpa [idsV] using hi
      subst this; exact look_num e
    · cases h
theorem concs_wf {ρ : Rho} : ∀ (l : List AV) {u : List Value}, concs ρ l = some u → WfN (idsVs l [])
  | [], _, _ => fun i hi => by cases hi
  | v :: l, _, h => fun i hi => by
    obtain ⟨_, _, _, h1, h2⟩ := concs_cons h
    rcases mem_cons_ids.1 hi with q | q
    · exact conc_wf v h1 i q
    · exact concs_wf l h2 i q
end
theorem relE_wf {ρ : Rho} {g : Nat} : ∀ {es : List Ent} {m : List MapEntry}, All2 (relE ρ g) es m → WfN (idsE es [])
  | [], _, _ => fun i hi => by cases hi
  | x :: es, _, .cons h t => fun i hi => by
    have hi' : i ∈ x.id :: idsV x.key (idsV x.val (idsE es [])) := hi
    rw [idsV_app x.key, idsV_app x.val] at hi'
    rcases List.mem_cons.1 hi' with rfl | hi'
    · exact look_num h.id
    · rcases List.mem_append.1 hi' with q | q
      · exact conc_wf _ h.key i q
      · rcases List.mem_append.1 q with q | q
        · exact conc_wf _ h.val i q
        · exact relE_wf t i q
theorem relO_wf {ρ : Rho} {heap : Array Obj} {p : Pth} {o : AO} (h : relO P ρ heap p o) : WfN (idsO o []) := by
  cases o with
  | cells m t cs => obtain ⟨_, _, _, _, _, _, r⟩ := h; exact concs_wf cs r.vals
  | map es clk =>
    obtain ⟨_, _, _, _, _, _, h3⟩ := h
    obtain ⟨_, q1, _⟩ := h3.perm
    exact relE_wf q1
  | iter m since seen base sp =>
    cases m with
    | none =>
      obtain ⟨_, _, _, _, _, _, _, h3⟩ := h
      subst h3
      intro i hi
      cases hi
    | some m =>
      obtain ⟨_, _, _, _, _, _, _, _, _, h3, h4, _⟩ := h
      intro i hi
      have hi' : i ∈ m :: app seen [] := hi
      rcases List.mem_cons.1 hi' with rfl | hi'
      · exact look_num h3
      · rcases app_mem.1 hi' with q | q
        · obtain ⟨_, _, h5⟩ := h4.mem q
          exact look_num h5
        · cases q
  | _ => intro i hi; cases hi
end
end Go.Proofs.YtfmaapbibmnfgaaGreatDoor.Ev
namespace Go.Proofs.YtfmaapbibmnfgaaGreatDoor.Ev
variable [Vr]
section
variable {P : Program} {ρ : Rho} {S : AS} {w : World}
theorem endA_in {x : AV × AS} {y : Left} (h : endA S x = some y) :
    (∀ z ∈ y.2, z.2 = hget x.2.top z.1.p) ∧ WfN (idsV y.1 []) ∧ ∀ z ∈ y.2, z.2 ≠ .free ∧ WfN (idsO z.2 []) := by
  obtain ⟨rfl, h1, h2⟩ := endC_some h
  refine ⟨fun z hz => (keepL_mem hz).1, fun i hi => (allIn_iff.1 h1 i hi).2, fun z hz => ?_⟩
  obtain ⟨a, b⟩ := closedL_iff.1 h2 z hz
  exact ⟨(oKeep_ne a).1, fun i hi => (allIn_iff.1 b i hi).2⟩
theorem outS_in {x : AV × AS} {y : Left} (h : endA S x = some y) {p : Pth} (hp : ∃ z ∈ y.2, z.1.p = p) : ∃ z ∈ y.2, z.1.p = p ∧ (outS S y.2).at p = z.2 := by
  obtain ⟨h1, _, h3⟩ := endA_in h
  have e1 : hget (outS S y.2).top p = hget x.2.top p := hget_setL_in (f := fun p => hget x.2.top p) h1 hp
  obtain ⟨z, hz, rfl⟩ := hp
  have : hget (outS S y.2).top z.1.p = z.2 := by rw [e1, ← h1 z hz]
  exact ⟨z, hz, rfl, by rw [AS.at_top (by rw [this]; exact (h3 z hz).1), this]⟩
theorem outS_out {d : List (Nam × AO)} {p : Pth} (hp : ¬ ∃ z ∈ d, z.1.p = p) : (outS S d).at p = S.at p := by
  have e1 : hget (outS S d).top p = hget S.top p := hget_setL_out fun x hx e => hp ⟨x, hx, e⟩
  show oFree (hget (outS S d).top p) (hget (outS S d).top p) (layG S.lay ⟨0, p⟩) = oFree (hget S.top p) (hget S.top p) (layG S.lay ⟨0, p⟩)
  rw [e1]
theorem outS_wf (hs : Sat P ρ S w) {x : AV × AS} {y : Left} (h : endA S x = some y) (p : Pth) : WfN (idsO ((outS S y.2).at p) []) := by
  by_cases hp : ∃ z ∈ y.2, z.1.p = p
  · obtain ⟨z, hz, _, e⟩ := outS_in h hp
    rw [e]; exact ((endA_in h).2.2 z hz).2
  · rw [outS_out hp]; exact relO_wf (hs.obj p)
theorem sameN_iff {a b : AS} {l : List (Nam × AO)} : sameN a b l = true ↔ ∀ x ∈ l, beqO (getA a x.1) (getA b x.1) = true := itL_all
theorem sameD_ok (hs : Sat P ρ S w) {x x' : AV × AS} {y z : Left} (hy : endA S x = some y) (hz : endA S x' = some z) (h : sameD S z y = true) : z.1 = y.1 ∧ ∀ p, (outS S z.2).at p = (outS S y.2).at p := by
  obtain ⟨h1, h2⟩ := cB3 (show cB (beqV z.1 y.1) (cB (sameN (outS S z.2) (outS S y.2) z.2) (sameN (outS S z.2) (outS S y.2) y.2) false) false = true from h)
  obtain ⟨h2, h3⟩ := cB3 h2
  refine ⟨beqV_wf _ _ h1 (endA_in hz).2.1 (endA_in hy).2.1, fun p => ?_⟩
  have two : ∀ i : Nam, i.p = p → beqO (getA (outS S z.2) i) (getA (outS S y.2) i) = true → (outS S z.2).at p = (outS S y.2).at p := fun i hi hb => by
    rw [getA_eq, getA_eq, hi] at hb
    exact beqO_wf _ _ hb (outS_wf hs hz p) (outS_wf hs hy p)
  by_cases c1 : ∃ q ∈ z.2, q.1.p = p
  · obtain ⟨q, hq, e⟩ := c1
    exact two q.1 e (sameN_iff.1 h2 q hq)
  · by_cases c2 : ∃ q ∈ y.2, q.1.p = p
    · obtain ⟨q, hq, e⟩ := c2
      exact two q.1 e (sameN_iff.1 h3 q hq)
    · rw [outS_out c1, outS_out c2]
theorem hasD_some {s0 : AS} {y : Left} {l : List Left} (h : hasD s0 y l = true) : ∃ z ∈ l, sameD s0 z y = true := by
  induction l with
  | nil => cases h
  | cons z l ih =>
    have h' : cB (sameD s0 z y) true (hasD s0 y l) = true := h
    cases hb : sameD s0 z y with
    | true => exact ⟨z, by simp, hb⟩
    | false =>
      rw [hb] at h'
      obtain ⟨z', a, b⟩ := ih h'
      exact ⟨z', by simp [a], b⟩
/-- Each outcome is one of those told. -/
theorem addsD_some {s0 : AS} : ∀ {l : List (AV × AS)} {acc d : List Left}, addsD s0 l acc = some d → (∀ z ∈ acc, ∃ x, endA s0 x = some z) →
    (∀ z ∈ acc, z ∈ d) ∧ (∀ z ∈ d, ∃ x, endA s0 x = some z) ∧ ∀ x ∈ l, ∃ y, endA s0 x = some y ∧ ∃ z ∈ d, z = y ∨ sameD s0 z y = true
  | [], acc, d, h, ha => by
    have : acc = d := Option.some.inj h
    subst this
    exact ⟨fun z hz => hz, ha, fun x hx => by cases hx⟩
  | x :: l, acc, d, h, ha => by
    have h' : cO (endA s0 x) none (fun y => cB (hasD s0 y acc) (addsD s0 l acc) (addsD s0 l (app acc [y]))) = some d := h
    cases he : endA s0 x with
    | none => rw [he] at h'; cases h'
    | some y =>
      rw [he] at h'
      have h2 : cB (hasD s0 y acc) (addsD s0 l acc) (addsD s0 l (app acc [y])) = some d := h'
      cases hb : hasD s0 y acc with
      | true =>
        rw [hb] at h2
        obtain ⟨k1, k2, k3⟩ := addsD_some (l := l) h2 ha
        refine ⟨k1, k2, fun x' hx' => ?_⟩
        rcases List.mem_cons.1 hx' with rfl | hx'
        · obtain ⟨z, hz, hzy⟩ := hasD_some hb
          exact ⟨y, he, z, k1 z hz, .inr hzy⟩
        · exact k3 x' hx'
      | false =>
        rw [hb] at h2
        obtain ⟨k1, k2, k3⟩ := addsD_some (l := l) h2 (fun z hz => by
          rcases app_mem.1 hz with q | q
          · exact ha z q
          · rw [List.mem_singleton.1 q]; exact ⟨x, he⟩)
        refine ⟨fun z hz => k1 z (app_mem.2 (.inl hz)), k2, fun x' hx' => ?_⟩
        rcases List.mem_cons.1 hx' with rfl | hx'
        · exact ⟨y, he, y, k1 y (app_mem.2 (.inr (by simp))), .inl rfl⟩
        · exact k3 x' hx'
theorem outsD_has {s0 : AS} {d : List Left} {y : Left} (hy : y ∈ d) : (outsD s0 d).has (outD s0 y) := by
  unfold outsD
  cases d with
  | nil => cases hy
  | cons a l =>
    cases l with
    | nil => rw [List.mem_singleton.1 hy]; exact rfl
    | cons b m =>
      show outD s0 y ∈ itL [] (fun y _ q => outD s0 y :: q) (a :: b :: m)
      generalize a :: b :: m = t at hy
      induction t with
      | nil => cases hy
      | cons c t ih =>
        rcases List.mem_cons.1 hy with rfl | hy
        · exact List.mem_cons_self
        · exact List.mem_cons_of_mem _ (ih hy)
theorem listR_mem {α : Type} {x : R α} {l : List α} (h : listR x = some l) : x.ok ∧ ∀ a, x.has a → a ∈ l := by
  cases x with
  | no => cases h
  | one a => cases h; exact ⟨trivial, fun b hb => by cases hb; simp⟩
  | many m => cases h; exact ⟨trivial, fun b hb => hb⟩
/-- A call whose outcomes become one. -/
theorem merged_ok (hs : Sat P ρ S w) {x : R (AV × AS)} {l : List (AV × AS)} {d : List Left} (hl : listR x = some l) (hd : addsD S l [] = some d)
    {ρ1 : Rho} {S1 : AS} {w1 : World} {v : AV} {u : Value} (hx : x.has (v, S1)) (he : Ext ρ (under S) w ρ1 S1 w1) (h1 : Sat P ρ1 S1 w1) (hv : conc ρ1 v = some u) : ValPost P ρ S w (outsD S d) u w1 := by
  obtain ⟨_, k2, k3⟩ := addsD_some hd (fun z hz => by cases hz)
  obtain ⟨y, hy, z, hz, hzy⟩ := k3 _ ((listR_mem hl).2 _ hx)
  obtain ⟨ρ2, q1, q2, q3⟩ := merge_ok hs he h1 hv hy
  rcases hzy with rfl | hzy
  · exact ⟨z.1, _, ρ2, outsD_has hz, q2, q1, q3⟩
  · obtain ⟨x', hx'⟩ := k2 z hz
    obtain ⟨e1, e2⟩ := sameD_ok hs hy hx' hzy
    exact ⟨z.1, outS S z.2, ρ2, outsD_has hz, ⟨q2.le, q2.size, q2.old, fun g hg ⟨p, o, c, h1, h2⟩ => q2.owns g hg ⟨p, o, c, h1, by rw [← e2]; exact h2⟩, q2.os, q2.tape, q2.output, outS_tr S z.2⟩, q1.same e2, by rw [e1]; exact q3⟩
end
end Go.Proofs.YtfmaapbibmnfgaaGreatDoor.Ev
namespace Go.Proofs.YtfmaapbibmnfgaaGreatDoor.Ev
variable [Vr]
section
variable {P : Program} {cf : Cf} {vm : Vm} {ρ : Rho} {S : AS} {w : World}

theorem leaves_ok {F : Fence} {N : Nat} {f : Func} {tmps : Array Value} {R : Ending → World → Prop} : ∀ {ds : List Nam} {defers : List Deferred} {S S' : AS} {w : World}, undoA ds S = some S' → Sat P ρ S w →
    All2 (fun i d => ∃ g o c, look ρ i = some (.blk g o c) ∧ d = ({ target := .collected g, args := #[] } : Deferred)) ds defers →
    (∀ w', Sat P ρ S' w' → Ext ρ S w ρ S' w' → ∃ v, (results f tmps).run P w' = .ok v w' ∧ R (.returned v) w') → LeavesInM F N P f tmps R defers .returning w
  | [], _, S, S', w, hu, hs, ha, h => by
    cases ha
    have : S = S' := Option.some.inj hu
    subst this
    exact h w hs (Ext.refl _ _ _)
  | d :: ds, _, S, S', w, hu, hs, ha, h => by
    cases ha with
    | @cons _ dd _ defers hd ht =>
    obtain ⟨g, o, c, h1, rfl⟩ := hd
    have hu' : oDefr (getA S d) none (undoA ds (putA S d .dead)) = some S' := hu
    cases ho : getA S d with
    | defr =>
      rw [ho] at hu'
      have hu' : undoA ds (putA S d .dead) = some S' := hu'
      obtain ⟨t1, t2, t3⟩ := hs.take (by rw [← getA_eq]; exact ho) h1
      refine ⟨(by intro e; cases e), .inl ⟨g, { w with heap := w.heap.setIfInBounds g (.deferred none) }, rfl, ?_, leaves_ok hu' t2 ht fun w' q1 q2 => h w' q1 (t3.trans q2)⟩⟩
      simp only [Instr.takeDeferred, Sem.run_bind, run_getObj t1 (by intro a t f e; cases e), Result.andThen_ok, run_setObj t1 (by intro a t f e; cases e), Sem.run_pure]
    | _ => rw [ho] at hu'; cases hu'
/-- A function's own run, in whatever memory it begins. -/
theorem kBody_ok {ev : Ev} (he : EvSpec P ev) (hmix : P.follows .mixedOrders = true) {f : FuncId} {fn : Func} (hfn : P.funcs[f]? = some fn) {c : Code} (hb : fn.body = some c) (hres : okRes fn.results.toList = true) (hn256 : fn.ntmps ≤ 256)
    {args : List AV} {us : List Value} (hs : Sat P ρ S w) (ha : concs ρ args = some us) {t : TF} (hka : (kArgs vm fn.ntmps 0).f args UF = some t) {Q : Value → World → Prop}
    (k1 : (finsA P vm fn.results.toList ((kCode P cf vm f fn.ntmps c).f none ev ⟨t, []⟩ S)).ok)
    (hQ : ∀ v S' ρ' u w', (finsA P vm fn.results.toList ((kCode P cf vm f fn.ntmps c).f none ev ⟨t, []⟩ S)).has (v, S') → Ext ρ S w ρ' S' w' → Sat P ρ' S' w' → conc ρ' v = some u → Q u w') (N : Nat) :
    CallsIn Fence.wide N P f us.toArray w (fun e w' => match e with | .returned u => Q u w' | _ => False) := by
  obtain ⟨r1, r2⟩ := kArgs_ok (tmps := #[]) hka ha (by omega) rfl (fun j hj => by rw [tget_U]; simp [conc, concs, undef])
  have hf0 : FR vm ρ ⟨t, []⟩ fn.ntmps (fun _ => False) { tmps := us.toArray ++ Array.replicate (fn.ntmps - us.toArray.size) undef, defers := [] } := by
    refine ⟨by simp; omega, fun i hi _ => ?_, .nil⟩
    rw [r2 i hi]
    have e0 : (#[] : Array Value) ++ us.toArray = us.toArray := by simp
    rw [e0]
    congr 1
    simp only [Array.getD_eq_getD_getElem?]
    by_cases c1 : i < us.length
    · rw [Array.getElem?_append_left (by simpa using c1)]
    · rw [Array.getElem?_append_right (by simpa using c1), Array.getElem?_replicate, Array.getElem?_eq_none (by simpa using c1)]
      by_cases c2 : i - us.toArray.size < fn.ntmps - us.toArray.size
      · rw [if_pos c2]; rfl
      · rw [if_neg c2]
  obtain ⟨k3, k4⟩ := bindR_ok k1
  refine callsIn_of_wp_marks hfn hb trivial (wpIn_mono (F := Fence.wide) (kCode_ok he hmix (range_is he) c ρ S w none none ⟨t, []⟩ _ hs trivial hf0 k3 N) fun e a w1 hp => ?_)
  obtain ⟨ex, fr1, S1, ρ1, q1, q2, q3, q4, q5⟩ := hp
  obtain ⟨k5, k6⟩ := k4 _ q1
  have fin : ∀ ex, (ex = Ex.normal ∨ ex = .ret) → (finA P vm fn.results.toList ex fr1 S1).ok → (∀ z, (finA P vm fn.results.toList ex fr1 S1).has z → (finsA P vm fn.results.toList ((kCode P cf vm f fn.ntmps c).f none ev ⟨t, []⟩ S)).has z) →
      LeavesInM Fence.wide N P fn a.tmps (fun e w' => match e with | .returned u => Q u w' | _ => False) a.defers .returning w1 := fun ex hex hok2 hhas => by
    have hF : finA P vm fn.results.toList ex fr1 S1 = cO (undoA fr1.ds S1) .no fun s' => cO ((kRes P vm fn.results.toList).f fr1 s') .no fun l => .one (oneA l, s') := by
      rcases hex with rfl | rfl <;> rfl
    rw [hF] at hok2 hhas
    cases hun : undoA fr1.ds S1 with
    | none => rw [hun] at hok2; exact hok2.elim
    | some S2 =>
    rw [hun] at hok2 hhas
    simp only [cO_some] at hok2 hhas
    cases hkr : (kRes P vm fn.results.toList).f fr1 S2 with
    | none => rw [hkr] at hok2; exact hok2.elim
    | some l =>
    rw [hkr] at hhas
    simp only [cO_some] at hhas
    refine leaves_ok hun q4 q5.defs fun w' g1 g2 => ?_
    obtain ⟨u, u1, u2⟩ := results_ok g1 q5 hres hkr
    exact ⟨u, u2, hQ _ _ _ _ _ (hhas _ rfl) (q3.trans g2) g1 u1⟩
  cases ex with
  | normal =>
    cases e with
    | normal => exact fin .normal (.inl rfl) k5 k6
    | _ => exact q2.elim
  | ret =>
    cases e with
    | ret => exact fin .ret (.inr rfl) k5 k6
    | _ => exact q2.elim
  | exit i => exact k5.elim
theorem kFunB_ok {ev : Ev} (he : EvSpec P ev) (hmix : P.follows .mixedOrders = true) {f : FuncId} {args : List AV} {us : List Value} (hs : Sat P ρ S w) (ha : concs ρ args = some us) (hok : ((kFunB P cf f).f ev args S).ok) :
    (callFunc f us.toArray).run P w = .ok (.enter f us.toArray) w ∧ ∀ N, CallsIn Fence.wide N P f us.toArray w (RetPost P ρ S w ((kFunB P cf f).f ev args S)) := by
  unfold kFunB at hok
  cases hfn : P.funcs[f]? with
  | none => rw [hfn] at hok; exact hok.elim
  | some fn =>
  rw [hfn] at hok
  cases hb : fn.body with
  | none => simp only [hb] at hok; exact hok.elim
  | some c =>
  cases hnm : (fn.name == "runtime.NumGoroutine") with
  | true => simp only [hb, hnm] at hok; exact hok.elim
  | false =>
  cases hres : okRes fn.results.toList with
  | false => simp only [hb, hnm, hres] at hok; exact hok.elim
  | true =>
  cases hn : Nat.ble fn.ntmps 256 with
  | false => simp only [hb, hnm, hres, hn] at hok; exact hok.elim
  | true =>
  have hn256 : fn.ntmps ≤ 256 := by simpa using hn
  refine ⟨?_, fun N => ?_⟩
  · have hnm' : ¬ fn.name = "runtime.NumGoroutine" := by intro e; rw [e] at hnm; simp at hnm
    simp [callFunc, hfn, hnm', hb]
  · cases hfl : cf.fl f with
    | false =>
      have hE : (kFunB P cf f).f ev args S = cO ((kArgs (cf.vm f) fn.ntmps 0).f args UF) .no fun t => valR (finsA P (cf.vm f) fn.results.toList ((kCode P cf (cf.vm f) f fn.ntmps c).f none ev ⟨t, []⟩ S)) := by
        unfold kFunB; simp only [hfn, hb, hnm, hres, hn, hfl]
      have hok : (cO ((kArgs (cf.vm f) fn.ntmps 0).f args UF) R.no fun t => valR (finsA P (cf.vm f) fn.results.toList ((kCode P cf (cf.vm f) f fn.ntmps c).f none ev ⟨t, []⟩ S))).ok := by
        simp only [hb, hnm, hres, hn, hfl] at hok; exact hok
      rw [hE]
      cases hka : (kArgs (cf.vm f) fn.ntmps 0).f args UF with
      | none => rw [hka] at hok; exact hok.elim
      | some t =>
      rw [hka] at hok
      simp only [cO_some] at hok ⊢
      obtain ⟨k1, k2⟩ := bindR_ok hok
      refine CallsIn.mono (kBody_ok he hmix hfn hb hres hn256 hs ha hka k1 (Q := fun u w' => ValPost P ρ S w (valR (finsA P (cf.vm f) fn.results.toList ((kCode P cf (cf.vm f) f fn.ntmps c).f none ev ⟨t, []⟩ S))) u w') (fun v S' ρ' u w' h1 h2 h3 h4 => ?_) N) fun e w' hp => ?_
      · exact ⟨v, S', ρ', (k2 _ h1).2 _ rfl, h2, h3, h4⟩
      · cases e <;> first | exact hp | exact hp.elim
    | true =>
      have hE : (kFunB P cf f).f ev args S = cO ((kArgs (cf.vm f) fn.ntmps 0).f args UF) .no fun t => cO (listR (finsA P (cf.vm f) fn.results.toList ((kCode P cf (cf.vm f) f fn.ntmps c).f none ev ⟨t, []⟩ (under S)))) .no fun l => cO (addsD S l []) .no fun d => outsD S d := by
        unfold kFunB; simp only [hfn, hb, hnm, hres, hn, hfl]; rfl
      have hok : (cO ((kArgs (cf.vm f) fn.ntmps 0).f args UF) R.no fun t => cO (listR (finsA P (cf.vm f) fn.results.toList ((kCode P cf (cf.vm f) f fn.ntmps c).f none ev ⟨t, []⟩ (under S)))) R.no fun l => cO (addsD S l []) .no fun d => outsD S d).ok := by
        simp only [hb, hnm, hres, hn, hfl] at hok; exact hok
      rw [hE]
      cases hka : (kArgs (cf.vm f) fn.ntmps 0).f args UF with
      | none => rw [hka] at hok; exact hok.elim
      | some t =>
      rw [hka] at hok
      simp only [cO_some] at hok ⊢
      cases hl : listR (finsA P (cf.vm f) fn.results.toList ((kCode P cf (cf.vm f) f fn.ntmps c).f none ev ⟨t, []⟩ (under S))) with
      | none => rw [hl] at hok; exact hok.elim
      | some l =>
      rw [hl] at hok
      simp only [cO_some] at hok ⊢
      cases hd : addsD S l [] with
      | none => rw [hd] at hok; exact hok.elim
      | some d =>
      simp only [cO_some]
      refine CallsIn.mono (kBody_ok he hmix hfn hb hres hn256 (hs.same (S' := under S) (under_at S)) ha hka (listR_mem hl).1 (Q := fun u w' => ValPost P ρ S w (outsD S d) u w') (fun v S' ρ' u w' h1 h2 h3 h4 => merged_ok hs hl hd h1 h2 h3 h4) N) fun e w' hp => ?_
      cases e <;> first | exact hp | exact hp.elim
/-- The functions of the library do what their contracts tell. -/
noncomputable def LibOk (P : Program) (cf : Cf) : Prop := ∀ f k, cf.lb f = k + 1 → ∀ {ρ : Rho} {S : AS} {w : World} {ev : Ev} {args : List AV} {us : List Value}, Sat P ρ S w → concs ρ args = some us → ((libR cf.tS (k + 1)).f ev args S).ok →
  (callFunc f us.toArray).run P w = .ok (.enter f us.toArray) w ∧ ∀ N, CallsIn Fence.wide N P f us.toArray w (RetPost P ρ S w ((libR cf.tS (k + 1)).f ev args S))
theorem kFun_ok {ev : Ev} (he : EvSpec P ev) (hmix : P.follows .mixedOrders = true) (hlib : LibOk P cf) {f : FuncId} {args : List AV} {us : List Value} (hs : Sat P ρ S w) (ha : concs ρ args = some us) (hok : ((kFun P cf f).f ev args S).ok) :
    (callFunc f us.toArray).run P w = .ok (.enter f us.toArray) w ∧ ∀ N, CallsIn Fence.wide N P f us.toArray w (RetPost P ρ S w ((kFun P cf f).f ev args S)) := by
  unfold kFun at hok ⊢
  cases e : cf.lb f with
  | zero => rw [e] at hok; exact kFunB_ok he hmix hs ha hok
  | succ k => rw [e] at hok; exact hlib f k e hs ha hok
theorem ev_spec (hmix : P.follows .mixedOrders = true) (hlib : LibOk P cf) : ∀ m, EvSpec P (ev P cf m)
  | 0 => ⟨fun _ _ h => h.elim, fun _ _ _ h => h.elim, fun _ _ _ h => h.elim⟩
  | m + 1 => ⟨fun hs ha hok => kFun_ok (ev_spec hmix hlib m) hmix hlib hs ha hok, fun hs hr hf hok N => kCode_ok (ev_spec hmix hlib m) hmix (range_is (ev_spec hmix hlib m)) _ _ _ _ _ _ _ _ hs hr hf hok N,
      fun hs hl ha hok => evRound_ok (ev_spec hmix hlib m) hmix hs hl ha hok⟩

/-! ### A closed run -/
theorem isTrueO_ok {v : AV} {s : AS} (h : isTrueO (.val v, s) = true) : v = .bool true := by
  have h' : vBool v false (fun b => b) = true := h
  cases v with
  | bool b => rw [show b = true from h']
  | _ => cases h'
theorem allTrue_ok {x : R (Out × AS)} (h : allTrue x = true) : x.ok ∧ ∀ v s, x.has (.val v, s) → v = .bool true := by
  cases x with
  | no => cases h
  | one y => exact ⟨trivial, fun v s hx => by cases hx; exact isTrueO_ok (s := s) h⟩
  | many l =>
    refine ⟨trivial, fun v s hx => ?_⟩
    have h' : itL true (fun y _ r => cB (isTrueO y) r false) l = true := h
    clear h
    have hx2 : (Out.val v, s) ∈ l := hx
    clear hx
    induction l with
    | nil => cases hx2
    | cons y l ih =>
      have h2 : cB (isTrueO y) (itL true (fun y _ r => cB (isTrueO y) r false) l) false = true := h'
      cases hy : isTrueO y with
      | false => rw [hy] at h2; cases h2
      | true =>
        rw [hy] at h2
        rcases List.mem_cons.1 hx2 with hx3 | hx3
        · rw [← hx3] at hy; exact isTrueO_ok hy
        · exact ih h2 hx3
end
end Go.Proofs.YtfmaapbibmnfgaaGreatDoor.Ev
