/- A run of a program on abstract memory: sameness. -/
import Derived.Test.YthgkdadchfoomabGreatEvP
namespace Go.Proofs.YthgkdadchfoomabGreat.Ev
section
variable {P : Program} {ρ : Rho} {S : AS} {w : World}

/-! ### Cells, one by one -/
/-- Are two values of a kind the same? -/
noncomputable def sameC : Nat → Value → Value → Option Bool
  | 0, .bool a, .bool b => some (a == b)
  | 1, .int k a, .int j b => if k = j then some (a == b) else none
  | _ + 2, .string a, .string b => some (a.toList == b.toList)
  | _, _, _ => none
noncomputable def eqAt (X Y : Array Value) : List (Nat × Nat) → Option Bool
  | [] => some true
  | x :: L => match X[x.1]?, Y[x.1]? with
    | some a, some b => match sameC x.2 a b with
      | some true => eqAt X Y L
      | some false => some false
      | none => none
    | _, _ => none
theorem eqK_ok {k : Nat} {x y : AV} {ux uy : Value} {r : Bool} (h : (eqK k).f x y = some r) (hx : conc ρ x = some ux) (hy : conc ρ y = some uy) : sameC k ux uy = some r := by
  match k with
  | 0 =>
    have h' : vBool x none (fun a => vBool y none fun b => some (bEq a b)) = some r := h
    obtain ⟨a, rfl, h1⟩ := vBool_some h'
    obtain ⟨b, rfl, h2⟩ := vBool_some h1
    cases conc_bool hx; cases conc_bool hy
    rw [bEq_eq] at h2
    exact h2
  | 1 =>
    have h' : vInt x none (fun k a => vInt y none fun j b => cB (kEq k j) (some (ieq a b)) none) = some r := h
    obtain ⟨k, a, rfl, h1⟩ := vInt_some h'
    obtain ⟨j, b, rfl, h2⟩ := vInt_some h1
    cases conc_int hx; cases conc_int hy
    obtain ⟨h3, h4⟩ := cB_some h2
    cases kEq_iff.1 h3
    rw [ieq_eq] at h4
    simp only [sameC, if_true]
    rw [← h4]; rfl
  | n + 2 =>
    have h' : vStr x none (fun a => vStr y none fun b => some (natsEq a b)) = some r := h
    obtain ⟨a, rfl, h1⟩ := vStr_some h'
    obtain ⟨b, rfl, h2⟩ := vStr_some h1
    obtain ⟨s, rfl, hs⟩ := conc_str hx
    obtain ⟨s', rfl, hs'⟩ := conc_str hy
    simp only [sameC]
    rw [← text_same hs hs', ← h2]
theorem eqCs_ok : ∀ {L : List (Nat × Nat)} {o : Nat} {l m : List AV} {X Y : Array Value} {xs ys : List Value} {r : Bool}, L.map (·.1) = List.range' o L.length → (eqCs (L.map (·.2))).f l m = some r → concs ρ l = some xs → concs ρ m = some ys →
    (∀ i v, xs[i]? = some v → X[o + i]? = some v) → (∀ i v, ys[i]? = some v → Y[o + i]? = some v) → eqAt X Y L = some r
  | [], _, l, m, _, _, _, _, r, _, h, _, _, _, _ => by
    have h' : cL l (cL m (some true) fun _ _ => none) (fun _ _ => none) = some r := h
    cases l <;> cases m <;> first | exact h' | cases h'
  | x :: L, o, l, m, X, Y, xs, ys, r, hL, h, hx, hy, hX, hY => by
    have h' : cL l none (fun a l => cL m none fun b m => cO ((eqK x.2).f a b) none fun r => cB r ((eqCs (L.map (·.2))).f l m) (some false)) = some r := h
    cases l with
    | nil => cases h'
    | cons a l =>
    cases m with
    | nil => cases h'
    | cons b m =>
    obtain ⟨ux, qx, rfl, hx1, hx2⟩ := concs_cons hx
    obtain ⟨uy, qy, rfl, hy1, hy2⟩ := concs_cons hy
    have h'' : cO ((eqK x.2).f a b) none (fun r => cB r ((eqCs (L.map (·.2))).f l m) (some false)) = some r := h'
    obtain ⟨r1, h1, h2⟩ := cO_some' h''
    have h3 := eqK_ok h1 hx1 hy1
    simp only [List.map_cons, List.length_cons, List.range'_succ, List.cons.injEq] at hL
    have e1 : X[x.1]? = some ux := by rw [hL.1]; exact hX 0 ux rfl
    have e2 : Y[x.1]? = some uy := by rw [hL.1]; exact hY 0 uy rfl
    simp only [eqAt, e1, e2, h3]
    cases r1 with
    | false => exact h2
    | true =>
      have h2 : (eqCs (L.map (·.2))).f l m = some r := h2
      exact eqCs_ok hL.2 h2 hx2 hy2 (fun i v hi => by have := hX (i + 1) v hi; rwa [show o + (i + 1) = o + 1 + i by omega] at this) (fun i v hi => by have := hY (i + 1) v hi; rwa [show o + (i + 1) = o + 1 + i by omega] at this)
theorem eqAt_append {X Y : Array Value} : ∀ {A B : List (Nat × Nat)} {r : Bool}, eqAt X Y (A ++ B) = some r → (eqAt X Y A = some false ∧ r = false) ∨ (eqAt X Y A = some true ∧ eqAt X Y B = some r)
  | [], B, r, h => .inr ⟨rfl, h⟩
  | x :: A, B, r, h => by
    simp only [List.cons_append, eqAt] at h ⊢
    split at h
    · split at h
      · exact eqAt_append h
      · cases h; exact .inl ⟨rfl, rfl⟩
      · cases h
    · cases h

/-! ### How a type's values lie -/
/-- A value of a type lies in cells, from a place on. -/
noncomputable def LiesV (P : Program) (t : TypeId) (V : Value) (X : Array Value) (o : Nat) : Prop := match aggT P t with
  | some true => ∃ Y n, V = .agg Y ∧ sizeA P t = some n ∧ ∀ i, i < n → Y[i]? = X[o + i]?
  | some false => X[o]? = some V
  | none => False
theorem lookFs_pos {look : TypeId → Nat → Option (List (Nat × Nat))} (hl : ∀ t o L, look t o = some L → ∃ n, sizeA P t = some n ∧ ∀ x ∈ L, o ≤ x.1 ∧ x.1 < o + n) {n o : Nat} :
    ∀ {fs : List Field} {L : List (Nat × Nat)}, lookFs P look n o fs = some L → ∀ x ∈ L, o ≤ x.1 ∧ x.1 < o + n
  | [], L, h => by cases h; intro x hx; cases hx
  | f :: fs, L, h => by
    simp only [lookFs] at h
    split at h
    · rename_i m h1 h2
      split at h
      · rename_i a b h3 h4 h5
        cases h
        intro x hx
        rcases List.mem_append.1 hx with hx | hx
        · obtain ⟨m', h6, h7⟩ := hl _ _ _ h4
          rw [h2] at h6; cases h6
          have := h7 x hx
          have h3 : f.offset + m ≤ n := by simpa using h3
          omega
        · exact lookFs_pos hl h5 x hx
      · cases h
    · cases h
theorem lookEs_pos {look : Nat → Option (List (Nat × Nat))} {z : Nat} (hl : ∀ o L, look o = some L → ∀ x ∈ L, o ≤ x.1 ∧ x.1 < o + z) {o : Nat} :
    ∀ {k i : Nat} {L : List (Nat × Nat)}, lookEs look z o i k = some L → ∀ x ∈ L, o ≤ x.1 ∧ x.1 < o + (i + k) * z
  | 0, i, L, h => by cases h; intro x hx; cases hx
  | k + 1, i, L, h => by
    simp only [lookEs] at h
    split at h
    · rename_i a b h1 h2
      cases h
      intro x hx
      rcases List.mem_append.1 hx with hx | hx
      · have := hl _ _ h1 x hx
        have h3 : i * z + z ≤ (i + (k + 1)) * z := by rw [← Nat.succ_mul]; exact Nat.mul_le_mul_right z (by omega)
        omega
      · have := lookEs_pos hl h2 x hx
        rw [show i + 1 + k = i + (k + 1) by omega] at this
        exact this
    · cases h
theorem look1_some {t : TypeId} {o k : Nat} {L : List (Nat × Nat)} (h : look1 P t o k = some L) : sizeA P t = some 1 ∧ L = [(o, k)] := by
  unfold look1 at h
  split at h
  · rename_i e; cases h; exact ⟨e, rfl⟩
  · cases h
theorem lookT_pos : ∀ (d : Nat) (t : TypeId) (o : Nat) (L : List (Nat × Nat)), lookT P d t o = some L → ∃ n, sizeA P t = some n ∧ ∀ x ∈ L, o ≤ x.1 ∧ x.1 < o + n
  | 0, _, _, _, h => by cases h
  | d + 1, t, o, L, h => by
    simp only [lookT] at h
    split at h
    · obtain ⟨h1, rfl⟩ := look1_some h; exact ⟨1, h1, fun x hx => by rw [List.mem_singleton] at hx; subst hx; exact ⟨Nat.le_refl _, Nat.lt_succ_self _⟩⟩
    · obtain ⟨h1, rfl⟩ := look1_some h; exact ⟨1, h1, fun x hx => by rw [List.mem_singleton] at hx; subst hx; exact ⟨Nat.le_refl _, Nat.lt_succ_self _⟩⟩
    · obtain ⟨h1, rfl⟩ := look1_some h; exact ⟨1, h1, fun x hx => by rw [List.mem_singleton] at hx; subst hx; exact ⟨Nat.le_refl _, Nat.lt_succ_self _⟩⟩
    · split at h
      · rename_i n h1 h2; exact ⟨n, h2, lookFs_pos (lookT_pos d) h⟩
      · cases h
    · split at h
      · rename_i z s h1 h2
        split at h
        · rename_i h3
          have h3 := Nat.le_of_ble_eq_true h3
          refine ⟨s, h2, fun x hx => ?_⟩
          have := lookEs_pos (fun o L hL => by obtain ⟨n, e1, e2⟩ := lookT_pos d _ _ _ hL; rw [h1] at e1; cases e1; exact e2) h x hx
          rw [Nat.zero_add] at this
          omega
        · cases h
      · cases h
    · cases h
theorem part_lies {t : TypeId} {X Y : Array Value} {o fo n m : Nat} (hY : ∀ i, i < n → Y[i]? = X[o + i]?) (hfo : fo + m ≤ n) (hm : sizeA P t = some m) {b : Bool} (ha : aggT P t = some b) (hleaf : b = false → 0 < m ∧ (X[o + fo]?).isSome = true) :
    ∃ V, (part t Y fo).run P w = .ok V w ∧ LiesV P t V X (o + fo) := by
  cases b with
  | true =>
    refine ⟨.agg (Y.extract fo (fo + m)), by simp [part, agg_run ha, size_run hm], ?_⟩
    unfold LiesV
    rw [ha]
    refine ⟨_, m, rfl, hm, fun i hi => ?_⟩
    rw [Nat.add_assoc, ← hY (fo + i) (by omega), Array.getElem?_extract]
    split
    · rfl
    · rw [Array.getElem?_eq_none (by omega)]
  | false =>
    obtain ⟨h1, h2⟩ := hleaf rfl
    obtain ⟨v, hv⟩ := Option.isSome_iff_exists.1 h2
    refine ⟨v, ?_, ?_⟩
    · have := hY fo (by omega)
      rw [hv] at this
      simp [part, agg_run ha, this]
    · unfold LiesV
      rw [ha]; exact hv
/-- A leaf's first cell is looked at; a value with parts need not have any. -/
theorem lookT_agg {d : Nat} {t : TypeId} {o : Nat} {L : List (Nat × Nat)} (h : lookT P d t o = some L) : ∃ b, aggT P t = some b ∧ (b = false → sizeA P t = some 1 ∧ ∃ k, L = [(o, k)]) := by
  cases d with
  | zero => cases h
  | succ d =>
    simp only [lookT] at h
    unfold aggT
    split at h
    · rename_i e; rw [e]; obtain ⟨h1, rfl⟩ := look1_some h; exact ⟨false, rfl, fun _ => ⟨h1, _, rfl⟩⟩
    · rename_i e; rw [e]; obtain ⟨h1, rfl⟩ := look1_some h; exact ⟨false, rfl, fun _ => ⟨h1, _, rfl⟩⟩
    · rename_i e; rw [e]; obtain ⟨h1, rfl⟩ := look1_some h; exact ⟨false, rfl, fun _ => ⟨h1, _, rfl⟩⟩
    · rename_i e; rw [e]; exact ⟨true, rfl, fun x => by cases x⟩
    · rename_i e; rw [e]; exact ⟨true, rfl, fun x => by cases x⟩
    · cases h
theorem eqAt_single {X Y : Array Value} {o k : Nat} {r : Bool} (h : eqAt X Y [(o, k)] = some r) : ∃ a b, X[o]? = some a ∧ Y[o]? = some b ∧ sameC k a b = some r := by
  simp only [eqAt] at h
  split at h
  · rename_i a b h1 h2
    split at h
    · rename_i h3; cases h; exact ⟨a, b, h1, h2, h3⟩
    · rename_i h3; cases h; exact ⟨a, b, h1, h2, h3⟩
    · cases h
  · cases h
theorem eq_fields {d D : Nat} {X Y xs ys : Array Value} {o n : Nat} (hx : ∀ i, i < n → xs[i]? = X[o + i]?) (hy : ∀ i, i < n → ys[i]? = Y[o + i]?)
    (ih : ∀ t o L, lookT P d t o = some L → ∀ V W r, LiesV P t V X o → LiesV P t W Y o → eqAt X Y L = some r → (Op.equalIn (d + D) t V W).run P w = .ok r w) :
    ∀ {fs : List Field} {L : List (Nat × Nat)} {r : Bool}, lookFs P (lookT P d) n o fs = some L → eqAt X Y L = some r → (Op.eqFields (d + D) xs ys fs).run P w = .ok r w
  | [], L, r, h, he => by cases h; cases he; rfl
  | f :: fs, L, r, h, he => by
    simp only [lookFs] at h
    split at h
    · rename_i m h1 h2
      split at h
      · rename_i a b h3 h4 h5
        cases h
        have h3 : f.offset + m ≤ n := by simpa using h3
        have hname : f.name ≠ "_" := by intro e; rw [e] at h1; cases h1
        obtain ⟨bb, hb1, hb2⟩ := lookT_agg h4
        have hsome : ∀ r', eqAt X Y a = some r' → (bb = false → 0 < m ∧ (X[o + f.offset]?).isSome = true) ∧ (bb = false → 0 < m ∧ (Y[o + f.offset]?).isSome = true) := fun r' hr' => by
          refine ⟨fun e => ?_, fun e => ?_⟩ <;> (
            obtain ⟨e1, k, rfl⟩ := hb2 e
            rw [h2] at e1; cases e1
            obtain ⟨u, v, e2, e3, _⟩ := eqAt_single hr'
            refine ⟨by omega, ?_⟩
            first | (rw [e2]; rfl) | (rw [e3]; rfl))
        have go : ∀ r', eqAt X Y a = some r' → ∃ V W, (part f.type xs f.offset).run P w = .ok V w ∧ (part f.type ys f.offset).run P w = .ok W w ∧ (Op.equalIn (d + D) f.type V W).run P w = .ok r' w := fun r' hr' => by
          obtain ⟨s1, s2⟩ := hsome r' hr'
          obtain ⟨V, v1, v2⟩ := part_lies (w := w) hx h3 h2 hb1 s1
          obtain ⟨W, w1, w2⟩ := part_lies (w := w) hy h3 h2 hb1 s2
          exact ⟨V, W, v1, w1, ih _ _ _ h4 V W r' v2 w2 hr'⟩
        rcases eqAt_append he with ⟨e1, rfl⟩ | ⟨e1, e2⟩
        · obtain ⟨V, W, g1, g2, g3⟩ := go false e1
          simp only [Op.eqFields, hname, ne_eq, not_false_eq_true, if_true, Sem.run_bind, g1, g2, g3, Result.andThen_ok, Bool.not_false, Sem.run_pure]
        · obtain ⟨V, W, g1, g2, g3⟩ := go true e1
          simp only [Op.eqFields, hname, ne_eq, not_false_eq_true, if_true, Sem.run_bind, g1, g2, g3, Result.andThen_ok, Bool.not_true, Bool.false_eq_true, if_false]
          exact eq_fields hx hy ih h5 e2
      · cases h
    · cases h
end
end Go.Proofs.YthgkdadchfoomabGreat.Ev
