/- A run of a program on abstract memory: sameness of values, operators. -/
import Derived.Test.YthgkdadchfoomabGreatEvQ
import Derived.ChangeKeysEq
namespace Go.Proofs.YthgkdadchfoomabGreat.Ev
section
variable {P : Program} {ρ : Rho} {S : AS} {w : World}

theorem sameC_bool {a b : Value} {r : Bool} (h : sameC 0 a b = some r) : ∃ x y, a = .bool x ∧ b = .bool y ∧ (x == y) = r := by
  cases a <;> cases b <;> first | exact ⟨_, _, rfl, rfl, Option.some.inj h⟩ | cases h
theorem sameC_int {a b : Value} {r : Bool} (h : sameC 1 a b = some r) : ∃ k x y, a = .int k x ∧ b = .int k y ∧ (x == y) = r := by
  cases a with
  | int k x =>
    cases b with
    | int j y =>
      have h' : (if k = j then some (x == y) else none) = some r := h
      split at h'
      · rename_i e; subst e; exact ⟨_, _, _, rfl, rfl, Option.some.inj h'⟩
      · cases h'
    | _ => cases h
  | _ => cases b <;> cases h
theorem sameC_string {a b : Value} {r : Bool} (h : sameC 2 a b = some r) : ∃ x y, a = .string x ∧ b = .string y ∧ (x.toList == y.toList) = r := by
  cases a <;> cases b <;> first | exact ⟨_, _, rfl, rfl, Option.some.inj h⟩ | cases h
theorem LiesV.leaf {t : TypeId} {V : Value} {X : Array Value} {o : Nat} (h : LiesV P t V X o) (ha : aggT P t = some false) : X[o]? = some V := by
  unfold LiesV at h; rw [ha] at h; exact h
theorem LiesV.parts {t : TypeId} {V : Value} {X : Array Value} {o : Nat} (h : LiesV P t V X o) (ha : aggT P t = some true) : ∃ Y n, V = .agg Y ∧ sizeA P t = some n ∧ ∀ i, i < n → Y[i]? = X[o + i]? := by
  unfold LiesV at h; rw [ha] at h; exact h
theorem eq_items {d z n : Nat} {e : TypeId} {X Y xs ys : Array Value} {o : Nat} (hx : ∀ i, i < n → xs[i]? = X[o + i]?) (hy : ∀ i, i < n → ys[i]? = Y[o + i]?) (hz : sizeA P e = some z) {look : Nat → Option (List (Nat × Nat))}
    (hag : ∀ o L, look o = some L → ∃ b, aggT P e = some b ∧ (b = false → sizeA P e = some 1 ∧ ∃ k, L = [(o, k)]))
    (ih : ∀ o L, look o = some L → ∀ V W r, LiesV P e V X o → LiesV P e W Y o → eqAt X Y L = some r → (Op.equalIn d e V W).run P w = .ok r w) :
    ∀ {k i : Nat} {L : List (Nat × Nat)} {r : Bool}, (i + k) * z ≤ n → lookEs look z o i k = some L → eqAt X Y L = some r → (Op.eqItems d e z xs ys (List.range' i k)).run P w = .ok r w
  | 0, i, L, r, _, h, he => by cases h; cases he; rfl
  | k + 1, i, L, r, hn, h, he => by
    simp only [lookEs] at h
    split at h
    · rename_i a b h4 h5
      cases h
      have h3 : i * z + z ≤ n := by rw [← Nat.succ_mul]; exact Nat.le_trans (Nat.mul_le_mul_right z (by omega)) hn
      obtain ⟨bb, hb1, hb2⟩ := hag _ _ h4
      have hsome : ∀ r', eqAt X Y a = some r' → (bb = false → 0 < z ∧ (X[o + i * z]?).isSome = true) ∧ (bb = false → 0 < z ∧ (Y[o + i * z]?).isSome = true) := fun r' hr' => by
        refine ⟨fun e => ?_, fun e => ?_⟩ <;> (
          obtain ⟨e1, k, rfl⟩ := hb2 e
          rw [hz] at e1; cases e1
          obtain ⟨u, v, e2, e3, _⟩ := eqAt_single hr'
          refine ⟨by omega, ?_⟩
          first | (rw [e2]; rfl) | (rw [e3]; rfl))
      have go : ∀ r', eqAt X Y a = some r' → ∃ V W, (part e xs (i * z)).run P w = .ok V w ∧ (part e ys (i * z)).run P w = .ok W w ∧ (Op.equalIn d e V W).run P w = .ok r' w := fun r' hr' => by
        obtain ⟨s1, s2⟩ := hsome r' hr'
        obtain ⟨V, v1, v2⟩ := part_lies (w := w) hx h3 hz hb1 s1
        obtain ⟨W, w1, w2⟩ := part_lies (w := w) hy h3 hz hb1 s2
        exact ⟨V, W, v1, w1, ih _ _ h4 V W r' v2 w2 hr'⟩
      rw [List.range'_succ]
      rcases eqAt_append he with ⟨e1, rfl⟩ | ⟨e1, e2⟩
      · obtain ⟨V, W, g1, g2, g3⟩ := go false e1
        simp [Op.eqItems, g1, g2, g3]
      · obtain ⟨V, W, g1, g2, g3⟩ := go true e1
        have := eq_items hx hy hz hag ih (by rw [show i + 1 + k = i + (k + 1) by omega]; exact hn) h5 e2
        simp [Op.eqItems, g1, g2, g3, this]
    · cases h
theorem eq_flat : ∀ (d : Nat) (t : TypeId) (o : Nat) (L : List (Nat × Nat)), lookT P d t o = some L → ∀ (D : Nat) (V W : Value) (X Y : Array Value) (r : Bool), LiesV P t V X o → LiesV P t W Y o → eqAt X Y L = some r →
    (Op.equalIn (d + D) t V W).run P w = .ok r w
  | 0, _, _, _, h => by cases h
  | d + 1, t, o, L, h => by
    intro D V W X Y r hV hW he
    rw [show d + 1 + D = (d + D) + 1 by omega]
    obtain ⟨bb, hb1, hb2⟩ := lookT_agg h
    simp only [lookT] at h
    split at h
    · rename_i hu
      have ha : aggT P t = some false := by simp [aggT, hu]
      obtain ⟨_, rfl⟩ := look1_some h
      obtain ⟨a, b, e1, e2, e3⟩ := eqAt_single he
      rw [hV.leaf ha] at e1; rw [hW.leaf ha] at e2
      cases e1; cases e2
      obtain ⟨x, y, rfl, rfl, rfl⟩ := sameC_bool e3
      exact run_equalIn_bool w _ _ _ _ hu
    · rename_i kk hu
      have ha : aggT P t = some false := by simp [aggT, hu]
      obtain ⟨_, rfl⟩ := look1_some h
      obtain ⟨a, b, e1, e2, e3⟩ := eqAt_single he
      rw [hV.leaf ha] at e1; rw [hW.leaf ha] at e2
      cases e1; cases e2
      obtain ⟨k, x, y, rfl, rfl, rfl⟩ := sameC_int e3
      simp [Op.equalIn, run_underlying hu]
    · rename_i hu
      have ha : aggT P t = some false := by simp [aggT, hu]
      obtain ⟨_, rfl⟩ := look1_some h
      obtain ⟨a, b, e1, e2, e3⟩ := eqAt_single he
      rw [hV.leaf ha] at e1; rw [hW.leaf ha] at e2
      cases e1; cases e2
      obtain ⟨x, y, rfl, rfl, rfl⟩ := sameC_string e3
      exact run_equalIn_string w _ _ _ _ hu
    · rename_i fs hu
      have ha : aggT P t = some true := by simp [aggT, hu]
      obtain ⟨xs, n, rfl, hn, hx⟩ := hV.parts ha
      obtain ⟨ys, n', rfl, hn', hy⟩ := hW.parts ha
      rw [hn] at hn'; cases hn'
      split at h
      · rename_i m h1 h2
        rw [hn] at h2; cases h2
        have hf : P.fieldsOf t = fs := by simp [Program.fieldsOf, hu]
        rw [run_equalIn_struct w (d + D) t xs ys (by rw [hf]; exact hu) h1, hf]
        exact eq_fields hx hy (fun t o L hL V W r v1 v2 v3 => eq_flat d t o L hL D V W X Y r v1 v2 v3) h he
      · cases h
    · rename_i len e hu
      have ha : aggT P t = some true := by simp [aggT, hu]
      obtain ⟨xs, n, rfl, hn, hx⟩ := hV.parts ha
      obtain ⟨ys, n', rfl, hn', hy⟩ := hW.parts ha
      rw [hn] at hn'; cases hn'
      split at h
      · rename_i z m h1 h2
        rw [hn] at h2; cases h2
        split at h
        · rename_i h3
          have h3 := Nat.le_of_ble_eq_true h3
          obtain ⟨i, hi, hiz⟩ := info_run h1
          have hc : P.cellsOf e = z := by simp [Program.cellsOf, hi, hiz]
          rw [run_equalIn_array w (d + D) xs ys hu hi, hc, List.range_eq_range']
          exact eq_items hx hy h1 (fun o L hL => lookT_agg hL) (fun o L hL V W r v1 v2 v3 => eq_flat d e o L hL D V W X Y r v1 v2 v3) (by rw [Nat.zero_add]; exact h3) h he
        · cases h
      · cases h
    · cases h
/-- What flatT says. -/
theorem flatT_some {t : TypeId} {ks : List Nat} (h : flatT P t = some ks) : ∃ L n, lookT P 20 t 0 = some L ∧ sizeA P t = some n ∧ P.eqGuardType P.depth t = false ∧ L.map (·.1) = List.range' 0 L.length ∧ L.map (·.2) = ks ∧ L.length = n := by
  unfold flatT at h
  split at h
  · rename_i l n h1 h2 h3
    split at h
    · rename_i h4
      cases h
      have h4 : l.map (·.1) = List.range n := by simpa using h4
      have h5 : l.length = n := by have := congrArg List.length h4; simpa using this
      exact ⟨l, n, h1, h2, h3, by rw [h4, h5, List.range_eq_range'], rfl, h5⟩
    · cases h
  · cases h
theorem flat_equal {t : TypeId} {ks : List Nat} {a b : List AV} {xs ys : List Value} {r : Bool} (h : flatT P t = some ks) (ha : aggT P t = some true) (he : (eqCs ks).f a b = some r) (hx : concs ρ a = some xs) (hy : concs ρ b = some ys) :
    (Op.equal t (.agg xs.toArray) (.agg ys.toArray)).run P w = .ok r w := by
  obtain ⟨L, n, h1, h2, _, h4, rfl, h6⟩ := flatT_some h
  have e := eqCs_ok (X := xs.toArray) (Y := ys.toArray) h4 he hx hy (fun i v hi => by rw [Nat.zero_add, List.getElem?_toArray]; exact hi) (fun i v hi => by rw [Nat.zero_add, List.getElem?_toArray]; exact hi)
  have hl : ∀ zs : List Value, LiesV P t (.agg zs.toArray) zs.toArray 0 := fun zs => by
    unfold LiesV; rw [ha]
    exact ⟨zs.toArray, n, rfl, h2, fun i _ => by rw [Nat.zero_add]⟩
  exact eq_flat 20 t 0 L h1 (Op.maxDepth - 20) _ _ _ _ r (hl xs) (hl ys) e
end
end Go.Proofs.YthgkdadchfoomabGreat.Ev
