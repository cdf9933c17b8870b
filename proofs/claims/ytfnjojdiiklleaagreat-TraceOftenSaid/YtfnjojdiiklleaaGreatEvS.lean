/- A run of a program on abstract memory: sameness of values, operators. -/
import Derived.Test.YtfnjojdiiklleaaGreatEvQ
import Derived.ChangeKeysEq
namespace Go.Proofs.YtfnjojdiiklleaaGreat.Ev
section
variable {P : Program} {ρ : Rho} {S : AS} {w : World}

theorem sameC_bool {a b : Value} {r : Bool} (h : sameC 0 a b = some r) : ∃ x y, a = .bool x ∧ b = .bool y ∧ (x == y) = r := by
  cases a <;> cases b <;> first | exact ⟨_, _, rfl, rfl, Option.some.inj h⟩ | cases h
theorem sameC_int {a b : Value} {r : Bool} (h : sameC 1 a b = some r) : ∃ k x y, a = .int k x ∧ b = .int k y ∧ (x == y) = r := by
  cases a with
  | int k x =>
    cases b with
    | int j y =>
      have h' : (if k = j then some (x == y) else none) = some r := h
      split at h'
      · rename_i e; subst e; exact ⟨_, _, _, rfl, rfl, Option.some.inj h'⟩
      · cases h'
    | _ => cases h
  | _ => cases b <;> cases h
theorem sameC_string {a b : Value} {r : Bool} (h : sameC 2 a b = some r) : ∃ x y, a = .string x ∧ b = .string y ∧ (x.toList == y.toList) = r := by
  cases a <;> cases b <;> first | exact ⟨_, _, rfl, rfl, Option.some.inj h⟩ | cases h
theorem LiesV.leaf {t : TypeId} {V : Value} {X : Array Value} {o : Nat} (h : LiesV P t V X o) (ha : aggT P t = some false) : X[o]? = some V := by
  unfold LiesV at h; rw [ha] at h; exact h
theorem LiesV.parts {t : TypeId} {V : Value} {X : Array Value} {o : Nat} (h : LiesV P t V X o) (ha : aggT P t = some true) : ∃ Y n, V = .agg Y ∧ sizeA P t = some n ∧ ∀ i, i < n → Y[i]? = X[o + i]? := by
  unfold LiesV at h; rw [ha] at h; exact h
theorem eq_items {d z n : Nat} {e : TypeId} {X Y xs ys : Array Value} {o : Nat} (hx : ∀ i, i < n → xs[i]? = X[o + i]?) (hy : ∀ i, i < n → ys[i]? = Y[o + i]?) (hz : sizeA P e = some z) {look : Nat → Option (List (Nat × Nat))}
    (hag : ∀ o L, look o = some L → ∃ b, aggT P e = some b ∧ (b = false → sizeA P e = some 1 ∧ ∃ k, L = [(o, k)]))
    (ih : ∀ o L, look o = some L → ∀ V W r, LiesV P e V X o → LiesV P e W Y o → eqAt X Y L = some r → (Op.equalIn d e V W).run P w = .ok r w) :
    ∀ {k i : Nat} {L : List (Nat × Nat)} {r : Bool}, (i + k) * z ≤ n → lookEs look z o i k = some L → eqAt X Y L = some r → (Op.eqItems d e z xs ys (List.range' i k)).run P w = .ok r w
  | 0, i, L, r, _, h, he => by cases h; cases he; rfl
  | k + 1, i, L, r, hn, h, he => by
    simp only [lookEs] at h
    split at h
    · rename_i a b h4 h5
      cases h
      have h3 : i * z + z ≤ n := by rw [← Nat.succ_mul]; exact Nat.le_trans (Nat.mul_le_mul_right z (by omega)) hn
      obtain ⟨bb, hb1, hb2⟩ := hag _ _ h4
      have hsome : ∀ r', eqAt X Y a = some r' → (bb = false → 0 < z ∧ (X[o + i * z]?).isSome = true) ∧ (bb = false → 0 < z ∧ (Y[o + i * z]?).isSome = true) := fun r' hr' => by
        refine ⟨fun e => ?_, fun e => ?_⟩ <;> (
          obtain ⟨e1, k, rfl⟩ := hb2 e
          rw [hz] at e1; cases e1
          obtain ⟨u, v, e2, e3, _⟩ := eqAt_single hr'
          refine ⟨by omega, ?_⟩
          first | (rw [e2]; rfl) | (rw [e3]; rfl))
      have go : ∀ r', eqAt X Y a = some r' → ∃ V W, (part e xs (i * z)).run P w = .ok V w ∧ (part e ys (i * z)).run P w = .ok W w ∧ (Op.equalIn d e V W).run P w = .ok r' w := fun r' hr' => by
        obtain ⟨s1, s2⟩ := hsome r' hr'
        obtain ⟨V, v1, v2⟩ := part_lies (w := w) hx h3 hz hb1 s1
        obtain ⟨W, w1, w2⟩ := part_lies (w := w) hy h3 hz hb1 s2
        exact ⟨V, W, v1, w1, ih _ _ h4 V W r' v2 w2 hr'⟩
      rw [List.range'_succ]
      rcases eqAt_append he with ⟨e1, rfl⟩ | ⟨e1, e2⟩
      · obtain ⟨V, W, g1, g2, g3⟩ := go false e1
        simp [Op.eqItems, g1, g2, g3]
      · obtain ⟨V, W, g1, g2, g3⟩ := go true e1
        have := eq_items hx hy hz hag ih (by rw [show i + 1 + k = i + (k + 1) by omega]; exact hn) h5 e2
        simp [Op.eqItems, g1, g2, g3, this]
    · cases h
theorem eq_flat : ∀ (d : Nat) (t : TypeId) (o : Nat) (L : List (Nat × Nat)), lookT P d t o = some L → ∀ (D : Nat) (V W : Value) (X Y : Array Value) (r : Bool), LiesV P t V X o → LiesV P t W Y o → eqAt X Y L = some r →
    (Op.equalIn (d + D) t V W).run P w = .ok r w
  | 0, _, _, _, h => by cases h
  | d + 1, t, o, L, h => by
    intro D V W X Y r hV hW he
    rw [show d + 1 + D = (d + D) + 1 by omega]
    obtain ⟨bb, hb1, hb2⟩ := lookT_agg h
    simp only [lookT] at h
    split at h
    · rename_i hu
      have ha : aggT P t = some false := by simp [aggT, hu]
      obtain ⟨_, rfl⟩ := look1_some h
      obtain ⟨a, b, e1, e2, e3⟩ := eqAt_single he
      rw [hV.leaf ha] at e1; rw [hW.leaf ha] at e2
      cases e1; cases e2
      obtain ⟨x, y, rfl, rfl, rfl⟩ := sameC_bool e3
      exact run_equalIn_bool w _ _ _ _ hu
    · rename_i kk hu
      have ha : aggT P t = some false := by simp [aggT, hu]
      obtain ⟨_, rfl⟩ := look1_some h
      obtain ⟨a, b, e1, e2, e3⟩ := eqAt_single he
      rw [hV.leaf ha] at e1; rw [hW.leaf ha] at e2
      cases e1; cases e2
      obtain ⟨k, x, y, rfl, rfl, rfl⟩ := sameC_int e3
      simp [Op.equalIn, run_underlying hu]
    · rename_i hu
      have ha : aggT P t = some false := by simp [aggT, hu]
      obtain ⟨_, rfl⟩ := look1_some h
      obtain ⟨a, b, e1, e2, e3⟩ := eqAt_single he
      rw [hV.leaf ha] at e1; rw [hW.leaf ha] at e2
      cases e1; cases e2
      obtain ⟨x, y, rfl, rfl, rfl⟩ := sameC_string e3
      exact run_equalIn_string w _ _ _ _ hu
    · rename_i fs hu
      have ha : aggT P t = some true := by simp [aggT, hu]
      obtain ⟨xs, n, rfl, hn, hx⟩ := hV.parts ha
      obtain ⟨ys, n', rfl, hn', hy⟩ := hW.parts ha
      rw [hn] at hn'; cases hn'
      split at h
      · rename_i m h1 h2
        rw [hn] at h2; cases h2
        have hf : P.fieldsOf t = fs := by simp [Program.fieldsOf, hu]
        rw [run_equalIn_struct w (d + D) t xs ys (by rw [hf]; exact hu) h1, hf]
        exact eq_fields hx hy (fun t o L hL V W r v1 v2 v3 => eq_flat d t o L hL D V W X Y r v1 v2 v3) h he
      · cases h
    · rename_i len e hu
      have ha : aggT P t = some true := by simp [aggT, hu]
      obtain ⟨xs, n, rfl, hn, hx⟩ := hV.parts ha
      obtain ⟨ys, n', rfl, hn', hy⟩ := hW.parts ha
      rw [hn] at hn'; cases hn'
      split at h
      · rename_i z m h1 h2
        rw [hn] at h2; cases h2
        split at h
        · rename_i h3
          have h3 := Nat.le_of_ble_eq_true h3
          obtain ⟨i, hi, hiz⟩ := info_run h1
          have hc : P.cellsOf e = z := by simp [Program.cellsOf, hi, hiz]
          rw [run_equalIn_array w (d + D) xs ys hu hi, hc, List.range_eq_range']
          exact eq_items hx hy h1 (fun o L hL => lookT_agg hL) (fun o L hL V W r v1 v2 v3 => eq_flat d e o L hL D V W X Y r v1 v2 v3) (by rw [Nat.zero_add]; exact h3) h he
        · cases h
      · cases h
    · cases h
/-- What flatT says. -/
theorem flatT_some {t : TypeId} {ks : List Nat} (h : flatT P t = some ks) : ∃ L n, lookT P 20 t 0 = some L ∧ sizeA P t = some n ∧ P.eqGuardType P.depth t = false ∧ L.map (·.1) = List.range' 0 L.length ∧ L.map (·.2) = ks ∧ L.length = n := by
  unfold flatT at h
  split at h
  · rename_i l n h1 h2 h3
    split at h
    · rename_i h4
      cases h
      have h4 : l.map (·.1) = List.range n := by simpa using h4
      have h5 : l.length = n := by have := congrArg List.length h4; simpa using this
      exact ⟨l, n, h1, h2, h3, by rw [h4, h5, List.range_eq_range'], rfl, h5⟩
    · cases h
  · cases h
theorem flat_equal {t : TypeId} {ks : List Nat} {a b : List AV} {xs ys : List Value} {r : Bool} (h : flatT P t = some ks) (ha : aggT P t = some true) (he : (eqCs ks).f a b = some r) (hx : concs ρ a = some xs) (hy : concs ρ b = some ys) :
    (Op.equal t (.agg xs.toArray) (.agg ys.toArray)).run P w = .ok r w := by
  obtain ⟨L, n, h1, h2, _, h4, rfl, h6⟩ := flatT_some h
  have e := eqCs_ok (X := xs.toArray) (Y := ys.toArray) h4 he hx hy (fun i v hi => by rw [Nat.zero_add, List.getElem?_toArray]; exact hi) (fun i v hi => by rw [Nat.zero_add, List.getElem?_toArray]; exact hi)
  have hl : ∀ zs : List Value, LiesV P t (.agg zs.toArray) zs.toArray 0 := fun zs => by
    unfold LiesV; rw [ha]
    exact ⟨zs.toArray, n, rfl, h2, fun i _ => by rw [Nat.zero_add]⟩
  exact eq_flat 20 t 0 L h1 (Op.maxDepth - 20) _ _ _ _ r (hl xs) (hl ys) e
end
end Go.Proofs.YtfnjojdiiklleaaGreat.Ev
namespace Go.Proofs.YtfnjojdiiklleaaGreat.Ev
section
variable {P : Program} {ρ : Rho} {S : AS} {w : World}

theorem eqGuard_agg {op : BinOp} {t : TypeId} {X Y : Operand} {a b : Array Value} (h : P.eqGuardType P.depth t = false) : (eqGuard op t X Y (.agg a) (.agg b)).run P w = .ok () w := by
  cases op <;> simp [eqGuard, h]
theorem eqGuard_else {op : BinOp} {t : TypeId} {X Y : Operand} {a b : Value} (h1 : a ≠ .nilIface) (h2 : ∀ l, a ≠ .agg l) : (eqGuard op t X Y a b).run P w = .ok () w := by
  cases a <;> first | exact absurd rfl h1 | exact absurd rfl (h2 _) | (cases op <;> simp [eqGuard])
theorem sameAddr_apart {g1 g2 o1 o2 : Nat} {a1 a2 : Array Value} {t1 t2 : TypeId} (h1 : w.heap[g1]? = some (.cells a1 t1 (0, 0))) (h2 : w.heap[g2]? = some (.cells a2 t2 (0, 0))) (hne : g1 ≠ g2) :
    (sameAddr ⟨g1, o1, none⟩ ⟨g2, o2, none⟩).run P w = .ok false w := by
  have hb : (g1 == g2) = false := by simpa using hne
  have s1 : w.shape? g1 = some (t1, a1.size) := by simp [World.shape?, h1]
  have s2 : w.shape? g2 = some (t2, a2.size) := by simp [World.shape?, h2]
  have f1 : ∀ o, w.frozen? ⟨g1, o, none⟩ = false := fun o => by simp [World.frozen?, h1]
  have f2 : ∀ o, w.frozen? ⟨g2, o, none⟩ = false := fun o => by simp [World.frozen?, h2]
  simp [sameAddr, hb, noView, viewAt, mayBeOne, stringish, s1, s2, f1, f2]
theorem relC_own (hs : Sat P ρ S w) {b : Nam} {g off cap : Nat} (hb : look ρ b = some (.blk g off cap)) (h : ownB S b = true) : (S.at b.p).live ∧ ∃ arr t, w.heap[g]? = some (.cells arr t (0, 0)) := by
  have h' : oCells (getA S b) false (fun m _ _ => cMd m true false false) = true := h
  cases e : getA S b with
  | cells m t cs =>
    rw [e] at h'
    cases m with
    | own =>
      rw [getA_eq] at e
      obtain ⟨g', off', cap', arr, fz, l, r⟩ := relC_of hs e
      have := look_path hb
      rw [r.here] at this
      cases this
      obtain ⟨_, _, h3⟩ := r.own rfl
      refine ⟨by rw [e]; exact trivial, arr, t, ?_⟩
      rw [r.obj, h3]
    | row => cases h'
    | lib => cases h'
  | _ => rw [e] at h'; cases h'
theorem vFnN_some {α : Type} {x : α} {v : AV} {a : Option α} {f : FuncId → List AV → List AV → Option α} {g : Nam → Option α} (h : vFnN v none a f g = some x) :
    (v = .nilf ∧ a = some x) ∨ (∃ k p q, v = .func k p q ∧ f k p q = some x) ∨ (∃ l, v = .yld l ∧ g l = some x) := by
  cases v <;> first | exact .inl ⟨rfl, h⟩ | exact .inr (.inl ⟨_, _, _, rfl, h⟩) | exact .inr (.inr ⟨_, rfl, h⟩) | cases h
theorem eq_ok (hs : Sat P ρ S w) {t : TypeId} {x y : AV} {ux uy : Value} {b : Bool} (h : (eqA P t).f x y S = some b) (hx : conc ρ x = some ux) (hy : conc ρ y = some uy) :
    (Op.equal t ux uy).run P w = .ok b w ∧ (∀ op X Y, (eqGuard op t X Y ux uy).run P w = .ok () w) ∧ (∀ k n, ux ≠ .int k n) ∧ (∀ s, ux ≠ .string s) ∧ (∀ k n, ux ≠ .float k n) ∧ (∀ k n m, ux ≠ .complex k n m) := by
  unfold eqA at h
  split at h
  · rename_i hu
    have h' : vBool x none (fun a => vBool y none fun b => some (bEq a b)) = some b := h
    obtain ⟨p, rfl, h1⟩ := vBool_some h'
    obtain ⟨q, rfl, h2⟩ := vBool_some h1
    cases conc_bool hx; cases conc_bool hy
    rw [bEq_eq] at h2
    cases h2
    exact ⟨run_equalIn_bool w _ _ _ _ hu, fun _ _ _ => eqGuard_else (by intro e; cases e) (by intro l e; cases e), nofun, nofun, nofun, nofun⟩
  · rename_i fs hu
    split at h
    · rename_i ks hk
      obtain ⟨l, rfl, h1⟩ := vAgg_some h
      obtain ⟨m, rfl, h2⟩ := vAgg_some h1
      obtain ⟨xs, rfl, hxs⟩ := conc_agg hx
      obtain ⟨ys, rfl, hys⟩ := conc_agg hy
      obtain ⟨_, _, _, _, hg, _⟩ := flatT_some hk
      exact ⟨flat_equal hk (by simp [aggT, hu]) h2 hxs hys, fun _ _ _ => eqGuard_agg hg, nofun, nofun, nofun, nofun⟩
    · cases h
  · rename_i n e hu
    split at h
    · rename_i ks hk
      obtain ⟨l, rfl, h1⟩ := vAgg_some h
      obtain ⟨m, rfl, h2⟩ := vAgg_some h1
      obtain ⟨xs, rfl, hxs⟩ := conc_agg hx
      obtain ⟨ys, rfl, hys⟩ := conc_agg hy
      obtain ⟨_, _, _, _, hg, _⟩ := flatT_some hk
      exact ⟨flat_equal hk (by simp [aggT, hu]) h2 hxs hys, fun _ _ _ => eqGuard_agg hg, nofun, nofun, nofun, nofun⟩
    · cases h
  · rename_i e hu
    have nilcase : ∀ {p q : Option Addr}, (p = none ∨ q = none) → (Op.equal t (.pointer p) (.pointer q)).run P w = .ok (p.isNone && q.isNone) w := by
      intro p q hpq
      suffices H : ∀ d, (Op.equalIn (d + 1) t (.pointer p) (.pointer q)).run P w = .ok (p.isNone && q.isNone) w from H 9999
      intro d
      cases p <;> cases q <;> first | (rcases hpq with h | h <;> cases h; done) | simp [Op.equalIn, run_underlying hu]
    have fin : ∀ {p : Option Addr} {v : Value} {r : Bool}, (Op.equal t (.pointer p) v).run P w = .ok r w → (Op.equal t (.pointer p) v).run P w = .ok r w ∧ (∀ op X Y, (eqGuard op t X Y (.pointer p) v).run P w = .ok () w) ∧ (∀ k n, Value.pointer p ≠ .int k n) ∧ (∀ s, Value.pointer p ≠ .string s) ∧ (∀ k n, Value.pointer p ≠ .float k n) ∧ (∀ k n m, Value.pointer p ≠ .complex k n m) := fun h =>
      ⟨h, fun _ _ _ => eqGuard_else (by intro e; cases e) (by intro l e; cases e), nofun, nofun, nofun, nofun⟩
    split at h
    · rename_i z hz
      rcases vPtrN_some h with ⟨rfl, h1⟩ | ⟨a, o, rfl, h1⟩
      · cases conc_nilp hx
        rcases vPtrN_some h1 with ⟨rfl, h2⟩ | ⟨a, o, rfl, h2⟩
        · cases conc_nilp hy; cases h2; exact fin (nilcase (.inl rfl))
        · obtain ⟨_, _, _, _, rfl⟩ := conc_ptr hy; cases h2; exact fin (nilcase (.inl rfl))
      · obtain ⟨g, off, cap, hb, rfl⟩ := conc_ptr hx
        rcases vPtrN_some h1 with ⟨rfl, h2⟩ | ⟨a', o', rfl, h2⟩
        · cases conc_nilp hy; cases h2; exact fin (nilcase (.inr rfl))
        · obtain ⟨g', off', cap', hb', rfl⟩ := conc_ptr hy
          obtain ⟨h3, h4⟩ := cB_some h2
          obtain ⟨ho, ho'⟩ := bAnd_iff.1 h3
          obtain ⟨l1, arr1, t1, e1⟩ := relC_own hs hb ho
          obtain ⟨l2, arr2, t2, e2⟩ := relC_own hs hb' ho'
          have red : (Op.equal t (.pointer (some ⟨g, off + o, none⟩)) (.pointer (some ⟨g', off' + o', none⟩))).run P w = (sameAddr ⟨g, off + o, none⟩ ⟨g', off' + o', none⟩).run P w := by
            suffices H : ∀ d, (Op.equalIn (d + 1) t (.pointer (some ⟨g, off + o, none⟩)) (.pointer (some ⟨g', off' + o', none⟩))).run P w = (sameAddr ⟨g, off + o, none⟩ ⟨g', off' + o', none⟩).run P w from H 9999
            intro d
            simp [Op.equalIn, run_underlying hu, size_run hz]
          refine fin ?_
          rw [red]
          cases hn : Nat.beq a.n a'.n with
          | true =>
            rw [hn] at h4
            have h4 : some (Nat.beq o o') = some b := h4
            cases h4
            rw [Nat.beq_eq] at hn
            have := nam_eq hb hb' hn
            subst this
            rw [hb] at hb'; cases hb'
            have e3 : ((⟨g, off + o, none⟩ : Addr) == ⟨g, off + o', none⟩) = Nat.beq o o' := by
              cases hq : Nat.beq o o' with
              | true => rw [Nat.beq_eq] at hq; subst hq; simp
              | false =>
                have : o ≠ o' := by intro e; subst e; rw [Nat.beq_refl] at hq; cases hq
                simp [this]
            simp [sameAddr, e3]
          | false =>
            rw [hn] at h4
            have h4 : some false = some b := h4
            cases h4
            refine sameAddr_apart e1 e2 fun e => ?_
            subst e
            have hp := hs.inj _ _ _ _ _ _ _ l1 l2 (look_path hb) (look_path hb')
            have : a.n = a'.n := by rw [look_num hb, look_num hb', hp]
            rw [this, Nat.beq_refl] at hn; cases hn
    · rcases vPtrN_some h with ⟨rfl, h1⟩ | ⟨a, o, rfl, h1⟩
      · cases conc_nilp hx
        rcases vPtrN_some h1 with ⟨rfl, h2⟩ | ⟨a, o, rfl, h2⟩
        · cases conc_nilp hy; cases h2; exact fin (nilcase (.inl rfl))
        · obtain ⟨_, _, _, _, rfl⟩ := conc_ptr hy; cases h2; exact fin (nilcase (.inl rfl))
      · obtain ⟨g, off, cap, hb, rfl⟩ := conc_ptr hx
        rcases vPtrN_some h1 with ⟨rfl, h2⟩ | ⟨a', o', rfl, h2⟩
        · cases conc_nilp hy; cases h2; exact fin (nilcase (.inr rfl))
        · cases h2
  · rename_i e hu
    have some_of : ∀ {v : AV} {u : Value}, (∃ b o n c, v = .slice b o n c) ∨ (∃ b o n c, v = .row b o n c) ∨ (∃ b o p c, v = .tail b o p c) → conc ρ v = some u → ∃ a n c, u = .slice (some a) n c := by
      rintro v u (⟨b, o, n, c, rfl⟩ | ⟨b, o, n, c, rfl⟩ | ⟨b, o, n, c, rfl⟩) hu
      · obtain ⟨_, _, _, _, _, rfl⟩ := conc_slice hu; exact ⟨_, _, _, rfl⟩
      · obtain ⟨_, _, _, _, _, rfl⟩ := conc_row hu; exact ⟨_, _, _, rfl⟩
      · obtain ⟨_, _, _, _, _, rfl⟩ := conc_tail hu; exact ⟨_, _, _, rfl⟩
    have fin : ∀ {a a' : Option Addr} {n c n' c' : Nat}, (a = none ∨ a' = none) → b = (a.isNone && a'.isNone) → (Op.equal t (.slice a n c) (.slice a' n' c')).run P w = .ok b w ∧ (∀ op X Y, (eqGuard op t X Y (.slice a n c) (.slice a' n' c')).run P w = .ok () w) ∧ (∀ k m, Value.slice a n c ≠ .int k m) ∧ (∀ s, Value.slice a n c ≠ .string s) ∧ (∀ k m, Value.slice a n c ≠ .float k m) ∧ (∀ k m m', Value.slice a n c ≠ .complex k m m') := by
      intro a a' n c n' c' hq e
      subst e
      refine ⟨?_, fun _ _ _ => eqGuard_else (by intro e; cases e) (by intro l e; cases e), nofun, nofun, nofun, nofun⟩
      suffices H : ∀ d, (Op.equalIn (d + 1) t (.slice a n c) (.slice a' n' c')).run P w = .ok (a.isNone && a'.isNone) w from H 9999
      intro d
      cases a <;> cases a' <;> first | (rcases hq with hq | hq <;> cases hq; done) | simp [Op.equalIn, run_underlying hu]
    have two : ∀ {v : AV} {uv : Value}, ((∃ b o n c, v = .slice b o n c) ∨ (∃ b o n c, v = .row b o n c) ∨ (∃ b o p c, v = .tail b o p c)) → conc ρ v = some uv → vSl y none (vB false) (fun _ _ _ _ => none) (fun _ _ _ _ => none) = some b →
        (Op.equal t uv uy).run P w = .ok b w ∧ (∀ op X Y, (eqGuard op t X Y uv uy).run P w = .ok () w) ∧ (∀ k n, uv ≠ .int k n) ∧ (∀ s, uv ≠ .string s) ∧ (∀ k n, uv ≠ .float k n) ∧ (∀ k n m, uv ≠ .complex k n m) := fun {v uv} hv hvx hy2 => by
      obtain ⟨a, n, c, rfl⟩ := some_of hv hvx
      rcases vSl_some hy2 with ⟨rfl, h2⟩ | ⟨_, _, _, _, rfl, h2⟩ | ⟨_, _, _, _, rfl, h2⟩
      · cases conc_nils hy; cases h2; exact fin (a := some a) (a' := none) (n := n) (c := c) (n' := 0) (c' := 0) (.inr rfl) rfl
      · cases h2
      · cases h2
    rcases vSlT_some h with ⟨rfl, h1⟩ | ⟨p, o, n, c, rfl, h1⟩ | ⟨p, o, n, c, rfl, h1⟩ | ⟨p, o, n, c, rfl, h1⟩
    · cases conc_nils hx
      rcases vSlT_some h1 with ⟨rfl, h2⟩ | ⟨p, o, n, c, rfl, h2⟩ | ⟨p, o, n, c, rfl, h2⟩ | ⟨p, o, n, c, rfl, h2⟩
      · cases conc_nils hy; cases h2; exact fin (.inl rfl) rfl
      · obtain ⟨a, n, c, rfl⟩ := some_of (.inl ⟨_, _, _, _, rfl⟩) hy; cases h2; exact fin (.inl rfl) rfl
      · obtain ⟨a, n, c, rfl⟩ := some_of (.inr (.inl ⟨_, _, _, _, rfl⟩)) hy; cases h2; exact fin (.inl rfl) rfl
      · obtain ⟨a, n, c, rfl⟩ := some_of (.inr (.inr ⟨_, _, _, _, rfl⟩)) hy; cases h2; exact fin (.inl rfl) rfl
    · exact two (.inl ⟨_, _, _, _, rfl⟩) hx h1
    · exact two (.inr (.inl ⟨_, _, _, _, rfl⟩)) hx h1
    · exact two (.inr (.inr ⟨_, _, _, _, rfl⟩)) hx h1
  · rename_i q1 q2 q3 hu
    have isf : ∀ {v : AV} {u : Value}, ((∃ g a b, v = .func g a b) ∨ ∃ l, v = .yld l) → conc ρ v = some u → ∃ F a b, u = .func F a b := by
      rintro v u (⟨g, a, b, rfl⟩ | ⟨l, rfl⟩) hu
      · simp only [conc] at hu
        split at hu
        · cases hu; exact ⟨_, _, _, rfl⟩
        · cases hu
      · simp only [conc] at hu
        split at hu
        · cases hu; exact ⟨_, _, _, rfl⟩
        · cases hu
    have nilc : ∀ {u : Value}, conc ρ .nilf = some u → u = .nilFunc := fun h => by simp only [conc] at h; exact (Option.some.inj h).symm
    have fin : ∀ {u v : Value} {r : Bool}, ((u = .nilFunc ∧ v = .nilFunc ∧ r = true) ∨ (u = .nilFunc ∧ (∃ F a c, v = .func F a c) ∧ r = false) ∨ ((∃ F a c, u = .func F a c) ∧ v = .nilFunc ∧ r = false)) →
        (Op.equal t u v).run P w = .ok r w ∧ (∀ op X Y, (eqGuard op t X Y u v).run P w = .ok () w) ∧ (∀ k m, u ≠ .int k m) ∧ (∀ s, u ≠ .string s) ∧ (∀ k m, u ≠ .float k m) ∧ (∀ k m m', u ≠ .complex k m m') := by
      intro u v r h
      have H : (∀ d, (Op.equalIn (d + 1) t u v).run P w = .ok r w) → (Op.equal t u v).run P w = .ok r w := fun H => H 9999
      rcases h with ⟨rfl, rfl, rfl⟩ | ⟨rfl, ⟨F, a, c, rfl⟩, rfl⟩ | ⟨⟨F, a, c, rfl⟩, rfl, rfl⟩ <;>
        exact ⟨H fun d => by simp [Op.equalIn, run_underlying hu], fun _ _ _ => eqGuard_else (by intro e; cases e) (by intro l e; cases e), nofun, nofun, nofun, nofun⟩
    rcases vFnN_some h with ⟨rfl, h1⟩ | ⟨g, p, q, rfl, h1⟩ | ⟨l, rfl, h1⟩
    · cases nilc hx
      rcases vFnN_some h1 with ⟨rfl, h2⟩ | ⟨g, p, q, rfl, h2⟩ | ⟨l, rfl, h2⟩
      · cases nilc hy; cases h2; exact fin (.inl ⟨rfl, rfl, rfl⟩)
      · cases h2; exact fin (.inr (.inl ⟨rfl, isf (.inl ⟨_, _, _, rfl⟩) hy, rfl⟩))
      · cases h2; exact fin (.inr (.inl ⟨rfl, isf (.inr ⟨_, rfl⟩) hy, rfl⟩))
    · rcases vFnN_some h1 with ⟨rfl, h2⟩ | ⟨_, _, _, rfl, h2⟩ | ⟨_, rfl, h2⟩
      · cases nilc hy; cases h2; exact fin (.inr (.inr ⟨isf (.inl ⟨_, _, _, rfl⟩) hx, rfl, rfl⟩))
      · cases h2
      · cases h2
    · rcases vFnN_some h1 with ⟨rfl, h2⟩ | ⟨_, _, _, rfl, h2⟩ | ⟨_, rfl, h2⟩
      · cases nilc hy; cases h2; exact fin (.inr (.inr ⟨isf (.inr ⟨_, rfl⟩) hx, rfl, rfl⟩))
      · cases h2
      · cases h2
  · rename_i kk e hu
    have fin : ∀ {a a' : Option Nat}, (a = none ∨ a' = none) → b = (a.isNone && a'.isNone) → (Op.equal t (.map a) (.map a')).run P w = .ok b w ∧ (∀ op X Y, (eqGuard op t X Y (.map a) (.map a')).run P w = .ok () w) ∧ (∀ k m, Value.map a ≠ .int k m) ∧ (∀ s, Value.map a ≠ .string s) ∧ (∀ k m, Value.map a ≠ .float k m) ∧ (∀ k m m', Value.map a ≠ .complex k m m') := by
      intro a a' hq e
      subst e
      refine ⟨?_, fun _ _ _ => eqGuard_else (by intro e; cases e) (by intro l e; cases e), nofun, nofun, nofun, nofun⟩
      suffices H : ∀ d, (Op.equalIn (d + 1) t (.map a) (.map a')).run P w = .ok (a.isNone && a'.isNone) w from H 9999
      intro d
      cases a <;> cases a' <;> first | (rcases hq with hq | hq <;> cases hq; done) | simp [Op.equalIn, run_underlying hu]
    rcases vMap_some h with ⟨rfl, h1⟩ | ⟨p, rfl, h1⟩
    · cases conc_nilm hx
      rcases vMap_some h1 with ⟨rfl, h2⟩ | ⟨p, rfl, h2⟩
      · cases conc_nilm hy; cases h2; exact fin (.inl rfl) rfl
      · obtain ⟨_, _, _, _, rfl⟩ := conc_map hy; cases h2; exact fin (.inl rfl) rfl
    · obtain ⟨_, _, _, _, rfl⟩ := conc_map hx
      rcases vMap_some h1 with ⟨rfl, h2⟩ | ⟨p, rfl, h2⟩
      · cases conc_nilm hy; cases h2; exact fin (.inr rfl) rfl
      · cases h2
  · cases h
theorem bin_ok (hs : Sat P ρ S w) (op : BinOp) (t : TypeId) (X Y : Operand) {x y : AV} {ux uy : Value} (hx : conc ρ x = some ux) (hy : conc ρ y = some uy) :
    AN.okV P ρ S w ((do eqGuard op t X Y ux uy; binOp op t ux uy).run P w) ((binA P op t).f x y S) := by
  unfold binA
  split
  · have int2 : ∀ (G : IntKind → Int → IntKind → Int → AN), (∀ k a j b, AN.okV P ρ S w ((do eqGuard op t X Y (.int k a) (.int j b); binOp op t (.int k a) (.int j b)).run P w) (G k a j b)) →
        AN.okV P ρ S w ((do eqGuard op t X Y ux uy; binOp op t ux uy).run P w) (vInt x .no fun k a => vInt y .no fun j b => G k a j b) := fun G hG => by
      refine vInt_ok trivial fun k a e => ?_
      subst e; cases conc_int hx
      refine vInt_ok trivial fun j b e => ?_
      subst e; cases conc_int hy
      exact hG k a j b
    split
    · exact int2 _ fun k a j b => shl_ok k j a b t X Y
    · exact int2 _ fun k a j b => shr_ok k j a b t X Y
    · rename_i h1 h2
      refine int2 _ fun k a j b => ?_
      refine cB_ok (fun hk => ?_) fun _ => trivial
      cases kEq_iff.1 hk
      exact arith_ok op k a b t X Y (fun e => h1 e) (fun e => h2 e)
  · refine vStr_ok trivial fun a e => ?_
    subst e
    refine vStr_ok trivial fun b e => ?_
    subst e
    obtain ⟨s, rfl, hsx⟩ := conc_str hx
    obtain ⟨s', rfl, hsy⟩ := conc_str hy
    exact text_ok op a b s s' hsx hsy t X Y
  · split
    · refine cO_ok trivial fun b hb => ?_
      obtain ⟨h1, h2, h3, h4, h5, h6⟩ := eq_ok hs hb hx hy
      refine get_bool' ?_
      have : binOp .eql t ux uy = (do pure (.bool (← Op.equal t ux uy))) := by
        cases ux <;> first | exact absurd rfl (h3 _ _) | exact absurd rfl (h4 _) | exact absurd rfl (h5 _ _) | exact absurd rfl (h6 _ _ _) | (cases uy <;> rfl)
      simp only [Sem.run_bind, h2, Result.andThen_ok, this, h1, Sem.run_pure]
    · refine cO_ok trivial fun b hb => ?_
      obtain ⟨h1, h2, h3, h4, h5, h6⟩ := eq_ok hs hb hx hy
      rw [bNot_eq]
      refine get_bool' ?_
      have : binOp .neq t ux uy = (do pure (.bool (!(← Op.equal t ux uy)))) := by
        cases ux <;> first | exact absurd rfl (h3 _ _) | exact absurd rfl (h4 _) | exact absurd rfl (h5 _ _) | exact absurd rfl (h6 _ _ _) | (cases uy <;> rfl)
      simp only [Sem.run_bind, h2, Result.andThen_ok, this, h1, Sem.run_pure]
    · exact trivial
end
end Go.Proofs.YtfnjojdiiklleaaGreat.Ev
