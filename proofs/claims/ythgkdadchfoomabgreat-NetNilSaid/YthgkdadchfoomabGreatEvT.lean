/- A run of a program on abstract memory: maps. -/
import Derived.Test.YthgkdadchfoomabGreatEvS
namespace Go.Proofs.YthgkdadchfoomabGreat.Ev
section
variable {P : Program} {ρ : Rho} {S : AS} {w : World}

/-! ### Keys -/
theorem check_fields {em : Bool} {d D : Nat} {X xs : Array Value} {o n : Nat} (hx : ∀ i, i < n → xs[i]? = X[o + i]?)
    (ih : ∀ t o L, lookT P d t o = some L → ∀ V, LiesV P t V X o → (∀ x ∈ L, (X[x.1]?).isSome = true) → (Instr.checkKey em (d + D) t V).run P w = .ok () w) :
    ∀ {fs : List Field} {L : List (Nat × Nat)}, lookFs P (lookT P d) n o fs = some L → (∀ x ∈ L, (X[x.1]?).isSome = true) →
      (forIn fs PUnit.unit fun f (_ : PUnit) => (do
        if f.name ≠ "_" then Instr.checkKey em (d + D) f.type (← part f.type xs f.offset)
        pure (ForInStep.yield PUnit.unit) : Sem (ForInStep PUnit))).run P w = .ok PUnit.unit w
  | [], L, h, _ => by simp
  | f :: fs, L, h, hs => by
    simp only [lookFs] at h
    split at h
    · rename_i m h1 h2
      split at h
      · rename_i a b h3 h4 h5
        cases h
        have h3 : f.offset + m ≤ n := by simpa using h3
        have hname : f.name ≠ "_" := by intro e; rw [e] at h1; cases h1
        obtain ⟨bb, hb1, hb2⟩ := lookT_agg h4
        obtain ⟨V, v1, v2⟩ := part_lies (w := w) hx h3 h2 hb1 (fun e => by
          obtain ⟨e1, k, rfl⟩ := hb2 e
          rw [h2] at e1; cases e1
          exact ⟨by omega, hs (o + f.offset, k) (by simp)⟩)
        have := ih _ _ _ h4 V v2 (fun x hx => hs x (by simp [hx]))
        simp only [List.forIn_cons, hname, ne_eq, not_false_eq_true, if_true, Sem.run_bind, v1, this, Result.andThen_ok, Sem.run_pure]
        have hrec := check_fields hx ih h5 (fun x hx => hs x (by simp [hx]))
        simpa only [Sem.run_bind, Sem.run_pure, ne_eq] using hrec
      · cases h
    · cases h
theorem check_items {em : Bool} {d z n : Nat} {e : TypeId} {X xs : Array Value} {o : Nat} (hx : ∀ i, i < n → xs[i]? = X[o + i]?) (hz : sizeA P e = some z) {look : Nat → Option (List (Nat × Nat))}
    (hag : ∀ o L, look o = some L → ∃ b, aggT P e = some b ∧ (b = false → sizeA P e = some 1 ∧ ∃ k, L = [(o, k)]))
    (ih : ∀ o L, look o = some L → ∀ V, LiesV P e V X o → (∀ x ∈ L, (X[x.1]?).isSome = true) → (Instr.checkKey em d e V).run P w = .ok () w) :
    ∀ {k i : Nat} {L : List (Nat × Nat)}, (i + k) * z ≤ n → lookEs look z o i k = some L → (∀ x ∈ L, (X[x.1]?).isSome = true) →
      (forIn (List.range' i k) PUnit.unit fun j (_ : PUnit) => (do
        Instr.checkKey em d e (← part e xs (j * (← sizeOf e)))
        pure (ForInStep.yield PUnit.unit) : Sem (ForInStep PUnit))).run P w = .ok PUnit.unit w
  | 0, i, L, _, h, _ => by simp
  | k + 1, i, L, hn, h, hs => by
    simp only [lookEs] at h
    split at h
    · rename_i a b h4 h5
      cases h
      have h3 : i * z + z ≤ n := by rw [← Nat.succ_mul]; exact Nat.le_trans (Nat.mul_le_mul_right z (by omega)) hn
      obtain ⟨bb, hb1, hb2⟩ := hag _ _ h4
      obtain ⟨V, v1, v2⟩ := part_lies (w := w) hx h3 hz hb1 (fun e => by
        obtain ⟨e1, k, rfl⟩ := hb2 e
        rw [hz] at e1; cases e1
        exact ⟨by omega, hs (o + i * 1, k) (by simp)⟩)
      have := ih _ _ h4 V v2 (fun x hx => hs x (by simp [hx]))
      rw [List.range'_succ]
      simp only [List.forIn_cons, Sem.run_bind, size_run hz, v1, this, Result.andThen_ok, Sem.run_pure]
      have hrec := check_items hx hz hag ih (by rw [show i + 1 + k = i + (k + 1) by omega]; exact hn) h5 (fun x hx => hs x (by simp [hx]))
      simpa only [Sem.run_bind, Sem.run_pure] using hrec
    · cases h
theorem check_flat {em : Bool} : ∀ (d : Nat) (t : TypeId) (o : Nat) (L : List (Nat × Nat)), lookT P d t o = some L → ∀ (D : Nat) (V : Value) (X : Array Value), LiesV P t V X o → (∀ x ∈ L, (X[x.1]?).isSome = true) →
    (Instr.checkKey em (d + D) t V).run P w = .ok () w
  | 0, _, _, _, h => by cases h
  | d + 1, t, o, L, h => by
    intro D V X hV hs
    rw [show d + 1 + D = (d + D) + 1 by omega]
    simp only [lookT] at h
    split at h
    · rename_i hu; simp [Instr.checkKey, run_underlying hu]
    · rename_i hu; simp [Instr.checkKey, run_underlying hu]
    · rename_i hu; simp [Instr.checkKey, run_underlying hu]
    · rename_i fs hu
      have ha : aggT P t = some true := by simp [aggT, hu]
      obtain ⟨xs, n, rfl, hn, hx⟩ := hV.parts ha
      split at h
      · rename_i m h1 h2
        rw [hn] at h2; cases h2
        have := check_fields (w := w) (em := em) (D := D) hx (fun t o L hL V v1 v2 => check_flat d t o L hL D V X v1 v2) h hs
        rw [Array.forIn_toList] at this
        simp only [Instr.checkKey, Sem.run_bind, run_underlying hu, Result.andThen_ok]
        simp only [Sem.run_pure, ne_eq] at this ⊢
        rw [this]; rfl
      · cases h
    · rename_i len e hu
      have ha : aggT P t = some true := by simp [aggT, hu]
      obtain ⟨xs, n, rfl, hn, hx⟩ := hV.parts ha
      split at h
      · rename_i z m h1 h2
        rw [hn] at h2; cases h2
        split at h
        · rename_i h3
          have h3 := Nat.le_of_ble_eq_true h3
          have := check_items (w := w) (em := em) hx h1 (fun o L hL => lookT_agg hL) (fun o L hL V v1 v2 => check_flat d e o L hL D V X v1 v2) (by rw [Nat.zero_add]; exact h3) h hs
          simp only [Instr.checkKey, Sem.run_bind, run_underlying hu, Result.andThen_ok]
          simp only [Std.Legacy.Range.forIn_eq_forIn_range', Std.Legacy.Range.size, Nat.sub_zero, Nat.add_one_sub_one, Nat.div_one]
          simp only [Sem.run_pure] at this ⊢
          rw [this]; rfl
        · cases h
      · cases h
    · cases h
/-- What is known of a key. -/
structure KeyLaw (P : Program) (ρ : Rho) (w : World) (kt : TypeId) (eq : AV → AV → Option Bool) (k : AV) (uk : Value) : Prop where
  check : ∀ em, (Instr.checkKey em 10000 kt uk).run P w = .ok () w
  same : ∀ {y : AV} {uy : Value} {b : Bool}, eq k y = some b → conc ρ y = some uy → (b = true ↔ uk = uy)
  bits : ∀ {y : AV} {uy : Value}, eq k y = some true → conc ρ y = some uy → Instr.sameBits 10000 uk uk = true
  find : ∀ (l : List MapEntry), (∀ e ∈ l, ∃ y b, conc ρ y = some e.key ∧ eq k y = some b) →
    (∃ l1 e l2, l = l1 ++ e :: l2 ∧ e.key = uk ∧ (Instr.findKey kt uk l).run P w = .ok (some (l1.length, e.val)) w) ∨ ((∀ e ∈ l, e.key ≠ uk) ∧ (Instr.findKey kt uk l).run P w = .ok none w)
theorem find_asking {kt : TypeId} {uk : Value} : ∀ (l : List MapEntry) (i : Nat), (∀ e ∈ l, ∃ b, (Op.equal kt uk e.key).run P w = .ok b w ∧ (b = true ↔ uk = e.key)) →
    (∃ l1 e l2, l = l1 ++ e :: l2 ∧ e.key = uk ∧ (Instr.findAsking kt uk l i).run P w = .ok (some (i + l1.length, e.val)) w) ∨ ((∀ e ∈ l, e.key ≠ uk) ∧ (Instr.findAsking kt uk l i).run P w = .ok none w)
  | [], i, _ => .inr ⟨fun e he => (by cases he), by simp [Instr.findAsking]⟩
  | e :: l, i, h => by
    obtain ⟨b, h1, h2⟩ := h e (by simp)
    cases b with
    | true => exact .inl ⟨[], e, l, rfl, (h2.1 rfl).symm, by simp [Instr.findAsking, h1]⟩
    | false =>
      have hne : e.key ≠ uk := fun x => by have := h2.2 x.symm; cases this
      rcases find_asking l (i + 1) (fun x hx => h x (by simp [hx])) with ⟨l1, e', l2, rfl, h3, h4⟩ | ⟨h3, h4⟩
      · refine .inl ⟨e :: l1, e', l2, rfl, h3, ?_⟩
        simp only [Instr.findAsking, Sem.run_bind, h1, Result.andThen_ok, Bool.false_eq_true, if_false, h4, List.length_cons]
        congr 3; omega
      · refine .inr ⟨fun x hx => ?_, ?_⟩
        · rcases List.mem_cons.1 hx with rfl | hx
          · exact hne
          · exact h3 x hx
        · simp only [Instr.findAsking, Sem.run_bind, h1, Result.andThen_ok, Bool.false_eq_true, if_false, h4]
theorem find_now {kd : TypeDesc} {uk : Value} : ∀ (l : List MapEntry) (i : Nat), (∀ e ∈ l, ∃ b, Instr.sameNow kd uk e.key = some b ∧ (b = true ↔ uk = e.key)) →
    (∃ l1 e l2, l = l1 ++ e :: l2 ∧ e.key = uk ∧ Instr.findNow kd uk l i = some (some (i + l1.length, e.val))) ∨ ((∀ e ∈ l, e.key ≠ uk) ∧ Instr.findNow kd uk l i = some none)
  | [], i, _ => .inr ⟨fun e he => (by cases he), rfl⟩
  | e :: l, i, h => by
    obtain ⟨b, h1, h2⟩ := h e (by simp)
    cases b with
    | true => exact .inl ⟨[], e, l, rfl, (h2.1 rfl).symm, by simp [Instr.findNow, h1]⟩
    | false =>
      have hne : e.key ≠ uk := fun x => by have := h2.2 x.symm; cases this
      rcases find_now l (i + 1) (fun x hx => h x (by simp [hx])) with ⟨l1, e', l2, rfl, h3, h4⟩ | ⟨h3, h4⟩
      · refine .inl ⟨e :: l1, e', l2, rfl, h3, ?_⟩
        simp only [Instr.findNow, h1, h4, List.length_cons]
        congr 3; omega
      · refine .inr ⟨fun x hx => ?_, by simp only [Instr.findNow, h1, h4]⟩
        rcases List.mem_cons.1 hx with rfl | hx
        · exact hne
        · exact h3 x hx
theorem sameC_text {n : Nat} {a b : Value} {r : Bool} (h : sameC (n + 2) a b = some r) : ∃ x y, a = .string x ∧ b = .string y ∧ (x.toList == y.toList) = r := by
  cases a <;> cases b <;> first | exact ⟨_, _, rfl, rfl, Option.some.inj h⟩ | cases h
theorem sameC_iff {k : Nat} {a b : Value} {r : Bool} (h : sameC k a b = some r) : (r = true ↔ a = b) ∧ ∀ n, Instr.sameBits n a a = true := by
  match k, h with
  | 0, h => obtain ⟨x, y, rfl, rfl, rfl⟩ := sameC_bool h; exact ⟨by simp, fun n => by cases n <;> simp [Instr.sameBits]⟩
  | 1, h => obtain ⟨k, x, y, rfl, rfl, rfl⟩ := sameC_int h; exact ⟨by simp, fun n => by cases n <;> simp [Instr.sameBits]⟩
  | n + 2, h =>
    obtain ⟨x, y, rfl, rfl, rfl⟩ := sameC_text h
    refine ⟨?_, fun n => ?_⟩
    · rw [beq_iff_eq, ByteArray.toList_eq, ByteArray.toList_eq]
      exact ⟨fun e => by obtain ⟨⟨l⟩⟩ := x; obtain ⟨⟨m⟩⟩ := y; simp at e; rw [e], fun e => by cases e; rfl⟩
    · have : (x == x) = true := by rw [beq_toListBytes]; simp
      cases n <;> exact this
theorem eqCs_same : ∀ {ks : List Nat} {l m : List AV} {xs ys : List Value} {r : Bool}, (eqCs ks).f l m = some r → concs ρ l = some xs → concs ρ m = some ys → (r = true ↔ xs = ys) ∧ (r = true → ∀ x ∈ xs, ∀ n, Instr.sameBits n x x = true)
  | [], l, m, xs, ys, r, h, hx, hy => by
    have h' : cL l (cL m (some true) fun _ _ => none) (fun _ _ => none) = some r := h
    cases l with
    | cons a l => cases h'
    | nil =>
      cases m with
      | cons b m => cases h'
      | nil =>
        cases concs_nil hx; cases concs_nil hy; cases h'
        exact ⟨⟨fun _ => rfl, fun _ => rfl⟩, fun _ x hx => by cases hx⟩
  | k :: ks, l, m, xs, ys, r, h, hx, hy => by
    have h' : cL l none (fun a l => cL m none fun b m => cO ((eqK k).f a b) none fun r => cB r ((eqCs ks).f l m) (some false)) = some r := h
    cases l with
    | nil => cases h'
    | cons a l =>
    cases m with
    | nil => cases h'
    | cons b m =>
    obtain ⟨ux, qx, rfl, hx1, hx2⟩ := concs_cons hx
    obtain ⟨uy, qy, rfl, hy1, hy2⟩ := concs_cons hy
    have h'' : cO ((eqK k).f a b) none (fun r => cB r ((eqCs ks).f l m) (some false)) = some r := h'
    obtain ⟨r1, h1, h2⟩ := cO_some' h''
    obtain ⟨s1, s2⟩ := sameC_iff (eqK_ok h1 hx1 hy1)
    cases r1 with
    | false =>
      cases h2
      refine ⟨⟨fun x => (by cases x), fun e => ?_⟩, fun x => (by cases x)⟩
      cases e
      exact absurd (s1.2 rfl) (by simp)
    | true =>
      obtain ⟨i1, i2⟩ := eqCs_same (ks := ks) h2 hx2 hy2
      have e1 := s1.1 rfl
      subst e1
      refine ⟨⟨fun e => by rw [i1.1 e], fun e => i1.2 (by cases e; rfl)⟩, fun e x hx n => ?_⟩
      rcases List.mem_cons.1 hx with rfl | hx
      · exact s2 n
      · exact i2 e x hx n
theorem bits_agg {xs : List Value} (h : ∀ x ∈ xs, ∀ n, Instr.sameBits n x x = true) : Instr.sameBits 10000 (.agg xs.toArray) (.agg xs.toArray) = true := by
  show (xs.toArray.size == xs.toArray.size && (xs.toArray.toList.zip xs.toArray.toList).all fun (x, y) => Instr.sameBits 9999 x y) = true
  rw [beq_self_eq_true, Bool.true_and, List.all_eq_true]
  rintro ⟨x, y⟩ hxy
  have : x = y ∧ x ∈ xs := by
    clear h
    induction xs with
    | nil => simp at hxy
    | cons a t ih =>
      simp only [List.zip_cons_cons, List.mem_cons, Prod.mk.injEq] at hxy
      rcases hxy with ⟨rfl, rfl⟩ | hxy
      · exact ⟨rfl, by simp⟩
      · obtain ⟨h1, h2⟩ := ih hxy; exact ⟨h1, by simp [h2]⟩
  obtain ⟨rfl, hm⟩ := this
  exact h x hm 9999
theorem flat_key {kt : TypeId} {ks : List Nat} {l : List AV} {xs : List Value} (hk : flatT P kt = some ks) (ha : aggT P kt = some true) (hu : (∃ fs, P.underlying kt = some (.struct fs)) ∨ ∃ n e, P.underlying kt = some (.array n e))
    (hl : l.length = ks.length) (hx : concs ρ l = some xs) : KeyLaw P ρ w kt (fun x y => vAgg x none fun a => vAgg y none fun b => (eqCs ks).f a b) (.agg l) (.agg xs.toArray) := by
  obtain ⟨L, n, h1, h2, h3, h4, h5, h6⟩ := flatT_some hk
  have hxl := concs_length hx
  have hkl : ks.length = n := by rw [← h5, List.length_map, h6]
  refine ⟨fun em => ?_, fun {y uy b} he hy => ?_, fun {y uy} he hy => ?_, fun es hes => ?_⟩
  · refine check_flat 20 kt 0 L h1 (10000 - 20) _ xs.toArray ?_ fun x hx => ?_
    · unfold LiesV; rw [ha]; exact ⟨xs.toArray, n, rfl, h2, fun i _ => by rw [Nat.zero_add]⟩
    · have : x.1 ∈ L.map (·.1) := List.mem_map_of_mem hx
      rw [h4, List.mem_range'_1] at this
      rw [List.getElem?_toArray, List.getElem?_eq_getElem (by omega)]; rfl
  · have he' : vAgg y none (fun b => (eqCs ks).f l b) = some b := he
    obtain ⟨m, rfl, h7⟩ := vAgg_some he'
    obtain ⟨ys, rfl, hys⟩ := conc_agg hy
    rw [(eqCs_same h7 hx hys).1]
    exact ⟨fun e => by rw [e], fun e => by simpa using e⟩
  · have he' : vAgg y none (fun b => (eqCs ks).f l b) = some true := he
    obtain ⟨m, rfl, h7⟩ := vAgg_some he'
    obtain ⟨ys, rfl, hys⟩ := conc_agg hy
    exact bits_agg ((eqCs_same h7 hx hys).2 rfl)
  · have hask := find_asking (P := P) (w := w) (kt := kt) (uk := .agg xs.toArray) es 0 (fun e he => by
      obtain ⟨y, b, hy, hb⟩ := hes e he
      have he' : vAgg y none (fun b => (eqCs ks).f l b) = some b := hb
      obtain ⟨m, rfl, h7⟩ := vAgg_some he'
      obtain ⟨ys, h8, hys⟩ := conc_agg hy
      rw [h8]
      refine ⟨b, flat_equal hk ha h7 hx hys, ?_⟩
      rw [(eqCs_same h7 hx hys).1]
      exact ⟨fun e => by rw [e], fun e => by simpa using e⟩)
    have hfind : (Instr.findKey kt (.agg xs.toArray) es).run P w = (Instr.findAsking kt (.agg xs.toArray) es 0).run P w := by
      rcases hu with ⟨fs, hu⟩ | ⟨nn, e, hu⟩ <;> cases es <;> simp [Instr.findKey, run_underlying hu, Instr.findNow, Instr.sameNow, Instr.findAsking]
    rw [hfind]
    rcases hask with ⟨l1, e, l2, q1, q2, q3⟩ | ⟨q1, q2⟩
    · exact .inl ⟨l1, e, l2, q1, q2, by rw [q3, Nat.zero_add]⟩
    · exact .inr ⟨q1, q2⟩
theorem key_law {kt : TypeId} {eq : Cl (AV → AV → Option Bool)} {ok : Cl (AV → Bool)} {k : AV} {uk : Value} (h : keyK P kt = some (eq, ok)) (hk : ok.f k = true) (hu : conc ρ k = some uk) : KeyLaw P ρ w kt eq.f k uk := by
  unfold keyK at h
  split at h
  · rename_i fs hd
    split at h
    · rename_i ks hf
      cases h
      have hk' : vAgg k false (fun a => Nat.beq (len a) ks.length) = true := hk
      cases k with
      | agg l =>
        obtain ⟨xs, rfl, hx⟩ := conc_agg hu
        have : Nat.beq (len l) ks.length = true := hk'
        rw [Nat.beq_eq, len_eq] at this
        exact flat_key hf (by simp [aggT, hd]) (.inl ⟨fs, hd⟩) this hx
      | _ => cases hk'
    · cases h
  · rename_i n e hd
    split at h
    · rename_i ks hf
      cases h
      have hk' : vAgg k false (fun a => Nat.beq (len a) ks.length) = true := hk
      cases k with
      | agg l =>
        obtain ⟨xs, rfl, hx⟩ := conc_agg hu
        have : Nat.beq (len l) ks.length = true := hk'
        rw [Nat.beq_eq, len_eq] at this
        exact flat_key hf (by simp [aggT, hd]) (.inr ⟨n, e, hd⟩) this hx
      | _ => cases hk'
    · cases h
  · rename_i kd hd
    cases h
    have hk' : vInt k false (fun _ _ => true) = true := hk
    cases k with
    | int kk n =>
      cases conc_int hu
      refine ⟨fun em => ?_, fun {y uy b} he hy => ?_, fun {y uy} he hy => ?_, fun es hes => ?_⟩
      · suffices H : ∀ d, (Instr.checkKey em (d + 1) kt (.int kk n)).run P w = .ok () w from H 9999
        intro d; simp [Instr.checkKey, run_underlying hd]
      · exact (sameC_iff (eqK_ok (k := 1) he hu hy)).1
      · exact (sameC_iff (eqK_ok (k := 1) he hu hy)).2 10000
      · rcases find_now (kd := .int kd) (uk := .int kk n) es 0 (fun e he => by
          obtain ⟨y, b, hy, hb⟩ := hes e he
          have h1 := eqK_ok (k := 1) hb hu hy
          obtain ⟨k', a, c, h2, h3, h4⟩ := sameC_int h1
          refine ⟨b, ?_, (sameC_iff h1).1⟩
          rw [h2, h3]
          simp only [Instr.sameNow, if_true, h4]) with ⟨l1, e, l2, q1, q2, q3⟩ | ⟨q1, q2⟩
        · refine .inl ⟨l1, e, l2, q1, q2, ?_⟩
          rw [Nat.zero_add] at q3
          simp [Instr.findKey, run_underlying hd, q3]
        · refine .inr ⟨q1, ?_⟩
          simp [Instr.findKey, run_underlying hd, q2]
    | _ => cases hk'
  · cases h
end
end Go.Proofs.YthgkdadchfoomabGreat.Ev
