/- A run of a program on abstract memory: maps. -/
import Derived.Test.YtfnjojdiiklleaaGreatEvS
namespace Go.Proofs.YtfnjojdiiklleaaGreat.Ev
section
variable {P : Program} {ρ : Rho} {S : AS} {w : World}

/-! ### Keys -/
theorem check_fields {em : Bool} {d D : Nat} {X xs : Array Value} {o n : Nat} (hx : ∀ i, i < n → xs[i]? = X[o + i]?)
    (ih : ∀ t o L, lookT P d t o = some L → ∀ V, LiesV P t V X o → (∀ x ∈ L, (X[x.1]?).isSome = true) → (Instr.checkKey em (d + D) t V).run P w = .ok () w) :
    ∀ {fs : List Field} {L : List (Nat × Nat)}, lookFs P (lookT P d) n o fs = some L → (∀ x ∈ L, (X[x.1]?).isSome = true) →
      (forIn fs PUnit.unit fun f (_ : PUnit) => (do
        if f.name ≠ "_" then Instr.checkKey em (d + D) f.type (← part f.type xs f.offset)
        pure (ForInStep.yield PUnit.unit) : Sem (ForInStep PUnit))).run P w = .ok PUnit.unit w
  | [], L, h, _ => by simp
  | f :: fs, L, h, hs => by
    simp only [lookFs] at h
    split at h
    · rename_i m h1 h2
      split at h
      · rename_i a b h3 h4 h5
        cases h
        have h3 : f.offset + m ≤ n := by simpa using h3
        have hname : f.name ≠ "_" := by intro e; rw [e] at h1; cases h1
        obtain ⟨bb, hb1, hb2⟩ := lookT_agg h4
        obtain ⟨V, v1, v2⟩ := part_lies (w := w) hx h3 h2 hb1 (fun e => by
          obtain ⟨e1, k, rfl⟩ := hb2 e
          rw [h2] at e1; cases e1
          exact ⟨by omega, hs (o + f.offset, k) (by simp)⟩)
        have := ih _ _ _ h4 V v2 (fun x hx => hs x (by simp [hx]))
        simp only [List.forIn_cons, hname, ne_eq, not_false_eq_true, if_true, Sem.run_bind, v1, this, Result.andThen_ok, Sem.run_pure]
        have hrec := check_fields hx ih h5 (fun x hx => hs x (by simp [hx]))
        simpa only [Sem.run_bind, Sem.run_pure, ne_eq] using hrec
      · cases h
    · cases h
theorem check_items {em : Bool} {d z n : Nat} {e : TypeId} {X xs : Array Value} {o : Nat} (hx : ∀ i, i < n → xs[i]? = X[o + i]?) (hz : sizeA P e = some z) {look : Nat → Option (List (Nat × Nat))}
    (hag : ∀ o L, look o = some L → ∃ b, aggT P e = some b ∧ (b = false → sizeA P e = some 1 ∧ ∃ k, L = [(o, k)]))
    (ih : ∀ o L, look o = some L → ∀ V, LiesV P e V X o → (∀ x ∈ L, (X[x.1]?).isSome = true) → (Instr.checkKey em d e V).run P w = .ok () w) :
    ∀ {k i : Nat} {L : List (Nat × Nat)}, (i + k) * z ≤ n → lookEs look z o i k = some L → (∀ x ∈ L, (X[x.1]?).isSome = true) →
      (forIn (List.range' i k) PUnit.unit fun j (_ : PUnit) => (do
        Instr.checkKey em d e (← part e xs (j * (← sizeOf e)))
        pure (ForInStep.yield PUnit.unit) : Sem (ForInStep PUnit))).run P w = .ok PUnit.unit w
  | 0, i, L, _, h, _ => by simp
  | k + 1, i, L, hn, h, hs => by
    simp only [lookEs] at h
    split at h
    · rename_i a b h4 h5
      cases h
      have h3 : i * z + z ≤ n := by rw [← Nat.succ_mul]; exact Nat.le_trans (Nat.mul_le_mul_right z (by omega)) hn
      obtain ⟨bb, hb1, hb2⟩ := hag _ _ h4
      obtain ⟨V, v1, v2⟩ := part_lies (w := w) hx h3 hz hb1 (fun e => by
        obtain ⟨e1, k, rfl⟩ := hb2 e
        rw [hz] at e1; cases e1
        exact ⟨by omega, hs (o + i * 1, k) (by simp)⟩)
      have := ih _ _ h4 V v2 (fun x hx => hs x (by simp [hx]))
      rw [List.range'_succ]
      simp only [List.forIn_cons, Sem.run_bind, size_run hz, v1, this, Result.andThen_ok, Sem.run_pure]
      have hrec := check_items hx hz hag ih (by rw [show i + 1 + k = i + (k + 1) by omega]; exact hn) h5 (fun x hx => hs x (by simp [hx]))
      simpa only [Sem.run_bind, Sem.run_pure] using hrec
    · cases h
theorem check_flat {em : Bool} : ∀ (d : Nat) (t : TypeId) (o : Nat) (L : List (Nat × Nat)), lookT P d t o = some L → ∀ (D : Nat) (V : Value) (X : Array Value), LiesV P t V X o → (∀ x ∈ L, (X[x.1]?).isSome = true) →
    (Instr.checkKey em (d + D) t V).run P w = .ok () w
  | 0, _, _, _, h => by cases h
  | d + 1, t, o, L, h => by
    intro D V X hV hs
    rw [show d + 1 + D = (d + D) + 1 by omega]
    simp only [lookT] at h
    split at h
    · rename_i hu; simp [Instr.checkKey, run_underlying hu]
    · rename_i hu; simp [Instr.checkKey, run_underlying hu]
    · rename_i hu; simp [Instr.checkKey, run_underlying hu]
    · rename_i fs hu
      have ha : aggT P t = some true := by simp [aggT, hu]
      obtain ⟨xs, n, rfl, hn, hx⟩ := hV.parts ha
      split at h
      · rename_i m h1 h2
        rw [hn] at h2; cases h2
        have := check_fields (w := w) (em := em) (D := D) hx (fun t o L hL V v1 v2 => check_flat d t o L hL D V X v1 v2) h hs
        rw [Array.forIn_toList] at this
        simp only [Instr.checkKey, Sem.run_bind, run_underlying hu, Result.andThen_ok]
        simp only [Sem.run_pure, ne_eq] at this ⊢
        rw [this]; rfl
      · cases h
    · rename_i len e hu
      have ha : aggT P t = some true := by simp [aggT, hu]
      obtain ⟨xs, n, rfl, hn, hx⟩ := hV.parts ha
      split at h
      · rename_i z m h1 h2
        rw [hn] at h2; cases h2
        split at h
        · rename_i h3
          have h3 := Nat.le_of_ble_eq_true h3
          have := check_items (w := w) (em := em) hx h1 (fun o L hL => lookT_agg hL) (fun o L hL V v1 v2 => check_flat d e o L hL D V X v1 v2) (by rw [Nat.zero_add]; exact h3) h hs
          simp only [Instr.checkKey, Sem.run_bind, run_underlying hu, Result.andThen_ok]
          simp only [Std.Legacy.Range.forIn_eq_forIn_range', Std.Legacy.Range.size, Nat.sub_zero, Nat.add_one_sub_one, Nat.div_one]
          simp only [Sem.run_pure] at this ⊢
          rw [this]; rfl
        · cases h
      · cases h
    · cases h
/-- What is known of a key. -/
structure KeyLaw (P : Program) (ρ : Rho) (w : World) (kt : TypeId) (eq : AV → AV → Option Bool) (k : AV) (uk : Value) : Prop where
  check : ∀ em, (Instr.checkKey em 10000 kt uk).run P w = .ok () w
  same : ∀ {y : AV} {uy : Value} {b : Bool}, eq k y = some b → conc ρ y = some uy → (b = true ↔ uk = uy)
  bits : ∀ {y : AV} {uy : Value}, eq k y = some true → conc ρ y = some uy → Instr.sameBits 10000 uk uk = true
  find : ∀ (l : List MapEntry), (∀ e ∈ l, ∃ y b, conc ρ y = some e.key ∧ eq k y = some b) →
    (∃ l1 e l2, l = l1 ++ e :: l2 ∧ e.key = uk ∧ (Instr.findKey kt uk l).run P w = .ok (some (l1.length, e.val)) w) ∨ ((∀ e ∈ l, e.key ≠ uk) ∧ (Instr.findKey kt uk l).run P w = .ok none w)
theorem find_asking {kt : TypeId} {uk : Value} : ∀ (l : List MapEntry) (i : Nat), (∀ e ∈ l, ∃ b, (Op.equal kt uk e.key).run P w = .ok b w ∧ (b = true ↔ uk = e.key)) →
    (∃ l1 e l2, l = l1 ++ e :: l2 ∧ e.key = uk ∧ (Instr.findAsking kt uk l i).run P w = .ok (some (i + l1.length, e.val)) w) ∨ ((∀ e ∈ l, e.key ≠ uk) ∧ (Instr.findAsking kt uk l i).run P w = .ok none w)
  | [], i, _ => .inr ⟨fun e he => (by cases he), by simp [Instr.findAsking]⟩
  | e :: l, i, h => by
    obtain ⟨b, h1, h2⟩ := h e (by simp)
    cases b with
    | true => exact .inl ⟨[], e, l, rfl, (h2.1 rfl).symm, by simp [Instr.findAsking, h1]⟩
    | false =>
      have hne : e.key ≠ uk := fun x => by have := h2.2 x.symm; cases this
      rcases find_asking l (i + 1) (fun x hx => h x (by simp [hx])) with ⟨l1, e', l2, rfl, h3, h4⟩ | ⟨h3, h4⟩
      · refine .inl ⟨e :: l1, e', l2, rfl, h3, ?_⟩
        simp only [Instr.findAsking, Sem.run_bind, h1, Result.andThen_ok, Bool.false_eq_true, if_false, h4, List.length_cons]
        congr 3; omega
      · refine .inr ⟨fun x hx => ?_, ?_⟩
        · rcases List.mem_cons.1 hx with rfl | hx
          · exact hne
          · exact h3 x hx
        · simp only [Instr.findAsking, Sem.run_bind, h1, Result.andThen_ok, Bool.false_eq_true, if_false, h4]
theorem find_now {kd : TypeDesc} {uk : Value} : ∀ (l : List MapEntry) (i : Nat), (∀ e ∈ l, ∃ b, Instr.sameNow kd uk e.key = some b ∧ (b = true ↔ uk = e.key)) →
    (∃ l1 e l2, l = l1 ++ e :: l2 ∧ e.key = uk ∧ Instr.findNow kd uk l i = some (some (i + l1.length, e.val))) ∨ ((∀ e ∈ l, e.key ≠ uk) ∧ Instr.findNow kd uk l i = some none)
  | [], i, _ => .inr ⟨fun e he => (by cases he), rfl⟩
  | e :: l, i, h => by
    obtain ⟨b, h1, h2⟩ := h e (by simp)
    cases b with
    | true => exact .inl ⟨[], e, l, rfl, (h2.1 rfl).symm, by simp [Instr.findNow, h1]⟩
    | false =>
      have hne : e.key ≠ uk := fun x => by have := h2.2 x.symm; cases this
      rcases find_now l (i + 1) (fun x hx => h x (by simp [hx])) with ⟨l1, e', l2, rfl, h3, h4⟩ | ⟨h3, h4⟩
      · refine .inl ⟨e :: l1, e', l2, rfl, h3, ?_⟩
        simp only [Instr.findNow, h1, h4, List.length_cons]
        congr 3; omega
      · refine .inr ⟨fun x hx => ?_, by simp only [Instr.findNow, h1, h4]⟩
        rcases List.mem_cons.1 hx with rfl | hx
        · exact hne
        · exact h3 x hx
theorem sameC_text {n : Nat} {a b : Value} {r : Bool} (h : sameC (n + 2) a b = some r) : ∃ x y, a = .string x ∧ b = .string y ∧ (x.toList == y.toList) = r := by
  cases a <;> cases b <;> first | exact ⟨_, _, rfl, rfl, Option.some.inj h⟩ | cases h
theorem sameC_iff {k : Nat} {a b : Value} {r : Bool} (h : sameC k a b = some r) : (r = true ↔ a = b) ∧ ∀ n, Instr.sameBits n a a = true := by
  match k, h with
  | 0, h => obtain ⟨x, y, rfl, rfl, rfl⟩ := sameC_bool h; exact ⟨by simp, fun n => by cases n <;> simp [Instr.sameBits]⟩
  | 1, h => obtain ⟨k, x, y, rfl, rfl, rfl⟩ := sameC_int h; exact ⟨by simp, fun n => by cases n <;> simp [Instr.sameBits]⟩
  | n + 2, h =>
    obtain ⟨x, y, rfl, rfl, rfl⟩ := sameC_text h
    refine ⟨?_, fun n => ?_⟩
    · rw [beq_iff_eq, ByteArray.toList_eq, ByteArray.toList_eq]
      exact ⟨fun e => by obtain ⟨⟨l⟩⟩ := x; obtain ⟨⟨m⟩⟩ := y; simp at e; rw [e], fun e => by cases e; rfl⟩
    · have : (x == x) = true := by rw [beq_toListBytes]; simp
      cases n <;> exact this
theorem eqCs_same : ∀ {ks : List Nat} {l m : List AV} {xs ys : List Value} {r : Bool}, (eqCs ks).f l m = some r → concs ρ l = some xs → concs ρ m = some ys → (r = true ↔ xs = ys) ∧ (r = true → ∀ x ∈ xs, ∀ n, Instr.sameBits n x x = true)
  | [], l, m, xs, ys, r, h, hx, hy => by
    have h' : cL l (cL m (some true) fun _ _ => none) (fun _ _ => none) = some r := h
    cases l with
    | cons a l => cases h'
    | nil =>
      cases m with
      | cons b m => cases h'
      | nil =>
        cases concs_nil hx; cases concs_nil hy; cases h'
        exact ⟨⟨fun _ => rfl, fun _ => rfl⟩, fun _ x hx => by cases hx⟩
  | k :: ks, l, m, xs, ys, r, h, hx, hy => by
    have h' : cL l none (fun a l => cL m none fun b m => cO ((eqK k).f a b) none fun r => cB r ((eqCs ks).f l m) (some false)) = some r := h
    cases l with
    | nil => cases h'
    | cons a l =>
    cases m with
    | nil => cases h'
    | cons b m =>
    obtain ⟨ux, qx, rfl, hx1, hx2⟩ := concs_cons hx
    obtain ⟨uy, qy, rfl, hy1, hy2⟩ := concs_cons hy
    have h'' : cO ((eqK k).f a b) none (fun r => cB r ((eqCs ks).f l m) (some false)) = some r := h'
    obtain ⟨r1, h1, h2⟩ := cO_some' h''
    obtain ⟨s1, s2⟩ := sameC_iff (eqK_ok h1 hx1 hy1)
    cases r1 with
    | false =>
      cases h2
      refine ⟨⟨fun x => (by cases x), fun e => ?_⟩, fun x => (by cases x)⟩
      cases e
      exact absurd (s1.2 rfl) (by simp)
    | true =>
      obtain ⟨i1, i2⟩ := eqCs_same (ks := ks) h2 hx2 hy2
      have e1 := s1.1 rfl
      subst e1
      refine ⟨⟨fun e => by rw [i1.1 e], fun e => i1.2 (by cases e; rfl)⟩, fun e x hx n => ?_⟩
      rcases List.mem_cons.1 hx with rfl | hx
      · exact s2 n
      · exact i2 e x hx n
theorem bits_agg {xs : List Value} (h : ∀ x ∈ xs, ∀ n, Instr.sameBits n x x = true) : Instr.sameBits 10000 (.agg xs.toArray) (.agg xs.toArray) = true := by
  show (xs.toArray.size == xs.toArray.size && (xs.toArray.toList.zip xs.toArray.toList).all fun (x, y) => Instr.sameBits 9999 x y) = true
  rw [beq_self_eq_true, Bool.true_and, List.all_eq_true]
  rintro ⟨x, y⟩ hxy
  have : x = y ∧ x ∈ xs := by
    clear h
    induction xs with
    | nil => simp at hxy
    | cons a t ih =>
      simp only [List.zip_cons_cons, List.mem_cons, Prod.mk.injEq] at hxy
      rcases hxy with ⟨rfl, rfl⟩ | hxy
      · exact ⟨rfl, by simp⟩
      · obtain ⟨h1, h2⟩ := ih hxy; exact ⟨h1, by simp [h2]⟩
  obtain ⟨rfl, hm⟩ := this
  exact h x hm 9999
theorem flat_key {kt : TypeId} {ks : List Nat} {l : List AV} {xs : List Value} (hk : flatT P kt = some ks) (ha : aggT P kt = some true) (hu : (∃ fs, P.underlying kt = some (.struct fs)) ∨ ∃ n e, P.underlying kt = some (.array n e))
    (hl : l.length = ks.length) (hx : concs ρ l = some xs) : KeyLaw P ρ w kt (fun x y => vAgg x none fun a => vAgg y none fun b => (eqCs ks).f a b) (.agg l) (.agg xs.toArray) := by
  obtain ⟨L, n, h1, h2, h3, h4, h5, h6⟩ := flatT_some hk
  have hxl := concs_length hx
  have hkl : ks.length = n := by rw [← h5, List.length_map, h6]
  refine ⟨fun em => ?_, fun {y uy b} he hy => ?_, fun {y uy} he hy => ?_, fun es hes => ?_⟩
  · refine check_flat 20 kt 0 L h1 (10000 - 20) _ xs.toArray ?_ fun x hx => ?_
    · unfold LiesV; rw [ha]; exact ⟨xs.toArray, n, rfl, h2, fun i _ => by rw [Nat.zero_add]⟩
    · have : x.1 ∈ L.map (·.1) := List.mem_map_of_mem hx
      rw [h4, List.mem_range'_1] at this
      rw [List.getElem?_toArray, List.getElem?_eq_getElem (by omega)]; rfl
  · have he' : vAgg y none (fun b => (eqCs ks).f l b) = some b := he
    obtain ⟨m, rfl, h7⟩ := vAgg_some he'
    obtain ⟨ys, rfl, hys⟩ := conc_agg hy
    rw [(eqCs_same h7 hx hys).1]
    exact ⟨fun e => by rw [e], fun e => by simpa using e⟩
  · have he' : vAgg y none (fun b => (eqCs ks).f l b) = some true := he
    obtain ⟨m, rfl, h7⟩ := vAgg_some he'
    obtain ⟨ys, rfl, hys⟩ := conc_agg hy
    exact bits_agg ((eqCs_same h7 hx hys).2 rfl)
  · have hask := find_asking (P := P) (w := w) (kt := kt) (uk := .agg xs.toArray) es 0 (fun e he => by
      obtain ⟨y, b, hy, hb⟩ := hes e he
      have he' : vAgg y none (fun b => (eqCs ks).f l b) = some b := hb
      obtain ⟨m, rfl, h7⟩ := vAgg_some he'
      obtain ⟨ys, h8, hys⟩ := conc_agg hy
      rw [h8]
      refine ⟨b, flat_equal hk ha h7 hx hys, ?_⟩
      rw [(eqCs_same h7 hx hys).1]
      exact ⟨fun e => by rw [e], fun e => by simpa using e⟩)
    have hfind : (Instr.findKey kt (.agg xs.toArray) es).run P w = (Instr.findAsking kt (.agg xs.toArray) es 0).run P w := by
      rcases hu with ⟨fs, hu⟩ | ⟨nn, e, hu⟩ <;> cases es <;> simp [Instr.findKey, run_underlying hu, Instr.findNow, Instr.sameNow, Instr.findAsking]
    rw [hfind]
    rcases hask with ⟨l1, e, l2, q1, q2, q3⟩ | ⟨q1, q2⟩
    · exact .inl ⟨l1, e, l2, q1, q2, by rw [q3, Nat.zero_add]⟩
    · exact .inr ⟨q1, q2⟩
theorem key_law {kt : TypeId} {eq : Cl (AV → AV → Option Bool)} {ok : Cl (AV → Bool)} {k : AV} {uk : Value} (h : keyK P kt = some (eq, ok)) (hk : ok.f k = true) (hu : conc ρ k = some uk) : KeyLaw P ρ w kt eq.f k uk := by
  unfold keyK at h
  split at h
  · rename_i fs hd
    split at h
    · rename_i ks hf
      cases h
      have hk' : vAgg k false (fun a => Nat.beq (len a) ks.length) = true := hk
      cases k with
      | agg l =>
        obtain ⟨xs, rfl, hx⟩ := conc_agg hu
        have : Nat.beq (len l) ks.length = true := hk'
        rw [Nat.beq_eq, len_eq] at this
        exact flat_key hf (by simp [aggT, hd]) (.inl ⟨fs, hd⟩) this hx
      | _ => cases hk'
    · cases h
  · rename_i n e hd
    split at h
    · rename_i ks hf
      cases h
      have hk' : vAgg k false (fun a => Nat.beq (len a) ks.length) = true := hk
      cases k with
      | agg l =>
        obtain ⟨xs, rfl, hx⟩ := conc_agg hu
        have : Nat.beq (len l) ks.length = true := hk'
        rw [Nat.beq_eq, len_eq] at this
        exact flat_key hf (by simp [aggT, hd]) (.inr ⟨n, e, hd⟩) this hx
      | _ => cases hk'
    · cases h
  · rename_i kd hd
    cases h
    have hk' : vInt k false (fun _ _ => true) = true := hk
    cases k with
    | int kk n =>
      cases conc_int hu
      refine ⟨fun em => ?_, fun {y uy b} he hy => ?_, fun {y uy} he hy => ?_, fun es hes => ?_⟩
      · suffices H : ∀ d, (Instr.checkKey em (d + 1) kt (.int kk n)).run P w = .ok () w from H 9999
        intro d; simp [Instr.checkKey, run_underlying hd]
      · exact (sameC_iff (eqK_ok (k := 1) he hu hy)).1
      · exact (sameC_iff (eqK_ok (k := 1) he hu hy)).2 10000
      · rcases find_now (kd := .int kd) (uk := .int kk n) es 0 (fun e he => by
          obtain ⟨y, b, hy, hb⟩ := hes e he
          have h1 := eqK_ok (k := 1) hb hu hy
          obtain ⟨k', a, c, h2, h3, h4⟩ := sameC_int h1
          refine ⟨b, ?_, (sameC_iff h1).1⟩
          rw [h2, h3]
          simp only [Instr.sameNow, if_true, h4]) with ⟨l1, e, l2, q1, q2, q3⟩ | ⟨q1, q2⟩
        · refine .inl ⟨l1, e, l2, q1, q2, ?_⟩
          rw [Nat.zero_add] at q3
          simp [Instr.findKey, run_underlying hd, q3]
        · refine .inr ⟨q1, ?_⟩
          simp [Instr.findKey, run_underlying hd, q2]
    | _ => cases hk'
  · cases h
end
end Go.Proofs.YtfnjojdiiklleaaGreat.Ev
namespace Go.Proofs.YtfnjojdiiklleaaGreat.Ev
section
variable {P : Program} {ρ : Rho} {S : AS} {w : World}

/-! ### Entries -/
theorem findA_ok {eq : AV → AV → Option Bool} {k : AV} : ∀ {es : List Ent} {q : Option Ent}, findA eq k es = some q → (∀ x ∈ es, ∃ b, eq k x.key = some b) ∧
    (match q with | none => ∀ x ∈ es, eq k x.key = some false | some x => x ∈ es ∧ eq k x.key = some true)
  | [], q, h => by
    have : q = none := (Option.some.inj h).symm
    subst this; exact ⟨fun x hx => (by cases hx), fun x hx => (by cases hx)⟩
  | x :: es, q, h => by
    have h' : cO (eq k x.key) none (fun b => cO (findA eq k es) none fun q => cB b (some (some x)) (some q)) = some q := h
    obtain ⟨b, h1, h2⟩ := cO_some' h'
    obtain ⟨q', h3, h4⟩ := cO_some' h2
    obtain ⟨i1, i2⟩ := findA_ok h3
    have hall : ∀ y ∈ x :: es, ∃ b, eq k y.key = some b := fun y hy => by
      rcases List.mem_cons.1 hy with rfl | hy
      · exact ⟨b, h1⟩
      · exact i1 y hy
    refine ⟨hall, ?_⟩
    cases b with
    | true => cases h4; exact ⟨by simp, h1⟩
    | false =>
      cases h4
      cases q with
      | none =>
        intro y hy
        rcases List.mem_cons.1 hy with rfl | hy
        · exact h1
        · exact i2 y hy
      | some y => exact ⟨by simp [i2.1], i2.2⟩
theorem insA_split (k v : AV) (i : Nam) : ∀ (es : List Ent), ∃ A B, es = A ++ B ∧ insA k v i es = A ++ ⟨k, v, i⟩ :: B
  | [] => ⟨[], [], rfl, rfl⟩
  | x :: es => by
    have h : insA k v i (x :: es) = cB (ltK k x.key) (⟨k, v, i⟩ :: x :: es) (x :: insA k v i es) := rfl
    cases c : ltK k x.key with
    | true => rw [c] at h; exact ⟨[], x :: es, rfl, h⟩
    | false =>
      rw [c] at h
      obtain ⟨A, B, h1, h2⟩ := insA_split k v i es
      refine ⟨x :: A, B, by rw [h1]; rfl, ?_⟩
      rw [h]
      show x :: insA k v i es = _
      rw [h2]; rfl
theorem setSA_split {i : Nam} {v : AV} : ∀ {es es' : List Ent}, setSA i v es = some es' → ∃ A x B, es = A ++ x :: B ∧ x.id.n = i.n ∧ es' = A ++ ⟨x.key, v, x.id⟩ :: B
  | [], es', h => by cases h
  | x :: es, es', h => by
    have h' : cB (Nat.beq x.id.n i.n) (some (⟨x.key, v, x.id⟩ :: es)) (cO (setSA i v es) none fun q => some (x :: q)) = some es' := h
    cases c : Nat.beq x.id.n i.n with
    | true => rw [c] at h'; rw [Nat.beq_eq] at c; cases h'; exact ⟨[], x, es, rfl, c, rfl⟩
    | false =>
      rw [c] at h'
      have h'' : cO (setSA i v es) none (fun q => some (x :: q)) = some es' := h'
      obtain ⟨q, h1, h2⟩ := cO_some' h''
      cases h2
      obtain ⟨A, y, B, e1, e2, e3⟩ := setSA_split h1
      exact ⟨x :: A, y, B, by rw [e1]; rfl, e2, by rw [e3]; rfl⟩
theorem delA_split {i : Nam} : ∀ {es es' : List Ent}, delA i es = some es' → ∃ A x B, es = A ++ x :: B ∧ x.id.n = i.n ∧ es' = A ++ B
  | [], es', h => by cases h
  | x :: es, es', h => by
    have h' : cB (Nat.beq x.id.n i.n) (some es) (cO (delA i es) none fun q => some (x :: q)) = some es' := h
    cases c : Nat.beq x.id.n i.n with
    | true => rw [c] at h'; rw [Nat.beq_eq] at c; cases h'; exact ⟨[], x, es, rfl, c, rfl⟩
    | false =>
      rw [c] at h'
      have h'' : cO (delA i es) none (fun q => some (x :: q)) = some es' := h'
      obtain ⟨q, h1, h2⟩ := cO_some' h''
      cases h2
      obtain ⟨A, y, B, e1, e2, e3⟩ := delA_split h1
      exact ⟨x :: A, y, B, by rw [e1]; rfl, e2, by rw [e3]; rfl⟩
theorem byId_some {i : Nam} : ∀ {es : List Ent} {x : Ent}, byId i es = some x → x ∈ es ∧ x.id.n = i.n
  | [], x, h => by cases h
  | y :: es, x, h => by
    have h' : cB (Nat.beq y.id.n i.n) (some y) (byId i es) = some x := h
    cases c : Nat.beq y.id.n i.n with
    | true => rw [c] at h'; rw [Nat.beq_eq] at c; cases h'; exact ⟨by simp, c⟩
    | false => rw [c] at h'; obtain ⟨h1, h2⟩ := byId_some h'; exact ⟨by simp [h1], h2⟩
theorem All2.append {α β : Type} {R : α → β → Prop} : ∀ {a b : List α} {m : List β}, All2 R (a ++ b) m → ∃ m1 m2, m = m1 ++ m2 ∧ All2 R a m1 ∧ All2 R b m2
  | [], b, m, h => ⟨[], m, rfl, .nil, h⟩
  | x :: a, b, m, h => by
    cases h with
    | cons h t =>
      obtain ⟨m1, m2, rfl, h1, h2⟩ := All2.append t
      exact ⟨_ :: m1, m2, rfl, .cons h h1, h2⟩
theorem All2.join {α β : Type} {R : α → β → Prop} {a b : List α} {m1 m2 : List β} (h1 : All2 R a m1) (h2 : All2 R b m2) : All2 R (a ++ b) (m1 ++ m2) := by
  induction h1 with
  | nil => exact h2
  | cons h _ ih => exact .cons h ih
theorem All2.mem {α β : Type} {R : α → β → Prop} {a : List α} {m : List β} (h : All2 R a m) {x : α} (hx : x ∈ a) : ∃ y, y ∈ m ∧ R x y := by
  induction h with
  | nil => cases hx
  | cons h _ ih =>
    rcases List.mem_cons.1 hx with rfl | hx
    · exact ⟨_, by simp, h⟩
    · obtain ⟨y, h1, h2⟩ := ih hx; exact ⟨y, by simp [h1], h2⟩
theorem All2.mem' {α β : Type} {R : α → β → Prop} {a : List α} {m : List β} (h : All2 R a m) {y : β} (hy : y ∈ m) : ∃ x, x ∈ a ∧ R x y := by
  induction h with
  | nil => cases hy
  | cons h _ ih =>
    rcases List.mem_cons.1 hy with rfl | hy
    · exact ⟨_, by simp, h⟩
    · obtain ⟨x, h1, h2⟩ := ih hy; exact ⟨x, by simp [h1], h2⟩
theorem nodup_inj {α β : Type} {f : α → β} : ∀ {l : List α}, (l.map f).Nodup → ∀ {a b : α}, a ∈ l → b ∈ l → f a = f b → a = b
  | [], _, a, b, ha, _, _ => by cases ha
  | x :: l, h, a, b, ha, hb, e => by
    rw [List.map_cons, List.nodup_cons] at h
    rcases List.mem_cons.1 ha with ha1 | ha1 <;> rcases List.mem_cons.1 hb with hb1 | hb1
    · rw [ha1, hb1]
    · exact absurd (by rw [← ha1, e]; exact List.mem_map_of_mem hb1) h.1
    · exact absurd (by rw [← hb1, ← e]; exact List.mem_map_of_mem ha1) h.1
    · exact nodup_inj h.2 ha1 hb1 e
theorem modify_split {α : Type} (f : α → α) (e : α) (l2 : List α) : ∀ l1 : List α, (l1 ++ e :: l2).modify l1.length f = l1 ++ f e :: l2
  | [] => by simp
  | a :: l1 => by simp [modify_split f e l2 l1]
theorem eraseIdx_split {α : Type} (e : α) (l2 : List α) : ∀ l1 : List α, (l1 ++ e :: l2).eraseIdx l1.length = l1 ++ l2
  | [] => by simp
  | a :: l1 => by simp [eraseIdx_split e l2 l1]
/-- A map's block. -/
theorem map_of (hs : Sat P ρ S w) {b : Nam} {es : List Ent} {clk : Nat} (ho : S.at b.p = .map es clk) {g off cap : Nat} (hb : look ρ b = some (.blk g off cap)) : ∃ l, w.heap[g]? = some (.map l clk) ∧ relM ρ g es clk l.toList := by
  have := hs.obj b.p
  rw [ho] at this
  obtain ⟨g', off', cap', l, h1, h2, h3⟩ := this
  rw [look_path hb] at h1
  cases h1
  exact ⟨l, h2, h3⟩
theorem run_getMap {g : Nat} {l : Array MapEntry} {c : Nat} (h : w.heap[g]? = some (.map l c)) : (getObj g).run P w = .ok (.map l c) w := by simp only [getObj, Sem.run, h]
theorem run_setMap {g : Nat} {l : Array MapEntry} {c : Nat} (h : w.heap[g]? = some (.map l c)) (o : Obj) : (setObj g o).run P w = .ok () { w with heap := w.heap.setIfInBounds g o } := by simp only [setObj, Sem.run, h]
/-- A map is written. -/
theorem Sat.setMap (hs : Sat P ρ S w) {ρ' : Rho} {S' : AS} {b : Nam} {es es' : List Ent} {clk clk' : Nat} {g off cap : Nat} {l l' : Array MapEntry} (ho : S.at b.p = .map es clk) (hb : look ρ b = some (.blk g off cap)) (hl : w.heap[g]? = some (.map l clk))
    (hle : Le ρ ρ') (hnew : ∀ p t, ρ' p = some t → ρ p = some t ∨ (S.at p = .free ∧ S'.at p = .dead ∧ ∃ k, t = .stp g k ∧ ∀ q, ρ' q = some (.stp g k) → q = p))
    (hS : ∀ p, p ≠ b.p → S'.at p = S.at p ∨ (S.at p = .free ∧ S'.at p = .dead ∧ ∃ t, ρ' p = some t)) (hSb : S'.at b.p = .map es' clk') (htr : Tr S S') (hrel : relM ρ' g es' clk' l'.toList) (hclk : ∀ p k, ρ' p = some (.stp g k) → k < clk') :
    Sat P ρ' S' { w with heap := w.heap.setIfInBounds g (.map l' clk') } ∧ Ext ρ S w ρ' S' { w with heap := w.heap.setIfInBounds g (.map l' clk') } := by
  have hlt : g < w.heap.size := (Array.getElem?_eq_some_iff.1 hl).1
  have h1 : (w.heap.setIfInBounds g (.map l' clk'))[g]? = some (.map l' clk') := by rw [Array.getElem?_setIfInBounds_self_of_lt hlt]
  refine hs.upd (w' := { w with heap := w.heap.setIfInBounds g (.map l' clk') }) (look_path hb) (by rw [ho]; exact trivial) (by rw [hSb]; exact trivial) hle hnew hS htr ?_ (by simp) (fun g' hg => Array.getElem?_setIfInBounds_ne (Ne.symm hg)) ?_ rfl rfl rfl
  · rw [hSb]; exact ⟨g, off, cap, l', hle _ _ (look_path hb), h1, hrel⟩
  · intro es2 c hc p k hp
    rw [h1] at hc; cases hc
    exact hclk p k hp
theorem relM.vals {g clk : Nat} {es : List Ent} {l : List MapEntry} (h : relM ρ g es clk l) {x : Ent} (hx : x ∈ es) : ∃ e, e ∈ l ∧ relE ρ g x e := by
  obtain ⟨m, h1, h2⟩ := h.perm
  obtain ⟨e, h3, h4⟩ := h1.mem hx
  exact ⟨e, h2.mem_iff.1 h3, h4⟩
theorem relM.ents {g clk : Nat} {es : List Ent} {l : List MapEntry} (h : relM ρ g es clk l) {e : MapEntry} (he : e ∈ l) : ∃ x, x ∈ es ∧ relE ρ g x e := by
  obtain ⟨m, h1, h2⟩ := h.perm
  exact h1.mem' (h2.mem_iff.2 he)
/-- What is found in both. -/
theorem found_both {kt : TypeId} {eq : AV → AV → Option Bool} {k : AV} {uk : Value} (K : KeyLaw P ρ w kt eq k uk) {g clk : Nat} {es : List Ent} {l : List MapEntry} (h : relM ρ g es clk l) {q : Option Ent} (hq : findA eq k es = some q) :
    (q = none ∧ (∀ e ∈ l, e.key ≠ uk) ∧ (Instr.findKey kt uk l).run P w = .ok none w) ∨
      ∃ x l1 e l2, q = some x ∧ x ∈ es ∧ eq k x.key = some true ∧ l = l1 ++ e :: l2 ∧ e.key = uk ∧ relE ρ g x e ∧ (Instr.findKey kt uk l).run P w = .ok (some (l1.length, e.val)) w := by
  obtain ⟨h1, h2⟩ := findA_ok hq
  have hall : ∀ e ∈ l, ∃ y b, conc ρ y = some e.key ∧ eq k y = some b := fun e he => by
    obtain ⟨x, hx, hr⟩ := h.ents he
    obtain ⟨b, hb⟩ := h1 x hx
    exact ⟨x.key, b, hr.key, hb⟩
  cases q with
  | none =>
    have hne : ∀ e ∈ l, e.key ≠ uk := fun e he e1 => by
      obtain ⟨x, hx, hr⟩ := h.ents he
      have := (K.same (h2 x hx) hr.key).2 e1.symm
      cases this
    rcases K.find l hall with ⟨l1, e, l2, rfl, h3, _⟩ | ⟨_, h4⟩
    · exact absurd h3 (hne e (by simp))
    · exact .inl ⟨rfl, hne, h4⟩
  | some x =>
    obtain ⟨h3, h4⟩ := h2
    obtain ⟨e0, he0, hr⟩ := h.vals h3
    have hk0 := (K.same h4 hr.key).1 rfl
    rcases K.find l hall with ⟨l1, e, l2, rfl, h5, h6⟩ | ⟨h5, _⟩
    · have : e = e0 := nodup_inj h.keys (by simp) he0 (by rw [h5, hk0])
      subst this
      exact .inr ⟨x, l1, e, l2, rfl, h3, h4, rfl, h5, hr, h6⟩
    · exact absurd hk0.symm (h5 e0 he0)
theorem lookup_ok (hs : Sat P ρ S w) {ty : TypeId} {two : Bool} {m k : AV} {um uk : Value} (hm : conc ρ m = some um) (hk : conc ρ k = some uk) : AN.okV P ρ S w ((Instr.lookup ty um uk two).run P w) ((lookupA P ty two).f m k S) := by
  unfold lookupA
  split
  · rename_i kt e hu
    split
    · rename_i eq ok z hkk hz
      refine cB_ok (fun hok => ?_) fun _ => trivial
      have K := key_law (w := w) hkk hok hk
      obtain ⟨uz, hzr, hzc⟩ := zero_run hz (ρ := ρ)
      have fin : ∀ {v : AV} {u : Value} {bb : Bool} {r : Result Value}, conc ρ v = some u → r = .ok (if two then .tuple #[u, .bool bb] else u) w → AN.okV P ρ S w r (.get (cB two (.tuple [v, .bool bb]) v)) := fun {v u bb r} hv hr => by
        subst hr
        cases two with
        | true => exact ⟨.tuple #[u, .bool bb], by show conc ρ (.tuple [v, .bool bb]) = _; simp [conc, concs, hv], rfl⟩
        | false => exact ⟨u, hv, rfl⟩
      refine vMap_ok trivial (fun e => ?_) fun b e => ?_
      · subst e
        cases conc_nilm hm
        refine fin hzc ?_
        have h1 : (Instr.findKey kt uk []).run P w = .ok none w := by
          rcases K.find [] (fun e he => by cases he) with ⟨l1, e, l2, h, _⟩ | ⟨_, h⟩
          · simp at h
          · exact h
        simp [Instr.lookup, run_underlying hu, K.check, h1, hzr]
      · subst e
        refine oMap_ok trivial fun es clk ho => ?_
        rw [getA_eq] at ho
        obtain ⟨g, off, cap, hb, rfl⟩ := conc_map hm
        obtain ⟨l, hl, hr⟩ := map_of hs ho hb
        refine cO_ok trivial fun q hq => ?_
        rcases found_both K hr hq with ⟨rfl, _, h1⟩ | ⟨x, l1, e, l2, rfl, _, _, h2, _, h3, h1⟩
        · refine fin hzc ?_
          simp [Instr.lookup, run_underlying hu, run_getMap hl, K.check, h1, hzr]
        · refine fin h3.val ?_
          simp [Instr.lookup, run_underlying hu, run_getMap hl, K.check, h1]
    · exact trivial
  · exact trivial
theorem relM.set {g clk : Nat} {es es' : List Ent} {l1 l2 : List MapEntry} {e : MapEntry} (h : relM ρ g es clk (l1 ++ e :: l2)) {x : Ent} (hx : x ∈ es) (hr : relE ρ g x e) {v : AV} {uv : Value} (hv : conc ρ v = some uv)
    (hset : setSA x.id v es = some es') : relM ρ g es' clk (l1 ++ { e with val := uv } :: l2) := by
  obtain ⟨A, y, B, rfl, e2, rfl⟩ := setSA_split hset
  obtain ⟨m, h1, h2⟩ := h.perm
  obtain ⟨mA, mB', rfl, hA, hB'⟩ := All2.append h1
  cases hB' with
  | @cons _ ey _ mB hy hB =>
  have hxy : y.id = x.id := nam_eq hy.id hr.id e2
  have hborn : ey.born = e.born := by
    have h3 := hy.id
    rw [hxy, hr.id] at h3
    exact (Tgt.stp.inj (Option.some.inj h3)).2.symm
  have hmem : ey ∈ l1 ++ e :: l2 := h2.mem_iff.1 (by simp)
  have : ey = e := nodup_inj h.born hmem (by simp) hborn
  subst this
  refine ⟨⟨mA ++ { ey with val := uv } :: mB, All2.join hA (.cons ⟨hy.key, hv, hy.id⟩ hB), ?_⟩, ?_, ?_, ?_⟩
  · have p1 : (ey :: (mA ++ mB)).Perm (ey :: (l1 ++ l2)) := (List.perm_middle.symm.trans h2).trans List.perm_middle
    have p2 := (List.perm_cons ey).1 p1
    exact (List.perm_middle.trans ((List.perm_cons _).2 p2)).trans List.perm_middle.symm
  · have := h.born; simpa using this
  · intro e' he'
    rcases List.mem_append.1 he' with he' | he'
    · exact h.below e' (by simp [he'])
    · rcases List.mem_cons.1 he' with rfl | he'
      · exact h.below ey (by simp)
      · exact h.below e' (by simp [he'])
  · have := h.keys; simpa using this
theorem mapPut_ok (hs : Sat P ρ S w) {ty : TypeId} {m k v : AV} {um uk uv : Value} (hm : conc ρ m = some um) (hk : conc ρ k = some uk) (hv : conc ρ v = some uv) :
    AN.okU P ρ S w ((Instr.mapUpdate ty um uk uv).run P w) ((mapPutA P ty).f m k v S) := by
  unfold mapPutA
  split
  · rename_i kt e hu
    split
    · rename_i eq ok hkk
      refine cB_ok (fun hok => ?_) fun _ => trivial
      have K := key_law (w := w) hkk hok hk
      refine vMap_ok trivial (fun _ => trivial) fun b e => ?_
      subst e
      refine oMap_ok trivial fun es clk ho => ?_
      rw [getA_eq] at ho
      obtain ⟨g, off, cap, hb, rfl⟩ := conc_map hm
      obtain ⟨l, hl, hr⟩ := map_of hs ho hb
      refine cO_ok trivial fun q hq => ?_
      rcases found_both K hr hq with ⟨rfl, hne, h1⟩ | ⟨x, l1, e, l2, rfl, hx, hxe, h2, hek, h3, h1⟩
      · simp only [cO_none]
        refine newA_okQ trivial fun i hi hf => ?_
        have hib : i.p ≠ b.p := fun e => by rw [e, ho] at hf; cases hf
        have hn : ρ i.p = none := by have := hs.obj i.p; rw [hf] at this; exact this
        have hle : Le ρ (ρ.set i.p (.stp g clk)) := Rho.set_le hn
        have hat1 : ∀ p, (AS.at ⟨hput S.top i.p .dead, S.lay, logA S i, Nat.add S.next 1⟩ p) = if p = i.p then .dead else S.at p := at_put (by intro e; cases e) rfl
        have hat : ∀ p, (putA ⟨hput S.top i.p .dead, S.lay, logA S i, Nat.add S.next 1⟩ b (.map (insA k v i es) (Nat.add clk 1))).at p = if p = b.p then .map (insA k v i es) (clk + 1) else if p = i.p then .dead else S.at p := fun p => by
          rw [at_putA (by intro e; cases e), hat1]
        obtain ⟨A, B, hes, hins⟩ := insA_split k v i es
        have hnewE : relE (ρ.set i.p (.stp g clk)) g ⟨k, v, i⟩ { key := uk, val := uv, born := clk } := ⟨conc_mono hle _ hk, conc_mono hle _ hv, look_set hi _⟩
        have hrel : relM (ρ.set i.p (.stp g clk)) g (insA k v i es) (clk + 1) (l.push { key := uk, val := uv, born := clk }).toList := by
          have hr' := hr.mono hle
          obtain ⟨mm, q1, q2⟩ := hr'.perm
          rw [hes] at q1
          obtain ⟨mA, mB, rfl, hA, hB⟩ := All2.append q1
          rw [Array.toList_push, hins]
          refine ⟨⟨mA ++ { key := uk, val := uv, born := clk } :: mB, All2.join hA (.cons hnewE hB), ?_⟩, ?_, ?_, ?_⟩
          · exact (List.perm_middle.trans ((List.perm_cons _).2 q2)).trans (List.perm_append_singleton _ _).symm
          · rw [List.map_append, List.nodup_append]
            refine ⟨hr.born, by simp, fun a ha c hc e => ?_⟩
            obtain ⟨e', he', rfl⟩ := List.mem_map.1 ha
            simp at hc
            have := hr.below e' he'
            omega
          · intro e' he'
            rcases List.mem_append.1 he' with he' | he'
            · have := hr.below e' he'; omega
            · simp at he'; subst he'; exact Nat.lt_succ_self _
          · rw [List.map_append, List.nodup_append]
            refine ⟨hr.keys, by simp, fun a ha c hc e => ?_⟩
            obtain ⟨e', he', rfl⟩ := List.mem_map.1 ha
            simp at hc
            exact hne e' he' (by rw [e, hc])
        obtain ⟨c1, c2⟩ := hs.setMap (S' := putA ⟨hput S.top i.p .dead, S.lay, logA S i, Nat.add S.next 1⟩ b (.map (insA k v i es) (Nat.add clk 1))) ho hb hl hle (fun p t hp => by
            by_cases e : p = i.p
            · subst e
              rw [Rho.set_same] at hp
              cases hp
              refine .inr ⟨hf, by rw [hat, if_neg hib, if_pos rfl], clk, rfl, fun q hq => ?_⟩
              by_cases e2 : q = i.p
              · exact e2
              · rw [Rho.set_other _ _ e2] at hq
                have := (hs.stp _ _ _ hq).2 _ _ hl
                omega
            · rw [Rho.set_other _ _ e] at hp; exact .inl hp)
          (fun p hp => by
            by_cases e : p = i.p
            · subst e; exact .inr ⟨hf, by rw [hat, if_neg hib, if_pos rfl], _, Rho.set_same _ _ _⟩
            · exact .inl (by rw [hat, if_neg hp, if_neg e]))
          (by rw [hat, if_pos rfl]) ((Tr.put rfl).trans (Tr.put rfl)) hrel (fun p kk hp => by
            by_cases e : p = i.p
            · subst e; rw [Rho.set_same] at hp; cases hp; exact Nat.lt_succ_self _
            · rw [Rho.set_other _ _ e] at hp
              have := (hs.stp _ _ _ hp).2 _ _ hl
              omega)
        refine ⟨rfl, _, _, ?_, c2, c1⟩
        simp [Instr.mapUpdate, run_underlying hu, run_getMap hl, K.check, h1, run_setMap hl]
      · simp only [cO_some]
        refine cO_ok trivial fun es' hset => ?_
        rw [h2] at hr
        have hrel := hr.set hx h3 hv hset
        have harr : (l.modify l1.length fun e => { e with key := uk, val := uv }).toList = l1 ++ { e with val := uv } :: l2 := by
          rw [Array.toList_modify, h2, modify_split]
          subst hek; rfl
        have hat : ∀ p, (putA S b (.map es' clk)).at p = if p = b.p then .map es' clk else S.at p := at_putA (by intro e; cases e)
        obtain ⟨c1, c2⟩ := hs.setMap (S' := putA S b (.map es' clk)) (l' := l.modify l1.length fun e => { e with key := uk, val := uv }) ho hb hl (Le.refl _) (fun p t hp => .inl hp) (fun p hp => .inl (by rw [hat, if_neg hp])) (by rw [hat, if_pos rfl]) (Tr.put rfl)
          (by rw [harr]; exact hrel) (fun p kk hp => (hs.stp _ _ _ hp).2 _ _ hl)
        refine ⟨rfl, _, _, ?_, c2, c1⟩
        have hbits := K.bits hxe h3.key
        have hget : l[l1.length]? = some e := by rw [← Array.getElem?_toList, h2]; simp
        have hstay : (Instr.keyThatStays (((l[l1.length]?).map (·.key)).getD uk) uk).run P w = .ok uk w := by
          rw [hget]
          simp only [Option.map_some, Option.getD_some, hek, Instr.keyThatStays, hbits, if_true, Sem.run_pure]
        simp only [Instr.mapUpdate, Sem.run_bind, run_underlying hu, Result.andThen_ok, run_getMap hl, K.check, h1, hstay, run_setMap hl]
    · exact trivial
  · exact trivial
theorem mapEntry_ok (hs : Sat P ρ S w) {ty : TypeId} {m k : AV} {um uk : Value} (hm : conc ρ m = some um) (hk : conc ρ k = some uk) :
    AN.okV P ρ S w ((Instr.mapEntry ty um uk).run P w) ((mapEntryA P ty).f m k S) := by
  unfold mapEntryA
  split
  · rename_i kt e hu
    split
    · rename_i eq ok z hkk hzv
      obtain ⟨uz, hzr, hzc⟩ := zero_run hzv (ρ := ρ)
      refine cB_ok (fun hok => ?_) fun _ => trivial
      have K := key_law (w := w) hkk hok hk
      refine vMap_ok trivial (fun _ => trivial) fun b e => ?_
      subst e
      refine oMap_ok trivial fun es clk ho => ?_
      rw [getA_eq] at ho
      obtain ⟨g, off, cap, hb, rfl⟩ := conc_map hm
      obtain ⟨l, hl, hr⟩ := map_of hs ho hb
      refine cO_ok trivial fun q hq => ?_
      rcases found_both K hr hq with ⟨rfl, hne, h1⟩ | ⟨x, l1, e, l2, rfl, hx, hxe, h2, hek, h3, h1⟩
      · simp only [cO_none]
        refine newA_okQ trivial fun i hi hf => ?_
        have hib : i.p ≠ b.p := fun e => by rw [e, ho] at hf; cases hf
        have hn : ρ i.p = none := by have := hs.obj i.p; rw [hf] at this; exact this
        have hle : Le ρ (ρ.set i.p (.stp g clk)) := Rho.set_le hn
        have hat1 : ∀ p, (AS.at ⟨hput S.top i.p .dead, S.lay, logA S i, Nat.add S.next 1⟩ p) = if p = i.p then .dead else S.at p := at_put (by intro e; cases e) rfl
        have hat : ∀ p, (putA ⟨hput S.top i.p .dead, S.lay, logA S i, Nat.add S.next 1⟩ b (.map (insA k z i es) (Nat.add clk 1))).at p = if p = b.p then .map (insA k z i es) (clk + 1) else if p = i.p then .dead else S.at p := fun p => by
          rw [at_putA (by intro e; cases e), hat1]
        obtain ⟨A, B, hes, hins⟩ := insA_split k z i es
        have hnewE : relE (ρ.set i.p (.stp g clk)) g ⟨k, z, i⟩ { key := uk, val := uz, born := clk } := ⟨conc_mono hle _ hk, conc_mono hle _ hzc, look_set hi _⟩
        have hrel : relM (ρ.set i.p (.stp g clk)) g (insA k z i es) (clk + 1) (l.push { key := uk, val := uz, born := clk }).toList := by
          have hr' := hr.mono hle
          obtain ⟨mm, q1, q2⟩ := hr'.perm
          rw [hes] at q1
          obtain ⟨mA, mB, rfl, hA, hB⟩ := All2.append q1
          rw [Array.toList_push, hins]
          refine ⟨⟨mA ++ { key := uk, val := uz, born := clk } :: mB, All2.join hA (.cons hnewE hB), ?_⟩, ?_, ?_, ?_⟩
          · exact (List.perm_middle.trans ((List.perm_cons _).2 q2)).trans (List.perm_append_singleton _ _).symm
          · rw [List.map_append, List.nodup_append]
            refine ⟨hr.born, by simp, fun a ha c hc e => ?_⟩
            obtain ⟨e', he', rfl⟩ := List.mem_map.1 ha
            simp at hc
            have := hr.below e' he'
            omega
          · intro e' he'
            rcases List.mem_append.1 he' with he' | he'
            · have := hr.below e' he'; omega
            · simp at he'; subst he'; exact Nat.lt_succ_self _
          · rw [List.map_append, List.nodup_append]
            refine ⟨hr.keys, by simp, fun a ha c hc e => ?_⟩
            obtain ⟨e', he', rfl⟩ := List.mem_map.1 ha
            simp at hc
            exact hne e' he' (by rw [e, hc])
        obtain ⟨c1, c2⟩ := hs.setMap (S' := putA ⟨hput S.top i.p .dead, S.lay, logA S i, Nat.add S.next 1⟩ b (.map (insA k z i es) (Nat.add clk 1))) ho hb hl hle (fun p t hp => by
            by_cases e : p = i.p
            · subst e
              rw [Rho.set_same] at hp
              cases hp
              refine .inr ⟨hf, by rw [hat, if_neg hib, if_pos rfl], clk, rfl, fun q hq => ?_⟩
              by_cases e2 : q = i.p
              · exact e2
              · rw [Rho.set_other _ _ e2] at hq
                have := (hs.stp _ _ _ hq).2 _ _ hl
                omega
            · rw [Rho.set_other _ _ e] at hp; exact .inl hp)
          (fun p hp => by
            by_cases e : p = i.p
            · subst e; exact .inr ⟨hf, by rw [hat, if_neg hib, if_pos rfl], _, Rho.set_same _ _ _⟩
            · exact .inl (by rw [hat, if_neg hp, if_neg e]))
          (by rw [hat, if_pos rfl]) ((Tr.put rfl).trans (Tr.put rfl)) hrel (fun p kk hp => by
            by_cases e : p = i.p
            · subst e; rw [Rho.set_same] at hp; cases hp; exact Nat.lt_succ_self _
            · rw [Rho.set_other _ _ e] at hp
              have := (hs.stp _ _ _ hp).2 _ _ hl
              omega)
        refine ⟨_, .tuple #[uz, .int .i64 clk], _, ?_, c2, c1, ?_⟩
        · simp [Instr.mapEntry, run_underlying hu, run_getMap hl, K.check, h1, hzr, run_setMap hl, goInt]
        · simp only [conc, concs, conc_mono hle _ hzc, look_set hi]
      · simp only [cO_some]
        have harr : (l.modify l1.length fun e => { e with key := uk }).toList = l1 ++ e :: l2 := by
          rw [Array.toList_modify, h2, modify_split]
          subst hek; rfl
        have hat : ∀ p, (putA S b (.map es clk)).at p = if p = b.p then .map es clk else S.at p := at_putA (by intro e; cases e)
        obtain ⟨c1, c2⟩ := hs.setMap (S' := putA S b (.map es clk)) (l' := l.modify l1.length fun e => { e with key := uk }) ho hb hl (Le.refl _) (fun p t hp => .inl hp) (fun p hp => .inl (by rw [hat, if_neg hp])) (by rw [hat, if_pos rfl]) (Tr.put rfl)
          (by rw [harr, ← h2]; exact hr) (fun p kk hp => (hs.stp _ _ _ hp).2 _ _ hl)
        refine ⟨ρ, .tuple #[e.val, .int .i64 e.born], _, ?_, c2, c1, ?_⟩
        · have hbits := K.bits hxe h3.key
          have hget : l[l1.length]? = some e := by rw [← Array.getElem?_toList, h2]; simp
          have hstay2 : (Instr.keyThatStays e.key uk).run P w = .ok uk w := by simp only [hek, Instr.keyThatStays, hbits, if_true, Sem.run_pure]
          simp only [Instr.mapEntry, Sem.run_bind, run_underlying hu, Result.andThen_ok, run_getMap hl, K.check, h1, hstay2, run_setMap hl, Sem.run_pure, hget, Option.map_some, Option.getD_some, goInt]
        · simp only [conc, concs, h3.val, h3.id]
    · exact trivial
  · exact trivial
theorem findIdx_born {k : Nat} {e : MapEntry} {l2 : List MapEntry} : ∀ {l1 : List MapEntry}, ((l1 ++ e :: l2).map (·.born)).Nodup → e.born = k → (l1 ++ e :: l2).findIdx? (fun e => (e.born : Int) == (k : Int)) = some l1.length
  | [], _, h => by simp [List.findIdx?_cons, h]
  | a :: l1, hn, h => by
    have hn' : a.born ∉ (l1 ++ e :: l2).map (·.born) ∧ ((l1 ++ e :: l2).map (·.born)).Nodup := by simpa using hn
    have hne : ¬ (a.born = k) := fun e' => hn'.1 (by rw [e', ← h]; simp)
    have hne' : ((a.born : Int) == (k : Int)) = false := by rw [beq_eq_false_iff_ne]; exact fun e => hne (Int.ofNat.inj e)
    have := findIdx_born (l2 := l2) hn'.2 h
    simp only [List.cons_append, List.findIdx?_cons, hne', this]
    simp
theorem entryStore_ok (hs : Sat P ρ S w) {ty : TypeId} {m i v : AV} {um ui uv : Value} (hm : conc ρ m = some um) (hi : conc ρ i = some ui) (hv : conc ρ v = some uv) :
    AN.okU P ρ S w ((Instr.entryStore ty um ui uv).run P w) (entryStoreA m i v S) := by
  unfold entryStoreA
  refine vMap_ok trivial (fun _ => trivial) fun b e => ?_
  subst e
  cases i with
  | stamp j =>
    show AN.okU P ρ S w _ (oMap (getA S b) .no fun es clk => cO (setSA j v es) .no fun es' => unitV (putA S b (.map es' clk)))
    refine oMap_ok trivial fun es clk ho => ?_
    rw [getA_eq] at ho
    obtain ⟨g, off, cap, hb, rfl⟩ := conc_map hm
    obtain ⟨l, hl, hr⟩ := map_of hs ho hb
    refine cO_ok trivial fun es' hset => ?_
    obtain ⟨A, y, B, hes, e2, hes'⟩ := setSA_split hset
    have hy : y ∈ es := by rw [hes]; simp
    obtain ⟨mm, q1, q2⟩ := hr.perm
    obtain ⟨e, he, hye⟩ := q1.mem hy
    have hel := q2.mem_iff.1 he
    obtain ⟨l1, l2, h2⟩ := List.append_of_mem hel
    simp only [conc] at hi
    split at hi
    · rename_i g' k hj
      cases hi
      have hid : y.id = j := nam_eq hye.id hj e2
      have hbk : e.born = k := by
        have h3 := hye.id
        rw [hid, hj] at h3
        exact (Tgt.stp.inj (Option.some.inj h3)).2.symm
      rw [h2] at hr
      have hrel := hr.set hy hye hv (by rw [hid]; exact hset)
      have harr : (l.modify l1.length fun e => { e with val := uv }).toList = l1 ++ { e with val := uv } :: l2 := by
        rw [Array.toList_modify, h2, modify_split]
      have hat : ∀ p, (putA S b (.map es' clk)).at p = if p = b.p then .map es' clk else S.at p := at_putA (by intro e; cases e)
      obtain ⟨c1, c2⟩ := hs.setMap (S' := putA S b (.map es' clk)) (l' := l.modify l1.length fun e => { e with val := uv }) ho hb hl (Le.refl _) (fun p t hp => .inl hp) (fun p hp => .inl (by rw [hat, if_neg hp])) (by rw [hat, if_pos rfl]) (Tr.put rfl)
        (by rw [harr]; exact hrel) (fun p kk hp => (hs.stp _ _ _ hp).2 _ _ hl)
      refine ⟨rfl, _, _, ?_, c2, c1⟩
      have hfi : l.findIdx? (fun e => (e.born : Int) == (k : Int)) = some l1.length := by
        have hla : l = (l1 ++ e :: l2).toArray := by rw [← h2]
        rw [hla, List.findIdx?_toArray]
        exact findIdx_born hr.born hbk
      simp only [Instr.entryStore, Sem.run_bind, Sem.run_pure, Result.andThen_ok, run_getMap hl, asInt, asIntOf, hfi, run_setMap hl]
    · cases hi
  | _ => exact trivial
theorem delete_ok (hs : Sat P ρ S w) {ats : Array TypeId} {t ty : TypeId} {m k : AV} {um uk : Value} (h0 : ats[0]? = some t) (hm : conc ρ m = some um) (hk : conc ρ k = some uk) :
    AN.okV P ρ S w ((Builtin.delete_ ats ty #[um, uk]).run P w) ((deleteA P t).f m k S) := by
  unfold deleteA
  split
  · rename_i kt e hu
    split
    · rename_i eq ok hkk
      refine cB_ok (fun hok => ?_) fun _ => trivial
      have K := key_law (w := w) hkk hok hk
      have hct : conc ρ (.tuple []) = some (.tuple #[]) := by simp [conc, concs]
      refine vMap_ok trivial (fun e => ?_) fun b e => ?_
      · subst e
        cases conc_nilm hm
        exact ⟨ρ, _, w, by simp [Builtin.delete_, h0, run_underlying hu, K.check], Ext.refl _ _ _, hs, hct⟩
      · subst e
        refine oMap_ok trivial fun es clk ho => ?_
        rw [getA_eq] at ho
        obtain ⟨g, off, cap, hb, rfl⟩ := conc_map hm
        obtain ⟨l, hl, hr⟩ := map_of hs ho hb
        refine cO_ok trivial fun q hq => ?_
        have hat : ∀ es' p, (putA S b (.map es' clk)).at p = if p = b.p then .map es' clk else S.at p := fun es' => at_putA (by intro e; cases e)
        rcases found_both K hr hq with ⟨rfl, hne, h1⟩ | ⟨x, l1, e, l2, rfl, hx, hxe, h2, hek, h3, h1⟩
        · simp only [cO_none]
          obtain ⟨c1, c2⟩ := hs.setMap (S' := S) (l' := l) (es' := es) ho hb hl (Le.refl _) (fun p t hp => .inl hp) (fun p hp => .inl rfl) ho (Tr.refl _) hr (fun p kk hp => (hs.stp _ _ _ hp).2 _ _ hl)
          exact ⟨ρ, _, _, by simp [Builtin.delete_, h0, run_underlying hu, run_getMap hl, K.check, h1, run_setMap hl], c2, c1, hct⟩
        · simp only [cO_some]
          refine cO_ok trivial fun es' hdel => ?_
          obtain ⟨A, y, B, rfl, e2, rfl⟩ := delA_split hdel
          rw [h2] at hr
          obtain ⟨mm, q1, q2⟩ := hr.perm
          obtain ⟨mA, mB', rfl, hA, hB'⟩ := All2.append q1
          cases hB' with
          | @cons _ ey _ mB hy hB =>
          have hxy : y.id = x.id := nam_eq hy.id h3.id e2
          have hborn : ey.born = e.born := by
            have h4 := hy.id
            rw [hxy, h3.id] at h4
            exact (Tgt.stp.inj (Option.some.inj h4)).2.symm
          have hmem : ey ∈ l1 ++ e :: l2 := q2.mem_iff.1 (by simp)
          have : ey = e := nodup_inj hr.born hmem (by simp) hborn
          subst this
          have hsub : (l1 ++ l2).Sublist (l1 ++ ey :: l2) := List.Sublist.append_left (List.sublist_cons_self _ _) _
          have hrel : relM ρ g (A ++ B) clk (l1 ++ l2) := by
            refine ⟨⟨mA ++ mB, All2.join hA hB, ?_⟩, hr.born.sublist (hsub.map _), fun e' he' => hr.below e' (hsub.mem he'), hr.keys.sublist (hsub.map _)⟩
            have p1 : (ey :: (mA ++ mB)).Perm (ey :: (l1 ++ l2)) := (List.perm_middle.symm.trans q2).trans List.perm_middle
            exact (List.perm_cons ey).1 p1
          have harr : (l.eraseIdxIfInBounds l1.length).toList = l1 ++ l2 := by
            rw [Array.toList_eraseIdxIfInBounds, h2, eraseIdx_split]
          obtain ⟨c1, c2⟩ := hs.setMap (S' := putA S b (.map (A ++ B) clk)) (l' := l.eraseIdxIfInBounds l1.length) ho hb hl (Le.refl _) (fun p t hp => .inl hp) (fun p hp => .inl (by rw [hat, if_neg hp])) (by rw [hat, if_pos rfl]) (Tr.put rfl)
            (by rw [harr]; exact hrel) (fun p kk hp => (hs.stp _ _ _ hp).2 _ _ hl)
          exact ⟨ρ, _, _, by simp [Builtin.delete_, h0, run_underlying hu, run_getMap hl, K.check, h1, run_setMap hl], c2, c1, hct⟩
    · exact trivial
  · exact trivial
end
end Go.Proofs.YtfnjojdiiklleaaGreat.Ev
