/- A run of a program on abstract memory: maps. -/
import Derived.Test.YtfmaapbibmnfgaaGreatDoorEvS
import Derived.KernelRfl
set_option linter.unusedSectionVars false
namespace Go.Proofs.YtfmaapbibmnfgaaGreatDoor.Ev
variable [Vr]
section
variable {P : Program} {ρ : Rho} {S : AS} {w : World}

/-! ### Keys -/
theorem check_fields {em : Bool} {d D : Nat} {X xs : Array Value} {o n : Nat} (hx : ∀ i, i < n → xs[i]? = X[o + i]?)
    (ih : ∀ t o L, lookT P d t o = some L → ∀ V, LiesV P t V X o → (∀ x ∈ L, (X[x.1]?).isSome = true) → (Instr.checkKey em (d + D) t V).run P w = .ok () w) :
    ∀ {fs : List Field} {L : List (Nat × Nat)}, lookFs P (lookT P d) n o fs = some L → (∀ x ∈ L, (X[x.1]?).isSome = true) →
      (forIn fs PUnit.unit fun f (_ : PUnit) => (do
        if f.name ≠ "_" then Instr.checkKey em (d + D) f.type (← part f.type xs f.offset)
        pure (ForInStep.yield PUnit.unit) : Sem (ForInStep PUnit))).run P w = .ok PUnit.unit w
  | [], L, h, _ => by simp
  | f :: fs, L, h, hs => by
    simp only [lookFs] at h
    split at h
    · rename_i m h1 h2
      split at h
      · rename_i a b h3 h4 h5
        cases h
        have h3 : f.offset + m ≤ n := by simpa using h3
        have hname : f.name ≠ "_" := by intro e; rw [e] at h1; cases h1
        obtain ⟨bb, hb1, hb2⟩ := lookT_agg h4
        obtain ⟨V, v1, v2⟩ := part_lies (w := w) hx h3 h2 hb1 (fun e => by
          obtain ⟨e1, k, rfl⟩ := hb2 e
          rw [h2] at e1; cases e1
          exact ⟨by omega, hs (o + f.offset, k) (by simp)⟩)
        have := ih _ _ _ h4 V v2 (fun x hx => hs x (by simp [hx]))
        simp only [List.forIn_cons, hname, ne_eq, not_false_eq_true, if_true, Sem.run_bind, v1, this, Result.andThen_ok, Sem.run_pure]
        have hrec := check_fields hx ih h5 (fun x hx => hs x (by simp [hx]))
        simpa only [Sem.run_bind, Sem.run_pure, ne_eq] using hrec
      · cases h
    · cases h
theorem check_items {em : Bool} {d z n : Nat} {e : TypeId} {X xs : Array Value} {o : Nat} (hx : ∀ i, i < n → xs[i]? = X[o + i]?) (hz : sizeA P e = some z) {look : Nat → Option (List (Nat × Nat))}
    (hag : ∀ o L, look o = some L → ∃ b, aggT P e = some b ∧ (b = false → sizeA P e = some 1 ∧ ∃ k, L = [(o, k)]))
    (ih : ∀ o L, look o = some L → ∀ V, LiesV P e V X o → (∀ x ∈ L, (X[x.1]?).isSome = true) → (Instr.checkKey em d e V).run P w = .ok () w) :
    ∀ {k i : Nat} {L : List (Nat × Nat)}, (i + k) * z ≤ n → lookEs look z o i k = some L → (∀ x ∈ L, (X[x.1]?).isSome = true) →
      (forIn (List.range' i k) PUnit.unit fun j (_ : PUnit) => (do
        Instr.checkKey em d e (← part e xs (j * (← sizeOf e)))
        pure (ForInStep.yield PUnit.unit) : Sem (ForInStep PUnit))).run P w = .ok PUnit.unit w
  | 0, i, L, _, h, _ => by simp
  | k + 1, i, L, hn, h, hs => by
    simp only [lookEs] at h
    split at h
    · rename_i a b h4 h5
      cases h
      have h3 : i * z + z ≤ n := by rw [← Nat.succ_mul]; exact Nat.le_trans (Nat.mul_le_mul_right z (by omega)) hn
      obtain ⟨bb, hb1, hb2⟩ := hag _ _ h4
      obtain ⟨V, v1, v2⟩ := part_lies (w := w) hx h3 hz hb1 (fun e => by
        obtain ⟨e1, k, rfl⟩ := hb2 e
        rw [hz] at e1; cases e1
        exact ⟨by omega, hs (o + i * 1, k) (by simp)⟩)
      have := ih _ _ h4 V v2 (fun x hx => hs x (by simp [hx]))
      rw [List.range'_succ]
      simp only [List.forIn_cons, Sem.run_bind, size_run hz, v1, this, Result.andThen_ok, Sem.run_pure]
      have hrec := check_items hx hz hag ih (by rw [show i + 1 + k = i + (k + 1) by omega]; exact hn) h5 (fun x hx => hs x (by simp [hx]))
      simpa only [Sem.run_bind, Sem.run_pure] using hrec
    · cases h
theorem check_flat {em : Bool} : ∀ (d : Nat) (t : TypeId) (o : Nat) (L : List (Nat × Nat)), lookT P d t o = some L → ∀ (D : Nat) (V : Value) (X : Array Value), LiesV P t V X o → (∀ x ∈ L, (X[x.1]?).isSome = true) →
    (Instr.checkKey em (d + D) t V).run P w = .ok () w
  | 0, _, _, _, h => by cases h
  | d + 1, t, o, L, h => by
    intro D V X hV hs
    rw [show d + 1 + D = (d + D) + 1 by omega]
    simp only [lookT] at h
    split at h
    · rename_i hu; simp [Instr.checkKey, run_underlying hu]
    · rename_i hu; simp [Instr.checkKey, run_underlying hu]
    · rename_i hu; simp [Instr.checkKey, run_underlying hu]
    · rename_i fs hu
      have ha : aggT P t = some true := by simp [aggT, hu]
      obtain ⟨xs, n, rfl, hn, hx⟩ := hV.parts ha
      split at h
      · rename_i m h1 h2
        rw [hn] at h2; cases h2
        have := check_fields (w := w) (em := em) (D := D) hx (fun t o L hL V v1 v2 => check_flat d t o L hL D V X v1 v2) h hs
        rw [Array.forIn_toList] at this
        simp only [Instr.checkKey, Sem.run_bind, run_underlying hu, Result.andThen_ok]
        simp only [Sem.run_pure, ne_eq] at this ⊢
        rw [this]; rfl
      · cases h
    · rename_i len e hu
      have ha : aggT P t = some true := by simp [aggT, hu]
      obtain ⟨xs, n, rfl, hn, hx⟩ := hV.parts ha
      split at h
      · rename_i z m h1 h2
        rw [hn] at h2; cases h2
        split at h
        · rename_i h3
          have h3 := Nat.le_of_ble_eq_true h3
          have := check_items (w := w) (em := em) hx h1 (fun o L hL => lookT_agg hL) (fun o L hL V v1 v2 => check_flat d e o L hL D V X v1 v2) (by rw [Nat.zero_add]; exact h3) h hs
          simp only [Instr.checkKey, Sem.run_bind, run_underlying hu, Result.andThen_ok]
          simp only [Std.Legacy.Range.forIn_eq_forIn_range', Std.Legacy.Range.size, Nat.sub_zero, Nat.add_one_sub_one, Nat.div_one]
          simp only [Sem.run_pure] at this ⊢
          rw [this]; rfl
        · cases h
      · cases h
    · cases h
/-- What is known of a key. -/
structure KeyLaw (P : Program) (ρ : Rho) (w : World) (kt : TypeId) (eq : AV → AV → Option Bool) (k : AV) (uk : Value) : Prop where
  check : ∀ em, (Instr.checkKey em 10000 kt uk).run P w = .ok () w
  same : ∀ {y : AV} {uy : Value} {b : Bool}, eq k y = some b → conc ρ y = some uy → (b = true ↔ uk = uy)
  bits : ∀ {y : AV} {uy : Value}, eq k y = some true → conc ρ y = some uy → Instr.sameBits 10000 uk uk = true
  find : ∀ (l : List MapEntry), (∀ e ∈ l, ∃ y b, conc ρ y = some e.key ∧ eq k y = some b) →
    (∃ l1 e l2, l = l1 ++ e :: l2 ∧ e.key = uk ∧ (Instr.findKey kt uk l).run P w = .ok (some (l1.length, e.val)) w) ∨ ((∀ e ∈ l, e.key ≠ uk) ∧ (Instr.findKey kt uk l).run P w = .ok none w)
theorem find_asking {kt : TypeId} {uk : Value} : ∀ (l : List MapEntry) (i : Nat), (∀ e ∈ l, ∃ b, (Op.equal kt uk e.key).run P w = .ok b w ∧ (b = true ↔ uk = e.key)) →
    (∃ l1 e l2, l = l1 ++ e :: l2 ∧ e.key = uk ∧ (Instr.findAsking kt uk l i).run P w = .ok (some (i + l1.length, e.val)) w) ∨ ((∀ e ∈ l, e.key ≠ uk) ∧ (Instr.findAsking kt uk l i).run P w = .ok none w)
  | [], i, _ => .inr ⟨fun e he => (by cases he), by simp [Instr.findAsking]⟩
  | e :: l, i, h => by
    obtain ⟨b, h1, h2⟩ := h e (by simp)
    cases b with
    | true => exact .inl ⟨[], e, l, rfl, (h2.1 rfl).symm, by simp [Instr.findAsking, h1]⟩
    | false =>
      have hne : e.key ≠ uk := fun x => by have := h2.2 x.symm; cases this
      rcases find_asking l (i + 1) (fun x hx => h x (by simp [hx])) with ⟨l1, e', l2, rfl, h3, h4⟩ | ⟨h3, h4⟩
      · refine .inl ⟨e :: l1, e', l2, rfl, h3, ?_⟩
        simp only [Instr.findAsking, Sem.run_bind, h1, Result.andThen_ok, Bool.false_eq_true, if_false, h4, List.length_cons]
        congr 3; omega
      · refine .inr ⟨fun x hx => ?_, ?_⟩
        · rcases List.mem_cons.1 hx with rfl | hx
          · exact hne
          · exact h3 x hx
        · simp only [Instr.findAsking, Sem.run_bind, h1, Result.andThen_ok, Bool.false_eq_true, if_false, h4]
theorem find_now {kd : TypeDesc} {uk : Value} : ∀ (l : List MapEntry) (i : Nat), (∀ e ∈ l, ∃ b, Instr.sameNow kd uk e.key = some b ∧ (b = true ↔ uk = e.key)) →
    (∃ l1 e l2, l = l1 ++ e :: l2 ∧ e.key = uk ∧ Instr.findNow kd uk l i = some (some (i + l1.length, e.val))) ∨ ((∀ e ∈ l, e.key ≠ uk) ∧ Instr.findNow kd uk l i = some none)
  | [], i, _ => .inr ⟨fun e he => (by cases he), rfl⟩
  | e :: l, i, h => by
    obtain ⟨b, h1, h2⟩ := h e (by simp)
    cases b with
    | true => exact .inl ⟨[], e, l, rfl, (h2.1 rfl).symm, by simp [Instr.findNow, h1]⟩
    | false =>
      have hne : e.key ≠ uk := fun x => by have := h2.2 x.symm; cases this
      rcases find_now l (i + 1) (fun x hx => h x (by simp [hx])) with ⟨l1, e', l2, rfl, h3, h4⟩ | ⟨h3, h4⟩
      · refine .inl ⟨e :: l1, e', l2, rfl, h3, ?_⟩
        simp only [Instr.findNow, h1, h4, List.length_cons]
        congr 3; omega
      · refine .inr ⟨fun x hx => ?_, by simp only [Instr.findNow, h1, h4]⟩
        rcases List.mem_cons.1 hx with rfl | hx
        · exact hne
        · exact h3 x hx
theorem sameC_text {n : Nat} {a b : Value} {r : Bool} (h : sameC (n + 2) a b = some r) : ∃ x y, a = .string x ∧ b = .string y ∧ (x.toList == y.toList) = r := by
  cases a <;> cases b <;> first | exact ⟨_, _, rfl, rfl, Option.some.inj h⟩ | cases h
theorem sameC_iff {k : Nat} {a b : Value} {r : Bool} (h : sameC k a b = some r) : (r = true ↔ a = b) ∧ ∀ n, Instr.sameBits n a a = true := by
  match k, h with
  | 0, h => obtain ⟨x, y, rfl, rfl, rfl⟩ := sameC_bool h; exact ⟨by simp, fun n => by cases n <;> simp [Instr.sameBits]⟩
  | 1, h => obtain ⟨k, x, y, rfl, rfl, rfl⟩ := sameC_int h; exact ⟨by simp, fun n => by cases n <;> simp [Instr.sameBits]⟩
  | n + 2, h =>
    obtain ⟨x, y, rfl, rfl, rfl⟩ := sameC_text h
    refine ⟨?_, fun n => ?_⟩
    · rw [beq_iff_eq, ByteArray.toList_eq, ByteArray.toList_eq]
      exact ⟨fun e => by obtain ⟨⟨l⟩⟩ := x; obtain ⟨⟨m⟩⟩ := y; simp at e; rw [e], fun e => by cases e; rfl⟩
    · have : (x == x) = true := by rw [beq_toListBytes]; simp
      cases n <;> exact this
theorem eqCs_same : ∀ {ks : List Nat} {l m : List AV} {xs ys : List Value} {r : Bool}, (eqCs ks).f l m = some r → concs ρ l = some xs → concs ρ m = some ys → (r = true ↔ xs = ys) ∧ (r = true → ∀ x ∈ xs, ∀ n, Instr.sameBits n x x = true)
  | [], l, m, xs, ys, r, h, hx, hy => by
    have h' : cL l (cL m (some true) fun _ _ => none) (fun _ _ => none) = some r := h
    cases l with
    | cons a l => cases h'
    | nil =>
      cases m with
      | cons b m => cases h'
      | nil =>
        cases concs_nil hx; cases concs_nil hy; cases h'
        exact ⟨⟨fun _ => rfl, fun _ => rfl⟩, fun _ x hx => by cases hx⟩
  | k :: ks, l, m, xs, ys, r, h, hx, hy => by
    have h' : cL l none (fun a l => cL m none fun b m => cO ((eqK k).f a b) none fun r => cB r ((eqCs ks).f l m) (some false)) = some r := h
    cases l with
    | nil => cases h'
    | cons a l =>
    cases m with
    | nil => cases h'
    | cons b m =>
    obtain ⟨ux, qx, rfl, hx1, hx2⟩ := concs_cons hx
    obtain ⟨uy, qy, rfl, hy1, hy2⟩ := concs_cons hy
    have h'' : cO ((eqK k).f a b) none (fun r => cB r ((eqCs ks).f l m) (some false)) = some r := h'
    obtain ⟨r1, h1, h2⟩ := cO_some' h''
    obtain ⟨s1, s2⟩ := sameC_iff (eqK_ok h1 hx1 hy1)
    cases r1 with
    | false =>
      cases h2
      refine ⟨⟨fun x => (by cases x), fun e => ?_⟩, fun x => (by cases x)⟩
      cases e
      exact absurd (s1.2 rfl) (by simp)
    | true =>
      obtain ⟨i1, i2⟩ := eqCs_same (ks := ks) h2 hx2 hy2
      have e1 := s1.1 rfl
      subst e1
      refine ⟨⟨fun e => by rw [i1.1 e], fun e => i1.2 (by cases e; rfl)⟩, fun e x hx n => ?_⟩
      rcases List.mem_cons.1 hx with rfl | hx
      · exact s2 n
      · exact i2 e x hx n
theorem bits_agg {xs : List Value} (h : ∀ x ∈ xs, ∀ n, Instr.sameBits n x x = true) : Instr.sameBits 10000 (.agg xs.toArray) (.agg xs.toArray) = true := by
  show (xs.toArray.size == xs.toArray.size && (xs.toArray.toList.zip xs.toArray.toList).all fun (x, y) => Instr.sameBits 9999 x y) = true
  rw [beq_self_eq_true, Bool.true_and, List.all_eq_true]
  rintro ⟨x, y⟩ hxy
  have : x = y ∧ x ∈ xs := by
    clear h
    induction xs with
    | nil => simp at hxy
    | cons a t ih =>
      simp only [List.zip_cons_cons, List.mem_cons, Prod.mk.injEq] at hxy
      rcases hxy with ⟨rfl, rfl⟩ | hxy
      · exact ⟨rfl, by simp⟩
      · obtain ⟨h1, h2⟩ := ih hxy; exact ⟨h1, by simp [h2]⟩
  obtain ⟨rfl, hm⟩ := this
  exact h x hm 9999
theorem flat_key {kt : TypeId} {ks : List Nat} {l : List AV} {xs : List Value} (hk : flatT P kt = some ks) (ha : aggT P kt = some true) (hu : (∃ fs, P.underlying kt = some (.struct fs)) ∨ ∃ n e, P.underlying kt = some (.array n e))
    (hl : l.length = ks.length) (hx : concs ρ l = some xs) : KeyLaw P ρ w kt (fun x y => vAgg x none fun a => vAgg y none fun b => (eqCs ks).f a b) (.agg l) (.agg xs.toArray) := by
  obtain ⟨L, n, h1, h2, h3, h4, h5, h6⟩ := flatT_some hk
  have hxl := concs_length hx
  have hkl : ks.length = n := by rw [← h5, List.length_map, h6]
  refine ⟨fun em => ?_, fun {y uy b} he hy => ?_, fun {y uy} he hy => ?_, fun es hes => ?_⟩
  · refine check_flat 20 kt 0 L h1 (10000 - 20) _ xs.toArray ?_ fun x hx => ?_
    · unfold LiesV; rw [ha]; exact ⟨xs.toArray, n, rfl, h2, fun i _ => by rw [Nat.zero_add]⟩
    · have : x.1 ∈ L.map (·.1) := List.mem_map_of_mem hx
      rw [h4, List.mem_range'_1] at this
      rw [List.getElem?_toArray, List.getElem?_eq_getElem (by omega)]; rfl
  · have he' : vAgg y none (fun b => (eqCs ks).f l b) = some b := he
    obtain ⟨m, rfl, h7⟩ := vAgg_some he'
    obtain ⟨ys, rfl, hys⟩ := conc_agg hy
    rw [(eqCs_same h7 hx hys).1]
    exact ⟨fun e => by rw [e], fun e => by simpa using e⟩
  · have he' : vAgg y none (fun b => (eqCs ks).f l b) = some true := he
    obtain ⟨m, rfl, h7⟩ := vAgg_some he'
    obtain ⟨ys, rfl, hys⟩ := conc_agg hy
    exact bits_agg ((eqCs_same h7 hx hys).2 rfl)
  · have hask := find_asking (P := P) (w := w) (kt := kt) (uk := .agg xs.toArray) es 0 (fun e he => by
      obtain ⟨y, b, hy, hb⟩ := hes e he
      have he' : vAgg y none (fun b => (eqCs ks).f l b) = some b := hb
      obtain ⟨m, rfl, h7⟩ := vAgg_some he'
      obtain ⟨ys, h8, hys⟩ := conc_agg hy
      rw [h8]
      refine ⟨b, flat_equal hk ha h7 hx hys, ?_⟩
      rw [(eqCs_same h7 hx hys).1]
      exact ⟨fun e => by rw [e], fun e => by simpa using e⟩)
    have hfind : (Instr.findKey kt (.agg xs.toArray) es).run P w = (Instr.findAsking kt (.agg xs.toArray) es 0).run P w := by
      rcases hu with ⟨fs, hu⟩ | ⟨nn, e, hu⟩ <;> cases es <;> simp [Instr.findKey, run_underlying hu, Instr.findNow, Instr.sameNow, Instr.findAsking]
    rw [hfind]
    rcases hask with ⟨l1, e, l2, q1, q2, q3⟩ | ⟨q1, q2⟩
    · exact .inl ⟨l1, e, l2, q1, q2, by rw [q3, Nat.zero_add]⟩
    · exact .inr ⟨q1, q2⟩
theorem key_law {kt : TypeId} {eq : Cl (AV → AV → Option Bool)} {ok : Cl (AV → Bool)} {k : AV} {uk : Value} (h : keyK P kt = some (eq, ok)) (hk : ok.f k = true) (hu : conc ρ k = some uk) : KeyLaw P ρ w kt eq.f k uk := by
  unfold keyK at h
  split at h
  · rename_i fs hd
    split at h
    · rename_i ks hf
      cases h
      have hk' : vAgg k false (fun a => Nat.beq (len a) ks.length) = true := hk
      cases k with
      | agg l =>
        obtain ⟨xs, rfl, hx⟩ := conc_agg hu
        have : Nat.beq (len l) ks.length = true := hk'
        rw [Nat.beq_eq, len_eq] at this
        exact flat_key hf (by simp [aggT, hd]) (.inl ⟨fs, hd⟩) this hx
      | _ => cases hk'
    · cases h
  · rename_i n e hd
    split at h
    · rename_i ks hf
      cases h
      have hk' : vAgg k false (fun a => Nat.beq (len a) ks.length) = true := hk
      cases k with
      | agg l =>
        obtain ⟨xs, rfl, hx⟩ := conc_agg hu
        have : Nat.beq (len l) ks.length = true := hk'
        rw [Nat.beq_eq, len_eq] at this
        exact flat_key hf (by simp [aggT, hd]) (.inr ⟨n, e, hd⟩) this hx
      | _ => cases hk'
    · cases h
  · rename_i kd hd
    cases h
    have hk' : vInt k false (fun _ _ => true) = true := hk
    cases k with
    | int kk n =>
      cases conc_int hu
      refine ⟨fun em => ?_, fun {y uy b} he hy => ?_, fun {y uy} he hy => ?_, fun es hes => ?_⟩
      · suffices H : ∀ d, (Instr.checkKey em (d + 1) kt (.int kk n)).run P w = .ok () w from H 9999
        intro d; simp [Instr.checkKey, run_underlying hd]
      · exact (sameC_iff (eqK_ok (k := 1) he hu hy)).1
      · exact (sameC_iff (eqK_ok (k := 1) he hu hy)).2 10000
      · rcases find_now (kd := .int kd) (uk := .int kk n) es 0 (fun e he => by
          obtain ⟨y, b, hy, hb⟩ := hes e he
          have h1 := eqK_ok (k := 1) hb hu hy
          obtain ⟨k', a, c, h2, h3, h4⟩ := sameC_int h1
          refine ⟨b, ?_, (sameC_iff h1).1⟩
          rw [h2, h3]
          simp only [Instr.sameNow, if_true, h4]) with ⟨l1, e, l2, q1, q2, q3⟩ | ⟨q1, q2⟩
        · refine .inl ⟨l1, e, l2, q1, q2, ?_⟩
          rw [Nat.zero_add] at q3
          simp [Instr.findKey, run_underlying hd, q3]
        · refine .inr ⟨q1, ?_⟩
          simp [Instr.findKey, run_underlying hd, q2]
    | _ => cases hk'
  · rename_i hd
    cases h
    have hk' : vTx k false (fun _ => true) (fun _ _ => true) = true := hk
    have hs : ∃ s, uk = .string s := by
      cases k with
      | str l => obtain ⟨s, e, _⟩ := conc_str hu; exact ⟨s, e⟩
      | rstr n c => exact ⟨_, (conc_rstr hu).1⟩
      | _ => cases hk'
    obtain ⟨s, rfl⟩ := hs
    refine ⟨fun em => ?_, fun {y uy b} he hy => ?_, fun {y uy} he hy => ?_, fun es hes => ?_⟩
    · suffices H : ∀ d, (Instr.checkKey em (d + 1) kt (.string s)).run P w = .ok () w from H 9999
      intro d; simp [Instr.checkKey, run_underlying hd]
    · exact (sameC_iff (eqK_ok (k := 2) he hu hy)).1
    · exact (sameC_iff (eqK_ok (k := 2) he hu hy)).2 10000
    · rcases find_now (kd := .string) (uk := .string s) es 0 (fun e he => by
        obtain ⟨y, b, hy, hb⟩ := hes e he
        have h1 := eqK_ok (k := 2) hb hu hy
        obtain ⟨a, c, h2, h3, h4⟩ := sameC_text h1
        refine ⟨b, ?_, (sameC_iff h1).1⟩
        rw [h2, h3]
        simp only [Instr.sameNow, ← h4, beq_toListBytes]) with ⟨l1, e, l2, q1, q2, q3⟩ | ⟨q1, q2⟩
      · refine .inl ⟨l1, e, l2, q1, q2, ?_⟩
        rw [Nat.zero_add] at q3
        simp [Instr.findKey, run_underlying hd, q3]
      · refine .inr ⟨q1, ?_⟩
        simp [Instr.findKey, run_underlying hd, q2]
  · cases h
end
end Go.Proofs.YtfmaapbibmnfgaaGreatDoor.Ev
namespace Go.Proofs.YtfmaapbibmnfgaaGreatDoor.Ev
variable [Vr]
section
variable {P : Program} {ρ : Rho} {S : AS} {w : World}

/-! ### Entries -/
theorem findA_ok {eq : AV → AV → Option Bool} {k : AV} : ∀ {es : List Ent} {q : Option Ent}, findA eq k es = some q → (∀ x ∈ es, ∃ b, eq k x.key = some b) ∧
    (match q with | none => ∀ x ∈ es, eq k x.key = some false | some x => x ∈ es ∧ eq k x.key = some true)
  | [], q, h => by
    have : q = none := (Option.some.inj h).symm
    subst this; exact ⟨fun x hx => (by cases hx), fun x hx => (by cases hx)⟩
  | x :: es, q, h => by
    have h' : cO (eq k x.key) none (fun b => cO (findA eq k es) none fun q => cB b (some (some x)) (some q)) = some q := h
    obtain ⟨b, h1, h2⟩ := cO_some' h'
    obtain ⟨q', h3, h4⟩ := cO_some' h2
    obtain ⟨i1, i2⟩ := findA_ok h3
    have hall : ∀ y ∈ x :: es, ∃ b, eq k y.key = some b := fun y hy => by
      rcases List.mem_cons.1 hy with rfl | hy
      · exact ⟨b, h1⟩
      · exact i1 y hy
    refine ⟨hall, ?_⟩
    cases b with
    | true => cases h4; exact ⟨by simp, h1⟩
    | false =>
      cases h4
      cases q with
      | none =>
        intro y hy
        rcases List.mem_cons.1 hy with rfl | hy
        · exact h1
        · exact i2 y hy
      | some y => exact ⟨by simp [i2.1], i2.2⟩
theorem insA_split (k v : AV) (i : Nam) : ∀ (es : List Ent), ∃ A B, es = A ++ B ∧ insA k v i es = A ++ ⟨k, v, i⟩ :: B
  | [] => ⟨[], [], rfl, rfl⟩
  | x :: es => by
    have h : insA k v i (x :: es) = cB (ltK k x.key) (⟨k, v, i⟩ :: x :: es) (x :: insA k v i es) := rfl
    cases c : ltK k x.key with
    | true => rw [c] at h; exact ⟨[], x :: es, rfl, h⟩
    | false =>
      rw [c] at h
      obtain ⟨A, B, h1, h2⟩ := insA_split k v i es
      refine ⟨x :: A, B, by rw [h1]; rfl, ?_⟩
      rw [h]
      show x :: insA k v i es = _
      rw [h2]; rfl
theorem setSA_split {i : Nam} {v : AV} : ∀ {es es' : List Ent}, setSA i v es = some es' → ∃ A x B, es = A ++ x :: B ∧ x.id.n = i.n ∧ es' = A ++ ⟨x.key, v, x.id⟩ :: B
  | [], es', h => by cases h
  | x :: es, es', h => by
    have h' : cB (Nat.beq x.id.n i.n) (some (⟨x.key, v, x.id⟩ :: es)) (cO (setSA i v es) none fun q => some (x :: q)) = some es' := h
    cases c : Nat.beq x.id.n i.n with
    | true => rw [c] at h'; rw [Nat.beq_eq] at c; cases h'; exact ⟨[], x, es, rfl, c, rfl⟩
    | false =>
      rw [c] at h'
      have h'' : cO (setSA i v es) none (fun q => some (x :: q)) = some es' := h'
      obtain ⟨q, h1, h2⟩ := cO_some' h''
      cases h2
      obtain ⟨A, y, B, e1, e2, e3⟩ := setSA_split h1
      exact ⟨x :: A, y, B, by rw [e1]; rfl, e2, by rw [e3]; rfl⟩
theorem delA_split {i : Nam} : ∀ {es es' : List Ent}, delA i es = some es' → ∃ A x B, es = A ++ x :: B ∧ x.id.n = i.n ∧ es' = A ++ B
  | [], es', h => by cases h
  | x :: es, es', h => by
    have h' : cB (Nat.beq x.id.n i.n) (some es) (cO (delA i es) none fun q => some (x :: q)) = some es' := h
    cases c : Nat.beq x.id.n i.n with
    | true => rw [c] at h'; rw [Nat.beq_eq] at c; cases h'; exact ⟨[], x, es, rfl, c, rfl⟩
    | false =>
      rw [c] at h'
      have h'' : cO (delA i es) none (fun q => some (x :: q)) = some es' := h'
      obtain ⟨q, h1, h2⟩ := cO_some' h''
      cases h2
      obtain ⟨A, y, B, e1, e2, e3⟩ := delA_split h1
      exact ⟨x :: A, y, B, by rw [e1]; rfl, e2, by rw [e3]; rfl⟩
theorem byId_some {i : Nam} : ∀ {es : List Ent} {x : Ent}, byId i es = some x → x ∈ es ∧ x.id.n = i.n
  | [], x, h => by cases h
  | y :: es, x, h => by
    have h' : cB (Nat.beq y.id.n i.n) (some y) (byId i es) = some x := h
    cases c : Nat.beq y.id.n i.n with
    | true => rw [c] at h'; rw [Nat.beq_eq] at c; cases h'; exact ⟨by simp, c⟩
    | false => rw [c] at h'; obtain ⟨h1, h2⟩ := byId_some h'; exact ⟨by simp [h1], h2⟩
theorem All2.append {α β : Type} {R : α → β → Prop} : ∀ {a b : List α} {m : List β}, All2 R (a ++ b) m → ∃ m1 m2, m = m1 ++ m2 ∧ All2 R a m1 ∧ All2 R b m2
  | [], b, m, h => ⟨[], m, rfl, .nil, h⟩
  | x :: a, b, m, h => by
    cases h with
    | cons h t =>
      obtain ⟨m1, m2, rfl, h1, h2⟩ := All2.append t
      exact ⟨_ :: m1, m2, rfl, .cons h h1, h2⟩
theorem All2.join {α β : Type} {R : α → β → Prop} {a b : List α} {m1 m2 : List β} (h1 : All2 R a m1) (h2 : All2 R b m2) : All2 R (a ++ b) (m1 ++ m2) := by
  induction h1 with
  | nil => exact h2
  | cons h _ ih => exact .cons h ih
theorem All2.mem {α β : Type} {R : α → β → Prop} {a : List α} {m : List β} (h : All2 R a m) {x : α} (hx : x ∈ a) : ∃ y, y ∈ m ∧ R x y := by
  induction h with
  | nil => cases hx
  | cons h _ ih =>
    rcases List.mem_cons.1 hx with rfl | hx
    · exact ⟨_, by simp, h⟩
    · obtain ⟨y, h1, h2⟩ := ih hx; exact ⟨y, by simp [h1], h2⟩
theorem All2.mem' {α β : Type} {R : α → β → Prop} {a : List α} {m : List β} (h : All2 R a m) {y : β} (hy : y ∈ m) : ∃ x, x ∈ a ∧ R x y := by
  induction h with
  | nil => cases hy
  | cons h _ ih =>
    rcases List.mem_cons.1 hy with rfl | hy
    · exact ⟨_, by simp, h⟩
    · obtain ⟨x, h1, h2⟩ := ih hy; exact ⟨x, by simp [h1], h2⟩
theorem nodup_inj {α β : Type} {f : α → β} : ∀ {l : List α}, (l.map f).Nodup → ∀ {a b : α}, a ∈ l → b ∈ l → f a = f b → a = b
  | [], _, a, b, ha, _, _ => by cases ha
  | x :: l, h, a, b, ha, hb, e => by
    rw [List.map_cons, List.nodup_cons] at h
    rcases List.mem_cons.1 ha with ha1 | ha1 <;> rcases List.mem_cons.1 hb with hb1 | hb1
    · rw [ha1, hb1]
    · exact absurd (by rw [← ha1, e]; exact List.mem_map_of_mem hb1) h.1
    · exact absurd (by rw [← hb1, ← e]; exact List.mem_map_of_mem ha1) h.1
    · exact nodup_inj h.2 ha1 hb1 e
theorem modify_split {α : Type} (f : α → α) (e : α) (l2 : List α) : ∀ l1 : List α, (l1 ++ e :: l2).modify l1.length f = l1 ++ f e :: l2
  | [] => by simp
  | a :: l1 => by simp [modify_split f e l2 l1]
theorem eraseIdx_split {α : Type} (e : α) (l2 : List α) : ∀ l1 : List α, (l1 ++ e :: l2).eraseIdx l1.length = l1 ++ l2
  | [] => by simp
  | a :: l1 => by simp [eraseIdx_split e l2 l1]
/-- A map's block. -/
theorem map_of (hs : Sat P ρ S w) {b : Nam} {es : List Ent} {clk : Nat} (ho : S.at b.p = .map es clk) {g off cap : Nat} (hb : look ρ b = some (.blk g off cap)) : ∃ l, w.heap[g]? = some (.map l clk) ∧ relM ρ g es clk l.toList := by
  have := hs.obj b.p
  rw [ho] at this
  obtain ⟨g', off', cap', l, h1, h2, h3⟩ := this
  rw [look_path hb] at h1
  cases h1
  exact ⟨l, h2, h3⟩
theorem run_getMap {g : Nat} {l : Array MapEntry} {c : Nat} (h : w.heap[g]? = some (.map l c)) : (getObj g).run P w = .ok (.map l c) w := by simp only [getObj, Sem.run, h]
theorem run_setMap {g : Nat} {l : Array MapEntry} {c : Nat} (h : w.heap[g]? = some (.map l c)) (o : Obj) : (setObj g o).run P w = .ok () { w with heap := w.heap.setIfInBounds g o } := by simp only [setObj, Sem.run, h]
/-- A map is written. -/
theorem Sat.setMap (hs : Sat P ρ S w) {ρ' : Rho} {S' : AS} {b : Nam} {es es' : List Ent} {clk clk' : Nat} {g off cap : Nat} {l l' : Array MapEntry} (ho : S.at b.p = .map es clk) (hb : look ρ b = some (.blk g off cap)) (hl : w.heap[g]? = some (.map l clk))
    (hle : Le ρ ρ') (hnew : ∀ p t, ρ' p = some t → ρ p = some t ∨ (S.at p = .free ∧ S'.at p = .dead ∧ ∃ k, t = .stp g k ∧ ∀ q, ρ' q = some (.stp g k) → q = p))
    (hS : ∀ p, p ≠ b.p → S'.at p = S.at p ∨ (S.at p = .free ∧ S'.at p = .dead ∧ ∃ t, ρ' p = some t)) (hSb : S'.at b.p = .map es' clk') (htr : Tr S S') (hrel : relM ρ' g es' clk' l'.toList) (hclk : ∀ p k, ρ' p = some (.stp g k) → k < clk') :
    Sat P ρ' S' { w with heap := w.heap.setIfInBounds g (.map l' clk') } ∧ Ext ρ S w ρ' S' { w with heap := w.heap.setIfInBounds g (.map l' clk') } := by
  have hlt : g < w.heap.size := (Array.getElem?_eq_some_iff.1 hl).1
  have h1 : (w.heap.setIfInBounds g (.map l' clk'))[g]? = some (.map l' clk') := by rw [Array.getElem?_setIfInBounds_self_of_lt hlt]
  refine hs.upd (w' := { w with heap := w.heap.setIfInBounds g (.map l' clk') }) (look_path hb) (by rw [ho]; exact trivial) (by rw [hSb]; exact trivial) hle hnew hS htr ?_ (by simp) (fun g' hg => Array.getElem?_setIfInBounds_ne (Ne.symm hg)) ?_ rfl rfl rfl
  · rw [hSb]; exact ⟨g, off, cap, l', hle _ _ (look_path hb), h1, hrel⟩
  · intro es2 c hc p k hp
    rw [h1] at hc; cases hc
    exact hclk p k hp
theorem relM.vals {g clk : Nat} {es : List Ent} {l : List MapEntry} (h : relM ρ g es clk l) {x : Ent} (hx : x ∈ es) : ∃ e, e ∈ l ∧ relE ρ g x e := by
  obtain ⟨m, h1, h2⟩ := h.perm
  obtain ⟨e, h3, h4⟩ := h1.mem hx
  exact ⟨e, h2.mem_iff.1 h3, h4⟩
theorem relM.ents {g clk : Nat} {es : List Ent} {l : List MapEntry} (h : relM ρ g es clk l) {e : MapEntry} (he : e ∈ l) : ∃ x, x ∈ es ∧ relE ρ g x e := by
  obtain ⟨m, h1, h2⟩ := h.perm
  exact h1.mem' (h2.mem_iff.2 he)
/-- What is found in both. -/
theorem found_both {kt : TypeId} {eq : AV → AV → Option Bool} {k : AV} {uk : Value} (K : KeyLaw P ρ w kt eq k uk) {g clk : Nat} {es : List Ent} {l : List MapEntry} (h : relM ρ g es clk l) {q : Option Ent} (hq : findA eq k es = some q) :
    (q = none ∧ (∀ e ∈ l, e.key ≠ uk) ∧ (Instr.findKey kt uk l).run P w = .ok none w) ∨
      ∃ x l1 e l2, q = some x ∧ x ∈ es ∧ eq k x.key = some true ∧ l = l1 ++ e :: l2 ∧ e.key = uk ∧ relE ρ g x e ∧ (Instr.findKey kt uk l).run P w = .ok (some (l1.length, e.val)) w := by
  obtain ⟨h1, h2⟩ := findA_ok hq
  have hall : ∀ e ∈ l, ∃ y b, conc ρ y = some e.key ∧ eq k y = some b := fun e he => by
    obtain ⟨x, hx, hr⟩ := h.ents he
    obtain ⟨b, hb⟩ := h1 x hx
    exact ⟨x.key, b, hr.key, hb⟩
  cases q with
  | none =>
    have hne : ∀ e ∈ l, e.key ≠ uk := fun e he e1 => by
      obtain ⟨x, hx, hr⟩ := h.ents he
      have := (K.same (h2 x hx) hr.key).2 e1.symm
      cases this
    rcases K.find l hall with ⟨l1, e, l2, rfl, h3, _⟩ | ⟨_, h4⟩
    · exact absurd h3 (hne e (by simp))
    · exact .inl ⟨rfl, hne, h4⟩
  | some x =>
    obtain ⟨h3, h4⟩ := h2
    obtain ⟨e0, he0, hr⟩ := h.vals h3
    have hk0 := (K.same h4 hr.key).1 rfl
    rcases K.find l hall with ⟨l1, e, l2, rfl, h5, h6⟩ | ⟨h5, _⟩
    · have : e = e0 := nodup_inj h.keys (by simp) he0 (by rw [h5, hk0])
      subst this
      exact .inr ⟨x, l1, e, l2, rfl, h3, h4, rfl, h5, hr, h6⟩
    · exact absurd hk0.symm (h5 e0 he0)
theorem lookup_ok (hs : Sat P ρ S w) {ty : TypeId} {two : Bool} {m k : AV} {um uk : Value} (hm : conc ρ m = some um) (hk : conc ρ k = some uk) : AN.okV P ρ S w ((Instr.lookup ty um uk two).run P w) ((lookupA P ty two).f m k S) := by
  unfold lookupA
  split
  · rename_i kt e hu
    split
    · rename_i eq ok z hkk hz
      refine cB_ok (fun hok => ?_) fun _ => trivial
      have K := key_law (w := w) hkk hok hk
      obtain ⟨uz, hzr, hzc⟩ := zero_run hz (ρ := ρ)
      have fin : ∀ {v : AV} {u : Value} {bb : Bool} {r : Result Value}, conc ρ v = some u → r = .ok (if two then .tuple #[u, .bool bb] else u) w → AN.okV P ρ S w r (.get (cB two (.tuple [v, .bool bb]) v)) := fun {v u bb r} hv hr => by
        subst hr
        cases two with
        | true => exact ⟨.tuple #[u, .bool bb], by show conc ρ (.tuple [v, .bool bb]) = _; simp [conc, concs, hv], rfl⟩
        | false => exact ⟨u, hv, rfl⟩
      refine vMap_ok trivial (fun e => ?_) fun b e => ?_
      · subst e
        cases conc_nilm hm
        refine fin hzc ?_
        have h1 : (Instr.findKey kt uk []).run P w = .ok none w := by
          rcases K.find [] (fun e he => by cases he) with ⟨l1, e, l2, h, _⟩ | ⟨_, h⟩
          · simp at h
          · exact h
        simp [Instr.lookup, run_underlying hu, K.check, h1, hzr]
      · subst e
        refine oMap_ok trivial fun es clk ho => ?_
        rw [getA_eq] at ho
        obtain ⟨g, off, cap, hb, rfl⟩ := conc_map hm
        obtain ⟨l, hl, hr⟩ := map_of hs ho hb
        refine cO_ok trivial fun q hq => ?_
        rcases found_both K hr hq with ⟨rfl, _, h1⟩ | ⟨x, l1, e, l2, rfl, _, _, h2, _, h3, h1⟩
        · refine fin hzc ?_
          simp [Instr.lookup, run_underlying hu, run_getMap hl, K.check, h1, hzr]
        · refine fin h3.val ?_
          simp [Instr.lookup, run_underlying hu, run_getMap hl, K.check, h1]
    · exact trivial
  · exact trivial
theorem relM.set {g clk : Nat} {es es' : List Ent} {l1 l2 : List MapEntry} {e : MapEntry} (h : relM ρ g es clk (l1 ++ e :: l2)) {x : Ent} (hx : x ∈ es) (hr : relE ρ g x e) {v : AV} {uv : Value} (hv : conc ρ v = some uv)
    (hset : setSA x.id v es = some es') : relM ρ g es' clk (l1 ++ { e with val := uv } :: l2) := by
  obtain ⟨A, y, B, rfl, e2, rfl⟩ := setSA_split hset
  obtain ⟨m, h1, h2⟩ := h.perm
  obtain ⟨mA, mB', rfl, hA, hB'⟩ := All2.append h1
  cases hB' with
  | @cons _ ey _ mB hy hB =>
  have hxy : y.id = x.id := nam_eq hy.id hr.id e2
  have hborn : ey.born = e.born := by
    have h3 := hy.id
    rw [hxy, hr.id] at h3
    exact (Tgt.stp.inj (Option.some.inj h3)).2.symm
  have hmem : ey ∈ l1 ++ e :: l2 := h2.mem_iff.1 (by simp)
  have : ey = e := nodup_inj h.born hmem (by simp) hborn
  subst this
  refine ⟨⟨mA ++ { ey with val := uv } :: mB, All2.join hA (.cons ⟨hy.key, hv, hy.id⟩ hB), ?_⟩, ?_, ?_, ?_⟩
  · have p1 : (ey :: (mA ++ mB)).Perm (ey :: (l1 ++ l2)) := (List.perm_middle.symm.trans h2).trans List.perm_middle
    have p2 := (List.perm_cons ey).1 p1
    exact (List.perm_middle.trans ((List.perm_cons _).2 p2)).trans List.perm_middle.symm
  · have := h.born; simpa using this
  · intro e' he'
    rcases List.mem_append.1 he' with he' | he'
    · exact h.below e' (by simp [he'])
    · rcases List.mem_cons.1 he' with rfl | he'
      · exact h.below ey (by simp)
      · exact h.below e' (by simp [he'])
  · have := h.keys; simpa using this
theorem mapPut_ok (hs : Sat P ρ S w) {ty : TypeId} {m k v : AV} {um uk uv : Value} (hm : conc ρ m = some um) (hk : conc ρ k = some uk) (hv : conc ρ v = some uv) :
    AN.okU P ρ S w ((Instr.mapUpdate ty um uk uv).run P w) ((mapPutA P ty).f m k v S) := by
  unfold mapPutA
  split
  · rename_i kt e hu
    split
    · rename_i eq ok hkk
      refine cB_ok (fun hok => ?_) fun _ => trivial
      have K := key_law (w := w) hkk hok hk
      refine vMap_ok trivial (fun _ => trivial) fun b e => ?_
      subst e
      refine oMap_ok trivial fun es clk ho => ?_
      rw [getA_eq] at ho
      obtain ⟨g, off, cap, hb, rfl⟩ := conc_map hm
      obtain ⟨l, hl, hr⟩ := map_of hs ho hb
      refine cO_ok trivial fun q hq => ?_
      rcases found_both K hr hq with ⟨rfl, hne, h1⟩ | ⟨x, l1, e, l2, rfl, hx, hxe, h2, hek, h3, h1⟩
      · simp only [cO_none]
        refine newA_okQ trivial fun i hi hf => ?_
        have hib : i.p ≠ b.p := fun e => by rw [e, ho] at hf; cases hf
        have hn : ρ i.p = none := by have := hs.obj i.p; rw [hf] at this; exact this
        have hle : Le ρ (ρ.set i.p (.stp g clk)) := Rho.set_le hn
        have hat1 : ∀ p, (AS.at ⟨hput S.top i.p .dead, S.lay, logA S i, Nat.add S.next 1⟩ p) = if p = i.p then .dead else S.at p := at_put (by intro e; cases e) rfl
        have hat : ∀ p, (putA ⟨hput S.top i.p .dead, S.lay, logA S i, Nat.add S.next 1⟩ b (.map (insA k v i es) (Nat.add clk 1))).at p = if p = b.p then .map (insA k v i es) (clk + 1) else if p = i.p then .dead else S.at p := fun p => by
          rw [at_putA (by intro e; cases e), hat1]
        obtain ⟨A, B, hes, hins⟩ := insA_split k v i es
        have hnewE : relE (ρ.set i.p (.stp g clk)) g ⟨k, v, i⟩ { key := uk, val := uv, born := clk } := ⟨conc_mono hle _ hk, conc_mono hle _ hv, look_set hi _⟩
        have hrel : relM (ρ.set i.p (.stp g clk)) g (insA k v i es) (clk + 1) (l.push { key := uk, val := uv, born := clk }).toList := by
          have hr' := hr.mono hle
          obtain ⟨mm, q1, q2⟩ := hr'.perm
          rw [hes] at q1
          obtain ⟨mA, mB, rfl, hA, hB⟩ := All2.append q1
          rw [Array.toList_push, hins]
          refine ⟨⟨mA ++ { key := uk, val := uv, born := clk } :: mB, All2.join hA (.cons hnewE hB), ?_⟩, ?_, ?_, ?_⟩
          · exact (List.perm_middle.trans ((List.perm_cons _).2 q2)).trans (List.perm_append_singleton _ _).symm
          · rw [List.map_append, List.nodup_append]
            refine ⟨hr.born, by simp, fun a ha c hc e => ?_⟩
            obtain ⟨e', he', rfl⟩ := List.mem_map.1 ha
            simp at hc
            have := hr.below e' he'
            omega
          · intro e' he'
            rcases List.mem_append.1 he' with he' | he'
            · have := hr.below e' he'; omega
            · simp at he'; subst he'; exact Nat.lt_succ_self _
          · rw [List.map_append, List.nodup_append]
            refine ⟨hr.keys, by simp, fun a ha c hc e => ?_⟩
            obtain ⟨e', he', rfl⟩ := List.mem_map.1 ha
            simp at hc
            exact hne e' he' (by rw [e, hc])
        obtain ⟨c1, c2⟩ := hs.setMap (S' := putA ⟨hput S.top i.p .dead, S.lay, logA S i, Nat.add S.next 1⟩ b (.map (insA k v i es) (Nat.add clk 1))) ho hb hl hle (fun p t hp => by
            by_cases e : p = i.p
            · subst e
              rw [Rho.set_same] at hp
              cases hp
              refine .inr ⟨hf, by rw [hat, if_neg hib, if_pos rfl], clk, rfl, fun q hq => ?_⟩
              by_cases e2 : q = i.p
              · exact e2
              · rw [Rho.set_other _ _ e2] at hq
                have := (hs.stp _ _ _ hq).2 _ _ hl
                omega
            · rw [Rho.set_other _ _ e] at hp; exact .inl hp)
          (fun p hp => by
            by_cases e : p = i.p
            · subst e; exact .inr ⟨hf, by rw [hat, if_neg hib, if_pos rfl], _, Rho.set_same _ _ _⟩
            · exact .inl (by rw [hat, if_neg hp, if_neg e]))
          (by rw [hat, if_pos rfl]) ((Tr.put rfl).trans (Tr.put rfl)) hrel (fun p kk hp => by
            by_cases e : p = i.p
            · subst e; rw [Rho.set_same] at hp; cases hp; exact Nat.lt_succ_self _
            · rw [Rho.set_other _ _ e] at hp
              have := (hs.stp _ _ _ hp).2 _ _ hl
              omega)
        refine ⟨rfl, _, _, ?_, c2, c1⟩
        simp [Instr.mapUpdate, run_underlying hu, run_getMap hl, K.check, h1, run_setMap hl]
      · simp only [cO_some]
        refine cO_ok trivial fun es' hset => ?_
        rw [h2] at hr
        have hrel := hr.set hx h3 hv hset
        have harr : (l.modify l1.length fun e => { e with key := uk, val := uv }).toList = l1 ++ { e with val := uv } :: l2 := by
          rw [Array.toList_modify, h2, modify_split]
          subst hek; rfl
        have hat : ∀ p, (putA S b (.map es' clk)).at p = if p = b.p then .map es' clk else S.at p := at_putA (by intro e; cases e)
        obtain ⟨c1, c2⟩ := hs.setMap (S' := putA S b (.map es' clk)) (l' := l.modify l1.length fun e => { e with key := uk, val := uv }) ho hb hl (Le.refl _) (fun p t hp => .inl hp) (fun p hp => .inl (by rw [hat, if_neg hp])) (by rw [hat, if_pos rfl]) (Tr.put rfl)
          (by rw [harr]; exact hrel) (fun p kk hp => (hs.stp _ _ _ hp).2 _ _ hl)
        refine ⟨rfl, _, _, ?_, c2, c1⟩
        have hbits := K.bits hxe h3.key
        have hget : l[l1.length]? = some e := by rw [← Array.getElem?_toList, h2]; simp
        have hstay : (Instr.keyThatStays (((l[l1.length]?).map (·.key)).getD uk) uk).run P w = .ok uk w := by
          rw [hget]
          simp only [Option.map_some, Option.getD_some, hek, Instr.keyThatStays, hbits, if_true, Sem.run_pure]
        simp only [Instr.mapUpdate, Sem.run_bind, run_underlying hu, Result.andThen_ok, run_getMap hl, K.check, h1, hstay, run_setMap hl]
    · exact trivial
  · exact trivial
theorem mapEntry_ok (hs : Sat P ρ S w) {ty : TypeId} {m k : AV} {um uk : Value} (hm : conc ρ m = some um) (hk : conc ρ k = some uk) :
    AN.okV P ρ S w ((Instr.mapEntry ty um uk).run P w) ((mapEntryA P ty).f m k S) := by
  unfold mapEntryA
  split
  · rename_i kt e hu
    split
    · rename_i eq ok z hkk hzv
      obtain ⟨uz, hzr, hzc⟩ := zero_run hzv (ρ := ρ)
      refine cB_ok (fun hok => ?_) fun _ => trivial
      have K := key_law (w := w) hkk hok hk
      refine vMap_ok trivial (fun _ => trivial) fun b e => ?_
      subst e
      refine oMap_ok trivial fun es clk ho => ?_
      rw [getA_eq] at ho
      obtain ⟨g, off, cap, hb, rfl⟩ := conc_map hm
      obtain ⟨l, hl, hr⟩ := map_of hs ho hb
      refine cO_ok trivial fun q hq => ?_
      rcases found_both K hr hq with ⟨rfl, hne, h1⟩ | ⟨x, l1, e, l2, rfl, hx, hxe, h2, hek, h3, h1⟩
      · simp only [cO_none]
        refine newA_okQ trivial fun i hi hf => ?_
        have hib : i.p ≠ b.p := fun e => by rw [e, ho] at hf; cases hf
        have hn : ρ i.p = none := by have := hs.obj i.p; rw [hf] at this; exact this
        have hle : Le ρ (ρ.set i.p (.stp g clk)) := Rho.set_le hn
        have hat1 : ∀ p, (AS.at ⟨hput S.top i.p .dead, S.lay, logA S i, Nat.add S.next 1⟩ p) = if p = i.p then .dead else S.at p := at_put (by intro e; cases e) rfl
        have hat : ∀ p, (putA ⟨hput S.top i.p .dead, S.lay, logA S i, Nat.add S.next 1⟩ b (.map (insA k z i es) (Nat.add clk 1))).at p = if p = b.p then .map (insA k z i es) (clk + 1) else if p = i.p then .dead else S.at p := fun p => by
          rw [at_putA (by intro e; cases e), hat1]
        obtain ⟨A, B, hes, hins⟩ := insA_split k z i es
        have hnewE : relE (ρ.set i.p (.stp g clk)) g ⟨k, z, i⟩ { key := uk, val := uz, born := clk } := ⟨conc_mono hle _ hk, conc_mono hle _ hzc, look_set hi _⟩
        have hrel : relM (ρ.set i.p (.stp g clk)) g (insA k z i es) (clk + 1) (l.push { key := uk, val := uz, born := clk }).toList := by
          have hr' := hr.mono hle
          obtain ⟨mm, q1, q2⟩ := hr'.perm
          rw [hes] at q1
          obtain ⟨mA, mB, rfl, hA, hB⟩ := All2.append q1
          rw [Array.toList_push, hins]
          refine ⟨⟨mA ++ { key := uk, val := uz, born := clk } :: mB, All2.join hA (.cons hnewE hB), ?_⟩, ?_, ?_, ?_⟩
          · exact (List.perm_middle.trans ((List.perm_cons _).2 q2)).trans (List.perm_append_singleton _ _).symm
          · rw [List.map_append, List.nodup_append]
            refine ⟨hr.born, by simp, fun a ha c hc e => ?_⟩
            obtain ⟨e', he', rfl⟩ := List.mem_map.1 ha
            simp at hc
            have := hr.below e' he'
            omega
          · intro e' he'
            rcases List.mem_append.1 he' with he' | he'
            · have := hr.below e' he'; omega
            · simp at he'; subst he'; exact Nat.lt_succ_self _
          · rw [List.map_append, List.nodup_append]
            refine ⟨hr.keys, by simp, fun a ha c hc e => ?_⟩
            obtain ⟨e', he', rfl⟩ := List.mem_map.1 ha
            simp at hc
            exact hne e' he' (by rw [e, hc])
        obtain ⟨c1, c2⟩ := hs.setMap (S' := putA ⟨hput S.top i.p .dead, S.lay, logA S i, Nat.add S.next 1⟩ b (.map (insA k z i es) (Nat.add clk 1))) ho hb hl hle (fun p t hp => by
            by_cases e : p = i.p
            · subst e
              rw [Rho.set_same] at hp
              cases hp
              refine .inr ⟨hf, by rw [hat, if_neg hib, if_pos rfl], clk, rfl, fun q hq => ?_⟩
              by_cases e2 : q = i.p
              · exact e2
              · rw [Rho.set_other _ _ e2] at hq
                have := (hs.stp _ _ _ hq).2 _ _ hl
                omega
            · rw [Rho.set_other _ _ e] at hp; exact .inl hp)
          (fun p hp => by
            by_cases e : p = i.p
            · subst e; exact .inr ⟨hf, by rw [hat, if_neg hib, if_pos rfl], _, Rho.set_same _ _ _⟩
            · exact .inl (by rw [hat, if_neg hp, if_neg e]))
          (by rw [hat, if_pos rfl]) ((Tr.put rfl).trans (Tr.put rfl)) hrel (fun p kk hp => by
            by_cases e : p = i.p
            · subst e; rw [Rho.set_same] at hp; cases hp; exact Nat.lt_succ_self _
            · rw [Rho.set_other _ _ e] at hp
              have := (hs.stp _ _ _ hp).2 _ _ hl
              omega)
        refine ⟨_, .tuple #[uz, .int .i64 clk], _, ?_, c2, c1, ?_⟩
        · simp [Instr.mapEntry, run_underlying hu, run_getMap hl, K.check, h1, hzr, run_setMap hl, goInt]
        · simp only [conc, concs, conc_mono hle _ hzc, look_set hi]
      · simp only [cO_some]
        have harr : (l.modify l1.length fun e => { e with key := uk }).toList = l1 ++ e :: l2 := by
          rw [Array.toList_modify, h2, modify_split]
          subst hek; rfl
        have hat : ∀ p, (putA S b (.map es clk)).at p = if p = b.p then .map es clk else S.at p := at_putA (by intro e; cases e)
        obtain ⟨c1, c2⟩ := hs.setMap (S' := putA S b (.map es clk)) (l' := l.modify l1.length fun e => { e with key := uk }) ho hb hl (Le.refl _) (fun p t hp => .inl hp) (fun p hp => .inl (by rw [hat, if_neg hp])) (by rw [hat, if_pos rfl]) (Tr.put rfl)
          (by rw [harr, ← h2]; exact hr) (fun p kk hp => (hs.stp _ _ _ hp).2 _ _ hl)
        refine ⟨ρ, .tuple #[e.val, .int .i64 e.born], _, ?_, c2, c1, ?_⟩
        · have hbits := K.bits hxe h3.key
          have hget : l[l1.length]? = some e := by rw [← Array.getElem?_toList, h2]; simp
          have hstay2 : (Instr.keyThatStays e.key uk).run P w = .ok uk w := by simp only [hek, Instr.keyThatStays, hbits, if_true, Sem.run_pure]
          simp only [Instr.mapEntry, Sem.run_bind, run_underlying hu, Result.andThen_ok, run_getMap hl, K.check, h1, hstay2, run_setMap hl, Sem.run_pure, hget, Option.map_some, Option.getD_some, goInt]
        · simp only [conc, concs, h3.val, h3.id]
    · exact trivial
  · exact trivial
theorem findIdx_born {k : Nat} {e : MapEntry} {l2 : List MapEntry} : ∀ {l1 : List MapEntry}, ((l1 ++ e :: l2).map (·.born)).Nodup → e.born = k → (l1 ++ e :: l2).findIdx? (fun e => (e.born : Int) == (k : Int)) = some l1.length
  | [], _, h => by simp [List.findIdx?_cons, h]
  | a :: l1, hn, h => by
    have hn' : a.born ∉ (l1 ++ e :: l2).map (·.born) ∧ ((l1 ++ e :: l2).map (·.born)).Nodup := by simpa using hn
    have hne : ¬ (a.born = k) := fun e' => hn'.1 (by rw [e', ← h]; simp)
    have hne' : ((a.born : Int) == (k : Int)) = false := by rw [beq_eq_false_iff_ne]; exact fun e => hne (Int.ofNat.inj e)
    have := findIdx_born (l2 := l2) hn'.2 h
    simp only [List.cons_append, List.findIdx?_cons, hne', this]
    simp
theorem entryStore_ok (hs : Sat P ρ S w) {ty : TypeId} {m i v : AV} {um ui uv : Value} (hm : conc ρ m = some um) (hi : conc ρ i = some ui) (hv : conc ρ v = some uv) :
    AN.okU P ρ S w ((Instr.entryStore ty um ui uv).run P w) (entryStoreA m i v S) := by
  unfold entryStoreA
  refine vMap_ok trivial (fun _ => trivial) fun b e => ?_
  subst e
  cases i with
  | stamp j =>
    show AN.okU P ρ S w _ (oMap (getA S b) .no fun es clk => cO (setSA j v es) .no fun es' => unitV (putA S b (.map es' clk)))
    refine oMap_ok trivial fun es clk ho => ?_
    rw [getA_eq] at ho
    obtain ⟨g, off, cap, hb, rfl⟩ := conc_map hm
    obtain ⟨l, hl, hr⟩ := map_of hs ho hb
    refine cO_ok trivial fun es' hset => ?_
    obtain ⟨A, y, B, hes, e2, hes'⟩ := setSA_split hset
    have hy : y ∈ es := by rw [hes]; simp
    obtain ⟨mm, q1, q2⟩ := hr.perm
    obtain ⟨e, he, hye⟩ := q1.mem hy
    have hel := q2.mem_iff.1 he
    obtain ⟨l1, l2, h2⟩ := List.append_of_mem hel
    simp only [conc] at hi
    split at hi
    · rename_i g' k hj
      cases hi
      have hid : y.id = j := nam_eq hye.id hj e2
      have hbk : e.born = k := by
        have h3 := hye.id
        rw [hid, hj] at h3
        exact (Tgt.stp.inj (Option.some.inj h3)).2.symm
      rw [h2] at hr
      have hrel := hr.set hy hye hv (by rw [hid]; exact hset)
      have harr : (l.modify l1.length fun e => { e with val := uv }).toList = l1 ++ { e with val := uv } :: l2 := by
        rw [Array.toList_modify, h2, modify_split]
      have hat : ∀ p, (putA S b (.map es' clk)).at p = if p = b.p then .map es' clk else S.at p := at_putA (by intro e; cases e)
      obtain ⟨c1, c2⟩ := hs.setMap (S' := putA S b (.map es' clk)) (l' := l.modify l1.length fun e => { e with val := uv }) ho hb hl (Le.refl _) (fun p t hp => .inl hp) (fun p hp => .inl (by rw [hat, if_neg hp])) (by rw [hat, if_pos rfl]) (Tr.put rfl)
        (by rw [harr]; exact hrel) (fun p kk hp => (hs.stp _ _ _ hp).2 _ _ hl)
      refine ⟨rfl, _, _, ?_, c2, c1⟩
      have hfi : l.findIdx? (fun e => (e.born : Int) == (k : Int)) = some l1.length := by
        have hla : l = (l1 ++ e :: l2).toArray := by rw [← h2]
        rw [hla, List.findIdx?_toArray]
        exact findIdx_born hr.born hbk
      simp only [Instr.entryStore, Sem.run_bind, Sem.run_pure, Result.andThen_ok, run_getMap hl, asInt, asIntOf, hfi, run_setMap hl]
    · cases hi
  | _ => exact trivial
theorem delete_ok (hs : Sat P ρ S w) {ats : Array TypeId} {t ty : TypeId} {m k : AV} {um uk : Value} (h0 : ats[0]? = some t) (hm : conc ρ m = some um) (hk : conc ρ k = some uk) :
    AN.okV P ρ S w ((Builtin.delete_ ats ty #[um, uk]).run P w) ((deleteA P t).f m k S) := by
  unfold deleteA
  split
  · rename_i kt e hu
    split
    · rename_i eq ok hkk
      refine cB_ok (fun hok => ?_) fun _ => trivial
      have K := key_law (w := w) hkk hok hk
      have hct : conc ρ (.tuple []) = some (.tuple #[]) := by simp [conc, concs]
      refine vMap_ok trivial (fun e => ?_) fun b e => ?_
      · subst e
        cases conc_nilm hm
        exact ⟨ρ, _, w, by simp [Builtin.delete_, h0, run_underlying hu, K.check], Ext.refl _ _ _, hs, hct⟩
      · subst e
        refine oMap_ok trivial fun es clk ho => ?_
        rw [getA_eq] at ho
        obtain ⟨g, off, cap, hb, rfl⟩ := conc_map hm
        obtain ⟨l, hl, hr⟩ := map_of hs ho hb
        refine cO_ok trivial fun q hq => ?_
        have hat : ∀ es' p, (putA S b (.map es' clk)).at p = if p = b.p then .map es' clk else S.at p := fun es' => at_putA (by intro e; cases e)
        rcases found_both K hr hq with ⟨rfl, hne, h1⟩ | ⟨x, l1, e, l2, rfl, hx, hxe, h2, hek, h3, h1⟩
        · simp only [cO_none]
          obtain ⟨c1, c2⟩ := hs.setMap (S' := S) (l' := l) (es' := es) ho hb hl (Le.refl _) (fun p t hp => .inl hp) (fun p hp => .inl rfl) ho (Tr.refl _) hr (fun p kk hp => (hs.stp _ _ _ hp).2 _ _ hl)
          exact ⟨ρ, _, _, by simp [Builtin.delete_, h0, run_underlying hu, run_getMap hl, K.check, h1, run_setMap hl], c2, c1, hct⟩
        · simp only [cO_some]
          refine cO_ok trivial fun es' hdel => ?_
          obtain ⟨A, y, B, rfl, e2, rfl⟩ := delA_split hdel
          rw [h2] at hr
          obtain ⟨mm, q1, q2⟩ := hr.perm
          obtain ⟨mA, mB', rfl, hA, hB'⟩ := All2.append q1
          cases hB' with
          | @cons _ ey _ mB hy hB =>
          have hxy : y.id = x.id := nam_eq hy.id h3.id e2
          have hborn : ey.born = e.born := by
            have h4 := hy.id
            rw [hxy, h3.id] at h4
            exact (Tgt.stp.inj (Option.some.inj h4)).2.symm
          have hmem : ey ∈ l1 ++ e :: l2 := q2.mem_iff.1 (by simp)
          have : ey = e := nodup_inj hr.born hmem (by simp) hborn
          subst this
          have hsub : (l1 ++ l2).Sublist (l1 ++ ey :: l2) := List.Sublist.append_left (List.sublist_cons_self _ _) _
          have hrel : relM ρ g (A ++ B) clk (l1 ++ l2) := by
            refine ⟨⟨mA ++ mB, All2.join hA hB, ?_⟩, hr.born.sublist (hsub.map _), fun e' he' => hr.below e' (hsub.mem he'), hr.keys.sublist (hsub.map _)⟩
            have p1 : (ey :: (mA ++ mB)).Perm (ey :: (l1 ++ l2)) := (List.perm_middle.symm.trans q2).trans List.perm_middle
            exact (List.perm_cons ey).1 p1
          have harr : (l.eraseIdxIfInBounds l1.length).toList = l1 ++ l2 := by
            rw [Array.toList_eraseIdxIfInBounds, h2, eraseIdx_split]
          obtain ⟨c1, c2⟩ := hs.setMap (S' := putA S b (.map (A ++ B) clk)) (l' := l.eraseIdxIfInBounds l1.length) ho hb hl (Le.refl _) (fun p t hp => .inl hp) (fun p hp => .inl (by rw [hat, if_neg hp])) (by rw [hat, if_pos rfl]) (Tr.put rfl)
            (by rw [harr]; exact hrel) (fun p kk hp => (hs.stp _ _ _ hp).2 _ _ hl)
          exact ⟨ρ, _, _, by simp [Builtin.delete_, h0, run_underlying hu, run_getMap hl, K.check, h1, run_setMap hl], c2, c1, hct⟩
    · exact trivial
  · exact trivial
end
end Go.Proofs.YtfmaapbibmnfgaaGreatDoor.Ev
namespace Go.Proofs.YtfmaapbibmnfgaaGreatDoor.Ev
variable [Vr]
section
variable {P : Program} {vm : Vm} {ρ : Rho} {S : AS} {w : World}

theorem new_iter (hs : Sat P ρ S w) {o : AO} {ob : Obj} {by_ : Nat} {r : Result Value} (hlive : o ≠ .free) (hrel : ∀ ρ' p heap', Le ρ ρ' → ρ' p = some (.blk w.heap.size 0 0) → heap'[w.heap.size]? = some ob → relO P ρ' heap' p o)
    (hr : r = .ok (.pointer (some ⟨w.heap.size, 0, none⟩)) { w with heap := w.heap.push ob }) : AN.okV P ρ S w r (ptrN S o by_) := by
  refine newA_okQ trivial fun i hi hf => ?_
  obtain ⟨h1, h2⟩ := hs.new (o := o) (ob := ob) (off := 0) (cap := 0) (w' := { w with heap := w.heap.push ob }) hf (at_put hlive rfl) (Tr.put rfl) rfl rfl rfl rfl fun hle => hrel _ _ _ hle (Rho.set_same _ _ _) (by simp)
  exact ⟨_, _, _, hr, h2, h1, by simp [conc, look_set hi]⟩
theorem range_ok (hs : Sat P ρ S w) {cf : Cf} {fn : FuncId} {ty : TypeId} {x : AV} {ux : Value} (hx : conc ρ x = some ux) : AN.okV P ρ S w ((Instr.range ty ux).run P w) ((rangeA P cf fn ty).f x S) := by
  unfold rangeA
  split
  · rename_i k e hu
    refine vMap_ok trivial (fun e => ?_) fun b e => ?_
    · subst e
      cases conc_nilm hx
      refine new_iter hs (ob := .mapIter none 0 #[] 0) (by intro e; cases e) (fun ρ' p heap' hle h1 h2 => ⟨_, _, _, _, _, h1, h2, rfl⟩) ?_
      simp [Instr.range, run_underlying hu]
    · subst e
      refine oMap_ok trivial fun es clk ho => ?_
      rw [getA_eq] at ho
      obtain ⟨g, off, cap, hb, rfl⟩ := conc_map hx
      obtain ⟨l, hl, hr⟩ := map_of hs ho hb
      refine new_iter hs (ob := .mapIter (some g) clk #[] clk) (by intro e; cases e) (fun ρ' p heap' hle h1 h2 => ⟨_, _, _, _, _, _, [], h1, h2, hle.look hb, .nil, rfl⟩) ?_
      simp [Instr.range, run_underlying hu, run_getMap hl]
  · exact trivial
theorem run_getObj {g : Nat} {o : Obj} (h : w.heap[g]? = some o) (hc : ∀ a t f, o ≠ .cells a t f) : (getObj g).run P w = .ok o w := by
  cases o <;> first | exact absurd rfl (hc _ _ _) | simp only [getObj, Sem.run, h]
theorem run_setObj {g : Nat} {o : Obj} (h : w.heap[g]? = some o) (hc : ∀ a t f, o ≠ .cells a t f) (o' : Obj) : (setObj g o').run P w = .ok () { w with heap := w.heap.setIfInBounds g o' } := by
  cases o <;> first | exact absurd rfl (hc _ _ _) | simp only [setObj, Sem.run, h]
theorem next_run {g gm since : Nat} {seen : Array Nat} {es : Array MapEntry} {t : TypeId} (h1 : w.heap[g]? = some (.mapIter (some gm) since seen since)) (h2 : w.heap[gm]? = some (.map es since)) (hb : ∀ e ∈ es.toList, e.born < since) :
    ((∀ e ∈ es.toList, e.born ∈ seen.toList) ∧ (Instr.next (.pointer (some ⟨g, 0, none⟩)) false t).run P w = .ok (.tuple #[.bool false]) w) ∨
      ∃ e d, e ∈ es.toList ∧ e.born ∉ seen.toList ∧ (Instr.next (.pointer (some ⟨g, 0, none⟩)) false t).run P w =
        .ok (.tuple #[.bool true, e.key, e.val]) { w with drawn := d, heap := w.heap.setIfInBounds g (.mapIter (some gm) since (seen.push e.born) since) } := by
  have e1 : (!seen.isEmpty && !es.isEmpty && es.all fun e => decide (e.born ≥ since)) = false := by
    by_cases hes : es.isEmpty = true
    · simp [hes]
    · have : es.all (fun e => decide (e.born ≥ since)) = false := by
        obtain ⟨l⟩ := es
        cases l with
        | nil => simp at hes
        | cons a l =>
          have := hb a (by simp)
          simp
          intro h; omega
      simp [this]
  have e2 : ∀ a : Array MapEntry, (∀ e ∈ a.toList, e.born < since) → a.filter (fun e => decide (e.born < since)) = a := fun a ha => by
    apply Array.ext'
    rw [Array.toList_filter]
    exact List.filter_eq_self.2 fun e he => by simpa using ha e he
  have e3 : ∀ a : Array MapEntry, (∀ e ∈ a.toList, e.born < since) → a.filter (fun e => decide (e.born ≥ since)) = #[] := fun a ha => by
    apply Array.ext'
    rw [Array.toList_filter]
    simp only [List.filter_eq_nil_iff]
    intro e he
    have := ha e he
    simp; omega
  have hleft : ∀ e ∈ (es.filter fun e => !seen.contains e.born).toList, e.born < since := fun e he => by
    rw [Array.toList_filter] at he
    exact hb e (List.mem_filter.1 he).1
  have red : (Instr.next (.pointer (some ⟨g, 0, none⟩)) false t).run P w = (do
      let left := es.filter fun e => !seen.contains e.born
      let candidates : Array (Option MapEntry) := (if left.isEmpty then #[none] else #[]) ++ (left ++ #[]).map some
      match candidates[← choose (.mapNext candidates.size)]? with
      | some (some e) => do
        setObj g (.mapIter (some gm) since (seen.push e.born) since)
        pure (.tuple #[.bool true, e.key, e.val])
      | some none => pure (.tuple #[.bool false])
      | none => stuck "Next: no such candidate" : Sem Value).run P w := by
    simp only [Instr.next, Sem.run_bind, run_getObj h1 (by intro a t f e; cases e), Result.andThen_ok, run_getMap h2, e1, Bool.false_eq_true, if_false, e2 _ hleft, e3 _ hleft]
    rfl
  rw [red]
  generalize hl : es.filter (fun e => !seen.contains e.born) = left
  cases hll : left.toList with
  | nil =>
    have hle : left = #[] := Array.ext' hll
    subst hle
    left
    refine ⟨fun e he => ?_, ?_⟩
    · have h3 : e ∉ (es.filter fun e => !seen.contains e.born).toList := by rw [hl]; simp
      rw [Array.toList_filter, List.mem_filter] at h3
      have : (!seen.contains e.born) = false := by
        cases hc : (!seen.contains e.born) with
        | false => rfl
        | true => exact absurd ⟨he, hc⟩ h3
      simpa using this
    · simp [Question.forced]
  | cons a l =>
    right
    have hne : left.isEmpty = false := by
      cases hq : left.isEmpty with
      | false => rfl
      | true => rw [Array.isEmpty_iff] at hq; subst hq; simp at hll
    have hsz : 0 < left.size := by rw [← Array.length_toList, hll]; simp
    have hmem : ∀ i (hi : i < left.size), left[i] ∈ es.toList ∧ left[i].born ∉ seen.toList := fun i hi => by
      have h3 : left[i] ∈ (es.filter fun e => !seen.contains e.born).toList := by rw [hl]; simp
      rw [Array.toList_filter, List.mem_filter] at h3
      refine ⟨h3.1, ?_⟩
      simpa using h3.2
    have hcand : ((if left.isEmpty then #[none] else #[]) ++ (left ++ #[]).map some : Array (Option MapEntry)) = left.map some := by rw [hne]; simp
    simp only [hcand, Sem.run_bind, run_choose, Array.size_map]
    have hgo : ∀ (i : Nat) (w' : World), i < left.size → w'.heap = w.heap → (match (left.map some)[i]? with
        | some (some e) => (do
          setObj g (.mapIter (some gm) since (seen.push e.born) since)
          pure (.tuple #[.bool true, e.key, e.val]) : Sem Value)
        | some none => pure (.tuple #[.bool false])
        | none => stuck "Next: no such candidate").run P w' = .ok (.tuple #[.bool true, (left[i]?.map (·.key)).getD undef, (left[i]?.map (·.val)).getD undef]) { w' with heap := w'.heap.setIfInBounds g (.mapIter (some gm) since (seen.push ((left[i]?.map (·.born)).getD 0)) since) } := fun i w' hi hw' => by
      have h1' : w'.heap[g]? = some (.mapIter (some gm) since seen since) := by rw [hw']; exact h1
      simp [hi, run_setObj h1' (by intro a t f e; cases e)]
    by_cases hf : (Question.mapNext left.size).forced = true
    · rw [if_pos hf]
      simp only [Result.andThen_ok]
      refine ⟨left[0], w.drawn, (hmem 0 hsz).1, (hmem 0 hsz).2, ?_⟩
      refine (hgo 0 w hsz rfl).trans ?_
      simp [hsz]
    · rw [if_neg hf]
      simp only [Result.andThen_ok]
      have hi : (Question.mapNext left.size).cut (w.tape w.drawn (.mapNext left.size)) < left.size := Nat.mod_lt _ hsz
      generalize (Question.mapNext left.size).cut (w.tape w.drawn (.mapNext left.size)) = i at hi
      refine ⟨left[i], w.drawn + 1, (hmem i hi).1, (hmem i hi).2, ?_⟩
      refine (hgo i { w with drawn := w.drawn + 1 } hi rfl).trans ?_
      simp [hi]
theorem namIn_true {i : Nam} : ∀ {l : List Nam}, namIn i l = true → ∃ j, j ∈ l ∧ i.n = j.n
  | [], h => by cases h
  | j :: l, h => by
    have h' : cB (Nat.beq i.n j.n) true (namIn i l) = true := h
    cases c : Nat.beq i.n j.n with
    | true => rw [Nat.beq_eq] at c; exact ⟨j, by simp, c⟩
    | false => rw [c] at h'; obtain ⟨k, h1, h2⟩ := namIn_true (l := l) h'; exact ⟨k, by simp [h1], h2⟩
theorem namIn_of {i j : Nam} (hn : i.n = j.n) : ∀ {l : List Nam}, j ∈ l → namIn i l = true
  | [], h => by cases h
  | k :: l, h => by
    show cB (Nat.beq i.n k.n) true (namIn i l) = true
    rcases List.mem_cons.1 h with rfl | h
    · rw [show Nat.beq i.n j.n = true by rw [Nat.beq_eq]; exact hn]; rfl
    · cases c : Nat.beq i.n k.n with
      | true => rfl
      | false => exact namIn_of hn h
theorem unseen_mem {b m : Nam} {since base sp : Nat} {seen : List Nam} {s : AS} {x : Ent} (hn : namIn x.id seen = false) : ∀ {es : List Ent} {j : Nat}, x ∈ es → ∃ j', (AV.tuple [.bool true, x.key, x.val], atA (putA s b (.iter (some m) since (x.id :: seen) base sp)) base sp j') ∈ unseen b m since base sp seen s es j
  | [], _, h => by cases h
  | y :: es, j, h => by
    have e : unseen b m since base sp seen s (y :: es) j = cB (namIn y.id seen) (unseen b m since base sp seen s es (Nat.add j 1)) ((.tuple [.bool true, y.key, y.val], atA (putA s b (.iter (some m) since (y.id :: seen) base sp)) base sp j) :: unseen b m since base sp seen s es (Nat.add j 1)) := rfl
    rw [e]
    rcases List.mem_cons.1 h with rfl | h
    · rw [hn]; exact ⟨j, by simp [cB]⟩
    · obtain ⟨j', hj⟩ := unseen_mem hn (j := Nat.add j 1) h
      cases namIn y.id seen with
      | true => exact ⟨j', hj⟩
      | false => exact ⟨j', by simp [cB, hj]⟩
theorem atA_at (s : AS) (base sp j : Nat) (p : Pth) : (atA s base sp j).at p = s.at p := by
  unfold atA
  cases Nat.beq sp 0 <;> rfl
theorem atA_tr (s : AS) (base sp j : Nat) : Tr s (atA s base sp j) := by
  unfold atA
  cases Nat.beq sp 0 with
  | false => exact Tr.refl s
  | true => exact Tr.refl s
theorem Sat.same (hs : Sat P ρ S w) {S' : AS} (h : ∀ p, S'.at p = S.at p) : Sat P ρ S' w := by
  refine ⟨fun p => by rw [h]; exact hs.obj p, fun p q g o c o' c' hp hq => ?_, hs.bnd, hs.stp, hs.stinj, hs.glob, fun g hg => ⟨(hs.vars g hg).1, fun p o c hl => (hs.vars g hg).2 p o c (by rw [← h]; exact hl)⟩⟩
  rw [h] at hp hq
  exact hs.inj p q g o c o' c' hp hq
theorem Ext.same {ρ' : Rho} {S' S'' : AS} {w' : World} (he : Ext ρ S w ρ' S' w') (h : ∀ p, S''.at p = S'.at p) (htr : Tr S' S'') : Ext ρ S w ρ' S'' w' :=
  ⟨he.le, he.size, he.old, fun g hg ⟨p, o, c, h1, h2⟩ => he.owns g hg ⟨p, o, c, h1, by rw [← h]; exact h2⟩, he.os, he.tape, he.output, he.tr.trans htr⟩
theorem next_ok (hs : Sat P ρ S w) {it : AV} {ui : Value} {isS : Bool} {t : TypeId} (hi : conc ρ it = some ui) : AN.okV P ρ S w ((Instr.next ui isS t).run P w) ((nextA isS).f it S) := by
  cases isS with
  | true => exact trivial
  | false =>
    refine vPtr_ok trivial fun b o e => ?_
    subst e
    refine cB_ok (fun h0 => ?_) fun _ => trivial
    rw [Nat.beq_eq] at h0
    subst h0
    refine oIter_ok trivial fun m since seen base sp ho => ?_
    rw [getA_eq] at ho
    obtain ⟨g, off, cap, hb, rfl⟩ := conc_ptr hi
    have hobj := hs.obj b.p
    rw [ho] at hobj
    cases m with
    | none =>
      obtain ⟨g', cap', s, c, d, h1, h2, _⟩ := hobj
      rw [look_path hb] at h1
      cases h1
      refine ⟨.tuple #[.bool false], by simp [conc, concs], ?_⟩
      simp [Instr.next, run_getObj h2 (by intro a t f e; cases e)]
    | some m =>
      obtain ⟨g', cap', gm, oo, cc, seen', ks, h1, h2, h3, h4, h5⟩ := hobj
      rw [look_path hb] at h1
      cases h1
      simp only [cO_some]
      refine oMap_ok trivial fun es clk hm => ?_
      rw [getA_eq] at hm
      obtain ⟨l, hl, hr⟩ := map_of hs hm h3
      refine cB_ok (fun hc => ?_) fun _ => trivial
      rw [Nat.beq_eq] at hc
      subst hc
      rw [Nat.add_zero]
      rcases next_run (P := P) (w := w) (t := t) h2 hl hr.below with ⟨n1, n2⟩ | ⟨e, d, n1, n2, n3⟩
      · have hnil : unseen b m since base sp seen S es 0 = [] := by
          cases hu : unseen b m since base sp seen S es 0 with
          | nil => rfl
          | cons y ys =>
            exfalso
            have key : ∀ {es : List Ent} {j : Nat}, (∀ x ∈ es, namIn x.id seen = true) → unseen b m since base sp seen S es j = [] := by
              intro es
              induction es with
              | nil => intro j _; rfl
              | cons x es ih =>
                intro j h
                show cB (namIn x.id seen) (unseen b m since base sp seen S es (Nat.add j 1)) _ = []
                rw [h x (by simp)]
                exact ih fun y hy => h y (by simp [hy])
            rw [key fun x hx => ?_] at hu
            · cases hu
            · obtain ⟨e, he, hxe⟩ := hr.vals hx
              have h6 := n1 e he
              rw [h5, List.mem_reverse] at h6
              obtain ⟨j, hj, hjk⟩ := h4.mem' h6
              have h7 := hs.stinj _ _ _ _ (look_path hxe.id) (look_path hjk)
              exact namIn_of (by rw [look_num hxe.id, look_num hjk, h7]) hj
        rw [hnil, n2]
        refine ⟨ρ, .tuple #[.bool false], w, rfl, (Ext.refl ρ S w).same (fun p => atA_at _ _ _ _ p) (atA_tr _ _ _ _), hs.same fun p => atA_at _ _ _ _ p, by simp [conc, concs]⟩
      · obtain ⟨x, hx, hxe⟩ := hr.ents n1
        have hnot : namIn x.id seen = false := by
          cases hq : namIn x.id seen with
          | false => rfl
          | true =>
            exfalso
            obtain ⟨j, hj, hn⟩ := namIn_true hq
            obtain ⟨k, hk, hjk⟩ := h4.mem hj
            have : x.id = j := nam_eq hxe.id hjk hn
            subst this
            have h6 := hxe.id
            rw [hjk] at h6
            have h7 := (Tgt.stp.inj (Option.some.inj h6)).2
            apply n2
            rw [h5, List.mem_reverse, ← h7]
            exact hk
        obtain ⟨j', hj'⟩ := unseen_mem (b := b) (m := m) (since := since) (base := base) (sp := sp) (s := S) hnot (j := 0) hx
        have hlt : g < w.heap.size := (Array.getElem?_eq_some_iff.1 h2).1
        have hat : ∀ p, (putA S b (.iter (some m) since (x.id :: seen) base sp)).at p = if p = b.p then .iter (some m) since (x.id :: seen) base sp else S.at p := at_putA (by intro e; cases e)
        have hset : (w.heap.setIfInBounds g (.mapIter (some gm) since (seen'.push e.born) since))[g]? = some (.mapIter (some gm) since (seen'.push e.born) since) := by rw [Array.getElem?_setIfInBounds_self_of_lt hlt]
        obtain ⟨c1, c2⟩ := hs.upd (S' := putA S b (.iter (some m) since (x.id :: seen) base sp)) (w' := { w with drawn := d, heap := w.heap.setIfInBounds g (.mapIter (some gm) since (seen'.push e.born) since) }) (look_path hb) (by rw [ho]; exact trivial) (by rw [hat, if_pos rfl]; exact trivial)
          (Le.refl _) (fun p t h => .inl h) (fun p hp => .inl (by rw [hat, if_neg hp])) (Tr.put rfl) (by
            rw [hat, if_pos rfl]
            exact ⟨g, cap, gm, oo, cc, _, e.born :: ks, look_path hb, hset, h3, .cons hxe.id h4, by rw [Array.toList_push, h5, List.reverse_cons]⟩) (by simp) (fun g' hg => Array.getElem?_setIfInBounds_ne (Ne.symm hg)) (fun es c hc => by
            have hset' : ({ w with drawn := d, heap := w.heap.setIfInBounds g (.mapIter (some gm) since (seen'.push e.born) since) } : World).heap[g]? = _ := hset
            rw [hset'] at hc; cases hc) rfl rfl rfl
        cases hu : unseen b m since base sp seen S es 0 with
        | nil => rw [hu] at hj'; cases hj'
        | cons y ys =>
          rw [hu] at hj'
          refine ⟨_, hj', ρ, .tuple #[.bool true, e.key, e.val], _, n3, c2.same (fun p => atA_at _ _ _ _ p) (atA_tr _ _ _ _), c1.same fun p => atA_at _ _ _ _ p, ?_⟩
          simp [conc, concs, hxe.key, hxe.val]
theorem entry_ok (hs : Sat P ρ S w) {it : AV} {ui : Value} (hi : conc ρ it = some ui) : AN.okV P ρ S w ((Instr.entry ui).run P w) (entryA it S) := by
  refine vPtr_ok trivial fun b o e => ?_
  subst e
  refine cB_ok (fun h0 => ?_) fun _ => trivial
  rw [Nat.beq_eq] at h0
  subst h0
  refine oIter_ok trivial fun m since seen base sp ho => ?_
  rw [getA_eq] at ho
  obtain ⟨g, off, cap, hb, rfl⟩ := conc_ptr hi
  have hobj := hs.obj b.p
  rw [ho] at hobj
  cases m with
  | none => exact trivial
  | some m =>
    obtain ⟨g', cap', gm, oo, cc, seen', ks, h1, h2, h3, h4, h5⟩ := hobj
    rw [look_path hb] at h1
    cases h1
    simp only [cO_some]
    refine oMap_ok trivial fun es clk hm => ?_
    rw [getA_eq] at hm
    obtain ⟨l, hl, hr⟩ := map_of hs hm h3
    refine cB_ok (fun hc => ?_) fun _ => trivial
    rw [Nat.beq_eq] at hc
    subst hc
    refine cL_ok (fun _ => trivial) fun i rest hsn => ?_
    subst hsn
    refine cO_ok trivial fun x hx => ?_
    obtain ⟨hxm, hxn⟩ := byId_some hx
    cases h4 with
    | @cons _ k _ ks h6 h7 =>
    obtain ⟨e, he, hxe⟩ := hr.vals hxm
    have hid : x.id = i := nam_eq hxe.id h6 hxn
    have hk : e.born = k := by
      have h8 := hxe.id
      rw [hid, h6] at h8
      exact (Tgt.stp.inj (Option.some.inj h8)).2.symm
    have hback : seen'.back? = some k := by
      rw [← Array.getLast?_toList, h5]; simp
    have hfind : l.find? (fun e => e.born == k) = some e := by
      rw [← Array.find?_toList]
      cases hq : l.toList.find? (fun e => e.born == k) with
      | none =>
        have := List.find?_eq_none.1 hq e he
        simp [hk] at this
      | some e' =>
        have h8 := List.find?_some hq
        have h9 := List.mem_of_find?_eq_some hq
        congr 1
        refine nodup_inj hr.born h9 he ?_
        simp at h8
        rw [h8, hk]
    refine ⟨.tuple #[e.key, e.val], by simp [conc, concs, hxe.key, hxe.val], ?_⟩
    simp [Instr.entry, run_getObj h2 (by intro a t f e; cases e), hback, run_getMap hl, hfind]
end
end Go.Proofs.YtfmaapbibmnfgaaGreatDoor.Ev
namespace Go.Proofs.YtfmaapbibmnfgaaGreatDoor.Ev
variable [Vr]
section
variable {P : Program} {ρ : Rho} {S : AS} {w : World}

/-- What lies behind new names for entries. -/
structure Cloned (S S' : AS) (es es' : List Ent) : Prop where
  same : All2 (fun x y => y.key = x.key ∧ y.val = x.val) es es'
  num : ∀ y ∈ es', y.id.n = y.id.p.num
  nodup : (es'.map (·.id.p)).Nodup
  free : ∀ y ∈ es', S.at y.id.p = .free
  dead : ∀ y ∈ es', S'.at y.id.p = .dead
  rest : ∀ p, (∀ y ∈ es', y.id.p ≠ p) → S'.at p = S.at p
  tr : Tr S S'
theorem cloneL_ok {Q : AN → Prop} (hno : Q .no) : ∀ (es : List Ent) (S : AS) (k : List Ent → AS → AN), (∀ es' S', Cloned S S' es es' → Q (k es' S')) → Q (cloneL es S k)
  | [], S, k, h => h [] S ⟨.nil, fun _ h => (List.not_mem_nil h).elim, List.nodup_nil, fun _ h => (List.not_mem_nil h).elim, fun _ h => (List.not_mem_nil h).elim, fun _ _ => rfl, Tr.refl _⟩
  | x :: es, S, k, h => by
    show Q (newA S .dead 1 .no fun i s1 => cloneL es s1 fun r s2 => k (⟨x.key, x.val, i⟩ :: r) s2)
    refine newA_okQ hno fun i hi hf => cloneL_ok hno es _ _ fun es' S' c => h _ _ ?_
    have hat1 : ∀ p, (AS.at ⟨hput S.top i.p .dead, S.lay, logA S i, Nat.add S.next 1⟩ p) = if p = i.p then .dead else S.at p := at_put (by intro e; cases e) rfl
    have hne : ∀ y ∈ es', y.id.p ≠ i.p := fun y hy e => by
      have := c.free y hy
      rw [e, hat1, if_pos rfl] at this; cases this
    refine ⟨.cons ⟨rfl, rfl⟩ c.same, ?_, ?_, ?_, ?_, ?_, (Tr.put rfl).trans c.tr⟩
    · intro y hy
      rcases List.mem_cons.1 hy with rfl | hy
      · exact hi
      · exact c.num y hy
    · rw [List.map_cons, List.nodup_cons]
      refine ⟨fun hm => ?_, c.nodup⟩
      obtain ⟨y, hy, e⟩ := List.mem_map.1 hm
      exact hne y hy e
    · intro y hy
      rcases List.mem_cons.1 hy with rfl | hy
      · exact hf
      · have := c.free y hy
        rw [hat1, if_neg (hne y hy)] at this; exact this
    · intro y hy
      rcases List.mem_cons.1 hy with rfl | hy
      · show S'.at i.p = .dead
        rw [c.rest i.p hne, hat1, if_pos rfl]
      · exact c.dead y hy
    · intro p hp
      rw [c.rest p fun y hy => hp y (List.mem_cons_of_mem _ hy), hat1, if_neg fun e => hp ⟨x.key, x.val, i⟩ List.mem_cons_self e.symm]
/-- Stamps for many names. -/
noncomputable def Rho.many (ρ : Rho) (g : Nat) : List Ent → List MapEntry → Rho
  | y :: es, e :: m => (Rho.many ρ g es m).set y.id.p (.stp g e.born)
  | _, _ => ρ
theorem many_out {g : Nat} : ∀ {es : List Ent} {m : List MapEntry} {p : Pth}, (∀ y ∈ es, y.id.p ≠ p) → Rho.many ρ g es m p = ρ p
  | [], _, _, _ => by simp [Rho.many]
  | _ :: _, [], _, _ => by simp [Rho.many]
  | y :: es, e :: m, p, h => by
    rw [Rho.many, Rho.set_other _ _ fun e => h y List.mem_cons_self e.symm]
    exact many_out fun z hz => h z (List.mem_cons_of_mem _ hz)
theorem many_in {g : Nat} {R : Ent → MapEntry → Prop} : ∀ {es : List Ent} {m : List MapEntry}, All2 R es m → (es.map (·.id.p)).Nodup → All2 (fun y e => Rho.many ρ g es m y.id.p = some (.stp g e.born)) es m
  | [], _, h, _ => by cases h; exact .nil
  | y :: es, _, h, hn => by
    cases h with
    | @cons _ e _ m hr ht =>
    rw [List.map_cons, List.nodup_cons] at hn
    refine .cons (by rw [Rho.many, Rho.set_same]) ?_
    have ih := many_in (g := g) ht hn.2
    have key : ∀ {a : List Ent} {b : List MapEntry}, All2 (fun y e => Rho.many ρ g es m y.id.p = some (.stp g e.born)) a b → (∀ z ∈ a, z ∈ es) → All2 (fun z k => Rho.many ρ g (y :: es) (e :: m) z.id.p = some (.stp g k.born)) a b := by
      intro a b h
      induction h with
      | nil => intro _; exact .nil
      | @cons z k a b h1 _ ih2 =>
        intro hz
        refine .cons ?_ (ih2 fun x hx => hz x (List.mem_cons_of_mem _ hx))
        rw [Rho.many, Rho.set_other _ _ ?_]
        · exact h1
        · intro e2
          exact hn.1 (List.mem_map.2 ⟨z, hz z List.mem_cons_self, e2⟩)
    exact key ih fun _ h => h
theorem All2.join2 {α β γ : Type} {R : α → β → Prop} {T : α → γ → Prop} : ∀ {a : List α} {b : List β} {c : List γ}, All2 R a b → All2 T a c → All2 (fun y z => ∃ x, R x y ∧ T x z) b c
  | _, _, _, .nil, h => by cases h; exact .nil
  | _, _, _, .cons h1 t1, h => by
    cases h with
    | cons h2 t2 => exact .cons ⟨_, h1, h2⟩ (All2.join2 t1 t2)
theorem All2.meet {α β : Type} {R T : α → β → Prop} : ∀ {a : List α} {b : List β}, All2 R a b → All2 T a b → All2 (fun x y => R x y ∧ T x y) a b
  | _, _, .nil, _ => .nil
  | _, _, .cons h1 t1, h => by
    cases h with
    | cons h2 t2 => exact .cons ⟨h1, h2⟩ (All2.meet t1 t2)
theorem All2.impM {α β : Type} {R T : α → β → Prop} : ∀ {a : List α} {b : List β}, (∀ x ∈ a, ∀ y ∈ b, R x y → T x y) → All2 R a b → All2 T a b
  | _, _, _, .nil => .nil
  | _, _, h, .cons h1 t1 => .cons (h _ List.mem_cons_self _ List.mem_cons_self h1) (All2.impM (fun x hx y hy => h x (List.mem_cons_of_mem _ hx) y (List.mem_cons_of_mem _ hy)) t1)
theorem push_set {α : Type} (a : Array α) (x y : α) : (a.push x).setIfInBounds a.size y = a.push y := by
  apply Array.ext_getElem?
  intro i
  by_cases e : a.size = i
  · subst e
    rw [Array.getElem?_setIfInBounds_self_of_lt (by simp)]; simp
  · rw [Array.getElem?_setIfInBounds_ne e]
    by_cases h : i < a.size
    · rw [Array.getElem?_push_lt h, Array.getElem?_push_lt h]
    · rw [Array.getElem?_eq_none (by simp; omega), Array.getElem?_eq_none (by simp; omega)]
theorem clone_ok (hs : Sat P ρ S w) {args : List AV} {us : List Value} (ha : concs ρ args = some us) : AN.okV P ρ S w ((Extern.MapsClone.clone us.toArray).run P w) (cloneA args S) := by
  rcases args with _ | ⟨a, _ | ⟨a2, r⟩⟩
  · exact trivial
  · obtain ⟨u, q, rfl, hu, hq⟩ := concs_cons ha
    cases concs_nil hq
    show AN.okV P ρ S w _ (vIf a .no .no fun t v => vMap v .no .no fun b => oMap (getA S b) .no fun es clk => newA S (.map [] clk) 1 .no fun j s1 => cloneL es s1 fun es' s2 => .val (.iface t (.map j)) (putA s2 j (.map es' clk)))
    cases a with
    | iface t v =>
      show AN.okV P ρ S w _ (vMap v .no .no fun b => oMap (getA S b) .no fun es clk => newA S (.map [] clk) 1 .no fun j s1 => cloneL es s1 fun es' s2 => .val (.iface t (.map j)) (putA s2 j (.map es' clk)))
      refine vMap_ok trivial (fun _ => trivial) fun b e => ?_
      subst e
      refine oMap_ok trivial fun es clk ho => ?_
      rw [getA_eq] at ho
      simp only [conc] at hu
      split at hu
      · rename_i um hum
        cases hu
        have hum : conc ρ (.map b) = some um := by simp only [conc]; exact hum
        obtain ⟨g, off, cap, hb, rfl⟩ := conc_map hum
        obtain ⟨l, hl, hr⟩ := map_of hs ho hb
        refine newA_okQ trivial fun j hj hf => ?_
        obtain ⟨d1, d2⟩ := hs.new (o := .map [] clk) (ob := .map #[] clk) (off := 0) (cap := 0) (S' := ⟨hput S.top j.p (.map [] clk), S.lay, logA S j, Nat.add S.next 1⟩) (w' := { w with heap := w.heap.push (.map #[] clk) }) hf (at_put (by intro e; cases e) rfl) (Tr.put rfl) rfl rfl rfl rfl fun hle =>
          ⟨w.heap.size, 0, 0, #[], Rho.set_same _ _ _, by simp, ⟨⟨[], .nil, .refl _⟩, by simp, by simp, by simp⟩⟩
        have hatj : ∀ p, (AS.at ⟨hput S.top j.p (.map [] clk), S.lay, logA S j, Nat.add S.next 1⟩ p) = if p = j.p then .map [] clk else S.at p := at_put (by intro e; cases e) rfl
        refine cloneL_ok trivial es _ _ fun es' S2 c => ?_
        obtain ⟨m, m1, m2⟩ := hr.perm
        have hpair := All2.join2 c.same m1
        have hin := many_in (ρ := ρ.set j.p (.blk w.heap.size 0 0)) (g := w.heap.size) hpair c.nodup
        have hjn : ∀ y ∈ es', y.id.p ≠ j.p := fun y hy e => by
          have := c.free y hy
          rw [e, hatj, if_pos rfl] at this; cases this
        have hfree : ∀ y ∈ es', (ρ.set j.p (.blk w.heap.size 0 0)) y.id.p = none := fun y hy => by
          have := d1.obj y.id.p
          rw [c.free y hy] at this; exact this
        have hle : Le (ρ.set j.p (.blk w.heap.size 0 0)) (Rho.many (ρ.set j.p (.blk w.heap.size 0 0)) w.heap.size es' m) := fun p t hp => by
          by_cases h : ∀ y ∈ es', y.id.p ≠ p
          · rw [many_out h]; exact hp
          · have ⟨y, hy⟩ := Classical.not_forall.1 h
            have ⟨hy1, hy2⟩ := Classical.not_imp.1 hy
            have hy3 : y.id.p = p := Classical.not_not.1 hy2
            rw [← hy3, hfree y hy1] at hp; cases hp
        have hle0 : Le ρ (ρ.set j.p (.blk w.heap.size 0 0)) := d2.le
        have hold : ∀ q k, (ρ.set j.p (.blk w.heap.size 0 0)) q ≠ some (.stp w.heap.size k) := fun q k h => by
          by_cases e : q = j.p
          · subst e; rw [Rho.set_same] at h; cases h
          · rw [Rho.set_other _ _ e] at h
            exact absurd (hs.stp _ _ _ h).1 (Nat.lt_irrefl _)
        have hborn : (m.map (·.born)).Nodup := (m2.map _).nodup_iff.2 hr.born
        have hsome : ∀ {p t}, Rho.many (ρ.set j.p (.blk w.heap.size 0 0)) w.heap.size es' m p = some t → (ρ.set j.p (.blk w.heap.size 0 0)) p = some t ∨ ∃ y e, y ∈ es' ∧ e ∈ m ∧ y.id.p = p ∧ t = .stp w.heap.size e.born := fun {p t} h => by
          by_cases hn : ∀ y ∈ es', y.id.p ≠ p
          · rw [many_out hn] at h; exact .inl h
          · have ⟨y, hy⟩ := Classical.not_forall.1 hn
            have ⟨hy1, hy2⟩ := Classical.not_imp.1 hy
            have hy3 : y.id.p = p := Classical.not_not.1 hy2
            obtain ⟨e, he, hye⟩ := hin.mem hy1
            rw [hy3, h] at hye
            exact .inr ⟨y, e, hy1, he, hy3, Option.some.inj hye⟩
        have hat : ∀ p, (putA S2 j (.map es' clk)).at p = if p = j.p then .map es' clk else S2.at p := at_putA (by intro e; cases e)
        have hinj : ∀ y ∈ es', ∀ z ∈ es', ∀ k, Rho.many (ρ.set j.p (.blk w.heap.size 0 0)) w.heap.size es' m y.id.p = some (.stp w.heap.size k) → Rho.many (ρ.set j.p (.blk w.heap.size 0 0)) w.heap.size es' m z.id.p = some (.stp w.heap.size k) → z.id.p = y.id.p := by
          have key : ∀ {a : List Ent} {b : List MapEntry}, All2 (fun y e => Rho.many (ρ.set j.p (.blk w.heap.size 0 0)) w.heap.size es' m y.id.p = some (.stp w.heap.size e.born)) a b → (b.map (·.born)).Nodup →
              ∀ y ∈ a, ∀ z ∈ a, ∀ k, Rho.many (ρ.set j.p (.blk w.heap.size 0 0)) w.heap.size es' m y.id.p = some (.stp w.heap.size k) → Rho.many (ρ.set j.p (.blk w.heap.size 0 0)) w.heap.size es' m z.id.p = some (.stp w.heap.size k) → z.id.p = y.id.p := by
            intro a b h
            induction h with
            | nil => intro _ y hy; exact (List.not_mem_nil hy).elim
            | @cons x e a b h1 t ih =>
              intro hn y hy z hz k hyk hzk
              rw [List.map_cons, List.nodup_cons] at hn
              have hx : ∀ z ∈ a, ∀ k, Rho.many (ρ.set j.p (.blk w.heap.size 0 0)) w.heap.size es' m x.id.p = some (.stp w.heap.size k) → Rho.many (ρ.set j.p (.blk w.heap.size 0 0)) w.heap.size es' m z.id.p = some (.stp w.heap.size k) → False := fun z hz k q1 q2 => by
                obtain ⟨f, hf1, hf2⟩ := t.mem hz
                rw [q2] at hf2
                rw [q1] at h1
                have e1 := (Tgt.stp.inj (Option.some.inj h1)).2
                have e2 := (Tgt.stp.inj (Option.some.inj hf2)).2
                exact hn.1 (List.mem_map.2 ⟨f, hf1, by rw [← e2, e1]⟩)
              rcases List.mem_cons.1 hy with ey | hy2 <;> rcases List.mem_cons.1 hz with ez | hz2
              · rw [ey, ez]
              · rw [ey] at hyk; exact (hx z hz2 k hyk hzk).elim
              · rw [ez] at hzk; exact (hx y hy2 k hzk hyk).elim
              · exact ih hn.2 y hy2 z hz2 k hyk hzk
          exact key hin hborn
        have hent : relM (Rho.many (ρ.set j.p (.blk w.heap.size 0 0)) w.heap.size es' m) w.heap.size es' clk l.toList := by
          refine ⟨⟨m, ?_, m2⟩, hr.born, hr.below, hr.keys⟩
          refine (hpair.meet hin).impM fun y hy e he h => ?_
          obtain ⟨⟨x, ⟨hk, hv⟩, hx⟩, hid⟩ := h
          refine ⟨by rw [hk]; exact conc_mono (hle0.trans hle) _ hx.key, by rw [hv]; exact conc_mono (hle0.trans hle) _ hx.val, ?_⟩
          unfold look
          rw [if_pos (c.num y hy)]; exact hid
        obtain ⟨c1, c2⟩ := d1.setMap (ρ' := Rho.many (ρ.set j.p (.blk w.heap.size 0 0)) w.heap.size es' m) (S' := putA S2 j (.map es' clk)) (b := j) (clk' := clk) (l := #[]) (l' := l) (by rw [hatj, if_pos rfl]) (look_set hj _) (by simp) hle
          (fun p t hp => by
            rcases hsome hp with h | ⟨y, e, hy, he, rfl, rfl⟩
            · exact .inl h
            · refine .inr ⟨c.free y hy, by rw [hat, if_neg (hjn y hy)]; exact c.dead y hy, e.born, rfl, fun q hq => ?_⟩
              rcases hsome hq with h | ⟨z, f, hz, hf2, rfl, _⟩
              · exact absurd h (hold _ _)
              · exact hinj y hy z hz _ hp hq)
          (fun p hp => by
            by_cases hn : ∀ y ∈ es', y.id.p ≠ p
            · exact .inl (by rw [hat, if_neg hp, c.rest p hn])
            · have ⟨y, hy⟩ := Classical.not_forall.1 hn
              have ⟨hy1, hy2⟩ := Classical.not_imp.1 hy
              have hy3 : y.id.p = p := Classical.not_not.1 hy2
              subst hy3
              obtain ⟨e, _, hye⟩ := hin.mem hy1
              exact .inr ⟨c.free y hy1, by rw [hat, if_neg hp]; exact c.dead y hy1, _, hye⟩)
          (by rw [hat, if_pos rfl]) (c.tr.trans (Tr.put rfl)) hent
          (fun p k hp => by
            rcases hsome hp with h | ⟨y, e, hy, he, rfl, h2⟩
            · exact absurd h (hold _ _)
            · cases h2
              exact hr.below e (m2.mem_iff.1 he))
        refine ⟨_, .iface t (.map (some w.heap.size)), _, ?_, d2.trans c2, c1, ?_⟩
        · have hcl : Extern.MapsClone.clone #[.iface t (.map (some g))] = (do
              let .map entries clock ← getObj g | stuck "maps.clone: a map expected"
              pure (.iface t (.map (some (← newObj (.map entries clock)))))) := rfl
          show (Extern.MapsClone.clone #[.iface t (.map (some g))]).run P w = _
          rw [hcl]
          simp only [Sem.run_bind, run_getMap hl, Result.andThen_ok, run_newObj, Sem.run_pure, push_set]
        · simp only [conc]
          rw [hle.look (look_set hj _)]
      · cases hu
    | _ => exact trivial
  · exact trivial
/-- The function of the library that copies a map. -/
theorem clone_run {g : FuncId} (h : cloneF P g = true) (us : Array Value) : (callFunc g us).run P w = ((Extern.MapsClone.clone us).run P w).andThen fun u w' => .ok (.value u) w' := by
  unfold cloneF at h
  split at h
  · rename_i fn hfn
    simp only [Bool.and_eq_true, beq_iff_eq] at h
    obtain ⟨hb, hn, ho⟩ := h
    have h1 : Extern.findNext fn = none := by
      unfold Extern.findNext
      rw [hn, ho]
      kernel_rfl
    have h2 : Extern.find fn = some Extern.MapsClone.clone := by
      unfold Extern.find
      rw [hn, ho]
      kernel_rfl
    have hnm : ¬ (fn.name = "runtime.NumGoroutine") := by rw [hn]; decide
    have hb' : fn.body = none := by simpa using hb
    simp [callFunc, hfn, hnm, hb', h1, h2, mark, Sem.run]
  · cases h
end
end Go.Proofs.YtfmaapbibmnfgaaGreatDoor.Ev
