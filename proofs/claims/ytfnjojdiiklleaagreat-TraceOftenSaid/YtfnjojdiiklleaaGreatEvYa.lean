/- A run of a program on abstract memory: plans by masks are plans. -/
import Derived.Test.YtfnjojdiiklleaaGreatEvY
namespace Go.Proofs.YtfnjojdiiklleaaGreat.Ev
section
variable {P : Program} {ops : Array Oper}

theorem bitA_eq (X i : Nat) : bitA X i = X.testBit i := by
  unfold bitA
  show Nat.beq (X >>> i &&& 1) 1 = X.testBit i
  rw [Nat.testBit, Nat.and_comm 1]
  have h : X >>> i &&& 1 = 0 ∨ X >>> i &&& 1 = 1 := by rw [Nat.and_one_is_mod]; omega
  rcases h with h | h <;> rw [h] <;> rfl
theorem onB_bit (i j : Nat) : (onB i).testBit j = decide (i = j) := by
  unfold onB
  show (1 <<< i).testBit j = _
  rw [Nat.one_shiftLeft, Nat.testBit_two_pow]
theorem setB_bit (X i j : Nat) : (setB X i).testBit j = (X.testBit j || decide (i = j)) := by
  unfold setB
  show (X ||| onB i).testBit j = _
  rw [Nat.testBit_or, onB_bit]
theorem offB_bit (X i j : Nat) : (Nat.xor X (onB i)).testBit j = (X.testBit j ^^ decide (i = j)) := by
  show (X ^^^ onB i).testBit j = _
  rw [Nat.testBit_xor, onB_bit]
theorem depL_bit : ∀ (l : List Edge) (j : Nat), (depL l).testBit j = l.any fun e => Region.binds .any e && e.on == j
  | [], j => by show (0 : Nat).testBit j = _; simp
  | e :: l, j => by
    show (cB (Region.binds .any e) (Nat.lor (depL l) (onB e.on)) (depL l)).testBit j = _
    cases h : Region.binds .any e with
    | false => simp only [cB_false, List.any_cons, h, Bool.false_and, Bool.false_or]; exact depL_bit l j
    | true =>
      show (depL l ||| onB e.on).testBit j = _
      rw [Nat.testBit_or, onB_bit, depL_bit l j, List.any_cons, h, Bool.true_and, Bool.or_comm]
      congr 1
theorem rdL_bit : ∀ (l : List Tmp) (j : Nat), (rdL l).testBit j = l.contains j
  | [], j => by show (0 : Nat).testBit j = _; simp
  | d :: l, j => by
    show (rdL l ||| onB d).testBit j = _
    rw [Nat.testBit_or, onB_bit, rdL_bit l j, List.contains_cons, Bool.or_comm]
    congr 1
    by_cases e : d = j
    · subst e; simp
    · have e' : ¬ j = d := fun x => e x.symm
      simp [e, e']
theorem and_sub {a b : Nat} : Nat.beq (Nat.land a b) a = true ↔ ∀ j, a.testBit j = true → b.testBit j = true := by
  rw [Nat.beq_eq]
  constructor
  · intro h j hj
    have : (a &&& b).testBit j = a.testBit j := congrArg (·.testBit j) h
    rw [Nat.testBit_and, hj] at this
    simpa using this
  · intro h
    refine Nat.eq_of_testBit_eq fun j => ?_
    show (a &&& b).testBit j = _
    rw [Nat.testBit_and]
    cases hj : a.testBit j with
    | false => rfl
    | true => rw [h j hj]; rfl
theorem and_zero {a b : Nat} : Nat.beq (Nat.land a b) 0 = true ↔ ∀ j, a.testBit j = true → b.testBit j = false := by
  rw [Nat.beq_eq]
  constructor
  · intro h j hj
    have : (a &&& b).testBit j = (0 : Nat).testBit j := congrArg (·.testBit j) h
    rw [Nat.testBit_and, hj] at this
    simpa using this
  · intro h
    refine Nat.eq_of_testBit_eq fun j => ?_
    show (a &&& b).testBit j = _
    rw [Nat.testBit_and]
    cases hj : a.testBit j with
    | false => simp
    | true => rw [h j hj]; simp
theorem mks_mem : ∀ (l : List Oper) (i : Nat) (m : Mk), m ∈ mks ops l i ↔ ∃ k o, l[k]? = some o ∧ m = mkOf ops (i + k) o
  | [], i, m => by simp [mks]
  | o :: l, i, m => by
    simp only [mks, List.mem_cons, mks_mem l (i + 1) m]
    constructor
    · rintro (rfl | ⟨k, o', h, rfl⟩)
      · exact ⟨0, o, rfl, rfl⟩
      · exact ⟨k + 1, o', h, by rw [Nat.add_assoc, Nat.add_comm 1 k]⟩
    · rintro ⟨k, o', h, rfl⟩
      cases k with
      | zero => left; cases h; rfl
      | succ k => right; exact ⟨k, o', h, by rw [Nat.add_assoc, Nat.add_comm 1 k]⟩
theorem mks_all {f : Mk → Bool} {ms : List Mk} : itL true (fun m _ r => cB (f m) r false) ms = true ↔ ∀ m ∈ ms, f m = true := by
  induction ms with
  | nil => simp
  | cons m l ih =>
    show cB (f m) (itL true (fun m _ r => cB (f m) r false) l) false = true ↔ _
    cases h : f m with
    | false => simp [h]
    | true => simp [h, ih]
/-- The operation of that number. -/
theorem mks_at {m : Mk} (hm : m ∈ mks ops ops.toList 0) : ∃ o, ops[m.i]? = some o ∧ m = mkOf ops m.i o := by
  obtain ⟨k, o, h1, h2⟩ := (mks_mem _ _ _).1 hm
  rw [Nat.zero_add] at h2
  have : m.i = k := by rw [h2]; rfl
  subst this
  exact ⟨o, by rw [← Array.getElem?_toList]; exact h1, h2⟩
theorem mks_of {j : Nat} {o : Oper} (h : ops[j]? = some o) : mkOf ops j o ∈ mks ops ops.toList 0 :=
  (mks_mem _ _ _).2 ⟨j, o, by rw [Array.getElem?_toList]; exact h, by rw [Nat.zero_add]⟩
/-- A set of operations, as a mask and as an array. -/
structure Rep (ops : Array Oper) (X : Nat) (A : Array Bool) : Prop where
  size : A.size = ops.size
  bit : ∀ j, X.testBit j = A.getD j false
theorem Rep.getD {X : Nat} {A : Array Bool} (h : Rep ops X A) {j : Nat} (hj : j < ops.size) (d : Bool) : A.getD j d = X.testBit j := by
  rw [h.bit, Array.getD_eq_getD_getElem?, Array.getD_eq_getD_getElem?, Array.getElem?_eq_getElem (by rw [h.size]; exact hj)]
  rfl
theorem Rep.on {X : Nat} {A : Array Bool} (h : Rep ops X A) {i : Nat} (hi : i < ops.size) : Rep ops (setB X i) (A.setIfInBounds i true) := by
  refine ⟨by rw [Array.size_setIfInBounds]; exact h.size, fun j => ?_⟩
  rw [setB_bit, h.bit]
  rw [Array.getD_eq_getD_getElem?, Array.getD_eq_getD_getElem?, Array.getElem?_setIfInBounds]
  by_cases e : i = j
  · subst e; simp [h.size, hi]
  · simp [e]
theorem Rep.off {X : Nat} {A : Array Bool} (h : Rep ops X A) {i : Nat} (hi : i < ops.size) (hb : X.testBit i = true) : Rep ops (Nat.xor X (onB i)) (A.setIfInBounds i false) := by
  refine ⟨by rw [Array.size_setIfInBounds]; exact h.size, fun j => ?_⟩
  rw [offB_bit, Array.getD_eq_getD_getElem?, Array.getElem?_setIfInBounds]
  by_cases e : i = j
  · subst e; simp [h.size, hi, hb]
  · simp [e, h.bit]
theorem Rep.none : Rep ops 0 (noneListed ops) := by
  refine ⟨by simp [noneListed], fun j => ?_⟩
  simp only [noneListed, Nat.zero_testBit, Array.getD_eq_getD_getElem?, Array.getElem?_replicate]
  split <;> rfl
theorem Rep.inj {X : Nat} {A B : Array Bool} (h : Rep ops X A) (h' : Rep ops X B) : A = B := by
  refine Array.ext (by rw [h.size, h'.size]) fun j h1 h2 => ?_
  have e1 := h.bit j
  have e2 := h'.bit j
  rw [Array.getD_eq_getD_getElem?, Array.getElem?_eq_getElem h1] at e1
  rw [Array.getD_eq_getD_getElem?, Array.getElem?_eq_getElem h2] at e2
  rw [e1] at e2; exact e2
theorem rdyM_eq {X : Nat} {A : Array Bool} (h : Rep ops X A) {j : Nat} {o : Oper} (hj : ops[j]? = some o) :
    rdyM (mkOf ops j o) X = (!A.getD j true && ((ops[j]?).map (·.after.all fun e => !Region.binds .any e || A.getD e.on false)).getD false) := by
  have hlt : j < ops.size := (Array.getElem?_eq_some_iff.1 hj).1
  rw [h.getD hlt true, hj]
  show cB (bNot (bitA X j)) (Nat.beq (Nat.land (depL o.after.toList) X) (depL o.after.toList)) false = _
  rw [bitA_eq]
  have : bNot (X.testBit j) = !X.testBit j := by cases X.testBit j <;> rfl
  rw [this]
  have e : Nat.beq (Nat.land (depL o.after.toList) X) (depL o.after.toList) = o.after.all fun e => !Region.binds .any e || A.getD e.on false := by
    rw [Bool.eq_iff_iff, and_sub, Array.all_eq_true_iff_forall_mem]
    constructor
    · intro h1 e he
      cases hb : Region.binds .any e with
      | false => rfl
      | true =>
        have := h1 e.on (by rw [depL_bit, List.any_eq_true]; exact ⟨e, by simpa using he, by simp [hb]⟩)
        rw [← h.bit, this]; rfl
    · intro h1 k hk
      rw [depL_bit, List.any_eq_true] at hk
      obtain ⟨e, he, hb⟩ := hk
      simp only [Bool.and_eq_true, beq_iff_eq] at hb
      have := h1 e (by simpa using he)
      rw [hb.1, ← h.bit, hb.2] at this
      simpa using this
  rw [e]
  cases X.testBit j <;> rfl
theorem ready_mem {X : Nat} {A : Array Bool} (h : Rep ops X A) {j : Nat} {o : Oper} (hj : ops[j]? = some o) : j ∈ Region.ready .any ops A ↔ rdyM (mkOf ops j o) X = true := by
  rw [rdyM_eq h hj, Region.ready, List.mem_filter, List.mem_range]
  exact ⟨fun x => x.2, fun x => ⟨(Array.getElem?_eq_some_iff.1 hj).1, x⟩⟩
theorem rdyI_aux {i X : Nat} : ∀ {ms : List Mk}, itL false (fun m _ r => cB (Nat.beq m.i i) (rdyM m X) r) ms = true → ∃ m ∈ ms, m.i = i ∧ rdyM m X = true
  | [], h => by cases h
  | m :: l, h => by
    have h' : cB (Nat.beq m.i i) (rdyM m X) (itL false (fun m _ r => cB (Nat.beq m.i i) (rdyM m X) r) l) = true := h
    cases hb : Nat.beq m.i i with
    | true => rw [hb] at h'; exact ⟨m, by simp, Nat.eq_of_beq_eq_true hb, h'⟩
    | false =>
      rw [hb] at h'
      obtain ⟨m', h1, h2⟩ := rdyI_aux (ms := l) h'
      exact ⟨m', by simp [h1], h2⟩
theorem rdyI_ok {i X : Nat} {A : Array Bool} (h : Rep ops X A) (hr : rdyI (mks ops ops.toList 0) i X = true) : ∃ o, ops[i]? = some o ∧ rdyM (mkOf ops i o) X = true ∧ i ∈ Region.ready .any ops A := by
  obtain ⟨m, hm, rfl, h2⟩ := rdyI_aux hr
  obtain ⟨o, h3, h4⟩ := mks_at hm
  rw [h4] at h2
  exact ⟨o, h3, h2, (ready_mem h h3).2 h2⟩
theorem filter_range_one {n i : Nat} {p : Nat → Bool} (hi : i < n) (h : ∀ j, j < n → p j = decide (j = i)) : (List.range n).filter p = [i] := by
  have : (List.range n).filter p = (List.range n).filter (fun j => decide (j = i)) := List.filter_congr fun j hj => h j (List.mem_range.1 hj)
  rw [this]
  clear this h p
  induction n with
  | zero => omega
  | succ n ih =>
    rw [List.range_succ, List.filter_append]
    by_cases e : i = n
    · subst e
      have : (List.range i).filter (fun j => decide (j = i)) = [] := by
        rw [List.filter_eq_nil_iff]; intro j hj; simp at hj ⊢; omega
      simp [this]
    · rw [ih (by omega)]
      have : ¬ n = i := fun x => e x.symm
      simp [this]
theorem onlyM_ok {i X : Nat} {A : Array Bool} (h : Rep ops X A) (hi : i < ops.size) (ho : onlyM (mks ops ops.toList 0) i X = true) : Region.ready .any ops A = [i] := by
  have ha := (mks_all (f := fun m => bEq (Nat.beq m.i i) (rdyM m X))).1 ho
  refine filter_range_one hi fun j hj => ?_
  have hg : ops[j]? = some ops[j] := Array.getElem?_eq_getElem hj
  have := ha _ (mks_of hg)
  rw [← rdyM_eq h hg]
  have e : (mkOf ops j ops[j]).i = j := rfl
  rw [e] at this
  cases hb : Nat.beq j i with
  | true =>
    rw [hb] at this
    have hji := Nat.eq_of_beq_eq_true hb
    rw [show rdyM (mkOf ops j ops[j]) X = true from this]
    simp [hji]
  | false =>
    rw [hb] at this
    have hji := Nat.ne_of_beq_eq_false hb
    have h2 : bNot (rdyM (mkOf ops j ops[j]) X) = true := this
    cases hr : rdyM (mkOf ops j ops[j]) X with
    | true => rw [hr] at h2; cases h2
    | false => simp [hji]
theorem noneM_ok {X : Nat} {A : Array Bool} (h : Rep ops X A) (ho : noneM (mks ops ops.toList 0) X = true) : Region.ready .any ops A = [] := by
  have ha : ∀ m ∈ mks ops ops.toList 0, bNot (rdyM m X) = true := (mks_all (f := fun m => bNot (rdyM m X))).1 (by
    have e : (fun (m : Mk) (_ : List Mk) (r : Bool) => cB (bNot (rdyM m X)) r false) = fun m _ r => cB (rdyM m X) false r := by
      funext m _ r; cases rdyM m X <;> rfl
    rw [e]; exact ho)
  rw [List.eq_nil_iff_forall_not_mem]
  intro j hj
  have hlt : j < ops.size := by rw [Region.ready, List.mem_filter, List.mem_range] at hj; exact hj.1
  have hg : ops[j]? = some ops[j] := Array.getElem?_eq_getElem hlt
  rw [ready_mem h hg] at hj
  have := ha _ (mks_of hg)
  rw [hj] at this; cases this
theorem apartM_ok {i j : Nat} {x y : Oper} (h : apartM (mkOf ops i x) (mkOf ops j y) = true) : x.apart ops y = true ∧ y.apart ops x = true := by
  have h1 : Nat.beq (Nat.land (cO x.dst 0 onB) (Nat.lor (rdL (y.looksAt ops)) (cO y.dst 0 onB))) 0 = true ∧ Nat.beq (Nat.land (cO y.dst 0 onB) (rdL (x.looksAt ops))) 0 = true := by
    have h' : cB (Nat.beq (Nat.land (cO x.dst 0 onB) (Nat.lor (rdL (y.looksAt ops)) (cO y.dst 0 onB))) 0) (Nat.beq (Nat.land (cO y.dst 0 onB) (rdL (x.looksAt ops))) 0) false = true := h
    cases hb : Nat.beq (Nat.land (cO x.dst 0 onB) (Nat.lor (rdL (y.looksAt ops)) (cO y.dst 0 onB))) 0 with
    | true => rw [hb] at h'; exact ⟨rfl, h'⟩
    | false => rw [hb] at h'; cases h'
  obtain ⟨h1, h2⟩ := h1
  rw [and_zero] at h1 h2
  have hx : ∀ d, x.dst = some d → (y.looksAt ops).contains d = false ∧ y.dst ≠ some d := fun d hd => by
    have h3 := h1 d (by rw [hd]; show (onB d).testBit d = true; rw [onB_bit]; simp)
    have h4 : (rdL (y.looksAt ops) ||| cO y.dst 0 onB).testBit d = false := h3
    rw [Nat.testBit_or, rdL_bit, Bool.or_eq_false_iff] at h4
    refine ⟨h4.1, fun e => ?_⟩
    have h5 := h4.2
    rw [e] at h5
    have h6 : (onB d).testBit d = false := h5
    rw [onB_bit] at h6; simp at h6
  have hy : ∀ d, y.dst = some d → (x.looksAt ops).contains d = false := fun d hd => by
    have h3 := h2 d (by rw [hd]; show (onB d).testBit d = true; rw [onB_bit]; simp)
    rw [rdL_bit] at h3; exact h3
  constructor
  · unfold Oper.apart
    rw [Bool.and_eq_true]
    constructor
    · cases hd : x.dst with
      | none => rfl
      | some d => obtain ⟨k1, k2⟩ := hx d hd; simp only [k1, Bool.not_false, Bool.true_and, bne_iff_ne, ne_eq]; exact k2
    · cases hd : y.dst with
      | none => rfl
      | some d => simp only [hy d hd, Bool.not_false]
  · unfold Oper.apart
    rw [Bool.and_eq_true]
    constructor
    · cases hd : y.dst with
      | none => rfl
      | some d =>
        simp only [hy d hd, Bool.not_false, Bool.true_and, bne_iff_ne, ne_eq]
        exact fun e => (hx d e).2 hd
    · cases hd : x.dst with
      | none => rfl
      | some d => simp only [(hx d hd).1, Bool.not_false]
theorem pairs_aux : ∀ {ms : List Mk}, pairsM ms = true → ∀ a b : Mk, [a, b].Sublist ms → apartM a b = true ∨ b.dep.testBit a.i = true ∨ a.dep.testBit b.i = true
  | [], _, a, b, h => by cases h
  | m :: l, h, a, b, hs => by
    have h' : cB (itL true (fun k _ q => cB (bOr (apartM m k) (bOr (bitA k.dep m.i) (bitA m.dep k.i))) q false) l) (pairsM l) false = true := h
    cases hb : itL true (fun k _ q => cB (bOr (apartM m k) (bOr (bitA k.dep m.i) (bitA m.dep k.i))) q false) l with
    | false => rw [hb] at h'; cases h'
    | true =>
      rw [hb] at h'
      cases hs with
      | cons _ hs => exact pairs_aux (ms := l) h' a b hs
      | cons_cons _ hs =>
        have hbl : b ∈ l := List.singleton_sublist.1 hs
        have := (mks_all (f := fun k => bOr (apartM m k) (bOr (bitA k.dep m.i) (bitA m.dep k.i)))).1 hb b hbl
        have h3 : cB (apartM m b) true (cB (bitA b.dep m.i) true (bitA m.dep b.i)) = true := this
        rw [bitA_eq, bitA_eq] at h3
        cases h4 : apartM m b with
        | true => exact .inl rfl
        | false =>
          rw [h4] at h3
          cases h5 : b.dep.testBit m.i with
          | true => exact .inr (.inl rfl)
          | false => rw [h5] at h3; exact .inr (.inr h3)
theorem mks_sub (l : List Oper) : ∀ (k i j : Nat) (x y : Oper), i < j → l[i]? = some x → l[j]? = some y → [mkOf ops (k + i) x, mkOf ops (k + j) y].Sublist (mks ops l k) := by
  induction l with
  | nil => intro k i j x y _ h _; simp at h
  | cons o l ih =>
    intro k i j x y h h1 h2
    cases j with
    | zero => omega
    | succ j =>
      rw [List.getElem?_cons_succ] at h2
      have e : mks ops (o :: l) k = mkOf ops k o :: mks ops l (k + 1) := rfl
      rw [e]
      cases i with
      | zero =>
        rw [List.getElem?_cons_zero] at h1
        cases h1
        exact List.Sublist.cons_cons _ (List.singleton_sublist.2 ((mks_mem _ _ _).2 ⟨j, y, h2, by rw [Nat.add_assoc, Nat.add_comm 1 j]⟩))
      | succ i =>
        rw [List.getElem?_cons_succ] at h1
        have := ih (k + 1) i j x y (by omega) h1 h2
        rw [Nat.add_assoc, Nat.add_comm 1 i, Nat.add_assoc, Nat.add_comm 1 j] at this
        exact List.Sublist.cons _ this
theorem free_ok (hp : pairsM (mks ops ops.toList 0) = true) {D : Nat} {A : Array Bool} (h : Rep ops D A) {i : Nat} (hr : i ∈ Region.ready .any ops A) : Region.free .any ops A i = true := by
  have hi : i < ops.size := by rw [Region.ready, List.mem_filter, List.mem_range] at hr; exact hr.1
  have hgi : ops[i]? = some ops[i] := Array.getElem?_eq_getElem hi
  rw [ready_mem h hgi] at hr
  have hsub : ∀ k, (depL ops[i].after.toList).testBit k = true → D.testBit k = true := by
    have h1 : cB (bNot (bitA D i)) (Nat.beq (Nat.land (depL ops[i].after.toList) D) (depL ops[i].after.toList)) false = true := hr
    cases hb : bNot (bitA D i) with
    | false => rw [hb] at h1; cases h1
    | true => rw [hb] at h1; exact and_sub.1 h1
  unfold Region.free
  rw [hgi]
  simp only [List.all_eq_true, List.mem_range]
  intro j hj
  have hgj : ops[j]? = some ops[j] := Array.getElem?_eq_getElem hj
  rw [hgj]
  by_cases e : j = i
  · simp [e]
  · have hne : (j == i) = false := by simpa using e
    rw [hne, Bool.false_or]
    cases hd : A.getD j true with
    | true => rfl
    | false =>
      rw [Bool.false_or]
      rw [h.getD hj] at hd
      have key : apartM (mkOf ops i ops[i]) (mkOf ops j ops[j]) = true ∨ apartM (mkOf ops j ops[j]) (mkOf ops i ops[i]) = true ∨ (depL ops[j].after.toList).testBit i = true ∨ (depL ops[i].after.toList).testBit j = true := by
        rcases Nat.lt_or_gt_of_ne e with hlt | hlt
        · have := pairs_aux hp _ _ (mks_sub ops.toList 0 j i _ _ hlt (by rw [Array.getElem?_toList]; exact hgj) (by rw [Array.getElem?_toList]; exact hgi))
          rw [Nat.zero_add, Nat.zero_add] at this
          rcases this with h1 | h1 | h1
          · exact .inr (.inl h1)
          · exact .inr (.inr (.inr h1))
          · exact .inr (.inr (.inl h1))
        · have := pairs_aux hp _ _ (mks_sub ops.toList 0 i j _ _ hlt (by rw [Array.getElem?_toList]; exact hgi) (by rw [Array.getElem?_toList]; exact hgj))
          rw [Nat.zero_add, Nat.zero_add] at this
          rcases this with h1 | h1 | h1
          · exact .inl h1
          · exact .inr (.inr (.inl h1))
          · exact .inr (.inr (.inr h1))
      rcases key with k | k | k | k
      · simp [(apartM_ok k).1]
      · simp [(apartM_ok k).2]
      · rw [depL_bit, List.any_eq_true] at k
        obtain ⟨x, hx, hx2⟩ := k
        rw [Bool.or_eq_true]; left
        rw [Array.any_eq_true']
        exact ⟨x, by simpa using hx, hx2⟩
      · rw [hsub j k] at hd; cases hd
theorem cB3 {a b : Bool} (h : cB a b false = true) : a = true ∧ b = true := by
  cases a with
  | false => cases h
  | true => exact ⟨rfl, h⟩
theorem okPlanM_ok (hp : pairsM (mks ops ops.toList 0) = true) : ∀ (p : Plan) {D L : Nat} {A B : Array Bool}, Rep ops D A → Rep ops L B → okPlanM ops (mks ops ops.toList 0) p D L = true → okPlan ops p A B = true
  | .done, D, L, A, B, hD, hL, h => by
    obtain ⟨h1, h2⟩ := cB3 (show cB (Nat.beq D L) (noneM (mks ops ops.toList 0) L) false = true from h)
    have : D = L := Nat.eq_of_beq_eq_true h1
    subst this
    simp only [okPlan, hD.inj hL, noneM_ok hL h2, decide_true, Bool.and_self]
  | .flt i p, D, L, A, B, hD, hL, h => by
    obtain ⟨h1, h2⟩ := cB3 (show cB (rdyI (mks ops ops.toList 0) i L) (cB (rdyI (mks ops ops.toList 0) i D) (okPlanM ops (mks ops ops.toList 0) p (setB D i) (setB L i)) false) false = true from h)
    obtain ⟨h2, h3⟩ := cB3 h2
    obtain ⟨o, k1, _, k2⟩ := rdyI_ok hL h1
    obtain ⟨_, _, _, k3⟩ := rdyI_ok hD h2
    have hi : i < ops.size := (Array.getElem?_eq_some_iff.1 k1).1
    simp only [okPlan, Bool.and_eq_true, List.contains_iff_mem]
    exact ⟨⟨⟨k2, k3⟩, free_ok hp hD k3⟩, okPlanM_ok hp p (hD.on hi) (hL.on hi) h3⟩
  | .prep i p, D, L, A, B, hD, hL, h => by
    obtain ⟨h1, h2⟩ := cB3 (show cB (rdyI (mks ops ops.toList 0) i L) (cB (rdyI (mks ops ops.toList 0) i D) (cB (lateAt ops i) (okPlanM ops (mks ops ops.toList 0) p D (setB L i)) false) false) false = true from h)
    obtain ⟨h2, h3⟩ := cB3 h2
    obtain ⟨h3, h4⟩ := cB3 h3
    obtain ⟨o, k1, _, k2⟩ := rdyI_ok hL h1
    obtain ⟨_, _, _, k3⟩ := rdyI_ok hD h2
    have hi : i < ops.size := (Array.getElem?_eq_some_iff.1 k1).1
    simp only [okPlan, Bool.and_eq_true, List.contains_iff_mem]
    exact ⟨⟨⟨⟨k2, k3⟩, free_ok hp hD k3⟩, h3⟩, okPlanM_ok hp p hD (hL.on hi) h4⟩
  | .bind i p, D, L, A, B, hD, hL, h => by
    obtain ⟨h1, h2⟩ := cB3 (show cB (lateAt ops i) (cB (bAnd (bNot (bitA D i)) (bitA L i)) (cB (bAnd (Nat.blt i ops.size) (onlyM (mks ops ops.toList 0) i (Nat.xor L (onB i)))) (okPlanM ops (mks ops ops.toList 0) p (setB D i) L) false) false) false = true from h)
    obtain ⟨h2, h3⟩ := cB3 h2
    obtain ⟨h3, h4⟩ := cB3 h3
    obtain ⟨h5, h6⟩ := cB3 (show cB (bNot (bitA D i)) (bitA L i) false = true from h2)
    obtain ⟨h7, h8⟩ := cB3 (show cB (Nat.blt i ops.size) (onlyM (mks ops ops.toList 0) i (Nat.xor L (onB i))) false = true from h3)
    have hi : i < ops.size := by simpa using h7
    rw [bitA_eq] at h5 h6
    have h5' : D.testBit i = false := by cases hb : D.testBit i with
      | true => rw [hb] at h5; cases h5
      | false => rfl
    have hoff := hL.off hi h6
    simp only [okPlan, Bool.and_eq_true, decide_eq_true_eq]
    refine ⟨⟨⟨⟨h1, ?_⟩, ?_⟩, onlyM_ok hoff hi h8⟩, okPlanM_ok hp p (hD.on hi) hL h4⟩
    · rw [hD.getD hi, h5']; rfl
    · rw [hL.getD hi, h6]
  | .eff i p, D, L, A, B, hD, hL, h => by
    obtain ⟨h1, h2⟩ := cB3 (show cB (rdyI (mks ops ops.toList 0) i L) (cB (rdyI (mks ops ops.toList 0) i D) (cB (onlyM (mks ops ops.toList 0) i L) (okPlanM ops (mks ops ops.toList 0) p (setB D i) (setB L i)) false) false) false = true from h)
    obtain ⟨h2, h3⟩ := cB3 h2
    obtain ⟨h3, h4⟩ := cB3 h3
    obtain ⟨o, k1, _, k2⟩ := rdyI_ok hL h1
    obtain ⟨_, _, _, k3⟩ := rdyI_ok hD h2
    have hi : i < ops.size := (Array.getElem?_eq_some_iff.1 k1).1
    simp only [okPlan, Bool.and_eq_true, decide_eq_true_eq, List.contains_iff_mem]
    exact ⟨⟨onlyM_ok hL hi h3, k3⟩, okPlanM_ok hp p (hD.on hi) (hL.on hi) h4⟩
theorem okPlanF_ok {p : Plan} (h : okPlanF ops (mks ops ops.toList 0) p = true) : okPlan ops p (noneListed ops) (noneListed ops) = true := by
  obtain ⟨h1, h2⟩ := cB3 (show cB (pairsM (mks ops ops.toList 0)) (okPlanM ops (mks ops ops.toList 0) p 0 0) false = true from h)
  exact okPlanM_ok h1 p Rep.none Rep.none h2
end
end Go.Proofs.YtfnjojdiiklleaaGreat.Ev
