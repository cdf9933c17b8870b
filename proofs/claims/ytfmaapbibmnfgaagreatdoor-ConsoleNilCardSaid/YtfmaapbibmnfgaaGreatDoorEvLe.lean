/- A run of a program on abstract memory: what the library's functions make of texts, told plainly. -/
import Derived.Test.YtfmaapbibmnfgaaGreatDoorEvZi
import Derived.Lib.SplitLaws
import Derived.Lib.Replace
import Derived.Lib.IndexAny
import Derived.Lib.IndexBytes
import Derived.Lib.AtoiAll
import Derived.Lib.ParseIntB
import Derived.Lib.ItoaNum
import Derived.Lib.Join
import Derived.Below
set_option linter.unusedSectionVars false
set_option linter.unusedVariables false
set_option linter.unusedSimpArgs false
namespace Go.Proofs.YtfmaapbibmnfgaaGreatDoor.Ev
variable [Vr]
/-- A text's bytes. -/
noncomputable def byT (l : List Nat) : List UInt8 := l.map Nat.toUInt8
noncomputable def LtB (l : List Nat) : Prop := ∀ n ∈ l, n < 256
theorem textOf_iff {l : List Nat} {s : ByteArray} (h : textOf l = some s) : s = ⟨(byT l).toArray⟩ ∧ LtB l := by
  unfold textOf at h
  split at h
  · rename_i e; cases h; exact ⟨rfl, fun n hn => by simpa using List.all_eq_true.1 e n hn⟩
  · cases h
theorem textOf_mk {l : List Nat} (h : LtB l) : textOf l = some ⟨(byT l).toArray⟩ := by
  unfold textOf; rw [if_pos (List.all_eq_true.2 fun n hn => by simpa using h n hn)]; rfl
theorem u8_inj {a c : Nat} (ha : a < 256) (hc : c < 256) : (a.toUInt8 = c.toUInt8) ↔ a = c := by
  constructor
  · intro h
    have := congrArg UInt8.toNat h
    simp only [Nat.toUInt8, UInt8.toNat_ofNat'] at this
    omega
  · intro h; rw [h]
theorem LtB.tail {a : Nat} {l : List Nat} (h : LtB (a :: l)) : LtB l := fun n hn => h n (List.mem_cons_of_mem _ hn)
theorem LtB.head {a : Nat} {l : List Nat} (h : LtB (a :: l)) : a < 256 := h a List.mem_cons_self
theorem LtB.take {l : List Nat} (h : LtB l) (n : Nat) : LtB (l.take n) := fun x hx => h x (List.mem_of_mem_take hx)
theorem LtB.drop {l : List Nat} (h : LtB l) (n : Nat) : LtB (l.drop n) := fun x hx => h x (List.mem_of_mem_drop hx)
theorem LtB.nil : LtB [] := fun _ h => by cases h
theorem LtB.app {l m : List Nat} (h : LtB l) (h' : LtB m) : LtB (l ++ m) := fun x hx => (List.mem_append.1 hx).elim (h x) (h' x)
/-! ### Where a byte stands -/
theorem idxB_eq {c : Nat} (hc : c < 256) : ∀ {l : List Nat}, LtB l → Lib.indexByte (byT l) c.toUInt8 = cO (idxB c l) (-1) fun i => (i : Int)
  | [], _ => rfl
  | a :: l, h => by
    have ih := idxB_eq hc h.tail
    have e : idxB c (a :: l) = cB (Nat.beq a c) (some 0) (cO (idxB c l) none fun n => some (Nat.add n 1)) := rfl
    rw [e]
    show Lib.indexByte (a.toUInt8 :: byT l) c.toUInt8 = _
    rw [Lib.indexByte]
    cases hb : Nat.beq a c with
    | true =>
      have : a = c := Nat.eq_of_beq_eq_true hb
      subst this
      rw [if_pos (by simp)]; rfl
    | false =>
      have hne : ¬ a.toUInt8 = c.toUInt8 := fun q => by rw [(u8_inj h.head hc).1 q, Nat.beq_refl] at hb; cases hb
      rw [if_neg (by simpa using hne), ih]
      cases idxB c l with
      | none => rfl
      | some n => simp [cO, cB] <;> omega
theorem hasB_idx {c : Nat} : ∀ {l : List Nat}, hasB c l = cO (idxB c l) false fun _ => true
  | [] => rfl
  | a :: l => by
    have e : idxB c (a :: l) = cB (Nat.beq a c) (some 0) (cO (idxB c l) none fun n => some (Nat.add n 1)) := rfl
    have e2 : hasB c (a :: l) = cB (Nat.beq a c) true (hasB c l) := rfl
    rw [e, e2, hasB_idx]
    cases Nat.beq a c with
    | true => rfl
    | false => cases idxB c l <;> rfl
theorem index_eq {c : Nat} (hc : c < 256) {l : List Nat} (h : LtB l) : Lib.index (byT l) [c.toUInt8] = cO (idxB c l) (-1) fun i => (i : Int) := by rw [Lib.index_one]; exact idxB_eq hc h
theorem contains_eq {c : Nat} (hc : c < 256) {l : List Nat} (h : LtB l) : Lib.contains (byT l) [c.toUInt8] = hasB c l := by
  rw [Lib.contains, index_eq hc h, hasB_idx]
  cases idxB c l with
  | none => rfl
  | some n => simp [cO]
theorem idxB_le {c : Nat} : ∀ {l : List Nat} {i : Nat}, idxB c l = some i → i < l.length
  | a :: l, i, h => by
    have h' : cB (Nat.beq a c) (some 0) (cO (idxB c l) none fun n => some (Nat.add n 1)) = some i := h
    cases hb : Nat.beq a c with
    | true => rw [hb] at h'; cases h'; simp
    | false =>
      rw [hb] at h'
      cases hi : idxB c l with
      | none => rw [hi] at h'; cases h'
      | some n => rw [hi] at h'; cases h'; have := idxB_le hi; simp; omega
theorem cut_eq {c : Nat} (hc : c < 256) {l : List Nat} (h : LtB l) : Lib.cut (byT l) [c.toUInt8] = cO (idxB c l) (byT l, [], false) fun i => (byT (l.take i), byT (l.drop (i + 1)), true) := by
  rw [Lib.cut, index_eq hc h]
  cases idxB c l with
  | none => rfl
  | some n => simp [cO, byT, List.map_take, List.map_drop]
/-! ### Parts -/
noncomputable def hdT (x : UInt8) : List (List UInt8) → List (List UInt8)
  | [] => [[x]]
  | h :: t => (x :: h) :: t
noncomputable def onT (c : UInt8) : List UInt8 → List (List UInt8)
  | [] => [[]]
  | x :: r => if x = c then [] :: onT c r else hdT x (onT c r)
theorem onT_ne (c : UInt8) (l : List UInt8) : onT c l ≠ [] := by
  cases l with
  | nil => simp [onT]
  | cons x r =>
    simp only [onT]
    split
    · simp
    · cases onT c r <;> simp [hdT]
theorem indexC (c x : UInt8) (r : List UInt8) : Lib.index (x :: r) [c] = if x = c then 0 else if Lib.index r [c] == -1 then -1 else Lib.index r [c] + 1 := by
  rw [Lib.index]
  by_cases h : x = c
  · simp [h]
  · have : ¬ c = x := fun e => h e.symm
    simp [h, this]
theorem split_on (c : UInt8) : ∀ s : List UInt8, Lib.splitK [c] 0 (Lib.count s [c]) s = onT c s := by
  intro s
  induction s with
  | nil => rw [Lib.count_one]; rfl
  | cons x r ih =>
    by_cases h : x = c
    · subst h
      rw [Lib.count_cons_eq, Nat.add_comm, Lib.splitK, indexC]
      simp [onT, ih]
    · rw [Lib.count_cons_ne x c r h]
      simp only [onT, if_neg h]
      rw [← ih]
      cases hk : Lib.count r [c] with
      | zero => rfl
      | succ k =>
        have hge := Lib.index_ge r [c]
        rw [Lib.splitK, Lib.splitK, indexC, if_neg h]
        by_cases hi : Lib.index r [c] = -1
        · simp [hi, hdT]
        · have hi' : (Lib.index r [c] == -1) = false := by simpa using hi
          have hn : (Lib.index r [c] + 1 == -1) = false := by simp; omega
          rw [hi']
          simp only [Bool.false_eq_true, if_false, hn, hdT, Nat.add_zero, List.length_singleton]
          have e1 : (Lib.index r [c] + 1).toNat = (Lib.index r [c]).toNat + 1 := by omega
          rw [e1, List.take_succ_cons]
          simp [Nat.add_assoc]
theorem splB_eq {c : Nat} (hc : c < 256) : ∀ {l : List Nat}, LtB l → (splB c l).map byT = onT c.toUInt8 (byT l) ∧ ∀ x ∈ splB c l, LtB x
  | [], _ => ⟨rfl, fun x hx => by cases List.mem_singleton.1 hx; exact LtB.nil⟩
  | a :: l, h => by
    obtain ⟨h1, h2⟩ := splB_eq hc h.tail
    have e : splB c (a :: l) = cB (Nat.beq a c) ([] :: splB c l) (cL (splB c l) [[a]] fun h t => (a :: h) :: t) := rfl
    rw [e]
    show _ = onT c.toUInt8 (a.toUInt8 :: byT l) ∧ _
    rw [onT]
    cases hb : Nat.beq a c with
    | true =>
      have : a = c := Nat.eq_of_beq_eq_true hb
      subst this
      rw [if_pos rfl]
      refine ⟨by rw [← h1]; rfl, fun x hx => ?_⟩
      rcases List.mem_cons.1 hx with rfl | hx
      · exact LtB.nil
      · exact h2 x hx
    | false =>
      have hne : ¬ a.toUInt8 = c.toUInt8 := fun q => by rw [(u8_inj h.head hc).1 q, Nat.beq_refl] at hb; cases hb
      rw [if_neg hne, ← h1]
      cases hs : splB c l with
      | nil => exact ⟨rfl, fun x hx => by cases List.mem_singleton.1 hx; exact fun n hn => by cases List.mem_singleton.1 hn; exact h.head⟩
      | cons p t =>
        refine ⟨rfl, fun x hx => ?_⟩
        rw [hs] at h2
        rcases List.mem_cons.1 hx with rfl | hx
        · exact fun n hn => by
            rcases List.mem_cons.1 hn with rfl | hn
            · exact h.head
            · exact h2 p List.mem_cons_self n hn
        · exact h2 x (List.mem_cons_of_mem _ hx)
theorem splB_ne (c : Nat) (l : List Nat) : splB c l ≠ [] := by
  cases l with
  | nil => intro h; cases h
  | cons a l =>
    have e : splB c (a :: l) = cB (Nat.beq a c) ([] :: splB c l) (cL (splB c l) [[a]] fun h t => (a :: h) :: t) := rfl
    rw [e]
    cases Nat.beq a c with
    | true => intro h; cases h
    | false => cases splB c l <;> (intro h; cases h)
/-! ### Joined -/
theorem joinT_eq (sep : List Nat) : ∀ l : List (List Nat), byT (joinT sep l) = Lib.join (l.map byT) (byT sep)
  | [] => rfl
  | [a] => by simp [joinT, itL, cL, Lib.join, List.intercalate]
  | a :: b :: t => by
    have e : joinT sep (a :: b :: t) = app a (app sep (joinT sep (b :: t))) := rfl
    rw [e, app_eq, app_eq]
    have ih := joinT_eq sep (b :: t)
    simp only [byT, List.map_append] at ih ⊢
    rw [ih]
    simp [Lib.join, List.intercalate, List.intersperse, byT]
theorem joinT_lt {sep : List Nat} (hs : LtB sep) : ∀ {l : List (List Nat)}, (∀ x ∈ l, LtB x) → LtB (joinT sep l)
  | [], _ => LtB.nil
  | [a], h => by simpa [joinT, itL, cL] using h a (by simp)
  | a :: b :: t, h => by
    have e : joinT sep (a :: b :: t) = app a (app sep (joinT sep (b :: t))) := rfl
    rw [e, app_eq, app_eq]
    exact (h a (by simp)).app (hs.app (joinT_lt hs fun x hx => h x (List.mem_cons_of_mem _ hx)))
theorem join_hd (a : UInt8) (x : List UInt8) (xs : List (List UInt8)) (t : List UInt8) : Lib.join ((a :: x) :: xs) t = a :: Lib.join (x :: xs) t := by
  cases xs <;> simp [Lib.join, List.intercalate, List.intersperse]
theorem join_nil (x : List UInt8) (xs : List (List UInt8)) (t : List UInt8) : Lib.join ([] :: x :: xs) t = t ++ Lib.join (x :: xs) t := by
  simp [Lib.join, List.intercalate, List.intersperse]
/-- All bytes c replaced: the parts joined. -/
theorem replace_on (c : UInt8) (t : List UInt8) : ∀ s : List UInt8, Lib.replaceK [c] t (Lib.count s [c]) s = Lib.join (onT c s) t := by
  intro s
  induction s with
  | nil => rw [Lib.count_one]; rfl
  | cons x r ih =>
    by_cases h : x = c
    · subst h
      rw [Lib.count_cons_eq, Nat.add_comm, Lib.replaceK, indexC]
      simp only [onT, if_true]
      cases ho : onT x r with
      | nil => exact absurd ho (onT_ne _ _)
      | cons p q => rw [join_nil, ← ho, ← ih]; simp
    · rw [Lib.count_cons_ne x c r h]
      simp only [onT, if_neg h]
      have e0 : Lib.join (hdT x (onT c r)) t = x :: Lib.join (onT c r) t := by
        cases ho : onT c r with
        | nil => exact absurd ho (onT_ne _ _)
        | cons p q => exact join_hd x p q t
      rw [e0, ← ih]
      cases hk : Lib.count r [c] with
      | zero => rfl
      | succ k =>
        have hge := Lib.index_ge r [c]
        rw [Lib.replaceK, Lib.replaceK, indexC, if_neg h]
        by_cases hi : Lib.index r [c] = -1
        · simp [hi]
        · have hi' : (Lib.index r [c] == -1) = false := by simpa using hi
          have hn : (Lib.index r [c] + 1 == -1) = false := by simp; omega
          rw [hi']
          simp only [Bool.false_eq_true, if_false, hn, List.length_singleton]
          have e1 : (Lib.index r [c] + 1).toNat = (Lib.index r [c]).toNat + 1 := by omega
          rw [e1, List.take_succ_cons]
          simp [Nat.add_assoc]
theorem join_on (c : UInt8) : ∀ s : List UInt8, Lib.join (onT c s) [c] = s
  | [] => rfl
  | x :: r => by
    have ih := join_on c r
    rw [onT]
    by_cases h : x = c
    · rw [if_pos h]
      cases ho : onT c r with
      | nil => exact absurd ho (onT_ne _ _)
      | cons p q => rw [join_nil, ← ho, ih, h]; rfl
    · rw [if_neg h]
      cases ho : onT c r with
      | nil => exact absurd ho (onT_ne _ _)
      | cons p q => rw [hdT, join_hd, ← ho, ih]
/-! ### Numbers -/
theorem digT_some {c d : Nat} (h : digT c = some d) : 48 ≤ c ∧ c ≤ 57 ∧ d = c - 48 := by
  have h' : cB (bAnd (Nat.ble 48 c) (Nat.ble c 57)) (some (Nat.sub c 48)) none = some d := h
  obtain ⟨h1, h2⟩ := cB_some h'
  obtain ⟨h3, h4⟩ := bAnd_iff.1 h1
  cases h2
  exact ⟨Nat.le_of_ble_eq_true h3, Nat.le_of_ble_eq_true h4, rfl⟩
theorem digsT_ok : ∀ {l : List Nat} {acc n : Nat}, digsT l acc = some n → acc ≤ n ∧ (∀ k, acc < 10 ^ k → n < 10 ^ (k + l.length)) ∧ (n < 10 ^ 18 → Lib.parseUint10 acc (byT l) = .ok n) ∧ ∀ M, M ≤ 255 → n ≤ M → Lib.parseUintM M acc (byT l) = .ok n
  | [], acc, n, h => by
    have : acc = n := Option.some.inj h
    subst this
    exact ⟨Nat.le_refl _, fun k hk => hk, fun _ => rfl, fun _ _ _ => rfl⟩
  | c :: l, acc, n, h => by
    have h' : cO (digT c) none (fun d => digsT l (Nat.add (Nat.mul acc 10) d)) = some n := h
    obtain ⟨d, h1, h2⟩ := cO_some' h'
    obtain ⟨d1, d2, rfl⟩ := digT_some h1
    obtain ⟨i1, i2, i3, i4⟩ := digsT_ok h2
    have hc : c.toUInt8.toNat = c := by simp [Nat.toUInt8]; omega
    have e : Nat.add (Nat.mul acc 10) (c - 48) = acc * 10 + (c - 48) := rfl
    rw [e] at i1 i2 i3 i4
    refine ⟨by omega, fun k hk => ?_, fun hn => ?_, fun M hM hn => ?_⟩
    · have := i2 (k + 1) (by rw [Nat.pow_succ]; omega)
      rw [List.length_cons, show k + (l.length + 1) = k + 1 + l.length by omega]; exact this
    · show Lib.parseUint10 acc (c.toUInt8 :: byT l) = _
      rw [Lib.parseUint10, hc, if_pos ⟨d1, d2⟩, if_neg (by omega), if_neg (by omega)]
      exact i3 hn
    · show Lib.parseUintM M acc (c.toUInt8 :: byT l) = _
      rw [Lib.parseUintM, hc, if_pos ⟨d1, d2⟩, if_neg (by omega), if_neg (by omega)]
      exact i4 M hM hn
theorem numT_ok {l : List Nat} {n : Nat} (h : numT' l = some n) : n < 10 ^ 18 ∧ Lib.atoiAll (byT l) = .ok (n : Int) ∧ (n < 256 → Lib.parseUintB 8 (byT l) = .ok n) := by
  cases l with
  | nil => cases h
  | cons c r =>
    have h' : cB (Nat.ble (len (c :: r)) 18) (digsT (c :: r) 0) none = some n := h
    obtain ⟨h1, h2⟩ := cB_some h'
    have hl : (c :: r).length ≤ 18 := by have := Nat.le_of_ble_eq_true h1; rwa [len_eq] at this
    obtain ⟨_, i2, i3, i4⟩ := digsT_ok h2
    have hn : n < 10 ^ 18 := by
      have := i2 0 (by decide)
      exact Nat.lt_of_lt_of_le this (Nat.pow_le_pow_right (by decide) (by omega))
    have h3 : cO (digT c) none (fun d => digsT r (Nat.add (Nat.mul 0 10) d)) = some n := h2
    obtain ⟨d, h4, _⟩ := cO_some' h3
    obtain ⟨d1, d2, _⟩ := digT_some h4
    have hc : c.toUInt8.toNat = c := by simp [Nat.toUInt8]; omega
    have hm : Lib.parseMag (byT (c :: r)) = .ok n := by
      rw [Lib.parseMag, if_neg (by intro e; cases e)]; exact i3 hn
    refine ⟨hn, ?_, fun hb => ?_⟩
    · show Lib.atoiAll (c.toUInt8 :: byT r) = _
      have hm : Lib.parseMag (c.toUInt8 :: byT r) = .ok n := hm
      have n1 : ¬ (c = 43 ∨ c = 45) := by omega
      have n2 : ¬ c = 45 := by omega
      simp only [Lib.atoiAll, hc, if_neg n1, hm]
      simp only [n2, not_false_eq_true, true_and, if_false, false_and]
      rw [if_neg (by omega)]
    · rw [Lib.parseUintB, if_neg (by intro e; cases e)]
      exact i4 _ (by decide) (by show n ≤ 255; omega)
theorem itoaN_ok : ∀ {k n : Nat} {acc r : List Nat}, itoaN k n acc = some r → n < 10 ^ k ∧ byT r = Lib.decDigits n ++ byT acc ∧ (LtB acc → LtB r)
  | 0, _, _, _, h => by cases h
  | k + 1, n, acc, r, h => by
    have h' : cB (Nat.blt n 10) (some (Nat.add 48 n :: acc)) (itoaN k (Nat.div n 10) (Nat.add 48 (Nat.mod n 10) :: acc)) = some r := h
    cases hb : Nat.blt n 10 with
    | true =>
      have hn : n < 10 := by simpa using hb
      rw [hb] at h'; cases h'
      refine ⟨Nat.lt_of_lt_of_le hn (by rw [Nat.pow_succ]; have := Nat.one_le_pow k 10 (by decide); omega), ?_, fun ha => fun x hx => ?_⟩
      · rw [Lib.decDigits, dif_pos hn]; rfl
      · rcases List.mem_cons.1 hx with rfl | hx
        · show 48 + n < 256; omega
        · exact ha x hx
    | false =>
      have hn : ¬ n < 10 := fun q => by rw [show Nat.blt n 10 = true by simpa using q] at hb; cases hb
      rw [hb] at h'
      have h' : itoaN k (n / 10) ((48 + n % 10) :: acc) = some r := h'
      obtain ⟨i1, i2, i3⟩ := itoaN_ok h'
      refine ⟨by rw [Nat.pow_succ]; omega, ?_, fun ha => i3 fun x hx => ?_⟩
      · rw [i2]
        conv => rhs; rw [Lib.decDigits, dif_neg hn]
        rw [List.append_assoc]; rfl
      · rcases List.mem_cons.1 hx with rfl | hx
        · omega
        · exact ha x hx
end Go.Proofs.YtfmaapbibmnfgaaGreatDoor.Ev
namespace Go.Proofs.YtfmaapbibmnfgaaGreatDoor.Ev
open Go.RowKit (Below)
variable [Vr]
section
variable {P : Program} {ρ : Rho} {S : AS} {w : World}
/-- What a call leaves that only made memory. -/
theorem Sat.below (hs : Sat P ρ S w) {w' : World} (hb : Below w.heap.size w w') : Sat P ρ S w' ∧ Ext ρ S w ρ S w' := by
  have hget : ∀ g, g < w.heap.size → w'.heap[g]? = w.heap[g]? := fun g hg => hb.block g hg
  refine ⟨⟨fun p => ?_, hs.inj, fun p g o c h => ?_, fun p g k h => ?_, hs.stinj, hs.glob, fun g hg => ?_⟩, ⟨Le.refl _, hb.size, fun g hg _ => hget g hg, fun _ _ h => h, hb.os, hb.tape, hb.output, Tr.refl _⟩⟩
  · by_cases hf : S.at p = .free
    · have := hs.obj p; rw [hf] at this ⊢; exact this
    · exact (hs.obj p).mono hf (Le.refl _) fun g off cap hg _ => hget g (hs.bnd _ _ _ _ hg)
  · have := hs.bnd _ _ _ _ h; have := hb.size; omega
  · obtain ⟨h1, h2⟩ := hs.stp _ _ _ h
    exact ⟨by have := hb.size; omega, fun es c hc => h2 es c (by rw [← hget g h1]; exact hc)⟩
  · obtain ⟨c, hc⟩ := hs.glob g hg
    exact ⟨(hget g (hs.bnd _ _ _ _ (look_path hc))).trans (hs.vars g hg).1, (hs.vars g hg).2⟩
/-- A name for an interface's value. -/
theorem Sat.tell (hs : Sat P ρ S w) {i : Nam} {t : TypeId} {v : Value} {S' : AS} (hf : S.at i.p = .free) (hS : ∀ p, S'.at p = if p = i.p then .dead else S.at p) (htr : Tr S S') :
    Sat P (ρ.set i.p (.ifc t v)) S' w ∧ Ext ρ S w (ρ.set i.p (.ifc t v)) S' w := by
  have hn : ρ i.p = none := by have := hs.obj i.p; rw [hf] at this; exact this
  have hle : Le ρ (ρ.set i.p (.ifc t v)) := Rho.set_le hn
  have old : ∀ {p g o c}, ρ.set i.p (.ifc t v) p = some (.blk g o c) → ρ p = some (.blk g o c) := fun {p g o c} h => by
    by_cases e : p = i.p
    · subst e; rw [Rho.set_same] at h; cases h
    · rwa [Rho.set_other _ _ e] at h
  have olds : ∀ {p g k}, ρ.set i.p (.ifc t v) p = some (.stp g k) → ρ p = some (.stp g k) := fun {p g k} h => by
    by_cases e : p = i.p
    · subst e; rw [Rho.set_same] at h; cases h
    · rwa [Rho.set_other _ _ e] at h
  have lv : ∀ {p}, (S'.at p).live → (S.at p).live := fun {p} h => by
    rw [hS p] at h; split at h
    · exact h.elim
    · exact h
  refine ⟨⟨fun p => ?_, fun p q g o c o' c' hp hq e1 e2 => hs.inj _ _ _ _ _ _ _ (lv hp) (lv hq) (old e1) (old e2), fun p g o c h => hs.bnd _ _ _ _ (old h), fun p g k h => hs.stp _ _ _ (olds h), fun p q g k h h' => hs.stinj _ _ _ _ (olds h) (olds h'),
      fun g hg => ?_, fun g hg => ⟨(hs.vars g hg).1, fun p o c hl hp => (hs.vars g hg).2 p o c (lv hl) (old hp)⟩⟩,
    ⟨hle, Nat.le_refl _, fun _ _ _ => rfl, fun g _ ⟨p, o, c, e1, e2⟩ => ⟨p, o, c, old e1, lv e2⟩, rfl, rfl, rfl, htr⟩⟩
  · rw [hS p]
    by_cases e : p = i.p
    · rw [if_pos e]; exact trivial
    · rw [if_neg e]
      by_cases hfr : S.at p = .free
      · rw [hfr]; show ρ.set i.p _ p = none
        rw [Rho.set_other _ _ e]
        have := hs.obj p; rw [hfr] at this; exact this
      · exact (hs.obj p).mono hfr hle fun _ _ _ _ _ => rfl
  · obtain ⟨c, hc⟩ := hs.glob g hg
    exact ⟨c, hle.look hc⟩
/-- What a contract gives. -/
noncomputable def Gives (P : Program) (ρ : Rho) (S : AS) (w : World) (f : FuncId) (us : List Value) (x : R (Out × AS)) : Prop := Calls P f us.toArray w (RetPost P ρ S w x)
theorem gives_one {f : FuncId} {us : List Value} (hs : Sat P ρ S w) {v : AV} {u : Value} (hc : conc ρ v = some u) (h : Calls P f us.toArray w fun e w' => e = .returned u ∧ Below w.heap.size w w') : Gives P ρ S w f us (one1 S v) :=
  h.mono fun e w' ⟨he, hb⟩ => by
    subst he
    obtain ⟨h1, h2⟩ := hs.below hb
    exact ⟨v, S, ρ, rfl, h2, h1, hc⟩
/-- A number beside an error. -/
theorem gives_err {f : FuncId} {us : List Value} (hs : Sat P ρ S w) {v : AV} {u : Value} (hc : conc ρ v = some u) (hok : (errV S v).ok) (h : Calls P f us.toArray w fun e w' => (∃ t p, e = .returned (.tuple #[u, .iface t p])) ∧ Below w.heap.size w w') : Gives P ρ S w f us (errV S v) := by
  obtain ⟨i, hi, hf, e⟩ := newA_ok (S := S) (o := .dead) (by_ := 1) (no := R.no) (k := fun i s' => .one (.val (.tuple [v, .ifo i]), s')) (x := errV S v) rfl (by intro e; rw [e] at hok; exact hok)
  rw [← e]
  refine h.mono fun e w' ⟨⟨t, p, he⟩, hb⟩ => ?_
  subst he
  obtain ⟨h1, h2⟩ := hs.below hb
  obtain ⟨h3, h4⟩ := h1.tell (i := i) (t := t) (v := p) hf (at_put (by intro e; cases e) rfl) (Tr.put rfl)
  refine ⟨_, _, _, rfl, h2.trans h4, h3, ?_⟩
  simp only [conc, concs, conc_mono h4.le _ hc, look_set hi]
/-- A row of texts in a new block. -/
theorem gives_row {f : FuncId} {us : List Value} (hs : Sat P ρ S w) {tS : TypeId} {l : List AV} {vs : List Value} (hc : concs ρ l = some vs) (hok : (newRowS tS l S).ok) (h : Calls P f us.toArray w fun e w' => e = .returned (.slice (some ⟨w.heap.size, 0, none⟩) l.length l.length) ∧ w' = w.alloc (.cells vs.toArray tS)) : Gives P ρ S w f us (newRowS tS l S) := by
  obtain ⟨i, hi, hf, e⟩ := newA_ok (S := S) (o := .cells .own tS l) (by_ := 1) (no := R.no) (k := fun i s' => .one (.val (.slice i 0 (len l) (len l)), s')) (x := newRowS tS l S) rfl (by intro e; rw [e] at hok; exact hok)
  rw [← e]
  refine h.mono fun e w' ⟨he, hw⟩ => ?_
  subst he; subst hw
  obtain ⟨h1, h2⟩ := hs.newCells (m := .own) (t := tS) (cap := 0) (w' := w.alloc (.cells vs.toArray tS)) (arr := vs.toArray) (fz := (0, 0)) hf (at_put (by intro e; cases e) rfl) (Tr.put rfl) rfl rfl rfl rfl hc (fz0 _)
    (fun i v h => by rw [List.getElem?_toArray]; exact h) (fun _ => ⟨rfl, rfl⟩) (fun h => by cases h) (fun h => by cases h)
  refine ⟨_, _, _, rfl, h2, h1, ?_⟩
  simp [conc, look_set hi, len_eq]
theorem Gives.lib {f : FuncId} {us : List Value} {x : R (Out × AS)} (h : Gives P ρ S w f us x) : ∀ N, CallsIn Fence.wide N P f us.toArray w (RetPost P ρ S w x) := fun _ => callsIn_wide.2 h
/-- What the texts in a row are. -/
theorem strsA_ok : ∀ {l : List AV} {r : List (List Nat)} {vs : List Value}, strsA l = some r → concs ρ l = some vs → vs = (r.map byT).map (fun b => Value.string ⟨b.toArray⟩) ∧ (∀ x ∈ r, LtB x) ∧ r.length = l.length
  | [], r, vs, h, hv => by
    have : r = [] := (Option.some.inj h).symm
    subst this
    exact ⟨concs_nil hv, fun x hx => absurd hx List.not_mem_nil, rfl⟩
  | a :: l, r, vs, h, hv => by
    have h' : vStr a none (fun x => cO (strsA l) none fun q => some (x :: q)) = some r := h
    obtain ⟨x, rfl, h1⟩ := vStr_some h'
    have h1 : cO (strsA l) none (fun q => some (x :: q)) = some r := h1
    obtain ⟨q, h2, h3⟩ := cO_some' h1
    cases h3
    obtain ⟨u, vs', rfl, h4, h5⟩ := concs_cons hv
    obtain ⟨i1, i2, i3⟩ := strsA_ok h2 h5
    obtain ⟨s, rfl, hs⟩ := conc_str h4
    obtain ⟨rfl, hl⟩ := textOf_iff hs
    refine ⟨by rw [i1]; rfl, fun y hy => ?_, by simp [i3]⟩
    rcases List.mem_cons.1 hy with rfl | hy
    · exact hl
    · exact i2 y hy
theorem onlyT_some {l : List Nat} {c : Nat} (h : onlyT l = some c) : l = [c] ∧ c < 128 := by
  cases l with
  | nil => cases h
  | cons a r =>
    have h' : cL r (cB (Nat.blt a 128) (some a) none) (fun _ _ => none) = some c := h
    cases r with
    | cons _ _ => cases h'
    | nil =>
      obtain ⟨h1, h2⟩ := cB_some (show cB (Nat.blt a 128) (some a) none = some c from h')
      cases h2
      exact ⟨rfl, by simpa using h1⟩
theorem strsV_conc : ∀ {l : List (List Nat)}, (∀ x ∈ l, LtB x) → concs ρ (strsV l) = some ((l.map byT).map fun b => Value.string ⟨b.toArray⟩)
  | [], _ => rfl
  | a :: l, h => by
    show concs ρ (.str a :: strsV l) = _
    refine concs_cons' ?_ (strsV_conc fun x hx => h x (List.mem_cons_of_mem _ hx))
    simp only [conc, textOf_mk (h a (by simp))]
theorem strsV_len (l : List (List Nat)) : (strsV l).length = l.length := by
  induction l with
  | nil => rfl
  | cons a l ih => show (strsV l).length + 1 = _; rw [ih]; rfl
end
end Go.Proofs.YtfmaapbibmnfgaaGreatDoor.Ev
namespace Go.Proofs.YtfmaapbibmnfgaaGreatDoor.Ev
variable [Vr]
section
variable {P : Program} {cf : Cf} {vm : Vm} {ρ : Rho} {S : AS} {w : World}
/-- What a piece of code does, whatever tells it. -/
noncomputable def CodeX (P : Program) (vm : Vm) (n : Nat) (c : Code) (x : FrA → AS → R (Out × AS)) : Prop := ∀ (ρ : Rho) (S : AS) (w : World) (fr : FrA) (a : Act), Sat P ρ S w → FR vm ρ fr n (fun _ => False) a →
  (x fr S).ok → ∀ N, c.wpIn (Wf none) N P (CodePost P vm ρ S w n (x fr S)) a w
theorem CodeX.of {fn : FuncId} {n : Nat} {ev : Ev} (he : EvSpec P ev) (hmix : P.follows .mixedOrders = true) (c : Code) : CodeX P vm n c fun fr s => (kCode P cf vm fn n c).f none ev fr s :=
  fun ρ S w fr a hs hf hok N => kCode_ok he hmix (range_is he) c ρ S w none none fr a hs trivial hf hok N
theorem CodeX.seq {n : Nat} {a b : Code} {x y : FrA → AS → R (Out × AS)} (hx : CodeX P vm n a x) (hy : CodeX P vm n b y) : CodeX P vm n (.seq a b) fun fr s => thenA (x fr s) y := fun ρ S w fr ac hs hf hok N => by
  obtain ⟨h1, h2⟩ := thenA_ok hok
  refine wpIn_seq (wpIn_mono (hx _ _ _ _ _ hs hf h1 N) fun e a' w' hp => ?_)
  obtain ⟨ex, fr', S', ρ', q1, q2, q3, q4, q5⟩ := hp
  obtain ⟨h3, h4⟩ := h2 ex fr' S' q1
  cases ex with
  | normal =>
    cases e with
    | normal =>
      obtain ⟨h5, h6⟩ := h3 rfl
      exact wpIn_mono (hy _ _ _ _ _ q4 q5 h5 N) fun e a'' w'' hp => hp.lift h6 q3
    | _ => exact q2.elim
  | exit i =>
    cases e with
    | exit j => exact ⟨_, fr', S', ρ', h4 (by intro e; cases e), q2, q3, q4, q5⟩
    | _ => exact q2.elim
  | ret =>
    cases e with
    | ret => exact ⟨_, fr', S', ρ', h4 (by intro e; cases e), q2, q3, q4, q5⟩
    | _ => exact q2.elim
/-- A function's own run, in whatever memory it begins. -/
theorem fnX_ok {x : FrA → AS → R (Out × AS)} {f : FuncId} {fn : Func} (hfn : P.funcs[f]? = some fn) {c : Code} (hb : fn.body = some c) (hres : okRes fn.results.toList = true) (hn256 : fn.ntmps ≤ 256) (hx : CodeX P vm fn.ntmps c x)
    {args : List AV} {us : List Value} (hs : Sat P ρ S w) (ha : concs ρ args = some us) {t : TF} (hka : (kArgs vm fn.ntmps 0).f args UF = some t) {Q : Value → World → Prop}
    (k1 : (finsA P vm fn.results.toList (x ⟨t, []⟩ S)).ok)
    (hQ : ∀ v S' ρ' u w', (finsA P vm fn.results.toList (x ⟨t, []⟩ S)).has (v, S') → Ext ρ S w ρ' S' w' → Sat P ρ' S' w' → conc ρ' v = some u → Q u w') (N : Nat) :
    CallsIn Fence.wide N P f us.toArray w (fun e w' => match e with | .returned u => Q u w' | _ => False) := by
  obtain ⟨r1, r2⟩ := kArgs_ok (tmps := #[]) hka ha (by omega) rfl (fun j hj => by rw [tget_U]; simp [conc, concs, undef])
  have hf0 : FR vm ρ ⟨t, []⟩ fn.ntmps (fun _ => False) { tmps := us.toArray ++ Array.replicate (fn.ntmps - us.toArray.size) undef, defers := [] } := by
    refine ⟨by simp; omega, fun i hi _ => ?_, .nil⟩
    rw [r2 i hi]
    have e0 : (#[] : Array Value) ++ us.toArray = us.toArray := by simp
    rw [e0]
    congr 1
    simp only [Array.getD_eq_getD_getElem?]
    by_cases c1 : i < us.length
    · rw [Array.getElem?_append_left (by simpa using c1)]
    · rw [Array.getElem?_append_right (by simpa using c1), Array.getElem?_replicate, Array.getElem?_eq_none (by simpa using c1)]
      by_cases c2 : i - us.toArray.size < fn.ntmps - us.toArray.size
      · rw [if_pos c2]; rfl
      · rw [if_neg c2]
  obtain ⟨k3, k4⟩ := bindR_ok k1
  refine callsIn_of_wp_marks hfn hb trivial (wpIn_mono (F := Fence.wide) (hx ρ S w ⟨t, []⟩ _ hs hf0 k3 N) fun e a w1 hp => ?_)
  obtain ⟨ex, fr1, S1, ρ1, q1, q2, q3, q4, q5⟩ := hp
  obtain ⟨k5, k6⟩ := k4 _ q1
  have fin : ∀ ex, (ex = Ex.normal ∨ ex = .ret) → (finA P vm fn.results.toList ex fr1 S1).ok → (∀ z, (finA P vm fn.results.toList ex fr1 S1).has z → (finsA P vm fn.results.toList (x ⟨t, []⟩ S)).has z) →
      LeavesInM Fence.wide N P fn a.tmps (fun e w' => match e with | .returned u => Q u w' | _ => False) a.defers .returning w1 := fun ex hex hok2 hhas => by
    have hF : finA P vm fn.results.toList ex fr1 S1 = cO (undoA fr1.ds S1) .no fun s' => cO ((kRes P vm fn.results.toList).f fr1 s') .no fun l => .one (oneA l, s') := by
      rcases hex with rfl | rfl <;> rfl
    rw [hF] at hok2 hhas
    cases hun : undoA fr1.ds S1 with
    | none => rw [hun] at hok2; exact hok2.elim
    | some S2 =>
    rw [hun] at hok2 hhas
    simp only [cO_some] at hok2 hhas
    cases hkr : (kRes P vm fn.results.toList).f fr1 S2 with
    | none => rw [hkr] at hok2; exact hok2.elim
    | some l =>
    rw [hkr] at hhas
    simp only [cO_some] at hhas
    refine leaves_ok hun q4 q5.defs fun w' g1 g2 => ?_
    obtain ⟨u, u1, u2⟩ := results_ok g1 q5 hres hkr
    exact ⟨u, u2, hQ _ _ _ _ _ (hhas _ rfl) (q3.trans g2) g1 u1⟩
  cases ex with
  | normal =>
    cases e with
    | normal => exact fin .normal (.inl rfl) k5 k6
    | _ => exact q2.elim
  | ret =>
    cases e with
    | ret => exact fin .ret (.inr rfl) k5 k6
    | _ => exact q2.elim
  | exit i => exact k5.elim
end
end Go.Proofs.YtfmaapbibmnfgaaGreatDoor.Ev
