/- A run of a program on abstract memory: what abstract values and memory stand for. -/
import Derived.Test.YthgkdadchfoomabGreatEvB
import Derived.Laws.Sem
namespace Go.Proofs.YthgkdadchfoomabGreat.Ev

/-! ### The cases' laws -/
@[simp] theorem cB_true {α : Type} (x y : α) : cB true x y = x := rfl
@[simp] theorem cB_false {α : Type} (x y : α) : cB false x y = y := rfl
@[simp] theorem cO_none {α β : Type} (n : β) (f : α → β) : cO none n f = n := rfl
@[simp] theorem cO_some {α β : Type} (a : α) (n : β) (f : α → β) : cO (some a) n f = f a := rfl
@[simp] theorem cL_nil {α β : Type} (n : β) (f : α → List α → β) : cL [] n f = n := rfl
@[simp] theorem cL_cons {α β : Type} (a : α) (l : List α) (n : β) (f : α → List α → β) : cL (a :: l) n f = f a l := rfl
@[simp] theorem cR_no {α β : Type} (n : β) (f : α → β) (g : List α → β) : cR .no n f g = n := rfl
@[simp] theorem cR_one {α β : Type} (a : α) (n : β) (f : α → β) (g : List α → β) : cR (.one a) n f g = f a := rfl
@[simp] theorem cR_many {α β : Type} (l : List α) (n : β) (f : α → β) (g : List α → β) : cR (.many l) n f g = g l := rfl
@[simp] theorem itL_nil {α β : Type} (n : β) (f : α → List α → β → β) : itL n f [] = n := rfl
@[simp] theorem itL_cons {α β : Type} (n : β) (f : α → List α → β → β) (a : α) (l : List α) : itL n f (a :: l) = f a l (itL n f l) := rfl
@[simp] theorem iterF_zero {α β : Type} (z : α → β) (s : (α → β) → α → β) : iterF z s 0 = z := rfl
@[simp] theorem iterF_succ {α β : Type} (z : α → β) (s : (α → β) → α → β) (n : Nat) : iterF z s (n + 1) = s (iterF z s n) := rfl
theorem bAnd_iff {a b : Bool} : bAnd a b = true ↔ a = true ∧ b = true := by cases a <;> cases b <;> simp [bAnd]
theorem bOr_iff {a b : Bool} : bOr a b = true ↔ a = true ∨ b = true := by cases a <;> cases b <;> simp [bOr]
theorem bNot_eq (a : Bool) : bNot a = !a := by cases a <;> rfl
theorem bEq_eq (a b : Bool) : bEq a b = (a == b) := by cases a <;> cases b <;> rfl

/-! ### Lists -/
theorem nth_eq {α : Type} : ∀ (n : Nat) (l : List α), nth n l = l[n]?
  | 0, [] => rfl
  | 0, _ :: _ => rfl
  | _ + 1, [] => rfl
  | n + 1, _ :: l => nth_eq n l
theorem drp_eq {α : Type} : ∀ (n : Nat) (l : List α), drp n l = l.drop n
  | 0, _ => rfl
  | _ + 1, [] => rfl
  | n + 1, _ :: l => drp_eq n l
theorem tke_some {α : Type} : ∀ (n : Nat) (l r : List α), tke n l = some r → r = l.take n ∧ n ≤ l.length
  | 0, l, r, h => by cases h; simp
  | n + 1, [], r, h => by cases h
  | n + 1, a :: l, r, h => by
    have h' : cO (tke n l) none (fun r => some (a :: r)) = some r := h
    cases hk : tke n l with
    | none => rw [hk] at h'; cases h'
    | some q =>
      rw [hk] at h'
      cases h'
      obtain ⟨h1, h2⟩ := tke_some n l q hk
      exact ⟨by simp [h1], by simp; exact h2⟩
theorem put0_some {α : Type} : ∀ (new l r : List α), put0 new l = some r → r = new ++ l.drop new.length ∧ new.length ≤ l.length
  | [], l, r, h => by cases h; simp
  | a :: new, [], r, h => by cases h
  | a :: new, b :: l, r, h => by
    have h' : cO (put0 new l) none (fun r => some (a :: r)) = some r := h
    cases hk : put0 new l with
    | none => rw [hk] at h'; cases h'
    | some q =>
      rw [hk] at h'
      cases h'
      obtain ⟨h1, h2⟩ := put0_some new l q hk
      exact ⟨by simp [h1], by simp; exact h2⟩
theorem put_some {α : Type} (new : List α) : ∀ (o : Nat) (l r : List α), put new o l = some r → r = l.take o ++ (new ++ l.drop (o + new.length)) ∧ o + new.length ≤ l.length
  | 0, l, r, h => by
    obtain ⟨h1, h2⟩ := put0_some new l r h
    exact ⟨by simpa using h1, by omega⟩
  | o + 1, [], r, h => by cases h
  | o + 1, a :: l, r, h => by
    have h' : cO (put new o l) none (fun r => some (a :: r)) = some r := h
    cases hk : put new o l with
    | none => rw [hk] at h'; cases h'
    | some q =>
      rw [hk] at h'
      cases h'
      obtain ⟨h1, h2⟩ := put_some new o l q hk
      refine ⟨?_, by simp; omega⟩
      rw [h1, Nat.add_right_comm]
      simp
theorem app_eq {α : Type} : ∀ (l m : List α), app l m = l ++ m
  | [], _ => rfl
  | a :: l, m => congrArg (a :: ·) (app_eq l m)
theorem len_eq {α : Type} : ∀ (l : List α), len l = l.length
  | [] => rfl
  | _ :: l => congrArg (· + 1) (len_eq l)
theorem rep_length {α : Type} (z : List α) : ∀ n, (rep z n).length = n * z.length
  | 0 => by show ([] : List α).length = _; simp
  | n + 1 => by
    have : rep z (n + 1) = app z (rep z n) := rfl
    rw [this, app_eq, List.length_append, rep_length z n, Nat.succ_mul, Nat.add_comm]

/-! ### Outcomes -/
/-- What may come. -/
noncomputable def R.has {α : Type} (x : R α) (a : α) : Prop := match x with
  | .no => False
  | .one b => a = b
  | .many l => a ∈ l
noncomputable def R.ok {α : Type} (x : R α) : Prop := match x with
  | .no => False
  | _ => True
theorem joinR_ok {α : Type} {x y : R α} (h : (joinR x y).ok) : x.ok ∧ y.ok := by
  cases x <;> cases y <;> first | exact h.elim | exact ⟨trivial, trivial⟩
theorem joinR_has {α : Type} {x y : R α} {a : α} (h : (joinR x y).ok) (ha : x.has a ∨ y.has a) : (joinR x y).has a := by
  cases x <;> cases y <;> first | exact h.elim | skip
  all_goals simp [joinR, R.has, app_eq] at ha ⊢
  all_goals (first | exact ha | (rcases ha with ha | ha <;> simp [ha]))
theorem gather_ok {α β : Type} {f : α → R β} : ∀ {l : List α}, (gather f l).ok → ∀ a ∈ l, (f a).ok ∧ ∀ b, (f a).has b → (gather f l).has b
  | [], _, _, h => by cases h
  | c :: l, h, a, ha => by
    have h' : (joinR (f c) (gather f l)).ok := h
    obtain ⟨h1, h2⟩ := joinR_ok h'
    rcases List.mem_cons.1 ha with rfl | ha
    · exact ⟨h1, fun b hb => joinR_has h' (.inl hb)⟩
    · obtain ⟨h3, h4⟩ := gather_ok h2 a ha
      exact ⟨h3, fun b hb => joinR_has h' (.inr (h4 b hb))⟩
theorem bindR_ok {α β : Type} {x : R α} {f : α → R β} (h : (bindR x f).ok) : x.ok ∧ ∀ a, x.has a → (f a).ok ∧ ∀ b, (f a).has b → (bindR x f).has b := by
  cases x with
  | no => exact h.elim
  | one c => exact ⟨trivial, fun a ha => by cases ha; exact ⟨h, fun b hb => hb⟩⟩
  | many l => exact ⟨trivial, fun a ha => gather_ok h a ha⟩
end Go.Proofs.YthgkdadchfoomabGreat.Ev
