/- Plain: the reference's loop that parts a text. Nothing of the program. -/
import Derived.Test.YtfbangojgjcbcaaGreatDoorPlainA
namespace Go.Proofs.YtfbangojgjcbcaaGreatDoor.Pl

/-- What holds of the reference's loop over a text: 'done' parts, the next begins at f, no such byte from f to i. -/
def SpInv (c : UInt8) (l : List UInt8) (i f : Nat) (done : List (List UInt8)) : Prop :=
  (i ≤ l.length ∧ f ≤ i ∧ splitOn c l = done ++ splitOn c (l.drop f) ∧ c ∉ (l.drop f).take (i - f)) ∨ (i = l.length + 1 ∧ splitOn c l = done)
theorem SpInv.start (c : UInt8) (l : List UInt8) : SpInv c l 0 0 [] := .inl ⟨Nat.zero_le _, Nat.le_refl _, by simp, by simp⟩
theorem drop_cut (l : List UInt8) (f i : Nat) (hf : f ≤ i) (hi : i < l.length) : l.drop f = (l.drop f).take (i - f) ++ l[i] :: l.drop (i + 1) := by
  have h1 := (List.take_append_drop (i - f) (l.drop f)).symm
  rw [List.drop_drop, show f + (i - f) = i by omega, List.drop_eq_getElem_cons hi] at h1
  exact h1
theorem SpInv.hit {c : UInt8} {l : List UInt8} {i f : Nat} {done : List (List UInt8)} (h : SpInv c l i f done) (hi : i < l.length) (hc : l[i] = c) : SpInv c l (i + 1) (i + 1) (done ++ [(l.drop f).take (i - f)]) := by
  rcases h with ⟨_, hf, he, hn⟩ | ⟨h, _⟩
  · refine .inl ⟨hi, Nat.le_refl _, ?_, by simp⟩
    rw [he, drop_cut l f i hf hi, hc, splitOn_app _ _ _ hn]
    have : ((l.drop f).take (i - f) ++ c :: l.drop (i + 1)).take (i - f) = (l.drop f).take (i - f) := by
      rw [← hc, ← drop_cut l f i hf hi]
    rw [this]
    simp
  · omega
theorem SpInv.miss {c : UInt8} {l : List UInt8} {i f : Nat} {done : List (List UInt8)} (h : SpInv c l i f done) (hi : i < l.length) (hc : ¬ l[i] = c) : SpInv c l (i + 1) f done := by
  rcases h with ⟨_, hf, he, hn⟩ | ⟨h, _⟩
  · refine .inl ⟨hi, by omega, he, ?_⟩
    have hlt : i - f < (l.drop f).length := by simp; omega
    rw [show i + 1 - f = i - f + 1 by omega, List.take_succ_eq_append_getElem hlt]
    intro hm
    rcases List.mem_append.1 hm with hm | hm
    · exact hn hm
    · simp only [List.mem_singleton, List.getElem_drop] at hm
      have e : f + (i - f) = i := by omega
      simp only [e] at hm
      exact hc hm.symm
  · omega
theorem SpInv.last {c : UInt8} {l : List UInt8} {f : Nat} {done : List (List UInt8)} (h : SpInv c l l.length f done) : SpInv c l (l.length + 1) (l.length + 1) (done ++ [(l.drop f).take (l.length - f)]) := by
  rcases h with ⟨_, hf, he, hn⟩ | ⟨h, _⟩
  · refine .inr ⟨rfl, ?_⟩
    have e : (l.drop f).take (l.length - f) = l.drop f := List.take_of_length_le (by simp)
    rw [e] at hn ⊢
    rw [he, splitOn_none _ _ hn]
  · omega
theorem SpInv.out {c : UInt8} {l : List UInt8} {f : Nat} {done : List (List UInt8)} (h : SpInv c l (l.length + 1) f done) : splitOn c l = done := by
  rcases h with ⟨h, _⟩ | ⟨_, h⟩
  · omega
  · exact h
theorem SpInv.len {c : UInt8} {l : List UInt8} {i f : Nat} {done : List (List UInt8)} (h : SpInv c l i f done) : done.length ≤ l.length + 1 := by
  have h1 := (splitOn_len c l).1
  rcases h with ⟨_, _, he, _⟩ | ⟨_, he⟩
  · rw [he, List.length_append] at h1; omega
  · rw [he] at h1; exact h1

open Go.Lib (decDigits itoa join)
def numOk (l : List UInt8) (most : Nat) : Bool := isNum l && decide (numVal l ≤ most)
theorem numOk_dec (l : List UInt8) (most : Nat) (h : numOk l most = true) : decDigits (numVal l) = l ∧ numVal l ≤ most ∧ isNum l = true := by
  simp only [numOk, Bool.and_eq_true, decide_eq_true_eq] at h
  exact ⟨isNum_dec l h.1, h.2, h.1⟩
theorem numOk_of (n most : Nat) (h : n ≤ most) (hn : n < 1000000000) : numOk (decDigits n) most = true ∧ numVal (decDigits n) = n := by
  obtain ⟨a, b⟩ := dec_isNum n hn
  exact ⟨by unfold numOk; rw [a, b]; simpa using h, b⟩
/-- The reference's walk over an address's parts. -/
def refPart (ps : List (List UInt8)) : Nat → Option Nat
  | 0 => some 0
  | j + 1 => match refPart ps j with
    | some a => if numOk (ps.getD j []) 255 = true then some (a * 256 + numVal (ps.getD j [])) else none
    | none => none
theorem refPart_none (ps : List (List UInt8)) (i j : Nat) (h : i ≤ j) (hn : refPart ps i = none) : refPart ps j = none := by
  induction j with
  | zero => have : i = 0 := by omega
            subst this; exact hn
  | succ j ih =>
    by_cases hij : i = j + 1
    · subst hij; exact hn
    · rw [refPart, ih (by omega)]
theorem refPart_lt (ps : List (List UInt8)) : ∀ j a, refPart ps j = some a → a < 256 ^ j := by
  intro j
  induction j with
  | zero => intro a h; simp only [refPart] at h; injection h with h; subst h; decide
  | succ j ih =>
    intro a h
    rw [refPart] at h
    split at h
    · split at h
      · rename_i b hb hok
        injection h with h
        have h1 := ih b hb
        have h2 := (numOk_dec _ _ hok).2.1
        rw [Nat.pow_succ]; omega
      · cases h
    · cases h
theorem refAddr_eq (l : List UInt8) : (if (splitOn 46 l).length = 4 then refPart (splitOn 46 l) 4 else none) = addrOf l := by
  have hj := splitOn_join 46 l
  generalize hp : splitOn 46 l = ps at hj
  by_cases h4 : ps.length = 4
  · rw [if_pos h4]
    match ps, h4 with
    | [x0, x1, x2, x3], _ =>
      by_cases hok : (numOk x0 255 = true ∧ numOk x1 255 = true) ∧ numOk x2 255 = true ∧ numOk x3 255 = true
      · obtain ⟨⟨k0, k1⟩, k2, k3⟩ := hok
        obtain ⟨e0, l0, _⟩ := numOk_dec _ _ k0
        obtain ⟨e1, l1, _⟩ := numOk_dec _ _ k1
        obtain ⟨e2, l2, _⟩ := numOk_dec _ _ k2
        obtain ⟨e3, l3, _⟩ := numOk_dec _ _ k3
        have hv : refPart [x0, x1, x2, x3] 4 = some (((numVal x0 * 256 + numVal x1) * 256 + numVal x2) * 256 + numVal x3) := by
          simp [refPart, k0, k1, k2, k3]
        rw [hv]
        generalize hA : ((numVal x0 * 256 + numVal x1) * 256 + numVal x2) * 256 + numVal x3 = A
        have ht : addrText A = l := by
          rw [← hj, addrText, octs_eq]
          have o0 : oct A 0 = numVal x0 := by simp only [oct]; simp; omega
          have o1 : oct A 1 = numVal x1 := by simp only [oct]; simp; omega
          have o2 : oct A 2 = numVal x2 := by simp only [oct]; simp; omega
          have o3 : oct A 3 = numVal x3 := by simp only [oct]; simp; omega
          rw [o0, o1, o2, o3, e0, e1, e2, e3]
        rw [← ht, addrOf_text A (by omega)]
      · have hn : refPart [x0, x1, x2, x3] 4 = none := by
          cases h : refPart [x0, x1, x2, x3] 4 with
          | none => rfl
          | some v =>
            exfalso
            apply hok
            simp only [refPart] at h
            by_cases k0 : numOk x0 255 = true <;> by_cases k1 : numOk x1 255 = true <;> by_cases k2 : numOk x2 255 = true <;> by_cases k3 : numOk x3 255 = true <;> simp_all
        rw [hn]
        cases ha : addrOf l with
        | none => rfl
        | some a =>
          exfalso
          obtain ⟨ht, ha'⟩ := addrOf_some l a ha
          rw [← ht, splitOn_addr, octs_eq] at hp
          injection hp with p0 hp; injection hp with p1 hp; injection hp with p2 hp; injection hp with p3 _
          apply hok
          have g := fun i => (numOk_of (oct a i) 255 (by have := oct_lt a i; omega) (by have := oct_lt a i; omega)).1
          exact ⟨⟨p0 ▸ g 0, p1 ▸ g 1⟩, p2 ▸ g 2, p3 ▸ g 3⟩
  · rw [if_neg h4]
    cases ha : addrOf l with
    | none => rfl
    | some a =>
      exfalso
      obtain ⟨ht, _⟩ := addrOf_some l a ha
      rw [← ht, splitOn_addr] at hp
      exact h4 (by rw [← hp, octs_length])
theorem refPrefix_eq (l : List UInt8) : (match splitOn 47 l with
    | [x, y] => (match addrOf x with
      | some a => if numOk y 32 = true ∧ mayP a (numVal y) = true then some (a, numVal y) else none
      | none => none)
    | _ => none) = prefixOf l := by
  have hj := splitOn_join 47 l
  have back : ∀ a n, prefixOf l = some (a, n) → splitOn 47 l = [addrText a, decDigits n] ∧ addrOf (addrText a) = some a ∧ numOk (decDigits n) 32 = true ∧ numVal (decDigits n) = n ∧ mayP a n = true := by
    intro a n h
    obtain ⟨ht, ha, hm⟩ := prefixOf_some l a n h
    have hn : n ≤ 32 := by unfold mayP at hm; simp at hm; omega
    refine ⟨?_, addrOf_text a ha, (numOk_of n 32 hn (by omega)).1, (numOk_of n 32 hn (by omega)).2, hm⟩
    rw [← ht, prefixText, splitOn_app _ _ _ (addr_noslash a 47 (by decide) (by decide)), splitOn_none _ _ (dec_no 47 (by decide) n)]
  cases hr : prefixOf l with
  | some an =>
    obtain ⟨a, n⟩ := an
    obtain ⟨h1, h2, h3, h4, h5⟩ := back a n hr
    rw [h1]
    simp only [h2]
    rw [if_pos ⟨h3, by rw [h4]; exact h5⟩, h4]
  | none =>
    split
    · rename_i x y hs
      rw [hs] at hj
      split
      · rename_i a hx
        split
        · rename_i hc
          exfalso
          obtain ⟨hy, _, _⟩ := numOk_dec _ _ hc.1
          obtain ⟨ht, ha⟩ := addrOf_some x a hx
          have hl : prefixText a (numVal y) = l := by
            rw [← hj, prefixText, ht, hy]; simp [join, List.intercalate]
          have := prefixOf_text a (numVal y) ha hc.2
          rw [hl, hr] at this
          cases this
        · rfl
      · rfl
    · rfl
end Go.Proofs.YtfbangojgjcbcaaGreatDoor.Pl
