/- Plain updates: their bytes and texts, and how these are read. Nothing of the program. -/
import Derived.Test.YteafakpipbhioaaDoorCtlB
import Derived.Lib.AtoiAll
namespace Go.Proofs.YteafakpipbhioaaDoor
open Go.RowKit Pl
open Go.Lib (decDigits join)

theorem mayU_iff {a n d : Int} : mayU a n d = true ↔ mayP a n = true ∧ 0 ≤ d ∧ d ≤ 255 := by
  simp only [mayU, Bool.and_eq_true, decide_eq_true_eq]; exact ⟨fun h => ⟨h.1.1, h.1.2, h.2⟩, fun h => ⟨⟨h.1, h.2.1⟩, h.2.2⟩⟩
theorem mayU_le {a n d : Nat} (h : mayU a n d = true) : n ≤ 32 ∧ d ≤ 255 := by
  obtain ⟨h1, h2, h3⟩ := mayU_iff.1 h
  have := mayP_len h1
  omega
/-- The update of bytes. -/
def ofU (l : List UInt8) : Option (Nat × Nat × Nat) :=
  if l.length = 6 ∧ mayU (getB (l.take 4) : Nat) ((l.getD 4 0).toNat : Nat) ((l.getD 5 0).toNat : Nat) = true then some (getB (l.take 4), (l.getD 4 0).toNat, (l.getD 5 0).toNat) else none

theorem bytesU_length (a n d : Nat) : (bytesU a n d).length = 6 := by simp [bytesU, putB_length]
theorem bytesU_parts (a n d : Nat) : (bytesU a n d).take 4 = putB a 4 ∧ (bytesU a n d).getD 4 0 = UInt8.ofNat n ∧ (bytesU a n d).getD 5 0 = UInt8.ofNat d := by
  have h := putB_length a 4
  refine ⟨?_, ?_, ?_⟩
  · rw [bytesU, List.take_append_of_le_length (by omega), List.take_of_length_le (by omega)]
  · rw [bytesU, List.getD_eq_getElem?_getD, List.getElem?_append_right (by omega), h]; rfl
  · rw [bytesU, List.getD_eq_getElem?_getD, List.getElem?_append_right (by omega), h]; rfl
theorem ofU_bytes (a n d : Nat) (ha : a < 4294967296) (h : mayU a n d = true) : ofU (bytesU a n d) = some (a, n, d) := by
  obtain ⟨h1, h2, h3⟩ := bytesU_parts a n d
  obtain ⟨hn, hd⟩ := mayU_le h
  have e1 : getB (putB a 4) = a := by
    rw [getB_putB]; exact Nat.mod_eq_of_lt (by have : (256 : Nat) ^ 4 = 4294967296 := by decide
                                               omega)
  have e2 : (UInt8.ofNat n).toNat = n := by rw [UInt8.toNat_ofNat']; omega
  have e3 : (UInt8.ofNat d).toNat = d := by rw [UInt8.toNat_ofNat']; omega
  unfold ofU
  rw [h1, h2, h3, e1, e2, e3, if_pos ⟨bytesU_length a n d, h⟩]
theorem ofU_some {l : List UInt8} {a n d : Nat} (h : ofU l = some (a, n, d)) : l.length = 6 ∧ a = getB (l.take 4) ∧ n = (l.getD 4 0).toNat ∧ d = (l.getD 5 0).toNat ∧ mayU a n d = true ∧ a < 4294967296 := by
  unfold ofU at h
  split at h
  · rename_i hc
    injection h with h; injection h with h1 h; injection h with h2 h3
    subst h1 h2 h3
    have hlt := getB_lt (l.take 4)
    have h4 : (l.take 4).length = 4 := by simp; omega
    rw [h4] at hlt
    exact ⟨hc.1, rfl, rfl, rfl, hc.2, hlt⟩
  · cases h
theorem bytesU_inj {a n d b m e : Nat} (ha : a < 4294967296) (hb : b < 4294967296) (h : mayU a n d = true) (h' : mayU b m e = true) (he : bytesU a n d = bytesU b m e) : a = b ∧ n = m ∧ d = e := by
  have h1 := ofU_bytes a n d ha h
  rw [he, ofU_bytes b m e hb h'] at h1
  injection h1 with h1; injection h1 with h1 h2; injection h2 with h2 h3
  exact ⟨h1.symm, h2.symm, h3.symm⟩

/-- An update's text. -/
def textU (a n d : Nat) : List UInt8 := prefixText a n ++ 32 :: decDigits d
/-- The update of a text. -/
def untextU (l : List UInt8) : Option (Nat × Nat × Nat) := match prefixOf (cutA 32 l), Lib.atoiAll (cutB 32 l) with
  | some (a, n), .ok d => if mayU a n d = true ∧ textU a n d.toNat = l then some (a, n, d.toNat) else none
  | _, _ => none

theorem parse10_digits : ∀ (l : List UInt8) (acc : Nat), l.all isDig = true → l.foldl (fun a c => a * 10 + (c.toNat - 48)) acc ≤ 1000000000000000000 →
    Lib.parseUint10 acc l = .ok (l.foldl (fun a c => a * 10 + (c.toNat - 48)) acc) := by
  have mono : ∀ (l : List UInt8) (a : Nat), a ≤ l.foldl (fun a c => a * 10 + (c.toNat - 48)) a := by
    intro l
    induction l with
    | nil => intro a; exact Nat.le_refl _
    | cons c l ih => intro a; rw [List.foldl_cons]; exact Nat.le_trans (by omega) (ih (a * 10 + (c.toNat - 48)))
  intro l
  induction l with
  | nil => intro acc _ _; rfl
  | cons c l ih =>
    intro acc hd hv
    simp only [List.all_cons, isDig, Bool.and_eq_true, decide_eq_true_eq] at hd
    rw [List.foldl_cons] at hv ⊢
    have h1 := mono l (acc * 10 + (c.toNat - 48))
    rw [Lib.parseUint10, if_pos hd.1, if_neg (by omega), if_neg (by omega)]
    exact ih _ hd.2 hv
/-- strconv.Atoi at a number's own text. -/
theorem atoi_dec (n : Nat) (h : n ≤ 1000000000) : Lib.atoiAll (decDigits n) = .ok (n : Int) := by
  obtain ⟨a, b, c, _⟩ := dec_dig n
  cases hl : decDigits n with
  | nil => rw [hl] at c; simp at c
  | cons x r =>
    rw [hl] at a b
    have hx := (List.all_eq_true.1 a) x (by simp)
    simp only [isDig, Bool.and_eq_true, decide_eq_true_eq] at hx
    unfold Lib.atoiAll Lib.parseMag
    have e1 : ¬ x.toNat = 43 := by omega
    have e2 : ¬ x.toNat = 45 := by omega
    have hp := parse10_digits (x :: r) 0 a (by show numVal (x :: r) ≤ _; rw [b]; omega)
    rw [show List.foldl (fun a c => a * 10 + (c.toNat - 48)) 0 (x :: r) = n from b] at hp
    simp only [e1, e2, or_self, not_false_eq_true, true_and, false_and, if_false]
    rw [if_neg (by simp), hp]
    simp only
    rw [if_neg (by omega)]
theorem prefixText_no (a n : Nat) (c : UInt8) (h1 : isDig c = false) (h2 : ¬ c = 46) (h3 : ¬ c = 47) : c ∉ prefixText a n := by
  simp only [prefixText, List.mem_append, List.mem_cons, not_or]
  exact ⟨addr_noslash a c h1 h2, h3, dec_no c h1 n⟩
theorem untextU_text (a n d : Nat) (ha : a < 4294967296) (h : mayU a n d = true) : untextU (textU a n d) = some (a, n, d) := by
  obtain ⟨hn, hd⟩ := mayU_le h
  obtain ⟨e1, e2⟩ := cut_app 32 (prefixText a n) (decDigits d) (prefixText_no a n 32 (by decide) (by decide) (by decide))
  unfold untextU
  rw [show textU a n d = prefixText a n ++ 32 :: decDigits d from rfl, e1, e2, prefixOf_text a n ha (mayU_iff.1 h).1, atoi_dec d (by omega)]
  simp only
  rw [if_pos ⟨h, by simp [textU]⟩]; simp
theorem untextU_some {l : List UInt8} {a n d : Nat} (h : untextU l = some (a, n, d)) : textU a n d = l ∧ a < 4294967296 ∧ mayU a n d = true := by
  unfold untextU at h
  split at h
  · rename_i a' n' d' h1 h2
    split at h
    · rename_i hc
      injection h with h; injection h with h3 h; injection h with h4 h5
      subst h3 h4 h5
      have hd := (mayU_iff.1 hc.1).2.1
      refine ⟨hc.2, (prefixOf_some _ _ _ h1).2.1, ?_⟩
      rw [show ((d'.toNat : Nat) : Int) = d' by omega]; exact hc.1
    · cases h
  · cases h
theorem textU_inj {a n d b m e : Nat} (ha : a < 4294967296) (hb : b < 4294967296) (h : mayU a n d = true) (h' : mayU b m e = true) (he : textU a n d = textU b m e) : a = b ∧ n = m ∧ d = e := by
  have h1 := untextU_text a n d ha h
  rw [he, untextU_text b m e hb h'] at h1
  injection h1 with h1; injection h1 with h1 h2; injection h2 with h2 h3
  exact ⟨h1.symm, h2.symm, h3.symm⟩
theorem textU_len (a n d : Nat) (h : mayU a n d = true) : (textU a n d).length ≤ 40 := by
  obtain ⟨hn, hd⟩ := mayU_le h
  have h1 := addrText_len a
  have h2 := dec_len n (by omega)
  have h3 := dec_len d (by omega)
  simp only [textU, prefixText, List.length_append, List.length_cons]; omega
/-- The reference's reading of a text. -/
theorem refUntext_eq (l : List UInt8) : (match splitOn 32 l with
    | [x, y] => (match prefixOf x with
      | some (a, n) => if numOk y 255 = true then some (a, n, numVal y) else none
      | none => none)
    | _ => none) = untextU l := by
  have hj := splitOn_join 32 l
  cases hr : untextU l with
  | some u =>
    obtain ⟨a, n, d⟩ := u
    obtain ⟨ht, ha, hm⟩ := untextU_some hr
    obtain ⟨hn, hd⟩ := mayU_le hm
    obtain ⟨k1, k2⟩ := numOk_of d 255 hd (by omega)
    have h1 : splitOn 32 l = [prefixText a n, decDigits d] := by
      rw [← ht, textU, splitOn_app _ _ _ (prefixText_no a n 32 (by decide) (by decide) (by decide)), splitOn_none _ _ (dec_no 32 (by decide) d)]
    rw [h1]
    simp only [prefixOf_text a n ha (mayU_iff.1 hm).1, k1, k2, if_true]
  | none =>
    split
    · rename_i x y hs
      rw [hs] at hj
      split
      · rename_i a n hx
        split
        · rename_i hc
          exfalso
          obtain ⟨hy, hle, _⟩ := numOk_dec _ _ hc
          obtain ⟨ht, ha, hm⟩ := prefixOf_some x a n hx
          have hl : textU a n (numVal y) = l := by
            rw [← hj, textU, ht, hy]; simp [join, List.intercalate]
          have := untextU_text a n (numVal y) ha (mayU_iff.2 ⟨hm, by omega, by omega⟩)
          rw [hl, hr] at this
          cases this
        · rfl
      · rfl
    · rfl
end Go.Proofs.YteafakpipbhioaaDoor
