/- Plain: numbers in a script's lines; a link's line; both readers agree. Nothing of the program. -/
import Derived.Test.YtfbangojgjcbcaaGreatDoorPlainX
namespace Go.Proofs.YtfbangojgjcbcaaGreatDoor.Pl
open Go.Lib (decDigits itoa join)

def In64 (n : Int) : Prop := -9223372036854775808 ≤ n ∧ n ≤ 9223372036854775807
/-- The code's reading of a number; of none 0. -/
def numC (s : List UInt8) : Int := match Lib.atoiAll s with
  | .ok v => v
  | _ => 0
theorem numC_itoa {n : Int} (h : In64 n) : numC (itoa n) = n := by unfold numC; rw [atoi_itoa n h.1 h.2]
theorem numC_in (s : List UInt8) : In64 (numC s) := by
  unfold numC
  cases h : Lib.atoiAll s with
  | ok v => exact atoi_bd h
  | _ => exact ⟨by decide, by decide⟩
/-- The document's reading of a number: twenty bytes at most, whatever they are. -/
def numStep (x : Nat) (b : UInt8) : Nat := (x * 10 + b.toNat + 18446744073709551568) % 18446744073709551616
def toI64 (x : Nat) : Int := if x < 9223372036854775808 then (x : Int) else (x : Int) - 18446744073709551616
def isNeg (s : List UInt8) : Bool := decide (s.head? = some 45)
def numU (s : List UInt8) : Nat := ((s.take 20).drop (if isNeg s then 1 else 0)).foldl numStep 0
def numR (s : List UInt8) : Int := if isNeg s then toI64 ((18446744073709551616 - numU s) % 18446744073709551616) else toI64 (numU s)
theorem numStep_lt (x : Nat) (b : UInt8) : numStep x b < 18446744073709551616 := Nat.mod_lt _ (by decide)
theorem numU_lt (s : List UInt8) : numU s < 18446744073709551616 := by
  have : ∀ (l : List UInt8) (a : Nat), a < 18446744073709551616 → l.foldl numStep a < 18446744073709551616 := by
    intro l
    induction l with
    | nil => intro a h; exact h
    | cons c l ih => intro a _; rw [List.foldl_cons]; exact ih _ (numStep_lt a c)
  exact this _ 0 (by decide)
theorem toI64_in {x : Nat} (h : x < 18446744073709551616) : In64 (toI64 x) := by
  unfold toI64 In64
  split <;> omega
theorem numR_in (s : List UInt8) : In64 (numR s) := by
  have h := numU_lt s
  unfold numR
  split
  · exact toI64_in (Nat.mod_lt _ (by decide))
  · exact toI64_in h
theorem dec_long (k : Nat) : ∀ n : Nat, 1 ≤ k → n < 10 ^ k → (decDigits n).length ≤ k := by
  induction k with
  | zero => intro n h _; omega
  | succ k ih =>
    intro n _ h
    by_cases h10 : 10 ≤ n
    · rw [dec_big n h10, List.length_append]
      have hk : 1 ≤ k := by
        rcases Nat.eq_zero_or_pos k with rfl | hk
        · simp at h; omega
        · exact hk
      have := ih (n / 10) hk (by rw [Nat.pow_succ] at h; omega)
      simp; omega
    · rw [decDigits, dif_pos (by omega)]; simp
theorem fold_num : ∀ (l : List UInt8) (a : Nat), l.all isDig = true → l.foldl (fun a c => a * 10 + (c.toNat - 48)) a < 18446744073709551616 →
    l.foldl numStep a = l.foldl (fun a c => a * 10 + (c.toNat - 48)) a := by
  have mono : ∀ (l : List UInt8) (a : Nat), a ≤ l.foldl (fun a c => a * 10 + (c.toNat - 48)) a := by
    intro l
    induction l with
    | nil => intro a; exact Nat.le_refl _
    | cons c l ih => intro a; rw [List.foldl_cons]; exact Nat.le_trans (by omega) (ih (a * 10 + (c.toNat - 48)))
  intro l
  induction l with
  | nil => intro a _ _; rw [List.foldl_nil, List.foldl_nil]
  | cons c l ih =>
    intro a hd hv
    simp only [List.all_cons, isDig, Bool.and_eq_true, decide_eq_true_eq] at hd
    rw [List.foldl_cons] at hv
    have h1 := mono l (a * 10 + (c.toNat - 48))
    have e : numStep a c = a * 10 + (c.toNat - 48) := by unfold numStep; omega
    rw [List.foldl_cons, List.foldl_cons, e]
    exact ih _ hd.2 hv
theorem numR_itoa {n : Int} (h : In64 n) : numR (itoa n) = n := by
  obtain ⟨h0, h1⟩ := h
  by_cases hn : n < 0
  · obtain ⟨m, rfl⟩ : ∃ m : Nat, n = -(m : Int) := ⟨n.natAbs, by omega⟩
    have e : itoa (-(m : Int)) = 45 :: decDigits m := by unfold itoa; rw [if_pos hn]; congr 2; omega
    obtain ⟨a, b, c, _⟩ := dec_dig m
    have hl := dec_long 19 m (by decide) (by omega)
    have hneg : isNeg (45 :: decDigits m) = true := by simp [isNeg]
    have hu : numU (45 :: decDigits m) = m := by
      unfold numU
      rw [hneg, if_pos rfl, List.take_of_length_le (by simp; omega)]
      show (decDigits m).foldl numStep 0 = m
      have hb : (decDigits m).foldl (fun a c => a * 10 + (c.toNat - 48)) 0 = m := b
      rw [fold_num _ 0 a (by rw [hb]; omega), hb]
    rw [e]
    unfold numR
    rw [hneg, if_pos rfl, hu]
    unfold toI64
    have : (18446744073709551616 - m) % 18446744073709551616 = 18446744073709551616 - m := Nat.mod_eq_of_lt (by omega)
    rw [this, if_neg (by omega)]
    omega
  · obtain ⟨m, rfl⟩ := Int.eq_ofNat_of_zero_le (show 0 ≤ n by omega)
    rw [itoa_nat]
    obtain ⟨a, b, c, _⟩ := dec_dig m
    have hl := dec_long 19 m (by decide) (by omega)
    have hneg : isNeg (decDigits m) = false := by
      cases hd : decDigits m with
      | nil => rfl
      | cons x r =>
        rw [hd] at a
        have hx := (List.all_eq_true.1 a) x (by simp)
        simp only [isDig, Bool.and_eq_true, decide_eq_true_eq] at hx
        unfold isNeg
        simp only [List.head?_cons, Option.some.injEq, decide_eq_false_iff_not]
        rintro rfl
        simp at hx
    have hu : numU (decDigits m) = m := by
      unfold numU
      rw [hneg]
      show ((decDigits m).take 20).foldl numStep 0 = m
      rw [List.take_of_length_le (by omega)]
      have hb : (decDigits m).foldl (fun a c => a * 10 + (c.toNat - 48)) 0 = m := b
      rw [fold_num _ 0 a (by rw [hb]; omega), hb]
    unfold numR
    rw [hneg, hu]
    show toI64 m = m
    unfold toI64
    rw [if_pos (by omega)]
theorem itoa_no' (n : Int) (c : UInt8) (hc : isDig c = false) (h : ¬ c = 45) : c ∉ itoa n := by
  unfold itoa
  split
  · intro hm
    rcases List.mem_cons.1 hm with rfl | hm
    · exact h rfl
    · exact dec_no c hc _ hm
  · exact dec_no c hc _
theorem itoa_len20 {n : Int} (h : In64 n) : (itoa n).length ≤ 20 := by
  obtain ⟨h0, h1⟩ := h
  unfold itoa
  split
  · have := dec_long 19 n.natAbs (by decide) (by omega)
    simp; omega
  · have := dec_long 19 n.toNat (by decide) (by omega)
    omega

/-! ### Links -/
abbrev Lk := Int × Int × Int × Int
def wLink : List UInt8 := [108, 105, 110, 107]
def In4 (l : Lk) : Prop := In64 l.1 ∧ In64 l.2.1 ∧ In64 l.2.2.1 ∧ In64 l.2.2.2
def linkText (l : Lk) : List UInt8 := wLink ++ 32 :: (itoa l.1 ++ 32 :: (itoa l.2.1 ++ 32 :: (itoa l.2.2.1 ++ 32 :: itoa l.2.2.2)))
def linkW (f : List UInt8 → Int) (s : List UInt8) : Option Lk := match splitOn 32 s with
  | [_, x, y, z, t] => if linkText (f x, f y, f z, f t) = s then some (f x, f y, f z, f t) else none
  | _ => none
theorem itoa_no32 (n : Int) : (32 : UInt8) ∉ itoa n := itoa_no' n 32 (by decide) (by decide)
theorem linkText_split (l : Lk) : splitOn 32 (linkText l) = [wLink, itoa l.1, itoa l.2.1, itoa l.2.2.1, itoa l.2.2.2] := by
  unfold linkText
  rw [splitOn_app 32 _ _ (by decide), splitOn_app 32 _ _ (itoa_no32 _), splitOn_app 32 _ _ (itoa_no32 _), splitOn_app 32 _ _ (itoa_no32 _), splitOn_none 32 _ (itoa_no32 _)]
theorem linkW_text {f : List UInt8 → Int} (hf : ∀ n, In64 n → f (itoa n) = n) {l : Lk} (h : In4 l) : linkW f (linkText l) = some l := by
  obtain ⟨a, b, c, d⟩ := l
  obtain ⟨h1, h2, h3, h4⟩ := h
  unfold linkW
  rw [linkText_split]
  simp only at h1 h2 h3 h4 ⊢
  rw [hf a h1, hf b h2, hf c h3, hf d h4, if_pos rfl]
theorem linkW_some {f : List UInt8 → Int} (hf : ∀ s, In64 (f s)) {s : List UInt8} {l : Lk} (h : linkW f s = some l) : linkText l = s ∧ In4 l := by
  unfold linkW at h
  split at h
  · split at h
    · rename_i he
      injection h with h
      subst h
      exact ⟨he, hf _, hf _, hf _, hf _⟩
    · cases h
  · cases h
def linkC (s : List UInt8) : Option Lk := linkW numC s
theorem link_same (s : List UInt8) : linkW numR s = linkC s := by
  cases h : linkC s with
  | some l =>
    obtain ⟨rfl, hi⟩ := linkW_some numC_in h
    exact linkW_text (fun n hn => numR_itoa hn) hi
  | none =>
    cases h' : linkW numR s with
    | none => rfl
    | some l =>
      obtain ⟨rfl, hi⟩ := linkW_some numR_in h'
      have h2 : linkC (linkText l) = some l := linkW_text (fun n hn => numC_itoa hn) hi
      rw [h2] at h
      cases h
theorem linkC_text {l : Lk} (h : In4 l) : linkC (linkText l) = some l := linkW_text (fun _ hn => numC_itoa hn) h
theorem linkText_len {l : Lk} (h : In4 l) : (linkText l).length ≤ 100 := by
  obtain ⟨h1, h2, h3, h4⟩ := h
  have := itoa_len20 h1
  have := itoa_len20 h2
  have := itoa_len20 h3
  have := itoa_len20 h4
  unfold linkText wLink
  simp; omega
end Go.Proofs.YtfbangojgjcbcaaGreatDoor.Pl
