/- Plain reading of numbers, addresses and prefixes out of texts. Nothing of the program. -/
import Derived.Test.YtfbangojgjcbcaaGreatDoorPlainT
namespace Go.Proofs.YtfbangojgjcbcaaGreatDoor.Pl
open Go.Lib (decDigits itoa join)

def consHd (x : UInt8) : List (List UInt8) → List (List UInt8)
  | [] => [[x]]
  | h :: t => (x :: h) :: t
/-- A text's parts, between bytes. -/
def splitOn (c : UInt8) : List UInt8 → List (List UInt8)
  | [] => [[]]
  | x :: r => if x = c then [] :: splitOn c r else consHd x (splitOn c r)

theorem splitOn_ne (c : UInt8) (l : List UInt8) : splitOn c l ≠ [] := by
  cases l with
  | nil => simp [splitOn]
  | cons x r =>
    simp only [splitOn]
    split
    · simp
    · cases splitOn c r <;> simp [consHd]
theorem index_cons (c x : UInt8) (r : List UInt8) : Lib.index (x :: r) [c] = if x = c then 0 else if Lib.index r [c] == -1 then -1 else Lib.index r [c] + 1 := by
  rw [Lib.index]
  by_cases h : x = c
  · simp [h]
  · have : ¬ c = x := fun e => h e.symm
    simp [h, this]
theorem split_eq (c : UInt8) : ∀ s : List UInt8, Lib.splitK [c] 0 (Lib.count s [c]) s = splitOn c s := by
  intro s
  induction s with
  | nil => rw [Lib.count_one]; rfl
  | cons x r ih =>
    by_cases h : x = c
    · subst h
      rw [Lib.count_cons_eq, Nat.add_comm, Lib.splitK, index_cons]
      simp [splitOn, ih]
    · rw [Lib.count_cons_ne x c r h]
      simp only [splitOn, if_neg h]
      rw [← ih]
      cases hk : Lib.count r [c] with
      | zero => rfl
      | succ k =>
        have hge := Lib.index_ge r [c]
        rw [Lib.splitK, Lib.splitK, index_cons, if_neg h]
        by_cases hi : Lib.index r [c] = -1
        · simp [hi, consHd]
        · have hi' : (Lib.index r [c] == -1) = false := by simpa using hi
          have hn : (Lib.index r [c] + 1 == -1) = false := by simp; omega
          rw [hi']
          simp only [Bool.false_eq_true, if_false, hn, consHd, Nat.add_zero, List.length_singleton]
          have e1 : (Lib.index r [c] + 1).toNat = (Lib.index r [c]).toNat + 1 := by omega
          rw [e1, List.take_succ_cons]
          simp [Nat.add_assoc]

/-- What a byte list is without the byte. -/
theorem splitOn_none (c : UInt8) (l : List UInt8) (h : c ∉ l) : splitOn c l = [l] := by
  induction l with
  | nil => rfl
  | cons x r ih =>
    have hx : ¬ x = c := fun e => h (by simp [e])
    rw [splitOn, if_neg hx, ih (fun hm => h (by simp [hm]))]; rfl
theorem splitOn_app (c : UInt8) (l m : List UInt8) (h : c ∉ l) : splitOn c (l ++ c :: m) = l :: splitOn c m := by
  induction l with
  | nil => simp [splitOn]
  | cons x r ih =>
    have hx : ¬ x = c := fun e => h (by simp [e])
    rw [List.cons_append, splitOn, if_neg hx, ih (fun hm => h (by simp [hm]))]; rfl
/-- The parts joined again. -/
theorem splitOn_join (c : UInt8) (l : List UInt8) : join (splitOn c l) [c] = l := by
  induction l with
  | nil => rfl
  | cons x r ih =>
    by_cases h : x = c
    · subst h
      rw [splitOn, if_pos rfl]
      cases hs : splitOn x r with
      | nil => exact absurd hs (splitOn_ne _ _)
      | cons a t => rw [hs] at ih; rw [← ih]; simp [join, List.intercalate, List.intersperse]
    · rw [splitOn, if_neg h]
      cases hs : splitOn c r with
      | nil => exact absurd hs (splitOn_ne _ _)
      | cons a t => rw [hs] at ih; rw [← ih]; cases t <;> simp [join, List.intercalate, consHd]

def isDig (c : UInt8) : Bool := decide (48 ≤ c.toNat) && decide (c.toNat ≤ 57)
def numVal (l : List UInt8) : Nat := l.foldl (fun a c => a * 10 + (c.toNat - 48)) 0
/-- Digits, without noughts ahead, at most nine. -/
def isNum (l : List UInt8) : Bool := decide (1 ≤ l.length) && decide (l.length ≤ 9) && !(decide (1 < l.length) && decide (l.head? = some 48)) && l.all isDig

theorem numVal_snoc (l : List UInt8) (c : UInt8) : numVal (l ++ [c]) = numVal l * 10 + (c.toNat - 48) := by simp [numVal, List.foldl_append]
theorem dec_big (n : Nat) (h : 10 ≤ n) : decDigits n = decDigits (n / 10) ++ [UInt8.ofNat (48 + n % 10)] := by rw [decDigits, dif_neg (by omega)]
theorem dec_dig (n : Nat) : (decDigits n).all isDig = true ∧ numVal (decDigits n) = n ∧ 1 ≤ (decDigits n).length ∧ (1 ≤ n → (decDigits n).head? ≠ some 48) ∧ (n = 0 → decDigits n = [48]) := by
  induction n using Nat.strongRecOn with
  | _ n ih =>
    by_cases h : n < 10
    · rw [Lib.decDigits_one h]
      have e : (UInt8.ofNat (48 + n)).toNat = 48 + n := by rw [UInt8.toNat_ofNat']; omega
      refine ⟨by simp [isDig]; omega, by simp [numVal]; omega, by simp, ?_, ?_⟩
      · intro h1 h2
        have h3 : UInt8.ofNat (48 + n) = 48 := by simpa using h2
        have : (UInt8.ofNat (48 + n)).toNat = 48 := by rw [h3]; rfl
        omega
      · intro h0; subst h0; rfl
    · obtain ⟨a, b, c, d, _⟩ := ih (n / 10) (by omega)
      rw [dec_big n (by omega)]
      have e : (UInt8.ofNat (48 + n % 10)).toNat = 48 + n % 10 := by rw [UInt8.toNat_ofNat']; omega
      refine ⟨?_, ?_, by simp, ?_, by omega⟩
      · rw [List.all_append, a]; simp [isDig]; omega
      · rw [numVal_snoc, b, e]; omega
      · intro _
        rw [List.head?_append]
        cases hd : (decDigits (n / 10)).head? with
        | none => rw [List.head?_eq_none_iff] at hd; rw [hd] at c; simp at c
        | some x => rw [← hd]; simpa [hd] using d (by omega)
theorem numVal_pos (l : List UInt8) (hd : l.all isDig = true) (hn : 1 ≤ l.length) (h0 : l.head? ≠ some 48) : 1 ≤ numVal l := by
  have mono : ∀ (l : List UInt8) (a : Nat), a ≤ l.foldl (fun a c => a * 10 + (c.toNat - 48)) a := by
    intro l
    induction l with
    | nil => intro a; exact Nat.le_refl _
    | cons c l ih => intro a; rw [List.foldl_cons]; exact Nat.le_trans (by omega) (ih (a * 10 + (c.toNat - 48)))
  cases l with
  | nil => simp at hn
  | cons c l =>
    simp only [List.all_cons, isDig, Bool.and_eq_true, decide_eq_true_eq] at hd
    have hc : c.toNat ≠ 48 := fun e => h0 (by have : c = 48 := UInt8.toNat_inj.1 (by simpa using e); simp [this])
    have := mono l (0 * 10 + (c.toNat - 48))
    unfold numVal
    rw [List.foldl_cons]
    omega
/-- Digits without noughts ahead are the text of their number. -/
theorem dec_of (l : List UInt8) : l.all isDig = true → 1 ≤ l.length → (1 < l.length → l.head? ≠ some 48) → decDigits (numVal l) = l := by
  induction hk : l.length generalizing l with
  | zero => intro _ h; omega
  | succ k ih =>
    intro hd _ h0
    rcases List.eq_nil_or_concat l with rfl | ⟨m, c, rfl⟩
    · simp at hk
    rw [List.concat_eq_append] at *
    have hm : m.length = k := by simpa using hk
    rw [List.all_append] at hd
    simp only [List.all_cons, List.all_nil, Bool.and_true, Bool.and_eq_true, isDig, decide_eq_true_eq] at hd
    obtain ⟨hd1, hc1, hc2⟩ := hd
    rw [numVal_snoc]
    have e : UInt8.ofNat (48 + (c.toNat - 48)) = c := by
      apply UInt8.toNat_inj.1; rw [UInt8.toNat_ofNat']; omega
    cases m with
    | nil => simp only [numVal, List.foldl_nil, Nat.zero_mul, Nat.zero_add, List.nil_append]; rw [Lib.decDigits_one (by omega), e]
    | cons x m =>
      have h0' : (x :: m).head? ≠ some 48 := by simpa using h0 (by simp at hm; omega)
      have hp := numVal_pos (x :: m) hd1 (by simp) h0'
      have hi := ih (x :: m) hm hd1 (by simp at hm; omega) (fun _ => h0')
      rw [dec_big _ (by omega)]
      have e2 : (numVal (x :: m) * 10 + (c.toNat - 48)) / 10 = numVal (x :: m) := by omega
      have e3 : (numVal (x :: m) * 10 + (c.toNat - 48)) % 10 = c.toNat - 48 := by omega
      rw [e2, e3, hi, e]
theorem isNum_dec (l : List UInt8) (h : isNum l = true) : decDigits (numVal l) = l := by
  simp only [isNum, Bool.and_eq_true, Bool.not_eq_true', decide_eq_true_eq, Bool.and_eq_false_iff, decide_eq_false_iff_not] at h
  obtain ⟨⟨⟨h1, h2⟩, h3⟩, h4⟩ := h
  exact dec_of l h4 h1 (fun hl he => by rcases h3 with h | h <;> contradiction)
theorem dec_isNum (n : Nat) (h : n < 1000000000) : isNum (decDigits n) = true ∧ numVal (decDigits n) = n := by
  obtain ⟨a, b, c, d, e⟩ := dec_dig n
  refine ⟨?_, b⟩
  have hl : (decDigits n).length ≤ 9 := by
    rw [Lib.decDigits_length]
    rcases Nat.lt_or_ge (Lib.nDigits n) 10 with h9 | h9
    · omega
    · exfalso
      have key : ∀ k n, k + 1 ≤ Lib.nDigits n → 10 ^ k ≤ n ∨ k = 0 := by
        intro k
        induction k with
        | zero => intro n _; exact .inr rfl
        | succ k ih =>
          intro n hn
          left
          by_cases hs : n < 10
          · rw [Lib.nDigits_small hs] at hn; omega
          · rw [Lib.nDigits_big hs] at hn
            rcases ih (n / 10) (by omega) with h | h
            · rw [Nat.pow_succ]; omega
            · subst h; simp; omega
      rcases key 9 n h9 with h' | h'
      · have : (10 : Nat) ^ 9 = 1000000000 := by decide
        omega
      · omega
  unfold isNum
  simp only [a, Bool.and_true, Bool.and_eq_true, decide_eq_true_eq, Bool.not_eq_true', Bool.and_eq_false_iff, decide_eq_false_iff_not]
  refine ⟨⟨c, hl⟩, ?_⟩
  by_cases h0 : n = 0
  · left; rw [e h0]; simp
  · right; exact d (by omega)

/-- strconv.ParseUint at digits. -/
theorem parse_digits (M : Nat) (hM : M ≤ 1000000000000000000) : ∀ (l : List UInt8) (acc : Nat), l.all isDig = true → l.foldl (fun a c => a * 10 + (c.toNat - 48)) acc ≤ M →
    Lib.parseUintM M acc l = .ok (l.foldl (fun a c => a * 10 + (c.toNat - 48)) acc) := by
  have mono : ∀ (l : List UInt8) (a : Nat), a ≤ l.foldl (fun a c => a * 10 + (c.toNat - 48)) a := by
    intro l
    induction l with
    | nil => intro a; exact Nat.le_refl _
    | cons c l ih => intro a; rw [List.foldl_cons]; exact Nat.le_trans (by omega) (ih (a * 10 + (c.toNat - 48)))
  intro l
  induction l with
  | nil => intro acc _ _; rfl
  | cons c l ih =>
    intro acc hd hv
    simp only [List.all_cons, isDig, Bool.and_eq_true, decide_eq_true_eq] at hd
    rw [List.foldl_cons] at hv ⊢
    have h1 := mono l (acc * 10 + (c.toNat - 48))
    rw [Lib.parseUintM, if_pos hd.1, if_neg (by omega), if_neg (by omega)]
    exact ih _ hd.2 hv
theorem parse_dec (n : Nat) (h : n ≤ 255) : Lib.parseUintB 8 (decDigits n) = .ok n := by
  obtain ⟨a, b, c, _⟩ := dec_dig n
  unfold Lib.parseUintB
  rw [if_neg (by intro e; rw [e] at c; simp at c), parse_digits (2 ^ 8 - 1) (by decide) _ 0 a (by show numVal _ ≤ _; rw [b]; omega)]
  show Lib.NumEnd.ok (numVal (decDigits n)) = _
  rw [b]
theorem parse_le (M : Nat) : ∀ (l : List UInt8) (acc u : Nat), acc ≤ M → Lib.parseUintM M acc l = .ok u → u ≤ M := by
  intro l
  induction l with
  | nil => intro acc u ha h; simp only [Lib.parseUintM] at h; injection h with h; omega
  | cons c l ih =>
    intro acc u ha h
    rw [Lib.parseUintM] at h
    split at h
    · split at h
      · cases h
      · split at h
        · cases h
        · exact ih _ u (by omega) h
    · cases h
theorem parse8_le (l : List UInt8) (u : Nat) (h : Lib.parseUintB 8 l = .ok u) : u ≤ 255 := by
  unfold Lib.parseUintB at h
  split at h
  · cases h
  · exact parse_le 255 l 0 u (by decide) h

/-- The program's walk over the words. -/
def addrLoop : List (List UInt8) → Nat → Option Nat
  | [], a => some a
  | x :: r, a => match Lib.parseUintB 8 x with
    | .ok u => addrLoop r ((a * 256 + u) % 4294967296)
    | _ => none
/-- The address of a text. -/
def addrOf (s : List UInt8) : Option Nat := match addrLoop (splitOn 46 s) 0 with
  | some a => if addrText a = s then some a else none
  | none => none

theorem addrLoop_lt : ∀ (l : List (List UInt8)) (a b : Nat), a < 4294967296 → addrLoop l a = some b → b < 4294967296 := by
  intro l
  induction l with
  | nil => intro a b ha h; simp only [addrLoop] at h; injection h with h; omega
  | cons x r ih =>
    intro a b ha h
    rw [addrLoop] at h
    split at h
    · exact ih _ b (Nat.mod_lt _ (by decide)) h
    · cases h
theorem dig_nodot (c : UInt8) (hc : isDig c = false) (l : List UInt8) (h : l.all isDig = true) : c ∉ l := by
  intro hm
  have := List.all_eq_true.1 h c hm
  rw [hc] at this; cases this
theorem dec_no (c : UInt8) (hc : isDig c = false) (n : Nat) : c ∉ decDigits n := dig_nodot c hc _ (dec_dig n).1
theorem splitOn_addr (a : Nat) : splitOn 46 (addrText a) = octs a := by
  have h := fun i => dec_no 46 (by decide) (oct a i)
  rw [addrText_eq, splitOn_app _ _ _ (h 0), splitOn_app _ _ _ (h 1), splitOn_app _ _ _ (h 2), splitOn_none _ _ (h 3), octs_eq]
theorem oct_sum (a : Nat) (h : a < 4294967296) : ((oct a 0 * 256 + oct a 1) * 256 + oct a 2) * 256 + oct a 3 = a := by
  simp only [oct]
  simp
  omega
theorem addrLoop_octs (a : Nat) (h : a < 4294967296) : addrLoop (octs a) 0 = some a := by
  have o0 := oct_lt a 0
  have o1 := oct_lt a 1
  have o2 := oct_lt a 2
  have o3 := oct_lt a 3
  have hs := oct_sum a h
  rw [octs_eq]
  simp only [addrLoop, parse_dec _ (show oct a 0 ≤ 255 by omega), parse_dec _ (show oct a 1 ≤ 255 by omega), parse_dec _ (show oct a 2 ≤ 255 by omega), parse_dec _ (show oct a 3 ≤ 255 by omega)]
  congr 1
  omega
theorem addrOf_text (a : Nat) (h : a < 4294967296) : addrOf (addrText a) = some a := by
  unfold addrOf; rw [splitOn_addr, addrLoop_octs a h]; simp
theorem addrOf_some (s : List UInt8) (a : Nat) (h : addrOf s = some a) : addrText a = s ∧ a < 4294967296 := by
  unfold addrOf at h
  cases hl : addrLoop (splitOn 46 s) 0 with
  | none => rw [hl] at h; cases h
  | some b =>
    rw [hl] at h
    simp only at h
    split at h
    · injection h with h; subst h; exact ⟨by assumption, addrLoop_lt _ 0 b (by decide) hl⟩
    · cases h
theorem addrText_inj (a b : Nat) (ha : a < 4294967296) (hb : b < 4294967296) (h : addrText a = addrText b) : a = b := by
  have h1 := addrOf_text a ha
  rw [h, addrOf_text b hb] at h1
  injection h1 with h1; exact h1.symm
theorem splitOn_len (c : UInt8) (l : List UInt8) : (splitOn c l).length ≤ l.length + 1 ∧ ∀ x ∈ splitOn c l, x.length ≤ l.length := by
  induction l with
  | nil => simp [splitOn]
  | cons y r ih =>
    obtain ⟨h1, h2⟩ := ih
    by_cases h : y = c
    · rw [splitOn, if_pos h]
      refine ⟨by simp; omega, fun x hx => ?_⟩
      rcases List.mem_cons.1 hx with rfl | hx
      · simp
      · have := h2 x hx; simp; omega
    · rw [splitOn, if_neg h]
      cases hs : splitOn c r with
      | nil => exact absurd hs (splitOn_ne _ _)
      | cons a t =>
        rw [hs] at h1 h2
        refine ⟨by simp only [consHd, List.length_cons] at h1 ⊢; omega, fun x hx => ?_⟩
        rcases List.mem_cons.1 hx with rfl | hx
        · have := h2 a (by simp); simp; omega
        · have := h2 x (by simp [hx]); simp; omega
theorem addrLoop_at (ws : List (List UInt8)) (j a : Nat) (x : List UInt8) (hx : ws[j]? = some x) : addrLoop (ws.drop j) a = match Lib.parseUintB 8 x with
    | .ok u => addrLoop (ws.drop (j + 1)) ((a * 256 + u) % 4294967296)
    | _ => none := by
  have hj : j < ws.length := (List.getElem?_eq_some_iff.1 hx).1
  rw [List.drop_eq_getElem_cons hj, addrLoop]
  have : ws[j] = x := (List.getElem?_eq_some_iff.1 hx).2
  rw [this]

/-- The part ahead of the first such byte, and the part behind it. -/
def cutA (c : UInt8) (l : List UInt8) : List UInt8 := (Lib.cut l [c]).1
def cutB (c : UInt8) (l : List UInt8) : List UInt8 := (Lib.cut l [c]).2.1
theorem cut_len (c : UInt8) (l : List UInt8) : (cutA c l).length ≤ l.length ∧ (cutB c l).length ≤ l.length := by
  unfold cutA cutB Lib.cut
  split <;> simp <;> omega
theorem cut_app (c : UInt8) (l m : List UInt8) (h : c ∉ l) : cutA c (l ++ c :: m) = l ∧ cutB c (l ++ c :: m) = m := by
  have hi : Lib.index (l ++ c :: m) [c] = l.length := by
    induction l with
    | nil => rw [List.nil_append, index_cons, if_pos rfl]; rfl
    | cons x r ih =>
      have hx : ¬ x = c := fun e => h (by simp [e])
      rw [List.cons_append, index_cons, if_neg hx, ih (fun hm => h (by simp [hm]))]
      have : ((r.length : Int) == -1) = false := by simp
      rw [this]; simp
  unfold cutA cutB Lib.cut
  rw [hi]
  simp
/-- The prefix of a text. -/
def prefixOf (l : List UInt8) : Option (Nat × Nat) := match addrOf (cutA 47 l), Lib.parseUintB 8 (cutB 47 l) with
  | some a, .ok n => if mayP a n = true ∧ prefixText a n = l then some (a, n) else none
  | _, _ => none
theorem addr_noslash (a : Nat) (c : UInt8) (h1 : isDig c = false) (h2 : ¬ c = 46) : c ∉ addrText a := by
  have h := fun i => dec_no c h1 (oct a i)
  rw [addrText_eq]
  simp only [List.mem_append, List.mem_cons, not_or]
  exact ⟨h 0, h2, h 1, h2, h 2, h2, h 3⟩
theorem prefixOf_text (a n : Nat) (ha : a < 4294967296) (h : mayP a n = true) : prefixOf (prefixText a n) = some (a, n) := by
  have hn : n ≤ 32 := by unfold mayP at h; simp at h; omega
  obtain ⟨e1, e2⟩ := cut_app 47 (addrText a) (decDigits n) (addr_noslash a 47 (by decide) (by decide))
  unfold prefixOf
  rw [show prefixText a n = addrText a ++ 47 :: decDigits n from rfl, e1, e2, addrOf_text a ha, parse_dec n (by omega)]
  simp only
  rw [if_pos ⟨h, rfl⟩]
theorem prefixOf_some (l : List UInt8) (a n : Nat) (h : prefixOf l = some (a, n)) : prefixText a n = l ∧ a < 4294967296 ∧ mayP a n = true := by
  unfold prefixOf at h
  split at h
  · split at h
    · rename_i a' n' h1 h2 hc
      injection h with h; injection h with h3 h4; subst h3; subst h4
      exact ⟨hc.2, (addrOf_some _ _ h1).2, hc.1⟩
    · cases h
  · cases h
theorem addr_stop (x : List UInt8) (k : Nat → Option Nat) (h : ∀ u, Lib.parseUintB 8 x ≠ .ok u) : (match Lib.parseUintB 8 x with
    | .ok u => k u
    | _ => none) = none := by
  cases hp : Lib.parseUintB 8 x
  · exact absurd hp (h _)
  · rfl
  · rfl
theorem prefix_stop (o : Option Nat) (x : List UInt8) (k : Nat → Nat → Option (Nat × Nat)) (h : ∀ u, Lib.parseUintB 8 x ≠ .ok u) : (match o, Lib.parseUintB 8 x with
    | some a, .ok n => k a n
    | _, _ => none) = none := by
  cases hp : Lib.parseUintB 8 x
  · exact absurd hp (h _)
  · cases o <;> rfl
  · cases o <;> rfl
end Go.Proofs.YtfbangojgjcbcaaGreatDoor.Pl
