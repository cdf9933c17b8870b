/- Plain: a line's number, as strconv.Atoi reads it. Nothing of the program. -/
/- Plain: a port's line, cut at its first blank. Nothing of the program. -/
/- Plain: a text's lines as strings.Cut finds them; what a line keeps of a configuration. Nothing of the program. -/
import Derived.Test.YtfbangojgjcbcaaGreatDoorPlainG
import Derived.Lib.AtoiAll
namespace Go.Proofs.YtfbangojgjcbcaaGreatDoor.Pl
open Go.Lib (decDigits itoa)

theorem parse10_all : ∀ (l : List UInt8) (acc : Nat), l.all isDig = true → l.foldl (fun a c => a * 10 + (c.toNat - 48)) acc ≤ 9223372036854775808 →
    Lib.parseUint10 acc l = .ok (l.foldl (fun a c => a * 10 + (c.toNat - 48)) acc) := by
  have mono : ∀ (l : List UInt8) (a : Nat), a ≤ l.foldl (fun a c => a * 10 + (c.toNat - 48)) a := by
    intro l
    induction l with
    | nil => intro a; exact Nat.le_refl _
    | cons c l ih => intro a; rw [List.foldl_cons]; exact Nat.le_trans (by omega) (ih (a * 10 + (c.toNat - 48)))
  intro l
  induction l with
  | nil => intro acc _ _; rfl
  | cons c l ih =>
    intro acc hd hv
    simp only [List.all_cons, isDig, Bool.and_eq_true, decide_eq_true_eq] at hd
    rw [List.foldl_cons] at hv ⊢
    have h1 := mono l (acc * 10 + (c.toNat - 48))
    rw [Lib.parseUint10, if_pos hd.1, if_neg (by omega), if_neg (by omega)]
    exact ih _ hd.2 hv
theorem mag_dec (n : Nat) (h : n ≤ 9223372036854775808) : Lib.parseMag (decDigits n) = .ok n := by
  obtain ⟨a, b, c, _⟩ := dec_dig n
  unfold Lib.parseMag
  rw [if_neg (fun e => by rw [e] at c; simp at c)]
  have hp := parse10_all (decDigits n) 0 a (by show numVal _ ≤ _; rw [b]; exact h)
  rw [show List.foldl (fun a c => a * 10 + (c.toNat - 48)) 0 (decDigits n) = n from b] at hp
  exact hp
/-- strconv.Atoi at a number's own text. -/
theorem atoi_itoa (n : Int) (h0 : -9223372036854775808 ≤ n) (h1 : n ≤ 9223372036854775807) : Lib.atoiAll (itoa n) = .ok n := by
  by_cases hn : n < 0
  · obtain ⟨m, rfl⟩ : ∃ m : Nat, n = -(m : Int) := ⟨n.natAbs, by omega⟩
    have e : itoa (-(m : Int)) = 45 :: decDigits m := by unfold itoa; rw [if_pos hn]; congr 2; omega
    rw [e]
    unfold Lib.atoiAll
    have hm := mag_dec m (by omega)
    simp only [show (45 : UInt8).toNat = 45 from rfl, or_true, if_true, hm, not_true_eq_false, false_and, if_false, true_and]
    rw [if_neg (by omega)]
  · obtain ⟨m, rfl⟩ := Int.eq_ofNat_of_zero_le (show 0 ≤ n by omega)
    rw [itoa_nat]
    have hm := mag_dec m (by omega)
    obtain ⟨a, b, c, _⟩ := dec_dig m
    cases hl : decDigits m with
    | nil => rw [hl] at c; simp at c
    | cons x r =>
      rw [hl] at a hm
      have hx := (List.all_eq_true.1 a) x (by simp)
      simp only [isDig, Bool.and_eq_true, decide_eq_true_eq] at hx
      unfold Lib.atoiAll
      have e1 : ¬ x.toNat = 43 := by omega
      have e2 : ¬ x.toNat = 45 := by omega
      simp only [e1, e2, or_self, not_false_eq_true, true_and, false_and, if_false, hm]
      rw [if_neg (by omega)]
theorem atoi_bd {l : List UInt8} {v : Int} (h : Lib.atoiAll l = .ok v) : -9223372036854775808 ≤ v ∧ v ≤ 9223372036854775807 := by
  cases l with
  | nil => cases h
  | cons c r =>
    unfold Lib.atoiAll at h
    simp only at h
    split at h
    · cases h
    · cases h
    · split at h
      · cases h
      · split at h
        · cases h
        · injection h with h
          subst h
          split <;> omega
theorem numIn_atoi {s : List UInt8} {lo hi : Nat} {n : Int} (h : numIn s lo hi = some n) (hh : hi ≤ 1000000000) : Lib.atoiAll s = .ok n := by
  obtain ⟨e, h1, h2⟩ := numIn_some h
  rw [e]; exact atoi_itoa n (by omega) (by omega)
/-- Atoi's number fits just where the line's number does. -/
theorem numIn_of_atoi {s : List UInt8} {lo hi : Nat} {v : Int} (h : Lib.atoiAll s = .ok v) (hh : hi < 1000000000) :
    numIn s lo hi = if itoa v = s ∧ (lo : Int) ≤ v ∧ v ≤ hi then some v else none := by
  by_cases hc : itoa v = s ∧ (lo : Int) ≤ v ∧ v ≤ hi
  · rw [if_pos hc]; obtain ⟨h1, h2, h3⟩ := hc; rw [← h1]; exact numIn_itoa h2 h3 hh
  · rw [if_neg hc]
    cases hn : numIn s lo hi with
    | none => rfl
    | some n =>
      exfalso
      have h2 := numIn_atoi hn (by omega)
      rw [h] at h2; injection h2 with h2; subst h2
      obtain ⟨e, k1, k2⟩ := numIn_some hn
      exact hc ⟨e.symm, k1, k2⟩
theorem numIn_no_atoi {s : List UInt8} {lo hi : Nat} (h : ∀ u, Lib.atoiAll s ≠ .ok u) (hh : hi ≤ 1000000000) : numIn s lo hi = none := by
  cases hn : numIn s lo hi with
  | none => rfl
  | some n => exact absurd (numIn_atoi hn hh) (h n)
end Go.Proofs.YtfbangojgjcbcaaGreatDoor.Pl
namespace Go.Proofs.YtfbangojgjcbcaaGreatDoor.Pl
open Go.Lib (decDigits itoa)

theorem numIn_noblank {s : List UInt8} {lo hi : Nat} {n : Int} (h : numIn s lo hi = some n) : (32 : UInt8) ∉ s := by
  obtain ⟨e, h1, _⟩ := numIn_some h
  rw [e]; exact itoa_no n (by omega) 32 (by decide)
theorem splitOn_two (c : UInt8) (l : List UInt8) (h : c ∈ l) : ∃ x y r, splitOn c l = x :: y :: r := by
  obtain ⟨a, b, rfl, ha⟩ := List.eq_append_cons_of_mem h
  rw [splitOn_app c a b ha]
  cases hb : splitOn c b with
  | nil => exact absurd hb (splitOn_ne c b)
  | cons y r => exact ⟨a, y, r, rfl⟩
theorem cut_none (c : UInt8) : ∀ l : List UInt8, c ∉ l → cutA c l = l ∧ cutB c l = [] := by
  intro l h
  have hi : Lib.index l [c] = -1 := by
    induction l with
    | nil => rfl
    | cons x r ih =>
      rw [index_cons, if_neg (fun e => h (by simp [e])), ih (fun k => h (by simp [k]))]; rfl
  unfold cutA cutB Lib.cut
  simp [hi]
theorem portIn_cut (s : List UInt8) : portIn s = match numIn (cutA 32 s) 1 50, numIn (cutB 32 s) 68 1500 with
    | some c, some m => some (c, m)
    | _, _ => none := by
  by_cases h : (32 : UInt8) ∈ s
  · obtain ⟨a, b, rfl, ha⟩ := List.eq_append_cons_of_mem h
    obtain ⟨e1, e2⟩ := cut_app 32 a b ha
    unfold portIn
    rw [e1, e2, splitOn_app 32 a b ha]
    by_cases hb : (32 : UInt8) ∈ b
    · obtain ⟨x, y, r, hxy⟩ := splitOn_two 32 b hb
      rw [hxy]
      have : numIn b 68 1500 = none := by
        cases hn : numIn b 68 1500 with
        | none => rfl
        | some n => exact absurd hb (numIn_noblank hn)
      rw [this]
      cases numIn a 1 50 <;> rfl
    · rw [splitOn_none 32 b hb]; rfl
  · obtain ⟨e1, e2⟩ := cut_none 32 s h
    unfold portIn
    rw [splitOn_none 32 s h, e1, e2]
    have : numIn [] 68 1500 = none := by decide +kernel
    rw [this]
    cases numIn s 1 50 <;> rfl
end Go.Proofs.YtfbangojgjcbcaaGreatDoor.Pl
namespace Go.Proofs.YtfbangojgjcbcaaGreatDoor.Pl
open Go.Lib (decDigits itoa)

theorem cut_mem (c : UInt8) (l : List UInt8) (h : c ∈ l) : ∃ a b, l = a ++ c :: b ∧ c ∉ a ∧ cutA c l = a ∧ cutB c l = b := by
  obtain ⟨a, b, rfl, ha⟩ := List.eq_append_cons_of_mem h
  exact ⟨a, b, rfl, ha, (cut_app c a b ha).1, (cut_app c a b ha).2⟩
theorem splitOn_cut (c : UInt8) (l : List UInt8) (h : c ∈ l) : splitOn c l = cutA c l :: splitOn c (cutB c l) ∧ (cutB c l).length < l.length := by
  obtain ⟨a, b, rfl, ha, e1, e2⟩ := cut_mem c l h
  rw [e1, e2, splitOn_app c a b ha]
  exact ⟨rfl, by simp; omega⟩
theorem index_ge (c : UInt8) : ∀ l : List UInt8, -1 ≤ Lib.index l [c]
  | [] => Int.le_of_eq rfl
  | y :: r => by
    have ih := index_ge c r
    rw [index_cons]
    split
    · decide
    · split
      · decide
      · omega
theorem index_mem (c : UInt8) : ∀ l : List UInt8, (Lib.index l [c] == -1) = !decide (c ∈ l)
  | [] => rfl
  | x :: r => by
    rw [index_cons]
    by_cases hx : x = c
    · rw [if_pos hx]; simp [hx]
    · rw [if_neg hx]
      have ih := index_mem c r
      have hge := index_ge c r
      by_cases hr : c ∈ r
      · rw [decide_eq_true hr] at ih
        have hne : ¬ Lib.index r [c] = -1 := by simpa using ih
        rw [show (Lib.index r [c] == -1) = false by simpa using hne]
        simp only [Bool.false_eq_true, if_false]
        rw [decide_eq_true (List.mem_cons_of_mem x hr)]
        simp; omega
      · rw [decide_eq_false hr] at ih
        rw [ih]
        simp [hr, Ne.symm hx]
theorem cut_found (c : UInt8) (l : List UInt8) : (Lib.cut l [c]).2.2 = decide (c ∈ l) := by
  have h := index_mem c l
  unfold Lib.cut
  by_cases hm : c ∈ l
  · rw [decide_eq_true hm] at h ⊢
    have h1 : ¬ Lib.index l [c] = -1 := by simpa using h
    have h2 : 0 ≤ Lib.index l [c] := by have := index_ge c l; omega
    simp [h2]
  · rw [decide_eq_false hm] at h ⊢
    have : Lib.index l [c] = -1 := by simpa using h
    simp [this]

/-- What is kept while lines are read. -/
structure CInv (c : Cfg) : Prop where
  addrs : Addrs4 c
  own : c.own.length ≤ 8
  ports : c.ports.length ≤ 8
  hello : 0 ≤ c.hello ∧ c.hello ≤ 100
theorem CInv.start : CInv {} := ⟨⟨⟨by decide, by decide⟩, by simp⟩, by simp, by simp, by decide, by decide⟩
theorem ownOk_le {l : List (Int × Int)} (h : ownOk l = true) : l.length ≤ 8 := by
  unfold ownOk at h
  simp only [Bool.and_eq_true, decide_eq_true_eq] at h
  exact h.1.1.2
theorem stepC_inv {c c' : Cfg} {st st' : Nat} {w s : List UInt8} (h : CInv c) (hs : stepC c st w s = some (c', st')) : CInv c' := by
  unfold stepC at hs
  by_cases e0 : w = wNode
  · rw [if_pos e0] at hs
    by_cases hc : st = 0
    · rw [if_pos hc] at hs
      obtain ⟨n, _, hn⟩ := Option.map_eq_some_iff.1 hs
      injection hn with h1 _; subst h1; exact ⟨h.addrs, h.own, h.ports, h.hello⟩
    · rw [if_neg hc] at hs; cases hs
  rw [if_neg e0] at hs
  by_cases e1 : w = wAddress
  · rw [if_pos e1] at hs
    by_cases hc : st = 1
    · rw [if_pos hc] at hs
      obtain ⟨a, ha, hn⟩ := Option.map_eq_some_iff.1 hs
      injection hn with h1 _; subst h1
      have := (addrOf_some s a ha).2
      exact ⟨⟨⟨Int.natCast_nonneg a, by show (a : Int) < 4294967296; omega⟩, h.addrs.2⟩, h.own, h.ports, h.hello⟩
    · rw [if_neg hc] at hs; cases hs
  rw [if_neg e1] at hs
  by_cases e2 : w = wOwn
  · rw [if_pos e2] at hs
    by_cases hc : st = 2 ∨ (st = 3 ∧ c.ports = [])
    · rw [if_pos hc] at hs
      cases hq : prefixOf s with
      | none => rw [hq] at hs; cases hs
      | some q =>
        obtain ⟨a, n⟩ := q
        rw [hq] at hs
        by_cases hok : ownOk (c.own ++ [((a : Int), (n : Int))]) = true
        · simp only [if_pos hok] at hs
          injection hs with hs; injection hs with h1 _; subst h1
          have ha := (prefixOf_some s a n hq).2.1
          refine ⟨⟨h.addrs.1, fun p hp => ?_⟩, ownOk_le hok, h.ports, h.hello⟩
          rcases List.mem_append.1 hp with hp | hp
          · exact h.addrs.2 p hp
          · have : p = ((a : Int), (n : Int)) := by simpa using hp
            subst this; exact ⟨Int.natCast_nonneg a, by show (a : Int) < 4294967296; omega⟩
        · simp only [if_neg hok] at hs; cases hs
    · rw [if_neg hc] at hs; cases hs
  rw [if_neg e2] at hs
  by_cases e3 : w = wPort
  · rw [if_pos e3] at hs
    by_cases hc : st = 3 ∧ hasAny c.own c.addr = true ∧ c.ports.length + 1 ≤ 8
    · rw [if_pos hc] at hs
      obtain ⟨p, _, hn⟩ := Option.map_eq_some_iff.1 hs
      injection hn with h1 _; subst h1
      have := hc.2.2
      exact ⟨h.addrs, h.own, by simp; omega, h.hello⟩
    · rw [if_neg hc] at hs; cases hs
  rw [if_neg e3] at hs
  by_cases e4 : w = wHello
  · rw [if_pos e4] at hs
    by_cases hc : st = 3 ∧ hasAny c.own c.addr = true
    · rw [if_pos hc] at hs
      obtain ⟨n, hn0, hn⟩ := Option.map_eq_some_iff.1 hs
      injection hn with h1 _; subst h1
      obtain ⟨_, k1, k2⟩ := numIn_some hn0
      exact ⟨h.addrs, h.own, h.ports, by simp only; omega, by simp only; omega⟩
    · rw [if_neg hc] at hs; cases hs
  rw [if_neg e4] at hs
  by_cases e5 : w = wDead
  · rw [if_pos e5] at hs
    by_cases hc : st = 4
    · rw [if_pos hc] at hs
      obtain ⟨n, _, hn⟩ := Option.map_eq_some_iff.1 hs
      injection hn with h1 _; subst h1; exact ⟨h.addrs, h.own, h.ports, h.hello⟩
    · rw [if_neg hc] at hs; cases hs
  rw [if_neg e5] at hs
  by_cases e6 : w = wAgain
  · rw [if_pos e6] at hs
    by_cases hc : st = 5
    · rw [if_pos hc] at hs
      obtain ⟨n, _, hn⟩ := Option.map_eq_some_iff.1 hs
      injection hn with h1 _; subst h1; exact ⟨h.addrs, h.own, h.ports, h.hello⟩
    · rw [if_neg hc] at hs; cases hs
  rw [if_neg e6] at hs
  by_cases e7 : w = wRoom
  · rw [if_pos e7] at hs
    by_cases hc : st = 6
    · rw [if_pos hc] at hs
      obtain ⟨n, _, hn⟩ := Option.map_eq_some_iff.1 hs
      injection hn with h1 _; subst h1; exact ⟨h.addrs, h.own, h.ports, h.hello⟩
    · rw [if_neg hc] at hs; cases hs
  rw [if_neg e7] at hs
  by_cases e8 : w = wQueue
  · rw [if_pos e8] at hs
    by_cases hc : st = 7
    · rw [if_pos hc] at hs
      obtain ⟨n, _, hn⟩ := Option.map_eq_some_iff.1 hs
      injection hn with h1 _; subst h1; exact ⟨h.addrs, h.own, h.ports, h.hello⟩
    · rw [if_neg hc] at hs; cases hs
  rw [if_neg e8] at hs
  by_cases e9 : w = wTokens
  · rw [if_pos e9] at hs
    by_cases hc : st = 8
    · rw [if_pos hc] at hs
      obtain ⟨n, _, hn⟩ := Option.map_eq_some_iff.1 hs
      injection hn with h1 _; subst h1; exact ⟨h.addrs, h.own, h.ports, h.hello⟩
    · rw [if_neg hc] at hs; cases hs
  rw [if_neg e9] at hs
  by_cases e10 : w = wRefill
  · rw [if_pos e10] at hs
    by_cases hc : st = 9
    · rw [if_pos hc] at hs
      obtain ⟨n, _, hn⟩ := Option.map_eq_some_iff.1 hs
      injection hn with h1 _; subst h1; exact ⟨h.addrs, h.own, h.ports, h.hello⟩
    · rw [if_neg hc] at hs; cases hs
  rw [if_neg e10] at hs
  cases hs

/-- The code's loop over a text: what is left of it, one line at a time. -/
theorem runC_nil (c : Cfg) (st n : Nat) : runC (splitOn 10 []) c st n = if st = 10 then (c, 0, 0) else ({}, n, 4) := by
  show runC [[]] c st n = _
  unfold runC
  by_cases h : st = 10
  · rw [if_pos ⟨rfl, h⟩, if_pos h]
  · rw [if_neg (fun k => h k.2), if_neg h]
theorem runC_open (l : List UInt8) (c : Cfg) (st n : Nat) (hl : l ≠ []) (h : (10 : UInt8) ∉ l) : runC (splitOn 10 l) c st n = ({}, n, 4) := by
  rw [splitOn_none 10 l h]
  unfold runC
  rw [if_neg (fun k => hl k.1)]
theorem runC_cut (l : List UInt8) (c : Cfg) (st n : Nat) (h : (10 : UInt8) ∈ l) : runC (splitOn 10 l) c st n =
    if 32 ∈ cutA 10 l then (match stepC c st (cutA 32 (cutA 10 l)) (cutB 32 (cutA 10 l)) with
      | some (c', st') => runC (splitOn 10 (cutB 10 l)) c' st' (n + 1)
      | none => ({}, n, 4)) else ({}, n, 4) := by
  rw [(splitOn_cut 10 l h).1]
  cases hs : splitOn 10 (cutB 10 l) with
  | nil => exact absurd hs (splitOn_ne _ _)
  | cons x r =>
    conv => lhs; unfold runC
    rfl
end Go.Proofs.YtfbangojgjcbcaaGreatDoor.Pl
