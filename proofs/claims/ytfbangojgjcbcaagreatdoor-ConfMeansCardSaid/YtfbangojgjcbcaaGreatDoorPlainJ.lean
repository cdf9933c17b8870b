/- Plain configurations: texts read back, cut, or read as what has them. Nothing of the program. -/
/- Plain configurations: what a text is read as may be, and has that text. Nothing of the program. -/
import Derived.Test.YtfbangojgjcbcaaGreatDoorPlainH2
namespace Go.Proofs.YtfbangojgjcbcaaGreatDoor.Pl
open Go.Lib (decDigits itoa)

def noNl (l : List UInt8) : Prop := (10 : UInt8) ∉ l
theorem split_lines : ∀ (ls : List (List UInt8)) (r : List UInt8), (∀ l ∈ ls, noNl l) → splitOn 10 (ls.flatMap (· ++ [10]) ++ r) = ls ++ splitOn 10 r
  | [], r, _ => rfl
  | l :: ls, r, h => by
    have e : (l :: ls).flatMap (· ++ [10]) ++ r = l ++ 10 :: (ls.flatMap (· ++ [10]) ++ r) := by simp
    rw [e, splitOn_app 10 l _ (h l (by simp)), split_lines ls r fun l hl => h l (by simp [hl])]
    rfl
theorem lnNum_no {w : List UInt8} {n : Int} (hw : (10 : UInt8) ∉ w) (h : 0 ≤ n) : noNl (lnNum w n) := by
  unfold noNl lnNum
  simp only [List.mem_append, List.mem_cons, not_or]
  exact ⟨hw, by decide, itoa_no n h 10 (by decide)⟩
theorem prefText_no (a n : Nat) : (10 : UInt8) ∉ prefixText a n := by
  unfold prefixText
  simp only [List.mem_append, List.mem_cons, not_or]
  exact ⟨addr_noslash a 10 (by decide) (by decide), by decide, dec_no 10 (by decide) n⟩
theorem lines_no {c : Cfg} (h : mayC c = true) : ∀ l ∈ linesP c, noNl l := by
  obtain ⟨h1, h2, h3, h4, h5, h6, h7, h8, h9, h10, h11, h12⟩ := mayC_parts h
  intro l hl
  unfold linesP heads tails at hl
  simp only [List.mem_append, List.mem_cons, List.not_mem_nil, or_false, List.mem_map] at hl
  rcases hl with (((rfl | rfl) | ⟨p, hp, rfl⟩) | ⟨p, hp, rfl⟩) | rfl | rfl | rfl | rfl | rfl | rfl | rfl
  · exact lnNum_no (by decide) (by omega)
  · unfold noNl lnAddr
    simp only [List.mem_append, List.mem_cons, not_or]
    exact ⟨by decide, by decide, addr_noslash _ 10 (by decide) (by decide)⟩
  · unfold noNl lnOwn
    simp only [List.mem_append, List.mem_cons, not_or]
    exact ⟨by decide, by decide, prefText_no _ _⟩
  · have := (List.all_eq_true.1 h3) p hp
    unfold portOk at this
    simp only [Bool.and_eq_true, inI_iff] at this
    unfold noNl lnPort
    simp only [List.mem_append, List.mem_cons, not_or]
    exact ⟨by decide, by decide, itoa_no _ (by omega) 10 (by decide), by decide, itoa_no _ (by omega) 10 (by decide)⟩
  · exact lnNum_no (by decide) (by omega)
  · exact lnNum_no (by decide) (by omega)
  · exact lnNum_no (by decide) (by omega)
  · exact lnNum_no (by decide) (by omega)
  · exact lnNum_no (by decide) (by omega)
  · exact lnNum_no (by decide) (by omega)
  · exact lnNum_no (by decide) (by omega)
theorem itoa_len {n : Int} (h : 0 ≤ n) (h2 : n < 1000000000) : (itoa n).length ≤ 9 := by
  obtain ⟨m, rfl⟩ := Int.eq_ofNat_of_zero_le h
  rw [itoa_nat]
  have := (dec_isNum m (by omega)).1
  unfold isNum at this
  simp only [Bool.and_eq_true, decide_eq_true_eq] at this
  exact this.1.1.2
theorem lines_len {c : Cfg} (h : mayC c = true) : (∀ l ∈ linesP c, l.length ≤ 40) ∧ (linesP c).length ≤ 25 := by
  obtain ⟨h1, h2, h3, h4, h5, h6, h7, h8, h9, h10, h11, h12⟩ := mayC_parts h
  constructor
  · intro l hl
    unfold linesP heads tails at hl
    simp only [List.mem_append, List.mem_cons, List.not_mem_nil, or_false, List.mem_map] at hl
    have num : ∀ (w : List UInt8) (n : Int), w.length ≤ 10 → 0 ≤ n → n < 1000000000 → (lnNum w n).length ≤ 40 := fun w n k1 k2 k3 => by
      have := itoa_len k2 k3
      unfold lnNum; simp; omega
    rcases hl with (((rfl | rfl) | ⟨p, hp, rfl⟩) | ⟨p, hp, rfl⟩) | rfl | rfl | rfl | rfl | rfl | rfl | rfl
    · exact num _ _ (by decide) (by omega) (by omega)
    · have := addrText_len c.addr.toNat
      unfold lnAddr; simp [wAddress]; omega
    · have hm : mayP p.1 p.2 = true := by
        unfold ownOk at h1
        simp only [Bool.and_eq_true, List.all_eq_true] at h1
        exact h1.1.2 p hp
      obtain ⟨hn0, hn1, _⟩ := (mayP_iff _ _).1 hm
      have e1 := addrText_len p.1.toNat
      have e2 := dec_len p.2.toNat (by omega)
      unfold lnOwn prefixText; simp [wOwn]; omega
    · have := (List.all_eq_true.1 h3) p hp
      unfold portOk at this
      simp only [Bool.and_eq_true, inI_iff] at this
      have e1 := itoa_len (n := p.1) (by omega) (by omega)
      have e2 := itoa_len (n := p.2) (by omega) (by omega)
      unfold lnPort; simp [wPort]; omega
    · exact num _ _ (by decide) (by omega) (by omega)
    · exact num _ _ (by decide) (by omega) (by omega)
    · exact num _ _ (by decide) (by omega) (by omega)
    · exact num _ _ (by decide) (by omega) (by omega)
    · exact num _ _ (by decide) (by omega) (by omega)
    · exact num _ _ (by decide) (by omega) (by omega)
    · exact num _ _ (by decide) (by omega) (by omega)
  · have h8' : c.own.length ≤ 8 := by
      unfold ownOk at h1
      simp only [Bool.and_eq_true, decide_eq_true_eq] at h1
      exact h1.1.1.2
    unfold linesP heads tails; simp; omega
theorem flat_len : ∀ (ls : List (List UInt8)), (∀ l ∈ ls, l.length ≤ 40) → (ls.flatMap (· ++ [10])).length ≤ 41 * ls.length
  | [], _ => by simp
  | l :: ls, h => by
    have h1 := h l (by simp)
    have h2 := flat_len ls fun l hl => h l (by simp [hl])
    simp only [List.flatMap_cons, List.length_append, List.length_cons, List.length_nil] at *
    omega
/-- A configuration's text is read as it. -/
theorem parse_text {c : Cfg} (h : mayC c = true) (hA : Addrs4 c) : parseC (textP c) = (c, 0, 0) ∧ (textP c).length ≤ 4096 := by
  obtain ⟨h1, h2⟩ := lines_len h
  have hlen : (textP c).length ≤ 4096 := by have := flat_len (linesP c) h1; unfold textP; omega
  refine ⟨?_, hlen⟩
  unfold parseC
  rw [if_neg (by omega)]
  have e : splitOn 10 (textP c) = linesP c ++ [[]] := by
    have := split_lines (linesP c) [] (lines_no h)
    simpa [textP, splitOn] using this
  rw [e, runC_lines _ [] [] {} 0 0 c 10 (runL_all h hA)]
  simp [runC]
theorem stepC_done (c : Cfg) (w s : List UInt8) : stepC c 10 w s = none :=
  stepC_none (fun _ => by omega) (fun _ => by omega) (fun _ h => by rcases h with h | h; omega; have := h.1; omega) (fun _ h => by have := h.1; omega) (fun _ h => by have := h.1; omega) (fun _ => by omega) (fun _ => by omega) (fun _ => by omega) (fun _ => by omega) (fun _ => by omega) (fun _ => by omega)
/-- Behind some, but not all, of a configuration's lines. -/
theorem runL_cut {c : Cfg} (h : mayC c = true) (hA : Addrs4 c) {j : Nat} (hj : j < (linesP c).length) : ∃ c' st', runL ((linesP c).take j) {} 0 = some (c', st') ∧ ¬ st' = 10 := by
  have hall := runL_all h hA
  rw [← List.take_append_drop j (linesP c), runL_append] at hall
  cases hr : runL ((linesP c).take j) {} 0 with
  | none => rw [hr] at hall; cases hall
  | some q =>
    obtain ⟨c', st'⟩ := q
    refine ⟨c', st', rfl, fun e => ?_⟩
    subst e
    rw [hr, List.drop_eq_getElem_cons hj] at hall
    simp only [runL, stepC_done] at hall
    split at hall <;> cases hall
/-- A text that ends behind some lines is wrong at its end. -/
theorem parse_cut {c : Cfg} (h : mayC c = true) (hA : Addrs4 c) {j : Nat} (hj : j < (linesP c).length) : parseC (((linesP c).take j).flatMap (· ++ [10])) = ({}, j, 4) := by
  obtain ⟨h1, h2⟩ := lines_len h
  obtain ⟨c', st', hr, hst⟩ := runL_cut h hA hj
  have hlen := flat_len ((linesP c).take j) fun l hl => h1 l (List.mem_of_mem_take hl)
  have hjl : ((linesP c).take j).length = j := by simp; omega
  unfold parseC
  rw [if_neg (by omega)]
  have e := split_lines ((linesP c).take j) [] fun l hl => lines_no h l (List.mem_of_mem_take hl)
  rw [List.append_nil] at e
  rw [e, show splitOn 10 [] = [[]] from rfl, runC_lines _ [] [] {} 0 0 c' st' hr, hjl]
  simp [runC, hst]
/-- A line that is none's, put in, is wrong there. -/
theorem parse_none {c : Cfg} (h : mayC c = true) (hA : Addrs4 c) {j : Nat} (hj : j < (linesP c).length) (bad : List UInt8) (hbad : noNl bad) (h32 : 32 ∈ bad) (hw : ∀ c st, stepC c st (cutA 32 bad) (cutB 32 bad) = none) (rest : List UInt8) (hrest : rest.length ≤ 1000) (hb : bad.length ≤ 1000) :
    parseC (((linesP c).take j).flatMap (· ++ [10]) ++ (bad ++ 10 :: rest)) = ({}, j, 4) := by
  obtain ⟨h1, h2⟩ := lines_len h
  obtain ⟨c', st', hr, hst⟩ := runL_cut h hA hj
  have hlen := flat_len ((linesP c).take j) fun l hl => h1 l (List.mem_of_mem_take hl)
  have hjl : ((linesP c).take j).length = j := by simp; omega
  unfold parseC
  rw [if_neg (by simp only [List.length_append, List.length_cons]; omega)]
  rw [split_lines ((linesP c).take j) _ fun l hl => lines_no h l (List.mem_of_mem_take hl), splitOn_app 10 bad rest hbad]
  obtain ⟨y, ys, hy⟩ : ∃ y ys, splitOn 10 rest = y :: ys := by
    cases hs : splitOn 10 rest with
    | nil => exact absurd hs (splitOn_ne _ _)
    | cons y ys => exact ⟨y, ys, rfl⟩
  rw [hy, runC_lines _ bad (y :: ys) {} 0 0 c' st' hr, hjl]
  unfold runC
  rw [if_pos h32, hw]; simp
end Go.Proofs.YtfbangojgjcbcaaGreatDoor.Pl
namespace Go.Proofs.YtfbangojgjcbcaaGreatDoor.Pl
open Go.Lib (decDigits itoa)

def tailsTo (c : Cfg) (k : Nat) : List (List UInt8) := (tails c).take k
/-- The lines that were read up to a stage. -/
def partL (c : Cfg) (st : Nat) : List (List UInt8) := (if 1 ≤ st then [lnNum wNode c.node] else []) ++ (if 2 ≤ st then [lnAddr c.addr] else []) ++ c.own.map lnOwn ++ c.ports.map lnPort ++ tailsTo c (st - 3)
structure SInv (c : Cfg) (st : Nat) : Prop where
  le : st ≤ 10
  node : 1 ≤ st → 1 ≤ c.node ∧ c.node ≤ 16
  addr : 2 ≤ st → 0 ≤ c.addr ∧ c.addr < 4294967296
  own0 : st < 3 → c.own = []
  own : 3 ≤ st → ownOk c.own = true
  ports0 : st < 3 → c.ports = []
  ports : c.ports.length ≤ 8 ∧ c.ports.all portOk = true
  owns : ∀ p ∈ c.own, 0 ≤ p.1 ∧ p.1 < 4294967296
  hello : 4 ≤ st → hasAny c.own c.addr = true ∧ 1 ≤ c.hello ∧ c.hello ≤ 100
  dead : 5 ≤ st → c.hello + 1 ≤ c.dead ∧ c.dead ≤ 100
  again : 6 ≤ st → 1 ≤ c.again ∧ c.again ≤ 100
  room : 7 ≤ st → 0 ≤ c.room ∧ c.room ≤ 64
  queue : 8 ≤ st → 1 ≤ c.queue ∧ c.queue ≤ 64
  tokens : 9 ≤ st → 0 ≤ c.tokens ∧ c.tokens ≤ 64
  refill : 10 ≤ st → 1 ≤ c.refill ∧ c.refill ≤ 100
theorem SInv.start : SInv {} 0 := ⟨by omega, fun h => by omega, fun h => by omega, fun _ => rfl, fun h => by omega, fun _ => rfl, by simp, by simp, fun h => by omega, fun h => by omega, fun h => by omega, fun h => by omega, fun h => by omega, fun h => by omega, fun h => by omega⟩
theorem portIn_some {s : List UInt8} {p : Int × Int} (h : portIn s = some p) : s = itoa p.1 ++ 32 :: itoa p.2 ∧ portOk p = true := by
  unfold portIn at h
  split at h
  · rename_i x y hs
    split at h
    · rename_i c m hc hm
      injection h with h
      subst h
      obtain ⟨rfl, h1, h2⟩ := numIn_some hc
      obtain ⟨rfl, h3, h4⟩ := numIn_some hm
      refine ⟨?_, ?_⟩
      · have := splitOn_join 32 s
        rw [hs] at this
        rw [← this]; simp [Go.Lib.join, List.intercalate, List.intersperse]
      · unfold portOk
        simp only [Bool.and_eq_true, inI_iff]
        exact ⟨⟨by omega, by omega⟩, by omega, by omega⟩
    · cases h
  · cases h
theorem stepC_part {c c' : Cfg} {st st' : Nat} {w s : List UInt8} (h : SInv c st) (hs : stepC c st w s = some (c', st')) : SInv c' st' ∧ partL c' st' = partL c st ++ [w ++ 32 :: s] := by
  obtain ⟨hle, hnode, haddr, hown0, hown, hports0, hports, howns, hhello, hdead, hagain, hroom, hqueue, htokens, hrefill⟩ := h
  unfold stepC at hs
  by_cases e0 : w = wNode
  · rw [if_pos e0] at hs
    split at hs
    · rename_i hst
      obtain ⟨n, hn, hq⟩ := Option.map_eq_some_iff.1 hs
      injection hq with q1 q2
      subst q1 q2 hst e0
      obtain ⟨rfl, h1, h2⟩ := numIn_some hn
      refine ⟨⟨by omega, fun _ => ⟨by omega, by omega⟩, fun h => by omega, fun _ => hown0 (by omega), fun h => by omega, fun _ => hports0 (by omega), hports, howns, fun h => by omega, fun h => by omega, fun h => by omega, fun h => by omega, fun h => by omega, fun h => by omega, fun h => by omega⟩, ?_⟩
      unfold partL tailsTo; rw [hown0 (by omega), hports0 (by omega)]; simp [lnNum]
    · cases hs
  rw [if_neg e0] at hs
  by_cases e1 : w = wAddress
  · rw [if_pos e1] at hs
    split at hs
    · rename_i hst
      obtain ⟨n, hn, hq⟩ := Option.map_eq_some_iff.1 hs
      injection hq with q1 q2
      subst q1 q2 hst e1
      obtain ⟨rfl, h1⟩ := addrOf_some s n hn
      refine ⟨⟨by omega, fun _ => hnode (by omega), fun _ => ⟨by simp only; omega, by simp only; omega⟩, fun _ => hown0 (by omega), fun h => by omega, fun _ => hports0 (by omega), hports, howns, fun h => by omega, fun h => by omega, fun h => by omega, fun h => by omega, fun h => by omega, fun h => by omega, fun h => by omega⟩, ?_⟩
      unfold partL tailsTo; rw [hown0 (by omega), hports0 (by omega)]; simp [lnAddr]
    · cases hs
  rw [if_neg e1] at hs
  by_cases e2 : w = wOwn
  · rw [if_pos e2] at hs
    split at hs
    · rename_i hst
      split at hs
      · rename_i a n hp
        split at hs
        · rename_i hok
          injection hs with hq
          injection hq with q1 q2
          subst q1 q2 e2
          obtain ⟨rfl, ha, hm⟩ := prefixOf_some s a n hp
          have hpo : c.ports = [] := by rcases hst with h | h; exact hports0 (by omega); exact h.2
          have hst23 : 2 ≤ st ∧ st ≤ 3 := by rcases hst with h | h; omega; have := h.1; omega
          refine ⟨⟨by omega, fun _ => hnode (by omega), fun _ => haddr (by omega), fun h => by omega, fun _ => hok, fun h => by omega, hports, fun p hp => ?_, fun h => by omega, fun h => by omega, fun h => by omega, fun h => by omega, fun h => by omega, fun h => by omega, fun h => by omega⟩, ?_⟩
          · simp only [List.mem_append, List.mem_singleton] at hp
            rcases hp with hp | rfl
            · exact howns p hp
            · exact ⟨by simp only; omega, by simp only; omega⟩
          · unfold partL tailsTo
            rw [hpo, if_pos (show 1 ≤ 3 by omega), if_pos (show 2 ≤ 3 by omega), if_pos (show 1 ≤ st by omega), if_pos (show 2 ≤ st by omega), show st - 3 = 0 by omega]
            simp [lnOwn]
        · cases hs
      · cases hs
    · cases hs
  rw [if_neg e2] at hs
  by_cases e3 : w = wPort
  · rw [if_pos e3] at hs
    split at hs
    · rename_i hst
      obtain ⟨p, hp, hq⟩ := Option.map_eq_some_iff.1 hs
      injection hq with q1 q2
      obtain ⟨hst, hany, h8⟩ := hst
      subst q1 q2 hst e3
      obtain ⟨rfl, hpo⟩ := portIn_some hp
      refine ⟨⟨by omega, fun _ => hnode (by omega), fun _ => haddr (by omega), fun h => by omega, fun _ => hown (by omega), fun h => by omega, ⟨by simp; omega, ?_⟩, howns, fun h => by omega, fun h => by omega, fun h => by omega, fun h => by omega, fun h => by omega, fun h => by omega, fun h => by omega⟩, ?_⟩
      · simp only [List.all_append, Bool.and_eq_true, List.all_cons, List.all_nil, Bool.and_true]
        exact ⟨hports.2, hpo⟩
      · unfold partL tailsTo; simp [lnPort]
    · cases hs
  rw [if_neg e3] at hs
  by_cases e4 : w = wHello
  · rw [if_pos e4] at hs
    split at hs
    · rename_i hst
      obtain ⟨n, hn, hq⟩ := Option.map_eq_some_iff.1 hs
      injection hq with q1 q2
      obtain ⟨hst, hany⟩ := hst
      subst q1 q2 hst e4
      obtain ⟨rfl, h1, h2⟩ := numIn_some hn
      refine ⟨⟨by omega, fun _ => hnode (by omega), fun _ => haddr (by omega), fun h => by omega, fun _ => hown (by omega), fun h => by omega, hports, howns, fun _ => ⟨hany, by simp only; omega, by simp only; omega⟩, fun h => by omega, fun h => by omega, fun h => by omega, fun h => by omega, fun h => by omega, fun h => by omega⟩, ?_⟩
      unfold partL tailsTo tails; simp [lnNum]
    · cases hs
  rw [if_neg e4] at hs
  by_cases e5 : w = wDead
  · rw [if_pos e5] at hs
    split at hs
    · rename_i hst
      obtain ⟨n, hn, hq⟩ := Option.map_eq_some_iff.1 hs
      injection hq with q1 q2
      subst q1 q2 hst e5
      obtain ⟨rfl, h1, h2⟩ := numIn_some hn
      refine ⟨⟨by omega, fun _ => hnode (by omega), fun _ => haddr (by omega), fun h => by omega, fun _ => hown (by omega), fun h => by omega, hports, howns, fun _ => hhello (by omega), fun _ => ⟨by have := hhello (by omega); simp only; omega, by simp only; omega⟩, fun h => by omega, fun h => by omega, fun h => by omega, fun h => by omega, fun h => by omega⟩, ?_⟩
      unfold partL tailsTo tails; simp [lnNum]
    · cases hs
  rw [if_neg e5] at hs
  by_cases e6 : w = wAgain
  · rw [if_pos e6] at hs
    split at hs
    · rename_i hst
      obtain ⟨n, hn, hq⟩ := Option.map_eq_some_iff.1 hs
      injection hq with q1 q2
      subst q1 q2 hst e6
      obtain ⟨rfl, h1, h2⟩ := numIn_some hn
      refine ⟨⟨by omega, fun _ => hnode (by omega), fun _ => haddr (by omega), fun h => by omega, fun _ => hown (by omega), fun h => by omega, hports, howns, fun _ => hhello (by omega), fun _ => hdead (by omega), fun _ => ⟨by simp only; omega, by simp only; omega⟩, fun h => by omega, fun h => by omega, fun h => by omega, fun h => by omega⟩, ?_⟩
      unfold partL tailsTo tails; simp [lnNum]
    · cases hs
  rw [if_neg e6] at hs
  by_cases e7 : w = wRoom
  · rw [if_pos e7] at hs
    split at hs
    · rename_i hst
      obtain ⟨n, hn, hq⟩ := Option.map_eq_some_iff.1 hs
      injection hq with q1 q2
      subst q1 q2 hst e7
      obtain ⟨rfl, h1, h2⟩ := numIn_some hn
      refine ⟨⟨by omega, fun _ => hnode (by omega), fun _ => haddr (by omega), fun h => by omega, fun _ => hown (by omega), fun h => by omega, hports, howns, fun _ => hhello (by omega), fun _ => hdead (by omega), fun _ => hagain (by omega), fun _ => ⟨by simp only; omega, by simp only; omega⟩, fun h => by omega, fun h => by omega, fun h => by omega⟩, ?_⟩
      unfold partL tailsTo tails; simp [lnNum]
    · cases hs
  rw [if_neg e7] at hs
  by_cases e8 : w = wQueue
  · rw [if_pos e8] at hs
    split at hs
    · rename_i hst
      obtain ⟨n, hn, hq⟩ := Option.map_eq_some_iff.1 hs
      injection hq with q1 q2
      subst q1 q2 hst e8
      obtain ⟨rfl, h1, h2⟩ := numIn_some hn
      refine ⟨⟨by omega, fun _ => hnode (by omega), fun _ => haddr (by omega), fun h => by omega, fun _ => hown (by omega), fun h => by omega, hports, howns, fun _ => hhello (by omega), fun _ => hdead (by omega), fun _ => hagain (by omega), fun _ => hroom (by omega), fun _ => ⟨by simp only; omega, by simp only; omega⟩, fun h => by omega, fun h => by omega⟩, ?_⟩
      unfold partL tailsTo tails; simp [lnNum]
    · cases hs
  rw [if_neg e8] at hs
  by_cases e9 : w = wTokens
  · rw [if_pos e9] at hs
    split at hs
    · rename_i hst
      obtain ⟨n, hn, hq⟩ := Option.map_eq_some_iff.1 hs
      injection hq with q1 q2
      subst q1 q2 hst e9
      obtain ⟨rfl, h1, h2⟩ := numIn_some hn
      refine ⟨⟨by omega, fun _ => hnode (by omega), fun _ => haddr (by omega), fun h => by omega, fun _ => hown (by omega), fun h => by omega, hports, howns, fun _ => hhello (by omega), fun _ => hdead (by omega), fun _ => hagain (by omega), fun _ => hroom (by omega), fun _ => hqueue (by omega), fun _ => ⟨by simp only; omega, by simp only; omega⟩, fun h => by omega⟩, ?_⟩
      unfold partL tailsTo tails; simp [lnNum]
    · cases hs
  rw [if_neg e9] at hs
  by_cases e10 : w = wRefill
  · rw [if_pos e10] at hs
    split at hs
    · rename_i hst
      obtain ⟨n, hn, hq⟩ := Option.map_eq_some_iff.1 hs
      injection hq with q1 q2
      subst q1 q2 hst e10
      obtain ⟨rfl, h1, h2⟩ := numIn_some hn
      refine ⟨⟨by omega, fun _ => hnode (by omega), fun _ => haddr (by omega), fun h => by omega, fun _ => hown (by omega), fun h => by omega, hports, howns, fun _ => hhello (by omega), fun _ => hdead (by omega), fun _ => hagain (by omega), fun _ => hroom (by omega), fun _ => hqueue (by omega), fun _ => htokens (by omega), fun _ => ⟨by simp only; omega, by simp only; omega⟩⟩, ?_⟩
      unfold partL tailsTo tails; simp [lnNum]
    · cases hs
  rw [if_neg e10] at hs
  cases hs
theorem cut_self : ∀ (l : List UInt8), 32 ∈ l → l = cutA 32 l ++ 32 :: cutB 32 l := by
  intro l h
  obtain ⟨a, b, rfl, ha⟩ : ∃ a b : List UInt8, l = a ++ 32 :: b ∧ (32 : UInt8) ∉ a := by
    induction l with
    | nil => simp at h
    | cons x l ih =>
      by_cases hx : x = 32
      · subst hx; exact ⟨[], l, rfl, by simp⟩
      · have hl : 32 ∈ l := by
          rcases List.mem_cons.1 h with e | e
          · exact absurd e.symm hx
          · exact e
        obtain ⟨a, b, rfl, ha⟩ := ih hl
        exact ⟨x :: a, b, rfl, by simp only [List.mem_cons, not_or]; exact ⟨fun e => hx e.symm, ha⟩⟩
  obtain ⟨h1, h2⟩ := cut_app 32 a b ha
  rw [h1, h2]
theorem runL_part : ∀ (ls : List (List UInt8)) {c c' : Cfg} {st st' : Nat}, SInv c st → runL ls c st = some (c', st') → SInv c' st' ∧ partL c' st' = partL c st ++ ls
  | [], c, c', st, st', h, hr => by simp [runL] at hr; obtain ⟨rfl, rfl⟩ := hr; exact ⟨h, by simp⟩
  | l :: ls, c, c', st, st', h, hr => by
    simp only [runL] at hr
    split at hr
    · rename_i h32
      cases hs : stepC c st (cutA 32 l) (cutB 32 l) with
      | none => rw [hs] at hr; cases hr
      | some q =>
        obtain ⟨c1, st1⟩ := q
        rw [hs] at hr
        obtain ⟨k1, k2⟩ := stepC_part h hs
        obtain ⟨k3, k4⟩ := runL_part ls k1 hr
        rw [← cut_self l h32] at k2
        exact ⟨k3, by rw [k4, k2]; simp⟩
    · cases hr
theorem runC_ok : ∀ (ls : List (List UInt8)) {c d : Cfg} {st n m : Nat}, runC ls c st n = (d, m, 0) → m = 0 ∧ ∃ ls0, ls = ls0 ++ [[]] ∧ runL ls0 c st = some (d, 10)
  | [], c, d, st, n, m, h => by simp [runC] at h
  | [l], c, d, st, n, m, h => by
    unfold runC at h
    split at h
    · rename_i hc
      obtain ⟨rfl, rfl⟩ := hc
      simp at h
      obtain ⟨rfl, rfl⟩ := h
      exact ⟨rfl, [], rfl, rfl⟩
    · simp at h
  | l :: l' :: ls, c, d, st, n, m, h => by
    unfold runC at h
    split at h
    · rename_i h32
      cases hs : stepC c st (cutA 32 l) (cutB 32 l) with
      | none => rw [hs] at h; simp at h
      | some q =>
        obtain ⟨c1, st1⟩ := q
        rw [hs] at h
        obtain ⟨rfl, ls0, e1, e2⟩ := runC_ok (l' :: ls) h
        refine ⟨rfl, l :: ls0, by rw [e1]; rfl, ?_⟩
        simp only [runL]
        rw [if_pos h32, hs]; exact e2
    · simp at h
theorem join_lines : ∀ (ls : List (List UInt8)), Go.Lib.join (ls ++ [[]]) [10] = ls.flatMap (· ++ [10])
  | [] => rfl
  | l :: ls => by
    have ih := join_lines ls
    cases ls with
    | nil => simp [Go.Lib.join, List.intercalate, List.intersperse]
    | cons l' ls => simp [Go.Lib.join, List.intercalate, List.intersperse] at ih ⊢; rw [ih]
/-- What a text is read as may be, and has that text. -/
theorem parse_sound {s : List UInt8} {d : Cfg} {m : Nat} (h : parseC s = (d, m, 0)) : m = 0 ∧ mayC d = true ∧ Addrs4 d ∧ textP d = s := by
  unfold parseC at h
  split at h
  · simp at h
  · obtain ⟨rfl, ls0, e1, e2⟩ := runC_ok _ h
    obtain ⟨k, hk⟩ := runL_part ls0 SInv.start e2
    have hl : linesP d = ls0 := by
      have : partL d 10 = linesP d := by unfold partL tailsTo linesP heads tails; simp
      rw [← this, hk]; rfl
    refine ⟨rfl, mayC_of (k.own (by omega)) k.ports.1 k.ports.2 (k.hello (by omega)).1 (k.node (by omega)) (k.hello (by omega)).2 (k.dead (by omega)) (k.again (by omega)) (k.room (by omega)) (k.queue (by omega)) (k.tokens (by omega)) (k.refill (by omega)), ⟨k.addr (by omega), k.owns⟩, ?_⟩
    have hj := splitOn_join 10 s
    rw [e1, join_lines] at hj
    unfold textP; rw [hl]; exact hj
end Go.Proofs.YtfbangojgjcbcaaGreatDoor.Pl
