/- Plain configurations: their lines, read by the code's stages and by the document's rows. Nothing of the program. -/
/- Plain configurations: which may be, their lines and texts; a text is read as what has it. Nothing of the program. -/
import Derived.Test.YtfbangojgjcbcaaGreatDoorPlainS
import Derived.Test.YtfbangojgjcbcaaGreatDoorPlainO
namespace Go.Proofs.YtfbangojgjcbcaaGreatDoor.Pl
open Go.Lib (decDigits)

structure Cfg where
  node : Int := 0
  addr : Int := 0
  own : List (Int × Int) := []
  ports : List (Int × Int) := []
  hello : Int := 0
  dead : Int := 0
  again : Int := 0
  room : Int := 0
  queue : Int := 0
  tokens : Int := 0
  refill : Int := 0

/-- Do prefixes rise? -/
def rising : List (Int × Int) → Bool
  | p :: q :: l => decide (cmpP p.1 p.2 q.1 q.2 < 0) && rising (q :: l)
  | _ => true
def ownOk (l : List (Int × Int)) : Bool := decide (1 ≤ l.length) && decide (l.length ≤ 8) && l.all (fun p => mayP p.1 p.2) && rising l
def hasAny (l : List (Int × Int)) (a : Int) : Bool := l.any fun p => hasP p.1 p.2 a
/-- A number of a line, between two others. -/
def numIn (s : List UInt8) (lo hi : Nat) : Option Int := if numOk s hi = true ∧ lo ≤ numVal s then some (numVal s : Int) else none
/-- A port's two numbers. -/
def portIn (s : List UInt8) : Option (Int × Int) := match splitOn 32 s with
  | [x, y] => match numIn x 1 50, numIn y 68 1500 with
    | some c, some m => some (c, m)
    | _, _ => none
  | _ => none
def wNode : List UInt8 := [110, 111, 100, 101]
def wAddress : List UInt8 := [97, 100, 100, 114, 101, 115, 115]
def wOwn : List UInt8 := [111, 119, 110]
def wPort : List UInt8 := [112, 111, 114, 116]
def wHello : List UInt8 := [104, 101, 108, 108, 111]
def wDead : List UInt8 := [100, 101, 97, 100]
def wAgain : List UInt8 := [97, 103, 97, 105, 110]
def wRoom : List UInt8 := [114, 111, 111, 109]
def wQueue : List UInt8 := [113, 117, 101, 117, 101]
def wTokens : List UInt8 := [116, 111, 107, 101, 110, 115]
def wRefill : List UInt8 := [114, 101, 102, 105, 108, 108]

/-- A line, by the code's stages. -/
def stepC (c : Cfg) (st : Nat) (w s : List UInt8) : Option (Cfg × Nat) :=
  if w = wNode then (if st = 0 then (numIn s 1 16).map fun n => ({ c with node := n }, 1) else none)
  else if w = wAddress then (if st = 1 then (addrOf s).map fun (a : Nat) => ({ c with addr := (a : Int) }, 2) else none)
  else if w = wOwn then (if st = 2 ∨ (st = 3 ∧ c.ports = []) then (match prefixOf s with
    | some (a, n) => if ownOk (c.own ++ [((a : Int), (n : Int))]) = true then some ({ c with own := c.own ++ [((a : Int), (n : Int))] }, 3) else none
    | none => none) else none)
  else if w = wPort then (if st = 3 ∧ hasAny c.own c.addr = true ∧ c.ports.length + 1 ≤ 8 then (portIn s).map fun p => ({ c with ports := c.ports ++ [p] }, 3) else none)
  else if w = wHello then (if st = 3 ∧ hasAny c.own c.addr = true then (numIn s 1 100).map fun n => ({ c with hello := n }, 4) else none)
  else if w = wDead then (if st = 4 then (numIn s (c.hello + 1).toNat 100).map fun n => ({ c with dead := n }, 5) else none)
  else if w = wAgain then (if st = 5 then (numIn s 1 100).map fun n => ({ c with again := n }, 6) else none)
  else if w = wRoom then (if st = 6 then (numIn s 0 64).map fun n => ({ c with room := n }, 7) else none)
  else if w = wQueue then (if st = 7 then (numIn s 1 64).map fun n => ({ c with queue := n }, 8) else none)
  else if w = wTokens then (if st = 8 then (numIn s 0 64).map fun n => ({ c with tokens := n }, 9) else none)
  else if w = wRefill then (if st = 9 then (numIn s 1 100).map fun n => ({ c with refill := n }, 10) else none)
  else none

/-- One of the last seven lines, by the document. -/
def tailR (c : Cfg) (k : Nat) (w s : List UInt8) : Option Cfg := match k with
  | 0 => if w = wHello then (numIn s 1 100).map fun n => { c with hello := n } else none
  | 1 => if w = wDead then (numIn s (c.hello + 1).toNat 100).map fun n => { c with dead := n } else none
  | 2 => if w = wAgain then (numIn s 1 100).map fun n => { c with again := n } else none
  | 3 => if w = wRoom then (numIn s 0 64).map fun n => { c with room := n } else none
  | 4 => if w = wQueue then (numIn s 1 64).map fun n => { c with queue := n } else none
  | 5 => if w = wTokens then (numIn s 0 64).map fun n => { c with tokens := n } else none
  | 6 => if w = wRefill then (numIn s 1 100).map fun n => { c with refill := n } else none
  | _ => none
/-- A line, by the document: at is how many stand ahead of it, t how many of the last seven. -/
def stepR (c : Cfg) (at' t : Nat) (w s : List UInt8) : Option (Cfg × Nat) :=
  if at' = 0 then (if w = wNode then (numIn s 1 16).map fun n => ({ c with node := n }, t) else none)
  else if at' = 1 then (if w = wAddress then (addrOf s).map fun (a : Nat) => ({ c with addr := (a : Int) }, t) else none)
  else if w = wOwn ∧ c.ports = [] ∧ t = 0 then (match prefixOf s with
    | some (a, n) => if ownOk (c.own ++ [((a : Int), (n : Int))]) = true then some ({ c with own := c.own ++ [((a : Int), (n : Int))] }, t) else none
    | none => none)
  else if hasAny c.own c.addr = false then none
  else if w = wPort ∧ t = 0 then (if c.ports.length + 1 ≤ 8 then (portIn s).map fun p => ({ c with ports := c.ports ++ [p] }, t) else none)
  else (tailR c t w s).map fun c' => (c', t + 1)

/-- How the two stand to each other. -/
def Goes (c : Cfg) (st at' t : Nat) : Prop :=
  (t = 0 ∧ at' < 3 ∧ st = at' ∧ c.own = [] ∧ c.ports = []) ∨ (3 ≤ at' ∧ c.own ≠ [] ∧ st = 3 + t ∧ t ≤ 7 ∧ (1 ≤ t → hasAny c.own c.addr = true))
theorem Goes.start : Goes {} 0 0 0 := .inl ⟨rfl, by omega, rfl, rfl, rfl⟩
theorem Goes.done {c : Cfg} {st at' t : Nat} (h : Goes c st at' t) : st = 10 ↔ t = 7 := by
  rcases h with ⟨rfl, h1, rfl, _⟩ | ⟨_, _, rfl, _⟩ <;> omega

/-- What a line gives, both ways. -/
def Step (c : Cfg) (st at' t : Nat) (w s : List UInt8) : Prop := match stepC c st w s, stepR c at' t w s with
  | none, none => True
  | some (c1, st1), some (c2, t2) => c1 = c2 ∧ Goes c1 st1 (at' + 1) t2
  | _, _ => False

theorem stepC_none {c : Cfg} {st : Nat} {w s : List UInt8} (h0 : w = wNode → ¬ st = 0) (h1 : w = wAddress → ¬ st = 1) (h2 : w = wOwn → ¬ (st = 2 ∨ (st = 3 ∧ c.ports = []))) (h3 : w = wPort → ¬ (st = 3 ∧ hasAny c.own c.addr = true ∧ c.ports.length + 1 ≤ 8)) (h4 : w = wHello → ¬ (st = 3 ∧ hasAny c.own c.addr = true)) (h5 : w = wDead → ¬ st = 4) (h6 : w = wAgain → ¬ st = 5) (h7 : w = wRoom → ¬ st = 6) (h8 : w = wQueue → ¬ st = 7) (h9 : w = wTokens → ¬ st = 8) (h10 : w = wRefill → ¬ st = 9) : stepC c st w s = none := by
  unfold stepC
  by_cases e0 : w = wNode
  · rw [if_pos e0, if_neg (h0 e0)]
  rw [if_neg e0]
  by_cases e1 : w = wAddress
  · rw [if_pos e1, if_neg (h1 e1)]
  rw [if_neg e1]
  by_cases e2 : w = wOwn
  · rw [if_pos e2, if_neg (h2 e2)]
  rw [if_neg e2]
  by_cases e3 : w = wPort
  · rw [if_pos e3, if_neg (h3 e3)]
  rw [if_neg e3]
  by_cases e4 : w = wHello
  · rw [if_pos e4, if_neg (h4 e4)]
  rw [if_neg e4]
  by_cases e5 : w = wDead
  · rw [if_pos e5, if_neg (h5 e5)]
  rw [if_neg e5]
  by_cases e6 : w = wAgain
  · rw [if_pos e6, if_neg (h6 e6)]
  rw [if_neg e6]
  by_cases e7 : w = wRoom
  · rw [if_pos e7, if_neg (h7 e7)]
  rw [if_neg e7]
  by_cases e8 : w = wQueue
  · rw [if_pos e8, if_neg (h8 e8)]
  rw [if_neg e8]
  by_cases e9 : w = wTokens
  · rw [if_pos e9, if_neg (h9 e9)]
  rw [if_neg e9]
  by_cases e10 : w = wRefill
  · rw [if_pos e10, if_neg (h10 e10)]
  rw [if_neg e10]

theorem step_same {c : Cfg} {st at' t : Nat} (h : Goes c st at' t) (w s : List UInt8) : Step c st at' t w s := by
  unfold Step
  rcases h with ⟨rfl, h1, rfl, ho, hp⟩ | ⟨h1, ho, rfl, ht, hh⟩
  · -- ahead of the first prefix
    have h012 : st = 0 ∨ st = 1 ∨ st = 2 := by omega
    rcases h012 with rfl | rfl | rfl
    · by_cases hw : w = wNode
      · subst hw
        simp only [stepC, stepR, if_true]
        cases numIn s 1 16 with
        | none => simp
        | some n => simp; exact .inl ⟨rfl, by omega, rfl, ho, hp⟩
      · have e1 : stepC c 0 w s = none := by unfold stepC; simp [hw]
        have e2 : stepR c 0 0 w s = none := by unfold stepR; simp [hw]
        rw [e1, e2]; trivial
    · by_cases hw : w = wAddress
      · subst hw
        simp only [stepC, stepR, if_true, if_neg (show ¬ wAddress = wNode by decide), if_neg (show ¬ (1 : Nat) = 0 by decide)]
        cases addrOf s with
        | none => simp
        | some n => simp; exact .inl ⟨rfl, by omega, rfl, ho, hp⟩
      · have e1 : stepC c 1 w s = none := by unfold stepC; simp [hw]
        have e2 : stepR c 1 0 w s = none := by unfold stepR; simp [hw]
        rw [e1, e2]; trivial
    · by_cases hw : w = wOwn
      · subst hw
        have e1 : stepC c 2 wOwn s = (match prefixOf s with
          | some (a, n) => if ownOk (c.own ++ [((a : Int), (n : Int))]) = true then some ({ c with own := c.own ++ [((a : Int), (n : Int))] }, 3) else none
          | none => none) := by
          unfold stepC; rw [if_neg (by decide), if_neg (by decide), if_pos rfl, if_pos (.inl rfl)]
        have e2 : stepR c 2 0 wOwn s = (match prefixOf s with
          | some (a, n) => if ownOk (c.own ++ [((a : Int), (n : Int))]) = true then some ({ c with own := c.own ++ [((a : Int), (n : Int))] }, 0) else none
          | none => none) := by
          unfold stepR; rw [if_neg (by decide), if_neg (by decide), if_pos ⟨rfl, hp, rfl⟩]
        rw [e1, e2]
        cases prefixOf s with
        | none => trivial
        | some q =>
          obtain ⟨a, n⟩ := q
          by_cases hok : ownOk (c.own ++ [((a : Int), (n : Int))]) = true
          · simp only [if_pos hok]
            exact ⟨trivial, .inr ⟨by omega, by simp, rfl, by omega, fun h => by omega⟩⟩
          · simp only [if_neg hok]
      · have e1 : stepC c 2 w s = none := by unfold stepC; simp [hw]
        have e2 : stepR c 2 0 w s = none := by
          unfold stepR
          have : hasAny c.own c.addr = false := by rw [ho]; rfl
          simp [hw, this]
        rw [e1, e2]; trivial
  · -- behind it
    have ha0 : ¬ at' = 0 := by omega
    have ha1 : ¬ at' = 1 := by omega
    have eN : stepC c (3 + t) wNode s = none := by unfold stepC; rw [if_pos rfl, if_neg (by omega)]
    have eA : stepC c (3 + t) wAddress s = none := by unfold stepC; rw [if_neg (by decide), if_pos rfl, if_neg (by omega)]
    by_cases hwo : w = wOwn ∧ c.ports = [] ∧ t = 0
    · obtain ⟨rfl, hp, rfl⟩ := hwo
      have e1 : stepC c 3 wOwn s = (match prefixOf s with
        | some (a, n) => if ownOk (c.own ++ [((a : Int), (n : Int))]) = true then some ({ c with own := c.own ++ [((a : Int), (n : Int))] }, 3) else none
        | none => none) := by
        unfold stepC; rw [if_neg (by decide), if_neg (by decide), if_pos rfl, if_pos (.inr ⟨rfl, hp⟩)]
      have e2 : stepR c at' 0 wOwn s = (match prefixOf s with
        | some (a, n) => if ownOk (c.own ++ [((a : Int), (n : Int))]) = true then some ({ c with own := c.own ++ [((a : Int), (n : Int))] }, 0) else none
        | none => none) := by
        unfold stepR; rw [if_neg ha0, if_neg ha1, if_pos ⟨rfl, hp, rfl⟩]
      rw [e1, e2]
      cases prefixOf s with
      | none => trivial
      | some q =>
        obtain ⟨a, n⟩ := q
        by_cases hok : ownOk (c.own ++ [((a : Int), (n : Int))]) = true
        · simp only [if_pos hok]
          exact ⟨trivial, .inr ⟨by omega, by simp, rfl, by omega, fun h => by omega⟩⟩
        · simp only [if_neg hok]
    · have hnoown : w = wOwn → ¬ ((3 + t = 2) ∨ (3 + t = 3 ∧ c.ports = [])) := by
        intro hw hh
        rcases hh with hh | ⟨hh, hp⟩
        · omega
        · exact hwo ⟨hw, hp, by omega⟩
      cases hany : hasAny c.own c.addr with
      | false =>
        have ht0 : t = 0 := by
          rcases Nat.eq_zero_or_pos t with h | h
          · exact h
          · have := hh h; rw [hany] at this; cases this
        subst ht0
        have e2 : stepR c at' 0 w s = none := by unfold stepR; rw [if_neg ha0, if_neg ha1, if_neg hwo, if_pos hany]
        have e1 : stepC c 3 w s = none := by
          unfold stepC
          by_cases h1 : w = wOwn
          · rw [if_neg (by rw [h1]; decide), if_neg (by rw [h1]; decide), if_pos h1, if_neg (hnoown h1)]
          · simp [h1, hany]
        rw [e1, e2]; trivial
      | true =>
        have hR : stepR c at' t w s = if w = wPort ∧ t = 0 then (if c.ports.length + 1 ≤ 8 then (portIn s).map fun p => ({ c with ports := c.ports ++ [p] }, t) else none) else (tailR c t w s).map fun c' => (c', t + 1) := by
          unfold stepR; rw [if_neg ha0, if_neg ha1, if_neg hwo, if_neg (by rw [hany]; decide)]
        rw [hR]
        by_cases hwp : w = wPort ∧ t = 0
        · obtain ⟨rfl, rfl⟩ := hwp
          rw [if_pos ⟨rfl, rfl⟩]
          have e1 : stepC c (3 + 0) wPort s = if c.ports.length + 1 ≤ 8 then (portIn s).map fun p => ({ c with ports := c.ports ++ [p] }, 3) else none := by
            unfold stepC; rw [if_neg (by decide), if_neg (by decide), if_neg (by decide), if_pos rfl]
            by_cases h8 : c.ports.length + 1 ≤ 8
            · rw [if_pos ⟨rfl, hany, h8⟩, if_pos h8]
            · rw [if_neg (fun h => h8 h.2.2), if_neg h8]
          rw [e1]
          by_cases h8 : c.ports.length + 1 ≤ 8
          · rw [if_pos h8, if_pos h8]
            cases portIn s with
            | none => trivial
            | some p => exact ⟨rfl, .inr ⟨by omega, ho, rfl, by omega, fun h => by omega⟩⟩
          · rw [if_neg h8, if_neg h8]; trivial
        · rw [if_neg hwp]
          have hnoport : w = wPort → ¬ (3 + t = 3 ∧ hasAny c.own c.addr = true ∧ c.ports.length + 1 ≤ 8) := fun hw hh => hwp ⟨hw, by omega⟩
          have h07 : t = 0 ∨ t = 1 ∨ t = 2 ∨ t = 3 ∨ t = 4 ∨ t = 5 ∨ t = 6 ∨ t = 7 := by omega
          have key : ∀ (W : List UInt8) (o : Option Cfg), stepC c (3 + t) W s = o.map (fun c' => (c', 3 + t + 1)) → tailR c t W s = o → (∀ c', o = some c' → c'.own = c.own ∧ c'.addr = c.addr) → t < 7 → w = W →
              (match stepC c (3 + t) w s, (tailR c t w s).map fun c' => (c', t + 1) with
                | none, none => True
                | some (c1, st1), some (c2, t2) => c1 = c2 ∧ Goes c1 st1 (at' + 1) t2
                | _, _ => False) := by
            intro W o h1 h2 h3 h4 hw
            rw [hw, h1, h2]
            cases o with
            | none => trivial
            | some c' =>
              obtain ⟨k1, k2⟩ := h3 c' rfl
              exact ⟨rfl, .inr ⟨by omega, by rw [k1]; exact ho, by omega, by omega, fun _ => by rw [k1, k2]; exact hany⟩⟩
          have other : ∀ (W : List UInt8), (w ≠ W → stepC c (3 + t) w s = none) → (w ≠ W → tailR c t w s = none) → w ≠ W →
              (match stepC c (3 + t) w s, (tailR c t w s).map fun c' => (c', t + 1) with
                | none, none => True
                | some (c1, st1), some (c2, t2) => c1 = c2 ∧ Goes c1 st1 (at' + 1) t2
                | _, _ => False) := by
            intro W h1 h2 hw
            rw [h1 hw, h2 hw]; trivial
          rcases h07 with rfl | rfl | rfl | rfl | rfl | rfl | rfl | rfl
          · have eT : ∀ W, tailR c 0 W s = (if W = wHello then (numIn s 1 100).map (fun n => { c with hello := n }) else none) := fun _ => rfl
            by_cases hw : w = wHello
            · refine key wHello (tailR c 0 wHello s) ?_ rfl ?_ (by omega) hw
              · show stepC c 3 wHello s = _
                rw [eT, if_pos rfl, Option.map_map]
                unfold stepC
                rw [if_neg (by decide), if_neg (by decide), if_neg (by decide), if_neg (by decide), if_pos rfl, if_pos ⟨rfl, hany⟩]; rfl
              · intro c' hc'
                rw [eT, if_pos rfl] at hc'
                obtain ⟨n, _, rfl⟩ := Option.map_eq_some_iff.1 hc'
                exact ⟨rfl, rfl⟩
            · exact other wHello (fun hw => stepC_none (fun _ => by omega) (fun _ => by omega) hnoown hnoport (fun e => absurd e hw) (fun _ => by omega) (fun _ => by omega) (fun _ => by omega) (fun _ => by omega) (fun _ => by omega) (fun _ => by omega)) (fun hw => by rw [eT, if_neg hw]) hw
          · have eT : ∀ W, tailR c 1 W s = (if W = wDead then (numIn s (c.hello + 1).toNat 100).map (fun n => { c with dead := n }) else none) := fun _ => rfl
            by_cases hw : w = wDead
            · refine key wDead (tailR c 1 wDead s) ?_ rfl ?_ (by omega) hw
              · show stepC c 4 wDead s = _
                rw [eT, if_pos rfl, Option.map_map]
                unfold stepC
                rw [if_neg (by decide), if_neg (by decide), if_neg (by decide), if_neg (by decide), if_neg (by decide), if_pos rfl, if_pos rfl]; rfl
              · intro c' hc'
                rw [eT, if_pos rfl] at hc'
                obtain ⟨n, _, rfl⟩ := Option.map_eq_some_iff.1 hc'
                exact ⟨rfl, rfl⟩
            · exact other wDead (fun hw => stepC_none (fun _ => by omega) (fun _ => by omega) hnoown hnoport (fun _ h => by have := h.1; omega) (fun e => absurd e hw) (fun _ => by omega) (fun _ => by omega) (fun _ => by omega) (fun _ => by omega) (fun _ => by omega)) (fun hw => by rw [eT, if_neg hw]) hw
          · have eT : ∀ W, tailR c 2 W s = (if W = wAgain then (numIn s 1 100).map (fun n => { c with again := n }) else none) := fun _ => rfl
            by_cases hw : w = wAgain
            · refine key wAgain (tailR c 2 wAgain s) ?_ rfl ?_ (by omega) hw
              · show stepC c 5 wAgain s = _
                rw [eT, if_pos rfl, Option.map_map]
                unfold stepC
                rw [if_neg (by decide), if_neg (by decide), if_neg (by decide), if_neg (by decide), if_neg (by decide), if_neg (by decide), if_pos rfl, if_pos rfl]; rfl
              · intro c' hc'
                rw [eT, if_pos rfl] at hc'
                obtain ⟨n, _, rfl⟩ := Option.map_eq_some_iff.1 hc'
                exact ⟨rfl, rfl⟩
            · exact other wAgain (fun hw => stepC_none (fun _ => by omega) (fun _ => by omega) hnoown hnoport (fun _ h => by have := h.1; omega) (fun _ => by omega) (fun e => absurd e hw) (fun _ => by omega) (fun _ => by omega) (fun _ => by omega) (fun _ => by omega)) (fun hw => by rw [eT, if_neg hw]) hw
          · have eT : ∀ W, tailR c 3 W s = (if W = wRoom then (numIn s 0 64).map (fun n => { c with room := n }) else none) := fun _ => rfl
            by_cases hw : w = wRoom
            · refine key wRoom (tailR c 3 wRoom s) ?_ rfl ?_ (by omega) hw
              · show stepC c 6 wRoom s = _
                rw [eT, if_pos rfl, Option.map_map]
                unfold stepC
                rw [if_neg (by decide), if_neg (by decide), if_neg (by decide), if_neg (by decide), if_neg (by decide), if_neg (by decide), if_neg (by decide), if_pos rfl, if_pos rfl]; rfl
              · intro c' hc'
                rw [eT, if_pos rfl] at hc'
                obtain ⟨n, _, rfl⟩ := Option.map_eq_some_iff.1 hc'
                exact ⟨rfl, rfl⟩
            · exact other wRoom (fun hw => stepC_none (fun _ => by omega) (fun _ => by omega) hnoown hnoport (fun _ h => by have := h.1; omega) (fun _ => by omega) (fun _ => by omega) (fun e => absurd e hw) (fun _ => by omega) (fun _ => by omega) (fun _ => by omega)) (fun hw => by rw [eT, if_neg hw]) hw
          · have eT : ∀ W, tailR c 4 W s = (if W = wQueue then (numIn s 1 64).map (fun n => { c with queue := n }) else none) := fun _ => rfl
            by_cases hw : w = wQueue
            · refine key wQueue (tailR c 4 wQueue s) ?_ rfl ?_ (by omega) hw
              · show stepC c 7 wQueue s = _
                rw [eT, if_pos rfl, Option.map_map]
                unfold stepC
                rw [if_neg (by decide), if_neg (by decide), if_neg (by decide), if_neg (by decide), if_neg (by decide), if_neg (by decide), if_neg (by decide), if_neg (by decide), if_pos rfl, if_pos rfl]; rfl
              · intro c' hc'
                rw [eT, if_pos rfl] at hc'
                obtain ⟨n, _, rfl⟩ := Option.map_eq_some_iff.1 hc'
                exact ⟨rfl, rfl⟩
            · exact other wQueue (fun hw => stepC_none (fun _ => by omega) (fun _ => by omega) hnoown hnoport (fun _ h => by have := h.1; omega) (fun _ => by omega) (fun _ => by omega) (fun _ => by omega) (fun e => absurd e hw) (fun _ => by omega) (fun _ => by omega)) (fun hw => by rw [eT, if_neg hw]) hw
          · have eT : ∀ W, tailR c 5 W s = (if W = wTokens then (numIn s 0 64).map (fun n => { c with tokens := n }) else none) := fun _ => rfl
            by_cases hw : w = wTokens
            · refine key wTokens (tailR c 5 wTokens s) ?_ rfl ?_ (by omega) hw
              · show stepC c 8 wTokens s = _
                rw [eT, if_pos rfl, Option.map_map]
                unfold stepC
                rw [if_neg (by decide), if_neg (by decide), if_neg (by decide), if_neg (by decide), if_neg (by decide), if_neg (by decide), if_neg (by decide), if_neg (by decide), if_neg (by decide), if_pos rfl, if_pos rfl]; rfl
              · intro c' hc'
                rw [eT, if_pos rfl] at hc'
                obtain ⟨n, _, rfl⟩ := Option.map_eq_some_iff.1 hc'
                exact ⟨rfl, rfl⟩
            · exact other wTokens (fun hw => stepC_none (fun _ => by omega) (fun _ => by omega) hnoown hnoport (fun _ h => by have := h.1; omega) (fun _ => by omega) (fun _ => by omega) (fun _ => by omega) (fun _ => by omega) (fun e => absurd e hw) (fun _ => by omega)) (fun hw => by rw [eT, if_neg hw]) hw
          · have eT : ∀ W, tailR c 6 W s = (if W = wRefill then (numIn s 1 100).map (fun n => { c with refill := n }) else none) := fun _ => rfl
            by_cases hw : w = wRefill
            · refine key wRefill (tailR c 6 wRefill s) ?_ rfl ?_ (by omega) hw
              · show stepC c 9 wRefill s = _
                rw [eT, if_pos rfl, Option.map_map]
                unfold stepC
                rw [if_neg (by decide), if_neg (by decide), if_neg (by decide), if_neg (by decide), if_neg (by decide), if_neg (by decide), if_neg (by decide), if_neg (by decide), if_neg (by decide), if_neg (by decide), if_pos rfl, if_pos rfl]; rfl
              · intro c' hc'
                rw [eT, if_pos rfl] at hc'
                obtain ⟨n, _, rfl⟩ := Option.map_eq_some_iff.1 hc'
                exact ⟨rfl, rfl⟩
            · exact other wRefill (fun hw => stepC_none (fun _ => by omega) (fun _ => by omega) hnoown hnoport (fun _ h => by have := h.1; omega) (fun _ => by omega) (fun _ => by omega) (fun _ => by omega) (fun _ => by omega) (fun _ => by omega) (fun e => absurd e hw)) (fun hw => by rw [eT, if_neg hw]) hw
          · have e1 : stepC c (3 + 7) w s = none := stepC_none (fun _ => by omega) (fun _ => by omega) hnoown hnoport (fun _ h => by have := h.1; omega) (fun _ => by omega) (fun _ => by omega) (fun _ => by omega) (fun _ => by omega) (fun _ => by omega) (fun _ => by omega)
            have e2 : tailR c 7 w s = none := rfl
            rw [e1, e2]; trivial

/-- A text's lines, by the code's stages: the configuration, the line, the error. -/
def runC : List (List UInt8) → Cfg → Nat → Nat → Cfg × Nat × Int
  | [], _, _, n => ({}, n, 4)
  | [l], c, st, n => if l = [] ∧ st = 10 then (c, 0, 0) else ({}, n, 4)
  | l :: l' :: ls, c, st, n => if 32 ∈ l then (match stepC c st (cutA 32 l) (cutB 32 l) with
    | some (c', st') => runC (l' :: ls) c' st' (n + 1)
    | none => ({}, n, 4)) else ({}, n, 4)
def runR : List (List UInt8) → Cfg → Nat → Nat → Cfg × Nat × Int
  | [], _, at', _ => ({}, at', 4)
  | [l], c, at', t => if l = [] ∧ t = 7 then (c, 0, 0) else ({}, at', 4)
  | l :: l' :: ls, c, at', t => if 32 ∈ l then (match stepR c at' t (cutA 32 l) (cutB 32 l) with
    | some (c', t') => runR (l' :: ls) c' (at' + 1) t'
    | none => ({}, at', 4)) else ({}, at', 4)
theorem run_same : ∀ (ls : List (List UInt8)) {c : Cfg} {st at' t : Nat}, Goes c st at' t → runC ls c st at' = runR ls c at' t
  | [], _, _, _, _, _ => rfl
  | [l], c, st, at', t, h => by
    unfold runC runR
    by_cases hl : l = [] ∧ st = 10
    · rw [if_pos hl, if_pos ⟨hl.1, h.done.1 hl.2⟩]
    · rw [if_neg hl, if_neg (fun k => hl ⟨k.1, h.done.2 k.2⟩)]
  | l :: l' :: ls, c, st, at', t, h => by
    unfold runC runR
    split
    · have hs := step_same h (cutA 32 l) (cutB 32 l)
      unfold Step at hs
      cases h1 : stepC c st (cutA 32 l) (cutB 32 l) with
      | none =>
        cases h2 : stepR c at' t (cutA 32 l) (cutB 32 l) with
        | none => rfl
        | some q => rw [h1, h2] at hs; exact hs.elim
      | some p =>
        obtain ⟨c1, st1⟩ := p
        cases h2 : stepR c at' t (cutA 32 l) (cutB 32 l) with
        | none => rw [h1, h2] at hs; exact hs.elim
        | some q =>
          obtain ⟨c2, t2⟩ := q
          rw [h1, h2] at hs
          obtain ⟨rfl, hg⟩ := hs
          exact run_same (l' :: ls) hg
    · rfl
def parseC (text : List UInt8) : Cfg × Nat × Int := if 4096 < text.length then ({}, 0, 3) else runC (splitOn 10 text) {} 0 0
def parseR (text : List UInt8) : Cfg × Nat × Int := if 4096 < text.length then ({}, 0, 3) else runR (splitOn 10 text) {} 0 0
/-- Every text is read alike. -/
theorem parse_same (text : List UInt8) : parseC text = parseR text := by
  unfold parseC parseR
  split
  · rfl
  · exact run_same _ Goes.start
end Go.Proofs.YtfbangojgjcbcaaGreatDoor.Pl
namespace Go.Proofs.YtfbangojgjcbcaaGreatDoor.Pl
open Go.Lib (decDigits itoa)

def inI (n lo hi : Int) : Bool := decide (lo ≤ n) && decide (n ≤ hi)
def portOk (p : Int × Int) : Bool := inI p.1 1 50 && inI p.2 68 1500
def mayC (c : Cfg) : Bool := ownOk c.own && decide (c.ports.length ≤ 8) && c.ports.all portOk && hasAny c.own c.addr && inI c.node 1 16 && inI c.hello 1 100 && inI c.dead (c.hello + 1) 100 && inI c.again 1 100 && inI c.room 0 64 && inI c.queue 1 64 && inI c.tokens 0 64 && inI c.refill 1 100
/-- Its addresses are some. -/
def Addrs4 (c : Cfg) : Prop := (0 ≤ c.addr ∧ c.addr < 4294967296) ∧ ∀ p ∈ c.own, 0 ≤ p.1 ∧ p.1 < 4294967296

def lnNum (w : List UInt8) (n : Int) : List UInt8 := w ++ 32 :: itoa n
def lnAddr (a : Int) : List UInt8 := wAddress ++ 32 :: addrText a.toNat
def lnOwn (p : Int × Int) : List UInt8 := wOwn ++ 32 :: prefixText p.1.toNat p.2.toNat
def lnPort (p : Int × Int) : List UInt8 := wPort ++ 32 :: (itoa p.1 ++ 32 :: itoa p.2)
def tails (c : Cfg) : List (List UInt8) := [lnNum wHello c.hello, lnNum wDead c.dead, lnNum wAgain c.again, lnNum wRoom c.room, lnNum wQueue c.queue, lnNum wTokens c.tokens, lnNum wRefill c.refill]
def heads (c : Cfg) : List (List UInt8) := [lnNum wNode c.node, lnAddr c.addr] ++ c.own.map lnOwn ++ c.ports.map lnPort
def linesP (c : Cfg) : List (List UInt8) := heads c ++ tails c
def textP (c : Cfg) : List UInt8 := (linesP c).flatMap (· ++ [10])

theorem numIn_some {s : List UInt8} {lo hi : Nat} {n : Int} (h : numIn s lo hi = some n) : s = itoa n ∧ (lo : Int) ≤ n ∧ n ≤ hi := by
  unfold numIn at h
  split at h
  · rename_i hc
    injection h with h
    subst h
    obtain ⟨h1, h2, _⟩ := numOk_dec s hi hc.1
    exact ⟨by rw [itoa_nat]; exact h1.symm, by have := hc.2; omega, by omega⟩
  · cases h
theorem numIn_itoa {n : Int} {lo hi : Nat} (h1 : (lo : Int) ≤ n) (h2 : n ≤ hi) (hh : hi < 1000000000) : numIn (itoa n) lo hi = some n := by
  obtain ⟨m, rfl⟩ := Int.eq_ofNat_of_zero_le (show 0 ≤ n by omega)
  rw [itoa_nat]
  obtain ⟨k1, k2⟩ := numOk_of m hi (by omega) (by omega)
  unfold numIn
  rw [if_pos ⟨k1, by omega⟩, k2]
theorem itoa_no (n : Int) (h : 0 ≤ n) (c : UInt8) (hc : isDig c = false) : c ∉ itoa n := by
  obtain ⟨m, rfl⟩ := Int.eq_ofNat_of_zero_le h
  rw [itoa_nat]; exact dec_no c hc m

/-- Lines, one behind the other. -/
def runL : List (List UInt8) → Cfg → Nat → Option (Cfg × Nat)
  | [], c, st => some (c, st)
  | l :: ls, c, st => if 32 ∈ l then (match stepC c st (cutA 32 l) (cutB 32 l) with
    | some (c', st') => runL ls c' st'
    | none => none) else none
theorem runL_append : ∀ (a b : List (List UInt8)) (c : Cfg) (st : Nat), runL (a ++ b) c st = match runL a c st with
    | some (c', st') => runL b c' st'
    | none => none
  | [], b, c, st => rfl
  | l :: a, b, c, st => by
    simp only [List.cons_append, runL]
    split
    · cases stepC c st (cutA 32 l) (cutB 32 l) with
      | none => rfl
      | some q => exact runL_append a b q.1 q.2
    · rfl
theorem runC_lines : ∀ (ls : List (List UInt8)) (r : List UInt8) (rs : List (List UInt8)) (c : Cfg) (st n : Nat) (c' : Cfg) (st' : Nat), runL ls c st = some (c', st') → runC (ls ++ r :: rs) c st n = runC (r :: rs) c' st' (n + ls.length)
  | [], r, rs, c, st, n, c', st', h => by simp [runL] at h; obtain ⟨rfl, rfl⟩ := h; rfl
  | l :: ls, r, rs, c, st, n, c', st', h => by
    simp only [runL] at h
    split at h
    · rename_i h32
      cases hs : stepC c st (cutA 32 l) (cutB 32 l) with
      | none => rw [hs] at h; cases h
      | some q =>
        rw [hs] at h
        obtain ⟨c1, st1⟩ := q
        have ih := runC_lines ls r rs c1 st1 (n + 1) c' st' h
        rw [List.cons_append]
        have hne : ∃ y ys, ls ++ r :: rs = y :: ys := by cases ls <;> simp
        obtain ⟨y, ys, hy⟩ := hne
        rw [hy] at ih ⊢
        conv => lhs; unfold runC
        rw [if_pos h32, hs]
        simp only
        rw [ih, List.length_cons, show n + 1 + ls.length = n + (ls.length + 1) by omega]
    · cases h
/-- One of a line's words. -/
theorem lnNum_cut {w : List UInt8} (hw : 32 ∉ w) (m : List UInt8) : 32 ∈ w ++ 32 :: m ∧ cutA 32 (w ++ 32 :: m) = w ∧ cutB 32 (w ++ 32 :: m) = m := ⟨by simp, (cut_app 32 w m hw).1, (cut_app 32 w m hw).2⟩
theorem runL_one {c c' : Cfg} {st st' : Nat} {w m : List UInt8} (hw : 32 ∉ w) (h : stepC c st w m = some (c', st')) : runL [w ++ 32 :: m] c st = some (c', st') := by
  obtain ⟨h1, h2, h3⟩ := lnNum_cut hw m
  simp only [runL]
  rw [if_pos h1, h2, h3, h]

theorem inI_iff {n lo hi : Int} : inI n lo hi = true ↔ lo ≤ n ∧ n ≤ hi := by unfold inI; simp
/-- Own prefixes, one behind the other. -/
theorem runL_own (c : Cfg) (hc : c.ports = []) : ∀ (l2 l1 : List (Int × Int)) (st : Nat), c.own = l1 → (st = 2 ∨ st = 3) → (∀ p ∈ l2, 0 ≤ p.1 ∧ p.1 < 4294967296) → (∀ k, k < l2.length → ownOk (l1 ++ l2.take (k + 1)) = true) →
    runL (l2.map lnOwn) c st = some ({ c with own := l1 ++ l2 }, if l2 = [] then st else 3)
  | [], l1, st, h1, _, _, _ => by subst h1; simp [runL]
  | p :: l2, l1, st, h1, hst, ha, hok => by
    have hp := ha p (by simp)
    have hok1 := hok 0 (by simp)
    simp only [List.take_succ_cons, List.take_zero] at hok1
    have hm : mayP p.1 p.2 = true := by
      unfold ownOk at hok1
      simp only [Bool.and_eq_true, List.all_eq_true] at hok1
      exact hok1.1.2 p (by simp)
    obtain ⟨a, n⟩ := p
    obtain ⟨A, rfl⟩ := Int.eq_ofNat_of_zero_le hp.1
    obtain ⟨hn0, hn1, _⟩ := (mayP_iff _ _).1 hm
    obtain ⟨N, rfl⟩ := Int.eq_ofNat_of_zero_le hn0
    have hpo : prefixOf (prefixText A N) = some (A, N) := prefixOf_text A N (by have := hp.2; omega) hm
    rw [List.map_cons, ← List.singleton_append, runL_append]
    have hstep : stepC c st wOwn (prefixText A N) = some ({ c with own := l1 ++ [((A : Int), (N : Int))] }, 3) := by
      unfold stepC
      rw [if_neg (by decide), if_neg (by decide), if_pos rfl, if_pos (by rcases hst with h | h; exact .inl h; exact .inr ⟨h, hc⟩), hpo]
      simp only
      rw [h1, if_pos hok1]
    have e1 := runL_one (c := c) (st := st) (w := wOwn) (m := prefixText A N) (by decide) hstep
    rw [show [lnOwn ((A : Int), (N : Int))] = [wOwn ++ 32 :: prefixText A N] from rfl, e1]
    simp only
    rw [runL_own { c with own := l1 ++ [((A : Int), (N : Int))] } hc l2 (l1 ++ [((A : Int), (N : Int))]) 3 rfl (.inr rfl) (fun p hp => ha p (by simp [hp])) (fun k hk => by
      have := hok (k + 1) (by simpa using hk)
      simpa using this)]
    simp
theorem portIn_text {p : Int × Int} (h : portOk p = true) : portIn (itoa p.1 ++ 32 :: itoa p.2) = some p := by
  unfold portOk at h
  simp only [Bool.and_eq_true, inI_iff] at h
  obtain ⟨⟨h1, h2⟩, h3, h4⟩ := h
  unfold portIn
  rw [splitOn_app 32 _ _ (itoa_no p.1 (by omega) 32 (by decide)), splitOn_none 32 _ (itoa_no p.2 (by omega) 32 (by decide))]
  simp only
  rw [numIn_itoa (n := p.1) (by omega) (by omega) (by omega), numIn_itoa (n := p.2) (by omega) (by omega) (by omega)]
theorem runL_ports (c : Cfg) (hh : hasAny c.own c.addr = true) : ∀ (l2 l1 : List (Int × Int)), c.ports = l1 → l1.length + l2.length ≤ 8 → l2.all portOk = true →
    runL (l2.map lnPort) c 3 = some ({ c with ports := l1 ++ l2 }, 3)
  | [], l1, h1, _, _ => by subst h1; simp [runL]
  | p :: l2, l1, h1, h8, hok => by
    simp only [List.all_cons, Bool.and_eq_true] at hok
    simp only [List.length_cons] at h8
    rw [List.map_cons, ← List.singleton_append, runL_append]
    have hstep : stepC c 3 wPort (itoa p.1 ++ 32 :: itoa p.2) = some ({ c with ports := l1 ++ [p] }, 3) := by
      unfold stepC
      rw [if_neg (by decide), if_neg (by decide), if_neg (by decide), if_pos rfl, if_pos ⟨rfl, hh, by rw [h1]; omega⟩, portIn_text hok.1, h1]; rfl
    have e1 := runL_one (c := c) (st := 3) (w := wPort) (m := itoa p.1 ++ 32 :: itoa p.2) (by decide) hstep
    rw [show [lnPort p] = [wPort ++ 32 :: (itoa p.1 ++ 32 :: itoa p.2)] from rfl, e1]
    simp only
    rw [runL_ports { c with ports := l1 ++ [p] } hh l2 (l1 ++ [p]) rfl (by simp; omega) hok.2]
    simp
end Go.Proofs.YtfbangojgjcbcaaGreatDoor.Pl
