/- Part 4 of the proof: PlainQ, PlainH2, PlainK, ConfA, ConfB. -/
import Derived.WalkMore
import Derived.Deep.LoopGhost
import Derived.Test.YtfbangojgjcbcaaGreatDoorSC01
import Derived.Test.YtfbangojgjcbcaaGreatDoorSC02
namespace Go.Proofs.YtfbangojgjcbcaaGreatDoor.Pl
/-- The longest common front. -/
def lcp : List Bool → List Bool → List Bool
  | a :: l, b :: m => if a = b then a :: lcp l m else []
  | _, _ => []
theorem lcp_left : ∀ l m, lcp l m <+: l
  | [], m => by simp [lcp]
  | a :: l, [] => by simp [lcp]
  | a :: l, b :: m => by
    unfold lcp; split
    · exact List.cons_prefix_cons.2 ⟨rfl, lcp_left l m⟩
    · exact List.nil_prefix
theorem lcp_comm : ∀ l m, lcp l m = lcp m l
  | [], [] => rfl
  | [], b :: m => rfl
  | a :: l, [] => rfl
  | a :: l, b :: m => by
    unfold lcp
    by_cases h : a = b
    · subst h; simp [lcp_comm l m]
    · rw [if_neg h, if_neg (fun e => h e.symm)]
theorem lcp_right (l m : List Bool) : lcp l m <+: m := by rw [lcp_comm]; exact lcp_left m l
theorem lcp_eq_left_iff : ∀ l m, lcp l m = l ↔ l <+: m
  | [], m => by simp [lcp]
  | a :: l, [] => by simp [lcp]
  | a :: l, b :: m => by
    unfold lcp
    by_cases h : a = b
    · subst h; simp [lcp_eq_left_iff l m]
    · simp [h]
theorem lcp_eq_right_iff (l m : List Bool) : lcp l m = m ↔ m <+: l := by rw [lcp_comm]; exact lcp_eq_left_iff m l
/-- Where neither is ahead of the other they part behind the common front. -/
theorem lcp_parts : ∀ l m, ¬ l <+: m → ¬ m <+: l → ∃ a, lcp l m ++ [a] <+: l ∧ lcp l m ++ [!a] <+: m
  | [], m, h, _ => absurd List.nil_prefix h
  | a :: l, [], _, h => absurd List.nil_prefix h
  | a :: l, b :: m, h1, h2 => by
    unfold lcp
    by_cases h : a = b
    · subst h
      obtain ⟨x, h3, h4⟩ := lcp_parts l m (fun k => h1 (List.cons_prefix_cons.2 ⟨rfl, k⟩)) (fun k => h2 (List.cons_prefix_cons.2 ⟨rfl, k⟩))
      refine ⟨x, ?_, ?_⟩ <;> simp [*]
    · refine ⟨a, ?_, ?_⟩
      · simp [h]
      · simp only [if_neg h, List.nil_append]
        have : b = !a := by cases a <;> cases b <;> simp_all
        rw [this]; simp
theorem next_prefix {k p : List Bool} (h : k <+: p) (hne : ¬ k = p) : ∃ b, p[k.length]? = some b ∧ k ++ [b] <+: p := by
  obtain ⟨t, rfl⟩ := h
  cases t with
  | nil => simp at hne
  | cons b t => exact ⟨b, by simp, ⟨t, by simp⟩⟩
/-- A tree of prefixes: each node's block, its bits, whether it is one, what lies below. -/
inductive Tree where
  | nil
  | node (b : Nat) (k : List Bool) (has : Bool) (l r : Tree)
def Tree.all : Tree → List (List Bool)
  | .nil => []
  | .node _ k _ l r => k :: (l.all ++ r.all)
def Tree.keys : Tree → List (List Bool)
  | .nil => []
  | .node _ k has l r => (if has then [k] else []) ++ (l.keys ++ r.keys)
def Tree.blocks : Tree → List Nat
  | .nil => []
  | .node b _ _ l r => b :: (l.blocks ++ r.blocks)
def Tree.Inv : Tree → Prop
  | .nil => True
  | .node _ k _ l r => k.length ≤ 32 ∧ (∀ q ∈ l.all, k ++ [false] <+: q) ∧ (∀ q ∈ r.all, k ++ [true] <+: q) ∧ l.Inv ∧ r.Inv
theorem Tree.keys_all : ∀ {t : Tree} {q}, q ∈ t.keys → q ∈ t.all
  | .nil, q, h => by simp [keys] at h
  | .node b k has l r, q, h => by
    simp only [keys, List.mem_append] at h
    simp only [all, List.mem_cons, List.mem_append]
    rcases h with h | h | h
    · cases has <;> simp at h; exact .inl h
    · exact .inr (.inl (keys_all h))
    · exact .inr (.inr (keys_all h))
/-- A prefix put in: b1 the new node's block, b2 a fork's. -/
def Tree.ins (b1 b2 : Nat) (p : List Bool) : Tree → Tree
  | .nil => .node b1 p true .nil .nil
  | .node b k has l r =>
    if k = p then .node b k true l r
    else if k <+: p then (if p[k.length]? = some true then .node b k has l (ins b1 b2 p r) else .node b k has (ins b1 b2 p l) r)
    else if p <+: k then (if k[p.length]? = some true then .node b1 p true .nil (.node b k has l r) else .node b1 p true (.node b k has l r) .nil)
    else (if p[(lcp k p).length]? = some true then .node b2 (lcp k p) false (.node b k has l r) (.node b1 p true .nil .nil) else .node b2 (lcp k p) false (.node b1 p true .nil .nil) (.node b k has l r))
theorem Tree.ins_all {b1 b2 : Nat} {p x : List Bool} (hx : x <+: p) : ∀ {t : Tree}, (∀ q ∈ t.all, x <+: q) → ∀ q ∈ (t.ins b1 b2 p).all, x <+: q
  | .nil, _, q, hq => by simp [ins, all] at hq; subst hq; exact hx
  | .node b k has l r, h, q, hq => by
    have hk := h k (by simp [all])
    have hl : ∀ q ∈ l.all, x <+: q := fun q hq => h q (by simp [all, hq])
    have hr : ∀ q ∈ r.all, x <+: q := fun q hq => h q (by simp [all, hq])
    have hlc : ¬ k <+: p → ¬ p <+: k → x <+: lcp k p := fun _ _ => by
      obtain ⟨s, rfl⟩ := hk
      obtain ⟨u, rfl⟩ := hx
      have : ∀ (x s u : List Bool), lcp (x ++ s) (x ++ u) = x ++ lcp s u := by
        intro x s u
        induction x with
        | nil => rfl
        | cons a x ih => simp [lcp, ih]
      rw [this]; exact List.prefix_append _ _
    unfold ins at hq
    split at hq
    · simp only [all, List.mem_cons, List.mem_append] at hq
      rcases hq with rfl | hq | hq
      · exact hk
      · exact hl q hq
      · exact hr q hq
    · split at hq
      · split at hq <;> simp only [all, List.mem_cons, List.mem_append] at hq
        · rcases hq with rfl | hq | hq
          · exact hk
          · exact hl q hq
          · exact ins_all hx hr q hq
        · rcases hq with rfl | hq | hq
          · exact hk
          · exact ins_all hx hl q hq
          · exact hr q hq
      · split at hq
        · split at hq <;> simp only [all, List.mem_cons, List.mem_append, List.not_mem_nil, false_or, or_false] at hq
          · rcases hq with rfl | rfl | hq | hq
            · exact hx
            · exact hk
            · exact hl q hq
            · exact hr q hq
          · rcases hq with rfl | rfl | hq | hq
            · exact hx
            · exact hk
            · exact hl q hq
            · exact hr q hq
        · rename_i h2 h3
          split at hq <;> simp only [all, List.mem_cons, List.mem_append, List.not_mem_nil, or_false] at hq
          · rcases hq with rfl | (rfl | hq | hq) | rfl
            · exact hlc h2 h3
            · exact hk
            · exact hl q hq
            · exact hr q hq
            · exact hx
          · rcases hq with rfl | rfl | rfl | hq | hq
            · exact hlc h2 h3
            · exact hx
            · exact hk
            · exact hl q hq
            · exact hr q hq
theorem at_prefix {k p : List Bool} {b : Bool} (h : k <+: p) (hb : p[k.length]? = some b) : k ++ [b] <+: p := by
  obtain ⟨t, rfl⟩ := h
  cases t with
  | nil => simp at hb
  | cons c t => simp at hb; subst hb; exact ⟨t, by simp⟩
theorem prefix_at {x p : List Bool} {b : Bool} (h : x ++ [b] <+: p) : p[x.length]? = some b := by
  obtain ⟨s, rfl⟩ := h; simp
theorem not_true_false {o : Option Bool} {b : Bool} (h : o = some b) (hn : ¬ o = some true) : o = some false := by
  subst h; cases b <;> simp_all
theorem Tree.ins_inv {b1 b2 : Nat} {p : List Bool} (hp : p.length ≤ 32) : ∀ {t : Tree}, t.Inv → (t.ins b1 b2 p).Inv
  | .nil, _ => by simp [ins, Inv, all, hp]
  | .node b k has l r, h => by
    obtain ⟨hk, h1, h2, h3, h4⟩ := h
    unfold ins
    split
    · exact ⟨hk, h1, h2, h3, h4⟩
    · rename_i hne
      split
      · rename_i hkp
        obtain ⟨c, hc, _⟩ := next_prefix hkp hne
        split
        · rename_i ht
          exact ⟨hk, h1, ins_all (at_prefix hkp ht) h2, h3, ins_inv hp h4⟩
        · rename_i ht
          exact ⟨hk, ins_all (at_prefix hkp (not_true_false hc ht)) h1, h2, ins_inv hp h3, h4⟩
      · split
        · rename_i hkp hpk
          obtain ⟨c, hc, _⟩ := next_prefix hpk (fun e => hne e.symm)
          have hall : ∀ {x : List Bool}, x <+: k → ∀ q ∈ (Tree.node b k has l r).all, x <+: q := fun hx q hq => by
            simp only [all, List.mem_cons, List.mem_append] at hq
            rcases hq with rfl | hq | hq
            · exact hx
            · exact hx.trans ((List.prefix_append _ _).trans (h1 q hq))
            · exact hx.trans ((List.prefix_append _ _).trans (h2 q hq))
          split
          · rename_i ht
            exact ⟨hp, by simp [all], hall (at_prefix hpk ht), trivial, hk, h1, h2, h3, h4⟩
          · rename_i ht
            exact ⟨hp, hall (at_prefix hpk (not_true_false hc ht)), by simp [all], ⟨hk, h1, h2, h3, h4⟩, trivial⟩
        · rename_i hkp hpk
          obtain ⟨c, e1, e2⟩ := lcp_parts k p hkp hpk
          have hlen : (lcp k p).length ≤ 32 := by have := (lcp_left k p).length_le; omega
          have hall : ∀ {x : List Bool}, x <+: k → ∀ q ∈ (Tree.node b k has l r).all, x <+: q := fun hx q hq => by
            simp only [all, List.mem_cons, List.mem_append] at hq
            rcases hq with rfl | hq | hq
            · exact hx
            · exact hx.trans ((List.prefix_append _ _).trans (h1 q hq))
            · exact hx.trans ((List.prefix_append _ _).trans (h2 q hq))
          have hpc : p[(lcp k p).length]? = some (!c) := prefix_at e2
          split
          · rename_i ht
            have hc0 : c = false := by rw [ht] at hpc; cases c <;> simp_all
            subst hc0
            refine ⟨hlen, hall e1, fun q hq => ?_, ⟨hk, h1, h2, h3, h4⟩, hp, by simp [all], by simp [all], trivial, trivial⟩
            simp [all] at hq; subst hq; exact e2
          · rename_i ht
            have hc0 : c = true := by rw [hpc] at ht; cases c <;> simp_all
            subst hc0
            refine ⟨hlen, fun q hq => ?_, hall e1, ⟨hp, by simp [all], by simp [all], trivial, trivial⟩, hk, h1, h2, h3, h4⟩
            simp [all] at hq; subst hq; exact e2
/-- The prefixes that were, and the one put in. -/
theorem Tree.ins_keys {b1 b2 : Nat} {p : List Bool} : ∀ {t : Tree} {q}, q ∈ (t.ins b1 b2 p).keys ↔ q = p ∨ q ∈ t.keys
  | .nil, q => by simp [ins, keys]
  | .node b k has l r, q => by
    unfold ins
    split
    · rename_i h; subst h; cases has <;> simp [keys]
    · split
      · split <;> simp only [keys, List.mem_append, ins_keys (t := l), ins_keys (t := r)]
        · constructor
          · rintro (h | h | h | h)
            · exact .inr (.inl h)
            · exact .inr (.inr (.inl h))
            · exact .inl h
            · exact .inr (.inr (.inr h))
          · rintro (h | h | h | h)
            · exact .inr (.inr (.inl h))
            · exact .inl h
            · exact .inr (.inl h)
            · exact .inr (.inr (.inr h))
        · constructor
          · rintro (h | (h | h) | h)
            · exact .inr (.inl h)
            · exact .inl h
            · exact .inr (.inr (.inl h))
            · exact .inr (.inr (.inr h))
          · rintro (h | h | h | h)
            · exact .inr (.inl (.inl h))
            · exact .inl h
            · exact .inr (.inl (.inr h))
            · exact .inr (.inr h)
      · split
        · split <;> simp [keys]
        · split
          · simp only [keys, List.mem_append, Bool.false_eq_true, if_false, if_true, List.not_mem_nil, false_or, or_false, List.mem_singleton]
            exact or_comm
          · simp only [keys, List.mem_append, Bool.false_eq_true, if_false, if_true, List.not_mem_nil, false_or, or_false, List.mem_singleton]
/-- Is a prefix one of the tree's, by going down? -/
def Tree.find (p : List Bool) : Tree → Bool
  | .nil => false
  | .node _ k has l r => if k = p then has else if k <+: p then (if p[k.length]? = some true then r.find p else l.find p) else false
theorem Tree.find_iff {p : List Bool} : ∀ {t : Tree}, t.Inv → (t.find p = true ↔ p ∈ t.keys)
  | .nil, _ => by simp [find, keys]
  | .node b k has l r, h => by
    obtain ⟨hk, h1, h2, h3, h4⟩ := h
    have nl : ∀ {c : Bool} {t : Tree}, (∀ q ∈ t.all, k ++ [c] <+: q) → p ∈ t.keys → k ++ [c] <+: p := fun ha hp => ha p (keys_all hp)
    have hself : ∀ c : Bool, ¬ p ++ [c] <+: p := fun c hc => by have := hc.length_le; simp at this; omega
    unfold find
    simp only [keys, List.mem_append]
    split
    · rename_i e
      subst e
      constructor
      · intro hh; subst hh; exact .inl (by simp)
      · rintro (hh | hh | hh)
        · cases has <;> simp_all
        · exact absurd (nl h1 hh) (hself _)
        · exact absurd (nl h2 hh) (hself _)
    · rename_i hne
      have hnk : ¬ p ∈ (if has = true then [k] else []) := by
        cases has <;> simp; exact fun e => hne e.symm
      split
      · rename_i hkp
        have hpref : ∀ c : Bool, k ++ [c] <+: p → p[k.length]? = some c := fun c ⟨s, hs⟩ => by rw [← hs]; simp
        split
        · rename_i ht
          rw [find_iff h4]
          constructor
          · intro hh; exact .inr (.inr hh)
          · rintro (hh | hh | hh)
            · exact absurd hh hnk
            · have := hpref _ (nl h1 hh); rw [ht] at this; cases this
            · exact hh
        · rename_i ht
          rw [find_iff h3]
          constructor
          · intro hh; exact .inr (.inl hh)
          · rintro (hh | hh | hh)
            · exact absurd hh hnk
            · exact hh
            · exact absurd (hpref _ (nl h2 hh)) ht
      · rename_i hkp
        constructor
        · intro hh; cases hh
        · rintro (hh | hh | hh)
          · exact absurd hh hnk
          · exact absurd ((List.prefix_append _ _).trans (nl h1 hh)) hkp
          · exact absurd ((List.prefix_append _ _).trans (nl h2 hh)) hkp
/-- How many have an address, on the way down. -/
def Tree.cover (x : List Bool) : Tree → Nat
  | .nil => 0
  | .node _ k has l r => if k <+: x then (if has then 1 else 0) + (if k.length = 32 then 0 else if x[k.length]? = some true then r.cover x else l.cover x) else 0
theorem Tree.cover_iff {x : List Bool} (hx : x.length = 32) : ∀ {t : Tree}, t.Inv → (0 < t.cover x ↔ ∃ q ∈ t.keys, q <+: x)
  | .nil, _ => by simp [cover, keys]
  | .node b k has l r, h => by
    obtain ⟨hk, h1, h2, h3, h4⟩ := h
    unfold cover
    simp only [keys, List.mem_append]
    split
    · rename_i hkx
      cases has with
      | true =>
        simp only [if_true]
        exact ⟨fun _ => ⟨k, .inl (by simp), hkx⟩, fun _ => by omega⟩
      | false =>
        simp only [Bool.false_eq_true, if_false, List.not_mem_nil, false_or, Nat.zero_add]
        split
        · rename_i h32
          refine ⟨fun hh => by omega, fun ⟨q, hq, hqx⟩ => ?_⟩
          exfalso
          have hle := hqx.length_le
          rcases hq with hq | hq
          · have := (h1 q (keys_all hq)).length_le; simp at this; omega
          · have := (h2 q (keys_all hq)).length_le; simp at this; omega
        · have hpref : ∀ c : Bool, k ++ [c] <+: x → x[k.length]? = some c := fun c ⟨s, hs⟩ => by rw [← hs]; simp
          split
          · rename_i ht
            rw [cover_iff hx h4]
            refine ⟨fun ⟨q, hq, hqx⟩ => ⟨q, .inr hq, hqx⟩, fun ⟨q, hq, hqx⟩ => ?_⟩
            rcases hq with hq | hq
            · have := hpref _ ((h1 q (keys_all hq)).trans hqx); rw [ht] at this; cases this
            · exact ⟨q, hq, hqx⟩
          · rename_i ht
            rw [cover_iff hx h3]
            refine ⟨fun ⟨q, hq, hqx⟩ => ⟨q, .inl hq, hqx⟩, fun ⟨q, hq, hqx⟩ => ?_⟩
            rcases hq with hq | hq
            · exact ⟨q, hq, hqx⟩
            · exact absurd (hpref _ ((h2 q (keys_all hq)).trans hqx)) ht
    · rename_i hkx
      refine ⟨fun hh => by omega, fun ⟨q, hq, hqx⟩ => ?_⟩
      exfalso
      rcases hq with hq | hq | hq
      · cases has <;> simp at hq; subst hq; exact hkx hqx
      · exact hkx ((List.prefix_append _ _).trans ((h1 q (keys_all hq)).trans hqx))
      · exact hkx ((List.prefix_append _ _).trans ((h2 q (keys_all hq)).trans hqx))
end Go.Proofs.YtfbangojgjcbcaaGreatDoor.Pl
namespace Go.Proofs.YtfbangojgjcbcaaGreatDoor.Pl
theorem Tree.ins_length {b1 b2 : Nat} {p : List Bool} : ∀ {t : Tree}, (t.ins b1 b2 p).keys.length = t.keys.length + if t.find p = true then 0 else 1
  | .nil => by simp [ins, keys, find]
  | .node b k has l r => by
    unfold ins find
    split
    · cases has <;> simp [keys] <;> try omega
    · split
      · split
        · simp only [keys, List.length_append, ins_length (t := r)]; omega
        · simp only [keys, List.length_append, ins_length (t := l)]; omega
      · simp only [Bool.false_eq_true, if_false]
        split
        · split <;> simp only [keys, List.length_append, if_true, List.length_cons, List.length_nil] <;> omega
        · split <;> simp only [keys, List.length_append, if_true, Bool.false_eq_true, if_false, List.length_cons, List.length_nil] <;> omega
/-- The first n bits of an address. -/
def bitsP (a n : Nat) : List Bool := (List.range n).map fun i => a.testBit (31 - i)
theorem bitsP_length (a n : Nat) : (bitsP a n).length = n := by simp [bitsP]
theorem bitsP_at (a n i : Nat) (h : i < n) : (bitsP a n)[i]? = some (a.testBit (31 - i)) := by
  simp [bitsP, h]
theorem bitsP_take (a n k : Nat) (h : k ≤ n) : (bitsP a n).take k = bitsP a k := by
  unfold bitsP
  rw [← List.map_take, List.take_range, Nat.min_eq_left h]
theorem blk_nat (n : Nat) : blk (n : Int) = ((2 ^ (32 - n) : Nat) : Int) := by unfold blk; rfl
theorem may_mod {a n : Nat} (h : mayP a n = true) : n ≤ 32 ∧ a % 2 ^ (32 - n) = 0 := by
  obtain ⟨_, h1, h2⟩ := (mayP_iff _ _).1 h
  rw [blk_nat, ← Int.natCast_emod] at h2
  exact ⟨by omega, by omega⟩
theorem may_of_mod {a n : Nat} (h1 : n ≤ 32) (h2 : a % 2 ^ (32 - n) = 0) : mayP a n = true := by
  refine (mayP_iff _ _).2 ⟨by omega, by omega, ?_⟩
  rw [blk_nat, ← Int.natCast_emod, h2]; rfl
theorem low_zero {a n : Nat} (h : mayP a n = true) {j : Nat} (hj : j < 32 - n) : a.testBit j = false := by
  obtain ⟨_, h2⟩ := may_mod h
  have e : a = 2 ^ (32 - n) * (a / 2 ^ (32 - n)) := by
    have := Nat.div_add_mod a (2 ^ (32 - n)); omega
  rw [e, Nat.testBit_two_pow_mul]; simp; omega
theorem high_zero {a j : Nat} (h : a < 4294967296) (hj : 32 ≤ j) : a.testBit j = false :=
  Nat.testBit_lt_two_pow (Nat.lt_of_lt_of_le h (Nat.pow_le_pow_right (show 0 < 2 by decide) (show 32 ≤ j from hj)))
theorem bitsP_inj {a n b m : Nat} (ha : a < 4294967296) (hb : b < 4294967296) (h1 : mayP a n = true) (h2 : mayP b m = true) (h : bitsP a n = bitsP b m) : a = b ∧ n = m := by
  have hn : n = m := by rw [← bitsP_length a n, h, bitsP_length]
  subst hn
  refine ⟨Nat.eq_of_testBit_eq fun j => ?_, rfl⟩
  by_cases hj : 32 ≤ j
  · rw [high_zero ha hj, high_zero hb hj]
  · by_cases hi : 31 - j < n
    · have := bitsP_at a n (31 - j) hi
      rw [h, bitsP_at b n (31 - j) hi] at this
      injection this with this
      rw [show 31 - (31 - j) = j by omega] at this; exact this.symm
    · rw [low_zero h1 (by omega), low_zero h2 (by omega)]
theorem first_nat (a k : Nat) : firstP a k = ((a / 2 ^ (32 - k) * 2 ^ (32 - k) : Nat) : Int) := by
  unfold firstP; rw [blk_nat]; simp
theorem first_may (a k : Nat) (hk : k ≤ 32) : mayP ((a / 2 ^ (32 - k) * 2 ^ (32 - k) : Nat) : Int) k = true :=
  may_of_mod hk (Nat.mul_mod_left _ _)
theorem first_bits (a k : Nat) (hk : k ≤ 32) : bitsP (a / 2 ^ (32 - k) * 2 ^ (32 - k)) k = bitsP a k := by
  unfold bitsP
  apply List.map_congr_left
  intro i hi
  rw [List.mem_range] at hi
  rw [Nat.mul_comm, Nat.testBit_two_pow_mul, Nat.testBit_div_two_pow]
  simp only [show 32 - k ≤ 31 - i by omega, decide_true, Bool.true_and]
  congr 1; omega
theorem first_lt (a k : Nat) (ha : a < 4294967296) : a / 2 ^ (32 - k) * 2 ^ (32 - k) < 4294967296 := Nat.lt_of_le_of_lt (Nat.div_mul_le_self _ _) ha
theorem lcp_take : ∀ (k : Nat) (l m : List Bool), k ≤ l.length → k ≤ m.length → l.take k = m.take k → (k = l.length ∨ k = m.length ∨ l[k]? ≠ m[k]?) → lcp l m = l.take k
  | 0, [], m, _, _, _, _ => by simp [lcp]
  | 0, a :: l, [], _, _, _, _ => by simp [lcp]
  | 0, a :: l, b :: m, _, _, _, h => by
    unfold lcp
    rw [if_neg]; rfl
    rcases h with h | h | h
    · simp at h
    · simp at h
    · simpa using h
  | k + 1, [], m, h, _, _, _ => by simp at h
  | k + 1, a :: l, [], _, h, _, _ => by simp at h
  | k + 1, a :: l, b :: m, h1, h2, h3, h4 => by
    simp only [List.take_succ_cons, List.cons.injEq] at h3
    obtain ⟨rfl, h3⟩ := h3
    simp only [List.length_cons, List.getElem?_cons_succ] at h1 h2 h4
    unfold lcp
    rw [if_pos rfl, lcp_take k l m (by omega) (by omega) h3 (by rcases h4 with h | h | h; exact .inl (by omega); exact .inr (.inl (by omega)); exact .inr (.inr h))]
    rfl
/-- How many bits a number has. -/
def bitlen (x : Nat) : Nat := if x = 0 then 0 else Nat.log2 x + 1
theorem bitlen_lt (x : Nat) : x < 2 ^ bitlen x := by
  unfold bitlen; split
  · omega
  · exact Nat.lt_log2_self
theorem bitlen_le {x : Nat} (h : x < 4294967296) : bitlen x ≤ 32 := by
  unfold bitlen; split
  · omega
  · rename_i hx
    have := (Nat.log2_lt hx).2 (show x < 2 ^ 32 from h)
    omega
/-- The length of the common front of two prefixes. -/
def comLen (a n b m : Nat) : Nat := min (min n m) (32 - bitlen (a ^^^ b))
theorem com_bits {a n b m : Nat} (ha : a < 4294967296) (hb : b < 4294967296) (_hn : n ≤ 32) (_hm : m ≤ 32) : bitsP a (comLen a n b m) = lcp (bitsP a n) (bitsP b m) := by
  have hx : a ^^^ b < 4294967296 := Nat.xor_lt_two_pow (n := 32) ha hb
  have hl := bitlen_le hx
  have hkn : comLen a n b m ≤ n := by unfold comLen; omega
  have hkm : comLen a n b m ≤ m := by unfold comLen; omega
  have same : ∀ i, i < 32 - bitlen (a ^^^ b) → a.testBit (31 - i) = b.testBit (31 - i) := fun i hi => by
    have h1 : (a ^^^ b).testBit (31 - i) = false := Nat.testBit_lt_two_pow (Nat.lt_of_lt_of_le (bitlen_lt _) (Nat.pow_le_pow_right (by decide) (by omega)))
    rw [Nat.testBit_xor] at h1
    simpa using h1
  rw [lcp_take (comLen a n b m) _ _ (by rw [bitsP_length]; exact hkn) (by rw [bitsP_length]; exact hkm) ?_ ?_, bitsP_take _ _ _ hkn]
  · rw [bitsP_take _ _ _ hkn, bitsP_take _ _ _ hkm]
    unfold bitsP
    apply List.map_congr_left
    intro i hi
    rw [List.mem_range] at hi
    exact same i (by unfold comLen at hi; omega)
  · rw [bitsP_length, bitsP_length]
    by_cases h1 : comLen a n b m = n
    · exact .inl h1
    · by_cases h2 : comLen a n b m = m
      · exact .inr (.inl h2)
      · right; right
        rw [bitsP_at _ _ _ (by omega), bitsP_at _ _ _ (by omega)]
        have hk : comLen a n b m = 32 - bitlen (a ^^^ b) := by unfold comLen at *; omega
        have h0 : a ^^^ b ≠ 0 := fun e => by rw [e] at hk; simp [bitlen] at hk; omega
        have hpos : 0 < bitlen (a ^^^ b) := by unfold bitlen; rw [if_neg h0]; omega
        have htop : (a ^^^ b).testBit (bitlen (a ^^^ b) - 1) = true := by
          unfold bitlen; rw [if_neg h0, Nat.add_sub_cancel]
          rw [Nat.testBit_eq_decide_div_mod_eq]
          have h1 := Nat.log2_self_le h0
          have h2 : a ^^^ b < 2 ^ (Nat.log2 (a ^^^ b) + 1) := Nat.lt_log2_self
          have h3 : (a ^^^ b) / 2 ^ Nat.log2 (a ^^^ b) = 1 := by
            apply Nat.div_eq_of_lt_le
            · omega
            · rw [Nat.pow_succ] at h2; omega
          rw [h3]; rfl
        rw [Nat.testBit_xor] at htop
        rw [hk, show 31 - (32 - bitlen (a ^^^ b)) = bitlen (a ^^^ b) - 1 by omega]
        intro e
        injection e with e
        rw [e] at htop; simp at htop
theorem has_bits {a n x : Nat} (ha : a < 4294967296) (hx : x < 4294967296) (h : mayP a n = true) : firstP x n = a ↔ bitsP a n <+: bitsP x 32 := by
  have hn := (may_mod h).1
  have e32 : (bitsP x 32).take n = bitsP x n := bitsP_take x 32 n hn
  constructor
  · intro e
    rw [first_nat] at e
    have e' : x / 2 ^ (32 - n) * 2 ^ (32 - n) = a := by omega
    rw [← e', first_bits x n hn, ← e32]
    exact List.take_prefix _ _
  · intro hp
    rw [List.prefix_iff_eq_take, bitsP_length, e32, ← first_bits x n hn] at hp
    have := (bitsP_inj ha (first_lt x n hx) h (first_may x n hn) hp).1
    rw [first_nat]; omega
end Go.Proofs.YtfbangojgjcbcaaGreatDoor.Pl
namespace Go.Proofs.YtfbangojgjcbcaaGreatDoor.Pl
open Go.Lib (decDigits itoa)
theorem mayC_parts {c : Cfg} (h : mayC c = true) : ownOk c.own = true ∧ c.ports.length ≤ 8 ∧ c.ports.all portOk = true ∧ hasAny c.own c.addr = true ∧ (1 ≤ c.node ∧ c.node ≤ 16) ∧ (1 ≤ c.hello ∧ c.hello ≤ 100) ∧ (c.hello + 1 ≤ c.dead ∧ c.dead ≤ 100) ∧ (1 ≤ c.again ∧ c.again ≤ 100) ∧ (0 ≤ c.room ∧ c.room ≤ 64) ∧ (1 ≤ c.queue ∧ c.queue ≤ 64) ∧ (0 ≤ c.tokens ∧ c.tokens ≤ 64) ∧ (1 ≤ c.refill ∧ c.refill ≤ 100) := by
  unfold mayC at h
  simp only [Bool.and_eq_true, inI_iff, decide_eq_true_eq] at h
  obtain ⟨⟨⟨⟨⟨⟨⟨⟨⟨⟨⟨h1, h2⟩, h3⟩, h4⟩, h5⟩, h6⟩, h7⟩, h8⟩, h9⟩, h10⟩, h11⟩, h12⟩ := h
  exact ⟨h1, h2, h3, h4, h5, h6, h7, h8, h9, h10, h11, h12⟩
theorem mayC_of {c : Cfg} (h1 : ownOk c.own = true) (h2 : c.ports.length ≤ 8) (h3 : c.ports.all portOk = true) (h4 : hasAny c.own c.addr = true) (h5 : 1 ≤ c.node ∧ c.node ≤ 16) (h6 : 1 ≤ c.hello ∧ c.hello ≤ 100) (h7 : c.hello + 1 ≤ c.dead ∧ c.dead ≤ 100) (h8 : 1 ≤ c.again ∧ c.again ≤ 100) (h9 : 0 ≤ c.room ∧ c.room ≤ 64) (h10 : 1 ≤ c.queue ∧ c.queue ≤ 64) (h11 : 0 ≤ c.tokens ∧ c.tokens ≤ 64) (h12 : 1 ≤ c.refill ∧ c.refill ≤ 100) : mayC c = true := by
  unfold mayC
  simp only [Bool.and_eq_true, inI_iff, decide_eq_true_eq]
  exact ⟨⟨⟨⟨⟨⟨⟨⟨⟨⟨⟨h1, h2⟩, h3⟩, h4⟩, h5⟩, h6⟩, h7⟩, h8⟩, h9⟩, h10⟩, h11⟩, h12⟩
theorem rising_take : ∀ (l : List (Int × Int)) (k : Nat), rising l = true → rising (l.take k) = true
  | [], k, _ => by simp [rising]
  | [p], k, _ => by cases k <;> simp [rising]
  | p :: q :: l, 0, _ => rfl
  | p :: q :: l, 1, _ => rfl
  | p :: q :: l, k + 2, h => by
    simp only [rising, Bool.and_eq_true] at h
    simp only [List.take_succ_cons, rising, Bool.and_eq_true]
    exact ⟨h.1, by have := rising_take (q :: l) (k + 1) h.2; simpa using this⟩
end Go.Proofs.YtfbangojgjcbcaaGreatDoor.Pl
namespace Go.Proofs.YtfbangojgjcbcaaGreatDoor.Pl
theorem Tree.ins_blocks {b1 b2 : Nat} {p : List Bool} : ∀ {t : Tree} {x : Nat}, x ∈ (t.ins b1 b2 p).blocks → x = b1 ∨ x = b2 ∨ x ∈ t.blocks
  | .nil, x, h => by simp [ins, blocks] at h; exact .inl h
  | .node b k has l r, x, h => by
    have il := @ins_blocks b1 b2 p l x
    have ir := @ins_blocks b1 b2 p r x
    unfold ins at h
    split at h
    · exact .inr (.inr h)
    · split at h
      · split at h <;> simp only [blocks, List.mem_cons, List.mem_append] at h ⊢ <;> grind
      · split at h <;> split at h <;> simp only [blocks, List.mem_cons, List.mem_append, List.not_mem_nil] at h ⊢ <;> grind
theorem Tree.ins_nodup {b1 b2 : Nat} {p : List Bool} (h12 : b1 ≠ b2) : ∀ {t : Tree}, t.blocks.Nodup → b1 ∉ t.blocks → b2 ∉ t.blocks → (t.ins b1 b2 p).blocks.Nodup
  | .nil, _, _, _ => by simp [ins, blocks]
  | .node b k has l r, hn, h1, h2 => by
    simp only [blocks, List.nodup_cons, List.nodup_append, List.mem_cons, List.mem_append, not_or] at hn h1 h2
    obtain ⟨⟨n1, n2⟩, nl, nr, nd⟩ := hn
    have il := ins_nodup (p := p) h12 nl h1.2.1 h2.2.1
    have ir := ins_nodup (p := p) h12 nr h1.2.2 h2.2.2
    have bl := fun x => @ins_blocks b1 b2 p l x
    have br := fun x => @ins_blocks b1 b2 p r x
    unfold ins
    split
    · simp only [blocks, List.nodup_cons, List.nodup_append, List.mem_append, not_or]; exact ⟨⟨n1, n2⟩, nl, nr, nd⟩
    · split
      · split <;> simp only [blocks, List.nodup_cons, List.nodup_append, List.mem_append, not_or] <;> grind
      · split <;> split <;> simp only [blocks, List.nodup_cons, List.nodup_append, List.mem_cons, List.mem_append, not_or, List.not_mem_nil, List.nodup_nil, List.nil_append, List.append_nil] <;> grind
end Go.Proofs.YtfbangojgjcbcaaGreatDoor.Pl
namespace Go.Proofs.YtfbangojgjcbcaaGreatDoor.Pl
abbrev Pr := Int × Int
/-- A prefix's bits. -/
def bitsI (p : Pr) : List Bool := bitsP p.1.toNat p.2.toNat
theorem cmpP_self (a n : Int) : cmpP a n a n = 0 := (cmpP_zero _ _ _ _).2 ⟨rfl, rfl⟩
theorem rising_snoc2 : ∀ (l : List Pr) (z p : Pr), rising (l ++ [z, p]) = (rising (l ++ [z]) && decide (cmpP z.1 z.2 p.1 p.2 < 0))
  | [], z, p => by simp [rising]
  | [a], z, p => by simp [rising]
  | a :: b :: l, z, p => by
    have := rising_snoc2 (b :: l) z p
    simp only [List.cons_append] at this
    simp only [List.cons_append, rising, this, Bool.and_assoc]
theorem rising_mem : ∀ (l : List Pr) (z : Pr), rising (l ++ [z]) = true → ∀ q ∈ l, cmpP q.1 q.2 z.1 z.2 < 0
  | [], _, _, q, hq => by simp at hq
  | [a], z, h, q, hq => by simp at hq; subst hq; simpa [rising] using h
  | a :: b :: l, z, h, q, hq => by
    simp only [List.cons_append, rising, Bool.and_eq_true, decide_eq_true_eq] at h
    have ih := rising_mem (b :: l) z h.2
    rcases List.mem_cons.1 hq with rfl | hq
    · exact cmpP_trans _ _ _ _ _ _ h.1 (ih b (by simp))
    · exact ih q hq
theorem take_two {l : List Pr} {j : Nat} {z p : Pr} (hz : l[j]? = some z) (hp : l[j + 1]? = some p) : l.take (j + 1 + 1) = l.take j ++ [z, p] := by
  rw [List.take_add_one, List.take_add_one, hz, hp]; simp
theorem ownOk_may {l : List Pr} {p : Pr} (h : p ∈ l) (hm : mayP p.1 p.2 = false) : ownOk l = false := by
  apply Bool.eq_false_iff.2; intro ht
  unfold ownOk at ht
  simp only [Bool.and_eq_true, List.all_eq_true] at ht
  rw [ht.1.2 p h] at hm; cases hm
theorem ownOk_len {l : List Pr} (h : 8 < l.length) : ownOk l = false := by
  unfold ownOk
  rw [show decide (l.length ≤ 8) = false from by simp; omega]; simp
theorem ownOk_rise {l : List Pr} {j : Nat} {z p : Pr} (hz : l[j]? = some z) (hp : l[j + 1]? = some p) (hc : ¬ cmpP z.1 z.2 p.1 p.2 < 0) : ownOk l = false := by
  apply Bool.eq_false_iff.2; intro ht
  unfold ownOk at ht
  simp only [Bool.and_eq_true] at ht
  have := rising_take l (j + 1 + 1) ht.2
  rw [take_two hz hp, rising_snoc2] at this
  simp at this
  exact hc this.2
/-- What the tree holds when some have been read. -/
structure OwnInv (l : List Pr) (j : Nat) (t : Tree) : Prop where
  le : j ≤ l.length
  may : (l.take j).all (fun p => mayP p.1 p.2) = true
  rise : rising (l.take j) = true
  keys : ∀ q, q ∈ t.keys ↔ q ∈ (l.take j).map bitsI
  n : t.keys.length = j
  le8 : j ≤ 8
theorem OwnInv.start (l : List Pr) : OwnInv l 0 .nil := ⟨Nat.zero_le _, rfl, rfl, by simp [Tree.keys], rfl, by omega⟩
def AddrsOk (l : List Pr) : Prop := ∀ p ∈ l, 0 ≤ p.1 ∧ p.1 < 4294967296
theorem bitsI_inj {p q : Pr} (hp : 0 ≤ p.1 ∧ p.1 < 4294967296) (hq : 0 ≤ q.1 ∧ q.1 < 4294967296) (h1 : mayP p.1 p.2 = true) (h2 : mayP q.1 q.2 = true) (h : bitsI p = bitsI q) : p = q := by
  obtain ⟨a, n⟩ := p
  obtain ⟨b, m⟩ := q
  simp only at hp hq h1 h2
  obtain ⟨n0, _, _⟩ := (mayP_iff _ _).1 h1
  obtain ⟨m0, _, _⟩ := (mayP_iff _ _).1 h2
  obtain ⟨A, rfl⟩ := Int.eq_ofNat_of_zero_le hp.1
  obtain ⟨B, rfl⟩ := Int.eq_ofNat_of_zero_le hq.1
  obtain ⟨N, rfl⟩ := Int.eq_ofNat_of_zero_le n0
  obtain ⟨M, rfl⟩ := Int.eq_ofNat_of_zero_le m0
  have := bitsP_inj (a := A) (b := B) (n := N) (m := M) (by omega) (by omega) h1 h2 (by simpa [bitsI] using h)
  simp [this.1, this.2]
/-- One that is there already does not rise. -/
theorem OwnInv.found {l : List Pr} {j : Nat} {t : Tree} {p : Pr} (h : OwnInv l j t) (hA : AddrsOk l) (hi : t.Inv) (hp : l[j]? = some p) (hm : mayP p.1 p.2 = true) (hf : t.find (bitsI p) = true) :
    ∃ i z, j = i + 1 ∧ l[i]? = some z ∧ ¬ cmpP z.1 z.2 p.1 p.2 < 0 := by
  have hk := (h.keys _).1 ((Tree.find_iff hi).1 hf)
  obtain ⟨q, hq, hqe⟩ := List.mem_map.1 hk
  have hqm : mayP q.1 q.2 = true := List.all_eq_true.1 h.may q hq
  obtain rfl : q = p := bitsI_inj (hA _ (List.mem_of_mem_take hq)) (hA _ (List.mem_of_getElem? hp)) hqm hm hqe
  cases j with
  | zero => simp at hq
  | succ i =>
    have hlt : i < l.length := by have := h.le; omega
    refine ⟨i, l[i], rfl, List.getElem?_eq_getElem hlt, fun hc => ?_⟩
    rw [List.take_add_one, List.getElem?_eq_getElem hlt] at hq
    simp only [Option.toList_some, List.mem_append, List.mem_singleton] at hq
    have hr := h.rise
    rw [List.take_add_one, List.getElem?_eq_getElem hlt] at hr
    rcases hq with hq | hq
    · have h1 := rising_mem _ _ hr q hq
      have := cmpP_trans _ _ _ _ _ _ h1 hc
      rw [cmpP_self] at this; omega
    · rw [← hq, cmpP_self] at hc; omega
theorem OwnInv.next {l : List Pr} {j : Nat} {t : Tree} {p : Pr} (h : OwnInv l j t) (_hi : t.Inv) (hp : l[j]? = some p) (hm : mayP p.1 p.2 = true) (hf : t.find (bitsI p) = false) (h8 : j < 8)
    (hc : ∀ i z, j = i + 1 → l[i]? = some z → cmpP z.1 z.2 p.1 p.2 < 0) (b1 b2 : Nat) : OwnInv l (j + 1) (t.ins b1 b2 (bitsI p)) := by
  have hlt := (List.getElem?_eq_some_iff.1 hp).1
  have e : l.take (j + 1) = l.take j ++ [p] := by rw [List.take_add_one, hp]; rfl
  refine ⟨hlt, ?_, ?_, fun q => ?_, ?_, by omega⟩
  · rw [e, List.all_append, h.may]; simp [hm]
  · cases j with
    | zero => rw [e]; simp [rising]
    | succ i =>
      have hli : i < l.length := by omega
      have hz := List.getElem?_eq_getElem hli
      rw [take_two hz hp, rising_snoc2]
      have hr := h.rise
      rw [List.take_add_one, hz] at hr
      simp only [Option.toList_some] at hr
      rw [hr]
      simpa using hc i _ rfl hz
  · rw [Tree.ins_keys, h.keys, e]
    simp only [List.map_append, List.map_cons, List.map_nil, List.mem_append, List.mem_singleton]
    exact or_comm
  · rw [Tree.ins_length, hf, h.n]; simp
theorem OwnInv.ok {l : List Pr} {t : Tree} (h : OwnInv l l.length t) : ownOk l = decide (0 < l.length) := by
  have h1 := h.may
  have h2 := h.rise
  have h3 := h.le8
  rw [List.take_length] at h1 h2
  unfold ownOk
  rw [h1, h2, show decide (l.length ≤ 8) = true from by simpa using h3]
  simp; omega
/-- The tree has an address when one of them has. -/
theorem OwnInv.any {l : List Pr} {t : Tree} (h : OwnInv l l.length t) (hA : AddrsOk l) (hi : t.Inv) (x : Nat) (hx : x < 4294967296) : decide (0 < t.cover (bitsP x 32)) = hasAny l x := by
  rw [Bool.eq_iff_iff, decide_eq_true_eq, Tree.cover_iff (bitsP_length _ _) hi]
  unfold hasAny
  rw [List.any_eq_true]
  have hm := h.may
  rw [List.take_length, List.all_eq_true] at hm
  have key : ∀ p ∈ l, (hasP p.1 p.2 x = true ↔ bitsI p <+: bitsP x 32) := by
    intro p hp
    have hp1 := hA p hp
    have hmp := hm p hp
    obtain ⟨a, n⟩ := p
    simp only at hp1 hmp
    obtain ⟨n0, _, _⟩ := (mayP_iff _ _).1 hmp
    obtain ⟨A, rfl⟩ := Int.eq_ofNat_of_zero_le hp1.1
    obtain ⟨N, rfl⟩ := Int.eq_ofNat_of_zero_le n0
    rw [hasP_iff]
    have := has_bits (a := A) (n := N) (x := x) (by omega) hx hmp
    simp only [bitsI, Int.toNat_natCast]
    rw [← this]
    exact ⟨fun hh => hh.2, fun hh => ⟨hmp, hh⟩⟩
  constructor
  · rintro ⟨q, hq, hqx⟩
    rw [h.keys, List.take_length] at hq
    obtain ⟨p, hp, rfl⟩ := List.mem_map.1 hq
    exact ⟨p, hp, (key p hp).2 hqx⟩
  · rintro ⟨p, hp, hh⟩
    exact ⟨bitsI p, (h.keys _).2 (by rw [List.take_length]; exact List.mem_map_of_mem hp), (key p hp).1 hh⟩
end Go.Proofs.YtfbangojgjcbcaaGreatDoor.Pl
namespace Go.Proofs.YtfbangojgjcbcaaGreatDoor
open Go.RowKit Pl
/-- The slice value v reads as the pairs ps in world w: two cells each, the first of kind k. -/
def Rs (k : IntKind) (w : World) (v : Value) (ps : List Pr) : Prop :=
  ∃ (A : Option Addr) (c : Nat), v = .slice A ps.length c ∧ ps.length ≤ c ∧ (A = none → c = 0) ∧
    (0 < ps.length → ∃ b off, A = some ⟨b, off, none⟩ ∧ b < w.heap.size ∧ ∀ j u, ps[j]? = some u →
      w.cell? ⟨b, off + j * 2, none⟩ = some (.int k u.1) ∧ w.cell? ⟨b, off + j * 2 + 1, none⟩ = some (.int .i64 u.2))
theorem Rs.below {k : IntKind} {w w' : World} {v : Value} {ps : List Pr} (h : Rs k w v ps) (hb : Below w.heap.size w w') : Rs k w' v ps := by
  obtain ⟨A, c, rfl, hc, hn, hA⟩ := h
  refine ⟨A, c, rfl, hc, hn, fun hp => ?_⟩
  obtain ⟨b, off, rfl, hlt, hcell⟩ := hA hp
  refine ⟨b, off, rfl, Nat.lt_of_lt_of_le hlt hb.size, fun j u hu => ?_⟩
  obtain ⟨h1, h2⟩ := hcell j u hu
  exact ⟨(hb.cell (show b < _ from hlt)).trans h1, (hb.cell (show b < _ from hlt)).trans h2⟩
theorem Rs.alloc {k : IntKind} {w : World} {v : Value} {ps : List Pr} (h : Rs k w v ps) (o : Obj) : Rs k (w.alloc o) v ps := h.below ((Below.refl _ _).alloc (Nat.le_refl _) o)
theorem Rs.drew {k : IntKind} {w : World} {v : Value} {ps : List Pr} (h : Rs k w v ps) : Rs k w.drew v ps := h
theorem Rs.drewN {k : IntKind} {w : World} {v : Value} {ps : List Pr} (h : Rs k w v ps) (n : Nat) : Rs k (w.drewN n) v ps := h
theorem Rs.nil (k : IntKind) (w : World) : Rs k w (.slice none 0 0) [] := ⟨none, 0, rfl, Nat.le_refl _, fun _ => rfl, fun h => absurd h (by simp)⟩
theorem Rs.len {k : IntKind} {w : World} {A : Option Addr} {n c : Nat} {ps : List Pr} (h : Rs k w (.slice A n c) ps) : n = ps.length ∧ ps.length ≤ c := by
  obtain ⟨A', c', hv, hc, _, _⟩ := h
  injection hv with h1 h2 h3
  exact ⟨h2, by omega⟩
/-- Its cells. -/
theorem Rs.at {k : IntKind} {w : World} {A : Option Addr} {n c : Nat} {ps : List Pr} (h : Rs k w (.slice A n c) ps) {j : Nat} {u : Pr} (hu : ps[j]? = some u) :
    ∃ b off, A = some ⟨b, off, none⟩ ∧ b < w.heap.size ∧ w.cell? ⟨b, off + j * 2, none⟩ = some (.int k u.1) ∧ w.cell? ⟨b, off + j * 2 + 1, none⟩ = some (.int .i64 u.2) := by
  obtain ⟨A', c', hv, hc, _, hA⟩ := h
  injection hv with h1 h2 h3
  subst h1
  obtain ⟨b, off, rfl, hb, hcell⟩ := hA (by have := (List.getElem?_eq_some_iff.1 hu).1; omega)
  obtain ⟨h1, h2⟩ := hcell j u hu
  exact ⟨b, off, rfl, hb, h1, h2⟩
theorem Rs.take {k : IntKind} {w : World} {A : Option Addr} {n c : Nat} {ps : List Pr} (h : Rs k w (.slice A n c) ps) : ∀ {j : Nat} {b off : Nat}, A = some ⟨b, off, none⟩ → ∀ {u}, ps[j]? = some u →
    w.cell? ⟨b, off + j * 2, none⟩ = some (.int k u.1) ∧ w.cell? ⟨b, off + j * 2 + 1, none⟩ = some (.int .i64 u.2) := by
  intro j b off hA u hu
  obtain ⟨b', off', h1, _, h2, h3⟩ := h.at hu
  rw [hA] at h1; cases h1
  exact ⟨h2, h3⟩
def cells2 (k : IntKind) (ps : List Pr) : List Value := ps.flatMap fun p => [.int k p.1, .int .i64 p.2]
theorem cells2_snoc (k : IntKind) (ps : List Pr) (u : Pr) : cells2 k (ps ++ [u]) = cells2 k ps ++ [.int k u.1, .int .i64 u.2] := by
  unfold cells2; rw [List.flatMap_append]; simp
theorem cells2_at (k : IntKind) (ps : List Pr) (j : Nat) (u : Pr) (h : ps[j]? = some u) : (cells2 k ps)[j * 2]? = some (.int k u.1) ∧ (cells2 k ps)[j * 2 + 1]? = some (.int .i64 u.2) := by
  induction ps generalizing j with
  | nil => simp at h
  | cons x ps ih =>
    cases j with
    | zero => simp at h; subst h; simp [cells2]
    | succ j =>
      simp only [List.getElem?_cons_succ] at h
      obtain ⟨h1, h2⟩ := ih j h
      have e : cells2 k (x :: ps) = [.int k x.1, .int .i64 x.2] ++ cells2 k ps := by unfold cells2; rw [List.flatMap_cons]
      rw [e]
      refine ⟨?_, ?_⟩
      · rw [List.getElem?_append_right (by simp; omega)]; simpa [show (j + 1) * 2 - 2 = j * 2 by omega] using h1
      · rw [List.getElem?_append_right (by simp; omega)]; simpa [show (j + 1) * 2 + 1 - 2 = j * 2 + 1 by omega] using h2
theorem Rs.own {w : World} {base : Nat} {v : Value} {k : IntKind} {e : TypeId} {n : Nat} {ps : List Pr} (hn : n = ps.length) (h : w.ownsRow base e 2 v n (cells2 k ps)) : Rs k w v ps := by
  subst hn
  rcases h.2 with ⟨rfl, h0⟩ | ⟨g, cap, cur, rfl, hg, hh, hnc, _⟩
  · have h0' : ps = [] := by
      cases ps with
      | nil => rfl
      | cons u us => simp at h0
    subst h0'; exact Rs.nil k w
  · refine ⟨_, cap, rfl, hnc, (fun h => by cases h), fun hp => ⟨g, 0, rfl, (h.lt g rfl).2, fun j u hu => ?_⟩⟩
    have hc := h.cells (g := g) rfl
    have key : ∀ i u, (cells2 k ps)[i]? = some u → w.cell? ⟨g, 0 + i, none⟩ = some u := fun i u hu => by
      have := hc i u hu
      rw [show ((⟨g, 0, none⟩ : Addr).add i) = ⟨g, 0 + i, none⟩ from by unfold Addr.add; by_cases hj : i = 0 <;> simp [hj]] at this
      exact this
    obtain ⟨h1, h2⟩ := cells2_at k ps j u hu
    refine ⟨key _ _ h1, ?_⟩
    have := key _ _ h2; rwa [← Nat.add_assoc] at this
theorem info_P : (Tryz.prog.info? 86).map (fun i => (i.zero, i.size, i.bytes)) = some (some (.agg #[.int .u32 0, .int .i64 0]), 2, 16) := by kernel_rfl
theorem info_O : (Tryz.prog.info? 101).map (fun i => (i.zero, i.size, i.bytes)) = some (some (.agg #[.int .i64 0, .int .i64 0]), 2, 16) := by kernel_rfl
/-- A configuration in memory. -/
def cfgV (c : Cfg) (own ports : Value) : Value := .agg #[.int .i64 c.node, .int .u32 c.addr, own, ports, .int .i64 c.hello, .int .i64 c.dead, .int .i64 c.again, .int .i64 c.room, .int .i64 c.queue, .int .i64 c.tokens, .int .i64 c.refill]
structure CfgIs (w : World) (v : Value) (c : Cfg) : Prop where
  is : ∃ own ports, v = cfgV c own ports ∧ Rs .u32 w own c.own ∧ Rs .i64 w ports c.ports
theorem CfgIs.below {w w' : World} {v : Value} {c : Cfg} (h : CfgIs w v c) (hb : Below w.heap.size w w') : CfgIs w' v c := by
  obtain ⟨own, ports, h1, h2, h3⟩ := h.is
  exact ⟨own, ports, h1, h2.below hb, h3.below hb⟩
end Go.Proofs.YtfbangojgjcbcaaGreatDoor
namespace Go.Proofs.YtfbangojgjcbcaaGreatDoor
open Go.RowKit Pl
set_option maxRecDepth 100000 in
theorem cwithin_any (n lo hi : Int) (w : World) : Calls Tryz.prog 69 #[.int .i64 n, .int .i64 lo, .int .i64 hi] w fun e w' => e = .returned (.bool (inI n lo hi)) ∧ w = w' := by
  by_cases h1 : lo ≤ n
  · by_cases h2 : n ≤ hi
    · have H : Hid (inI n lo hi = true) := Lib.hid (inI_iff.2 ⟨h1, h2⟩)
      go_enter Tryz.func69, Tryz.ntmps69
      go_wp2
      go_ret
      exact ⟨by rw [H.out]; rfl, rfl⟩
    · have H : Hid (inI n lo hi = false) := Lib.hid (Bool.eq_false_iff.2 fun h => h2 (inI_iff.1 h).2)
      have d : decide (n ≤ hi) = false := decide_eq_false h2
      clear h2
      go_enter Tryz.func69, Tryz.ntmps69
      go_wp2
      go_ret
      exact ⟨by rw [H.out]; rfl, rfl⟩
  · have H : Hid (inI n lo hi = false) := Lib.hid (Bool.eq_false_iff.2 fun h => h1 (inI_iff.1 h).1)
    have d : decide (lo ≤ n) = false := decide_eq_false h1
    clear h1
    go_enter Tryz.func69, Tryz.ntmps69
    go_wp2
    go_ret
    exact ⟨by rw [H.out]; rfl, rfl⟩
set_option maxRecDepth 100000 in
theorem mayPort_any (a b : Int) (w : World) : Calls Tryz.prog 67 #[.agg #[.int .i64 a, .int .i64 b]] w fun e w' => e = .returned (.bool (portOk (a, b))) ∧ Below w.heap.size w w' := by
  have H : Hid (portOk (a, b) = (inI a 1 50 && inI b 68 1500)) := Lib.hid rfl
  cases h1 : inI a 1 50 with
  | true =>
    rw [h1] at H
    go_enter Tryz.func67, Tryz.ntmps67
    go_wp2_with (go_at_call 69; refine (cwithin_any _ _ _ _).mono ?_; rintro e w' ⟨rfl, rfl⟩)
    go_ret
    exact ⟨by rw [H.out]; rfl, (Below.refl _ _).alloc (Nat.le_refl _) _⟩
  | false =>
    rw [h1] at H
    go_enter Tryz.func67, Tryz.ntmps67
    go_wp2_with (go_at_call 69; refine (cwithin_any _ _ _ _).mono ?_; rintro e w' ⟨rfl, rfl⟩)
    go_ret
    exact ⟨by rw [H.out]; rfl, (Below.refl _ _).alloc (Nat.le_refl _) _⟩
set_option maxRecDepth 100000 in
theorem may1_any (a b : Int) (w : World) :
    Calls Tryz.prog 66 #[.agg #[.int .i64 a, .int .i64 b]] w fun e w' => e = .returned (.bool (!portOk (a, b))) ∧ Below w.heap.size w w' := by
  go_enter Tryz.func66, Tryz.ntmps66
  go_wp2_with (go_at_call 67; refine (ext_of (mayPort_any _ _ _)).mono ?_; rintro e w' ⟨rfl, y, rfl⟩)
  go_ret
  exact ⟨rfl, (by repeat (first | exact Below.refl _ _ | apply Below.drew | apply Go.below_drewN | apply bel_alloc | apply Ext.lift | apply bel_set0 | apply bel_set))⟩
set_option maxRecDepth 100000 in
set_option maxHeartbeats 1000000 in
/-- slices.IndexFunc over ports: is there one that f says yes to? -/
theorem idxO_any (f : Value) (b : Pr → Bool) (v : Value) (ps : List Pr) (w : World) (h : Rs .i64 w v ps) (hl : ps.length ≤ 1000000)
    (hf : ∃ g lb, f = .func (.func g) #[] lb ∧ (∀ args W, (callFunc g args).run Tryz.prog W = .ok (.enter g args) W) ∧ ∀ u : Pr, u ∈ ps → ∀ W, Below w.heap.size w W → Calls Tryz.prog g (#[.agg #[.int .i64 u.1, .int .i64 u.2]] ++ lb) W fun e W' => e = .returned (.bool (b u)) ∧ Below W.heap.size W W') :
    Calls Tryz.prog 131 #[v, f] w fun e w' => (∃ r : Int, e = .returned (.int .i64 r) ∧ decide (0 ≤ r) = ps.any b) ∧ Below w.heap.size w w' := by
  obtain ⟨g, lb, rfl, he, hf⟩ := hf
  have HE := Lib.hid he
  have HF := Lib.hid hf
  have HU := Lib.hid h
  obtain ⟨A, c, rfl, hc, _, _⟩ := h
  clear hf he
  go_enter Tryz.func131, Tryz.ntmps131
  go_wp2
  go_loopw [8] (fun i wr => ∃ j : Nat, j ≤ ps.length ∧ i = .int .i64 j ∧ Hid ((ps.take j).any b = false) ∧ Below w.heap.size w wr) (fun i _ => ps.length - (intOf i).toNat)
  case atStart => exact ⟨0, Nat.zero_le _, rfl, Lib.hid rfl, Below.refl _ _⟩
  case round =>
    obtain ⟨j, hj, rfl, HI, hb⟩ := hrel
    by_cases hlt : j < ps.length
    · obtain ⟨⟨ua, ub⟩, hu⟩ : ∃ u, ps[j]? = some u := ⟨_, List.getElem?_eq_getElem hlt⟩
      obtain ⟨bb, off, rfl, hbs, c0, c1⟩ := (HU.out.below hb).at hu
      simp only at c0 c1
      have HT : Hid ((ps.take (j + 1)).any b = ((ps.take j).any b || b (ua, ub))) := Lib.hid (by
        rw [List.take_add_one, hu]; simp)
      have HX : Hid (b (ua, ub) = true → ps.any b = true) := Lib.hid (fun hf => List.any_eq_true.2 ⟨_, List.mem_of_getElem? hu, hf⟩)
      have HC := Lib.hid (HF.out (ua, ub) (List.mem_of_getElem? hu) wr hb)
      clear hu
      cases hm : b (ua, ub) with
      | false =>
        have HT2 : Hid ((ps.take (j + 1)).any b = false) := Lib.hid (by rw [HT.out, HI.out]; exact hm)
        go_wp2_with (rw [HE.out]; show Calls _ _ _ _ _; refine (ext_of HC.out).mono ?_; rintro e w' ⟨rfl, y, rfl⟩)
        go_roundw
        case rel => exact ⟨j + 1, by omega, by go_num, HT2, Ext.lift y hb⟩
        case measure => simp [intOf]; omega
      | true =>
        have HZ : Hid (ps.any b = true) := Lib.hid (HX.out hm)
        go_wp2_with (rw [HE.out]; show Calls _ _ _ _ _; refine (ext_of HC.out).mono ?_; rintro e w' ⟨rfl, y, rfl⟩)
        go_ret
        exact ⟨⟨_, rfl, by rw [HZ.out]; simp⟩, Ext.lift y hb⟩
    · obtain rfl : j = ps.length := by omega
      have HZ : Hid (ps.any b = false) := Lib.hid (by have := HI.out; rwa [List.take_length] at this)
      go_wp2
      go_ret
      exact ⟨⟨_, rfl, by rw [HZ.out]; rfl⟩, hb⟩
set_option maxRecDepth 100000 in
theorem containsO_any (f : Value) (b : Pr → Bool) (v : Value) (ps : List Pr) (w : World) (h : Rs .i64 w v ps) (hl : ps.length ≤ 1000000)
    (hf : ∃ g lb, f = .func (.func g) #[] lb ∧ (∀ args W, (callFunc g args).run Tryz.prog W = .ok (.enter g args) W) ∧ ∀ u : Pr, u ∈ ps → ∀ W, Below w.heap.size w W → Calls Tryz.prog g (#[.agg #[.int .i64 u.1, .int .i64 u.2]] ++ lb) W fun e W' => e = .returned (.bool (b u)) ∧ Below W.heap.size W W') :
    Calls Tryz.prog 65 #[v, f] w fun e w' => e = .returned (.bool (ps.any b)) ∧ Below w.heap.size w w' := by
  have HI := Lib.hid (idxO_any f b v ps w h hl hf)
  go_enter Tryz.func65, Tryz.ntmps65
  go_wp2_with (go_at_call 131; refine HI.out.mono ?_; rintro e w' ⟨⟨r, rfl, hr⟩, hb⟩; have HR := Lib.hid hr; clear hr)
  go_ret
  exact ⟨by rw [← HR.out]; rfl, hb⟩
set_option maxRecDepth 100000 in
set_option maxHeartbeats 1000000 in
/-- slices.IndexFunc over prefixes: is there one that f says yes to? -/
theorem idxP_any (f : Value) (b : Pr → Bool) (v : Value) (ps : List Pr) (w : World) (h : Rs .u32 w v ps) (hl : ps.length ≤ 1000000)
    (hf : ∃ g lb, f = .func (.func g) #[] lb ∧ (∀ args W, (callFunc g args).run Tryz.prog W = .ok (.enter g args) W) ∧ ∀ u : Pr, u ∈ ps → ∀ W, Below w.heap.size w W → Calls Tryz.prog g (#[.agg #[.int .u32 u.1, .int .i64 u.2]] ++ lb) W fun e W' => e = .returned (.bool (b u)) ∧ Below W.heap.size W W') :
    Calls Tryz.prog 133 #[v, f] w fun e w' => (∃ r : Int, e = .returned (.int .i64 r) ∧ decide (0 ≤ r) = ps.any b) ∧ Below w.heap.size w w' := by
  obtain ⟨g, lb, rfl, he, hf⟩ := hf
  have HE := Lib.hid he
  have HF := Lib.hid hf
  have HU := Lib.hid h
  obtain ⟨A, c, rfl, hc, _, _⟩ := h
  clear hf he
  go_enter Tryz.func133, Tryz.ntmps133
  go_wp2
  go_loopw [8] (fun i wr => ∃ j : Nat, j ≤ ps.length ∧ i = .int .i64 j ∧ Hid ((ps.take j).any b = false) ∧ Below w.heap.size w wr) (fun i _ => ps.length - (intOf i).toNat)
  case atStart => exact ⟨0, Nat.zero_le _, rfl, Lib.hid rfl, Below.refl _ _⟩
  case round =>
    obtain ⟨j, hj, rfl, HI, hb⟩ := hrel
    by_cases hlt : j < ps.length
    · obtain ⟨⟨ua, ub⟩, hu⟩ : ∃ u, ps[j]? = some u := ⟨_, List.getElem?_eq_getElem hlt⟩
      obtain ⟨bb, off, rfl, hbs, c0, c1⟩ := (HU.out.below hb).at hu
      simp only at c0 c1
      have HT : Hid ((ps.take (j + 1)).any b = ((ps.take j).any b || b (ua, ub))) := Lib.hid (by
        rw [List.take_add_one, hu]; simp)
      have HX : Hid (b (ua, ub) = true → ps.any b = true) := Lib.hid (fun hf => List.any_eq_true.2 ⟨_, List.mem_of_getElem? hu, hf⟩)
      have HC := Lib.hid (HF.out (ua, ub) (List.mem_of_getElem? hu) wr hb)
      clear hu
      cases hm : b (ua, ub) with
      | false =>
        have HT2 : Hid ((ps.take (j + 1)).any b = false) := Lib.hid (by rw [HT.out, HI.out]; exact hm)
        go_wp2_with (rw [HE.out]; show Calls _ _ _ _ _; refine (ext_of HC.out).mono ?_; rintro e w' ⟨rfl, y, rfl⟩)
        go_roundw
        case rel => exact ⟨j + 1, by omega, by go_num, HT2, Ext.lift y hb⟩
        case measure => simp [intOf]; omega
      | true =>
        have HZ : Hid (ps.any b = true) := Lib.hid (HX.out hm)
        go_wp2_with (rw [HE.out]; show Calls _ _ _ _ _; refine (ext_of HC.out).mono ?_; rintro e w' ⟨rfl, y, rfl⟩)
        go_ret
        exact ⟨⟨_, rfl, by rw [HZ.out]; simp⟩, Ext.lift y hb⟩
    · obtain rfl : j = ps.length := by omega
      have HZ : Hid (ps.any b = false) := Lib.hid (by have := HI.out; rwa [List.take_length] at this)
      go_wp2
      go_ret
      exact ⟨⟨_, rfl, by rw [HZ.out]; rfl⟩, hb⟩
set_option maxRecDepth 100000 in
theorem containsP_any (f : Value) (b : Pr → Bool) (v : Value) (ps : List Pr) (w : World) (h : Rs .u32 w v ps) (hl : ps.length ≤ 1000000)
    (hf : ∃ g lb, f = .func (.func g) #[] lb ∧ (∀ args W, (callFunc g args).run Tryz.prog W = .ok (.enter g args) W) ∧ ∀ u : Pr, u ∈ ps → ∀ W, Below w.heap.size w W → Calls Tryz.prog g (#[.agg #[.int .u32 u.1, .int .i64 u.2]] ++ lb) W fun e W' => e = .returned (.bool (b u)) ∧ Below W.heap.size W W') :
    Calls Tryz.prog 70 #[v, f] w fun e w' => e = .returned (.bool (ps.any b)) ∧ Below w.heap.size w w' := by
  have HI := Lib.hid (idxP_any f b v ps w h hl hf)
  go_enter Tryz.func70, Tryz.ntmps70
  go_wp2_with (go_at_call 133; refine HI.out.mono ?_; rintro e w' ⟨⟨r, rfl, hr⟩, hb⟩; have HR := Lib.hid hr; clear hr)
  go_ret
  exact ⟨by rw [← HR.out]; rfl, hb⟩
end Go.Proofs.YtfbangojgjcbcaaGreatDoor
