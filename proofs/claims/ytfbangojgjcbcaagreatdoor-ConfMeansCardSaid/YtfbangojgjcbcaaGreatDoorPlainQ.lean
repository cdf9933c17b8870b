/- Plain trees of prefixes: a prefix is the list of its first bits. Nothing of the program. -/
/- Prefixes as the lists of their first bits, plainly. Nothing of the program. -/
import Derived.Test.YtfbangojgjcbcaaGreatDoorPlainO
namespace Go.Proofs.YtfbangojgjcbcaaGreatDoor.Pl

/-- The longest common front. -/
def lcp : List Bool → List Bool → List Bool
  | a :: l, b :: m => if a = b then a :: lcp l m else []
  | _, _ => []
theorem lcp_left : ∀ l m, lcp l m <+: l
  | [], m => by simp [lcp]
  | a :: l, [] => by simp [lcp]
  | a :: l, b :: m => by
    unfold lcp; split
    · exact List.cons_prefix_cons.2 ⟨rfl, lcp_left l m⟩
    · exact List.nil_prefix
theorem lcp_comm : ∀ l m, lcp l m = lcp m l
  | [], [] => rfl
  | [], b :: m => rfl
  | a :: l, [] => rfl
  | a :: l, b :: m => by
    unfold lcp
    by_cases h : a = b
    · subst h; simp [lcp_comm l m]
    · rw [if_neg h, if_neg (fun e => h e.symm)]
theorem lcp_right (l m : List Bool) : lcp l m <+: m := by rw [lcp_comm]; exact lcp_left m l
theorem lcp_eq_left_iff : ∀ l m, lcp l m = l ↔ l <+: m
  | [], m => by simp [lcp]
  | a :: l, [] => by simp [lcp]
  | a :: l, b :: m => by
    unfold lcp
    by_cases h : a = b
    · subst h; simp [lcp_eq_left_iff l m]
    · simp [h]
theorem lcp_eq_right_iff (l m : List Bool) : lcp l m = m ↔ m <+: l := by rw [lcp_comm]; exact lcp_eq_left_iff m l
/-- Where neither is ahead of the other they part behind the common front. -/
theorem lcp_parts : ∀ l m, ¬ l <+: m → ¬ m <+: l → ∃ a, lcp l m ++ [a] <+: l ∧ lcp l m ++ [!a] <+: m
  | [], m, h, _ => absurd List.nil_prefix h
  | a :: l, [], _, h => absurd List.nil_prefix h
  | a :: l, b :: m, h1, h2 => by
    unfold lcp
    by_cases h : a = b
    · subst h
      obtain ⟨x, h3, h4⟩ := lcp_parts l m (fun k => h1 (List.cons_prefix_cons.2 ⟨rfl, k⟩)) (fun k => h2 (List.cons_prefix_cons.2 ⟨rfl, k⟩))
      refine ⟨x, ?_, ?_⟩ <;> simp [*]
    · refine ⟨a, ?_, ?_⟩
      · simp [h]
      · simp only [if_neg h, List.nil_append]
        have : b = !a := by cases a <;> cases b <;> simp_all
        rw [this]; simp
theorem next_prefix {k p : List Bool} (h : k <+: p) (hne : ¬ k = p) : ∃ b, p[k.length]? = some b ∧ k ++ [b] <+: p := by
  obtain ⟨t, rfl⟩ := h
  cases t with
  | nil => simp at hne
  | cons b t => exact ⟨b, by simp, ⟨t, by simp⟩⟩

/-- A tree of prefixes: each node's block, its bits, whether it is one, what lies below. -/
inductive Tree where
  | nil
  | node (b : Nat) (k : List Bool) (has : Bool) (l r : Tree)
def Tree.all : Tree → List (List Bool)
  | .nil => []
  | .node _ k _ l r => k :: (l.all ++ r.all)
def Tree.keys : Tree → List (List Bool)
  | .nil => []
  | .node _ k has l r => (if has then [k] else []) ++ (l.keys ++ r.keys)
def Tree.blocks : Tree → List Nat
  | .nil => []
  | .node b _ _ l r => b :: (l.blocks ++ r.blocks)
def Tree.Inv : Tree → Prop
  | .nil => True
  | .node _ k _ l r => k.length ≤ 32 ∧ (∀ q ∈ l.all, k ++ [false] <+: q) ∧ (∀ q ∈ r.all, k ++ [true] <+: q) ∧ l.Inv ∧ r.Inv
theorem Tree.keys_all : ∀ {t : Tree} {q}, q ∈ t.keys → q ∈ t.all
  | .nil, q, h => by simp [keys] at h
  | .node b k has l r, q, h => by
    simp only [keys, List.mem_append] at h
    simp only [all, List.mem_cons, List.mem_append]
    rcases h with h | h | h
    · cases has <;> simp at h; exact .inl h
    · exact .inr (.inl (keys_all h))
    · exact .inr (.inr (keys_all h))
/-- A prefix put in: b1 the new node's block, b2 a fork's. -/
def Tree.ins (b1 b2 : Nat) (p : List Bool) : Tree → Tree
  | .nil => .node b1 p true .nil .nil
  | .node b k has l r =>
    if k = p then .node b k true l r
    else if k <+: p then (if p[k.length]? = some true then .node b k has l (ins b1 b2 p r) else .node b k has (ins b1 b2 p l) r)
    else if p <+: k then (if k[p.length]? = some true then .node b1 p true .nil (.node b k has l r) else .node b1 p true (.node b k has l r) .nil)
    else (if p[(lcp k p).length]? = some true then .node b2 (lcp k p) false (.node b k has l r) (.node b1 p true .nil .nil) else .node b2 (lcp k p) false (.node b1 p true .nil .nil) (.node b k has l r))
theorem Tree.ins_all {b1 b2 : Nat} {p x : List Bool} (hx : x <+: p) : ∀ {t : Tree}, (∀ q ∈ t.all, x <+: q) → ∀ q ∈ (t.ins b1 b2 p).all, x <+: q
  | .nil, _, q, hq => by simp [ins, all] at hq; subst hq; exact hx
  | .node b k has l r, h, q, hq => by
    have hk := h k (by simp [all])
    have hl : ∀ q ∈ l.all, x <+: q := fun q hq => h q (by simp [all, hq])
    have hr : ∀ q ∈ r.all, x <+: q := fun q hq => h q (by simp [all, hq])
    have hlc : ¬ k <+: p → ¬ p <+: k → x <+: lcp k p := fun _ _ => by
      obtain ⟨s, rfl⟩ := hk
      obtain ⟨u, rfl⟩ := hx
      have : ∀ (x s u : List Bool), lcp (x ++ s) (x ++ u) = x ++ lcp s u := by
        intro x s u
        induction x with
        | nil => rfl
        | cons a x ih => simp [lcp, ih]
      rw [this]; exact List.prefix_append _ _
    unfold ins at hq
    split at hq
    · simp only [all, List.mem_cons, List.mem_append] at hq
      rcases hq with rfl | hq | hq
      · exact hk
      · exact hl q hq
      · exact hr q hq
    · split at hq
      · split at hq <;> simp only [all, List.mem_cons, List.mem_append] at hq
        · rcases hq with rfl | hq | hq
          · exact hk
          · exact hl q hq
          · exact ins_all hx hr q hq
        · rcases hq with rfl | hq | hq
          · exact hk
          · exact ins_all hx hl q hq
          · exact hr q hq
      · split at hq
        · split at hq <;> simp only [all, List.mem_cons, List.mem_append, List.not_mem_nil, false_or, or_false] at hq
          · rcases hq with rfl | rfl | hq | hq
            · exact hx
            · exact hk
            · exact hl q hq
            · exact hr q hq
          · rcases hq with rfl | rfl | hq | hq
            · exact hx
            · exact hk
            · exact hl q hq
            · exact hr q hq
        · rename_i h2 h3
          split at hq <;> simp only [all, List.mem_cons, List.mem_append, List.not_mem_nil, or_false] at hq
          · rcases hq with rfl | (rfl | hq | hq) | rfl
            · exact hlc h2 h3
            · exact hk
            · exact hl q hq
            · exact hr q hq
            · exact hx
          · rcases hq with rfl | rfl | rfl | hq | hq
            · exact hlc h2 h3
            · exact hx
            · exact hk
            · exact hl q hq
            · exact hr q hq
theorem at_prefix {k p : List Bool} {b : Bool} (h : k <+: p) (hb : p[k.length]? = some b) : k ++ [b] <+: p := by
  obtain ⟨t, rfl⟩ := h
  cases t with
  | nil => simp at hb
  | cons c t => simp at hb; subst hb; exact ⟨t, by simp⟩
theorem prefix_at {x p : List Bool} {b : Bool} (h : x ++ [b] <+: p) : p[x.length]? = some b := by
  obtain ⟨s, rfl⟩ := h; simp
theorem not_true_false {o : Option Bool} {b : Bool} (h : o = some b) (hn : ¬ o = some true) : o = some false := by
  subst h; cases b <;> simp_all
theorem Tree.ins_inv {b1 b2 : Nat} {p : List Bool} (hp : p.length ≤ 32) : ∀ {t : Tree}, t.Inv → (t.ins b1 b2 p).Inv
  | .nil, _ => by simp [ins, Inv, all, hp]
  | .node b k has l r, h => by
    obtain ⟨hk, h1, h2, h3, h4⟩ := h
    unfold ins
    split
    · exact ⟨hk, h1, h2, h3, h4⟩
    · rename_i hne
      split
      · rename_i hkp
        obtain ⟨c, hc, _⟩ := next_prefix hkp hne
        split
        · rename_i ht
          exact ⟨hk, h1, ins_all (at_prefix hkp ht) h2, h3, ins_inv hp h4⟩
        · rename_i ht
          exact ⟨hk, ins_all (at_prefix hkp (not_true_false hc ht)) h1, h2, ins_inv hp h3, h4⟩
      · split
        · rename_i hkp hpk
          obtain ⟨c, hc, _⟩ := next_prefix hpk (fun e => hne e.symm)
          have hall : ∀ {x : List Bool}, x <+: k → ∀ q ∈ (Tree.node b k has l r).all, x <+: q := fun hx q hq => by
            simp only [all, List.mem_cons, List.mem_append] at hq
            rcases hq with rfl | hq | hq
            · exact hx
            · exact hx.trans ((List.prefix_append _ _).trans (h1 q hq))
            · exact hx.trans ((List.prefix_append _ _).trans (h2 q hq))
          split
          · rename_i ht
            exact ⟨hp, by simp [all], hall (at_prefix hpk ht), trivial, hk, h1, h2, h3, h4⟩
          · rename_i ht
            exact ⟨hp, hall (at_prefix hpk (not_true_false hc ht)), by simp [all], ⟨hk, h1, h2, h3, h4⟩, trivial⟩
        · rename_i hkp hpk
          obtain ⟨c, e1, e2⟩ := lcp_parts k p hkp hpk
          have hlen : (lcp k p).length ≤ 32 := by have := (lcp_left k p).length_le; omega
          have hall : ∀ {x : List Bool}, x <+: k → ∀ q ∈ (Tree.node b k has l r).all, x <+: q := fun hx q hq => by
            simp only [all, List.mem_cons, List.mem_append] at hq
            rcases hq with rfl | hq | hq
            · exact hx
            · exact hx.trans ((List.prefix_append _ _).trans (h1 q hq))
            · exact hx.trans ((List.prefix_append _ _).trans (h2 q hq))
          have hpc : p[(lcp k p).length]? = some (!c) := prefix_at e2
          split
          · rename_i ht
            have hc0 : c = false := by rw [ht] at hpc; cases c <;> simp_all
            subst hc0
            refine ⟨hlen, hall e1, fun q hq => ?_, ⟨hk, h1, h2, h3, h4⟩, hp, by simp [all], by simp [all], trivial, trivial⟩
            simp [all] at hq; subst hq; exact e2
          · rename_i ht
            have hc0 : c = true := by rw [hpc] at ht; cases c <;> simp_all
            subst hc0
            refine ⟨hlen, fun q hq => ?_, hall e1, ⟨hp, by simp [all], by simp [all], trivial, trivial⟩, hk, h1, h2, h3, h4⟩
            simp [all] at hq; subst hq; exact e2
/-- The prefixes that were, and the one put in. -/
theorem Tree.ins_keys {b1 b2 : Nat} {p : List Bool} : ∀ {t : Tree} {q}, q ∈ (t.ins b1 b2 p).keys ↔ q = p ∨ q ∈ t.keys
  | .nil, q => by simp [ins, keys]
  | .node b k has l r, q => by
    unfold ins
    split
    · rename_i h; subst h; cases has <;> simp [keys]
    · split
      · split <;> simp only [keys, List.mem_append, ins_keys (t := l), ins_keys (t := r)]
        · constructor
          · rintro (h | h | h | h)
            · exact .inr (.inl h)
            · exact .inr (.inr (.inl h))
            · exact .inl h
            · exact .inr (.inr (.inr h))
          · rintro (h | h | h | h)
            · exact .inr (.inr (.inl h))
            · exact .inl h
            · exact .inr (.inl h)
            · exact .inr (.inr (.inr h))
        · constructor
          · rintro (h | (h | h) | h)
            · exact .inr (.inl h)
            · exact .inl h
            · exact .inr (.inr (.inl h))
            · exact .inr (.inr (.inr h))
          · rintro (h | h | h | h)
            · exact .inr (.inl (.inl h))
            · exact .inl h
            · exact .inr (.inl (.inr h))
            · exact .inr (.inr h)
      · split
        · split <;> simp [keys]
        · split
          · simp only [keys, List.mem_append, Bool.false_eq_true, if_false, if_true, List.not_mem_nil, false_or, or_false, List.mem_singleton]
            exact or_comm
          · simp only [keys, List.mem_append, Bool.false_eq_true, if_false, if_true, List.not_mem_nil, false_or, or_false, List.mem_singleton]
/-- Is a prefix one of the tree's, by going down? -/
def Tree.find (p : List Bool) : Tree → Bool
  | .nil => false
  | .node _ k has l r => if k = p then has else if k <+: p then (if p[k.length]? = some true then r.find p else l.find p) else false
theorem Tree.find_iff {p : List Bool} : ∀ {t : Tree}, t.Inv → (t.find p = true ↔ p ∈ t.keys)
  | .nil, _ => by simp [find, keys]
  | .node b k has l r, h => by
    obtain ⟨hk, h1, h2, h3, h4⟩ := h
    have nl : ∀ {c : Bool} {t : Tree}, (∀ q ∈ t.all, k ++ [c] <+: q) → p ∈ t.keys → k ++ [c] <+: p := fun ha hp => ha p (keys_all hp)
    have hself : ∀ c : Bool, ¬ p ++ [c] <+: p := fun c hc => by have := hc.length_le; simp at this; omega
    unfold find
    simp only [keys, List.mem_append]
    split
    · rename_i e
      subst e
      constructor
      · intro hh; subst hh; exact .inl (by simp)
      · rintro (hh | hh | hh)
        · cases has <;> simp_all
        · exact absurd (nl h1 hh) (hself _)
        · exact absurd (nl h2 hh) (hself _)
    · rename_i hne
      have hnk : ¬ p ∈ (if has = true then [k] else []) := by
        cases has <;> simp; exact fun e => hne e.symm
      split
      · rename_i hkp
        have hpref : ∀ c : Bool, k ++ [c] <+: p → p[k.length]? = some c := fun c ⟨s, hs⟩ => by rw [← hs]; simp
        split
        · rename_i ht
          rw [find_iff h4]
          constructor
          · intro hh; exact .inr (.inr hh)
          · rintro (hh | hh | hh)
            · exact absurd hh hnk
            · have := hpref _ (nl h1 hh); rw [ht] at this; cases this
            · exact hh
        · rename_i ht
          rw [find_iff h3]
          constructor
          · intro hh; exact .inr (.inl hh)
          · rintro (hh | hh | hh)
            · exact absurd hh hnk
            · exact hh
            · exact absurd (hpref _ (nl h2 hh)) ht
      · rename_i hkp
        constructor
        · intro hh; cases hh
        · rintro (hh | hh | hh)
          · exact absurd hh hnk
          · exact absurd ((List.prefix_append _ _).trans (nl h1 hh)) hkp
          · exact absurd ((List.prefix_append _ _).trans (nl h2 hh)) hkp
/-- How many have an address, on the way down. -/
def Tree.cover (x : List Bool) : Tree → Nat
  | .nil => 0
  | .node _ k has l r => if k <+: x then (if has then 1 else 0) + (if k.length = 32 then 0 else if x[k.length]? = some true then r.cover x else l.cover x) else 0
theorem Tree.cover_iff {x : List Bool} (hx : x.length = 32) : ∀ {t : Tree}, t.Inv → (0 < t.cover x ↔ ∃ q ∈ t.keys, q <+: x)
  | .nil, _ => by simp [cover, keys]
  | .node b k has l r, h => by
    obtain ⟨hk, h1, h2, h3, h4⟩ := h
    unfold cover
    simp only [keys, List.mem_append]
    split
    · rename_i hkx
      cases has with
      | true =>
        simp only [if_true]
        exact ⟨fun _ => ⟨k, .inl (by simp), hkx⟩, fun _ => by omega⟩
      | false =>
        simp only [Bool.false_eq_true, if_false, List.not_mem_nil, false_or, Nat.zero_add]
        split
        · rename_i h32
          refine ⟨fun hh => by omega, fun ⟨q, hq, hqx⟩ => ?_⟩
          exfalso
          have hle := hqx.length_le
          rcases hq with hq | hq
          · have := (h1 q (keys_all hq)).length_le; simp at this; omega
          · have := (h2 q (keys_all hq)).length_le; simp at this; omega
        · have hpref : ∀ c : Bool, k ++ [c] <+: x → x[k.length]? = some c := fun c ⟨s, hs⟩ => by rw [← hs]; simp
          split
          · rename_i ht
            rw [cover_iff hx h4]
            refine ⟨fun ⟨q, hq, hqx⟩ => ⟨q, .inr hq, hqx⟩, fun ⟨q, hq, hqx⟩ => ?_⟩
            rcases hq with hq | hq
            · have := hpref _ ((h1 q (keys_all hq)).trans hqx); rw [ht] at this; cases this
            · exact ⟨q, hq, hqx⟩
          · rename_i ht
            rw [cover_iff hx h3]
            refine ⟨fun ⟨q, hq, hqx⟩ => ⟨q, .inl hq, hqx⟩, fun ⟨q, hq, hqx⟩ => ?_⟩
            rcases hq with hq | hq
            · exact ⟨q, hq, hqx⟩
            · exact absurd (hpref _ ((h2 q (keys_all hq)).trans hqx)) ht
    · rename_i hkx
      refine ⟨fun hh => by omega, fun ⟨q, hq, hqx⟩ => ?_⟩
      exfalso
      rcases hq with hq | hq | hq
      · cases has <;> simp at hq; subst hq; exact hkx hqx
      · exact hkx ((List.prefix_append _ _).trans ((h1 q (keys_all hq)).trans hqx))
      · exact hkx ((List.prefix_append _ _).trans ((h2 q (keys_all hq)).trans hqx))
end Go.Proofs.YtfbangojgjcbcaaGreatDoor.Pl
namespace Go.Proofs.YtfbangojgjcbcaaGreatDoor.Pl

theorem Tree.ins_length {b1 b2 : Nat} {p : List Bool} : ∀ {t : Tree}, (t.ins b1 b2 p).keys.length = t.keys.length + if t.find p = true then 0 else 1
  | .nil => by simp [ins, keys, find]
  | .node b k has l r => by
    unfold ins find
    split
    · cases has <;> simp [keys] <;> try omega
    · split
      · split
        · simp only [keys, List.length_append, ins_length (t := r)]; omega
        · simp only [keys, List.length_append, ins_length (t := l)]; omega
      · simp only [Bool.false_eq_true, if_false]
        split
        · split <;> simp only [keys, List.length_append, if_true, List.length_cons, List.length_nil] <;> omega
        · split <;> simp only [keys, List.length_append, if_true, Bool.false_eq_true, if_false, List.length_cons, List.length_nil] <;> omega

/-- The first n bits of an address. -/
def bitsP (a n : Nat) : List Bool := (List.range n).map fun i => a.testBit (31 - i)
theorem bitsP_length (a n : Nat) : (bitsP a n).length = n := by simp [bitsP]
theorem bitsP_at (a n i : Nat) (h : i < n) : (bitsP a n)[i]? = some (a.testBit (31 - i)) := by
  simp [bitsP, h]
theorem bitsP_take (a n k : Nat) (h : k ≤ n) : (bitsP a n).take k = bitsP a k := by
  unfold bitsP
  rw [← List.map_take, List.take_range, Nat.min_eq_left h]
theorem blk_nat (n : Nat) : blk (n : Int) = ((2 ^ (32 - n) : Nat) : Int) := by unfold blk; rfl
theorem may_mod {a n : Nat} (h : mayP a n = true) : n ≤ 32 ∧ a % 2 ^ (32 - n) = 0 := by
  obtain ⟨_, h1, h2⟩ := (mayP_iff _ _).1 h
  rw [blk_nat, ← Int.natCast_emod] at h2
  exact ⟨by omega, by omega⟩
theorem may_of_mod {a n : Nat} (h1 : n ≤ 32) (h2 : a % 2 ^ (32 - n) = 0) : mayP a n = true := by
  refine (mayP_iff _ _).2 ⟨by omega, by omega, ?_⟩
  rw [blk_nat, ← Int.natCast_emod, h2]; rfl
theorem low_zero {a n : Nat} (h : mayP a n = true) {j : Nat} (hj : j < 32 - n) : a.testBit j = false := by
  obtain ⟨_, h2⟩ := may_mod h
  have e : a = 2 ^ (32 - n) * (a / 2 ^ (32 - n)) := by
    have := Nat.div_add_mod a (2 ^ (32 - n)); omega
  rw [e, Nat.testBit_two_pow_mul]; simp; omega
theorem high_zero {a j : Nat} (h : a < 4294967296) (hj : 32 ≤ j) : a.testBit j = false :=
  Nat.testBit_lt_two_pow (Nat.lt_of_lt_of_le h (Nat.pow_le_pow_right (show 0 < 2 by decide) (show 32 ≤ j from hj)))
theorem bitsP_inj {a n b m : Nat} (ha : a < 4294967296) (hb : b < 4294967296) (h1 : mayP a n = true) (h2 : mayP b m = true) (h : bitsP a n = bitsP b m) : a = b ∧ n = m := by
  have hn : n = m := by rw [← bitsP_length a n, h, bitsP_length]
  subst hn
  refine ⟨Nat.eq_of_testBit_eq fun j => ?_, rfl⟩
  by_cases hj : 32 ≤ j
  · rw [high_zero ha hj, high_zero hb hj]
  · by_cases hi : 31 - j < n
    · have := bitsP_at a n (31 - j) hi
      rw [h, bitsP_at b n (31 - j) hi] at this
      injection this with this
      rw [show 31 - (31 - j) = j by omega] at this; exact this.symm
    · rw [low_zero h1 (by omega), low_zero h2 (by omega)]
theorem first_nat (a k : Nat) : firstP a k = ((a / 2 ^ (32 - k) * 2 ^ (32 - k) : Nat) : Int) := by
  unfold firstP; rw [blk_nat]; simp
theorem first_may (a k : Nat) (hk : k ≤ 32) : mayP ((a / 2 ^ (32 - k) * 2 ^ (32 - k) : Nat) : Int) k = true :=
  may_of_mod hk (Nat.mul_mod_left _ _)
theorem first_bits (a k : Nat) (hk : k ≤ 32) : bitsP (a / 2 ^ (32 - k) * 2 ^ (32 - k)) k = bitsP a k := by
  unfold bitsP
  apply List.map_congr_left
  intro i hi
  rw [List.mem_range] at hi
  rw [Nat.mul_comm, Nat.testBit_two_pow_mul, Nat.testBit_div_two_pow]
  simp only [show 32 - k ≤ 31 - i by omega, decide_true, Bool.true_and]
  congr 1; omega
theorem first_lt (a k : Nat) (ha : a < 4294967296) : a / 2 ^ (32 - k) * 2 ^ (32 - k) < 4294967296 := Nat.lt_of_le_of_lt (Nat.div_mul_le_self _ _) ha

theorem lcp_take : ∀ (k : Nat) (l m : List Bool), k ≤ l.length → k ≤ m.length → l.take k = m.take k → (k = l.length ∨ k = m.length ∨ l[k]? ≠ m[k]?) → lcp l m = l.take k
  | 0, [], m, _, _, _, _ => by simp [lcp]
  | 0, a :: l, [], _, _, _, _ => by simp [lcp]
  | 0, a :: l, b :: m, _, _, _, h => by
    unfold lcp
    rw [if_neg]; rfl
    rcases h with h | h | h
    · simp at h
    · simp at h
    · simpa using h
  | k + 1, [], m, h, _, _, _ => by simp at h
  | k + 1, a :: l, [], _, h, _, _ => by simp at h
  | k + 1, a :: l, b :: m, h1, h2, h3, h4 => by
    simp only [List.take_succ_cons, List.cons.injEq] at h3
    obtain ⟨rfl, h3⟩ := h3
    simp only [List.length_cons, List.getElem?_cons_succ] at h1 h2 h4
    unfold lcp
    rw [if_pos rfl, lcp_take k l m (by omega) (by omega) h3 (by rcases h4 with h | h | h; exact .inl (by omega); exact .inr (.inl (by omega)); exact .inr (.inr h))]
    rfl

/-- How many bits a number has. -/
def bitlen (x : Nat) : Nat := if x = 0 then 0 else Nat.log2 x + 1
theorem bitlen_lt (x : Nat) : x < 2 ^ bitlen x := by
  unfold bitlen; split
  · omega
  · exact Nat.lt_log2_self
theorem bitlen_ge {x : Nat} (h : x ≠ 0) : 2 ^ (bitlen x - 1) ≤ x := by
  unfold bitlen; rw [if_neg h, Nat.add_sub_cancel]; exact Nat.log2_self_le h
theorem bitlen_le {x : Nat} (h : x < 4294967296) : bitlen x ≤ 32 := by
  unfold bitlen; split
  · omega
  · rename_i hx
    have := (Nat.log2_lt hx).2 (show x < 2 ^ 32 from h)
    omega
/-- The length of the common front of two prefixes. -/
def comLen (a n b m : Nat) : Nat := min (min n m) (32 - bitlen (a ^^^ b))
theorem com_bits {a n b m : Nat} (ha : a < 4294967296) (hb : b < 4294967296) (_hn : n ≤ 32) (_hm : m ≤ 32) : bitsP a (comLen a n b m) = lcp (bitsP a n) (bitsP b m) := by
  have hx : a ^^^ b < 4294967296 := Nat.xor_lt_two_pow (n := 32) ha hb
  have hl := bitlen_le hx
  have hkn : comLen a n b m ≤ n := by unfold comLen; omega
  have hkm : comLen a n b m ≤ m := by unfold comLen; omega
  have same : ∀ i, i < 32 - bitlen (a ^^^ b) → a.testBit (31 - i) = b.testBit (31 - i) := fun i hi => by
    have h1 : (a ^^^ b).testBit (31 - i) = false := Nat.testBit_lt_two_pow (Nat.lt_of_lt_of_le (bitlen_lt _) (Nat.pow_le_pow_right (by decide) (by omega)))
    rw [Nat.testBit_xor] at h1
    simpa using h1
  rw [lcp_take (comLen a n b m) _ _ (by rw [bitsP_length]; exact hkn) (by rw [bitsP_length]; exact hkm) ?_ ?_, bitsP_take _ _ _ hkn]
  · rw [bitsP_take _ _ _ hkn, bitsP_take _ _ _ hkm]
    unfold bitsP
    apply List.map_congr_left
    intro i hi
    rw [List.mem_range] at hi
    exact same i (by unfold comLen at hi; omega)
  · rw [bitsP_length, bitsP_length]
    by_cases h1 : comLen a n b m = n
    · exact .inl h1
    · by_cases h2 : comLen a n b m = m
      · exact .inr (.inl h2)
      · right; right
        rw [bitsP_at _ _ _ (by omega), bitsP_at _ _ _ (by omega)]
        have hk : comLen a n b m = 32 - bitlen (a ^^^ b) := by unfold comLen at *; omega
        have h0 : a ^^^ b ≠ 0 := fun e => by rw [e] at hk; simp [bitlen] at hk; omega
        have hpos : 0 < bitlen (a ^^^ b) := by unfold bitlen; rw [if_neg h0]; omega
        have htop : (a ^^^ b).testBit (bitlen (a ^^^ b) - 1) = true := by
          unfold bitlen; rw [if_neg h0, Nat.add_sub_cancel]
          rw [Nat.testBit_eq_decide_div_mod_eq]
          have h1 := Nat.log2_self_le h0
          have h2 : a ^^^ b < 2 ^ (Nat.log2 (a ^^^ b) + 1) := Nat.lt_log2_self
          have h3 : (a ^^^ b) / 2 ^ Nat.log2 (a ^^^ b) = 1 := by
            apply Nat.div_eq_of_lt_le
            · omega
            · rw [Nat.pow_succ] at h2; omega
          rw [h3]; rfl
        rw [Nat.testBit_xor] at htop
        rw [hk, show 31 - (32 - bitlen (a ^^^ b)) = bitlen (a ^^^ b) - 1 by omega]
        intro e
        injection e with e
        rw [e] at htop; simp at htop
theorem has_bits {a n x : Nat} (ha : a < 4294967296) (hx : x < 4294967296) (h : mayP a n = true) : firstP x n = a ↔ bitsP a n <+: bitsP x 32 := by
  have hn := (may_mod h).1
  have e32 : (bitsP x 32).take n = bitsP x n := bitsP_take x 32 n hn
  constructor
  · intro e
    rw [first_nat] at e
    have e' : x / 2 ^ (32 - n) * 2 ^ (32 - n) = a := by omega
    rw [← e', first_bits x n hn, ← e32]
    exact List.take_prefix _ _
  · intro hp
    rw [List.prefix_iff_eq_take, bitsP_length, e32, ← first_bits x n hn] at hp
    have := (bitsP_inj ha (first_lt x n hx) h (first_may x n hn) hp).1
    rw [first_nat]; omega
end Go.Proofs.YtfbangojgjcbcaaGreatDoor.Pl
