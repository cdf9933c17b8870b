/- Trees of prefixes: which blocks a tree has when one more was put in. Nothing of the program. -/
/- Own prefixes, read one after another: what the tree of them holds. Nothing of the program. -/
import Derived.Test.YtfbangojgjcbcaaGreatDoorPlainQ
import Derived.Test.YtfbangojgjcbcaaGreatDoorPlainH2
namespace Go.Proofs.YtfbangojgjcbcaaGreatDoor.Pl

theorem Tree.ins_blocks {b1 b2 : Nat} {p : List Bool} : ∀ {t : Tree} {x : Nat}, x ∈ (t.ins b1 b2 p).blocks → x = b1 ∨ x = b2 ∨ x ∈ t.blocks
  | .nil, x, h => by simp [ins, blocks] at h; exact .inl h
  | .node b k has l r, x, h => by
    have il := @ins_blocks b1 b2 p l x
    have ir := @ins_blocks b1 b2 p r x
    unfold ins at h
    split at h
    · exact .inr (.inr h)
    · split at h
      · split at h <;> simp only [blocks, List.mem_cons, List.mem_append] at h ⊢ <;> grind
      · split at h <;> split at h <;> simp only [blocks, List.mem_cons, List.mem_append, List.not_mem_nil] at h ⊢ <;> grind
theorem Tree.ins_nodup {b1 b2 : Nat} {p : List Bool} (h12 : b1 ≠ b2) : ∀ {t : Tree}, t.blocks.Nodup → b1 ∉ t.blocks → b2 ∉ t.blocks → (t.ins b1 b2 p).blocks.Nodup
  | .nil, _, _, _ => by simp [ins, blocks]
  | .node b k has l r, hn, h1, h2 => by
    simp only [blocks, List.nodup_cons, List.nodup_append, List.mem_cons, List.mem_append, not_or] at hn h1 h2
    obtain ⟨⟨n1, n2⟩, nl, nr, nd⟩ := hn
    have il := ins_nodup (p := p) h12 nl h1.2.1 h2.2.1
    have ir := ins_nodup (p := p) h12 nr h1.2.2 h2.2.2
    have bl := fun x => @ins_blocks b1 b2 p l x
    have br := fun x => @ins_blocks b1 b2 p r x
    unfold ins
    split
    · simp only [blocks, List.nodup_cons, List.nodup_append, List.mem_append, not_or]; exact ⟨⟨n1, n2⟩, nl, nr, nd⟩
    · split
      · split <;> simp only [blocks, List.nodup_cons, List.nodup_append, List.mem_append, not_or] <;> grind
      · split <;> split <;> simp only [blocks, List.nodup_cons, List.nodup_append, List.mem_cons, List.mem_append, not_or, List.not_mem_nil, List.nodup_nil, List.nil_append, List.append_nil] <;> grind
end Go.Proofs.YtfbangojgjcbcaaGreatDoor.Pl
namespace Go.Proofs.YtfbangojgjcbcaaGreatDoor.Pl

abbrev Pr := Int × Int
/-- A prefix's bits. -/
def bitsI (p : Pr) : List Bool := bitsP p.1.toNat p.2.toNat
theorem cmpP_self (a n : Int) : cmpP a n a n = 0 := (cmpP_zero _ _ _ _).2 ⟨rfl, rfl⟩
theorem rising_snoc2 : ∀ (l : List Pr) (z p : Pr), rising (l ++ [z, p]) = (rising (l ++ [z]) && decide (cmpP z.1 z.2 p.1 p.2 < 0))
  | [], z, p => by simp [rising]
  | [a], z, p => by simp [rising]
  | a :: b :: l, z, p => by
    have := rising_snoc2 (b :: l) z p
    simp only [List.cons_append] at this
    simp only [List.cons_append, rising, this, Bool.and_assoc]
theorem rising_mem : ∀ (l : List Pr) (z : Pr), rising (l ++ [z]) = true → ∀ q ∈ l, cmpP q.1 q.2 z.1 z.2 < 0
  | [], _, _, q, hq => by simp at hq
  | [a], z, h, q, hq => by simp at hq; subst hq; simpa [rising] using h
  | a :: b :: l, z, h, q, hq => by
    simp only [List.cons_append, rising, Bool.and_eq_true, decide_eq_true_eq] at h
    have ih := rising_mem (b :: l) z h.2
    rcases List.mem_cons.1 hq with rfl | hq
    · exact cmpP_trans _ _ _ _ _ _ h.1 (ih b (by simp))
    · exact ih q hq
theorem take_two {l : List Pr} {j : Nat} {z p : Pr} (hz : l[j]? = some z) (hp : l[j + 1]? = some p) : l.take (j + 1 + 1) = l.take j ++ [z, p] := by
  rw [List.take_add_one, List.take_add_one, hz, hp]; simp
theorem ownOk_may {l : List Pr} {p : Pr} (h : p ∈ l) (hm : mayP p.1 p.2 = false) : ownOk l = false := by
  apply Bool.eq_false_iff.2; intro ht
  unfold ownOk at ht
  simp only [Bool.and_eq_true, List.all_eq_true] at ht
  rw [ht.1.2 p h] at hm; cases hm
theorem ownOk_len {l : List Pr} (h : 8 < l.length) : ownOk l = false := by
  unfold ownOk
  rw [show decide (l.length ≤ 8) = false from by simp; omega]; simp
theorem ownOk_rise {l : List Pr} {j : Nat} {z p : Pr} (hz : l[j]? = some z) (hp : l[j + 1]? = some p) (hc : ¬ cmpP z.1 z.2 p.1 p.2 < 0) : ownOk l = false := by
  apply Bool.eq_false_iff.2; intro ht
  unfold ownOk at ht
  simp only [Bool.and_eq_true] at ht
  have := rising_take l (j + 1 + 1) ht.2
  rw [take_two hz hp, rising_snoc2] at this
  simp at this
  exact hc this.2

/-- What the tree holds when some have been read. -/
structure OwnInv (l : List Pr) (j : Nat) (t : Tree) : Prop where
  le : j ≤ l.length
  may : (l.take j).all (fun p => mayP p.1 p.2) = true
  rise : rising (l.take j) = true
  keys : ∀ q, q ∈ t.keys ↔ q ∈ (l.take j).map bitsI
  n : t.keys.length = j
  le8 : j ≤ 8
theorem OwnInv.start (l : List Pr) : OwnInv l 0 .nil := ⟨Nat.zero_le _, rfl, rfl, by simp [Tree.keys], rfl, by omega⟩
def AddrsOk (l : List Pr) : Prop := ∀ p ∈ l, 0 ≤ p.1 ∧ p.1 < 4294967296
theorem bitsI_inj {p q : Pr} (hp : 0 ≤ p.1 ∧ p.1 < 4294967296) (hq : 0 ≤ q.1 ∧ q.1 < 4294967296) (h1 : mayP p.1 p.2 = true) (h2 : mayP q.1 q.2 = true) (h : bitsI p = bitsI q) : p = q := by
  obtain ⟨a, n⟩ := p
  obtain ⟨b, m⟩ := q
  simp only at hp hq h1 h2
  obtain ⟨n0, _, _⟩ := (mayP_iff _ _).1 h1
  obtain ⟨m0, _, _⟩ := (mayP_iff _ _).1 h2
  obtain ⟨A, rfl⟩ := Int.eq_ofNat_of_zero_le hp.1
  obtain ⟨B, rfl⟩ := Int.eq_ofNat_of_zero_le hq.1
  obtain ⟨N, rfl⟩ := Int.eq_ofNat_of_zero_le n0
  obtain ⟨M, rfl⟩ := Int.eq_ofNat_of_zero_le m0
  have := bitsP_inj (a := A) (b := B) (n := N) (m := M) (by omega) (by omega) h1 h2 (by simpa [bitsI] using h)
  simp [this.1, this.2]
/-- One that is there already does not rise. -/
theorem OwnInv.found {l : List Pr} {j : Nat} {t : Tree} {p : Pr} (h : OwnInv l j t) (hA : AddrsOk l) (hi : t.Inv) (hp : l[j]? = some p) (hm : mayP p.1 p.2 = true) (hf : t.find (bitsI p) = true) :
    ∃ i z, j = i + 1 ∧ l[i]? = some z ∧ ¬ cmpP z.1 z.2 p.1 p.2 < 0 := by
  have hk := (h.keys _).1 ((Tree.find_iff hi).1 hf)
  obtain ⟨q, hq, hqe⟩ := List.mem_map.1 hk
  have hqm : mayP q.1 q.2 = true := List.all_eq_true.1 h.may q hq
  obtain rfl : q = p := bitsI_inj (hA _ (List.mem_of_mem_take hq)) (hA _ (List.mem_of_getElem? hp)) hqm hm hqe
  cases j with
  | zero => simp at hq
  | succ i =>
    have hlt : i < l.length := by have := h.le; omega
    refine ⟨i, l[i], rfl, List.getElem?_eq_getElem hlt, fun hc => ?_⟩
    rw [List.take_add_one, List.getElem?_eq_getElem hlt] at hq
    simp only [Option.toList_some, List.mem_append, List.mem_singleton] at hq
    have hr := h.rise
    rw [List.take_add_one, List.getElem?_eq_getElem hlt] at hr
    rcases hq with hq | hq
    · have h1 := rising_mem _ _ hr q hq
      have := cmpP_trans _ _ _ _ _ _ h1 hc
      rw [cmpP_self] at this; omega
    · rw [← hq, cmpP_self] at hc; omega
theorem OwnInv.next {l : List Pr} {j : Nat} {t : Tree} {p : Pr} (h : OwnInv l j t) (_hi : t.Inv) (hp : l[j]? = some p) (hm : mayP p.1 p.2 = true) (hf : t.find (bitsI p) = false) (h8 : j < 8)
    (hc : ∀ i z, j = i + 1 → l[i]? = some z → cmpP z.1 z.2 p.1 p.2 < 0) (b1 b2 : Nat) : OwnInv l (j + 1) (t.ins b1 b2 (bitsI p)) := by
  have hlt := (List.getElem?_eq_some_iff.1 hp).1
  have e : l.take (j + 1) = l.take j ++ [p] := by rw [List.take_add_one, hp]; rfl
  refine ⟨hlt, ?_, ?_, fun q => ?_, ?_, by omega⟩
  · rw [e, List.all_append, h.may]; simp [hm]
  · cases j with
    | zero => rw [e]; simp [rising]
    | succ i =>
      have hli : i < l.length := by omega
      have hz := List.getElem?_eq_getElem hli
      rw [take_two hz hp, rising_snoc2]
      have hr := h.rise
      rw [List.take_add_one, hz] at hr
      simp only [Option.toList_some] at hr
      rw [hr]
      simpa using hc i _ rfl hz
  · rw [Tree.ins_keys, h.keys, e]
    simp only [List.map_append, List.map_cons, List.map_nil, List.mem_append, List.mem_singleton]
    exact or_comm
  · rw [Tree.ins_length, hf, h.n]; simp
theorem OwnInv.ok {l : List Pr} {t : Tree} (h : OwnInv l l.length t) : ownOk l = decide (0 < l.length) := by
  have h1 := h.may
  have h2 := h.rise
  have h3 := h.le8
  rw [List.take_length] at h1 h2
  unfold ownOk
  rw [h1, h2, show decide (l.length ≤ 8) = true from by simpa using h3]
  simp; omega
/-- The tree has an address when one of them has. -/
theorem OwnInv.any {l : List Pr} {t : Tree} (h : OwnInv l l.length t) (hA : AddrsOk l) (hi : t.Inv) (x : Nat) (hx : x < 4294967296) : decide (0 < t.cover (bitsP x 32)) = hasAny l x := by
  rw [Bool.eq_iff_iff, decide_eq_true_eq, Tree.cover_iff (bitsP_length _ _) hi]
  unfold hasAny
  rw [List.any_eq_true]
  have hm := h.may
  rw [List.take_length, List.all_eq_true] at hm
  have key : ∀ p ∈ l, (hasP p.1 p.2 x = true ↔ bitsI p <+: bitsP x 32) := by
    intro p hp
    have hp1 := hA p hp
    have hmp := hm p hp
    obtain ⟨a, n⟩ := p
    simp only at hp1 hmp
    obtain ⟨n0, _, _⟩ := (mayP_iff _ _).1 hmp
    obtain ⟨A, rfl⟩ := Int.eq_ofNat_of_zero_le hp1.1
    obtain ⟨N, rfl⟩ := Int.eq_ofNat_of_zero_le n0
    rw [hasP_iff]
    have := has_bits (a := A) (n := N) (x := x) (by omega) hx hmp
    simp only [bitsI, Int.toNat_natCast]
    rw [← this]
    exact ⟨fun hh => hh.2, fun hh => ⟨hmp, hh⟩⟩
  constructor
  · rintro ⟨q, hq, hqx⟩
    rw [h.keys, List.take_length] at hq
    obtain ⟨p, hp, rfl⟩ := List.mem_map.1 hq
    exact ⟨p, hp, (key p hp).2 hqx⟩
  · rintro ⟨p, hp, hh⟩
    exact ⟨bitsI p, (h.keys _).2 (by rw [List.take_length]; exact List.mem_map_of_mem hp), (key p hp).1 hh⟩
end Go.Proofs.YtfbangojgjcbcaaGreatDoor.Pl
