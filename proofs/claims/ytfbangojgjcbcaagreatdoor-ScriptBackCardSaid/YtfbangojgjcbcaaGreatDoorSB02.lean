/- Part 2 of the proof: PlainK, ConfA, OpenC, PlainX, PlainY, PlainH, PlainZ, PreR. -/
import Derived.Deep.Slices
import Derived.Lib.AtoiAll
import Derived.Lib.Bytealg
import Derived.Test.YtfbangojgjcbcaaGreatDoorSB01
namespace Go.Proofs.YtfbangojgjcbcaaGreatDoor.Pl
theorem Tree.ins_blocks {b1 b2 : Nat} {p : List Bool} : ∀ {t : Tree} {x : Nat}, x ∈ (t.ins b1 b2 p).blocks → x = b1 ∨ x = b2 ∨ x ∈ t.blocks
  | .nil, x, h => by simp [ins, blocks] at h; exact .inl h
  | .node b k has l r, x, h => by
    have il := @ins_blocks b1 b2 p l x
    have ir := @ins_blocks b1 b2 p r x
    unfold ins at h
    split at h
    · exact .inr (.inr h)
    · split at h
      · split at h <;> simp only [blocks, List.mem_cons, List.mem_append] at h ⊢ <;> grind
      · split at h <;> split at h <;> simp only [blocks, List.mem_cons, List.mem_append, List.not_mem_nil] at h ⊢ <;> grind
theorem Tree.ins_nodup {b1 b2 : Nat} {p : List Bool} (h12 : b1 ≠ b2) : ∀ {t : Tree}, t.blocks.Nodup → b1 ∉ t.blocks → b2 ∉ t.blocks → (t.ins b1 b2 p).blocks.Nodup
  | .nil, _, _, _ => by simp [ins, blocks]
  | .node b k has l r, hn, h1, h2 => by
    simp only [blocks, List.nodup_cons, List.nodup_append, List.mem_cons, List.mem_append, not_or] at hn h1 h2
    obtain ⟨⟨n1, n2⟩, nl, nr, nd⟩ := hn
    have il := ins_nodup (p := p) h12 nl h1.2.1 h2.2.1
    have ir := ins_nodup (p := p) h12 nr h1.2.2 h2.2.2
    have bl := fun x => @ins_blocks b1 b2 p l x
    have br := fun x => @ins_blocks b1 b2 p r x
    unfold ins
    split
    · simp only [blocks, List.nodup_cons, List.nodup_append, List.mem_append, not_or]; exact ⟨⟨n1, n2⟩, nl, nr, nd⟩
    · split
      · split <;> simp only [blocks, List.nodup_cons, List.nodup_append, List.mem_append, not_or] <;> grind
      · split <;> split <;> simp only [blocks, List.nodup_cons, List.nodup_append, List.mem_cons, List.mem_append, not_or, List.not_mem_nil, List.nodup_nil, List.nil_append, List.append_nil] <;> grind
end Go.Proofs.YtfbangojgjcbcaaGreatDoor.Pl
namespace Go.Proofs.YtfbangojgjcbcaaGreatDoor.Pl
abbrev Pr := Int × Int
/-- A prefix's bits. -/
def bitsI (p : Pr) : List Bool := bitsP p.1.toNat p.2.toNat
theorem cmpP_self (a n : Int) : cmpP a n a n = 0 := (cmpP_zero _ _ _ _).2 ⟨rfl, rfl⟩
theorem rising_snoc2 : ∀ (l : List Pr) (z p : Pr), rising (l ++ [z, p]) = (rising (l ++ [z]) && decide (cmpP z.1 z.2 p.1 p.2 < 0))
  | [], z, p => by simp [rising]
  | [a], z, p => by simp [rising]
  | a :: b :: l, z, p => by
    have := rising_snoc2 (b :: l) z p
    simp only [List.cons_append] at this
    simp only [List.cons_append, rising, this, Bool.and_assoc]
theorem rising_mem : ∀ (l : List Pr) (z : Pr), rising (l ++ [z]) = true → ∀ q ∈ l, cmpP q.1 q.2 z.1 z.2 < 0
  | [], _, _, q, hq => by simp at hq
  | [a], z, h, q, hq => by simp at hq; subst hq; simpa [rising] using h
  | a :: b :: l, z, h, q, hq => by
    simp only [List.cons_append, rising, Bool.and_eq_true, decide_eq_true_eq] at h
    have ih := rising_mem (b :: l) z h.2
    rcases List.mem_cons.1 hq with rfl | hq
    · exact cmpP_trans _ _ _ _ _ _ h.1 (ih b (by simp))
    · exact ih q hq
theorem take_two {l : List Pr} {j : Nat} {z p : Pr} (hz : l[j]? = some z) (hp : l[j + 1]? = some p) : l.take (j + 1 + 1) = l.take j ++ [z, p] := by
  rw [List.take_add_one, List.take_add_one, hz, hp]; simp
theorem ownOk_may {l : List Pr} {p : Pr} (h : p ∈ l) (hm : mayP p.1 p.2 = false) : ownOk l = false := by
  apply Bool.eq_false_iff.2; intro ht
  unfold ownOk at ht
  simp only [Bool.and_eq_true, List.all_eq_true] at ht
  rw [ht.1.2 p h] at hm; cases hm
theorem ownOk_len {l : List Pr} (h : 8 < l.length) : ownOk l = false := by
  unfold ownOk
  rw [show decide (l.length ≤ 8) = false from by simp; omega]; simp
theorem ownOk_rise {l : List Pr} {j : Nat} {z p : Pr} (hz : l[j]? = some z) (hp : l[j + 1]? = some p) (hc : ¬ cmpP z.1 z.2 p.1 p.2 < 0) : ownOk l = false := by
  apply Bool.eq_false_iff.2; intro ht
  unfold ownOk at ht
  simp only [Bool.and_eq_true] at ht
  have := rising_take l (j + 1 + 1) ht.2
  rw [take_two hz hp, rising_snoc2] at this
  simp at this
  exact hc this.2
/-- What the tree holds when some have been read. -/
structure OwnInv (l : List Pr) (j : Nat) (t : Tree) : Prop where
  le : j ≤ l.length
  may : (l.take j).all (fun p => mayP p.1 p.2) = true
  rise : rising (l.take j) = true
  keys : ∀ q, q ∈ t.keys ↔ q ∈ (l.take j).map bitsI
  n : t.keys.length = j
  le8 : j ≤ 8
theorem OwnInv.start (l : List Pr) : OwnInv l 0 .nil := ⟨Nat.zero_le _, rfl, rfl, by simp [Tree.keys], rfl, by omega⟩
def AddrsOk (l : List Pr) : Prop := ∀ p ∈ l, 0 ≤ p.1 ∧ p.1 < 4294967296
theorem bitsI_inj {p q : Pr} (hp : 0 ≤ p.1 ∧ p.1 < 4294967296) (hq : 0 ≤ q.1 ∧ q.1 < 4294967296) (h1 : mayP p.1 p.2 = true) (h2 : mayP q.1 q.2 = true) (h : bitsI p = bitsI q) : p = q := by
  obtain ⟨a, n⟩ := p
  obtain ⟨b, m⟩ := q
  simp only at hp hq h1 h2
  obtain ⟨n0, _, _⟩ := (mayP_iff _ _).1 h1
  obtain ⟨m0, _, _⟩ := (mayP_iff _ _).1 h2
  obtain ⟨A, rfl⟩ := Int.eq_ofNat_of_zero_le hp.1
  obtain ⟨B, rfl⟩ := Int.eq_ofNat_of_zero_le hq.1
  obtain ⟨N, rfl⟩ := Int.eq_ofNat_of_zero_le n0
  obtain ⟨M, rfl⟩ := Int.eq_ofNat_of_zero_le m0
  have := bitsP_inj (a := A) (b := B) (n := N) (m := M) (by omega) (by omega) h1 h2 (by simpa [bitsI] using h)
  simp [this.1, this.2]
/-- One that is there already does not rise. -/
theorem OwnInv.found {l : List Pr} {j : Nat} {t : Tree} {p : Pr} (h : OwnInv l j t) (hA : AddrsOk l) (hi : t.Inv) (hp : l[j]? = some p) (hm : mayP p.1 p.2 = true) (hf : t.find (bitsI p) = true) :
    ∃ i z, j = i + 1 ∧ l[i]? = some z ∧ ¬ cmpP z.1 z.2 p.1 p.2 < 0 := by
  have hk := (h.keys _).1 ((Tree.find_iff hi).1 hf)
  obtain ⟨q, hq, hqe⟩ := List.mem_map.1 hk
  have hqm : mayP q.1 q.2 = true := List.all_eq_true.1 h.may q hq
  obtain rfl : q = p := bitsI_inj (hA _ (List.mem_of_mem_take hq)) (hA _ (List.mem_of_getElem? hp)) hqm hm hqe
  cases j with
  | zero => simp at hq
  | succ i =>
    have hlt : i < l.length := by have := h.le; omega
    refine ⟨i, l[i], rfl, List.getElem?_eq_getElem hlt, fun hc => ?_⟩
    rw [List.take_add_one, List.getElem?_eq_getElem hlt] at hq
    simp only [Option.toList_some, List.mem_append, List.mem_singleton] at hq
    have hr := h.rise
    rw [List.take_add_one, List.getElem?_eq_getElem hlt] at hr
    rcases hq with hq | hq
    · have h1 := rising_mem _ _ hr q hq
      have := cmpP_trans _ _ _ _ _ _ h1 hc
      rw [cmpP_self] at this; omega
    · rw [← hq, cmpP_self] at hc; omega
theorem OwnInv.next {l : List Pr} {j : Nat} {t : Tree} {p : Pr} (h : OwnInv l j t) (_hi : t.Inv) (hp : l[j]? = some p) (hm : mayP p.1 p.2 = true) (hf : t.find (bitsI p) = false) (h8 : j < 8)
    (hc : ∀ i z, j = i + 1 → l[i]? = some z → cmpP z.1 z.2 p.1 p.2 < 0) (b1 b2 : Nat) : OwnInv l (j + 1) (t.ins b1 b2 (bitsI p)) := by
  have hlt := (List.getElem?_eq_some_iff.1 hp).1
  have e : l.take (j + 1) = l.take j ++ [p] := by rw [List.take_add_one, hp]; rfl
  refine ⟨hlt, ?_, ?_, fun q => ?_, ?_, by omega⟩
  · rw [e, List.all_append, h.may]; simp [hm]
  · cases j with
    | zero => rw [e]; simp [rising]
    | succ i =>
      have hli : i < l.length := by omega
      have hz := List.getElem?_eq_getElem hli
      rw [take_two hz hp, rising_snoc2]
      have hr := h.rise
      rw [List.take_add_one, hz] at hr
      simp only [Option.toList_some] at hr
      rw [hr]
      simpa using hc i _ rfl hz
  · rw [Tree.ins_keys, h.keys, e]
    simp only [List.map_append, List.map_cons, List.map_nil, List.mem_append, List.mem_singleton]
    exact or_comm
  · rw [Tree.ins_length, hf, h.n]; simp
theorem OwnInv.ok {l : List Pr} {t : Tree} (h : OwnInv l l.length t) : ownOk l = decide (0 < l.length) := by
  have h1 := h.may
  have h2 := h.rise
  have h3 := h.le8
  rw [List.take_length] at h1 h2
  unfold ownOk
  rw [h1, h2, show decide (l.length ≤ 8) = true from by simpa using h3]
  simp; omega
/-- The tree has an address when one of them has. -/
theorem OwnInv.any {l : List Pr} {t : Tree} (h : OwnInv l l.length t) (hA : AddrsOk l) (hi : t.Inv) (x : Nat) (hx : x < 4294967296) : decide (0 < t.cover (bitsP x 32)) = hasAny l x := by
  rw [Bool.eq_iff_iff, decide_eq_true_eq, Tree.cover_iff (bitsP_length _ _) hi]
  unfold hasAny
  rw [List.any_eq_true]
  have hm := h.may
  rw [List.take_length, List.all_eq_true] at hm
  have key : ∀ p ∈ l, (hasP p.1 p.2 x = true ↔ bitsI p <+: bitsP x 32) := by
    intro p hp
    have hp1 := hA p hp
    have hmp := hm p hp
    obtain ⟨a, n⟩ := p
    simp only at hp1 hmp
    obtain ⟨n0, _, _⟩ := (mayP_iff _ _).1 hmp
    obtain ⟨A, rfl⟩ := Int.eq_ofNat_of_zero_le hp1.1
    obtain ⟨N, rfl⟩ := Int.eq_ofNat_of_zero_le n0
    rw [hasP_iff]
    have := has_bits (a := A) (n := N) (x := x) (by omega) hx hmp
    simp only [bitsI, Int.toNat_natCast]
    rw [← this]
    exact ⟨fun hh => hh.2, fun hh => ⟨hmp, hh⟩⟩
  constructor
  · rintro ⟨q, hq, hqx⟩
    rw [h.keys, List.take_length] at hq
    obtain ⟨p, hp, rfl⟩ := List.mem_map.1 hq
    exact ⟨p, hp, (key p hp).2 hqx⟩
  · rintro ⟨p, hp, hh⟩
    exact ⟨bitsI p, (h.keys _).2 (by rw [List.take_length]; exact List.mem_map_of_mem hp), (key p hp).1 hh⟩
end Go.Proofs.YtfbangojgjcbcaaGreatDoor.Pl
namespace Go.Proofs.YtfbangojgjcbcaaGreatDoor
open Go.RowKit Pl
/-- The slice value v reads as the pairs ps in world w: two cells each, the first of kind k. -/
def Rs (k : IntKind) (w : World) (v : Value) (ps : List Pr) : Prop :=
  ∃ (A : Option Addr) (c : Nat), v = .slice A ps.length c ∧ ps.length ≤ c ∧ (A = none → c = 0) ∧
    (0 < ps.length → ∃ b off, A = some ⟨b, off, none⟩ ∧ b < w.heap.size ∧ ∀ j u, ps[j]? = some u →
      w.cell? ⟨b, off + j * 2, none⟩ = some (.int k u.1) ∧ w.cell? ⟨b, off + j * 2 + 1, none⟩ = some (.int .i64 u.2))
theorem Rs.below {k : IntKind} {w w' : World} {v : Value} {ps : List Pr} (h : Rs k w v ps) (hb : Below w.heap.size w w') : Rs k w' v ps := by
  obtain ⟨A, c, rfl, hc, hn, hA⟩ := h
  refine ⟨A, c, rfl, hc, hn, fun hp => ?_⟩
  obtain ⟨b, off, rfl, hlt, hcell⟩ := hA hp
  refine ⟨b, off, rfl, Nat.lt_of_lt_of_le hlt hb.size, fun j u hu => ?_⟩
  obtain ⟨h1, h2⟩ := hcell j u hu
  exact ⟨(hb.cell (show b < _ from hlt)).trans h1, (hb.cell (show b < _ from hlt)).trans h2⟩
theorem Rs.alloc {k : IntKind} {w : World} {v : Value} {ps : List Pr} (h : Rs k w v ps) (o : Obj) : Rs k (w.alloc o) v ps := h.below ((Below.refl _ _).alloc (Nat.le_refl _) o)
theorem Rs.drew {k : IntKind} {w : World} {v : Value} {ps : List Pr} (h : Rs k w v ps) : Rs k w.drew v ps := h
theorem Rs.drewN {k : IntKind} {w : World} {v : Value} {ps : List Pr} (h : Rs k w v ps) (n : Nat) : Rs k (w.drewN n) v ps := h
theorem Rs.nil (k : IntKind) (w : World) : Rs k w (.slice none 0 0) [] := ⟨none, 0, rfl, Nat.le_refl _, fun _ => rfl, fun h => absurd h (by simp)⟩
theorem Rs.len {k : IntKind} {w : World} {A : Option Addr} {n c : Nat} {ps : List Pr} (h : Rs k w (.slice A n c) ps) : n = ps.length ∧ ps.length ≤ c := by
  obtain ⟨A', c', hv, hc, _, _⟩ := h
  injection hv with h1 h2 h3
  exact ⟨h2, by omega⟩
/-- Its cells. -/
theorem Rs.at {k : IntKind} {w : World} {A : Option Addr} {n c : Nat} {ps : List Pr} (h : Rs k w (.slice A n c) ps) {j : Nat} {u : Pr} (hu : ps[j]? = some u) :
    ∃ b off, A = some ⟨b, off, none⟩ ∧ b < w.heap.size ∧ w.cell? ⟨b, off + j * 2, none⟩ = some (.int k u.1) ∧ w.cell? ⟨b, off + j * 2 + 1, none⟩ = some (.int .i64 u.2) := by
  obtain ⟨A', c', hv, hc, _, hA⟩ := h
  injection hv with h1 h2 h3
  subst h1
  obtain ⟨b, off, rfl, hb, hcell⟩ := hA (by have := (List.getElem?_eq_some_iff.1 hu).1; omega)
  obtain ⟨h1, h2⟩ := hcell j u hu
  exact ⟨b, off, rfl, hb, h1, h2⟩
theorem Rs.take {k : IntKind} {w : World} {A : Option Addr} {n c : Nat} {ps : List Pr} (h : Rs k w (.slice A n c) ps) : ∀ {j : Nat} {b off : Nat}, A = some ⟨b, off, none⟩ → ∀ {u}, ps[j]? = some u →
    w.cell? ⟨b, off + j * 2, none⟩ = some (.int k u.1) ∧ w.cell? ⟨b, off + j * 2 + 1, none⟩ = some (.int .i64 u.2) := by
  intro j b off hA u hu
  obtain ⟨b', off', h1, _, h2, h3⟩ := h.at hu
  rw [hA] at h1; cases h1
  exact ⟨h2, h3⟩
def cells2 (k : IntKind) (ps : List Pr) : List Value := ps.flatMap fun p => [.int k p.1, .int .i64 p.2]
theorem cells2_snoc (k : IntKind) (ps : List Pr) (u : Pr) : cells2 k (ps ++ [u]) = cells2 k ps ++ [.int k u.1, .int .i64 u.2] := by
  unfold cells2; rw [List.flatMap_append]; simp
theorem cells2_at (k : IntKind) (ps : List Pr) (j : Nat) (u : Pr) (h : ps[j]? = some u) : (cells2 k ps)[j * 2]? = some (.int k u.1) ∧ (cells2 k ps)[j * 2 + 1]? = some (.int .i64 u.2) := by
  induction ps generalizing j with
  | nil => simp at h
  | cons x ps ih =>
    cases j with
    | zero => simp at h; subst h; simp [cells2]
    | succ j =>
      simp only [List.getElem?_cons_succ] at h
      obtain ⟨h1, h2⟩ := ih j h
      have e : cells2 k (x :: ps) = [.int k x.1, .int .i64 x.2] ++ cells2 k ps := by unfold cells2; rw [List.flatMap_cons]
      rw [e]
      refine ⟨?_, ?_⟩
      · rw [List.getElem?_append_right (by simp; omega)]; simpa [show (j + 1) * 2 - 2 = j * 2 by omega] using h1
      · rw [List.getElem?_append_right (by simp; omega)]; simpa [show (j + 1) * 2 + 1 - 2 = j * 2 + 1 by omega] using h2
theorem Rs.own {w : World} {base : Nat} {v : Value} {k : IntKind} {e : TypeId} {n : Nat} {ps : List Pr} (hn : n = ps.length) (h : w.ownsRow base e 2 v n (cells2 k ps)) : Rs k w v ps := by
  subst hn
  rcases h.2 with ⟨rfl, h0⟩ | ⟨g, cap, cur, rfl, hg, hh, hnc, _⟩
  · have h0' : ps = [] := by
      cases ps with
      | nil => rfl
      | cons u us => simp at h0
    subst h0'; exact Rs.nil k w
  · refine ⟨_, cap, rfl, hnc, (fun h => by cases h), fun hp => ⟨g, 0, rfl, (h.lt g rfl).2, fun j u hu => ?_⟩⟩
    have hc := h.cells (g := g) rfl
    have key : ∀ i u, (cells2 k ps)[i]? = some u → w.cell? ⟨g, 0 + i, none⟩ = some u := fun i u hu => by
      have := hc i u hu
      rw [show ((⟨g, 0, none⟩ : Addr).add i) = ⟨g, 0 + i, none⟩ from by unfold Addr.add; by_cases hj : i = 0 <;> simp [hj]] at this
      exact this
    obtain ⟨h1, h2⟩ := cells2_at k ps j u hu
    refine ⟨key _ _ h1, ?_⟩
    have := key _ _ h2; rwa [← Nat.add_assoc] at this
theorem info_P : (Tryz.prog.info? 86).map (fun i => (i.zero, i.size, i.bytes)) = some (some (.agg #[.int .u32 0, .int .i64 0]), 2, 16) := by kernel_rfl
theorem info_O : (Tryz.prog.info? 101).map (fun i => (i.zero, i.size, i.bytes)) = some (some (.agg #[.int .i64 0, .int .i64 0]), 2, 16) := by kernel_rfl
/-- A configuration in memory. -/
def cfgV (c : Cfg) (own ports : Value) : Value := .agg #[.int .i64 c.node, .int .u32 c.addr, own, ports, .int .i64 c.hello, .int .i64 c.dead, .int .i64 c.again, .int .i64 c.room, .int .i64 c.queue, .int .i64 c.tokens, .int .i64 c.refill]
structure CfgIs (w : World) (v : Value) (c : Cfg) : Prop where
  is : ∃ own ports, v = cfgV c own ports ∧ Rs .u32 w own c.own ∧ Rs .i64 w ports c.ports
theorem CfgIs.below {w w' : World} {v : Value} {c : Cfg} (h : CfgIs w v c) (hb : Below w.heap.size w w') : CfgIs w' v c := by
  obtain ⟨own, ports, h1, h2, h3⟩ := h.is
  exact ⟨own, ports, h1, h2.below hb, h3.below hb⟩
end Go.Proofs.YtfbangojgjcbcaaGreatDoor
namespace Go.Proofs.YtfbangojgjcbcaaGreatDoor
open Go.ChangeShapes Go.WideShapes Go.ChangeAt Go.RowKit Pl
theorem chooseC {α : Type} {p : Nat → α → Prop} : ∀ n, (∀ i, i < n → ∃ x, p i x) → ∃ l : List α, l.length = n ∧ ∀ i x, l[i]? = some x → p i x
  | 0, _ => ⟨[], rfl, fun i x h => by simp at h⟩
  | n + 1, h => by
    obtain ⟨l, hl, hp⟩ := chooseC n fun i hi => h i (by omega)
    obtain ⟨x, hx⟩ := h n (by omega)
    refine ⟨l ++ [x], by simp [hl], fun i y hy => ?_⟩
    by_cases hi : i < n
    · rw [List.getElem?_append_left (by omega)] at hy
      exact hp i y hy
    · have hlt := (List.getElem?_eq_some_iff.1 hy).1
      simp [hl] at hlt
      obtain rfl : i = n := by omega
      rw [List.getElem?_append_right (by omega)] at hy
      simp [hl] at hy
      subst hy; exact hx
theorem addC (b off j : Nat) : ((⟨b, off, none⟩ : Addr).add j) = ⟨b, off + j, none⟩ := by unfold Addr.add; by_cases hj : j = 0 <;> simp [hj]
theorem listC2 {cs : List Value} (h : cs.length = 2) : ∃ a b, cs = [a, b] := by
  match cs, h with | [a, b], _ => exact ⟨a, b, rfl⟩
section
variable {H : Type} {enc : TypeId × Value → H} {W : World} {base b0 : Nat} {sp : Nat → Bool} {held : Bool} {r : Reach}
theorem cCellsA : Tryz.prog.cellsOf 24 = 1 := by kernel_rfl
theorem cCellsI : Tryz.prog.cellsOf 3 = 1 := by kernel_rfl
theorem cCellsP : Tryz.prog.cellsOf 86 = 2 := by kernel_rfl
theorem cCellsO : Tryz.prog.cellsOf 101 = 2 := by kernel_rfl
theorem cCellsC : Tryz.prog.cellsOf 28 = 11 := by kernel_rfl
set_option maxRecDepth 100000 in
theorem trodC_prefix {fuel : Nat} {cs : List Value} {x : DataW H × List MemPlace} (h : DataW.trod enc Tryz.prog W base sp held fuel 86 cs = some x) :
    ∃ a n, cs = [.int .u32 a, .int .i64 n] ∧ (0 ≤ a ∧ a < 4294967296) := by
  obtain ⟨y0, y1, m, _, hl, h0, h1⟩ := trod_struct2 Tryz.underlying86 h
  obtain ⟨c0, c1, rfl⟩ := listC2 (hl.trans cCellsP)
  simp only [cCellsA, cCellsI, List.drop_zero, List.drop_succ_cons, List.take_succ_cons, List.take_zero] at h0 h1
  obtain ⟨a, e0, _, wa⟩ := DataW.trod_int Tryz.underlying24 h0
  obtain ⟨n, e1, _, _⟩ := DataW.trod_int Tryz.underlying3 h1
  simp at e0 e1
  subst e0 e1
  exact ⟨a, n, rfl, isAddr_of_wf wa⟩
set_option maxRecDepth 100000 in
theorem trodC_port {fuel : Nat} {cs : List Value} {x : DataW H × List MemPlace} (h : DataW.trod enc Tryz.prog W base sp held fuel 101 cs = some x) :
    ∃ a n, cs = [.int .i64 a, .int .i64 n] ∧ True := by
  obtain ⟨y0, y1, m, _, hl, h0, h1⟩ := trod_struct2 Tryz.underlying101 h
  obtain ⟨c0, c1, rfl⟩ := listC2 (hl.trans cCellsO)
  simp only [cCellsI, List.drop_zero, List.drop_succ_cons, List.take_succ_cons, List.take_zero] at h0 h1
  obtain ⟨a, e0, _, _⟩ := DataW.trod_int Tryz.underlying3 h0
  obtain ⟨n, e1, _, _⟩ := DataW.trod_int Tryz.underlying3 h1
  simp at e0 e1
  subst e0 e1
  exact ⟨a, n, rfl, trivial⟩
theorem openC_pairs {k : IntKind} {t e : TypeId} {Pq : Int → Prop} (ht : Tryz.prog.underlying t = some (.slice e)) (hC : Tryz.prog.cellsOf e = 2)
    (hel : ∀ (fuel : Nat) (cs : List Value) (x : DataW H × List MemPlace), DataW.trod enc Tryz.prog W base sp held fuel e cs = some x → ∃ a n, cs = [.int k a, .int .i64 n] ∧ Pq a)
    {fuel : Nat} {v : Value} {x : DataW H × List MemPlace} (hf : DataW.trod enc Tryz.prog W base sp held fuel t [v] = some x) : ∃ ps : List Pr, Rs k W v ps ∧ ∀ p ∈ ps, Pq p.1 := by
  rcases Go.Deep.open_slice ht hf with ⟨hcs, _⟩ | ⟨x, len, cap, m, n, D, Pl, hcs, _, hl, hm, hmm, _, hx⟩
  · simp at hcs
    subst hcs
    exact ⟨[], Rs.nil _ _, fun u hu => by simp at hu⟩
  · simp at hcs
    subst hcs
    have hlm : len ≤ m := by rw [hmm]; split <;> omega
    obtain ⟨b, off, spot⟩ := x
    have hsp0 : 0 < len → spot = none := fun hp => by
      obtain ⟨cs', h1, _⟩ := hx 0 (by omega)
      rw [hC] at h1
      obtain ⟨_, _, hcell⟩ := World.cells?_some h1
      have e0 := hcell 0 (by omega)
      rw [Go.Deep.add_add] at e0
      obtain ⟨u, hu⟩ : ∃ u, W.cell? ((⟨b, off, spot⟩ : Addr).add (0 * 2 + 0)) = some u := by
        cases hc : cs' with
        | nil => have := (World.cells?_some h1).2.1; rw [hc] at this; simp at this
        | cons x xs => rw [hc] at e0; exact ⟨x, by simpa using e0⟩
      simpa [Addr.add] using World.cell?_spot hu
    have each : ∀ i, i < len → ∃ u : Pr, Pq u.1 ∧ spot = none ∧ b < W.heap.size ∧ W.cell? ⟨b, off + i * 2, none⟩ = some (.int k u.1) ∧ W.cell? ⟨b, off + i * 2 + 1, none⟩ = some (.int .i64 u.2) := by
      intro i hi
      obtain ⟨cs', h1, h2⟩ := hx i (by omega)
      rw [hC] at h1
      obtain ⟨_, hlen, hcell⟩ := World.cells?_some h1
      obtain ⟨a, n, rfl, wa⟩ := hel _ _ _ h2
      have e0 := hcell 0 (by omega)
      have e1 := hcell 1 (by omega)
      rw [Go.Deep.add_add] at e0 e1
      have hspot : spot = none := hsp0 (by omega)
      subst hspot
      rw [addC] at e0 e1
      exact ⟨(a, n), wa, rfl, block_lt_of_cell e0, by simpa using e0, by simpa [Nat.add_assoc] using e1⟩
    obtain ⟨us, hus, hp⟩ := chooseC len each
    refine ⟨us, ⟨some ⟨b, off, spot⟩, cap, by rw [hus], by rw [hus]; exact hl, (fun h => by cases h), fun hpos => ?_⟩, fun u hu => ?_⟩
    · obtain ⟨_, rfl, hlt, _⟩ := hp 0 us[0] (List.getElem?_eq_getElem hpos)
      exact ⟨b, off, rfl, hlt, fun j u hu => (hp j u hu).2.2.2⟩
    · obtain ⟨j, hj⟩ := List.getElem?_of_mem hu
      exact (hp j u hj).1
end
end Go.Proofs.YtfbangojgjcbcaaGreatDoor
namespace Go.Proofs.YtfbangojgjcbcaaGreatDoor.Pl
open Go.Lib (decDigits itoa)
theorem parse10_all : ∀ (l : List UInt8) (acc : Nat), l.all isDig = true → l.foldl (fun a c => a * 10 + (c.toNat - 48)) acc ≤ 9223372036854775808 →
    Lib.parseUint10 acc l = .ok (l.foldl (fun a c => a * 10 + (c.toNat - 48)) acc) := by
  have mono : ∀ (l : List UInt8) (a : Nat), a ≤ l.foldl (fun a c => a * 10 + (c.toNat - 48)) a := by
    intro l
    induction l with
    | nil => intro a; exact Nat.le_refl _
    | cons c l ih => intro a; rw [List.foldl_cons]; exact Nat.le_trans (by omega) (ih (a * 10 + (c.toNat - 48)))
  intro l
  induction l with
  | nil => intro acc _ _; rfl
  | cons c l ih =>
    intro acc hd hv
    simp only [List.all_cons, isDig, Bool.and_eq_true, decide_eq_true_eq] at hd
    rw [List.foldl_cons] at hv ⊢
    have h1 := mono l (acc * 10 + (c.toNat - 48))
    rw [Lib.parseUint10, if_pos hd.1, if_neg (by omega), if_neg (by omega)]
    exact ih _ hd.2 hv
theorem mag_dec (n : Nat) (h : n ≤ 9223372036854775808) : Lib.parseMag (decDigits n) = .ok n := by
  obtain ⟨a, b, c, _⟩ := dec_dig n
  unfold Lib.parseMag
  rw [if_neg (fun e => by rw [e] at c; simp at c)]
  have hp := parse10_all (decDigits n) 0 a (by show numVal _ ≤ _; rw [b]; exact h)
  rw [show List.foldl (fun a c => a * 10 + (c.toNat - 48)) 0 (decDigits n) = n from b] at hp
  exact hp
/-- strconv.Atoi at a number's own text. -/
theorem atoi_itoa (n : Int) (h0 : -9223372036854775808 ≤ n) (h1 : n ≤ 9223372036854775807) : Lib.atoiAll (itoa n) = .ok n := by
  by_cases hn : n < 0
  · obtain ⟨m, rfl⟩ : ∃ m : Nat, n = -(m : Int) := ⟨n.natAbs, by omega⟩
    have e : itoa (-(m : Int)) = 45 :: decDigits m := by unfold itoa; rw [if_pos hn]; congr 2; omega
    rw [e]
    unfold Lib.atoiAll
    have hm := mag_dec m (by omega)
    simp only [show (45 : UInt8).toNat = 45 from rfl, or_true, if_true, hm, not_true_eq_false, false_and, if_false, true_and]
    rw [if_neg (by omega)]
  · obtain ⟨m, rfl⟩ := Int.eq_ofNat_of_zero_le (show 0 ≤ n by omega)
    rw [itoa_nat]
    have hm := mag_dec m (by omega)
    obtain ⟨a, b, c, _⟩ := dec_dig m
    cases hl : decDigits m with
    | nil => rw [hl] at c; simp at c
    | cons x r =>
      rw [hl] at a hm
      have hx := (List.all_eq_true.1 a) x (by simp)
      simp only [isDig, Bool.and_eq_true, decide_eq_true_eq] at hx
      unfold Lib.atoiAll
      have e1 : ¬ x.toNat = 43 := by omega
      have e2 : ¬ x.toNat = 45 := by omega
      simp only [e1, e2, or_self, not_false_eq_true, true_and, false_and, if_false, hm]
      rw [if_neg (by omega)]
theorem atoi_bd {l : List UInt8} {v : Int} (h : Lib.atoiAll l = .ok v) : -9223372036854775808 ≤ v ∧ v ≤ 9223372036854775807 := by
  cases l with
  | nil => cases h
  | cons c r =>
    unfold Lib.atoiAll at h
    simp only at h
    split at h
    · cases h
    · cases h
    · split at h
      · cases h
      · split at h
        · cases h
        · injection h with h
          subst h
          split <;> omega
theorem numIn_atoi {s : List UInt8} {lo hi : Nat} {n : Int} (h : numIn s lo hi = some n) (hh : hi ≤ 1000000000) : Lib.atoiAll s = .ok n := by
  obtain ⟨e, h1, h2⟩ := numIn_some h
  rw [e]; exact atoi_itoa n (by omega) (by omega)
/-- Atoi's number fits just where the line's number does. -/
theorem numIn_of_atoi {s : List UInt8} {lo hi : Nat} {v : Int} (h : Lib.atoiAll s = .ok v) (hh : hi < 1000000000) :
    numIn s lo hi = if itoa v = s ∧ (lo : Int) ≤ v ∧ v ≤ hi then some v else none := by
  by_cases hc : itoa v = s ∧ (lo : Int) ≤ v ∧ v ≤ hi
  · rw [if_pos hc]; obtain ⟨h1, h2, h3⟩ := hc; rw [← h1]; exact numIn_itoa h2 h3 hh
  · rw [if_neg hc]
    cases hn : numIn s lo hi with
    | none => rfl
    | some n =>
      exfalso
      have h2 := numIn_atoi hn (by omega)
      rw [h] at h2; injection h2 with h2; subst h2
      obtain ⟨e, k1, k2⟩ := numIn_some hn
      exact hc ⟨e.symm, k1, k2⟩
theorem numIn_no_atoi {s : List UInt8} {lo hi : Nat} (h : ∀ u, Lib.atoiAll s ≠ .ok u) (hh : hi ≤ 1000000000) : numIn s lo hi = none := by
  cases hn : numIn s lo hi with
  | none => rfl
  | some n => exact absurd (numIn_atoi hn hh) (h n)
end Go.Proofs.YtfbangojgjcbcaaGreatDoor.Pl
namespace Go.Proofs.YtfbangojgjcbcaaGreatDoor.Pl
open Go.Lib (decDigits itoa)
theorem numIn_noblank {s : List UInt8} {lo hi : Nat} {n : Int} (h : numIn s lo hi = some n) : (32 : UInt8) ∉ s := by
  obtain ⟨e, h1, _⟩ := numIn_some h
  rw [e]; exact itoa_no n (by omega) 32 (by decide)
theorem splitOn_two (c : UInt8) (l : List UInt8) (h : c ∈ l) : ∃ x y r, splitOn c l = x :: y :: r := by
  obtain ⟨a, b, rfl, ha⟩ := List.eq_append_cons_of_mem h
  rw [splitOn_app c a b ha]
  cases hb : splitOn c b with
  | nil => exact absurd hb (splitOn_ne c b)
  | cons y r => exact ⟨a, y, r, rfl⟩
theorem cut_none (c : UInt8) : ∀ l : List UInt8, c ∉ l → cutA c l = l ∧ cutB c l = [] := by
  intro l h
  have hi : Lib.index l [c] = -1 := by
    induction l with
    | nil => rfl
    | cons x r ih =>
      rw [index_cons, if_neg (fun e => h (by simp [e])), ih (fun k => h (by simp [k]))]; rfl
  unfold cutA cutB Lib.cut
  simp [hi]
theorem portIn_cut (s : List UInt8) : portIn s = match numIn (cutA 32 s) 1 50, numIn (cutB 32 s) 68 1500 with
    | some c, some m => some (c, m)
    | _, _ => none := by
  by_cases h : (32 : UInt8) ∈ s
  · obtain ⟨a, b, rfl, ha⟩ := List.eq_append_cons_of_mem h
    obtain ⟨e1, e2⟩ := cut_app 32 a b ha
    unfold portIn
    rw [e1, e2, splitOn_app 32 a b ha]
    by_cases hb : (32 : UInt8) ∈ b
    · obtain ⟨x, y, r, hxy⟩ := splitOn_two 32 b hb
      rw [hxy]
      have : numIn b 68 1500 = none := by
        cases hn : numIn b 68 1500 with
        | none => rfl
        | some n => exact absurd hb (numIn_noblank hn)
      rw [this]
      cases numIn a 1 50 <;> rfl
    · rw [splitOn_none 32 b hb]; rfl
  · obtain ⟨e1, e2⟩ := cut_none 32 s h
    unfold portIn
    rw [splitOn_none 32 s h, e1, e2]
    have : numIn [] 68 1500 = none := by decide +kernel
    rw [this]
    cases numIn s 1 50 <;> rfl
end Go.Proofs.YtfbangojgjcbcaaGreatDoor.Pl
namespace Go.Proofs.YtfbangojgjcbcaaGreatDoor.Pl
open Go.Lib (decDigits itoa)
theorem cut_mem (c : UInt8) (l : List UInt8) (h : c ∈ l) : ∃ a b, l = a ++ c :: b ∧ c ∉ a ∧ cutA c l = a ∧ cutB c l = b := by
  obtain ⟨a, b, rfl, ha⟩ := List.eq_append_cons_of_mem h
  exact ⟨a, b, rfl, ha, (cut_app c a b ha).1, (cut_app c a b ha).2⟩
theorem splitOn_cut (c : UInt8) (l : List UInt8) (h : c ∈ l) : splitOn c l = cutA c l :: splitOn c (cutB c l) ∧ (cutB c l).length < l.length := by
  obtain ⟨a, b, rfl, ha, e1, e2⟩ := cut_mem c l h
  rw [e1, e2, splitOn_app c a b ha]
  exact ⟨rfl, by simp; omega⟩
theorem index_ge (c : UInt8) : ∀ l : List UInt8, -1 ≤ Lib.index l [c]
  | [] => Int.le_of_eq rfl
  | y :: r => by
    have ih := index_ge c r
    rw [index_cons]
    split
    · decide
    · split
      · decide
      · omega
theorem index_mem (c : UInt8) : ∀ l : List UInt8, (Lib.index l [c] == -1) = !decide (c ∈ l)
  | [] => rfl
  | x :: r => by
    rw [index_cons]
    by_cases hx : x = c
    · rw [if_pos hx]; simp [hx]
    · rw [if_neg hx]
      have ih := index_mem c r
      have hge := index_ge c r
      by_cases hr : c ∈ r
      · rw [decide_eq_true hr] at ih
        have hne : ¬ Lib.index r [c] = -1 := by simpa using ih
        rw [show (Lib.index r [c] == -1) = false by simpa using hne]
        simp only [Bool.false_eq_true, if_false]
        rw [decide_eq_true (List.mem_cons_of_mem x hr)]
        simp; omega
      · rw [decide_eq_false hr] at ih
        rw [ih]
        simp [hr, Ne.symm hx]
theorem cut_found (c : UInt8) (l : List UInt8) : (Lib.cut l [c]).2.2 = decide (c ∈ l) := by
  have h := index_mem c l
  unfold Lib.cut
  by_cases hm : c ∈ l
  · rw [decide_eq_true hm] at h ⊢
    have h1 : ¬ Lib.index l [c] = -1 := by simpa using h
    have h2 : 0 ≤ Lib.index l [c] := by have := index_ge c l; omega
    simp [h2]
  · rw [decide_eq_false hm] at h ⊢
    have : Lib.index l [c] = -1 := by simpa using h
    simp [this]
/-- What is kept while lines are read. -/
structure CInv (c : Cfg) : Prop where
  addrs : Addrs4 c
  own : c.own.length ≤ 8
  ports : c.ports.length ≤ 8
  hello : 0 ≤ c.hello ∧ c.hello ≤ 100
theorem CInv.start : CInv {} := ⟨⟨⟨by decide, by decide⟩, by simp⟩, by simp, by simp, by decide, by decide⟩
theorem ownOk_le {l : List (Int × Int)} (h : ownOk l = true) : l.length ≤ 8 := by
  unfold ownOk at h
  simp only [Bool.and_eq_true, decide_eq_true_eq] at h
  exact h.1.1.2
theorem stepC_inv {c c' : Cfg} {st st' : Nat} {w s : List UInt8} (h : CInv c) (hs : stepC c st w s = some (c', st')) : CInv c' := by
  unfold stepC at hs
  by_cases e0 : w = wNode
  · rw [if_pos e0] at hs
    by_cases hc : st = 0
    · rw [if_pos hc] at hs
      obtain ⟨n, _, hn⟩ := Option.map_eq_some_iff.1 hs
      injection hn with h1 _; subst h1; exact ⟨h.addrs, h.own, h.ports, h.hello⟩
    · rw [if_neg hc] at hs; cases hs
  rw [if_neg e0] at hs
  by_cases e1 : w = wAddress
  · rw [if_pos e1] at hs
    by_cases hc : st = 1
    · rw [if_pos hc] at hs
      obtain ⟨a, ha, hn⟩ := Option.map_eq_some_iff.1 hs
      injection hn with h1 _; subst h1
      have := (addrOf_some s a ha).2
      exact ⟨⟨⟨Int.natCast_nonneg a, by show (a : Int) < 4294967296; omega⟩, h.addrs.2⟩, h.own, h.ports, h.hello⟩
    · rw [if_neg hc] at hs; cases hs
  rw [if_neg e1] at hs
  by_cases e2 : w = wOwn
  · rw [if_pos e2] at hs
    by_cases hc : st = 2 ∨ (st = 3 ∧ c.ports = [])
    · rw [if_pos hc] at hs
      cases hq : prefixOf s with
      | none => rw [hq] at hs; cases hs
      | some q =>
        obtain ⟨a, n⟩ := q
        rw [hq] at hs
        by_cases hok : ownOk (c.own ++ [((a : Int), (n : Int))]) = true
        · simp only [if_pos hok] at hs
          injection hs with hs; injection hs with h1 _; subst h1
          have ha := (prefixOf_some s a n hq).2.1
          refine ⟨⟨h.addrs.1, fun p hp => ?_⟩, ownOk_le hok, h.ports, h.hello⟩
          rcases List.mem_append.1 hp with hp | hp
          · exact h.addrs.2 p hp
          · have : p = ((a : Int), (n : Int)) := by simpa using hp
            subst this; exact ⟨Int.natCast_nonneg a, by show (a : Int) < 4294967296; omega⟩
        · simp only [if_neg hok] at hs; cases hs
    · rw [if_neg hc] at hs; cases hs
  rw [if_neg e2] at hs
  by_cases e3 : w = wPort
  · rw [if_pos e3] at hs
    by_cases hc : st = 3 ∧ hasAny c.own c.addr = true ∧ c.ports.length + 1 ≤ 8
    · rw [if_pos hc] at hs
      obtain ⟨p, _, hn⟩ := Option.map_eq_some_iff.1 hs
      injection hn with h1 _; subst h1
      have := hc.2.2
      exact ⟨h.addrs, h.own, by simp; omega, h.hello⟩
    · rw [if_neg hc] at hs; cases hs
  rw [if_neg e3] at hs
  by_cases e4 : w = wHello
  · rw [if_pos e4] at hs
    by_cases hc : st = 3 ∧ hasAny c.own c.addr = true
    · rw [if_pos hc] at hs
      obtain ⟨n, hn0, hn⟩ := Option.map_eq_some_iff.1 hs
      injection hn with h1 _; subst h1
      obtain ⟨_, k1, k2⟩ := numIn_some hn0
      exact ⟨h.addrs, h.own, h.ports, by simp only; omega, by simp only; omega⟩
    · rw [if_neg hc] at hs; cases hs
  rw [if_neg e4] at hs
  by_cases e5 : w = wDead
  · rw [if_pos e5] at hs
    by_cases hc : st = 4
    · rw [if_pos hc] at hs
      obtain ⟨n, _, hn⟩ := Option.map_eq_some_iff.1 hs
      injection hn with h1 _; subst h1; exact ⟨h.addrs, h.own, h.ports, h.hello⟩
    · rw [if_neg hc] at hs; cases hs
  rw [if_neg e5] at hs
  by_cases e6 : w = wAgain
  · rw [if_pos e6] at hs
    by_cases hc : st = 5
    · rw [if_pos hc] at hs
      obtain ⟨n, _, hn⟩ := Option.map_eq_some_iff.1 hs
      injection hn with h1 _; subst h1; exact ⟨h.addrs, h.own, h.ports, h.hello⟩
    · rw [if_neg hc] at hs; cases hs
  rw [if_neg e6] at hs
  by_cases e7 : w = wRoom
  · rw [if_pos e7] at hs
    by_cases hc : st = 6
    · rw [if_pos hc] at hs
      obtain ⟨n, _, hn⟩ := Option.map_eq_some_iff.1 hs
      injection hn with h1 _; subst h1; exact ⟨h.addrs, h.own, h.ports, h.hello⟩
    · rw [if_neg hc] at hs; cases hs
  rw [if_neg e7] at hs
  by_cases e8 : w = wQueue
  · rw [if_pos e8] at hs
    by_cases hc : st = 7
    · rw [if_pos hc] at hs
      obtain ⟨n, _, hn⟩ := Option.map_eq_some_iff.1 hs
      injection hn with h1 _; subst h1; exact ⟨h.addrs, h.own, h.ports, h.hello⟩
    · rw [if_neg hc] at hs; cases hs
  rw [if_neg e8] at hs
  by_cases e9 : w = wTokens
  · rw [if_pos e9] at hs
    by_cases hc : st = 8
    · rw [if_pos hc] at hs
      obtain ⟨n, _, hn⟩ := Option.map_eq_some_iff.1 hs
      injection hn with h1 _; subst h1; exact ⟨h.addrs, h.own, h.ports, h.hello⟩
    · rw [if_neg hc] at hs; cases hs
  rw [if_neg e9] at hs
  by_cases e10 : w = wRefill
  · rw [if_pos e10] at hs
    by_cases hc : st = 9
    · rw [if_pos hc] at hs
      obtain ⟨n, _, hn⟩ := Option.map_eq_some_iff.1 hs
      injection hn with h1 _; subst h1; exact ⟨h.addrs, h.own, h.ports, h.hello⟩
    · rw [if_neg hc] at hs; cases hs
  rw [if_neg e10] at hs
  cases hs
/-- The code's loop over a text: what is left of it, one line at a time. -/
theorem runC_nil (c : Cfg) (st n : Nat) : runC (splitOn 10 []) c st n = if st = 10 then (c, 0, 0) else ({}, n, 4) := by
  show runC [[]] c st n = _
  unfold runC
  by_cases h : st = 10
  · rw [if_pos ⟨rfl, h⟩, if_pos h]
  · rw [if_neg (fun k => h k.2), if_neg h]
theorem runC_open (l : List UInt8) (c : Cfg) (st n : Nat) (hl : l ≠ []) (h : (10 : UInt8) ∉ l) : runC (splitOn 10 l) c st n = ({}, n, 4) := by
  rw [splitOn_none 10 l h]
  unfold runC
  rw [if_neg (fun k => hl k.1)]
theorem runC_cut (l : List UInt8) (c : Cfg) (st n : Nat) (h : (10 : UInt8) ∈ l) : runC (splitOn 10 l) c st n =
    if 32 ∈ cutA 10 l then (match stepC c st (cutA 32 (cutA 10 l)) (cutB 32 (cutA 10 l)) with
      | some (c', st') => runC (splitOn 10 (cutB 10 l)) c' st' (n + 1)
      | none => ({}, n, 4)) else ({}, n, 4) := by
  rw [(splitOn_cut 10 l h).1]
  cases hs : splitOn 10 (cutB 10 l) with
  | nil => exact absurd hs (splitOn_ne _ _)
  | cons x r =>
    conv => lhs; unfold runC
    rfl
end Go.Proofs.YtfbangojgjcbcaaGreatDoor.Pl
namespace Go.Proofs.YtfbangojgjcbcaaGreatDoor.Pl
open Go.Lib (decDigits itoa join)
def In64 (n : Int) : Prop := -9223372036854775808 ≤ n ∧ n ≤ 9223372036854775807
/-- The code's reading of a number; of none 0. -/
def numC (s : List UInt8) : Int := match Lib.atoiAll s with
  | .ok v => v
  | _ => 0
theorem numC_itoa {n : Int} (h : In64 n) : numC (itoa n) = n := by unfold numC; rw [atoi_itoa n h.1 h.2]
theorem numC_in (s : List UInt8) : In64 (numC s) := by
  unfold numC
  cases h : Lib.atoiAll s with
  | ok v => exact atoi_bd h
  | _ => exact ⟨by decide, by decide⟩
theorem dec_long (k : Nat) : ∀ n : Nat, 1 ≤ k → n < 10 ^ k → (decDigits n).length ≤ k := by
  induction k with
  | zero => intro n h _; omega
  | succ k ih =>
    intro n _ h
    by_cases h10 : 10 ≤ n
    · rw [dec_big n h10, List.length_append]
      have hk : 1 ≤ k := by
        rcases Nat.eq_zero_or_pos k with rfl | hk
        · simp at h; omega
        · exact hk
      have := ih (n / 10) hk (by rw [Nat.pow_succ] at h; omega)
      simp; omega
    · rw [decDigits, dif_pos (by omega)]; simp
theorem itoa_no' (n : Int) (c : UInt8) (hc : isDig c = false) (h : ¬ c = 45) : c ∉ itoa n := by
  unfold itoa
  split
  · intro hm
    rcases List.mem_cons.1 hm with rfl | hm
    · exact h rfl
    · exact dec_no c hc _ hm
  · exact dec_no c hc _
theorem itoa_len20 {n : Int} (h : In64 n) : (itoa n).length ≤ 20 := by
  obtain ⟨h0, h1⟩ := h
  unfold itoa
  split
  · have := dec_long 19 n.natAbs (by decide) (by omega)
    simp; omega
  · have := dec_long 19 n.toNat (by decide) (by omega)
    omega
/-! ### Links -/
abbrev Lk := Int × Int × Int × Int
def wLink : List UInt8 := [108, 105, 110, 107]
def In4 (l : Lk) : Prop := In64 l.1 ∧ In64 l.2.1 ∧ In64 l.2.2.1 ∧ In64 l.2.2.2
def linkText (l : Lk) : List UInt8 := wLink ++ 32 :: (itoa l.1 ++ 32 :: (itoa l.2.1 ++ 32 :: (itoa l.2.2.1 ++ 32 :: itoa l.2.2.2)))
def linkW (f : List UInt8 → Int) (s : List UInt8) : Option Lk := match splitOn 32 s with
  | [_, x, y, z, t] => if linkText (f x, f y, f z, f t) = s then some (f x, f y, f z, f t) else none
  | _ => none
theorem itoa_no32 (n : Int) : (32 : UInt8) ∉ itoa n := itoa_no' n 32 (by decide) (by decide)
theorem linkText_split (l : Lk) : splitOn 32 (linkText l) = [wLink, itoa l.1, itoa l.2.1, itoa l.2.2.1, itoa l.2.2.2] := by
  unfold linkText
  rw [splitOn_app 32 _ _ (by decide), splitOn_app 32 _ _ (itoa_no32 _), splitOn_app 32 _ _ (itoa_no32 _), splitOn_app 32 _ _ (itoa_no32 _), splitOn_none 32 _ (itoa_no32 _)]
theorem linkW_text {f : List UInt8 → Int} (hf : ∀ n, In64 n → f (itoa n) = n) {l : Lk} (h : In4 l) : linkW f (linkText l) = some l := by
  obtain ⟨a, b, c, d⟩ := l
  obtain ⟨h1, h2, h3, h4⟩ := h
  unfold linkW
  rw [linkText_split]
  simp only at h1 h2 h3 h4 ⊢
  rw [hf a h1, hf b h2, hf c h3, hf d h4, if_pos rfl]
theorem linkW_some {f : List UInt8 → Int} (hf : ∀ s, In64 (f s)) {s : List UInt8} {l : Lk} (h : linkW f s = some l) : linkText l = s ∧ In4 l := by
  unfold linkW at h
  split at h
  · split at h
    · rename_i he
      injection h with h
      subst h
      exact ⟨he, hf _, hf _, hf _, hf _⟩
    · cases h
  · cases h
def linkC (s : List UInt8) : Option Lk := linkW numC s
theorem linkC_text {l : Lk} (h : In4 l) : linkC (linkText l) = some l := linkW_text (fun _ hn => numC_itoa hn) h
theorem linkText_len {l : Lk} (h : In4 l) : (linkText l).length ≤ 100 := by
  obtain ⟨h1, h2, h3, h4⟩ := h
  have := itoa_len20 h1
  have := itoa_len20 h2
  have := itoa_len20 h3
  have := itoa_len20 h4
  unfold linkText wLink
  simp; omega
end Go.Proofs.YtfbangojgjcbcaaGreatDoor.Pl
namespace Go.Proofs.YtfbangojgjcbcaaGreatDoor.Pl
def digitsB : List UInt8 := [48, 49, 50, 51, 52, 53, 54, 55, 56, 57, 97, 98, 99, 100, 101, 102]
def hx (n : Nat) : UInt8 := digitsB.getD n 0
def hex1 (b : UInt8) : List UInt8 := [hx (b.toNat / 16), hx (b.toNat % 16)]
def hexText (l : List UInt8) : List UInt8 := l.flatMap hex1
def dig (b : UInt8) : Option Nat :=
  if 48 ≤ b.toNat ∧ b.toNat ≤ 57 then some (b.toNat - 48) else if 97 ≤ b.toNat ∧ b.toNat ≤ 102 then some (b.toNat - 87) else none
def unhex : List UInt8 → Option (List UInt8)
  | [] => some []
  | [_] => none
  | a :: b :: t => match dig a, dig b with
    | some x, some y => (unhex t).map fun r => UInt8.ofNat (16 * x + y) :: r
    | _, _ => none
theorem hexText_length (l : List UInt8) : (hexText l).length = 2 * l.length := by
  induction l with
  | nil => rfl
  | cons a t ih => simp only [hexText, List.flatMap_cons, List.length_append, List.length_cons] at ih ⊢; rw [ih]; simp [hex1]; omega
theorem hexText_take (l : List UInt8) (j : Nat) (h : j < l.length) : hexText (l.take (j + 1)) = hexText (l.take j) ++ hex1 l[j] := by
  unfold hexText; rw [List.take_succ_eq_append_getElem h, List.flatMap_append, List.flatMap_cons, List.flatMap_nil, List.append_nil]
theorem dig_hx (n : Nat) (h : n < 16) : dig (hx n) = some n := by
  have : ∀ m < 16, dig (hx m) = some m := by decide
  exact this n h
theorem dig_lt {b : UInt8} {x : Nat} (h : dig b = some x) : x < 16 := by
  unfold dig at h
  split at h
  · injection h with h; omega
  · split at h
    · injection h with h; omega
    · cases h
theorem unhex_hex (l : List UInt8) : unhex (hexText l) = some l := by
  induction l with
  | nil => rfl
  | cons a t ih =>
    have ha := a.toNat_lt
    show unhex (hx (a.toNat / 16) :: hx (a.toNat % 16) :: hexText t) = _
    rw [unhex, dig_hx _ (by omega), dig_hx _ (by omega)]
    show (unhex (hexText t)).map _ = _
    rw [ih]
    simp only [Option.map_some]
    rw [show 16 * (a.toNat / 16) + a.toNat % 16 = a.toNat from by omega]
    simp
theorem unhex_odd : ∀ l : List UInt8, l.length % 2 = 1 → unhex l = none
  | [], h => by simp at h
  | [_], _ => rfl
  | a :: b :: t, h => by
    have ih := unhex_odd t (by simp at h; omega)
    rw [unhex, ih]
    cases dig a <;> cases dig b <;> rfl
theorem indexByte_dig (c : UInt8) : Lib.indexByte digitsB c = match dig c with | some n => (n : Int) | none => -1 := by
  have h : ∀ n : Fin 256, Lib.indexByte digitsB (UInt8.ofNat n.1) = match dig (UInt8.ofNat n.1) with | some n => (n : Int) | none => -1 := by decide +kernel
  have := h ⟨c.toNat, c.toNat_lt⟩
  simpa using this
/-- One round. -/
theorem unhex_step (l : List UInt8) (j : Nat) (h : j + 1 < l.length) :
    unhex (l.drop j) = match dig l[j], dig l[j + 1] with
      | some x, some y => (unhex (l.drop (j + 2))).map fun r => UInt8.ofNat (16 * x + y) :: r
      | _, _ => none := by
  rw [List.drop_eq_getElem_cons (show j < l.length by omega), List.drop_eq_getElem_cons h, unhex]
end Go.Proofs.YtfbangojgjcbcaaGreatDoor.Pl
namespace Go.Proofs.YtfbangojgjcbcaaGreatDoor.Pl
open Go.Lib (decDigits itoa join)
structure ActP where
  kind : Int
  node : Int := 0
  port : Int := 0
  cost : Int := 0
  n : Int := 0
  up : Bool := false
  by_ : UInt8 := 0
  unread : Bool := false
  bytes : List UInt8 := []
  deriving DecidableEq
/-- What a kind names. -/
inductive Pt where
  | n | p | c | i | u | b | r | x
  deriving DecidableEq
def nameA : Nat → List UInt8
  | 1 => [116, 105, 99, 107]
  | 2 => [104, 101, 97, 114]
  | 3 => [108, 111, 115, 101]
  | 4 => [100, 111, 117, 98, 108, 101]
  | 5 => [99, 111, 115, 116]
  | 6 => [108, 105, 110, 107]
  | 7 => [99, 114, 97, 115, 104]
  | 8 => [115, 116, 97, 114, 116]
  | 9 => [112, 97, 99, 107, 101, 116]
  | _ => []
def partsA : Nat → List Pt
  | 1 => [.n]
  | 2 => [.i]
  | 3 => [.i]
  | 4 => [.i]
  | 5 => [.n, .p, .c]
  | 6 => [.i, .u]
  | 7 => [.n]
  | 8 => [.n, .i, .b, .r]
  | 9 => [.n, .x]
  | _ => []
def wUp : List UInt8 := [117, 112]
def wDown : List UInt8 := [100, 111, 119, 110]
def wUnread : List UInt8 := [117, 110, 114, 101, 97, 100]
def wRead : List UInt8 := [114, 101, 97, 100]
def hexD (l : List UInt8) : List UInt8 := if l = [] then [45] else hexText l
def unhexD (l : List UInt8) : List UInt8 := (unhex l).getD []
def told (a : ActP) : Pt → List UInt8
  | .n => itoa a.node
  | .p => itoa a.port
  | .c => itoa a.cost
  | .i => itoa a.n
  | .b => itoa (a.by_.toNat : Int)
  | .u => if a.up then wUp else wDown
  | .r => if a.unread then wUnread else wRead
  | .x => hexD a.bytes
def actWords (a : ActP) : List (List UInt8) := nameA a.kind.toNat :: (partsA a.kind.toNat).map (told a)
def actText (a : ActP) : List UInt8 := join (actWords a) [32]
/-- What its kind does not name is nothing. -/
def bareOk (a : ActP) : Bool :=
  let p := partsA a.kind.toNat
  (decide (a.node = 0) || p.contains .n) && (decide (a.port = 0) || p.contains .p) && (decide (a.cost = 0) || p.contains .c) && (decide (a.n = 0) || p.contains .i) &&
    (!a.up || p.contains .u) && (decide (a.by_ = 0) || p.contains .b) && (!a.unread || p.contains .r) && (decide (a.bytes = []) || p.contains .x)
def mayA (a : ActP) : Bool := decide (1 ≤ a.kind) && decide (a.kind ≤ 9) && bareOk a && decide (a.bytes.length ≤ 2048)
def InA (a : ActP) : Prop := In64 a.kind ∧ In64 a.node ∧ In64 a.port ∧ In64 a.cost ∧ In64 a.n
def byteI (n : Int) : UInt8 := UInt8.ofNat (n % 256).toNat
theorem byteI_of (b : UInt8) : byteI (b.toNat : Int) = b := by
  unfold byteI
  have := b.toNat_lt
  rw [show ((b.toNat : Int) % 256).toNat = b.toNat by omega]
  simp
def wd (w : List (List UInt8)) (i : Nat) : List UInt8 := w.getD i []
def guessA (f : List UInt8 → Int) (k : Nat) (w : List (List UInt8)) : ActP := match k with
  | 1 => { kind := 1, node := f (wd w 1) }
  | 2 => { kind := 2, n := f (wd w 1) }
  | 3 => { kind := 3, n := f (wd w 1) }
  | 4 => { kind := 4, n := f (wd w 1) }
  | 5 => { kind := 5, node := f (wd w 1), port := f (wd w 2), cost := f (wd w 3) }
  | 6 => { kind := 6, n := f (wd w 1), up := decide (wd w 2 = wUp) }
  | 7 => { kind := 7, node := f (wd w 1) }
  | 8 => { kind := 8, node := f (wd w 1), n := f (wd w 2), by_ := byteI (f (wd w 3)), unread := decide (wd w 4 = wUnread) }
  | 9 => { kind := 9, node := f (wd w 1), bytes := unhexD (wd w 2) }
  | k => { kind := (k : Int) }
def kindA (w : List UInt8) : Option Nat :=
  if w = nameA 1 then some 1 else if w = nameA 2 then some 2 else if w = nameA 3 then some 3 else if w = nameA 4 then some 4 else if w = nameA 5 then some 5 else
  if w = nameA 6 then some 6 else if w = nameA 7 then some 7 else if w = nameA 8 then some 8 else if w = nameA 9 then some 9 else none
def isA (a : ActP) (s : List UInt8) : Bool := mayA a && decide (actText a = s)
def actW (f : List UInt8 → Int) (s : List UInt8) : Option ActP := match kindA (wd (splitOn 32 s) 0) with
  | some k => if isA (guessA f k (splitOn 32 s)) s then some (guessA f k (splitOn 32 s)) else none
  | none => none
def actC (s : List UInt8) : Option ActP := actW numC s
theorem join_two (x y : List UInt8) (r : List (List UInt8)) (c : UInt8) : join (x :: y :: r) [c] = x ++ c :: join (y :: r) [c] := by simp [join]
theorem split_of_join (c : UInt8) : ∀ (ws : List (List UInt8)), ws ≠ [] → (∀ w ∈ ws, c ∉ w) → splitOn c (join ws [c]) = ws
  | [], h, _ => absurd rfl h
  | [x], _, h => by
    have : join [x] [c] = x := by simp [join]
    rw [this, splitOn_none c x (h x (by simp))]
  | x :: y :: r, _, h => by
    rw [join_two, splitOn_app c _ _ (h x (by simp)), split_of_join c (y :: r) (by simp) (fun w hw => h w (List.mem_cons_of_mem _ hw))]
theorem hx_no (n : Nat) (h : n < 16) (c : UInt8) (hc : dig c = none) : hx n ≠ c := by
  rintro rfl
  rw [dig_hx n h] at hc
  cases hc
theorem hex_no (l : List UInt8) (c : UInt8) (hc : dig c = none) : c ∉ hexText l := by
  unfold hexText
  intro h
  obtain ⟨b, _, hb⟩ := List.mem_flatMap.1 h
  have := b.toNat_lt
  unfold hex1 at hb
  simp only [List.mem_cons, List.not_mem_nil, or_false] at hb
  rcases hb with hb | hb
  · exact hx_no _ (by omega) c hc hb.symm
  · exact hx_no _ (by omega) c hc hb.symm
theorem hexD_no (l : List UInt8) : (32 : UInt8) ∉ hexD l := by
  unfold hexD
  split
  · decide
  · exact hex_no l 32 (by decide)
theorem unhexD_hexD (l : List UInt8) : unhexD (hexD l) = l := by
  unfold hexD unhexD
  split
  · rename_i h; rw [h]; rfl
  · rw [unhex_hex]; rfl
theorem told_no (a : ActP) (q : Pt) : (32 : UInt8) ∉ told a q := by
  cases q with
  | n => exact itoa_no32 _
  | p => exact itoa_no32 _
  | c => exact itoa_no32 _
  | i => exact itoa_no32 _
  | u => show (32 : UInt8) ∉ (if a.up then wUp else wDown); cases a.up <;> decide
  | b => exact itoa_no32 _
  | r => show (32 : UInt8) ∉ (if a.unread then wUnread else wRead); cases a.unread <;> decide
  | x => exact hexD_no _
theorem name_no : ∀ k : Nat, (32 : UInt8) ∉ nameA k
  | 0 | 1 | 2 | 3 | 4 | 5 | 6 | 7 | 8 | 9 => by decide
  | _ + 10 => by simp [nameA]
theorem actText_split (a : ActP) : splitOn 32 (actText a) = actWords a := by
  unfold actText
  refine split_of_join 32 _ (by simp [actWords]) fun w hw => ?_
  unfold actWords at hw
  rcases List.mem_cons.1 hw with rfl | hw
  · exact name_no _
  · obtain ⟨pt, _, rfl⟩ := List.mem_map.1 hw
    exact told_no a pt
theorem kind_cases {a : ActP} (h : mayA a = true) : a.kind = 1 ∨ a.kind = 2 ∨ a.kind = 3 ∨ a.kind = 4 ∨ a.kind = 5 ∨ a.kind = 6 ∨ a.kind = 7 ∨ a.kind = 8 ∨ a.kind = 9 := by
  unfold mayA at h
  simp only [Bool.and_eq_true, decide_eq_true_eq] at h
  omega
theorem guess_kind (f : List UInt8 → Int) {k : Nat} (w : List (List UInt8)) : (guessA f k w).kind = (k : Int) := by
  unfold guessA
  split <;> rfl
theorem guess_in {f : List UInt8 → Int} (hf : ∀ s, In64 (f s)) (k : Nat) (hk : k ≤ 9) (w : List (List UInt8)) : InA (guessA f k w) := by
  have h0 : In64 0 := ⟨by decide, by decide⟩
  have hk' : In64 (guessA f k w).kind := by rw [guess_kind]; exact ⟨by omega, by omega⟩
  refine ⟨hk', ?_⟩
  clear hk'
  unfold guessA
  split <;> exact ⟨by first | exact hf _ | exact h0, by first | exact hf _ | exact h0, by first | exact hf _ | exact h0, by first | exact hf _ | exact h0⟩
theorem kindA_le {w : List UInt8} {k : Nat} (h : kindA w = some k) : 1 ≤ k ∧ k ≤ 9 ∧ w = nameA k := by
  unfold kindA at h
  repeat (split at h; (rename_i he; injection h with h; subst h; exact ⟨by decide, by decide, he⟩))
  cases h
theorem guess_self {f : List UInt8 → Int} (hf : ∀ n, In64 n → f (itoa n) = n) {a : ActP} (h : mayA a = true) (hi : InA a) : guessA f a.kind.toNat (actWords a) = a := by
  have hk := kind_cases h
  unfold mayA at h
  simp only [Bool.and_eq_true] at h
  obtain ⟨⟨⟨_, _⟩, hb⟩, _⟩ := h
  obtain ⟨k, node, port, cost, n, up, by_, unread, bytes⟩ := a
  obtain ⟨_, h1, h2, h3, h4⟩ := hi
  have hy : f (itoa (by_.toNat : Int)) = (by_.toNat : Int) := hf _ ⟨by omega, by have := by_.toNat_lt; omega⟩
  unfold bareOk at hb
  simp only at hk h1 h2 h3 h4 hb
  have e1 := hf _ h1
  have e2 := hf _ h2
  have e3 := hf _ h3
  have e4 := hf _ h4
  rcases hk with rfl | rfl | rfl | rfl | rfl | rfl | rfl | rfl | rfl <;>
    simp [partsA] at hb <;>
    simp_all [actWords, partsA, guessA, wd, told, unhexD_hexD, byteI_of, wUp, wDown, wUnread, wRead]
  all_goals (first | (cases up <;> simp) | (cases unread <;> simp))
theorem kind_self {a : ActP} (h : mayA a = true) : kindA (wd (actWords a) 0) = some a.kind.toNat := by
  have hk := kind_cases h
  unfold actWords wd
  simp only [List.getD_cons_zero]
  rcases hk with hk | hk | hk | hk | hk | hk | hk | hk | hk <;> rw [hk] <;> decide
theorem actW_text {f : List UInt8 → Int} (hf : ∀ n, In64 n → f (itoa n) = n) {a : ActP} (h : mayA a = true) (hi : InA a) : actW f (actText a) = some a := by
  unfold actW
  rw [actText_split, kind_self h]
  simp only
  rw [guess_self hf h hi]
  unfold isA
  rw [h]
  simp
theorem actW_some {f : List UInt8 → Int} (hf : ∀ s, In64 (f s)) {s : List UInt8} {a : ActP} (h : actW f s = some a) : mayA a = true ∧ actText a = s ∧ InA a := by
  unfold actW at h
  cases hk : kindA (wd (splitOn 32 s) 0) with
  | none => rw [hk] at h; cases h
  | some k =>
    rw [hk] at h
    simp only at h
    split at h
    · rename_i hc
      injection h with h
      unfold isA at hc
      simp only [Bool.and_eq_true, decide_eq_true_eq] at hc
      rw [h] at hc
      refine ⟨hc.1, hc.2, ?_⟩
      rw [← h]
      exact guess_in hf k (kindA_le hk).2.1 _
    · cases h
theorem actC_text {a : ActP} (h : mayA a = true) (hi : InA a) : actC (actText a) = some a := actW_text (fun _ hn => numC_itoa hn) h hi
end Go.Proofs.YtfbangojgjcbcaaGreatDoor.Pl
namespace Go.Proofs.YtfbangojgjcbcaaGreatDoor
open Go.RowKit Pl
theorem quiet_sym {P : Program} {f : FuncId} {args : Array Value} {w : World} {v : Value} (h : Calls P f args w fun e w' => e = .returned v ∧ w = w') : Calls P f args w fun e w' => e = .returned v ∧ w' = w :=
  h.mono fun _ _ ⟨a, b⟩ => ⟨a, b.symm⟩
theorem mask_num (n : Int) (h0 : 0 ≤ n) (h1 : n ≤ 32) : IntKind.u64.wrap (18446744073709551615 * 2 ^ (32 - n).toNat) % 4294967296 = 4294967296 - blk n := by
  have hle := blk_le n
  have hpos := blk_pos n
  have e : ((2 : Int) ^ (32 - n).toNat) = blk n := by
    unfold blk; rw [show (32 - n).toNat = 32 - n.toNat by omega]; simp
  rw [e, IntKind.wrap_u64]
  omega
set_option maxHeartbeats 400000 in
theorem mask_any (n : Int) (w : World) (h0 : 0 ≤ n) (h1 : n ≤ 32) :
    Calls Tryz.prog 135 #[.int .i64 n] w fun e w' => e = .returned (.int .u32 (4294967296 - blk n)) ∧ w = w' := by
  have H := Lib.hid (mask_num n h0 h1)
  go_enter Tryz.func135, Tryz.ntmps135
  go_wp2
  go_ret
  exact ⟨ret_int H.out, rfl⟩
theorem andNot_mask (a n : Int) (ha : 0 ≤ a) (ha' : a < 4294967296) : bits .andNot .u32 a (4294967296 - blk n) = a % blk n := by
  have hle := blk_le n
  have hpos := blk_pos n
  rw [u32_andNot a _ ha ha' (by omega) (by omega)]
  obtain ⟨A, rfl⟩ := Int.eq_ofNat_of_zero_le ha
  have e : blk n = ((2 ^ (32 - n.toNat) : Nat) : Int) := rfl
  rw [e]
  have hb := Nat.pow_pos (n := 32 - n.toNat) (show 0 < 2 by decide)
  rw [e] at hle hpos
  rw [show (4294967295 - (4294967296 - ((2 ^ (32 - n.toNat) : Nat) : Int)).toNat) = 2 ^ (32 - n.toNat) - 1 by omega, Int.toNat_natCast, and_low]
  exact Int.natCast_emod _ _
theorem and_maskI (a n : Int) (ha : 0 ≤ a) (ha' : a < 4294967296) : bits .and .u32 a (4294967296 - blk n) = firstP a n := by
  have hle := blk_le n
  have hpos := blk_pos n
  rw [u32_and a _ ha ha' (by omega) (by omega)]
  obtain ⟨A, rfl⟩ := Int.eq_ofNat_of_zero_le ha
  have e : blk n = ((2 ^ (32 - n.toNat) : Nat) : Int) := rfl
  unfold firstP
  rw [e]
  rw [e] at hle hpos
  rw [show (4294967296 - ((2 ^ (32 - n.toNat) : Nat) : Int)).toNat = 4294967296 - 2 ^ (32 - n.toNat) by omega, Int.toNat_natCast, and_mask A _ (by omega) (by omega)]
  simp
/-- An address. -/
def IsAddr (a : Int) : Prop := 0 ≤ a ∧ a < 4294967296
theorem mayP_out (a n : Int) (h : n < 0 ∨ 32 < n) : mayP a n = false := by
  unfold mayP; rcases h with h | h
  · simp [show ¬ 0 ≤ n by omega]
  · simp [show ¬ n ≤ 32 by omega]
theorem mayP_in (a n : Int) (h0 : 0 ≤ n) (h1 : n ≤ 32) : mayP a n = (a % blk n == 0) := by
  unfold mayP; simp [h0, h1]; rfl
set_option maxHeartbeats 400000 in
theorem may_any (a n : Int) (w : World) (ha : IsAddr a) :
    Calls Tryz.prog 134 #[.agg #[.int .u32 a, .int .i64 n]] w fun e w' => e = .returned (.bool (mayP a n)) ∧ Below w.heap.size w w' := by
  obtain ⟨ha0, ha1⟩ := ha
  by_cases h0 : 0 ≤ n
  · by_cases h1 : n ≤ 32
    · have HM := Lib.hid (mayP_in a n h0 h1)
      have hbn := andNot_mask a n ha0 ha1
      go_enter Tryz.func134, Tryz.ntmps134
      go_wp2
      go_quiet ((go_at_call 135; exact Calls.quiet_of_same (quiet_sym (mask_any n _ h0 h1))))
      go_wp2
      go_ret
      exact ⟨by rw [HM.out]; rfl, Go.below_drewN ((Below.refl _ _).alloc (Nat.le_refl _) _) _⟩
    · have HM := Lib.hid (mayP_out a n (by omega))
      have d : decide (n ≤ 32) = false := by simpa using h1
      go_enter Tryz.func134, Tryz.ntmps134
      go_wp2
      go_quiet (fail)
      go_wp2
      go_ret
      exact ⟨by rw [HM.out]; rfl, Go.below_drewN ((Below.refl _ _).alloc (Nat.le_refl _) _) _⟩
  · have HM := Lib.hid (mayP_out a n (by omega))
    have d : decide (0 ≤ n) = false := by simpa using h0
    go_enter Tryz.func134, Tryz.ntmps134
    go_wp2
    go_quiet (fail)
    go_wp2
    go_ret
    exact ⟨by rw [HM.out]; rfl, Go.below_drewN ((Below.refl _ _).alloc (Nat.le_refl _) _) _⟩
theorem may_true (a n : Int) (w : World) (ha : IsAddr a) (h : mayP a n = true) :
    Calls Tryz.prog 134 #[.agg #[.int .u32 a, .int .i64 n]] w fun e w' => e = .returned (.bool true) ∧ Below w.heap.size w w' :=
  (may_any a n w ha).mono fun _ _ ⟨h1, h2⟩ => ⟨by rw [h1, h], h2⟩
theorem may_false (a n : Int) (w : World) (ha : IsAddr a) (h : mayP a n = false) :
    Calls Tryz.prog 134 #[.agg #[.int .u32 a, .int .i64 n]] w fun e w' => e = .returned (.bool false) ∧ Below w.heap.size w w' :=
  (may_any a n w ha).mono fun _ _ ⟨h1, h2⟩ => ⟨by rw [h1, h], h2⟩
theorem mayP_len {a n : Int} (h : mayP a n = true) : 0 ≤ n ∧ n ≤ 32 := by
  unfold mayP at h; simp at h; exact ⟨h.1, h.2.1⟩
set_option maxHeartbeats 400000 in
theorem has_any (a n x : Int) (w : World) (ha : IsAddr a) (hx : IsAddr x) :
    Calls Tryz.prog 72 #[.agg #[.int .u32 a, .int .i64 n], .int .u32 x] w fun e w' => e = .returned (.bool (hasP a n x)) ∧ Below w.heap.size w w' := by
  by_cases hm : mayP a n = true
  · obtain ⟨h0, h1⟩ := mayP_len hm
    have HH : Hid (hasP a n x = (firstP x n == a)) := by unfold hasP; rw [hm]; exact Lib.hid (by simp; rfl)
    have hfm := and_maskI x n hx.1 hx.2
    have HM := Lib.hid hm; clear hm
    go_enter Tryz.func72, Tryz.ntmps72
    go_wp2
    refine wp_region_ext (by kernel_rfl) (by kernel_rfl) ?_
    repeat (go_big_quiet_step (first | (go_at_call 134; exact Ext.call (may_true a n _ ha HM.out)) | (go_at_call 135; exact Ext.callq (mask_any n _ h0 h1))))
    refine wpQuiet_nil ?_
    rintro _ ⟨y, rfl⟩
    go_wp2
    go_ret
    exact ⟨by rw [HH.out]; rfl, (by repeat (first | exact Below.refl _ _ | apply Below.drew | apply Go.below_drewN | apply bel_alloc | apply Ext.lift | apply bel_set0 | apply bel_set))⟩
  · have HH : Hid (hasP a n x = false) := by unfold hasP; simp only [Bool.not_eq_true] at hm; rw [hm]; exact Lib.hid rfl
    have HM := Lib.hid (show mayP a n = false by simpa using hm); clear hm
    go_enter Tryz.func72, Tryz.ntmps72
    go_wp2
    refine wp_region_ext (by kernel_rfl) (by kernel_rfl) ?_
    repeat (go_big_quiet_step (first | (go_at_call 134; exact Ext.call (may_false a n _ ha HM.out))))
    refine wpQuiet_nil ?_
    rintro _ ⟨y, rfl⟩
    go_wp2
    go_ret
    exact ⟨by rw [HH.out]; rfl, (by repeat (first | exact Below.refl _ _ | apply Below.drew | apply Go.below_drewN | apply bel_alloc | apply Ext.lift | apply bel_set0 | apply bel_set))⟩
end Go.Proofs.YtfbangojgjcbcaaGreatDoor
namespace Go.Proofs.YtfbangojgjcbcaaGreatDoor
open Go.RowKit Pl
end Go.Proofs.YtfbangojgjcbcaaGreatDoor
