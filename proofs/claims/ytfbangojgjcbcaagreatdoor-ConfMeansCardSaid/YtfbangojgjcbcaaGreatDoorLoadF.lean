/- A region that draws its order: a head whose operations are quiet in a class of worlds, then a tail in one forced order. The library's law for one world (a still head), stated and proved for a class. -/
/- A region that draws its order: a head whose operations are quiet in a class of worlds, then one operation that all others wait for (a call that writes), then operations that are quiet in a second class. -/
/- A region that draws its order: first some operations in one forced order, then a head that is quiet in a class of worlds, then a tail in one forced order. -/
/- A region that draws its order: a first operation that yields its value in whatever world and may come up at any time, a head whose operations are quiet in a class of worlds, then a tail in one forced order. -/
/- A region that draws its order: a first operation that reads what the class's worlds hold and may come up at any time ahead of the second of the tail, a head whose operations are quiet in the class, a tail in one forced order whose first operation keeps the class. -/
import Derived.Test.YtfbangojgjcbcaaGreatDoorBase
import Derived.StillTail
import Derived.OrdersHeld
namespace Go.Proofs.YtfbangojgjcbcaaGreatDoor
open Go.RowKit Pl
section
variable {P : Program} {ops : Array Oper} {md : Region.Mode} {C : World → Prop}

def headQ (P : Program) (md : Region.Mode) (ops : Array Oper) (C : World → Prop) (n : Nat) (L : Array Bool → Act → Prop) : Nat → Array Bool → Act → Prop
  | 0, listed, a => L listed a
  | f + 1, listed, a =>
    Region.ready md ops listed ≠ [] ∧ ∀ i ∈ Region.ready md ops listed, i < n ∧ qOp P ops C i (headQ P md ops C n L f (listed.setIfInBounds i true)) a

theorem wpAny_of_headQ {n g : Nat} {L : Array Bool → Act → Prop} {Q' : Exit → Act → World → Prop} (hL : ∀ listed a w, C w → L listed a → wpAny P md ops Q' g listed a w) :
    ∀ (f : Nat) (listed : Array Bool) (a : Act) (w : World), C w → headQ P md ops C n L f listed a → wpAny P md ops Q' (f + g) listed a w
  | 0, listed, a, w, hw, h => by rw [Nat.zero_add]; exact hL _ _ _ hw h
  | f + 1, listed, a, w, hw, h => by
    rw [show f + 1 + g = (f + g) + 1 by omega]
    exact ⟨fun h0 => absurd h0 h.1, fun i hi => wpOp_of_qOp hw (fun a' w' hw' h' => wpAny_of_headQ hL f _ a' w' hw' h') (h.2 i hi).2⟩

theorem headQ_first {n i : Nat} {oi : Oper} {v : Value} {L : Array Bool → Act → Prop} (hi : ops[i]? = some oi) (hsel : ∀ (j : Nat) (o : Oper) cs b, ops[j]? = some o → o.op ≠ .select cs b)
    (hs : Region.sinkB md ops n = true) (hc : Region.chainB md ops n = true) (hn : n < ops.size) (hin : i < n)
    (hdone : ∀ listed a, L listed a → ∀ j ∈ Region.ready md ops listed, n ≤ j) :
    ∀ (f : Nat) (listed : Array Bool) (a : Act), HeadInv md ops n listed →
      (∀ j oj, ops[j]? = some oj → j ≠ i → listed.getD j true = false → (∀ e ∈ oj.after, Region.binds md e = true → e.on ≠ i) → oi.apart ops oj = true) →
      i ∈ Region.ready md ops listed → YieldsIn P ops C oi v a →
      headQ P md ops C n L f (listed.setIfInBounds i true) (a.put oi.dst v) → headQ P md ops C n L (f + 1) listed a := by
  intro f
  induction f with
  | zero =>
    intro listed a inv _ hr hy H
    have hun := (mem_ready.1 hr).1
    refine ⟨fun h => (by rw [h] at hr; cases hr), fun j hj => ?_⟩
    have hjn : j < n := by
      rcases Nat.lt_or_ge j n with h | h
      · exact h
      · exact absurd hj (tail_waits hs hc hn inv _ i rfl hin hun j h)
    refine ⟨hjn, ?_⟩
    by_cases hji : j = i
    · subst hji; exact hy.qOp hi H
    · have := hdone _ _ H j (ready_mono hj hji)
      omega
  | succ f ih =>
    intro listed a inv hfree hr hy H
    have hun := (mem_ready.1 hr).1
    refine ⟨fun h => (by rw [h] at hr; cases hr), fun j hj => ?_⟩
    have hjn : j < n := by
      rcases Nat.lt_or_ge j n with h | h
      · exact h
      · exact absurd hj (tail_waits hs hc hn inv _ i rfl hin hun j h)
    refine ⟨hjn, ?_⟩
    by_cases hji : j = i
    · subst hji; exact hy.qOp hi H
    · have h1 := (H.2 j (ready_mono hj hji)).2
      obtain ⟨hjun, oj, hoj, hall⟩ := mem_ready.1 hj
      have hnot : ∀ e ∈ oj.after, Region.binds md e = true → e.on ≠ i := fun e he hb heq => by
        have h1 := hall e he hb
        rw [heq, getD_both hun] at h1
        cases h1
      have h2 := qOp_put hoj (hfree j oj hoj hji hjun hnot) (fun cs b => hsel i oi cs b hi) (fun cs b => hsel j oj cs b hoj) hy h1
      have hfree' : ∀ k ok, ops[k]? = some ok → k ≠ i → (listed.setIfInBounds j true).getD k true = false →
          (∀ e ∈ ok.after, Region.binds md e = true → e.on ≠ i) → oi.apart ops ok = true := fun k ok hk hki hun hno => by
        refine hfree k ok hk hki ?_ hno
        by_cases hjk : j = k
        · subst hjk; exact hjun
        · rw [getD_set_ne true hjk] at hun; exact hun
      refine qOp_mono (fun a' h3 => ih (listed.setIfInBounds j true) a' (inv.set hj hjn) hfree' (ready_mono hr (Ne.symm hji)) h3.1 ?_) h2
      rw [Array.setIfInBounds_comm _ _ hji]
      exact h3.2

theorem headQ_lex {n g : Nat} {Lq : Act → Prop} (hsel : Region.noSelect ops = true) (hs : Region.sinkB md ops n = true) (hc : Region.chainB md ops n = true) (hn : n < ops.size) :
    ∀ (l : List Oper) (k : Nat) (listed : Array Bool) (a : Act), (∀ j, j < l.length → l[j]? = ops[k + j]?) → k + l.length = n → HeadInv md ops n listed →
    Region.lexHead md ops g l.length k listed = true → wpQuiet P ops C Lq l a →
    headQ P md ops C n (fun listed' a' => Region.seqB md ops g n listed' = true ∧ Lq a') l.length listed a
  | [], k, listed, a, _, hk, _, hB, h => by
    have : k = n := by simpa using hk
    subst this
    exact ⟨by simpa [Region.lexHead] using hB, h⟩
  | o :: l, k, listed, a, hl, hk, inv, hB, h => by
    have h0 : ops[k]? = some o := by simpa using (hl 0 (by simp)).symm
    simp only [List.length_cons, Region.lexHead, Bool.and_eq_true] at hB
    obtain ⟨⟨hr, hf⟩, hB'⟩ := hB
    have hkn : k < n := by simp only [List.length_cons] at hk; omega
    have hr' : k ∈ Region.ready md ops listed := by simpa using hr
    have hst : qOp P ops C k (wpQuiet P ops C Lq l) a := by unfold qOp; simp only [h0]; exact h
    obtain ⟨v, hy, hK⟩ := yieldsIn_of_qOp h0 hst
    exact headQ_first h0 (Region.noSelect_spec hsel) hs hc hn hkn (fun listed' a' hL => seqB_ready hL.1) l.length listed a inv (Region.free_spec h0 hf) hr' hy
      (headQ_lex hsel hs hc hn l (k + 1) _ _ (fun j hj => by have := hl (j + 1) (by simp; omega); simpa [Nat.add_assoc, Nat.add_comm 1 j] using this) (by simp only [List.length_cons] at hk; omega) (inv.set hr' hkn) hB' hK)

theorem wp_region_quiet_tail {id : Nat} {Q : Exit → Act → World → Prop} {a : Act} {w : World} {l : List Oper} (n : Nat) (hm : P.follows .mixedOrders = true) (hB : Region.lexTailB .any l.toArray n = true) (hC : C { w with drawn := w.drawn + 1 })
    (h : wpQuiet P l.toArray C (fun a' => ∀ w', C w' → wpList P l.toArray Q (l.drop n) a' w') (l.take n) a) : (Code.region id l.toArray true).wp P Q a w := by
  simp only [Region.lexTailB, Bool.and_eq_true, decide_eq_true_eq] at hB
  obtain ⟨⟨⟨⟨hsel, hn⟩, hs⟩, hc⟩, hlex⟩ := hB
  have hn' : n < l.length := by simpa using hn
  have htl : (l.take n).length = n := by simp; omega
  have hdl : (l.drop n).length = l.toArray.size - n := by simp
  have inv0 : HeadInv .any l.toArray n (Array.replicate l.toArray.size false) :=
    ⟨by simp, fun j oj _ hl => (by rw [getD_replicate_false] at hl; cases hl), fun t _ ht => getD_in (by simpa using ht) (getD_replicate_false _ _)⟩
  have H := headQ_lex (md := .any) (g := l.toArray.size - n) hsel hs hc hn (l.take n) 0 _ a (fun j hj => by
    have hj' : j < n := by rw [htl] at hj; exact hj
    simp [hj']) (by simpa using htl) inv0 (by rw [htl]; exact hlex) h
  refine wp_region_any hm ?_
  have := wpAny_of_headQ (Q' := Q) (g := l.toArray.size - n) (fun listed a' w' hw' hL => by
    have := wpAny_of_seq (md := .any) (Q' := Q) (l.drop n) n listed a' w' (fun j => by simp [List.getElem?_drop]) (by rw [hdl]; exact hL.1) (hL.2 w' hw')
    rwa [hdl] at this) _ _ _ _ hC H
  rw [htl, show n + (l.toArray.size - n) = l.toArray.size by omega] at this
  exact this

theorem wp_region_ext_tail {id : Nat} {Q : Exit → Act → World → Prop} {a : Act} {W : World} {l : List Oper} (n : Nat) (hm : P.follows .mixedOrders = true) (hB : Region.lexTailB .any l.toArray n = true)
    (h : wpQuiet P l.toArray (fun w' => ∃ x : Ext W, w' = x.w) (fun a' => ∀ w', (∃ x : Ext W, w' = x.w) → wpList P l.toArray Q (l.drop n) a' w') (l.take n) a) : (Code.region id l.toArray true).wp P Q a W :=
  wp_region_quiet_tail (C := fun w' => ∃ x : Ext W, w' = x.w) n hm hB ⟨⟨_, (Below.refl _ W).drew⟩, rfl⟩ h
end
end Go.Proofs.YtfbangojgjcbcaaGreatDoor
namespace Go.Proofs.YtfbangojgjcbcaaGreatDoor
open Go.RowKit Pl
section
variable {P : Program} {ops : Array Oper} {md : Region.Mode} {C : World → Prop}

def hangB (md : Region.Mode) (ops : Array Oper) (n : Nat) : Bool :=
  (List.range ops.size).all fun t => decide (t ≤ n) || (List.range t).any fun j => decide (n ≤ j) && Region.waitsFor md ops t j
theorem hang_waits {n : Nat} {listed : Array Bool} (hs : Region.sinkB md ops n = true) (hc : hangB md ops n = true) (inv : HeadInv md ops n listed) :
    ∀ (d i : Nat), n - i = d → i < n → listed.getD i true = false → ∀ t, n ≤ t → t ∉ Region.ready md ops listed := by
  intro d
  induction d using Nat.strongRecOn with
  | _ d ih =>
    intro i hd hi hun t ht hr
    obtain ⟨_, ot, hot, hall⟩ := mem_ready.1 hr
    have htlt : t < ops.size := (Array.getElem?_eq_some_iff.1 hot).1
    by_cases htn : t = n
    · subst htn
      have h1 := List.all_eq_true.1 hs i (List.mem_range.2 hi)
      obtain ⟨j, hj, hj2⟩ := List.any_eq_true.1 h1
      simp only [Bool.and_eq_true, decide_eq_true_eq] at hj2
      obtain ⟨oj, hoj, e, he, hb, hon⟩ := Region.waitsFor_spec hj2.2
      have hjle : j ≤ t := by have := List.mem_range.1 hj; omega
      by_cases hjt : j = t
      · subst hjt
        have : oj = ot := Option.some.inj (hoj.symm.trans hot)
        subst this
        have h2 := hall e he hb
        rw [hon, getD_both hun] at h2
        cases h2
      · cases hl : listed.getD j false with
        | true =>
          have h2 := inv.closed j oj hoj hl e he hb
          rw [hon, getD_both hun] at h2
          cases h2
        | false =>
          have hjs : j < listed.size := by rw [inv.size]; omega
          exact ih (t - j) (by omega) j rfl (by omega) (getD_in hjs hl) t (Nat.le_refl _) hr
    · have h1 := List.all_eq_true.1 hc t (List.mem_range.2 htlt)
      simp only [Bool.or_eq_true, decide_eq_true_eq] at h1
      rcases h1 with h1 | h1
      · omega
      · obtain ⟨j, hj, hj2⟩ := List.any_eq_true.1 h1
        simp only [Bool.and_eq_true, decide_eq_true_eq] at hj2
        obtain ⟨o', ho', e, he, hb, hon⟩ := Region.waitsFor_spec hj2.2
        have : o' = ot := Option.some.inj (ho'.symm.trans hot)
        subst this
        have h2 := hall e he hb
        have hjt := List.mem_range.1 hj
        rw [hon, getD_both (inv.tail j hj2.1 (by omega))] at h2
        cases h2

theorem headQ_first' {n i : Nat} {oi : Oper} {v : Value} {L : Array Bool → Act → Prop} (hi : ops[i]? = some oi) (hsel : ∀ (j : Nat) (o : Oper) cs b, ops[j]? = some o → o.op ≠ .select cs b)
    (hs : Region.sinkB md ops n = true) (hc : hangB md ops n = true) (hin : i < n)
    (hdone : ∀ listed a, L listed a → ∀ j ∈ Region.ready md ops listed, n ≤ j) :
    ∀ (f : Nat) (listed : Array Bool) (a : Act), HeadInv md ops n listed →
      (∀ j oj, ops[j]? = some oj → j ≠ i → listed.getD j true = false → (∀ e ∈ oj.after, Region.binds md e = true → e.on ≠ i) → oi.apart ops oj = true) →
      i ∈ Region.ready md ops listed → YieldsIn P ops C oi v a →
      headQ P md ops C n L f (listed.setIfInBounds i true) (a.put oi.dst v) → headQ P md ops C n L (f + 1) listed a := by
  intro f
  induction f with
  | zero =>
    intro listed a inv _ hr hy H
    have hun := (mem_ready.1 hr).1
    refine ⟨fun h => (by rw [h] at hr; cases hr), fun j hj => ?_⟩
    have hjn : j < n := by
      rcases Nat.lt_or_ge j n with h | h
      · exact h
      · exact absurd hj (hang_waits hs hc inv _ i rfl hin hun j h)
    refine ⟨hjn, ?_⟩
    by_cases hji : j = i
    · subst hji; exact hy.qOp hi H
    · have := hdone _ _ H j (ready_mono hj hji)
      omega
  | succ f ih =>
    intro listed a inv hfree hr hy H
    have hun := (mem_ready.1 hr).1
    refine ⟨fun h => (by rw [h] at hr; cases hr), fun j hj => ?_⟩
    have hjn : j < n := by
      rcases Nat.lt_or_ge j n with h | h
      · exact h
      · exact absurd hj (hang_waits hs hc inv _ i rfl hin hun j h)
    refine ⟨hjn, ?_⟩
    by_cases hji : j = i
    · subst hji; exact hy.qOp hi H
    · have h1 := (H.2 j (ready_mono hj hji)).2
      obtain ⟨hjun, oj, hoj, hall⟩ := mem_ready.1 hj
      have hnot : ∀ e ∈ oj.after, Region.binds md e = true → e.on ≠ i := fun e he hb heq => by
        have h1 := hall e he hb
        rw [heq, getD_both hun] at h1
        cases h1
      have h2 := qOp_put hoj (hfree j oj hoj hji hjun hnot) (fun cs b => hsel i oi cs b hi) (fun cs b => hsel j oj cs b hoj) hy h1
      have hfree' : ∀ k ok, ops[k]? = some ok → k ≠ i → (listed.setIfInBounds j true).getD k true = false →
          (∀ e ∈ ok.after, Region.binds md e = true → e.on ≠ i) → oi.apart ops ok = true := fun k ok hk hki hun hno => by
        refine hfree k ok hk hki ?_ hno
        by_cases hjk : j = k
        · subst hjk; exact hjun
        · rw [getD_set_ne true hjk] at hun; exact hun
      refine qOp_mono (fun a' h3 => ih (listed.setIfInBounds j true) a' (inv.set hj hjn) hfree' (ready_mono hr (Ne.symm hji)) h3.1 ?_) h2
      rw [Array.setIfInBounds_comm _ _ hji]
      exact h3.2

def midEnd (md : Region.Mode) (ops : Array Oper) (k : Nat) (listed : Array Bool) : Bool :=
  decide (Region.ready md ops listed = [k]) && Region.lexFrom md ops (ops.size - (k + 1)) (k + 1) (listed.setIfInBounds k true)
def lexMid (md : Region.Mode) (ops : Array Oper) : Nat → Nat → Array Bool → Bool
  | 0, k, listed => midEnd md ops k listed
  | f + 1, k, listed => (Region.ready md ops listed).contains k && Region.free md ops listed k && lexMid md ops f (k + 1) (listed.setIfInBounds k true)
def midB (md : Region.Mode) (ops : Array Oper) (n : Nat) : Bool :=
  Region.noSelect ops && decide (n < ops.size) && Region.sinkB md ops n && hangB md ops n && lexMid md ops n 0 (Array.replicate ops.size false)

theorem headQ_mid {n : Nat} {Lq : Act → Prop} (hsel : Region.noSelect ops = true) (hs : Region.sinkB md ops n = true) (hc : hangB md ops n = true) :
    ∀ (l : List Oper) (k : Nat) (listed : Array Bool) (a : Act), (∀ j, j < l.length → l[j]? = ops[k + j]?) → k + l.length = n → HeadInv md ops n listed →
    lexMid md ops l.length k listed = true → wpQuiet P ops C Lq l a →
    headQ P md ops C n (fun listed' a' => midEnd md ops n listed' = true ∧ Lq a') l.length listed a
  | [], k, listed, a, _, hk, _, hB, h => by
    have : k = n := by simpa using hk
    subst this
    exact ⟨by simpa [lexMid] using hB, h⟩
  | o :: l, k, listed, a, hl, hk, inv, hB, h => by
    have h0 : ops[k]? = some o := by simpa using (hl 0 (by simp)).symm
    simp only [List.length_cons, lexMid, Bool.and_eq_true] at hB
    obtain ⟨⟨hr, hf⟩, hB'⟩ := hB
    have hkn : k < n := by simp only [List.length_cons] at hk; omega
    have hr' : k ∈ Region.ready md ops listed := by simpa using hr
    have hst : qOp P ops C k (wpQuiet P ops C Lq l) a := by unfold qOp; simp only [h0]; exact h
    obtain ⟨v, hy, hK⟩ := yieldsIn_of_qOp h0 hst
    refine headQ_first' h0 (Region.noSelect_spec hsel) hs hc hkn (fun listed' a' hL => ?_) l.length listed a inv (Region.free_spec h0 hf) hr' hy
      (headQ_mid hsel hs hc l (k + 1) _ _ (fun j hj => by have := hl (j + 1) (by simp; omega); simpa [Nat.add_assoc, Nat.add_comm 1 j] using this) (by simp only [List.length_cons] at hk; omega) (inv.set hr' hkn) hB' hK)
    intro j hj
    have h1 := hL.1
    simp only [midEnd, Bool.and_eq_true, decide_eq_true_eq] at h1
    rw [h1.1] at hj
    have : j = n := by simpa using hj
    omega

/-- The head is quiet in C; then operation n; then the rest is quiet in whatever class holds behind it. -/
theorem wp_region_mid {id : Nat} {Q : Exit → Act → World → Prop} {a : Act} {w : World} {l : List Oper} (n : Nat) (o : Oper) (ho : l[n]? = some o) (hm : P.follows .mixedOrders = true) (hB : midB .any l.toArray n = true) (hC : C { w with drawn := w.drawn + 1 })
    (h : wpQuiet P l.toArray C (fun a' => ∀ w', C w' → ∀ K : Act → World → Prop, (∀ (C2 : World → Prop) a2 w2, C2 w2 → wpQuiet P l.toArray C2 (fun a3 => ∀ w3, C2 w3 → Q .normal a3 w3) (l.drop (n + 1)) a2 → K a2 w2) →
      if Region.wanted o (yielded l.toArray a'.tmps) = true then o.wp P a' w' K Q else K (a'.put o.dst undef) w') (l.take n) a) : (Code.region id l.toArray true).wp P Q a w := by
  simp only [midB, Bool.and_eq_true, decide_eq_true_eq] at hB
  obtain ⟨⟨⟨⟨hsel, hn⟩, hs⟩, hc⟩, hlex⟩ := hB
  have hn' : n < l.length := by simpa using hn
  have htl : (l.take n).length = n := by simp; omega
  have inv0 : HeadInv .any l.toArray n (Array.replicate l.toArray.size false) :=
    ⟨by simp, fun j oj _ hl => (by rw [getD_replicate_false] at hl; cases hl), fun t _ ht => getD_in (by simpa using ht) (getD_replicate_false _ _)⟩
  have H := headQ_mid (md := .any) hsel hs hc (l.take n) 0 _ a (fun j hj => by
    have hj' : j < n := by rw [htl] at hj; exact hj
    simp [hj']) (by simpa using htl) inv0 (by rw [htl]; exact hlex) h
  refine wp_region_any hm ?_
  have hg : l.toArray.size - n = (l.toArray.size - (n + 1)) + 1 := by omega
  have := wpAny_of_headQ (Q' := Q) (g := l.toArray.size - n) (fun listed a' w' hw' hL => by
    obtain ⟨hm1, hL⟩ := hL
    simp only [midEnd, Bool.and_eq_true, decide_eq_true_eq] at hm1
    rw [hg]
    refine ⟨fun h1 => (by rw [hm1.1] at h1; cases h1), fun i hi => ?_⟩
    rw [hm1.1] at hi
    obtain rfl : i = n := by simpa using hi
    have hk := hL w' hw' (wpAny P .any l.toArray Q (l.toArray.size - (i + 1)) (listed.setIfInBounds i true)) (fun C2 a2 w2 hC2 hq => by
      have hx := wpAnyQ_lex (C := C2) (md := .any) hsel (l.drop (i + 1)) (i + 1) (listed.setIfInBounds i true) a2 (fun j => by simp [List.getElem?_drop]) (by
        have : (l.drop (i + 1)).length = l.toArray.size - (i + 1) := by simp
        rw [this]; exact hm1.2) hq
      have : (l.drop (i + 1)).length = l.toArray.size - (i + 1) := by simp
      rw [this] at hx
      exact wpAny_of_quiet (Q := fun a' => ∀ w', C2 w' → Q .normal a' w') (fun _ w' hw' h => h w' hw') _ _ _ _ hC2 hx)
    unfold wpOp
    have ho' : l.toArray[i]? = some o := by simpa using ho
    simp only [ho']
    split
    · rename_i hw; rw [if_pos hw] at hk; exact .inl hk
    · rename_i hw; rw [if_neg hw] at hk; exact hk) _ _ _ _ hC H
  rw [htl, show n + (l.toArray.size - n) = l.toArray.size by omega] at this
  exact this
end
end Go.Proofs.YtfbangojgjcbcaaGreatDoor
namespace Go.Proofs.YtfbangojgjcbcaaGreatDoor
open Go.RowKit Pl
section
variable {P : Program} {ops : Array Oper} {md : Region.Mode}

theorem wp_then {o : Oper} {a : Act} {w : World} {K K' : Act → World → Prop} {Q : Exit → Act → World → Prop} (hh : o.wp P a w K (Exit.then K' Q)) : o.wp P a w K Q := by
  unfold Oper.wp at *
  generalize (execOp a.eval o).run P w = r at *
  cases r with
  | ok n w' =>
    cases n <;> simp only [Oper.upon] at hh ⊢ <;>
      first
        | exact hh
        | exact Calls.mono hh (fun e w'' he => by cases e <;> exact he)
  | halt x w' => cases x <;> simp only [Oper.upon] at hh ⊢ <;> exact hh
theorem wpOp_then {i : Nat} {a : Act} {w : World} {K K' : Act → World → Prop} {Q : Exit → Act → World → Prop} (hh : wpOp P ops (Exit.then K' Q) i K a w) : wpOp P ops Q i K a w := by
  unfold wpOp at *
  split
  · simpa [*] using hh
  · rename_i o ho
    simp only [ho] at hh
    split
    · rename_i hw; simp only [hw, if_true] at hh; exact hh.imp wp_then id
    · rename_i hw; simp only [hw] at hh; exact hh

theorem at_array {L : List Oper} {ops : Array Oper} (h : L.toArray = ops) (j : Nat) : L[j]? = ops[j]? := by rw [← h]; simp
def frontB (md : Region.Mode) (ops : Array Oper) (g : Nat) : Nat → Nat → Nat → Array Bool → Bool
  | 0, m, k, listed => Region.lexHead md ops g m k listed
  | f + 1, m, k, listed => decide (Region.ready md ops listed = [k]) && frontB md ops g f m (k + 1) (listed.setIfInBounds k true)
def frontTailB (md : Region.Mode) (ops : Array Oper) (f n : Nat) : Bool :=
  Region.noSelect ops && decide (n < ops.size) && decide (f ≤ n) && Region.sinkB md ops n && Region.chainB md ops n && frontB md ops (ops.size - n) f (n - f) 0 (Array.replicate ops.size false)

theorem wpAny_front {n f : Nat} {Q : Exit → Act → World → Prop} {L : List Oper} (hL : L.toArray = ops) (hsel : Region.noSelect ops = true) (hs : Region.sinkB md ops n = true) (hc : Region.chainB md ops n = true) (hn : n < ops.size) (hfn : f ≤ n) :
    ∀ (l : List Oper) (k : Nat) (listed : Array Bool) (a : Act) (w : World), (∀ j, j < l.length → l[j]? = ops[k + j]?) → k + l.length = f → HeadInv md ops n listed →
    frontB md ops (ops.size - n) l.length (n - f) k listed = true →
    wpList P ops (Exit.then (fun a1 w1 => ∃ C : World → Prop, C w1 ∧ wpQuiet P ops C (fun a' => ∀ w', C w' → wpList P ops Q (L.drop n) a' w') ((L.drop f).take (n - f)) a1) Q) l a w →
    wpAny P md ops Q (ops.size - k) listed a w
  | [], k, listed, a, w, _, hk, inv, hB, h => by
    obtain rfl : k = f := by simpa using hk
    obtain ⟨C, hC, hq⟩ := h
    have hsz : L.length = ops.size := by rw [← hL]; simp
    have htl : ((L.drop k).take (n - k)).length = n - k := by simp; omega
    have hat : ∀ j : Nat, L[j]? = ops[j]? := at_array hL
    have H := headQ_lex (md := md) (g := ops.size - n) hsel hs hc hn ((L.drop k).take (n - k)) k listed a (fun j hj => by
      rw [htl] at hj
      rw [List.getElem?_take, if_pos hj, List.getElem?_drop]; exact hat _) (by rw [htl]; omega) inv (by rw [htl]; exact hB) hq
    have hdl : (L.drop n).length = ops.size - n := by simp [hsz]
    have := wpAny_of_headQ (Q' := Q) (g := ops.size - n) (fun listed a' w' hw' hL2 => by
      have := wpAny_of_seq (md := md) (Q' := Q) (L.drop n) n listed a' w' (fun j => by rw [List.getElem?_drop]; exact hat _) (by rw [hdl]; exact hL2.1) (hL2.2 w' hw')
      rwa [hdl] at this) _ _ _ _ hC H
    rw [htl, show n - k + (ops.size - n) = ops.size - k by omega] at this
    exact this
  | o :: l, k, listed, a, w, hl, hk, inv, hB, h => by
    have h0 : ops[k]? = some o := by simpa using (hl 0 (by simp)).symm
    simp only [List.length_cons, frontB, Bool.and_eq_true, decide_eq_true_eq] at hB
    simp only [List.length_cons] at hk
    rw [show ops.size - k = (ops.size - (k + 1)) + 1 by omega]
    refine ⟨fun h1 => (by rw [hB.1] at h1; cases h1), fun i hi => ?_⟩
    have hi2 := hi
    rw [hB.1] at hi
    obtain rfl : i = k := by simpa using hi
    refine wpOp_then (K' := fun a1 w1 => ∃ C : World → Prop, C w1 ∧ wpQuiet P ops C (fun a' => ∀ w', C w' → wpList P ops Q (L.drop n) a' w') ((L.drop f).take (n - f)) a1) (wpOp_mono (K := wpList P ops (Exit.then (fun a1 w1 => ∃ C : World → Prop, C w1 ∧ wpQuiet P ops C (fun a' => ∀ w', C w' → wpList P ops Q (L.drop n) a' w') ((L.drop f).take (n - f)) a1) Q) l) (fun a' w' h' => wpAny_front hL hsel hs hc hn hfn l (i + 1) _ a' w' (fun j hj => by have := hl (j + 1) (by simp; omega); simpa [Nat.add_assoc, Nat.add_comm 1 j] using this) (by omega) (inv.set hi2 (by omega)) hB.2 h') ?_)
    unfold wpOp; simp only [h0]; exact h

/-- The first f operations in their order; those up to n quiet in a class that holds then; the rest in its order. -/
theorem wp_region_front {id : Nat} {Q : Exit → Act → World → Prop} {a : Act} {w : World} {l : List Oper} (f n : Nat) (hm : P.follows .mixedOrders = true) (hB : frontTailB .any l.toArray f n = true)
    (h : wpList P l.toArray (Exit.then (fun a1 w1 => ∃ C : World → Prop, C w1 ∧ wpQuiet P l.toArray C (fun a' => ∀ w', C w' → wpList P l.toArray Q (l.drop n) a' w') ((l.drop f).take (n - f)) a1) Q) (l.take f) a { w with drawn := w.drawn + 1 }) : (Code.region id l.toArray true).wp P Q a w := by
  simp only [frontTailB, Bool.and_eq_true, decide_eq_true_eq] at hB
  obtain ⟨⟨⟨⟨⟨hsel, hn⟩, hfn⟩, hs⟩, hc⟩, hfr⟩ := hB
  have hn' : n < l.length := by simpa using hn
  have htl : (l.take f).length = f := by simp; omega
  have inv0 : HeadInv .any l.toArray n (Array.replicate l.toArray.size false) :=
    ⟨by simp, fun j oj _ hl => (by rw [getD_replicate_false] at hl; cases hl), fun t _ ht => getD_in (by simpa using ht) (getD_replicate_false _ _)⟩
  refine wp_region_any hm ?_
  have := wpAny_front (md := .any) (L := l) rfl hsel hs hc hn hfn (l.take f) 0 _ a _ (fun j hj => by
    rw [htl] at hj
    simp [hj]) (by rw [htl]; simp) inv0 (by rw [htl]; exact hfr) h
  simpa using this
end
end Go.Proofs.YtfbangojgjcbcaaGreatDoor
namespace Go.Proofs.YtfbangojgjcbcaaGreatDoor
open Go.RowKit Pl
section
variable {P : Program} {ops : Array Oper} {md : Region.Mode} {C : World → Prop}

/-- Each operation of the head, but for the first f0, is waited for by a later one of the head, or by the tail's first. -/
def sinkF (md : Region.Mode) (ops : Array Oper) (f0 n : Nat) : Bool :=
  (List.range n).all fun i => decide (i < f0) || (List.range (n + 1)).any fun j => decide (i < j) && Region.waitsFor md ops j i
/-- Where an operation of the tail may come up, all of the head but its first f0 have come up. -/
theorem head_done {f0 n t : Nat} {listed : Array Bool} (hs : sinkF md ops f0 n = true) (hc : Region.chainB md ops n = true) (inv : HeadInv md ops n listed) (ht : n ≤ t) (hr : t ∈ Region.ready md ops listed) :
    ∀ (d i : Nat), n ≤ i + d → f0 ≤ i → i < n → listed.getD i false = true := by
  obtain ⟨-, ot, hot, hall⟩ := mem_ready.1 hr
  have hlt : t < ops.size := (Array.getElem?_eq_some_iff.1 hot).1
  have waits : ∀ {i : Nat}, Region.waitsFor md ops t i = true → listed.getD i false = true := fun h => by
    obtain ⟨o', ho', e, he, hb, rfl⟩ := Region.waitsFor_spec h
    rw [hot] at ho'
    cases ho'
    exact hall e he hb
  have htn : t = n := by
    have h1 := List.all_eq_true.1 hc t (List.mem_range.2 hlt)
    rcases (Bool.or_eq_true _ _).mp h1 with h1 | h1
    · have := of_decide_eq_true h1; omega
    · rcases Nat.lt_or_ge n t with h | h
      · have h2 := inv.tail (t - 1) (by omega) (by omega)
        have h3 := waits h1
        rw [getD_both h2] at h3
        cases h3
      · omega
  subst htn
  intro d
  induction d with
  | zero => intro i h1 _ h2; omega
  | succ d ih =>
    intro i hd hf hi
    have h1 := List.all_eq_true.1 hs i (List.mem_range.2 hi)
    rcases (Bool.or_eq_true _ _).mp h1 with h1 | h1
    · have := of_decide_eq_true h1; omega
    · obtain ⟨j, hj, h2⟩ := List.any_eq_true.1 h1
      obtain ⟨h3, h4⟩ := (Bool.and_eq_true _ _).mp h2
      have h3 := of_decide_eq_true h3
      have h5 := List.mem_range.1 hj
      rcases Nat.lt_or_ge j t with h6 | h6
      · have h7 := ih j (by omega) (by omega) h6
        obtain ⟨oj, hoj, e, he, hb, rfl⟩ := Region.waitsFor_spec h4
        exact inv.closed j oj hoj h7 e he hb
      · obtain rfl : j = t := by omega
        exact waits h4
theorem tail_waitsF {f0 n i : Nat} {listed : Array Bool} (hs : sinkF md ops f0 n = true) (hc : Region.chainB md ops n = true) (inv : HeadInv md ops n listed) (hi : i < n) (hfi : f0 ≤ i) (hun : listed.getD i true = false) :
    ∀ t, n ≤ t → t ∉ Region.ready md ops listed := fun t ht hr => by
  have := head_done hs hc inv ht hr n i (by omega) hfi hi
  rw [getD_both hun] at this
  cases this

theorem headF_first {f0 n i : Nat} {oi : Oper} {v : Value} {L : Array Bool → Act → Prop} (hi : ops[i]? = some oi) (hsel : ∀ (j : Nat) (o : Oper) cs b, ops[j]? = some o → o.op ≠ .select cs b)
    (hs : sinkF md ops f0 n = true) (hc : Region.chainB md ops n = true) (_hn : n < ops.size) (hin : i < n) (hfi : f0 ≤ i)
    (hdone : ∀ listed a, L listed a → ∀ j ∈ Region.ready md ops listed, n ≤ j) :
    ∀ (f : Nat) (listed : Array Bool) (a : Act), HeadInv md ops n listed →
      (∀ j oj, ops[j]? = some oj → j ≠ i → listed.getD j true = false → (∀ e ∈ oj.after, Region.binds md e = true → e.on ≠ i) → oi.apart ops oj = true) →
      i ∈ Region.ready md ops listed → YieldsIn P ops C oi v a →
      headQ P md ops C n L f (listed.setIfInBounds i true) (a.put oi.dst v) → headQ P md ops C n L (f + 1) listed a := by
  intro f
  induction f with
  | zero =>
    intro listed a inv _ hr hy H
    have hun := (mem_ready.1 hr).1
    refine ⟨fun h => (by rw [h] at hr; cases hr), fun j hj => ?_⟩
    have hjn : j < n := by
      rcases Nat.lt_or_ge j n with h | h
      · exact h
      · exact absurd hj (tail_waitsF hs hc inv hin hfi hun j h)
    refine ⟨hjn, ?_⟩
    by_cases hji : j = i
    · subst hji; exact hy.qOp hi H
    · have := hdone _ _ H j (ready_mono hj hji)
      omega
  | succ f ih =>
    intro listed a inv hfree hr hy H
    have hun := (mem_ready.1 hr).1
    refine ⟨fun h => (by rw [h] at hr; cases hr), fun j hj => ?_⟩
    have hjn : j < n := by
      rcases Nat.lt_or_ge j n with h | h
      · exact h
      · exact absurd hj (tail_waitsF hs hc inv hin hfi hun j h)
    refine ⟨hjn, ?_⟩
    by_cases hji : j = i
    · subst hji; exact hy.qOp hi H
    · have h1 := (H.2 j (ready_mono hj hji)).2
      obtain ⟨hjun, oj, hoj, hall⟩ := mem_ready.1 hj
      have hnot : ∀ e ∈ oj.after, Region.binds md e = true → e.on ≠ i := fun e he hb heq => by
        have h1 := hall e he hb
        rw [heq, getD_both hun] at h1
        cases h1
      have h2 := qOp_put hoj (hfree j oj hoj hji hjun hnot) (fun cs b => hsel i oi cs b hi) (fun cs b => hsel j oj cs b hoj) hy h1
      have hfree' : ∀ k ok, ops[k]? = some ok → k ≠ i → (listed.setIfInBounds j true).getD k true = false →
          (∀ e ∈ ok.after, Region.binds md e = true → e.on ≠ i) → oi.apart ops ok = true := fun k ok hk hki hun hno => by
        refine hfree k ok hk hki ?_ hno
        by_cases hjk : j = k
        · subst hjk; exact hjun
        · rw [getD_set_ne true hjk] at hun; exact hun
      refine qOp_mono (fun a' h3 => ih (listed.setIfInBounds j true) a' (inv.set hj hjn) hfree' (ready_mono hr (Ne.symm hji)) h3.1 ?_) h2
      rw [Array.setIfInBounds_comm _ _ hji]
      exact h3.2

theorem headF_lex {f0 n g : Nat} {Lq : Act → Prop} (hsel : Region.noSelect ops = true) (hs : sinkF md ops f0 n = true) (hc : Region.chainB md ops n = true) (hn : n < ops.size) :
    ∀ (l : List Oper) (k : Nat) (listed : Array Bool) (a : Act), (∀ j, j < l.length → l[j]? = ops[k + j]?) → k + l.length = n → f0 ≤ k → HeadInv md ops n listed →
    Region.lexHead md ops g l.length k listed = true → wpQuiet P ops C Lq l a →
    headQ P md ops C n (fun listed' a' => Region.seqB md ops g n listed' = true ∧ Lq a') l.length listed a
  | [], k, listed, a, _, hk, _, _, hB, h => by
    have : k = n := by simpa using hk
    subst this
    exact ⟨by simpa [Region.lexHead] using hB, h⟩
  | o :: l, k, listed, a, hl, hk, hfk, inv, hB, h => by
    have h0 : ops[k]? = some o := by simpa using (hl 0 (by simp)).symm
    simp only [List.length_cons, Region.lexHead, Bool.and_eq_true] at hB
    obtain ⟨⟨hr, hf⟩, hB'⟩ := hB
    have hkn : k < n := by simp only [List.length_cons] at hk; omega
    have hr' : k ∈ Region.ready md ops listed := by simpa using hr
    have hst : qOp P ops C k (wpQuiet P ops C Lq l) a := by unfold qOp; simp only [h0]; exact h
    obtain ⟨v, hy, hK⟩ := yieldsIn_of_qOp h0 hst
    exact headF_first h0 (Region.noSelect_spec hsel) hs hc hn hkn hfk (fun listed' a' hL => seqB_ready hL.1) l.length listed a inv (Region.free_spec h0 hf) hr' hy
      (headF_lex hsel hs hc hn l (k + 1) _ _ (fun j hj => by have := hl (j + 1) (by simp; omega); simpa [Nat.add_assoc, Nat.add_comm 1 j] using this) (by simp only [List.length_cons] at hk; omega) (by omega) (inv.set hr' hkn) hB' hK)

def floatB (md : Region.Mode) (ops : Array Oper) (n : Nat) : Bool :=
  Region.noSelect ops && decide (n < ops.size) && decide (0 < n) && sinkF md ops 1 n && Region.chainB md ops n && ((Region.ready md ops (Array.replicate ops.size false)).contains 0 && Region.free md ops (Array.replicate ops.size false) 0) && Region.lexHead md ops (ops.size - n) (n - 1) 1 ((Array.replicate ops.size false).setIfInBounds 0 true)

theorem wp_region_ext_float {id : Nat} {Q : Exit → Act → World → Prop} {a : Act} {W : World} {l : List Oper} {o0 : Oper} {v : Value} {l' : List Oper} (n : Nat) (hm : P.follows .mixedOrders = true) (hB : floatB .any l.toArray n = true) (hl : l = o0 :: l')
    (hy : Yields P l.toArray o0 v a) (hQ : ∀ c a w, Q (.panic c) (a.put o0.dst v) w → Q (.panic c) a w)
    (h : wpQuiet P l.toArray (fun w' => ∃ x : Ext W, w' = x.w) (fun a' => ∀ w', (∃ x : Ext W, w' = x.w) → wpList P l.toArray Q (l.drop n) a' w') (l.take n) a) : (Code.region id l.toArray true).wp P Q a W := by
  have h0 : l.toArray[0]? = some o0 := by rw [hl]; simp
  simp only [floatB, Bool.and_eq_true, decide_eq_true_eq] at hB
  obtain ⟨⟨⟨⟨⟨⟨hsel, hn⟩, hn0⟩, hs⟩, hc⟩, hr, hf⟩, hlex⟩ := hB
  have hn' : n < l.length := by simpa using hn
  have htl : ((l.take n).drop 1).length = n - 1 := by simp; omega
  have hdl : (l.drop n).length = l.toArray.size - n := by simp
  have inv0 : HeadInv .any l.toArray n (Array.replicate l.toArray.size false) :=
    ⟨by simp, fun j oj _ hl => (by rw [getD_replicate_false] at hl; cases hl), fun t _ ht => getD_in (by simpa using ht) (getD_replicate_false _ _)⟩
  have hr0 : 0 ∈ Region.ready .any l.toArray (Array.replicate l.toArray.size false) := by simpa using hr
  have inv1 := inv0.set hr0 hn0
  have h : wpQuiet P l.toArray (fun w' => ∃ x : Ext W, w' = x.w) (fun a' => ∀ w', (∃ x : Ext W, w' = x.w) → wpList P l.toArray Q (l.drop n) a' w') ((l.take n).drop 1) (a.put o0.dst v) := by
    have e : l.take n = o0 :: (l.take n).drop 1 := by
      obtain ⟨m, rfl⟩ : ∃ m, n = m + 1 := ⟨n - 1, by omega⟩
      rw [hl]; simp
    rw [e] at h
    unfold wpQuiet at h
    rcases hy with ⟨hw, hv⟩ | ⟨hw, rfl⟩
    · rw [if_pos hw] at h
      obtain ⟨v', h1, h2⟩ := h
      have h3 := h1 W ⟨⟨W, Below.refl _ _⟩, rfl⟩
      unfold Oper.quietAt at h3
      rw [hv W] at h3
      have : v = v' := h3.2
      rw [this]; exact h2
    · rw [hw, if_neg (by simp)] at h
      exact h
  have H := headF_lex (md := .any) (f0 := 1) (g := l.toArray.size - n) hsel hs hc hn ((l.take n).drop 1) 1 _ (a.put o0.dst v) (fun j hj => by
    have hj' : j < n - 1 := by rw [htl] at hj; exact hj
    rw [List.getElem?_drop, List.getElem?_take, if_pos (by omega)]
    simp) (by rw [htl]; omega) (Nat.le_refl _) inv1 (by rw [htl]; exact hlex) h
  refine wp_region_any hm ?_
  have := wpAny_of_headQ (Q' := Q) (g := l.toArray.size - n) (fun listed a' w' hw' hL => by
    have := wpAny_of_seq (md := .any) (Q' := Q) (l.drop n) n listed a' w' (fun j => by simp [List.getElem?_drop]) (by rw [hdl]; exact hL.1) (hL.2 w' hw')
    rwa [hdl] at this) _ _ _ ({ W with drawn := W.drawn + 1 }) ⟨⟨_, (Below.refl _ W).drew⟩, rfl⟩ H
  have h2 := wpAny_take (fuel := n - 1 + (l.toArray.size - n)) h0 hsel hf hr hQ hy (by rw [htl] at this; exact this)
  rw [show n - 1 + (l.toArray.size - n) + 1 = l.toArray.size by omega] at h2
  exact h2
end
end Go.Proofs.YtfbangojgjcbcaaGreatDoor
namespace Go.Proofs.YtfbangojgjcbcaaGreatDoor
open Go.RowKit Pl
section
variable {P : Program} {ops : Array Oper} {md : Region.Mode} {C S : World → Prop} {Q : Exit → Act → World → Prop}

/-- 'wpAny', and S holds behind each operation that D does not let off. -/
def wpAnyD (P : Program) (md : Region.Mode) (ops : Array Oper) (Q : Exit → Act → World → Prop) (S : World → Prop) (D : Nat → Bool) : Nat → Array Bool → Act → World → Prop
  | 0, listed, a, w => Region.ready md ops listed = [] ∧ Q .normal a w
  | fuel + 1, listed, a, w =>
    (Region.ready md ops listed = [] → Q .normal a w) ∧
    ∀ i ∈ Region.ready md ops listed, wpOp P ops Q i (fun a' w' => (D i = false → S w') ∧ wpAnyD P md ops Q S D fuel (listed.setIfInBounds i true) a' w') a w
theorem wpAny_of_D {D : Nat → Bool} : ∀ (fuel : Nat) (listed : Array Bool) (a : Act) (w : World), wpAnyD P md ops Q S D fuel listed a w → wpAny P md ops Q fuel listed a w
  | 0, _, _, _, h => h
  | fuel + 1, _, _, _, h => ⟨h.1, fun i hi => wpOp_mono (fun a' w' h' => wpAny_of_D fuel _ a' w' h'.2) (h.2 i hi)⟩
/-- What a listed operation waits for is listed. -/
def Closed (md : Region.Mode) (ops : Array Oper) (listed : Array Bool) : Prop :=
  ∀ j oj, ops[j]? = some oj → listed.getD j false = true → ∀ e ∈ oj.after, Region.binds md e = true → listed.getD e.on false = true
theorem Closed.set {i : Nat} {listed : Array Bool} (h : Closed md ops listed) (hi : i ∈ Region.ready md ops listed) : Closed md ops (listed.setIfInBounds i true) := by
  obtain ⟨_, oi, hoi, hall⟩ := mem_ready.1 hi
  intro j oj hj hl e he hb
  by_cases hij : i = j
  · subst hij
    have : oj = oi := Option.some.inj (hj.symm.trans hoi)
    subst this
    exact getD_set_true (hall e he hb)
  · rw [getD_set_ne false hij] at hl
    exact getD_set_true (h j oj hj hl e he hb)

theorem wpAnyD_first {D : Nat → Bool} {i : Nat} {oi : Oper} {v : Value} (hi : ops[i]? = some oi) (hsel : ∀ (j : Nat) (o : Oper) cs b, ops[j]? = some o → o.op ≠ .select cs b)
    (hQ : ∀ c a w, Q (.panic c) (a.put oi.dst v) w → Q (.panic c) a w)
    (hD : ∀ (listed : Array Bool) (j : Nat), Closed md ops listed → listed.getD i true = false → j ∈ Region.ready md ops listed → j ≠ i → D j = false) :
    ∀ (fuel : Nat) (listed : Array Bool) (a : Act) (w : World), Closed md ops listed →
      (∀ j oj, ops[j]? = some oj → j ≠ i → listed.getD j true = false → (∀ e ∈ oj.after, Region.binds md e = true → e.on ≠ i) → oi.apart ops oj = true) →
      i ∈ Region.ready md ops listed → YieldsIf P ops S oi v a → S w →
      wpAnyD P md ops Q S D fuel (listed.setIfInBounds i true) (a.put oi.dst v) w → wpAny P md ops Q (fuel + 1) listed a w := by
  intro fuel
  induction fuel with
  | zero =>
    intro listed a w _ _ hr hy hS H
    refine ⟨fun h => (by rw [h] at hr; cases hr), fun j hj => ?_⟩
    by_cases hji : j = i
    · subst hji; exact hy.wpOp hi hS H
    · have := ready_mono hj hji
      rw [H.1] at this
      cases this
  | succ fuel ih =>
    intro listed a w hcl hfree hr hy hS H
    refine ⟨fun h => (by rw [h] at hr; cases hr), fun j hj => ?_⟩
    by_cases hji : j = i
    · subst hji; exact hy.wpOp hi hS (wpAny_of_D _ _ _ _ H)
    · have h1 := H.2 j (ready_mono hj hji)
      have hun := (mem_ready.1 hr).1
      have hDj := hD listed j hcl hun hj hji
      obtain ⟨hjun, oj, hoj, hall⟩ := mem_ready.1 hj
      have hnot : ∀ e ∈ oj.after, Region.binds md e = true → e.on ≠ i := fun e he hb heq => by
        have h1 := hall e he hb
        rw [heq, getD_both hun] at h1
        cases h1
      have h2 := wpOp_putIf hoj (hfree j oj hoj hji hjun hnot) (fun cs b => hsel i oi cs b hi) (fun cs b => hsel j oj cs b hoj) hQ hy h1
      have hfree' : ∀ k ok, ops[k]? = some ok → k ≠ i → (listed.setIfInBounds j true).getD k true = false →
          (∀ e ∈ ok.after, Region.binds md e = true → e.on ≠ i) → oi.apart ops ok = true := fun k ok hk hki hun hno => by
        refine hfree k ok hk hki ?_ hno
        by_cases hjk : j = k
        · subst hjk; exact hjun
        · rw [getD_set_ne true hjk] at hun; exact hun
      refine wpOp_mono (fun a' w' h3 => ih (listed.setIfInBounds j true) a' w' (hcl.set hj) hfree' (ready_mono hr (Ne.symm hji)) h3.1 (h3.2.1 hDj) ?_) h2
      rw [Array.setIfInBounds_comm _ _ hji]
      exact h3.2.2

/-- No operation behind number n + 1 comes up ahead of number 0. -/
theorem late_waits {n : Nat} (hc : Region.chainB md ops n = true) (h0 : Region.waitsFor md ops (n + 1) 0 = true) (listed : Array Bool) (j : Nat) (hcl : Closed md ops listed) (hun : listed.getD 0 true = false)
    (hj : j ∈ Region.ready md ops listed) (_ : j ≠ 0) : decide (n < j) = false := by
  have step : ∀ k, n < k → k < ops.size → Region.waitsFor md ops k (if k = n + 1 then 0 else k - 1) = true := fun k hk hlt => by
    by_cases hk1 : k = n + 1
    · subst hk1; rw [if_pos rfl]; exact h0
    · rw [if_neg hk1]
      have h1 := List.all_eq_true.1 hc k (List.mem_range.2 hlt)
      rcases (Bool.or_eq_true _ _).mp h1 with h1 | h1
      · have := of_decide_eq_true h1; omega
      · exact h1
  have claim : ∀ k, n < k → k < ops.size → listed.getD k false = true → False := by
    intro k
    induction k using Nat.strongRecOn with
    | _ k ih =>
      intro hk hlt hl
      obtain ⟨o, ho, e, he, hb, hon⟩ := Region.waitsFor_spec (step k hk hlt)
      have h2 := hcl k o ho hl e he hb
      rw [hon] at h2
      by_cases hk1 : k = n + 1
      · rw [if_pos hk1, getD_both hun] at h2; cases h2
      · rw [if_neg hk1] at h2
        exact ih (k - 1) (by omega) (by omega) (by omega) h2
  refine decide_eq_false fun hnj => ?_
  obtain ⟨_, oj, hoj, hall⟩ := mem_ready.1 hj
  have hlt : j < ops.size := (Array.getElem?_eq_some_iff.1 hoj).1
  obtain ⟨o, ho, e, he, hb, hon⟩ := Region.waitsFor_spec (step j hnj hlt)
  have : o = oj := Option.some.inj (ho.symm.trans hoj)
  subst this
  have h2 := hall e he hb
  rw [hon] at h2
  by_cases hk1 : j = n + 1
  · rw [if_pos hk1, getD_both hun] at h2; cases h2
  · rw [if_neg hk1] at h2
    exact claim (j - 1) (by omega) (by omega) h2

theorem wpAnyD_of_headQ {D : Nat → Bool} {n g : Nat} {L : Array Bool → Act → Prop} (hL : ∀ listed a w, C w → L listed a → wpAnyD P md ops Q C D g listed a w) :
    ∀ (f : Nat) (listed : Array Bool) (a : Act) (w : World), C w → headQ P md ops C n L f listed a → wpAnyD P md ops Q C D (f + g) listed a w
  | 0, listed, a, w, hw, h => by rw [Nat.zero_add]; exact hL _ _ _ hw h
  | f + 1, listed, a, w, hw, h => by
    rw [show f + 1 + g = (f + g) + 1 by omega]
    exact ⟨fun h0 => absurd h0 h.1, fun i hi => wpOp_of_qOp hw (fun a' w' hw' h' => ⟨fun _ => hw', wpAnyD_of_headQ hL f _ a' w' hw' h'⟩) (h.2 i hi).2⟩
/-- A tail in one forced order, all of whose operations are let off. -/
theorem wpAnyD_of_seq {D : Nat → Bool} : ∀ (l : List Oper) (k : Nat) (listed : Array Bool) (a : Act) (w : World), (∀ j, l[j]? = ops[k + j]?) → (∀ j, k ≤ j → D j = true) →
    Region.seqB md ops l.length k listed = true → wpList P ops Q l a w → wpAnyD P md ops Q S D l.length listed a w
  | [], _, _, _, _, _, _, hB, h => ⟨by simpa [Region.seqB] using hB, h⟩
  | o :: l, k, listed, a, w, hl, hD, hB, h => by
    have h0 : ops[k]? = some o := by simpa using (hl 0).symm
    simp only [List.length_cons, Region.seqB, Bool.and_eq_true, decide_eq_true_eq] at hB
    refine ⟨fun h1 => (by rw [hB.1] at h1; cases h1), fun i hi => ?_⟩
    rw [hB.1] at hi
    have hik : i = k := by simpa using hi
    subst hik
    have hw : wpOp P ops Q i (wpList P ops Q l) a w := by unfold wpOp; simp only [h0]; exact h
    exact wpOp_mono (fun a' w' h' => ⟨fun h => (by rw [hD i (Nat.le_refl _)] at h; cases h), wpAnyD_of_seq l (i + 1) _ a' w' (fun j => by have := hl (j + 1); simpa [Nat.add_assoc, Nat.add_comm 1 j] using this) (fun j hj => hD j (by omega)) hB.2 h'⟩) hw
theorem wpList_one {o : Oper} {K : Act → World → Prop} {k : Nat} {a : Act} {w : World} (h0 : ops[k]? = some o) (h : wpList P ops (Exit.then K Q) [o] a w) : wpOp P ops Q k K a w := by
  unfold wpOp
  simp only [h0]
  unfold wpList at h
  have hn : ∀ a w, wpList P ops (Exit.then K Q) [] a w = K a w := fun _ _ => rfl
  split
  · rename_i hw
    rw [if_pos hw] at h
    rcases h with h | h
    · refine .inl ?_
      unfold Oper.wp at *
      generalize (execOp a.eval o).run P w = r at *
      cases r with
      | ok n w' =>
        cases n <;> simp only [Oper.upon] at h ⊢
        case value => exact h
        case skip => exact h
        case defer => exact h
        case enter f args =>
          refine Calls.mono h fun e w'' he => ?_
          cases e with
          | returned u => exact he
          | panicked c => exact he
          | outgrown => obtain ⟨a, w, he⟩ := he; exact ⟨a, w, he⟩
        case row => exact h
      | halt x w' =>
        cases x <;> simp only [Oper.upon] at h ⊢
        case panic => exact h
    · exact .inr ⟨h.1, by obtain ⟨a, w, he⟩ := h.2; exact ⟨a, w, he⟩⟩
  · rename_i hw
    rw [if_neg hw] at h
    exact h

def loadB (md : Region.Mode) (ops : Array Oper) (n : Nat) : Bool := floatB md ops n && Region.waitsFor md ops (n + 1) 0

theorem wp_region_ext_load {id : Nat} {Q : Exit → Act → World → Prop} {a : Act} {W : World} {l : List Oper} {o0 on : Oper} {v : Value} {l' : List Oper} (n : Nat) (hm : P.follows .mixedOrders = true) (hB : loadB .any l.toArray n = true) (hl : l = o0 :: l')
    (hon : l.drop n = on :: l.drop (n + 1)) (hy : YieldsIf P l.toArray (fun w' => ∃ x : Ext W, w' = x.w) o0 v a) (hQ : ∀ c a w, Q (.panic c) (a.put o0.dst v) w → Q (.panic c) a w)
    (h : wpQuiet P l.toArray (fun w' => ∃ x : Ext W, w' = x.w)
      (fun a' => ∀ w', (∃ x : Ext W, w' = x.w) → wpList P l.toArray (Exit.then (fun a2 w2 => (∃ x : Ext W, w2 = x.w) ∧ wpList P l.toArray Q (l.drop (n + 1)) a2 w2) Q) [on] a' w')
      ((l.take n).drop 1) (a.put o0.dst v)) : (Code.region id l.toArray true).wp P Q a W := by
  have h0 : l.toArray[0]? = some o0 := by rw [hl]; simp
  simp only [loadB, floatB, Bool.and_eq_true, decide_eq_true_eq] at hB
  obtain ⟨⟨⟨⟨⟨⟨⟨hsel, hn⟩, hn0⟩, hs⟩, hc⟩, hr, hf⟩, hlex⟩, hw0⟩ := hB
  have hn' : n < l.length := by simpa using hn
  have htl : ((l.take n).drop 1).length = n - 1 := by simp; omega
  have hdl : (l.drop n).length = l.toArray.size - n := by simp
  have hln : l.toArray[n]? = some on := by
    have := congrArg (fun m => m[0]?) hon
    simpa using this
  have inv0 : HeadInv .any l.toArray n (Array.replicate l.toArray.size false) :=
    ⟨by simp, fun j oj _ hl => (by rw [getD_replicate_false] at hl; cases hl), fun t _ ht => getD_in (by simpa using ht) (getD_replicate_false _ _)⟩
  have hr0 : 0 ∈ Region.ready .any l.toArray (Array.replicate l.toArray.size false) := by simpa using hr
  have inv1 := inv0.set hr0 hn0
  have H := headF_lex (md := .any) (f0 := 1) (g := l.toArray.size - n) hsel hs hc hn ((l.take n).drop 1) 1 _ (a.put o0.dst v) (fun j hj => by
    have hj' : j < n - 1 := by rw [htl] at hj; exact hj
    rw [List.getElem?_drop, List.getElem?_take, if_pos (by omega)]
    simp) (by rw [htl]; omega) (Nat.le_refl _) inv1 (by rw [htl]; exact hlex) h
  refine wp_region_any hm ?_
  have key := wpAnyD_of_headQ (Q := Q) (D := fun j => decide (n < j)) (g := l.toArray.size - n) (fun listed a' w' hw' hL => by
    have hseq := hL.1
    have h1 := wpList_one hln (hL.2 w' hw')
    rw [← hdl, hon, List.length_cons] at hseq ⊢
    simp only [Region.seqB, Bool.and_eq_true, decide_eq_true_eq] at hseq
    refine ⟨fun h1 => (by rw [hseq.1] at h1; cases h1), fun i hi => ?_⟩
    rw [hseq.1] at hi
    have hik : i = n := by simpa using hi
    subst hik
    exact wpOp_mono (fun a2 w2 h2 => ⟨fun _ => h2.1, wpAnyD_of_seq (l.drop (i + 1)) (i + 1) _ a2 w2 (fun j => by simp [List.getElem?_drop]) (fun j hj => decide_eq_true (by omega)) hseq.2 h2.2⟩) h1)
    _ _ _ ({ W with drawn := W.drawn + 1 }) ⟨⟨_, (Below.refl _ W).drew⟩, rfl⟩ H
  have h2 := wpAnyD_first (md := .any) (Q := Q) h0 (Region.noSelect_spec hsel) hQ (fun listed j hcl hun hj hji => late_waits hc hw0 listed j hcl hun hj hji) (n - 1 + (l.toArray.size - n)) _ a
    ({ W with drawn := W.drawn + 1 }) (fun j oj _ hl => (by rw [getD_replicate_false] at hl; cases hl)) (Region.free_spec h0 hf) hr0 hy ⟨⟨_, (Below.refl _ W).drew⟩, rfl⟩ (by rw [htl] at key; exact key)
  rw [show n - 1 + (l.toArray.size - n) + 1 = l.toArray.size by omega] at h2
  exact h2
end
end Go.Proofs.YtfbangojgjcbcaaGreatDoor
