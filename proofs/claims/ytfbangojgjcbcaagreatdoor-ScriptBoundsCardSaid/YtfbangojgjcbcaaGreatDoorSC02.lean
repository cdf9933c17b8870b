/- Part 2 of the proof: LoadF, Cmp, Text, Addr, Blk, Atoi, AddrR. -/
import Derived.StillTail
import Derived.OrdersHeld
import Derived.Test.YtfbangojgjcbcaaGreatDoorShelf
import Derived.Lib.AppendIntMem
import Derived.RangeFuncNested
import Derived.RangeFuncBox
import Derived.Test.YtfbangojgjcbcaaGreatDoorSC01
namespace Go.Proofs.YtfbangojgjcbcaaGreatDoor
open Go.RowKit Pl
section
variable {P : Program} {ops : Array Oper} {md : Region.Mode} {C : World → Prop}
def headQ (P : Program) (md : Region.Mode) (ops : Array Oper) (C : World → Prop) (n : Nat) (L : Array Bool → Act → Prop) : Nat → Array Bool → Act → Prop
  | 0, listed, a => L listed a
  | f + 1, listed, a =>
    Region.ready md ops listed ≠ [] ∧ ∀ i ∈ Region.ready md ops listed, i < n ∧ qOp P ops C i (headQ P md ops C n L f (listed.setIfInBounds i true)) a
theorem wpAny_of_headQ {n g : Nat} {L : Array Bool → Act → Prop} {Q' : Exit → Act → World → Prop} (hL : ∀ listed a w, C w → L listed a → wpAny P md ops Q' g listed a w) :
    ∀ (f : Nat) (listed : Array Bool) (a : Act) (w : World), C w → headQ P md ops C n L f listed a → wpAny P md ops Q' (f + g) listed a w
  | 0, listed, a, w, hw, h => by rw [Nat.zero_add]; exact hL _ _ _ hw h
  | f + 1, listed, a, w, hw, h => by
    rw [show f + 1 + g = (f + g) + 1 by omega]
    exact ⟨fun h0 => absurd h0 h.1, fun i hi => wpOp_of_qOp hw (fun a' w' hw' h' => wpAny_of_headQ hL f _ a' w' hw' h') (h.2 i hi).2⟩
theorem headQ_first {n i : Nat} {oi : Oper} {v : Value} {L : Array Bool → Act → Prop} (hi : ops[i]? = some oi) (hsel : ∀ (j : Nat) (o : Oper) cs b, ops[j]? = some o → o.op ≠ .select cs b)
    (hs : Region.sinkB md ops n = true) (hc : Region.chainB md ops n = true) (hn : n < ops.size) (hin : i < n)
    (hdone : ∀ listed a, L listed a → ∀ j ∈ Region.ready md ops listed, n ≤ j) :
    ∀ (f : Nat) (listed : Array Bool) (a : Act), HeadInv md ops n listed →
      (∀ j oj, ops[j]? = some oj → j ≠ i → listed.getD j true = false → (∀ e ∈ oj.after, Region.binds md e = true → e.on ≠ i) → oi.apart ops oj = true) →
      i ∈ Region.ready md ops listed → YieldsIn P ops C oi v a →
      headQ P md ops C n L f (listed.setIfInBounds i true) (a.put oi.dst v) → headQ P md ops C n L (f + 1) listed a := by
  intro f
  induction f with
  | zero =>
    intro listed a inv _ hr hy H
    have hun := (mem_ready.1 hr).1
    refine ⟨fun h => (by rw [h] at hr; cases hr), fun j hj => ?_⟩
    have hjn : j < n := by
      rcases Nat.lt_or_ge j n with h | h
      · exact h
      · exact absurd hj (tail_waits hs hc hn inv _ i rfl hin hun j h)
    refine ⟨hjn, ?_⟩
    by_cases hji : j = i
    · subst hji; exact hy.qOp hi H
    · have := hdone _ _ H j (ready_mono hj hji)
      omega
  | succ f ih =>
    intro listed a inv hfree hr hy H
    have hun := (mem_ready.1 hr).1
    refine ⟨fun h => (by rw [h] at hr; cases hr), fun j hj => ?_⟩
    have hjn : j < n := by
      rcases Nat.lt_or_ge j n with h | h
      · exact h
      · exact absurd hj (tail_waits hs hc hn inv _ i rfl hin hun j h)
    refine ⟨hjn, ?_⟩
    by_cases hji : j = i
    · subst hji; exact hy.qOp hi H
    · have h1 := (H.2 j (ready_mono hj hji)).2
      obtain ⟨hjun, oj, hoj, hall⟩ := mem_ready.1 hj
      have hnot : ∀ e ∈ oj.after, Region.binds md e = true → e.on ≠ i := fun e he hb heq => by
        have h1 := hall e he hb
        rw [heq, getD_both hun] at h1
        cases h1
      have h2 := qOp_put hoj (hfree j oj hoj hji hjun hnot) (fun cs b => hsel i oi cs b hi) (fun cs b => hsel j oj cs b hoj) hy h1
      have hfree' : ∀ k ok, ops[k]? = some ok → k ≠ i → (listed.setIfInBounds j true).getD k true = false →
          (∀ e ∈ ok.after, Region.binds md e = true → e.on ≠ i) → oi.apart ops ok = true := fun k ok hk hki hun hno => by
        refine hfree k ok hk hki ?_ hno
        by_cases hjk : j = k
        · subst hjk; exact hjun
        · rw [getD_set_ne true hjk] at hun; exact hun
      refine qOp_mono (fun a' h3 => ih (listed.setIfInBounds j true) a' (inv.set hj hjn) hfree' (ready_mono hr (Ne.symm hji)) h3.1 ?_) h2
      rw [Array.setIfInBounds_comm _ _ hji]
      exact h3.2
theorem headQ_lex {n g : Nat} {Lq : Act → Prop} (hsel : Region.noSelect ops = true) (hs : Region.sinkB md ops n = true) (hc : Region.chainB md ops n = true) (hn : n < ops.size) :
    ∀ (l : List Oper) (k : Nat) (listed : Array Bool) (a : Act), (∀ j, j < l.length → l[j]? = ops[k + j]?) → k + l.length = n → HeadInv md ops n listed →
    Region.lexHead md ops g l.length k listed = true → wpQuiet P ops C Lq l a →
    headQ P md ops C n (fun listed' a' => Region.seqB md ops g n listed' = true ∧ Lq a') l.length listed a
  | [], k, listed, a, _, hk, _, hB, h => by
    have : k = n := by simpa using hk
    subst this
    exact ⟨by simpa [Region.lexHead] using hB, h⟩
  | o :: l, k, listed, a, hl, hk, inv, hB, h => by
    have h0 : ops[k]? = some o := by simpa using (hl 0 (by simp)).symm
    simp only [List.length_cons, Region.lexHead, Bool.and_eq_true] at hB
    obtain ⟨⟨hr, hf⟩, hB'⟩ := hB
    have hkn : k < n := by simp only [List.length_cons] at hk; omega
    have hr' : k ∈ Region.ready md ops listed := by simpa using hr
    have hst : qOp P ops C k (wpQuiet P ops C Lq l) a := by unfold qOp; simp only [h0]; exact h
    obtain ⟨v, hy, hK⟩ := yieldsIn_of_qOp h0 hst
    exact headQ_first h0 (Region.noSelect_spec hsel) hs hc hn hkn (fun listed' a' hL => seqB_ready hL.1) l.length listed a inv (Region.free_spec h0 hf) hr' hy
      (headQ_lex hsel hs hc hn l (k + 1) _ _ (fun j hj => by have := hl (j + 1) (by simp; omega); simpa [Nat.add_assoc, Nat.add_comm 1 j] using this) (by simp only [List.length_cons] at hk; omega) (inv.set hr' hkn) hB' hK)
theorem wp_region_quiet_tail {id : Nat} {Q : Exit → Act → World → Prop} {a : Act} {w : World} {l : List Oper} (n : Nat) (hm : P.follows .mixedOrders = true) (hB : Region.lexTailB .any l.toArray n = true) (hC : C { w with drawn := w.drawn + 1 })
    (h : wpQuiet P l.toArray C (fun a' => ∀ w', C w' → wpList P l.toArray Q (l.drop n) a' w') (l.take n) a) : (Code.region id l.toArray true).wp P Q a w := by
  simp only [Region.lexTailB, Bool.and_eq_true, decide_eq_true_eq] at hB
  obtain ⟨⟨⟨⟨hsel, hn⟩, hs⟩, hc⟩, hlex⟩ := hB
  have hn' : n < l.length := by simpa using hn
  have htl : (l.take n).length = n := by simp; omega
  have hdl : (l.drop n).length = l.toArray.size - n := by simp
  have inv0 : HeadInv .any l.toArray n (Array.replicate l.toArray.size false) :=
    ⟨by simp, fun j oj _ hl => (by rw [getD_replicate_false] at hl; cases hl), fun t _ ht => getD_in (by simpa using ht) (getD_replicate_false _ _)⟩
  have H := headQ_lex (md := .any) (g := l.toArray.size - n) hsel hs hc hn (l.take n) 0 _ a (fun j hj => by
    have hj' : j < n := by rw [htl] at hj; exact hj
    simp [hj']) (by simpa using htl) inv0 (by rw [htl]; exact hlex) h
  refine wp_region_any hm ?_
  have := wpAny_of_headQ (Q' := Q) (g := l.toArray.size - n) (fun listed a' w' hw' hL => by
    have := wpAny_of_seq (md := .any) (Q' := Q) (l.drop n) n listed a' w' (fun j => by simp [List.getElem?_drop]) (by rw [hdl]; exact hL.1) (hL.2 w' hw')
    rwa [hdl] at this) _ _ _ _ hC H
  rw [htl, show n + (l.toArray.size - n) = l.toArray.size by omega] at this
  exact this
theorem wp_region_ext_tail {id : Nat} {Q : Exit → Act → World → Prop} {a : Act} {W : World} {l : List Oper} (n : Nat) (hm : P.follows .mixedOrders = true) (hB : Region.lexTailB .any l.toArray n = true)
    (h : wpQuiet P l.toArray (fun w' => ∃ x : Ext W, w' = x.w) (fun a' => ∀ w', (∃ x : Ext W, w' = x.w) → wpList P l.toArray Q (l.drop n) a' w') (l.take n) a) : (Code.region id l.toArray true).wp P Q a W :=
  wp_region_quiet_tail (C := fun w' => ∃ x : Ext W, w' = x.w) n hm hB ⟨⟨_, (Below.refl _ W).drew⟩, rfl⟩ h
end
end Go.Proofs.YtfbangojgjcbcaaGreatDoor
namespace Go.Proofs.YtfbangojgjcbcaaGreatDoor
open Go.RowKit Pl
section
variable {P : Program} {ops : Array Oper} {md : Region.Mode} {C : World → Prop}
def hangB (md : Region.Mode) (ops : Array Oper) (n : Nat) : Bool :=
  (List.range ops.size).all fun t => decide (t ≤ n) || (List.range t).any fun j => decide (n ≤ j) && Region.waitsFor md ops t j
theorem hang_waits {n : Nat} {listed : Array Bool} (hs : Region.sinkB md ops n = true) (hc : hangB md ops n = true) (inv : HeadInv md ops n listed) :
    ∀ (d i : Nat), n - i = d → i < n → listed.getD i true = false → ∀ t, n ≤ t → t ∉ Region.ready md ops listed := by
  intro d
  induction d using Nat.strongRecOn with
  | _ d ih =>
    intro i hd hi hun t ht hr
    obtain ⟨_, ot, hot, hall⟩ := mem_ready.1 hr
    have htlt : t < ops.size := (Array.getElem?_eq_some_iff.1 hot).1
    by_cases htn : t = n
    · subst htn
      have h1 := List.all_eq_true.1 hs i (List.mem_range.2 hi)
      obtain ⟨j, hj, hj2⟩ := List.any_eq_true.1 h1
      simp only [Bool.and_eq_true, decide_eq_true_eq] at hj2
      obtain ⟨oj, hoj, e, he, hb, hon⟩ := Region.waitsFor_spec hj2.2
      have hjle : j ≤ t := by have := List.mem_range.1 hj; omega
      by_cases hjt : j = t
      · subst hjt
        have : oj = ot := Option.some.inj (hoj.symm.trans hot)
        subst this
        have h2 := hall e he hb
        rw [hon, getD_both hun] at h2
        cases h2
      · cases hl : listed.getD j false with
        | true =>
          have h2 := inv.closed j oj hoj hl e he hb
          rw [hon, getD_both hun] at h2
          cases h2
        | false =>
          have hjs : j < listed.size := by rw [inv.size]; omega
          exact ih (t - j) (by omega) j rfl (by omega) (getD_in hjs hl) t (Nat.le_refl _) hr
    · have h1 := List.all_eq_true.1 hc t (List.mem_range.2 htlt)
      simp only [Bool.or_eq_true, decide_eq_true_eq] at h1
      rcases h1 with h1 | h1
      · omega
      · obtain ⟨j, hj, hj2⟩ := List.any_eq_true.1 h1
        simp only [Bool.and_eq_true, decide_eq_true_eq] at hj2
        obtain ⟨o', ho', e, he, hb, hon⟩ := Region.waitsFor_spec hj2.2
        have : o' = ot := Option.some.inj (ho'.symm.trans hot)
        subst this
        have h2 := hall e he hb
        have hjt := List.mem_range.1 hj
        rw [hon, getD_both (inv.tail j hj2.1 (by omega))] at h2
        cases h2
theorem headQ_first' {n i : Nat} {oi : Oper} {v : Value} {L : Array Bool → Act → Prop} (hi : ops[i]? = some oi) (hsel : ∀ (j : Nat) (o : Oper) cs b, ops[j]? = some o → o.op ≠ .select cs b)
    (hs : Region.sinkB md ops n = true) (hc : hangB md ops n = true) (hin : i < n)
    (hdone : ∀ listed a, L listed a → ∀ j ∈ Region.ready md ops listed, n ≤ j) :
    ∀ (f : Nat) (listed : Array Bool) (a : Act), HeadInv md ops n listed →
      (∀ j oj, ops[j]? = some oj → j ≠ i → listed.getD j true = false → (∀ e ∈ oj.after, Region.binds md e = true → e.on ≠ i) → oi.apart ops oj = true) →
      i ∈ Region.ready md ops listed → YieldsIn P ops C oi v a →
      headQ P md ops C n L f (listed.setIfInBounds i true) (a.put oi.dst v) → headQ P md ops C n L (f + 1) listed a := by
  intro f
  induction f with
  | zero =>
    intro listed a inv _ hr hy H
    have hun := (mem_ready.1 hr).1
    refine ⟨fun h => (by rw [h] at hr; cases hr), fun j hj => ?_⟩
    have hjn : j < n := by
      rcases Nat.lt_or_ge j n with h | h
      · exact h
      · exact absurd hj (hang_waits hs hc inv _ i rfl hin hun j h)
    refine ⟨hjn, ?_⟩
    by_cases hji : j = i
    · subst hji; exact hy.qOp hi H
    · have := hdone _ _ H j (ready_mono hj hji)
      omega
  | succ f ih =>
    intro listed a inv hfree hr hy H
    have hun := (mem_ready.1 hr).1
    refine ⟨fun h => (by rw [h] at hr; cases hr), fun j hj => ?_⟩
    have hjn : j < n := by
      rcases Nat.lt_or_ge j n with h | h
      · exact h
      · exact absurd hj (hang_waits hs hc inv _ i rfl hin hun j h)
    refine ⟨hjn, ?_⟩
    by_cases hji : j = i
    · subst hji; exact hy.qOp hi H
    · have h1 := (H.2 j (ready_mono hj hji)).2
      obtain ⟨hjun, oj, hoj, hall⟩ := mem_ready.1 hj
      have hnot : ∀ e ∈ oj.after, Region.binds md e = true → e.on ≠ i := fun e he hb heq => by
        have h1 := hall e he hb
        rw [heq, getD_both hun] at h1
        cases h1
      have h2 := qOp_put hoj (hfree j oj hoj hji hjun hnot) (fun cs b => hsel i oi cs b hi) (fun cs b => hsel j oj cs b hoj) hy h1
      have hfree' : ∀ k ok, ops[k]? = some ok → k ≠ i → (listed.setIfInBounds j true).getD k true = false →
          (∀ e ∈ ok.after, Region.binds md e = true → e.on ≠ i) → oi.apart ops ok = true := fun k ok hk hki hun hno => by
        refine hfree k ok hk hki ?_ hno
        by_cases hjk : j = k
        · subst hjk; exact hjun
        · rw [getD_set_ne true hjk] at hun; exact hun
      refine qOp_mono (fun a' h3 => ih (listed.setIfInBounds j true) a' (inv.set hj hjn) hfree' (ready_mono hr (Ne.symm hji)) h3.1 ?_) h2
      rw [Array.setIfInBounds_comm _ _ hji]
      exact h3.2
def midEnd (md : Region.Mode) (ops : Array Oper) (k : Nat) (listed : Array Bool) : Bool :=
  decide (Region.ready md ops listed = [k]) && Region.lexFrom md ops (ops.size - (k + 1)) (k + 1) (listed.setIfInBounds k true)
def lexMid (md : Region.Mode) (ops : Array Oper) : Nat → Nat → Array Bool → Bool
  | 0, k, listed => midEnd md ops k listed
  | f + 1, k, listed => (Region.ready md ops listed).contains k && Region.free md ops listed k && lexMid md ops f (k + 1) (listed.setIfInBounds k true)
def midB (md : Region.Mode) (ops : Array Oper) (n : Nat) : Bool :=
  Region.noSelect ops && decide (n < ops.size) && Region.sinkB md ops n && hangB md ops n && lexMid md ops n 0 (Array.replicate ops.size false)
theorem headQ_mid {n : Nat} {Lq : Act → Prop} (hsel : Region.noSelect ops = true) (hs : Region.sinkB md ops n = true) (hc : hangB md ops n = true) :
    ∀ (l : List Oper) (k : Nat) (listed : Array Bool) (a : Act), (∀ j, j < l.length → l[j]? = ops[k + j]?) → k + l.length = n → HeadInv md ops n listed →
    lexMid md ops l.length k listed = true → wpQuiet P ops C Lq l a →
    headQ P md ops C n (fun listed' a' => midEnd md ops n listed' = true ∧ Lq a') l.length listed a
  | [], k, listed, a, _, hk, _, hB, h => by
    have : k = n := by simpa using hk
    subst this
    exact ⟨by simpa [lexMid] using hB, h⟩
  | o :: l, k, listed, a, hl, hk, inv, hB, h => by
    have h0 : ops[k]? = some o := by simpa using (hl 0 (by simp)).symm
    simp only [List.length_cons, lexMid, Bool.and_eq_true] at hB
    obtain ⟨⟨hr, hf⟩, hB'⟩ := hB
    have hkn : k < n := by simp only [List.length_cons] at hk; omega
    have hr' : k ∈ Region.ready md ops listed := by simpa using hr
    have hst : qOp P ops C k (wpQuiet P ops C Lq l) a := by unfold qOp; simp only [h0]; exact h
    obtain ⟨v, hy, hK⟩ := yieldsIn_of_qOp h0 hst
    refine headQ_first' h0 (Region.noSelect_spec hsel) hs hc hkn (fun listed' a' hL => ?_) l.length listed a inv (Region.free_spec h0 hf) hr' hy
      (headQ_mid hsel hs hc l (k + 1) _ _ (fun j hj => by have := hl (j + 1) (by simp; omega); simpa [Nat.add_assoc, Nat.add_comm 1 j] using this) (by simp only [List.length_cons] at hk; omega) (inv.set hr' hkn) hB' hK)
    intro j hj
    have h1 := hL.1
    simp only [midEnd, Bool.and_eq_true, decide_eq_true_eq] at h1
    rw [h1.1] at hj
    have : j = n := by simpa using hj
    omega
/-- The head is quiet in C; then operation n; then the rest is quiet in whatever class holds behind it. -/
theorem wp_region_mid {id : Nat} {Q : Exit → Act → World → Prop} {a : Act} {w : World} {l : List Oper} (n : Nat) (o : Oper) (ho : l[n]? = some o) (hm : P.follows .mixedOrders = true) (hB : midB .any l.toArray n = true) (hC : C { w with drawn := w.drawn + 1 })
    (h : wpQuiet P l.toArray C (fun a' => ∀ w', C w' → ∀ K : Act → World → Prop, (∀ (C2 : World → Prop) a2 w2, C2 w2 → wpQuiet P l.toArray C2 (fun a3 => ∀ w3, C2 w3 → Q .normal a3 w3) (l.drop (n + 1)) a2 → K a2 w2) →
      if Region.wanted o (yielded l.toArray a'.tmps) = true then o.wp P a' w' K Q else K (a'.put o.dst undef) w') (l.take n) a) : (Code.region id l.toArray true).wp P Q a w := by
  simp only [midB, Bool.and_eq_true, decide_eq_true_eq] at hB
  obtain ⟨⟨⟨⟨hsel, hn⟩, hs⟩, hc⟩, hlex⟩ := hB
  have hn' : n < l.length := by simpa using hn
  have htl : (l.take n).length = n := by simp; omega
  have inv0 : HeadInv .any l.toArray n (Array.replicate l.toArray.size false) :=
    ⟨by simp, fun j oj _ hl => (by rw [getD_replicate_false] at hl; cases hl), fun t _ ht => getD_in (by simpa using ht) (getD_replicate_false _ _)⟩
  have H := headQ_mid (md := .any) hsel hs hc (l.take n) 0 _ a (fun j hj => by
    have hj' : j < n := by rw [htl] at hj; exact hj
    simp [hj']) (by simpa using htl) inv0 (by rw [htl]; exact hlex) h
  refine wp_region_any hm ?_
  have hg : l.toArray.size - n = (l.toArray.size - (n + 1)) + 1 := by omega
  have := wpAny_of_headQ (Q' := Q) (g := l.toArray.size - n) (fun listed a' w' hw' hL => by
    obtain ⟨hm1, hL⟩ := hL
    simp only [midEnd, Bool.and_eq_true, decide_eq_true_eq] at hm1
    rw [hg]
    refine ⟨fun h1 => (by rw [hm1.1] at h1; cases h1), fun i hi => ?_⟩
    rw [hm1.1] at hi
    obtain rfl : i = n := by simpa using hi
    have hk := hL w' hw' (wpAny P .any l.toArray Q (l.toArray.size - (i + 1)) (listed.setIfInBounds i true)) (fun C2 a2 w2 hC2 hq => by
      have hx := wpAnyQ_lex (C := C2) (md := .any) hsel (l.drop (i + 1)) (i + 1) (listed.setIfInBounds i true) a2 (fun j => by simp [List.getElem?_drop]) (by
        have : (l.drop (i + 1)).length = l.toArray.size - (i + 1) := by simp
        rw [this]; exact hm1.2) hq
      have : (l.drop (i + 1)).length = l.toArray.size - (i + 1) := by simp
      rw [this] at hx
      exact wpAny_of_quiet (Q := fun a' => ∀ w', C2 w' → Q .normal a' w') (fun _ w' hw' h => h w' hw') _ _ _ _ hC2 hx)
    unfold wpOp
    have ho' : l.toArray[i]? = some o := by simpa using ho
    simp only [ho']
    split
    · rename_i hw; rw [if_pos hw] at hk; exact .inl hk
    · rename_i hw; rw [if_neg hw] at hk; exact hk) _ _ _ _ hC H
  rw [htl, show n + (l.toArray.size - n) = l.toArray.size by omega] at this
  exact this
end
end Go.Proofs.YtfbangojgjcbcaaGreatDoor
namespace Go.Proofs.YtfbangojgjcbcaaGreatDoor
open Go.RowKit Pl
section
variable {P : Program} {ops : Array Oper} {md : Region.Mode}
theorem wp_then {o : Oper} {a : Act} {w : World} {K K' : Act → World → Prop} {Q : Exit → Act → World → Prop} (hh : o.wp P a w K (Exit.then K' Q)) : o.wp P a w K Q := by
  unfold Oper.wp at *
  generalize (execOp a.eval o).run P w = r at *
  cases r with
  | ok n w' =>
    cases n <;> simp only [Oper.upon] at hh ⊢ <;>
      first
        | exact hh
        | exact Calls.mono hh (fun e w'' he => by cases e <;> exact he)
  | halt x w' => cases x <;> simp only [Oper.upon] at hh ⊢ <;> exact hh
theorem wpOp_then {i : Nat} {a : Act} {w : World} {K K' : Act → World → Prop} {Q : Exit → Act → World → Prop} (hh : wpOp P ops (Exit.then K' Q) i K a w) : wpOp P ops Q i K a w := by
  unfold wpOp at *
  split
  · simpa [*] using hh
  · rename_i o ho
    simp only [ho] at hh
    split
    · rename_i hw; simp only [hw, if_true] at hh; exact hh.imp wp_then id
    · rename_i hw; simp only [hw] at hh; exact hh
theorem at_array {L : List Oper} {ops : Array Oper} (h : L.toArray = ops) (j : Nat) : L[j]? = ops[j]? := by rw [← h]; simp
def frontB (md : Region.Mode) (ops : Array Oper) (g : Nat) : Nat → Nat → Nat → Array Bool → Bool
  | 0, m, k, listed => Region.lexHead md ops g m k listed
  | f + 1, m, k, listed => decide (Region.ready md ops listed = [k]) && frontB md ops g f m (k + 1) (listed.setIfInBounds k true)
def frontTailB (md : Region.Mode) (ops : Array Oper) (f n : Nat) : Bool :=
  Region.noSelect ops && decide (n < ops.size) && decide (f ≤ n) && Region.sinkB md ops n && Region.chainB md ops n && frontB md ops (ops.size - n) f (n - f) 0 (Array.replicate ops.size false)
theorem wpAny_front {n f : Nat} {Q : Exit → Act → World → Prop} {L : List Oper} (hL : L.toArray = ops) (hsel : Region.noSelect ops = true) (hs : Region.sinkB md ops n = true) (hc : Region.chainB md ops n = true) (hn : n < ops.size) (hfn : f ≤ n) :
    ∀ (l : List Oper) (k : Nat) (listed : Array Bool) (a : Act) (w : World), (∀ j, j < l.length → l[j]? = ops[k + j]?) → k + l.length = f → HeadInv md ops n listed →
    frontB md ops (ops.size - n) l.length (n - f) k listed = true →
    wpList P ops (Exit.then (fun a1 w1 => ∃ C : World → Prop, C w1 ∧ wpQuiet P ops C (fun a' => ∀ w', C w' → wpList P ops Q (L.drop n) a' w') ((L.drop f).take (n - f)) a1) Q) l a w →
    wpAny P md ops Q (ops.size - k) listed a w
  | [], k, listed, a, w, _, hk, inv, hB, h => by
    obtain rfl : k = f := by simpa using hk
    obtain ⟨C, hC, hq⟩ := h
    have hsz : L.length = ops.size := by rw [← hL]; simp
    have htl : ((L.drop k).take (n - k)).length = n - k := by simp; omega
    have hat : ∀ j : Nat, L[j]? = ops[j]? := at_array hL
    have H := headQ_lex (md := md) (g := ops.size - n) hsel hs hc hn ((L.drop k).take (n - k)) k listed a (fun j hj => by
      rw [htl] at hj
      rw [List.getElem?_take, if_pos hj, List.getElem?_drop]; exact hat _) (by rw [htl]; omega) inv (by rw [htl]; exact hB) hq
    have hdl : (L.drop n).length = ops.size - n := by simp [hsz]
    have := wpAny_of_headQ (Q' := Q) (g := ops.size - n) (fun listed a' w' hw' hL2 => by
      have := wpAny_of_seq (md := md) (Q' := Q) (L.drop n) n listed a' w' (fun j => by rw [List.getElem?_drop]; exact hat _) (by rw [hdl]; exact hL2.1) (hL2.2 w' hw')
      rwa [hdl] at this) _ _ _ _ hC H
    rw [htl, show n - k + (ops.size - n) = ops.size - k by omega] at this
    exact this
  | o :: l, k, listed, a, w, hl, hk, inv, hB, h => by
    have h0 : ops[k]? = some o := by simpa using (hl 0 (by simp)).symm
    simp only [List.length_cons, frontB, Bool.and_eq_true, decide_eq_true_eq] at hB
    simp only [List.length_cons] at hk
    rw [show ops.size - k = (ops.size - (k + 1)) + 1 by omega]
    refine ⟨fun h1 => (by rw [hB.1] at h1; cases h1), fun i hi => ?_⟩
    have hi2 := hi
    rw [hB.1] at hi
    obtain rfl : i = k := by simpa using hi
    refine wpOp_then (K' := fun a1 w1 => ∃ C : World → Prop, C w1 ∧ wpQuiet P ops C (fun a' => ∀ w', C w' → wpList P ops Q (L.drop n) a' w') ((L.drop f).take (n - f)) a1) (wpOp_mono (K := wpList P ops (Exit.then (fun a1 w1 => ∃ C : World → Prop, C w1 ∧ wpQuiet P ops C (fun a' => ∀ w', C w' → wpList P ops Q (L.drop n) a' w') ((L.drop f).take (n - f)) a1) Q) l) (fun a' w' h' => wpAny_front hL hsel hs hc hn hfn l (i + 1) _ a' w' (fun j hj => by have := hl (j + 1) (by simp; omega); simpa [Nat.add_assoc, Nat.add_comm 1 j] using this) (by omega) (inv.set hi2 (by omega)) hB.2 h') ?_)
    unfold wpOp; simp only [h0]; exact h
/-- The first f operations in their order; those up to n quiet in a class that holds then; the rest in its order. -/
theorem wp_region_front {id : Nat} {Q : Exit → Act → World → Prop} {a : Act} {w : World} {l : List Oper} (f n : Nat) (hm : P.follows .mixedOrders = true) (hB : frontTailB .any l.toArray f n = true)
    (h : wpList P l.toArray (Exit.then (fun a1 w1 => ∃ C : World → Prop, C w1 ∧ wpQuiet P l.toArray C (fun a' => ∀ w', C w' → wpList P l.toArray Q (l.drop n) a' w') ((l.drop f).take (n - f)) a1) Q) (l.take f) a { w with drawn := w.drawn + 1 }) : (Code.region id l.toArray true).wp P Q a w := by
  simp only [frontTailB, Bool.and_eq_true, decide_eq_true_eq] at hB
  obtain ⟨⟨⟨⟨⟨hsel, hn⟩, hfn⟩, hs⟩, hc⟩, hfr⟩ := hB
  have hn' : n < l.length := by simpa using hn
  have htl : (l.take f).length = f := by simp; omega
  have inv0 : HeadInv .any l.toArray n (Array.replicate l.toArray.size false) :=
    ⟨by simp, fun j oj _ hl => (by rw [getD_replicate_false] at hl; cases hl), fun t _ ht => getD_in (by simpa using ht) (getD_replicate_false _ _)⟩
  refine wp_region_any hm ?_
  have := wpAny_front (md := .any) (L := l) rfl hsel hs hc hn hfn (l.take f) 0 _ a _ (fun j hj => by
    rw [htl] at hj
    simp [hj]) (by rw [htl]; simp) inv0 (by rw [htl]; exact hfr) h
  simpa using this
end
end Go.Proofs.YtfbangojgjcbcaaGreatDoor
namespace Go.Proofs.YtfbangojgjcbcaaGreatDoor
open Go.RowKit Pl
section
variable {P : Program} {ops : Array Oper} {md : Region.Mode} {C : World → Prop}
/-- Each operation of the head, but for the first f0, is waited for by a later one of the head, or by the tail's first. -/
def sinkF (md : Region.Mode) (ops : Array Oper) (f0 n : Nat) : Bool :=
  (List.range n).all fun i => decide (i < f0) || (List.range (n + 1)).any fun j => decide (i < j) && Region.waitsFor md ops j i
/-- Where an operation of the tail may come up, all of the head but its first f0 have come up. -/
theorem head_done {f0 n t : Nat} {listed : Array Bool} (hs : sinkF md ops f0 n = true) (hc : Region.chainB md ops n = true) (inv : HeadInv md ops n listed) (ht : n ≤ t) (hr : t ∈ Region.ready md ops listed) :
    ∀ (d i : Nat), n ≤ i + d → f0 ≤ i → i < n → listed.getD i false = true := by
  obtain ⟨-, ot, hot, hall⟩ := mem_ready.1 hr
  have hlt : t < ops.size := (Array.getElem?_eq_some_iff.1 hot).1
  have waits : ∀ {i : Nat}, Region.waitsFor md ops t i = true → listed.getD i false = true := fun h => by
    obtain ⟨o', ho', e, he, hb, rfl⟩ := Region.waitsFor_spec h
    rw [hot] at ho'
    cases ho'
    exact hall e he hb
  have htn : t = n := by
    have h1 := List.all_eq_true.1 hc t (List.mem_range.2 hlt)
    rcases (Bool.or_eq_true _ _).mp h1 with h1 | h1
    · have := of_decide_eq_true h1; omega
    · rcases Nat.lt_or_ge n t with h | h
      · have h2 := inv.tail (t - 1) (by omega) (by omega)
        have h3 := waits h1
        rw [getD_both h2] at h3
        cases h3
      · omega
  subst htn
  intro d
  induction d with
  | zero => intro i h1 _ h2; omega
  | succ d ih =>
    intro i hd hf hi
    have h1 := List.all_eq_true.1 hs i (List.mem_range.2 hi)
    rcases (Bool.or_eq_true _ _).mp h1 with h1 | h1
    · have := of_decide_eq_true h1; omega
    · obtain ⟨j, hj, h2⟩ := List.any_eq_true.1 h1
      obtain ⟨h3, h4⟩ := (Bool.and_eq_true _ _).mp h2
      have h3 := of_decide_eq_true h3
      have h5 := List.mem_range.1 hj
      rcases Nat.lt_or_ge j t with h6 | h6
      · have h7 := ih j (by omega) (by omega) h6
        obtain ⟨oj, hoj, e, he, hb, rfl⟩ := Region.waitsFor_spec h4
        exact inv.closed j oj hoj h7 e he hb
      · obtain rfl : j = t := by omega
        exact waits h4
theorem tail_waitsF {f0 n i : Nat} {listed : Array Bool} (hs : sinkF md ops f0 n = true) (hc : Region.chainB md ops n = true) (inv : HeadInv md ops n listed) (hi : i < n) (hfi : f0 ≤ i) (hun : listed.getD i true = false) :
    ∀ t, n ≤ t → t ∉ Region.ready md ops listed := fun t ht hr => by
  have := head_done hs hc inv ht hr n i (by omega) hfi hi
  rw [getD_both hun] at this
  cases this
theorem headF_first {f0 n i : Nat} {oi : Oper} {v : Value} {L : Array Bool → Act → Prop} (hi : ops[i]? = some oi) (hsel : ∀ (j : Nat) (o : Oper) cs b, ops[j]? = some o → o.op ≠ .select cs b)
    (hs : sinkF md ops f0 n = true) (hc : Region.chainB md ops n = true) (_hn : n < ops.size) (hin : i < n) (hfi : f0 ≤ i)
    (hdone : ∀ listed a, L listed a → ∀ j ∈ Region.ready md ops listed, n ≤ j) :
    ∀ (f : Nat) (listed : Array Bool) (a : Act), HeadInv md ops n listed →
      (∀ j oj, ops[j]? = some oj → j ≠ i → listed.getD j true = false → (∀ e ∈ oj.after, Region.binds md e = true → e.on ≠ i) → oi.apart ops oj = true) →
      i ∈ Region.ready md ops listed → YieldsIn P ops C oi v a →
      headQ P md ops C n L f (listed.setIfInBounds i true) (a.put oi.dst v) → headQ P md ops C n L (f + 1) listed a := by
  intro f
  induction f with
  | zero =>
    intro listed a inv _ hr hy H
    have hun := (mem_ready.1 hr).1
    refine ⟨fun h => (by rw [h] at hr; cases hr), fun j hj => ?_⟩
    have hjn : j < n := by
      rcases Nat.lt_or_ge j n with h | h
      · exact h
      · exact absurd hj (tail_waitsF hs hc inv hin hfi hun j h)
    refine ⟨hjn, ?_⟩
    by_cases hji : j = i
    · subst hji; exact hy.qOp hi H
    · have := hdone _ _ H j (ready_mono hj hji)
      omega
  | succ f ih =>
    intro listed a inv hfree hr hy H
    have hun := (mem_ready.1 hr).1
    refine ⟨fun h => (by rw [h] at hr; cases hr), fun j hj => ?_⟩
    have hjn : j < n := by
      rcases Nat.lt_or_ge j n with h | h
      · exact h
      · exact absurd hj (tail_waitsF hs hc inv hin hfi hun j h)
    refine ⟨hjn, ?_⟩
    by_cases hji : j = i
    · subst hji; exact hy.qOp hi H
    · have h1 := (H.2 j (ready_mono hj hji)).2
      obtain ⟨hjun, oj, hoj, hall⟩ := mem_ready.1 hj
      have hnot : ∀ e ∈ oj.after, Region.binds md e = true → e.on ≠ i := fun e he hb heq => by
        have h1 := hall e he hb
        rw [heq, getD_both hun] at h1
        cases h1
      have h2 := qOp_put hoj (hfree j oj hoj hji hjun hnot) (fun cs b => hsel i oi cs b hi) (fun cs b => hsel j oj cs b hoj) hy h1
      have hfree' : ∀ k ok, ops[k]? = some ok → k ≠ i → (listed.setIfInBounds j true).getD k true = false →
          (∀ e ∈ ok.after, Region.binds md e = true → e.on ≠ i) → oi.apart ops ok = true := fun k ok hk hki hun hno => by
        refine hfree k ok hk hki ?_ hno
        by_cases hjk : j = k
        · subst hjk; exact hjun
        · rw [getD_set_ne true hjk] at hun; exact hun
      refine qOp_mono (fun a' h3 => ih (listed.setIfInBounds j true) a' (inv.set hj hjn) hfree' (ready_mono hr (Ne.symm hji)) h3.1 ?_) h2
      rw [Array.setIfInBounds_comm _ _ hji]
      exact h3.2
theorem headF_lex {f0 n g : Nat} {Lq : Act → Prop} (hsel : Region.noSelect ops = true) (hs : sinkF md ops f0 n = true) (hc : Region.chainB md ops n = true) (hn : n < ops.size) :
    ∀ (l : List Oper) (k : Nat) (listed : Array Bool) (a : Act), (∀ j, j < l.length → l[j]? = ops[k + j]?) → k + l.length = n → f0 ≤ k → HeadInv md ops n listed →
    Region.lexHead md ops g l.length k listed = true → wpQuiet P ops C Lq l a →
    headQ P md ops C n (fun listed' a' => Region.seqB md ops g n listed' = true ∧ Lq a') l.length listed a
  | [], k, listed, a, _, hk, _, _, hB, h => by
    have : k = n := by simpa using hk
    subst this
    exact ⟨by simpa [Region.lexHead] using hB, h⟩
  | o :: l, k, listed, a, hl, hk, hfk, inv, hB, h => by
    have h0 : ops[k]? = some o := by simpa using (hl 0 (by simp)).symm
    simp only [List.length_cons, Region.lexHead, Bool.and_eq_true] at hB
    obtain ⟨⟨hr, hf⟩, hB'⟩ := hB
    have hkn : k < n := by simp only [List.length_cons] at hk; omega
    have hr' : k ∈ Region.ready md ops listed := by simpa using hr
    have hst : qOp P ops C k (wpQuiet P ops C Lq l) a := by unfold qOp; simp only [h0]; exact h
    obtain ⟨v, hy, hK⟩ := yieldsIn_of_qOp h0 hst
    exact headF_first h0 (Region.noSelect_spec hsel) hs hc hn hkn hfk (fun listed' a' hL => seqB_ready hL.1) l.length listed a inv (Region.free_spec h0 hf) hr' hy
      (headF_lex hsel hs hc hn l (k + 1) _ _ (fun j hj => by have := hl (j + 1) (by simp; omega); simpa [Nat.add_assoc, Nat.add_comm 1 j] using this) (by simp only [List.length_cons] at hk; omega) (by omega) (inv.set hr' hkn) hB' hK)
def floatB (md : Region.Mode) (ops : Array Oper) (n : Nat) : Bool :=
  Region.noSelect ops && decide (n < ops.size) && decide (0 < n) && sinkF md ops 1 n && Region.chainB md ops n && ((Region.ready md ops (Array.replicate ops.size false)).contains 0 && Region.free md ops (Array.replicate ops.size false) 0) && Region.lexHead md ops (ops.size - n) (n - 1) 1 ((Array.replicate ops.size false).setIfInBounds 0 true)
end
end Go.Proofs.YtfbangojgjcbcaaGreatDoor
namespace Go.Proofs.YtfbangojgjcbcaaGreatDoor
open Go.RowKit Pl
section
variable {P : Program} {ops : Array Oper} {md : Region.Mode} {C S : World → Prop} {Q : Exit → Act → World → Prop}
/-- 'wpAny', and S holds behind each operation that D does not let off. -/
def wpAnyD (P : Program) (md : Region.Mode) (ops : Array Oper) (Q : Exit → Act → World → Prop) (S : World → Prop) (D : Nat → Bool) : Nat → Array Bool → Act → World → Prop
  | 0, listed, a, w => Region.ready md ops listed = [] ∧ Q .normal a w
  | fuel + 1, listed, a, w =>
    (Region.ready md ops listed = [] → Q .normal a w) ∧
    ∀ i ∈ Region.ready md ops listed, wpOp P ops Q i (fun a' w' => (D i = false → S w') ∧ wpAnyD P md ops Q S D fuel (listed.setIfInBounds i true) a' w') a w
theorem wpAny_of_D {D : Nat → Bool} : ∀ (fuel : Nat) (listed : Array Bool) (a : Act) (w : World), wpAnyD P md ops Q S D fuel listed a w → wpAny P md ops Q fuel listed a w
  | 0, _, _, _, h => h
  | fuel + 1, _, _, _, h => ⟨h.1, fun i hi => wpOp_mono (fun a' w' h' => wpAny_of_D fuel _ a' w' h'.2) (h.2 i hi)⟩
/-- What a listed operation waits for is listed. -/
def Closed (md : Region.Mode) (ops : Array Oper) (listed : Array Bool) : Prop :=
  ∀ j oj, ops[j]? = some oj → listed.getD j false = true → ∀ e ∈ oj.after, Region.binds md e = true → listed.getD e.on false = true
theorem Closed.set {i : Nat} {listed : Array Bool} (h : Closed md ops listed) (hi : i ∈ Region.ready md ops listed) : Closed md ops (listed.setIfInBounds i true) := by
  obtain ⟨_, oi, hoi, hall⟩ := mem_ready.1 hi
  intro j oj hj hl e he hb
  by_cases hij : i = j
  · subst hij
    have : oj = oi := Option.some.inj (hj.symm.trans hoi)
    subst this
    exact getD_set_true (hall e he hb)
  · rw [getD_set_ne false hij] at hl
    exact getD_set_true (h j oj hj hl e he hb)
theorem wpAnyD_first {D : Nat → Bool} {i : Nat} {oi : Oper} {v : Value} (hi : ops[i]? = some oi) (hsel : ∀ (j : Nat) (o : Oper) cs b, ops[j]? = some o → o.op ≠ .select cs b)
    (hQ : ∀ c a w, Q (.panic c) (a.put oi.dst v) w → Q (.panic c) a w)
    (hD : ∀ (listed : Array Bool) (j : Nat), Closed md ops listed → listed.getD i true = false → j ∈ Region.ready md ops listed → j ≠ i → D j = false) :
    ∀ (fuel : Nat) (listed : Array Bool) (a : Act) (w : World), Closed md ops listed →
      (∀ j oj, ops[j]? = some oj → j ≠ i → listed.getD j true = false → (∀ e ∈ oj.after, Region.binds md e = true → e.on ≠ i) → oi.apart ops oj = true) →
      i ∈ Region.ready md ops listed → YieldsIf P ops S oi v a → S w →
      wpAnyD P md ops Q S D fuel (listed.setIfInBounds i true) (a.put oi.dst v) w → wpAny P md ops Q (fuel + 1) listed a w := by
  intro fuel
  induction fuel with
  | zero =>
    intro listed a w _ _ hr hy hS H
    refine ⟨fun h => (by rw [h] at hr; cases hr), fun j hj => ?_⟩
    by_cases hji : j = i
    · subst hji; exact hy.wpOp hi hS H
    · have := ready_mono hj hji
      rw [H.1] at this
      cases this
  | succ fuel ih =>
    intro listed a w hcl hfree hr hy hS H
    refine ⟨fun h => (by rw [h] at hr; cases hr), fun j hj => ?_⟩
    by_cases hji : j = i
    · subst hji; exact hy.wpOp hi hS (wpAny_of_D _ _ _ _ H)
    · have h1 := H.2 j (ready_mono hj hji)
      have hun := (mem_ready.1 hr).1
      have hDj := hD listed j hcl hun hj hji
      obtain ⟨hjun, oj, hoj, hall⟩ := mem_ready.1 hj
      have hnot : ∀ e ∈ oj.after, Region.binds md e = true → e.on ≠ i := fun e he hb heq => by
        have h1 := hall e he hb
        rw [heq, getD_both hun] at h1
        cases h1
      have h2 := wpOp_putIf hoj (hfree j oj hoj hji hjun hnot) (fun cs b => hsel i oi cs b hi) (fun cs b => hsel j oj cs b hoj) hQ hy h1
      have hfree' : ∀ k ok, ops[k]? = some ok → k ≠ i → (listed.setIfInBounds j true).getD k true = false →
          (∀ e ∈ ok.after, Region.binds md e = true → e.on ≠ i) → oi.apart ops ok = true := fun k ok hk hki hun hno => by
        refine hfree k ok hk hki ?_ hno
        by_cases hjk : j = k
        · subst hjk; exact hjun
        · rw [getD_set_ne true hjk] at hun; exact hun
      refine wpOp_mono (fun a' w' h3 => ih (listed.setIfInBounds j true) a' w' (hcl.set hj) hfree' (ready_mono hr (Ne.symm hji)) h3.1 (h3.2.1 hDj) ?_) h2
      rw [Array.setIfInBounds_comm _ _ hji]
      exact h3.2.2
/-- No operation behind number n + 1 comes up ahead of number 0. -/
theorem late_waits {n : Nat} (hc : Region.chainB md ops n = true) (h0 : Region.waitsFor md ops (n + 1) 0 = true) (listed : Array Bool) (j : Nat) (hcl : Closed md ops listed) (hun : listed.getD 0 true = false)
    (hj : j ∈ Region.ready md ops listed) (_ : j ≠ 0) : decide (n < j) = false := by
  have step : ∀ k, n < k → k < ops.size → Region.waitsFor md ops k (if k = n + 1 then 0 else k - 1) = true := fun k hk hlt => by
    by_cases hk1 : k = n + 1
    · subst hk1; rw [if_pos rfl]; exact h0
    · rw [if_neg hk1]
      have h1 := List.all_eq_true.1 hc k (List.mem_range.2 hlt)
      rcases (Bool.or_eq_true _ _).mp h1 with h1 | h1
      · have := of_decide_eq_true h1; omega
      · exact h1
  have claim : ∀ k, n < k → k < ops.size → listed.getD k false = true → False := by
    intro k
    induction k using Nat.strongRecOn with
    | _ k ih =>
      intro hk hlt hl
      obtain ⟨o, ho, e, he, hb, hon⟩ := Region.waitsFor_spec (step k hk hlt)
      have h2 := hcl k o ho hl e he hb
      rw [hon] at h2
      by_cases hk1 : k = n + 1
      · rw [if_pos hk1, getD_both hun] at h2; cases h2
      · rw [if_neg hk1] at h2
        exact ih (k - 1) (by omega) (by omega) (by omega) h2
  refine decide_eq_false fun hnj => ?_
  obtain ⟨_, oj, hoj, hall⟩ := mem_ready.1 hj
  have hlt : j < ops.size := (Array.getElem?_eq_some_iff.1 hoj).1
  obtain ⟨o, ho, e, he, hb, hon⟩ := Region.waitsFor_spec (step j hnj hlt)
  have : o = oj := Option.some.inj (ho.symm.trans hoj)
  subst this
  have h2 := hall e he hb
  rw [hon] at h2
  by_cases hk1 : j = n + 1
  · rw [if_pos hk1, getD_both hun] at h2; cases h2
  · rw [if_neg hk1] at h2
    exact claim (j - 1) (by omega) (by omega) h2
theorem wpAnyD_of_headQ {D : Nat → Bool} {n g : Nat} {L : Array Bool → Act → Prop} (hL : ∀ listed a w, C w → L listed a → wpAnyD P md ops Q C D g listed a w) :
    ∀ (f : Nat) (listed : Array Bool) (a : Act) (w : World), C w → headQ P md ops C n L f listed a → wpAnyD P md ops Q C D (f + g) listed a w
  | 0, listed, a, w, hw, h => by rw [Nat.zero_add]; exact hL _ _ _ hw h
  | f + 1, listed, a, w, hw, h => by
    rw [show f + 1 + g = (f + g) + 1 by omega]
    exact ⟨fun h0 => absurd h0 h.1, fun i hi => wpOp_of_qOp hw (fun a' w' hw' h' => ⟨fun _ => hw', wpAnyD_of_headQ hL f _ a' w' hw' h'⟩) (h.2 i hi).2⟩
/-- A tail in one forced order, all of whose operations are let off. -/
theorem wpAnyD_of_seq {D : Nat → Bool} : ∀ (l : List Oper) (k : Nat) (listed : Array Bool) (a : Act) (w : World), (∀ j, l[j]? = ops[k + j]?) → (∀ j, k ≤ j → D j = true) →
    Region.seqB md ops l.length k listed = true → wpList P ops Q l a w → wpAnyD P md ops Q S D l.length listed a w
  | [], _, _, _, _, _, _, hB, h => ⟨by simpa [Region.seqB] using hB, h⟩
  | o :: l, k, listed, a, w, hl, hD, hB, h => by
    have h0 : ops[k]? = some o := by simpa using (hl 0).symm
    simp only [List.length_cons, Region.seqB, Bool.and_eq_true, decide_eq_true_eq] at hB
    refine ⟨fun h1 => (by rw [hB.1] at h1; cases h1), fun i hi => ?_⟩
    rw [hB.1] at hi
    have hik : i = k := by simpa using hi
    subst hik
    have hw : wpOp P ops Q i (wpList P ops Q l) a w := by unfold wpOp; simp only [h0]; exact h
    exact wpOp_mono (fun a' w' h' => ⟨fun h => (by rw [hD i (Nat.le_refl _)] at h; cases h), wpAnyD_of_seq l (i + 1) _ a' w' (fun j => by have := hl (j + 1); simpa [Nat.add_assoc, Nat.add_comm 1 j] using this) (fun j hj => hD j (by omega)) hB.2 h'⟩) hw
theorem wpList_one {o : Oper} {K : Act → World → Prop} {k : Nat} {a : Act} {w : World} (h0 : ops[k]? = some o) (h : wpList P ops (Exit.then K Q) [o] a w) : wpOp P ops Q k K a w := by
  unfold wpOp
  simp only [h0]
  unfold wpList at h
  have hn : ∀ a w, wpList P ops (Exit.then K Q) [] a w = K a w := fun _ _ => rfl
  split
  · rename_i hw
    rw [if_pos hw] at h
    rcases h with h | h
    · refine .inl ?_
      unfold Oper.wp at *
      generalize (execOp a.eval o).run P w = r at *
      cases r with
      | ok n w' =>
        cases n <;> simp only [Oper.upon] at h ⊢
        case value => exact h
        case skip => exact h
        case defer => exact h
        case enter f args =>
          refine Calls.mono h fun e w'' he => ?_
          cases e with
          | returned u => exact he
          | panicked c => exact he
          | outgrown => obtain ⟨a, w, he⟩ := he; exact ⟨a, w, he⟩
        case row => exact h
      | halt x w' =>
        cases x <;> simp only [Oper.upon] at h ⊢
        case panic => exact h
    · exact .inr ⟨h.1, by obtain ⟨a, w, he⟩ := h.2; exact ⟨a, w, he⟩⟩
  · rename_i hw
    rw [if_neg hw] at h
    exact h
def loadB (md : Region.Mode) (ops : Array Oper) (n : Nat) : Bool := floatB md ops n && Region.waitsFor md ops (n + 1) 0
theorem wp_region_ext_load {id : Nat} {Q : Exit → Act → World → Prop} {a : Act} {W : World} {l : List Oper} {o0 on : Oper} {v : Value} {l' : List Oper} (n : Nat) (hm : P.follows .mixedOrders = true) (hB : loadB .any l.toArray n = true) (hl : l = o0 :: l')
    (hon : l.drop n = on :: l.drop (n + 1)) (hy : YieldsIf P l.toArray (fun w' => ∃ x : Ext W, w' = x.w) o0 v a) (hQ : ∀ c a w, Q (.panic c) (a.put o0.dst v) w → Q (.panic c) a w)
    (h : wpQuiet P l.toArray (fun w' => ∃ x : Ext W, w' = x.w)
      (fun a' => ∀ w', (∃ x : Ext W, w' = x.w) → wpList P l.toArray (Exit.then (fun a2 w2 => (∃ x : Ext W, w2 = x.w) ∧ wpList P l.toArray Q (l.drop (n + 1)) a2 w2) Q) [on] a' w')
      ((l.take n).drop 1) (a.put o0.dst v)) : (Code.region id l.toArray true).wp P Q a W := by
  have h0 : l.toArray[0]? = some o0 := by rw [hl]; simp
  simp only [loadB, floatB, Bool.and_eq_true, decide_eq_true_eq] at hB
  obtain ⟨⟨⟨⟨⟨⟨⟨hsel, hn⟩, hn0⟩, hs⟩, hc⟩, hr, hf⟩, hlex⟩, hw0⟩ := hB
  have hn' : n < l.length := by simpa using hn
  have htl : ((l.take n).drop 1).length = n - 1 := by simp; omega
  have hdl : (l.drop n).length = l.toArray.size - n := by simp
  have hln : l.toArray[n]? = some on := by
    have := congrArg (fun m => m[0]?) hon
    simpa using this
  have inv0 : HeadInv .any l.toArray n (Array.replicate l.toArray.size false) :=
    ⟨by simp, fun j oj _ hl => (by rw [getD_replicate_false] at hl; cases hl), fun t _ ht => getD_in (by simpa using ht) (getD_replicate_false _ _)⟩
  have hr0 : 0 ∈ Region.ready .any l.toArray (Array.replicate l.toArray.size false) := by simpa using hr
  have inv1 := inv0.set hr0 hn0
  have H := headF_lex (md := .any) (f0 := 1) (g := l.toArray.size - n) hsel hs hc hn ((l.take n).drop 1) 1 _ (a.put o0.dst v) (fun j hj => by
    have hj' : j < n - 1 := by rw [htl] at hj; exact hj
    rw [List.getElem?_drop, List.getElem?_take, if_pos (by omega)]
    simp) (by rw [htl]; omega) (Nat.le_refl _) inv1 (by rw [htl]; exact hlex) h
  refine wp_region_any hm ?_
  have key := wpAnyD_of_headQ (Q := Q) (D := fun j => decide (n < j)) (g := l.toArray.size - n) (fun listed a' w' hw' hL => by
    have hseq := hL.1
    have h1 := wpList_one hln (hL.2 w' hw')
    rw [← hdl, hon, List.length_cons] at hseq ⊢
    simp only [Region.seqB, Bool.and_eq_true, decide_eq_true_eq] at hseq
    refine ⟨fun h1 => (by rw [hseq.1] at h1; cases h1), fun i hi => ?_⟩
    rw [hseq.1] at hi
    have hik : i = n := by simpa using hi
    subst hik
    exact wpOp_mono (fun a2 w2 h2 => ⟨fun _ => h2.1, wpAnyD_of_seq (l.drop (i + 1)) (i + 1) _ a2 w2 (fun j => by simp [List.getElem?_drop]) (fun j hj => decide_eq_true (by omega)) hseq.2 h2.2⟩) h1)
    _ _ _ ({ W with drawn := W.drawn + 1 }) ⟨⟨_, (Below.refl _ W).drew⟩, rfl⟩ H
  have h2 := wpAnyD_first (md := .any) (Q := Q) h0 (Region.noSelect_spec hsel) hQ (fun listed j hcl hun hj hji => late_waits hc hw0 listed j hcl hun hj hji) (n - 1 + (l.toArray.size - n)) _ a
    ({ W with drawn := W.drawn + 1 }) (fun j oj _ hl => (by rw [getD_replicate_false] at hl; cases hl)) (Region.free_spec h0 hf) hr0 hy ⟨⟨_, (Below.refl _ W).drew⟩, rfl⟩ (by rw [htl] at key; exact key)
  rw [show n - 1 + (l.toArray.size - n) + 1 = l.toArray.size by omega] at h2
  exact h2
end
end Go.Proofs.YtfbangojgjcbcaaGreatDoor
namespace Go.Proofs.YtfbangojgjcbcaaGreatDoor
open Go.RowKit Pl
theorem cmpA (x y : Int) (w : World) : Calls Tryz.prog 168 #[.int .u32 x, .int .u32 y] w fun e w' => e = .returned (.int .i64 (cmpI x y)) ∧ w = w' := by
  unfold cmpI
  by_cases h : x < y
  · rw [if_pos h]
    go_enter Tryz.func168, Tryz.ntmps168
    go_wp2
    go_ret
    exact ⟨rfl, rfl⟩
  · rw [if_neg h]
    by_cases h2 : y < x
    · rw [if_pos h2]
      go_enter Tryz.func168, Tryz.ntmps168
      go_wp2
      go_ret
      exact ⟨rfl, rfl⟩
    · rw [if_neg h2]
      go_enter Tryz.func168, Tryz.ntmps168
      go_wp2
      go_ret
      exact ⟨rfl, rfl⟩
theorem cmpL (x y : Int) (w : World) : Calls Tryz.prog 169 #[.int .i64 x, .int .i64 y] w fun e w' => e = .returned (.int .i64 (cmpI x y)) ∧ w = w' := by
  unfold cmpI
  by_cases h : x < y
  · rw [if_pos h]
    go_enter Tryz.func169, Tryz.ntmps169
    go_wp2
    go_ret
    exact ⟨rfl, rfl⟩
  · rw [if_neg h]
    by_cases h2 : y < x
    · rw [if_pos h2]
      go_enter Tryz.func169, Tryz.ntmps169
      go_wp2
      go_ret
      exact ⟨rfl, rfl⟩
    · rw [if_neg h2]
      go_enter Tryz.func169, Tryz.ntmps169
      go_wp2
      go_ret
      exact ⟨rfl, rfl⟩
def orI (x y : Int) : Int := if x = 0 then y else x
def OrRel (x y : Int) (j : Nat) : Prop := (1 ≤ j → x = 0) ∧ (2 ≤ j → y = 0)
theorem orI_zero (y : Int) : orI 0 y = y := by simp [orI]
theorem orI_ne (x y : Int) (h : ¬ x = 0) : orI x y = x := by simp [orI, h]
set_option maxHeartbeats 400000 in
theorem or2 (x y : Int) (b : Nat) (w : World) (h0 : w.cell? ⟨b, 0, none⟩ = some (.int .i64 x)) (h1 : w.cell? ⟨b, 1, none⟩ = some (.int .i64 y)) :
    Calls Tryz.prog 167 #[.slice (some ⟨b, 0, none⟩) 2 2] w fun e w' => e = .returned (.int .i64 (orI x y)) ∧ w = w' := by
  go_enter Tryz.func167, Tryz.ntmps167
  go_wp2
  go_loop [8] (fun i => ∃ j : Nat, j ≤ 2 ∧ i = .int .i64 j ∧ OrRel x y j) (fun i => 2 - (intOf i).toNat)
  case atStart => exact ⟨0, by omega, rfl, (fun h => by omega), (fun h => by omega)⟩
  case round =>
    obtain ⟨j, hj, rfl, HR⟩ := hrel
    obtain rfl | rfl | rfl : j = 0 ∨ j = 1 ∨ j = 2 := by omega
    · by_cases hx : x = 0
      · subst hx
        go_wp2
        go_round
        case rel => exact ⟨1, by omega, rfl, (fun _ => rfl), (fun h => by omega)⟩
        case measure => simp [intOf]
      · have d : (x != 0) = true := by simpa using hx
        go_wp2
        go_ret
        exact ⟨ret_int (orI_ne x y hx).symm, rfl⟩
    · have hx := HR.1 (Nat.le_refl _)
      subst hx
      by_cases hy : y = 0
      · subst hy
        go_wp2
        go_round
        case rel => exact ⟨2, by omega, rfl, (fun _ => rfl), (fun _ => rfl)⟩
        case measure => simp [intOf]
      · have d : (y != 0) = true := by simpa using hy
        go_wp2
        go_ret
        exact ⟨ret_int (orI_zero _).symm, rfl⟩
    · have hx := HR.1 (by omega)
      have hy := HR.2 (by omega)
      subst hx; subst hy
      go_wp2
      go_ret
      exact ⟨ret_int (orI_zero _).symm, rfl⟩
theorem cmpP_eq (a n b m : Int) : cmpP a n b m = orI (cmpI a b) (cmpI n m) := rfl
set_option maxRecDepth 100000 in
set_option maxHeartbeats 400000 in
theorem compare_any (a n b m : Int) (w : World) :
    Calls Tryz.prog 130 #[.agg #[.int .u32 a, .int .i64 n], .agg #[.int .u32 b, .int .i64 m]] w fun e w' => e = .returned (.int .i64 (cmpP a n b m)) ∧ Below w.heap.size w w' := by
  rw [cmpP_eq]
  go_enter Tryz.func130, Tryz.ntmps130
  go_wp2
  refine wp_region_ext_tail 10 (by kernel_rfl) (by kernel_rfl) ?_
  simp only [List.take_succ_cons, List.take_zero, List.drop_succ_cons, List.drop_zero]
  repeat (go_big_quiet_step (first | (go_at_call 168; exact Ext.callq (cmpA a b _)) | (go_at_call 169; exact Ext.callq (cmpL n m _))))
  refine wpQuiet_nil ?_
  rintro _ ⟨y, rfl⟩
  go_wp2_with (go_at_call 167; refine (or2 (cmpI a b) (cmpI n m) _ _ (by simp) (by simp)).mono ?_; rintro e w' ⟨rfl, rfl⟩)
  go_ret
  exact ⟨rfl, (by repeat (first | exact Below.refl _ _ | apply Below.drew | apply Go.below_drewN | apply bel_alloc | apply Ext.lift | apply bel_set0 | apply bel_set))⟩
end Go.Proofs.YtfbangojgjcbcaaGreatDoor
namespace Go.Proofs.YtfbangojgjcbcaaGreatDoor
open Go.RowKit Pl
theorem str_data (l : List UInt8) : (str l).data.toList = l := by simp [str]
theorem str_size (l : List UInt8) : (str l).size = l.length := by simp [str, ByteArray.size]
theorem itoa_any (n : Int) (w : World) (h0 : -1000000000 ≤ n) (h1 : n ≤ 1000000000) (E : Env w) :
    Calls Tryz.prog 58 #[.int .i64 n] w fun e w' => e = .returned (.string (str (Lib.itoa n))) ∧ Below w.heap.size w w' :=
  (Tryz.strconv_Itoa n (by omega) (by omega) w E.pow).mono fun _ _ ⟨he, k, os, hw⟩ => ⟨he, by rw [hw]; exact Lib.below_grow _ _ (Nat.le_refl _) _ _⟩
theorem and255 (x : Nat) (h : x < 4294967296) : bits .and .u32 (x : Int) 255 = ((x % 256 : Nat) : Int) := by
  have := u32_and_nat x 255 h (by decide)
  rw [show (255 : Nat) = 2 ^ 8 - 1 from rfl, and_low] at this
  simpa using this
theorem text_rel {w wr w1 : World} {a j : Nat} {v v' : Value} (hj : j < 4) (hb : Below w.heap.size w wr) (hown : wr.ownsRow w.heap.size 9 1 v j (((octs a).take j).map fun l => .string (str l)))
    (hown' : w1.ownsRow w.heap.size 9 1 v' (j + 1) ((((octs a).take j).map fun l => .string (str l)) ++ [.string (str (Lib.itoa ((oct a j : Nat) : Int)))])) (hg : wr.grownBy w1 v.ownBlock) :
    w1.ownsRow w.heap.size 9 1 v' (j + 1) (((octs a).take (j + 1)).map fun l => .string (str l)) ∧ Below w.heap.size w w1 := by
  constructor
  · rw [octs_take a j hj, List.map_append]
    rw [itoa_nat] at hown'
    exact hown'
  · exact hb.grown hg hb.size fun g hg => (hown.lt g hg).1
theorem join_own {base n : Nat} {v : Value} {ls : List (List UInt8)} {sep : List UInt8} (w : World) (h : w.ownsRow base 9 1 v n (ls.map fun l => .string (str l))) (h0 : 0 < n) (hn : n ≤ 100000) (hlen : (Lib.join ls sep).length ≤ 1000000) :
    Calls Tryz.prog 139 #[v, .string (str sep)] w fun e w' => e = .returned (.string (str (Lib.join ls sep))) ∧ Below w.heap.size w w' := by
  obtain ⟨g, cap, hv, _, hlt⟩ := h.form h0
  subst hv
  have hl : ls.length = n := by have := h.1; simpa using this
  have hcap : n ≤ cap := by
    rcases h.2 with ⟨h', _⟩ | ⟨g', cap', cur, h', _, _, hnc, _⟩
    · cases h'
    · injection h' with _ _ h'; omega
  have e1 : (ls.map str).map (·.data.toList) = ls := by rw [List.map_map]; exact (List.map_congr_left (fun l _ => str_data l)).trans (List.map_id _)
  have key := Tryz.strings_Join g 0 cap (ls.map str) (str sep) w (fun j x hx => by
      have hx' : (ls.map fun l => Value.string (str l))[j]? = some (.string x) := by
        simp only [List.getElem?_map, Option.map_eq_some_iff] at hx ⊢
        obtain ⟨l, h1, h2⟩ := hx
        exact ⟨l, h1, by rw [h2]⟩
      have := h.cells (g := g) rfl j _ hx'
      rw [show ((⟨g, 0, none⟩ : Addr).add j) = ⟨g, 0 + j, none⟩ from by unfold Addr.add; by_cases hj : j = 0 <;> simp [hj]] at this
      exact this) hlt (by simp; omega) (by simp; omega) (by rw [e1, str_data]; omega)
  rw [e1, str_data] at key
  rw [List.length_map, hl] at key
  exact key
set_option maxRecDepth 100000 in
set_option maxHeartbeats 400000 in
theorem addrText_any (a : Nat) (w : World) (ha : a < 4294967296) (E : Env w) :
    Calls Tryz.prog 124 #[.int .u32 a] w fun e w' => e = .returned (.string (str (addrText a))) ∧ Below w.heap.size w w' := by
  go_enter Tryz.func124, Tryz.ntmps124
  go_wp2
  go_loopw [3, 5] (fun v i wr => ∃ j : Nat, j ≤ 4 ∧ i = .int .i64 j ∧ wr.ownsRow w.heap.size 9 1 v j (((octs a).take j).map fun l => .string (str l)) ∧ Below w.heap.size w wr) (fun _ i _ => 4 - (intOf i).toNat)
  case atStart => exact ⟨0, Nat.zero_le _, rfl, by simpa using World.ownsRow_nil _ _ _ _, Below.refl _ _⟩
  case round =>
    obtain ⟨j, hj, rfl, hown, hb⟩ := hrel
    by_cases hlt : j < 4
    · have hbs := hb.size
      have hq : a / 2 ^ (8 * (3 - j)) < 4294967296 := Nat.lt_of_le_of_lt (Nat.div_le_self _ _) ha
      have hand : bits .and .u32 ((a : Int) / 2 ^ (8 * (3 - j))) 255 = (oct a j : Int) := by
        have := and255 _ hq
        simpa [oct] using this
      have ho : oct a j < 256 := oct_lt a j
      have E1 := E.here hb
      clear hq
      go_wp2_with (first | (go_at_call 58; refine (ext_of (itoa_any _ _ (by omega) (by omega) E1)).mono ?_; rintro e w' ⟨rfl, y, rfl⟩; have hown1 := own_below hown y.below; have hb1 := Ext.lift y hb; have hbs1 := hb1.size) | (at_builtin; refine wpList_push rfl _ _ 40 rfl w.heap.size 9 info_str rfl (by decide) Tryz.underlying40 _ _ _ rfl hown1 rfl rfl (by omega) hbs1 ?_; intro v' w1 hown' hg))
      have R := text_rel hlt hb1 hown1 hown' hg
      clear hown hown1 hown' hg hb hb1 hand
      go_wp2
      go_roundw
      case rel => exact ⟨j + 1, by omega, by go_num, R.1, R.2⟩
      case measure => simp [intOf]; omega
    · obtain rfl : j = 4 := by omega
      rw [List.take_of_length_le (by rw [octs_length]; exact Nat.le_refl _)] at hown
      have hl := addrText_len a
      have HJ := Lib.hid (join_own (sep := [46]) wr hown (by omega) (by omega) (by unfold addrText at hl; omega))
      go_wp2_with (go_at_call 139; refine HJ.out.mono ?_; rintro e w' ⟨rfl, hb1⟩)
      go_ret
      exact ⟨rfl, hb.trans (hb1.mono hb.size)⟩
theorem str_append (l m : List UInt8) : str l ++ str m = str (l ++ m) := by
  apply ByteArray.ext
  simp [str]
theorem itoa_size (n : Int) (h0 : 0 ≤ n) (h1 : n < 1000) : (str (Lib.itoa n)).size ≤ 3 := by
  obtain ⟨m, rfl⟩ := Int.eq_ofNat_of_zero_le h0
  rw [str_size, itoa_nat]; exact dec_len m (by omega)
set_option maxRecDepth 100000 in
set_option maxHeartbeats 400000 in
theorem prefixText_ok (a n : Nat) (w : World) (ha : a < 4294967296) (hm : mayP a n = true) (E : Env w) :
    Calls Tryz.prog 125 #[.agg #[.int .u32 a, .int .i64 n]] w fun e w' => e = .returned (.tuple #[.string (str (prefixText a n)), .int .i64 0]) ∧ Below w.heap.size w w' := by
  obtain ⟨h0, h1⟩ := mayP_len hm
  have HT : Hid (str (prefixText a n) = str (addrText a) ++ str [47] ++ str (Lib.itoa n)) := Lib.hid (by simp only [str_append, itoa_nat, prefixText]; congr 1; simp)
  have HM := Lib.hid hm; clear hm
  have hs1 : (str (addrText a)).size ≤ 15 := by rw [str_size]; exact addrText_len a
  have hs2 : (str (Lib.itoa n)).size ≤ 3 := itoa_size n h0 (by omega)
  have E1 := E.alloc (.cells #[.int .u32 a, .int .i64 n] 86)
  go_enter Tryz.func125, Tryz.ntmps125
  go_wp2_with (go_at_call 134; refine (ext_of (may_true a n _ ⟨by omega, by omega⟩ HM.out)).mono ?_; rintro e w' ⟨rfl, y, rfl⟩)
  have E2 := y.env E1
  have hz : w.heap.size < y.w.heap.size := by have := y.below.size; simp only [World.size_alloc] at this; omega
  refine wp_region_ext (by kernel_rfl) (by kernel_rfl) ?_
  repeat (go_big_quiet_step (first | (go_at_call 124; exact Ext.call (addrText_any a _ ha (Ext.env _ E2))) | (go_at_call 58; exact Ext.call (itoa_any n _ (by omega) (by omega) (Ext.env _ E2)))))
  refine wpQuiet_nil ?_
  rintro _ ⟨z, rfl⟩
  go_wp2
  go_ret2
  exact ⟨by rw [HT.out]; rfl, (by repeat (first | exact Below.refl _ _ | apply Below.drew | apply Go.below_drewN | apply bel_alloc | apply Ext.lift | apply bel_set0 | apply bel_set))⟩
theorem prefixText_err (a n : Int) (w : World) (ha : IsAddr a) (hm : mayP a n = false) :
    Calls Tryz.prog 125 #[.agg #[.int .u32 a, .int .i64 n]] w fun e w' => e = .returned (.tuple #[.string ⟨#[]⟩, .int .i64 2]) ∧ Below w.heap.size w w' := by
  have HM := Lib.hid hm; clear hm
  go_enter Tryz.func125, Tryz.ntmps125
  go_wp2_with (go_at_call 134; refine (ext_of (may_false a n _ ha HM.out)).mono ?_; rintro e w' ⟨rfl, y, rfl⟩)
  go_ret2
  exact ⟨rfl, (by repeat (first | exact Below.refl _ _ | apply Below.drew | apply Go.below_drewN | apply bel_alloc | apply Ext.lift | apply bel_set0 | apply bel_set))⟩
end Go.Proofs.YtfbangojgjcbcaaGreatDoor
namespace Go.Proofs.YtfbangojgjcbcaaGreatDoor
open Go.RowKit Pl
theorem splitB_str (c : UInt8) (l : List UInt8) : Lib.splitB (str [c]) 0 (Lib.countB (str l) (str [c])) (str l) = (splitOn c l).map str := by
  have h := Lib.splitB_data (str [c]) 0 (Lib.countB (str l) (str [c])) (str l)
  rw [str_data, str_data] at h
  have e : Lib.countB (str l) (str [c]) = Lib.count l [c] := by show Lib.count _ _ = _; rw [str_data, str_data]
  rw [e, split_eq] at h
  rw [e, ← h, List.map_map]
  have : (str ∘ fun x : ByteArray => x.data.toList) = id := by funext x; simp [str]
  rw [this, List.map_id]
/-- What strings.Split leaves: a row of the parts. -/
def Parts (w : World) (v : Value) (ws : List (List UInt8)) : Prop :=
  ∃ b, v = .slice (some ⟨b, 0, none⟩) ws.length ws.length ∧ b < w.heap.size ∧ ∀ j x, ws[j]? = some x → w.cell? ⟨b, j, none⟩ = some (.string (str x))
theorem Parts.below {w w' : World} {v : Value} {ws : List (List UInt8)} (h : Parts w v ws) (hb : Below w.heap.size w w') : Parts w' v ws := by
  obtain ⟨b, rfl, hlt, hc⟩ := h
  exact ⟨b, rfl, Nat.lt_of_lt_of_le hlt hb.size, fun j x hx => (hb.cell hlt).trans (hc j x hx)⟩
theorem split_any (c : UInt8) (l : List UInt8) (w : World) (hl : l.length ≤ 1000000) (E : Env w) :
    Calls Tryz.prog 83 #[.string (str l), .string (str [c])] w fun e w' => ∃ v, e = .returned v ∧ Parts w' v (splitOn c l) ∧ Below w.heap.size w w' := by
  obtain ⟨m, hm⟩ := E.maxlen
  refine (Tryz.strings_Split (str l) (str [c]) m w (by rw [str_size]; omega) hm (by rw [str_size]; simp)).mono fun e w' ⟨he, hw⟩ => ?_
  rw [splitB_str] at hw
  have hlen : Lib.countB (str l) (str [c]) + 1 = (splitOn c l).length := by
    have h := Lib.splitB_all (str [c]) (by rw [str_size]; simp) 0 _ (str l) rfl
    rw [splitB_str, List.length_map] at h; omega
  rw [hlen] at he
  refine ⟨_, he, ⟨w.heap.size, rfl, by rw [hw]; simp, fun j x hx => ?_⟩, by rw [hw]; exact (Below.refl _ _).alloc (Nat.le_refl _) _⟩
  rw [hw, cell_of_row _ w.heap.size j _ _ (0, 0) (heap_alloc_new w _)]
  simp [hx]
theorem below_bytes (w : World) (t : TypeId) (s : ByteArray) : Below w.heap.size w (Lib.bytesWorld w t s) :=
  ⟨rfl, rfl, rfl, by rw [Lib.bytesWorld_size]; omega, fun k hk => Lib.bytesWorld_at_old w t s k hk⟩
theorem pu_ok (x : List UInt8) (u : Nat) (w : World) (hx : x.length ≤ 1000000) (h : Lib.parseUintB 8 x = .ok u) :
    Calls Tryz.prog 181 #[.string (str x), .int .i64 10, .int .i64 8] w fun e w' => e = .returned (.tuple #[.int .u64 u, .nilIface]) ∧ Below w.heap.size w w' :=
  (Tryz.strconv_ParseUint_10_at8_ok (str x) (by rw [str_size]; omega) u (by rw [str_data]; exact h) w).mono fun e w' ⟨he, hw⟩ => ⟨he, by
    rcases hw with rfl | rfl
    · exact Below.refl _ _
    · exact below_bytes _ _ _⟩
/-- An error that is not nil beside some number. -/
def PuErr (e : Ending) : Prop := ∃ (n : Nat) (t : TypeId) (p : Value), n ≤ 255 ∧ e = .returned (.tuple #[.int .u64 n, .iface t p])
theorem pu_err (x : List UInt8) (w : World) (hx : x.length ≤ 1000000) (h : ∀ u, Lib.parseUintB 8 x ≠ .ok u) (E : Env w) :
    Calls Tryz.prog 181 #[.string (str x), .int .i64 10, .int .i64 8] w fun e w' => PuErr e ∧ Below w.heap.size w w' := by
  obtain ⟨t1, p1, h1⟩ := E.syn
  obtain ⟨t2, p2, h2⟩ := E.rng
  cases hp : Lib.parseUintB 8 x
  · exact absurd hp (h _)
  · exact (Any.strconv_ParseUint_10_at8_syntax Tryz.laysPu14 (str x) (by rw [str_size]; omega) (by rw [str_data]; exact hp) _ w h1 (.inr ⟨_, _, rfl⟩)).mono fun e w' ⟨N, he, _, _, hb⟩ => ⟨⟨0, _, _, by decide, he⟩, hb⟩
  · exact (Any.strconv_ParseUint_10_at8_range Tryz.laysPu14 (str x) (by rw [str_size]; omega) (by rw [str_data]; exact hp) _ w h2 (.inr ⟨_, _, rfl⟩)).mono fun e w' ⟨N, he, _, _, hb⟩ => ⟨⟨255, _, _, by decide, he⟩, hb⟩
theorem str_toList (l : List UInt8) : (str l).toList = l := by rw [Lib.toList_data, str_data]
theorem str_eq_true {l m : List UInt8} (h : l = m) : ((str l).toList == (str m).toList) = true := by rw [h]; simp
theorem str_eq_false {l m : List UInt8} (h : ¬ l = m) : ((str l).toList == (str m).toList) = false := by rw [str_toList, str_toList]; simpa using h
/-- What AddrOf answers. -/
def addrRes (l : List UInt8) : Value := match addrOf l with
  | some a => .tuple #[.int .u32 a, .int .i64 0]
  | none => .tuple #[.int .u32 0, .int .i64 4]
theorem or_u32 (a u : Nat) (hu : u ≤ 255) : bits .or .u32 ((a : Int) * 256 % 4294967296) (u : Int) = (((a * 256 + u) % 4294967296 : Nat) : Int) := by
  have e : ((a : Int) * 256 % 4294967296) = ((a * 256 % 4294967296 : Nat) : Int) := by omega
  rw [e, u32_or_nat _ u (by omega) (by omega)]
  have e2 : a * 256 % 4294967296 = (a % 16777216) * 256 := by omega
  rw [e2, or_low _ u (by omega)]
  omega
set_option maxRecDepth 100000 in
set_option maxHeartbeats 400000 in
theorem addrOf_any (l : List UInt8) (w : World) (hl : l.length ≤ 1000000) (E : Env w) :
    Calls Tryz.prog 154 #[.string (str l)] w fun e w' => e = .returned (addrRes l) ∧ Below w.heap.size w w' := by
  obtain ⟨ws, hws⟩ : ∃ ws, ws = splitOn 46 l := ⟨_, rfl⟩
  have HS := split_any 46 l w hl E
  have hlen := splitOn_len 46 l
  have HR : addrRes l = match (match addrLoop ws 0 with | some a => if addrText a = l then some a else none | none => none) with
      | some a => .tuple #[.int .u32 a, .int .i64 0] | none => .tuple #[.int .u32 0, .int .i64 4] := by unfold addrRes addrOf; rw [hws]; rfl
  rw [← hws] at HS hlen
  have hn : ws.length ≤ 1000001 := by have := hlen.1; omega
  have HW := Lib.hid hlen.2
  have HS := Lib.hid HS
  have HR := Lib.hid HR
  clear hws hlen
  go_enter Tryz.func154, Tryz.ntmps154
  go_wp2_with (go_at_call 83; refine HS.out.mono ?_; rintro e w1 ⟨v, rfl, ⟨b, rfl, hlt, hc⟩, hb⟩; have HC := Lib.hid hc; clear hc)
  go_loopw [4, 12] (fun x i wr => ∃ j a : Nat, j ≤ ws.length ∧ i = .int .i64 j ∧ x = .int .u32 a ∧ a < 4294967296 ∧ Hid (addrLoop (ws.drop j) a = addrLoop ws 0) ∧ Below w1.heap.size w1 wr) (fun _ i _ => ws.length - (intOf i).toNat)
  case atStart => exact ⟨0, 0, Nat.zero_le _, rfl, rfl, by decide, Lib.hid (by simp), Below.refl _ _⟩
  case round =>
    obtain ⟨j, a, hj, rfl, rfl, ha, HI, hb2⟩ := hrel
    have hb3 : Below w.heap.size w wr := hb.trans (hb2.mono hb.size)
    have E2 := E.here hb3
    by_cases hlt2 : j < ws.length
    · obtain ⟨x, hx⟩ : ∃ x, ws[j]? = some x := ⟨_, List.getElem?_eq_getElem hlt2⟩
      have hcx : wr.cell? ⟨b, j, none⟩ = some (.string (str x)) := (hb2.cell hlt).trans (HC.out j x hx)
      have hxl : x.length ≤ 1000000 := Nat.le_trans (HW.out x (List.mem_of_getElem? hx)) hl
      have hat := addrLoop_at ws j a x hx
      by_cases hok : ∃ u, Lib.parseUintB 8 x = .ok u
      · obtain ⟨u, hp⟩ := hok
        rw [hp] at hat
        have hu := parse8_le x u hp
        have HP := Lib.hid (pu_ok x u wr hxl hp)
        have HT := Lib.hid (hat.symm.trans HI.out)
        have hor := or_u32 a u hu
        clear hat hx hp HI
        go_wp2_with (go_at_call 181; refine (ext_of HP.out).mono ?_; rintro e w' ⟨rfl, y, rfl⟩)
        go_roundw
        case rel => exact ⟨j + 1, (a * 256 + u) % 4294967296, by omega, by go_num, by go_num, Nat.mod_lt _ (by decide), HT, hb2.trans (y.below.mono hb2.size)⟩
        case measure => simp [intOf]; omega
      · have hne : ∀ u, Lib.parseUintB 8 x ≠ .ok u := fun u hu => hok ⟨u, hu⟩
        have hat := hat.trans (addr_stop x _ hne)
        have HZ : Hid (addrRes l = .tuple #[.int .u32 0, .int .i64 4]) := Lib.hid (by rw [HR.out, ← HI.out, hat])
        have HP := Lib.hid (pu_err x wr hxl hne E2)
        clear hat hx hne hok HI HR
        go_wp2_with (go_at_call 181; refine HP.out.mono ?_; rintro e w' ⟨⟨n, t, p, _, rfl⟩, hb4⟩)
        go_ret2
        exact ⟨by rw [HZ.out]; rfl, hb3.trans (hb4.mono hb3.size)⟩
    · obtain rfl : j = ws.length := by omega
      have hat : some a = addrLoop ws 0 := by rw [← HI.out, List.drop_length]; rfl
      by_cases ht : addrText a = l
      · have HZ : Hid (addrRes l = .tuple #[.int .u32 a, .int .i64 0]) := Lib.hid (by rw [HR.out, ← hat]; simp only [if_pos ht])
        have d := str_eq_true ht
        clear hat HI HR
        go_wp2_with (go_at_call 124; refine (addrText_any a _ ha E2).mono ?_; rintro e w' ⟨rfl, hb4⟩)
        go_ret2
        exact ⟨by rw [HZ.out]; rfl, hb3.trans (hb4.mono hb3.size)⟩
      · have HZ : Hid (addrRes l = .tuple #[.int .u32 0, .int .i64 4]) := Lib.hid (by rw [HR.out, ← hat]; simp only [if_neg ht])
        have d := str_eq_false ht
        clear hat HI HR
        go_wp2_with (go_at_call 124; refine (addrText_any a _ ha E2).mono ?_; rintro e w' ⟨rfl, hb4⟩)
        go_ret2
        exact ⟨by rw [HZ.out]; rfl, hb3.trans (hb4.mono hb3.size)⟩
theorem addrOf_ok (l : List UInt8) (a : Nat) (w : World) (hl : l.length ≤ 1000000) (E : Env w) (h : addrOf l = some a) :
    Calls Tryz.prog 154 #[.string (str l)] w fun e w' => e = .returned (.tuple #[.int .u32 a, .int .i64 0]) ∧ Below w.heap.size w w' := by
  have := addrOf_any l w hl E
  unfold addrRes at this; rw [h] at this; exact this
theorem addrOf_no (l : List UInt8) (w : World) (hl : l.length ≤ 1000000) (E : Env w) (h : addrOf l = none) :
    Calls Tryz.prog 154 #[.string (str l)] w fun e w' => e = .returned (.tuple #[.int .u32 0, .int .i64 4]) ∧ Below w.heap.size w w' := by
  have := addrOf_any l w hl E
  unfold addrRes at this; rw [h] at this; exact this
/-- ParseUint, whatever it answers. -/
def PuAny (e : Ending) : Prop := ∃ (n : Nat) (v : Value), n ≤ 255 ∧ (v = .nilIface ∨ ∃ t p, v = .iface t p) ∧ e = .returned (.tuple #[.int .u64 n, v])
theorem pu_any (x : List UInt8) (w : World) (hx : x.length ≤ 1000000) (E : Env w) :
    Calls Tryz.prog 181 #[.string (str x), .int .i64 10, .int .i64 8] w fun e w' => PuAny e ∧ Below w.heap.size w w' := by
  by_cases h : ∃ u, Lib.parseUintB 8 x = .ok u
  · obtain ⟨u, hu⟩ := h
    exact (pu_ok x u w hx hu).mono fun e w' ⟨he, hb⟩ => ⟨⟨u, _, parse8_le x u hu, .inl rfl, he⟩, hb⟩
  · exact (pu_err x w hx (fun u hu => h ⟨u, hu⟩) E).mono fun e w' ⟨⟨n, t, p, hn, he⟩, hb⟩ => ⟨⟨n, _, hn, .inr ⟨t, p, rfl⟩, he⟩, hb⟩
def TextAny (e : Ending) : Prop := ∃ (t : ByteArray) (n : Int), e = .returned (.tuple #[.string t, .int .i64 n])
theorem prefixText_some (a n : Nat) (w : World) (ha : a < 4294967296) (E : Env w) :
    Calls Tryz.prog 125 #[.agg #[.int .u32 a, .int .i64 n]] w fun e w' => TextAny e ∧ Below w.heap.size w w' := by
  by_cases h : mayP a n = true
  · exact (prefixText_ok a n w ha h E).mono fun e w' ⟨he, hb⟩ => ⟨⟨_, _, he⟩, hb⟩
  · exact (prefixText_err a n w ⟨by omega, by omega⟩ (by simpa using h)).mono fun e w' ⟨he, hb⟩ => ⟨⟨_, _, he⟩, hb⟩
theorem cut_any (c : UInt8) (l : List UInt8) (w : World) (hl : l.length ≤ 1000000) (E : Env w) :
    Calls Tryz.prog 52 #[.string (str l), .string (str [c])] w fun e w' => (∃ f, e = .returned (.tuple #[.string (str (cutA c l)), .string (str (cutB c l)), .bool f])) ∧ Below w.heap.size w w' := by
  obtain ⟨m, hm⟩ := E.maxlen
  refine (Tryz.strings_Cut (str l) (str [c]) m w (by rw [str_size]; omega) hm).mono fun e w' ⟨he, n, hw⟩ => ⟨⟨(Lib.cut l [c]).2.2, ?_⟩, by rw [hw]; exact Go.below_drewN (Below.refl _ _) n⟩
  rw [str_data, str_data] at he
  exact he
/-- What PrefixOf answers. -/
def prefixRes (l : List UInt8) : Value := match prefixOf l with
  | some (a, n) => .tuple #[.agg #[.int .u32 a, .int .i64 n], .int .i64 0]
  | none => .tuple #[.agg #[.int .u32 0, .int .i64 0], .int .i64 4]
set_option maxRecDepth 100000 in
set_option maxHeartbeats 1000000 in
theorem prefixOf_noaddr (l : List UInt8) (w : World) (hl : l.length ≤ 1000000) (E : Env w) (hr : addrOf (cutA 47 l) = none) :
    Calls Tryz.prog 155 #[.string (str l)] w fun e w' => e = .returned (.tuple #[.agg #[.int .u32 0, .int .i64 0], .int .i64 4]) ∧ Below w.heap.size w w' := by
  obtain ⟨hc1, hc2⟩ := cut_len 47 l
  have E1 := E.alloc (.cells #[.int .u32 0, .int .i64 0] 86)
  have HR := Lib.hid hr
  clear hr
  go_enter Tryz.func155, Tryz.ntmps155
  go_wp2_with (first
    | (go_at_call 52; refine (cut_any 47 l _ hl E1).mono ?_; rintro e w1 ⟨⟨f, rfl⟩, hb1⟩; obtain ⟨y1, rfl⟩ : ∃ y : Ext _, w1 = y.w := ⟨⟨_, hb1⟩, rfl⟩; have hz1 : w.heap.size < y1.w.heap.size := (by have := hb1.size; simp only [World.size_alloc] at this; omega); have E2 := y1.env E1; clear hb1)
    | (go_at_call 154; refine (ext_of (addrOf_no (cutA 47 l) _ (by omega) E2 HR.out)).mono ?_; rintro e w2 ⟨rfl, y2, rfl⟩; have hz2 : w.heap.size < y2.w.heap.size := Nat.lt_of_lt_of_le hz1 y2.below.size; have E3 := y2.env E2)
    | (go_at_call 181; refine (pu_any (cutB 47 l) _ (by omega) E3).mono ?_; rintro e w3 ⟨⟨n, v, hn, hv, rfl⟩, hb3⟩; obtain ⟨y3, rfl⟩ : ∃ y : Ext _, w3 = y.w := ⟨⟨_, hb3⟩, rfl⟩; have hz3 : w.heap.size < y3.w.heap.size := Nat.lt_of_lt_of_le hz2 y3.below.size; have E4 := (y3.env E3).alloc (.cells #[.int .u32 0, .int .i64 n] 86); clear hb3)
    | (go_at_call 125; refine (prefixText_some 0 n _ (by decide) E4).mono ?_; rintro e w4 ⟨⟨t, k, rfl⟩, hb4⟩; obtain ⟨y4, rfl⟩ : ∃ y : Ext _, w4 = y.w := ⟨⟨_, hb4⟩, rfl⟩; have hz4 : w.heap.size < y3.w.heap.size + 1 := (by omega); clear hb4))
  exact bodyPost_ret (v := .tuple #[.agg #[.int .u32 0, .int .i64 0], .int .i64 4]) (by simp [results, Tryz.results155, go_sem, hz1, hz2, hz3, hz4]) rfl ⟨rfl, (by repeat (first | exact Below.refl _ _ | apply Below.drew | apply Go.below_drewN | apply bel_alloc | apply Ext.lift | apply bel_set0 | apply bel_set))⟩
set_option maxRecDepth 100000 in
set_option maxHeartbeats 1000000 in
theorem prefixOf_nonum (l : List UInt8) (a : Nat) (w : World) (hl : l.length ≤ 1000000) (E : Env w) (hr : addrOf (cutA 47 l) = some a) (hp : ∀ u, Lib.parseUintB 8 (cutB 47 l) ≠ .ok u) :
    Calls Tryz.prog 155 #[.string (str l)] w fun e w' => e = .returned (.tuple #[.agg #[.int .u32 0, .int .i64 0], .int .i64 4]) ∧ Below w.heap.size w w' := by
  obtain ⟨hc1, hc2⟩ := cut_len 47 l
  have E1 := E.alloc (.cells #[.int .u32 0, .int .i64 0] 86)
  have ha : a < 4294967296 := (addrOf_some _ a hr).2
  have HR := Lib.hid hr
  clear hr
  have HP := Lib.hid hp
  clear hp
  go_enter Tryz.func155, Tryz.ntmps155
  go_wp2_with (first
    | (go_at_call 52; refine (cut_any 47 l _ hl E1).mono ?_; rintro e w1 ⟨⟨f, rfl⟩, hb1⟩; obtain ⟨y1, rfl⟩ : ∃ y : Ext _, w1 = y.w := ⟨⟨_, hb1⟩, rfl⟩; have hz1 : w.heap.size < y1.w.heap.size := (by have := hb1.size; simp only [World.size_alloc] at this; omega); have E2 := y1.env E1; clear hb1)
    | (go_at_call 154; refine (ext_of (addrOf_ok (cutA 47 l) a _ (by omega) E2 HR.out)).mono ?_; rintro e w2 ⟨rfl, y2, rfl⟩; have hz2 : w.heap.size < y2.w.heap.size := Nat.lt_of_lt_of_le hz1 y2.below.size; have E3 := y2.env E2)
    | (go_at_call 181; refine (pu_err (cutB 47 l) _ (by omega) HP.out E3).mono ?_; rintro e w3 ⟨⟨n, t0, p0, hn, rfl⟩, hb3⟩; obtain ⟨y3, rfl⟩ : ∃ y : Ext _, w3 = y.w := ⟨⟨_, hb3⟩, rfl⟩; have hz3 : w.heap.size < y3.w.heap.size := Nat.lt_of_lt_of_le hz2 y3.below.size; have E4 := (y3.env E3).alloc (.cells #[.int .u32 a, .int .i64 n] 86); clear hb3)
    | (go_at_call 125; refine (prefixText_some a n _ ha E4).mono ?_; rintro e w4 ⟨⟨t, k, rfl⟩, hb4⟩; obtain ⟨y4, rfl⟩ : ∃ y : Ext _, w4 = y.w := ⟨⟨_, hb4⟩, rfl⟩; have hz4 : w.heap.size < y3.w.heap.size + 1 := (by omega); clear hb4))
  exact bodyPost_ret (v := .tuple #[.agg #[.int .u32 0, .int .i64 0], .int .i64 4]) (by simp [results, Tryz.results155, go_sem, hz1, hz2, hz3, hz4]) rfl ⟨rfl, (by repeat (first | exact Below.refl _ _ | apply Below.drew | apply Go.below_drewN | apply bel_alloc | apply Ext.lift | apply bel_set0 | apply bel_set))⟩
set_option maxRecDepth 100000 in
set_option maxHeartbeats 1000000 in
theorem prefixOf_nomay (l : List UInt8) (a n : Nat) (w : World) (hl : l.length ≤ 1000000) (E : Env w) (hr : addrOf (cutA 47 l) = some a) (hp : Lib.parseUintB 8 (cutB 47 l) = .ok n) (hm : mayP a n = false) :
    Calls Tryz.prog 155 #[.string (str l)] w fun e w' => e = .returned (.tuple #[.agg #[.int .u32 0, .int .i64 0], .int .i64 4]) ∧ Below w.heap.size w w' := by
  obtain ⟨hc1, hc2⟩ := cut_len 47 l
  have E1 := E.alloc (.cells #[.int .u32 0, .int .i64 0] 86)
  have ha : a < 4294967296 := (addrOf_some _ a hr).2
  have HR := Lib.hid hr
  clear hr
  have hn := parse8_le _ n hp
  have HP := Lib.hid hp
  clear hp
  have HM := Lib.hid hm
  clear hm
  go_enter Tryz.func155, Tryz.ntmps155
  go_wp2_with (first
    | (go_at_call 52; refine (cut_any 47 l _ hl E1).mono ?_; rintro e w1 ⟨⟨f, rfl⟩, hb1⟩; obtain ⟨y1, rfl⟩ : ∃ y : Ext _, w1 = y.w := ⟨⟨_, hb1⟩, rfl⟩; have hz1 : w.heap.size < y1.w.heap.size := (by have := hb1.size; simp only [World.size_alloc] at this; omega); have E2 := y1.env E1; clear hb1)
    | (go_at_call 154; refine (ext_of (addrOf_ok (cutA 47 l) a _ (by omega) E2 HR.out)).mono ?_; rintro e w2 ⟨rfl, y2, rfl⟩; have hz2 : w.heap.size < y2.w.heap.size := Nat.lt_of_lt_of_le hz1 y2.below.size; have E3 := y2.env E2)
    | (go_at_call 181; refine (pu_ok (cutB 47 l) n _ (by omega) HP.out).mono ?_; rintro e w3 ⟨rfl, hb3⟩; obtain ⟨y3, rfl⟩ : ∃ y : Ext _, w3 = y.w := ⟨⟨_, hb3⟩, rfl⟩; have hz3 : w.heap.size < y3.w.heap.size := Nat.lt_of_lt_of_le hz2 y3.below.size; have E4 := (y3.env E3).alloc (.cells #[.int .u32 a, .int .i64 n] 86); clear hb3)
    | (go_at_call 125; refine (prefixText_err a n _ ⟨by omega, by omega⟩ HM.out).mono ?_; rintro e w4 ⟨rfl, hb4⟩; obtain ⟨y4, rfl⟩ : ∃ y : Ext _, w4 = y.w := ⟨⟨_, hb4⟩, rfl⟩; have hz4 : w.heap.size < y3.w.heap.size + 1 := (by omega); clear hb4))
  exact bodyPost_ret (v := .tuple #[.agg #[.int .u32 0, .int .i64 0], .int .i64 4]) (by simp [results, Tryz.results155, go_sem, hz1, hz2, hz3, hz4]) rfl ⟨rfl, (by repeat (first | exact Below.refl _ _ | apply Below.drew | apply Go.below_drewN | apply bel_alloc | apply Ext.lift | apply bel_set0 | apply bel_set))⟩
set_option maxRecDepth 100000 in
set_option maxHeartbeats 1000000 in
theorem prefixOf_notext (l : List UInt8) (a n : Nat) (w : World) (hl : l.length ≤ 1000000) (E : Env w) (hr : addrOf (cutA 47 l) = some a) (hp : Lib.parseUintB 8 (cutB 47 l) = .ok n) (hm : mayP a n = true) (ht : ¬ prefixText a n = l) :
    Calls Tryz.prog 155 #[.string (str l)] w fun e w' => e = .returned (.tuple #[.agg #[.int .u32 0, .int .i64 0], .int .i64 4]) ∧ Below w.heap.size w w' := by
  obtain ⟨hc1, hc2⟩ := cut_len 47 l
  have E1 := E.alloc (.cells #[.int .u32 0, .int .i64 0] 86)
  have ha : a < 4294967296 := (addrOf_some _ a hr).2
  have HR := Lib.hid hr
  clear hr
  have hn := parse8_le _ n hp
  have HP := Lib.hid hp
  clear hp
  have HM := Lib.hid hm
  clear hm
  have d := str_eq_false ht
  clear ht
  go_enter Tryz.func155, Tryz.ntmps155
  go_wp2_with (first
    | (go_at_call 52; refine (cut_any 47 l _ hl E1).mono ?_; rintro e w1 ⟨⟨f, rfl⟩, hb1⟩; obtain ⟨y1, rfl⟩ : ∃ y : Ext _, w1 = y.w := ⟨⟨_, hb1⟩, rfl⟩; have hz1 : w.heap.size < y1.w.heap.size := (by have := hb1.size; simp only [World.size_alloc] at this; omega); have E2 := y1.env E1; clear hb1)
    | (go_at_call 154; refine (ext_of (addrOf_ok (cutA 47 l) a _ (by omega) E2 HR.out)).mono ?_; rintro e w2 ⟨rfl, y2, rfl⟩; have hz2 : w.heap.size < y2.w.heap.size := Nat.lt_of_lt_of_le hz1 y2.below.size; have E3 := y2.env E2)
    | (go_at_call 181; refine (pu_ok (cutB 47 l) n _ (by omega) HP.out).mono ?_; rintro e w3 ⟨rfl, hb3⟩; obtain ⟨y3, rfl⟩ : ∃ y : Ext _, w3 = y.w := ⟨⟨_, hb3⟩, rfl⟩; have hz3 : w.heap.size < y3.w.heap.size := Nat.lt_of_lt_of_le hz2 y3.below.size; have E4 := (y3.env E3).alloc (.cells #[.int .u32 a, .int .i64 n] 86); clear hb3)
    | (go_at_call 125; refine (prefixText_ok a n _ ha HM.out E4).mono ?_; rintro e w4 ⟨rfl, hb4⟩; obtain ⟨y4, rfl⟩ : ∃ y : Ext _, w4 = y.w := ⟨⟨_, hb4⟩, rfl⟩; have hz4 : w.heap.size < y3.w.heap.size + 1 := (by omega); clear hb4))
  exact bodyPost_ret (v := .tuple #[.agg #[.int .u32 0, .int .i64 0], .int .i64 4]) (by simp [results, Tryz.results155, go_sem, hz1, hz2, hz3, hz4]) rfl ⟨rfl, (by repeat (first | exact Below.refl _ _ | apply Below.drew | apply Go.below_drewN | apply bel_alloc | apply Ext.lift | apply bel_set0 | apply bel_set))⟩
set_option maxRecDepth 100000 in
set_option maxHeartbeats 1000000 in
theorem prefixOf_ok (l : List UInt8) (a n : Nat) (w : World) (hl : l.length ≤ 1000000) (E : Env w) (hr : addrOf (cutA 47 l) = some a) (hp : Lib.parseUintB 8 (cutB 47 l) = .ok n) (hm : mayP a n = true) (ht : prefixText a n = l) :
    Calls Tryz.prog 155 #[.string (str l)] w fun e w' => e = .returned (.tuple #[.agg #[.int .u32 a, .int .i64 n], .int .i64 0]) ∧ Below w.heap.size w w' := by
  obtain ⟨hc1, hc2⟩ := cut_len 47 l
  have E1 := E.alloc (.cells #[.int .u32 0, .int .i64 0] 86)
  have ha : a < 4294967296 := (addrOf_some _ a hr).2
  have HR := Lib.hid hr
  clear hr
  have hn := parse8_le _ n hp
  have HP := Lib.hid hp
  clear hp
  have HM := Lib.hid hm
  clear hm
  have d := str_eq_true ht
  clear ht
  go_enter Tryz.func155, Tryz.ntmps155
  go_wp2_with (first
    | (go_at_call 52; refine (cut_any 47 l _ hl E1).mono ?_; rintro e w1 ⟨⟨f, rfl⟩, hb1⟩; obtain ⟨y1, rfl⟩ : ∃ y : Ext _, w1 = y.w := ⟨⟨_, hb1⟩, rfl⟩; have hz1 : w.heap.size < y1.w.heap.size := (by have := hb1.size; simp only [World.size_alloc] at this; omega); have E2 := y1.env E1; clear hb1)
    | (go_at_call 154; refine (ext_of (addrOf_ok (cutA 47 l) a _ (by omega) E2 HR.out)).mono ?_; rintro e w2 ⟨rfl, y2, rfl⟩; have hz2 : w.heap.size < y2.w.heap.size := Nat.lt_of_lt_of_le hz1 y2.below.size; have E3 := y2.env E2)
    | (go_at_call 181; refine (pu_ok (cutB 47 l) n _ (by omega) HP.out).mono ?_; rintro e w3 ⟨rfl, hb3⟩; obtain ⟨y3, rfl⟩ : ∃ y : Ext _, w3 = y.w := ⟨⟨_, hb3⟩, rfl⟩; have hz3 : w.heap.size < y3.w.heap.size := Nat.lt_of_lt_of_le hz2 y3.below.size; have E4 := (y3.env E3).alloc (.cells #[.int .u32 a, .int .i64 n] 86); clear hb3)
    | (go_at_call 125; refine (prefixText_ok a n _ ha HM.out E4).mono ?_; rintro e w4 ⟨rfl, hb4⟩; obtain ⟨y4, rfl⟩ : ∃ y : Ext _, w4 = y.w := ⟨⟨_, hb4⟩, rfl⟩; have hz4 : w.heap.size < y3.w.heap.size + 1 := (by omega); clear hb4))
  exact bodyPost_ret (v := .tuple #[.agg #[.int .u32 a, .int .i64 n], .int .i64 0]) (by simp [results, Tryz.results155, go_sem, hz1, hz2, hz3, hz4]) rfl ⟨rfl, (by repeat (first | exact Below.refl _ _ | apply Below.drew | apply Go.below_drewN | apply bel_alloc | apply Ext.lift | apply bel_set0 | apply bel_set))⟩
theorem prefixOf_any (l : List UInt8) (w : World) (hl : l.length ≤ 1000000) (E : Env w) :
    Calls Tryz.prog 155 #[.string (str l)] w fun e w' => e = .returned (prefixRes l) ∧ Below w.heap.size w w' := by
  unfold prefixRes prefixOf
  cases hr : addrOf (cutA 47 l) with
  | none => exact prefixOf_noaddr l w hl E hr
  | some a =>
    by_cases hok : ∃ n, Lib.parseUintB 8 (cutB 47 l) = .ok n
    · obtain ⟨n, hp⟩ := hok
      rw [hp]
      by_cases hm : mayP a n = true
      · by_cases ht : prefixText a n = l
        · simp only [hm, ht, and_self, if_true]; exact prefixOf_ok l a n w hl E hr hp hm ht
        · simp only [ht, and_false, if_false]; exact prefixOf_notext l a n w hl E hr hp hm ht
      · simp only [hm]; exact prefixOf_nomay l a n w hl E hr hp (by simpa using hm)
    · have hne : ∀ u, Lib.parseUintB 8 (cutB 47 l) ≠ .ok u := fun u hu => hok ⟨u, hu⟩
      have e := prefix_stop (some a) _ (fun a n => if mayP a n = true ∧ prefixText a n = l then some (a, n) else none) hne
      rw [e]
      exact prefixOf_nonum l a w hl E hr hne
end Go.Proofs.YtfbangojgjcbcaaGreatDoor
namespace Go.Proofs.YtfbangojgjcbcaaGreatDoor
open Go.RowKit Pl
/-- Block g holds just the cells cs, of element type t, none of them frozen. -/
structure Whole (w : World) (g : Nat) (t : TypeId) (cs : Array Value) : Prop where
  is : w.heap[g]? = some (.cells cs t (0, 0))
section
variable {w w' : World} {g : Nat} {t : TypeId} {cs : Array Value}
theorem Whole.lt (h : Whole w g t cs) : g < w.heap.size := (Array.getElem?_eq_some_iff.1 h.is).1
theorem Whole.cell (h : Whole w g t cs) (i : Nat) : w.cell? ⟨g, i, none⟩ = cs[i]? := cell_of_row w g i cs t (0, 0) h.is
theorem Whole.frozen (h : Whole w g t cs) (i : Nat) : w.frozen? ⟨g, i, none⟩ = false := by simp [World.frozen?, h.is]
theorem Whole.new (w : World) (t : TypeId) (cs : Array Value) : Whole (w.alloc (.cells cs t)) w.heap.size t cs := ⟨heap_alloc_new w _⟩
theorem Whole.kept {row : Option Nat} (h : Whole w g t cs) (hg : w.grownBy w' row) (hne : some g ≠ row) : Whole w' g t cs := ⟨(hg.block g h.lt hne).trans h.is⟩
theorem Whole.below {B : Nat} (h : Whole w g t cs) (hb : Below B w w') (hg : g < B) : Whole w' g t cs := ⟨(hb.block g hg).trans h.is⟩
theorem Whole.here (h : Whole w g t cs) (hb : Below w.heap.size w w') : Whole w' g t cs := h.below hb h.lt
theorem Whole.drew (h : Whole w g t cs) : Whole w.drew g t cs := ⟨h.is⟩
theorem Whole.drewN (h : Whole w g t cs) (n : Nat) : Whole (w.drewN n) g t cs := ⟨h.is⟩
theorem Whole.alloc (h : Whole w g t cs) (o : Obj) : Whole (w.alloc o) g t cs := h.here ((Below.refl _ _).alloc (Nat.le_refl _) o)
theorem Whole.set (h : Whole w g t cs) (i : Nat) (u : Value) : Whole (w.setCell ⟨g, i, none⟩ u) g t (cs.setIfInBounds i u) := by
  have h1 := h.is
  exact ⟨by simp [World.setCell, Array.getElem?_modify, h1]⟩
theorem Whole.far (h : Whole w g t cs) {p : Addr} (hp : g ≠ p.block) (u : Value) : Whole (w.setCell p u) g t cs := ⟨(Below.heap_setCell w p u g hp).trans h.is⟩
theorem Whole.apart {g' : Nat} {t' : TypeId} {cs' : Array Value} (h : Whole w g t cs) (h' : Whole w g' t' cs') (hne : t ≠ t') : g ≠ g' := by
  rintro rfl
  have h1 := h.is
  rw [h'.is] at h1
  injection h1 with h1
  injection h1 with _ ht
  exact hne ht.symm
/-- A row of another element type lies elsewhere. -/
theorem Whole.notRow {base size n : Nat} {e : TypeId} {v : Value} {xs : List Value} (hg : Whole w g t cs) (h : w.ownsRow base e size v n xs) (hne : t ≠ e) : v.ownBlock ≠ some g := by
  rcases h.2 with ⟨rfl, _⟩ | ⟨g', cap, cur, rfl, _, hh, _⟩
  · simp [Value.ownBlock]
  · intro he
    have : g' = g := by simpa [Value.ownBlock] using he
    subst this
    exact hg.apart (g' := g') ⟨hh⟩ hne rfl
end
theorem whole_own {β : Type} (B : Nat) (t : TypeId) (f : β → Array Value) : Own (fun s W => Whole W B t (f s)) := fun s X Y row hs hg hrow =>
  hs.kept hg (fun e => by
    obtain ⟨o, ho, hc⟩ := hrow _ e.symm
    rw [hs.is] at ho
    injection ho with ho
    subst ho
    simp [Obj.isCells] at hc)
end Go.Proofs.YtfbangojgjcbcaaGreatDoor
namespace Go.Proofs.YtfbangojgjcbcaaGreatDoor
open Go.RowKit Pl
theorem atoi_ok (x : List UInt8) (v : Int) (w : World) (hx : x.length ≤ 1000000) (h : Lib.atoiAll x = .ok v) :
    Calls Tryz.prog 146 #[.string (str x)] w fun e w' => e = .returned (.tuple #[.int .i64 v, .nilIface]) ∧ Below w.heap.size w w' :=
  (Tryz.strconv_Atoi_ok (str x) (by rw [str_size]; omega) v (by rw [str_data]; exact h) w).mono fun e w' ⟨he, hw⟩ => ⟨he, by
    rcases hw with rfl | ⟨t, rfl⟩
    · exact Below.refl _ _
    · exact below_bytes _ _ _⟩
def AtErr (e : Ending) : Prop := ∃ (n : Int) (t : TypeId) (p : Value), e = .returned (.tuple #[.int .i64 n, .iface t p])
theorem atoi_err (x : List UInt8) (w : World) (hx : x.length ≤ 1000000) (h : ∀ u, Lib.atoiAll x ≠ .ok u) (E : Env w) :
    Calls Tryz.prog 146 #[.string (str x)] w fun e w' => AtErr e ∧ Below w.heap.size w w' := by
  obtain ⟨t1, p1, h1⟩ := E.syn
  obtain ⟨t2, p2, h2⟩ := E.rng
  cases hp : Lib.atoiAll x
  · exact absurd hp (h _)
  · exact (Any.strconv_Atoi_syntax Tryz.laysC172 (str x) (by rw [str_size]; omega) (by rw [str_data]; exact hp) _ w h1 (.inr ⟨_, _, rfl⟩)).mono fun e w' ⟨N, he, _, _, hb⟩ => ⟨⟨_, _, _, he⟩, hb⟩
  · exact (Any.strconv_Atoi_range Tryz.laysC172 (str x) (by rw [str_size]; omega) (by rw [str_data]; exact hp) _ w h2 (.inr ⟨_, _, rfl⟩)).mono fun e w' ⟨N, he, _, _, hb⟩ => ⟨⟨_, _, _, he⟩, hb⟩
theorem itoa_all (n : Int) (w : World) (h0 : -9223372036854775808 ≤ n) (h1 : n ≤ 9223372036854775807) (E : Env w) :
    Calls Tryz.prog 58 #[.int .i64 n] w fun e w' => e = .returned (.string (str (Lib.itoa n))) ∧ Below w.heap.size w w' :=
  (Tryz.strconv_Itoa n h0 h1 w E.pow).mono fun _ _ ⟨he, k, os, hw⟩ => ⟨he, by rw [hw]; exact Lib.below_grow _ _ (Nat.le_refl _) _ _⟩
/-- strings.Cut, its third answer too. -/
theorem cut_full (c : UInt8) (l : List UInt8) (w : World) (hl : l.length ≤ 1000000) (E : Env w) :
    Calls Tryz.prog 52 #[.string (str l), .string (str [c])] w fun e w' => e = .returned (.tuple #[.string (str (cutA c l)), .string (str (cutB c l)), .bool (Lib.cut l [c]).2.2]) ∧ Below w.heap.size w w' := by
  obtain ⟨m, hm⟩ := E.maxlen
  refine (Tryz.strings_Cut (str l) (str [c]) m w (by rw [str_size]; omega) hm).mono fun e w' ⟨he, n, hw⟩ => ⟨?_, by rw [hw]; exact Go.below_drewN (Below.refl _ _) n⟩
  rw [str_data, str_data] at he
  exact he
end Go.Proofs.YtfbangojgjcbcaaGreatDoor
namespace Go.Proofs.YtfbangojgjcbcaaGreatDoor
open Go.RowKit Pl
theorem str_lt {l : List UInt8} {i : Nat} (h : i < l.length) : i < (str l).size := by rw [str_size]; exact h
/-! ### Number -/
end Go.Proofs.YtfbangojgjcbcaaGreatDoor
