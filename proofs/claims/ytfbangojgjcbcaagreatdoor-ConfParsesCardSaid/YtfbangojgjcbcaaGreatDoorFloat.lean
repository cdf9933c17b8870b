/- A region that draws its order: a first operation that yields its value in whatever world and may come up at any time, a head whose operations are quiet in a class of worlds, then a tail in one forced order. -/
import Derived.Test.YtfbangojgjcbcaaGreatDoorTail
namespace Go.Proofs.YtfbangojgjcbcaaGreatDoor
open Go.RowKit Pl
section
variable {P : Program} {ops : Array Oper} {md : Region.Mode} {C : World → Prop}

/-- Each operation of the head, but for the first f0, is waited for by a later one of the head, or by the tail's first. -/
def sinkF (md : Region.Mode) (ops : Array Oper) (f0 n : Nat) : Bool :=
  (List.range n).all fun i => decide (i < f0) || (List.range (n + 1)).any fun j => decide (i < j) && Region.waitsFor md ops j i
/-- Where an operation of the tail may come up, all of the head but its first f0 have come up. -/
theorem head_done {f0 n t : Nat} {listed : Array Bool} (hs : sinkF md ops f0 n = true) (hc : Region.chainB md ops n = true) (inv : HeadInv md ops n listed) (ht : n ≤ t) (hr : t ∈ Region.ready md ops listed) :
    ∀ (d i : Nat), n ≤ i + d → f0 ≤ i → i < n → listed.getD i false = true := by
  obtain ⟨-, ot, hot, hall⟩ := mem_ready.1 hr
  have hlt : t < ops.size := (Array.getElem?_eq_some_iff.1 hot).1
  have waits : ∀ {i : Nat}, Region.waitsFor md ops t i = true → listed.getD i false = true := fun h => by
    obtain ⟨o', ho', e, he, hb, rfl⟩ := Region.waitsFor_spec h
    rw [hot] at ho'
    cases ho'
    exact hall e he hb
  have htn : t = n := by
    have h1 := List.all_eq_true.1 hc t (List.mem_range.2 hlt)
    rcases (Bool.or_eq_true _ _).mp h1 with h1 | h1
    · have := of_decide_eq_true h1; omega
    · rcases Nat.lt_or_ge n t with h | h
      · have h2 := inv.tail (t - 1) (by omega) (by omega)
        have h3 := waits h1
        rw [getD_both h2] at h3
        cases h3
      · omega
  subst htn
  intro d
  induction d with
  | zero => intro i h1 _ h2; omega
  | succ d ih =>
    intro i hd hf hi
    have h1 := List.all_eq_true.1 hs i (List.mem_range.2 hi)
    rcases (Bool.or_eq_true _ _).mp h1 with h1 | h1
    · have := of_decide_eq_true h1; omega
    · obtain ⟨j, hj, h2⟩ := List.any_eq_true.1 h1
      obtain ⟨h3, h4⟩ := (Bool.and_eq_true _ _).mp h2
      have h3 := of_decide_eq_true h3
      have h5 := List.mem_range.1 hj
      rcases Nat.lt_or_ge j t with h6 | h6
      · have h7 := ih j (by omega) (by omega) h6
        obtain ⟨oj, hoj, e, he, hb, rfl⟩ := Region.waitsFor_spec h4
        exact inv.closed j oj hoj h7 e he hb
      · obtain rfl : j = t := by omega
        exact waits h4
theorem tail_waitsF {f0 n i : Nat} {listed : Array Bool} (hs : sinkF md ops f0 n = true) (hc : Region.chainB md ops n = true) (inv : HeadInv md ops n listed) (hi : i < n) (hfi : f0 ≤ i) (hun : listed.getD i true = false) :
    ∀ t, n ≤ t → t ∉ Region.ready md ops listed := fun t ht hr => by
  have := head_done hs hc inv ht hr n i (by omega) hfi hi
  rw [getD_both hun] at this
  cases this

theorem headF_first {f0 n i : Nat} {oi : Oper} {v : Value} {L : Array Bool → Act → Prop} (hi : ops[i]? = some oi) (hsel : ∀ (j : Nat) (o : Oper) cs b, ops[j]? = some o → o.op ≠ .select cs b)
    (hs : sinkF md ops f0 n = true) (hc : Region.chainB md ops n = true) (_hn : n < ops.size) (hin : i < n) (hfi : f0 ≤ i)
    (hdone : ∀ listed a, L listed a → ∀ j ∈ Region.ready md ops listed, n ≤ j) :
    ∀ (f : Nat) (listed : Array Bool) (a : Act), HeadInv md ops n listed →
      (∀ j oj, ops[j]? = some oj → j ≠ i → listed.getD j true = false → (∀ e ∈ oj.after, Region.binds md e = true → e.on ≠ i) → oi.apart ops oj = true) →
      i ∈ Region.ready md ops listed → YieldsIn P ops C oi v a →
      headQ P md ops C n L f (listed.setIfInBounds i true) (a.put oi.dst v) → headQ P md ops C n L (f + 1) listed a := by
  intro f
  induction f with
  | zero =>
    intro listed a inv _ hr hy H
    have hun := (mem_ready.1 hr).1
    refine ⟨fun h => (by rw [h] at hr; cases hr), fun j hj => ?_⟩
    have hjn : j < n := by
      rcases Nat.lt_or_ge j n with h | h
      · exact h
      · exact absurd hj (tail_waitsF hs hc inv hin hfi hun j h)
    refine ⟨hjn, ?_⟩
    by_cases hji : j = i
    · subst hji; exact hy.qOp hi H
    · have := hdone _ _ H j (ready_mono hj hji)
      omega
  | succ f ih =>
    intro listed a inv hfree hr hy H
    have hun := (mem_ready.1 hr).1
    refine ⟨fun h => (by rw [h] at hr; cases hr), fun j hj => ?_⟩
    have hjn : j < n := by
      rcases Nat.lt_or_ge j n with h | h
      · exact h
      · exact absurd hj (tail_waitsF hs hc inv hin hfi hun j h)
    refine ⟨hjn, ?_⟩
    by_cases hji : j = i
    · subst hji; exact hy.qOp hi H
    · have h1 := (H.2 j (ready_mono hj hji)).2
      obtain ⟨hjun, oj, hoj, hall⟩ := mem_ready.1 hj
      have hnot : ∀ e ∈ oj.after, Region.binds md e = true → e.on ≠ i := fun e he hb heq => by
        have h1 := hall e he hb
        rw [heq, getD_both hun] at h1
        cases h1
      have h2 := qOp_put hoj (hfree j oj hoj hji hjun hnot) (fun cs b => hsel i oi cs b hi) (fun cs b => hsel j oj cs b hoj) hy h1
      have hfree' : ∀ k ok, ops[k]? = some ok → k ≠ i → (listed.setIfInBounds j true).getD k true = false →
          (∀ e ∈ ok.after, Region.binds md e = true → e.on ≠ i) → oi.apart ops ok = true := fun k ok hk hki hun hno => by
        refine hfree k ok hk hki ?_ hno
        by_cases hjk : j = k
        · subst hjk; exact hjun
        · rw [getD_set_ne true hjk] at hun; exact hun
      refine qOp_mono (fun a' h3 => ih (listed.setIfInBounds j true) a' (inv.set hj hjn) hfree' (ready_mono hr (Ne.symm hji)) h3.1 ?_) h2
      rw [Array.setIfInBounds_comm _ _ hji]
      exact h3.2

theorem headF_lex {f0 n g : Nat} {Lq : Act → Prop} (hsel : Region.noSelect ops = true) (hs : sinkF md ops f0 n = true) (hc : Region.chainB md ops n = true) (hn : n < ops.size) :
    ∀ (l : List Oper) (k : Nat) (listed : Array Bool) (a : Act), (∀ j, j < l.length → l[j]? = ops[k + j]?) → k + l.length = n → f0 ≤ k → HeadInv md ops n listed →
    Region.lexHead md ops g l.length k listed = true → wpQuiet P ops C Lq l a →
    headQ P md ops C n (fun listed' a' => Region.seqB md ops g n listed' = true ∧ Lq a') l.length listed a
  | [], k, listed, a, _, hk, _, _, hB, h => by
    have : k = n := by simpa using hk
    subst this
    exact ⟨by simpa [Region.lexHead] using hB, h⟩
  | o :: l, k, listed, a, hl, hk, hfk, inv, hB, h => by
    have h0 : ops[k]? = some o := by simpa using (hl 0 (by simp)).symm
    simp only [List.length_cons, Region.lexHead, Bool.and_eq_true] at hB
    obtain ⟨⟨hr, hf⟩, hB'⟩ := hB
    have hkn : k < n := by simp only [List.length_cons] at hk; omega
    have hr' : k ∈ Region.ready md ops listed := by simpa using hr
    have hst : qOp P ops C k (wpQuiet P ops C Lq l) a := by unfold qOp; simp only [h0]; exact h
    obtain ⟨v, hy, hK⟩ := yieldsIn_of_qOp h0 hst
    exact headF_first h0 (Region.noSelect_spec hsel) hs hc hn hkn hfk (fun listed' a' hL => seqB_ready hL.1) l.length listed a inv (Region.free_spec h0 hf) hr' hy
      (headF_lex hsel hs hc hn l (k + 1) _ _ (fun j hj => by have := hl (j + 1) (by simp; omega); simpa [Nat.add_assoc, Nat.add_comm 1 j] using this) (by simp only [List.length_cons] at hk; omega) (by omega) (inv.set hr' hkn) hB' hK)

def floatB (md : Region.Mode) (ops : Array Oper) (n : Nat) : Bool :=
  Region.noSelect ops && decide (n < ops.size) && decide (0 < n) && sinkF md ops 1 n && Region.chainB md ops n && ((Region.ready md ops (Array.replicate ops.size false)).contains 0 && Region.free md ops (Array.replicate ops.size false) 0) && Region.lexHead md ops (ops.size - n) (n - 1) 1 ((Array.replicate ops.size false).setIfInBounds 0 true)

theorem wp_region_ext_float {id : Nat} {Q : Exit → Act → World → Prop} {a : Act} {W : World} {l : List Oper} {o0 : Oper} {v : Value} {l' : List Oper} (n : Nat) (hm : P.follows .mixedOrders = true) (hB : floatB .any l.toArray n = true) (hl : l = o0 :: l')
    (hy : Yields P l.toArray o0 v a) (hQ : ∀ c a w, Q (.panic c) (a.put o0.dst v) w → Q (.panic c) a w)
    (h : wpQuiet P l.toArray (fun w' => ∃ x : Ext W, w' = x.w) (fun a' => ∀ w', (∃ x : Ext W, w' = x.w) → wpList P l.toArray Q (l.drop n) a' w') (l.take n) a) : (Code.region id l.toArray true).wp P Q a W := by
  have h0 : l.toArray[0]? = some o0 := by rw [hl]; simp
  simp only [floatB, Bool.and_eq_true, decide_eq_true_eq] at hB
  obtain ⟨⟨⟨⟨⟨⟨hsel, hn⟩, hn0⟩, hs⟩, hc⟩, hr, hf⟩, hlex⟩ := hB
  have hn' : n < l.length := by simpa using hn
  have htl : ((l.take n).drop 1).length = n - 1 := by simp; omega
  have hdl : (l.drop n).length = l.toArray.size - n := by simp
  have inv0 : HeadInv .any l.toArray n (Array.replicate l.toArray.size false) :=
    ⟨by simp, fun j oj _ hl => (by rw [getD_replicate_false] at hl; cases hl), fun t _ ht => getD_in (by simpa using ht) (getD_replicate_false _ _)⟩
  have hr0 : 0 ∈ Region.ready .any l.toArray (Array.replicate l.toArray.size false) := by simpa using hr
  have inv1 := inv0.set hr0 hn0
  have h : wpQuiet P l.toArray (fun w' => ∃ x : Ext W, w' = x.w) (fun a' => ∀ w', (∃ x : Ext W, w' = x.w) → wpList P l.toArray Q (l.drop n) a' w') ((l.take n).drop 1) (a.put o0.dst v) := by
    have e : l.take n = o0 :: (l.take n).drop 1 := by
      obtain ⟨m, rfl⟩ : ∃ m, n = m + 1 := ⟨n - 1, by omega⟩
      rw [hl]; simp
    rw [e] at h
    unfold wpQuiet at h
    rcases hy with ⟨hw, hv⟩ | ⟨hw, rfl⟩
    · rw [if_pos hw] at h
      obtain ⟨v', h1, h2⟩ := h
      have h3 := h1 W ⟨⟨W, Below.refl _ _⟩, rfl⟩
      unfold Oper.quietAt at h3
      rw [hv W] at h3
      have : v = v' := h3.2
      rw [this]; exact h2
    · rw [hw, if_neg (by simp)] at h
      exact h
  have H := headF_lex (md := .any) (f0 := 1) (g := l.toArray.size - n) hsel hs hc hn ((l.take n).drop 1) 1 _ (a.put o0.dst v) (fun j hj => by
    have hj' : j < n - 1 := by rw [htl] at hj; exact hj
    rw [List.getElem?_drop, List.getElem?_take, if_pos (by omega)]
    simp) (by rw [htl]; omega) (Nat.le_refl _) inv1 (by rw [htl]; exact hlex) h
  refine wp_region_any hm ?_
  have := wpAny_of_headQ (Q' := Q) (g := l.toArray.size - n) (fun listed a' w' hw' hL => by
    have := wpAny_of_seq (md := .any) (Q' := Q) (l.drop n) n listed a' w' (fun j => by simp [List.getElem?_drop]) (by rw [hdl]; exact hL.1) (hL.2 w' hw')
    rwa [hdl] at this) _ _ _ ({ W with drawn := W.drawn + 1 }) ⟨⟨_, (Below.refl _ W).drew⟩, rfl⟩ H
  have h2 := wpAny_take (fuel := n - 1 + (l.toArray.size - n)) h0 hsel hf hr hQ hy (by rw [htl] at this; exact this)
  rw [show n - 1 + (l.toArray.size - n) + 1 = l.toArray.size by omega] at h2
  exact h2
end
end Go.Proofs.YtfbangojgjcbcaaGreatDoor
