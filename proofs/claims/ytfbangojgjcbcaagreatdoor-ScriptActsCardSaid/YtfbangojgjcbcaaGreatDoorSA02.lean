/- Part 2 of the proof: LoadF, Text, Addr, Blk, Atoi, AddrR, AllocF, ScrL, ScrM. -/
import Derived.StillTail
import Derived.OrdersHeld
import Derived.Test.YtfbangojgjcbcaaGreatDoorShelf
import Derived.Lib.AppendIntMem
import Derived.RangeFuncNested
import Derived.RangeFuncBox
import Derived.Test.YtfbangojgjcbcaaGreatDoorSA01
namespace Go.Proofs.YtfbangojgjcbcaaGreatDoor
open Go.RowKit Pl
section
variable {P : Program} {ops : Array Oper} {md : Region.Mode} {C : World → Prop}
def headQ (P : Program) (md : Region.Mode) (ops : Array Oper) (C : World → Prop) (n : Nat) (L : Array Bool → Act → Prop) : Nat → Array Bool → Act → Prop
  | 0, listed, a => L listed a
  | f + 1, listed, a =>
    Region.ready md ops listed ≠ [] ∧ ∀ i ∈ Region.ready md ops listed, i < n ∧ qOp P ops C i (headQ P md ops C n L f (listed.setIfInBounds i true)) a
theorem wpAny_of_headQ {n g : Nat} {L : Array Bool → Act → Prop} {Q' : Exit → Act → World → Prop} (hL : ∀ listed a w, C w → L listed a → wpAny P md ops Q' g listed a w) :
    ∀ (f : Nat) (listed : Array Bool) (a : Act) (w : World), C w → headQ P md ops C n L f listed a → wpAny P md ops Q' (f + g) listed a w
  | 0, listed, a, w, hw, h => by rw [Nat.zero_add]; exact hL _ _ _ hw h
  | f + 1, listed, a, w, hw, h => by
    rw [show f + 1 + g = (f + g) + 1 by omega]
    exact ⟨fun h0 => absurd h0 h.1, fun i hi => wpOp_of_qOp hw (fun a' w' hw' h' => wpAny_of_headQ hL f _ a' w' hw' h') (h.2 i hi).2⟩
end
end Go.Proofs.YtfbangojgjcbcaaGreatDoor
namespace Go.Proofs.YtfbangojgjcbcaaGreatDoor
open Go.RowKit Pl
section
variable {P : Program} {ops : Array Oper} {md : Region.Mode} {C : World → Prop}
end
end Go.Proofs.YtfbangojgjcbcaaGreatDoor
namespace Go.Proofs.YtfbangojgjcbcaaGreatDoor
open Go.RowKit Pl
section
variable {P : Program} {ops : Array Oper} {md : Region.Mode}
theorem wp_then {o : Oper} {a : Act} {w : World} {K K' : Act → World → Prop} {Q : Exit → Act → World → Prop} (hh : o.wp P a w K (Exit.then K' Q)) : o.wp P a w K Q := by
  unfold Oper.wp at *
  generalize (execOp a.eval o).run P w = r at *
  cases r with
  | ok n w' =>
    cases n <;> simp only [Oper.upon] at hh ⊢ <;>
      first
        | exact hh
        | exact Calls.mono hh (fun e w'' he => by cases e <;> exact he)
  | halt x w' => cases x <;> simp only [Oper.upon] at hh ⊢ <;> exact hh
end
end Go.Proofs.YtfbangojgjcbcaaGreatDoor
namespace Go.Proofs.YtfbangojgjcbcaaGreatDoor
open Go.RowKit Pl
section
variable {P : Program} {ops : Array Oper} {md : Region.Mode} {C : World → Prop}
/-- Each operation of the head, but for the first f0, is waited for by a later one of the head, or by the tail's first. -/
def sinkF (md : Region.Mode) (ops : Array Oper) (f0 n : Nat) : Bool :=
  (List.range n).all fun i => decide (i < f0) || (List.range (n + 1)).any fun j => decide (i < j) && Region.waitsFor md ops j i
/-- Where an operation of the tail may come up, all of the head but its first f0 have come up. -/
theorem head_done {f0 n t : Nat} {listed : Array Bool} (hs : sinkF md ops f0 n = true) (hc : Region.chainB md ops n = true) (inv : HeadInv md ops n listed) (ht : n ≤ t) (hr : t ∈ Region.ready md ops listed) :
    ∀ (d i : Nat), n ≤ i + d → f0 ≤ i → i < n → listed.getD i false = true := by
  obtain ⟨-, ot, hot, hall⟩ := mem_ready.1 hr
  have hlt : t < ops.size := (Array.getElem?_eq_some_iff.1 hot).1
  have waits : ∀ {i : Nat}, Region.waitsFor md ops t i = true → listed.getD i false = true := fun h => by
    obtain ⟨o', ho', e, he, hb, rfl⟩ := Region.waitsFor_spec h
    rw [hot] at ho'
    cases ho'
    exact hall e he hb
  have htn : t = n := by
    have h1 := List.all_eq_true.1 hc t (List.mem_range.2 hlt)
    rcases (Bool.or_eq_true _ _).mp h1 with h1 | h1
    · have := of_decide_eq_true h1; omega
    · rcases Nat.lt_or_ge n t with h | h
      · have h2 := inv.tail (t - 1) (by omega) (by omega)
        have h3 := waits h1
        rw [getD_both h2] at h3
        cases h3
      · omega
  subst htn
  intro d
  induction d with
  | zero => intro i h1 _ h2; omega
  | succ d ih =>
    intro i hd hf hi
    have h1 := List.all_eq_true.1 hs i (List.mem_range.2 hi)
    rcases (Bool.or_eq_true _ _).mp h1 with h1 | h1
    · have := of_decide_eq_true h1; omega
    · obtain ⟨j, hj, h2⟩ := List.any_eq_true.1 h1
      obtain ⟨h3, h4⟩ := (Bool.and_eq_true _ _).mp h2
      have h3 := of_decide_eq_true h3
      have h5 := List.mem_range.1 hj
      rcases Nat.lt_or_ge j t with h6 | h6
      · have h7 := ih j (by omega) (by omega) h6
        obtain ⟨oj, hoj, e, he, hb, rfl⟩ := Region.waitsFor_spec h4
        exact inv.closed j oj hoj h7 e he hb
      · obtain rfl : j = t := by omega
        exact waits h4
theorem tail_waitsF {f0 n i : Nat} {listed : Array Bool} (hs : sinkF md ops f0 n = true) (hc : Region.chainB md ops n = true) (inv : HeadInv md ops n listed) (hi : i < n) (hfi : f0 ≤ i) (hun : listed.getD i true = false) :
    ∀ t, n ≤ t → t ∉ Region.ready md ops listed := fun t ht hr => by
  have := head_done hs hc inv ht hr n i (by omega) hfi hi
  rw [getD_both hun] at this
  cases this
theorem headF_first {f0 n i : Nat} {oi : Oper} {v : Value} {L : Array Bool → Act → Prop} (hi : ops[i]? = some oi) (hsel : ∀ (j : Nat) (o : Oper) cs b, ops[j]? = some o → o.op ≠ .select cs b)
    (hs : sinkF md ops f0 n = true) (hc : Region.chainB md ops n = true) (_hn : n < ops.size) (hin : i < n) (hfi : f0 ≤ i)
    (hdone : ∀ listed a, L listed a → ∀ j ∈ Region.ready md ops listed, n ≤ j) :
    ∀ (f : Nat) (listed : Array Bool) (a : Act), HeadInv md ops n listed →
      (∀ j oj, ops[j]? = some oj → j ≠ i → listed.getD j true = false → (∀ e ∈ oj.after, Region.binds md e = true → e.on ≠ i) → oi.apart ops oj = true) →
      i ∈ Region.ready md ops listed → YieldsIn P ops C oi v a →
      headQ P md ops C n L f (listed.setIfInBounds i true) (a.put oi.dst v) → headQ P md ops C n L (f + 1) listed a := by
  intro f
  induction f with
  | zero =>
    intro listed a inv _ hr hy H
    have hun := (mem_ready.1 hr).1
    refine ⟨fun h => (by rw [h] at hr; cases hr), fun j hj => ?_⟩
    have hjn : j < n := by
      rcases Nat.lt_or_ge j n with h | h
      · exact h
      · exact absurd hj (tail_waitsF hs hc inv hin hfi hun j h)
    refine ⟨hjn, ?_⟩
    by_cases hji : j = i
    · subst hji; exact hy.qOp hi H
    · have := hdone _ _ H j (ready_mono hj hji)
      omega
  | succ f ih =>
    intro listed a inv hfree hr hy H
    have hun := (mem_ready.1 hr).1
    refine ⟨fun h => (by rw [h] at hr; cases hr), fun j hj => ?_⟩
    have hjn : j < n := by
      rcases Nat.lt_or_ge j n with h | h
      · exact h
      · exact absurd hj (tail_waitsF hs hc inv hin hfi hun j h)
    refine ⟨hjn, ?_⟩
    by_cases hji : j = i
    · subst hji; exact hy.qOp hi H
    · have h1 := (H.2 j (ready_mono hj hji)).2
      obtain ⟨hjun, oj, hoj, hall⟩ := mem_ready.1 hj
      have hnot : ∀ e ∈ oj.after, Region.binds md e = true → e.on ≠ i := fun e he hb heq => by
        have h1 := hall e he hb
        rw [heq, getD_both hun] at h1
        cases h1
      have h2 := qOp_put hoj (hfree j oj hoj hji hjun hnot) (fun cs b => hsel i oi cs b hi) (fun cs b => hsel j oj cs b hoj) hy h1
      have hfree' : ∀ k ok, ops[k]? = some ok → k ≠ i → (listed.setIfInBounds j true).getD k true = false →
          (∀ e ∈ ok.after, Region.binds md e = true → e.on ≠ i) → oi.apart ops ok = true := fun k ok hk hki hun hno => by
        refine hfree k ok hk hki ?_ hno
        by_cases hjk : j = k
        · subst hjk; exact hjun
        · rw [getD_set_ne true hjk] at hun; exact hun
      refine qOp_mono (fun a' h3 => ih (listed.setIfInBounds j true) a' (inv.set hj hjn) hfree' (ready_mono hr (Ne.symm hji)) h3.1 ?_) h2
      rw [Array.setIfInBounds_comm _ _ hji]
      exact h3.2
theorem headF_lex {f0 n g : Nat} {Lq : Act → Prop} (hsel : Region.noSelect ops = true) (hs : sinkF md ops f0 n = true) (hc : Region.chainB md ops n = true) (hn : n < ops.size) :
    ∀ (l : List Oper) (k : Nat) (listed : Array Bool) (a : Act), (∀ j, j < l.length → l[j]? = ops[k + j]?) → k + l.length = n → f0 ≤ k → HeadInv md ops n listed →
    Region.lexHead md ops g l.length k listed = true → wpQuiet P ops C Lq l a →
    headQ P md ops C n (fun listed' a' => Region.seqB md ops g n listed' = true ∧ Lq a') l.length listed a
  | [], k, listed, a, _, hk, _, _, hB, h => by
    have : k = n := by simpa using hk
    subst this
    exact ⟨by simpa [Region.lexHead] using hB, h⟩
  | o :: l, k, listed, a, hl, hk, hfk, inv, hB, h => by
    have h0 : ops[k]? = some o := by simpa using (hl 0 (by simp)).symm
    simp only [List.length_cons, Region.lexHead, Bool.and_eq_true] at hB
    obtain ⟨⟨hr, hf⟩, hB'⟩ := hB
    have hkn : k < n := by simp only [List.length_cons] at hk; omega
    have hr' : k ∈ Region.ready md ops listed := by simpa using hr
    have hst : qOp P ops C k (wpQuiet P ops C Lq l) a := by unfold qOp; simp only [h0]; exact h
    obtain ⟨v, hy, hK⟩ := yieldsIn_of_qOp h0 hst
    exact headF_first h0 (Region.noSelect_spec hsel) hs hc hn hkn hfk (fun listed' a' hL => seqB_ready hL.1) l.length listed a inv (Region.free_spec h0 hf) hr' hy
      (headF_lex hsel hs hc hn l (k + 1) _ _ (fun j hj => by have := hl (j + 1) (by simp; omega); simpa [Nat.add_assoc, Nat.add_comm 1 j] using this) (by simp only [List.length_cons] at hk; omega) (by omega) (inv.set hr' hkn) hB' hK)
def floatB (md : Region.Mode) (ops : Array Oper) (n : Nat) : Bool :=
  Region.noSelect ops && decide (n < ops.size) && decide (0 < n) && sinkF md ops 1 n && Region.chainB md ops n && ((Region.ready md ops (Array.replicate ops.size false)).contains 0 && Region.free md ops (Array.replicate ops.size false) 0) && Region.lexHead md ops (ops.size - n) (n - 1) 1 ((Array.replicate ops.size false).setIfInBounds 0 true)
end
end Go.Proofs.YtfbangojgjcbcaaGreatDoor
namespace Go.Proofs.YtfbangojgjcbcaaGreatDoor
open Go.RowKit Pl
section
variable {P : Program} {ops : Array Oper} {md : Region.Mode} {C S : World → Prop} {Q : Exit → Act → World → Prop}
/-- 'wpAny', and S holds behind each operation that D does not let off. -/
def wpAnyD (P : Program) (md : Region.Mode) (ops : Array Oper) (Q : Exit → Act → World → Prop) (S : World → Prop) (D : Nat → Bool) : Nat → Array Bool → Act → World → Prop
  | 0, listed, a, w => Region.ready md ops listed = [] ∧ Q .normal a w
  | fuel + 1, listed, a, w =>
    (Region.ready md ops listed = [] → Q .normal a w) ∧
    ∀ i ∈ Region.ready md ops listed, wpOp P ops Q i (fun a' w' => (D i = false → S w') ∧ wpAnyD P md ops Q S D fuel (listed.setIfInBounds i true) a' w') a w
theorem wpAny_of_D {D : Nat → Bool} : ∀ (fuel : Nat) (listed : Array Bool) (a : Act) (w : World), wpAnyD P md ops Q S D fuel listed a w → wpAny P md ops Q fuel listed a w
  | 0, _, _, _, h => h
  | fuel + 1, _, _, _, h => ⟨h.1, fun i hi => wpOp_mono (fun a' w' h' => wpAny_of_D fuel _ a' w' h'.2) (h.2 i hi)⟩
/-- What a listed operation waits for is listed. -/
def Closed (md : Region.Mode) (ops : Array Oper) (listed : Array Bool) : Prop :=
  ∀ j oj, ops[j]? = some oj → listed.getD j false = true → ∀ e ∈ oj.after, Region.binds md e = true → listed.getD e.on false = true
theorem Closed.set {i : Nat} {listed : Array Bool} (h : Closed md ops listed) (hi : i ∈ Region.ready md ops listed) : Closed md ops (listed.setIfInBounds i true) := by
  obtain ⟨_, oi, hoi, hall⟩ := mem_ready.1 hi
  intro j oj hj hl e he hb
  by_cases hij : i = j
  · subst hij
    have : oj = oi := Option.some.inj (hj.symm.trans hoi)
    subst this
    exact getD_set_true (hall e he hb)
  · rw [getD_set_ne false hij] at hl
    exact getD_set_true (h j oj hj hl e he hb)
theorem wpAnyD_first {D : Nat → Bool} {i : Nat} {oi : Oper} {v : Value} (hi : ops[i]? = some oi) (hsel : ∀ (j : Nat) (o : Oper) cs b, ops[j]? = some o → o.op ≠ .select cs b)
    (hQ : ∀ c a w, Q (.panic c) (a.put oi.dst v) w → Q (.panic c) a w)
    (hD : ∀ (listed : Array Bool) (j : Nat), Closed md ops listed → listed.getD i true = false → j ∈ Region.ready md ops listed → j ≠ i → D j = false) :
    ∀ (fuel : Nat) (listed : Array Bool) (a : Act) (w : World), Closed md ops listed →
      (∀ j oj, ops[j]? = some oj → j ≠ i → listed.getD j true = false → (∀ e ∈ oj.after, Region.binds md e = true → e.on ≠ i) → oi.apart ops oj = true) →
      i ∈ Region.ready md ops listed → YieldsIf P ops S oi v a → S w →
      wpAnyD P md ops Q S D fuel (listed.setIfInBounds i true) (a.put oi.dst v) w → wpAny P md ops Q (fuel + 1) listed a w := by
  intro fuel
  induction fuel with
  | zero =>
    intro listed a w _ _ hr hy hS H
    refine ⟨fun h => (by rw [h] at hr; cases hr), fun j hj => ?_⟩
    by_cases hji : j = i
    · subst hji; exact hy.wpOp hi hS H
    · have := ready_mono hj hji
      rw [H.1] at this
      cases this
  | succ fuel ih =>
    intro listed a w hcl hfree hr hy hS H
    refine ⟨fun h => (by rw [h] at hr; cases hr), fun j hj => ?_⟩
    by_cases hji : j = i
    · subst hji; exact hy.wpOp hi hS (wpAny_of_D _ _ _ _ H)
    · have h1 := H.2 j (ready_mono hj hji)
      have hun := (mem_ready.1 hr).1
      have hDj := hD listed j hcl hun hj hji
      obtain ⟨hjun, oj, hoj, hall⟩ := mem_ready.1 hj
      have hnot : ∀ e ∈ oj.after, Region.binds md e = true → e.on ≠ i := fun e he hb heq => by
        have h1 := hall e he hb
        rw [heq, getD_both hun] at h1
        cases h1
      have h2 := wpOp_putIf hoj (hfree j oj hoj hji hjun hnot) (fun cs b => hsel i oi cs b hi) (fun cs b => hsel j oj cs b hoj) hQ hy h1
      have hfree' : ∀ k ok, ops[k]? = some ok → k ≠ i → (listed.setIfInBounds j true).getD k true = false →
          (∀ e ∈ ok.after, Region.binds md e = true → e.on ≠ i) → oi.apart ops ok = true := fun k ok hk hki hun hno => by
        refine hfree k ok hk hki ?_ hno
        by_cases hjk : j = k
        · subst hjk; exact hjun
        · rw [getD_set_ne true hjk] at hun; exact hun
      refine wpOp_mono (fun a' w' h3 => ih (listed.setIfInBounds j true) a' w' (hcl.set hj) hfree' (ready_mono hr (Ne.symm hji)) h3.1 (h3.2.1 hDj) ?_) h2
      rw [Array.setIfInBounds_comm _ _ hji]
      exact h3.2.2
/-- No operation behind number n + 1 comes up ahead of number 0. -/
theorem late_waits {n : Nat} (hc : Region.chainB md ops n = true) (h0 : Region.waitsFor md ops (n + 1) 0 = true) (listed : Array Bool) (j : Nat) (hcl : Closed md ops listed) (hun : listed.getD 0 true = false)
    (hj : j ∈ Region.ready md ops listed) (_ : j ≠ 0) : decide (n < j) = false := by
  have step : ∀ k, n < k → k < ops.size → Region.waitsFor md ops k (if k = n + 1 then 0 else k - 1) = true := fun k hk hlt => by
    by_cases hk1 : k = n + 1
    · subst hk1; rw [if_pos rfl]; exact h0
    · rw [if_neg hk1]
      have h1 := List.all_eq_true.1 hc k (List.mem_range.2 hlt)
      rcases (Bool.or_eq_true _ _).mp h1 with h1 | h1
      · have := of_decide_eq_true h1; omega
      · exact h1
  have claim : ∀ k, n < k → k < ops.size → listed.getD k false = true → False := by
    intro k
    induction k using Nat.strongRecOn with
    | _ k ih =>
      intro hk hlt hl
      obtain ⟨o, ho, e, he, hb, hon⟩ := Region.waitsFor_spec (step k hk hlt)
      have h2 := hcl k o ho hl e he hb
      rw [hon] at h2
      by_cases hk1 : k = n + 1
      · rw [if_pos hk1, getD_both hun] at h2; cases h2
      · rw [if_neg hk1] at h2
        exact ih (k - 1) (by omega) (by omega) (by omega) h2
  refine decide_eq_false fun hnj => ?_
  obtain ⟨_, oj, hoj, hall⟩ := mem_ready.1 hj
  have hlt : j < ops.size := (Array.getElem?_eq_some_iff.1 hoj).1
  obtain ⟨o, ho, e, he, hb, hon⟩ := Region.waitsFor_spec (step j hnj hlt)
  have : o = oj := Option.some.inj (ho.symm.trans hoj)
  subst this
  have h2 := hall e he hb
  rw [hon] at h2
  by_cases hk1 : j = n + 1
  · rw [if_pos hk1, getD_both hun] at h2; cases h2
  · rw [if_neg hk1] at h2
    exact claim (j - 1) (by omega) (by omega) h2
theorem wpAnyD_of_headQ {D : Nat → Bool} {n g : Nat} {L : Array Bool → Act → Prop} (hL : ∀ listed a w, C w → L listed a → wpAnyD P md ops Q C D g listed a w) :
    ∀ (f : Nat) (listed : Array Bool) (a : Act) (w : World), C w → headQ P md ops C n L f listed a → wpAnyD P md ops Q C D (f + g) listed a w
  | 0, listed, a, w, hw, h => by rw [Nat.zero_add]; exact hL _ _ _ hw h
  | f + 1, listed, a, w, hw, h => by
    rw [show f + 1 + g = (f + g) + 1 by omega]
    exact ⟨fun h0 => absurd h0 h.1, fun i hi => wpOp_of_qOp hw (fun a' w' hw' h' => ⟨fun _ => hw', wpAnyD_of_headQ hL f _ a' w' hw' h'⟩) (h.2 i hi).2⟩
/-- A tail in one forced order, all of whose operations are let off. -/
theorem wpAnyD_of_seq {D : Nat → Bool} : ∀ (l : List Oper) (k : Nat) (listed : Array Bool) (a : Act) (w : World), (∀ j, l[j]? = ops[k + j]?) → (∀ j, k ≤ j → D j = true) →
    Region.seqB md ops l.length k listed = true → wpList P ops Q l a w → wpAnyD P md ops Q S D l.length listed a w
  | [], _, _, _, _, _, _, hB, h => ⟨by simpa [Region.seqB] using hB, h⟩
  | o :: l, k, listed, a, w, hl, hD, hB, h => by
    have h0 : ops[k]? = some o := by simpa using (hl 0).symm
    simp only [List.length_cons, Region.seqB, Bool.and_eq_true, decide_eq_true_eq] at hB
    refine ⟨fun h1 => (by rw [hB.1] at h1; cases h1), fun i hi => ?_⟩
    rw [hB.1] at hi
    have hik : i = k := by simpa using hi
    subst hik
    have hw : wpOp P ops Q i (wpList P ops Q l) a w := by unfold wpOp; simp only [h0]; exact h
    exact wpOp_mono (fun a' w' h' => ⟨fun h => (by rw [hD i (Nat.le_refl _)] at h; cases h), wpAnyD_of_seq l (i + 1) _ a' w' (fun j => by have := hl (j + 1); simpa [Nat.add_assoc, Nat.add_comm 1 j] using this) (fun j hj => hD j (by omega)) hB.2 h'⟩) hw
theorem wpList_one {o : Oper} {K : Act → World → Prop} {k : Nat} {a : Act} {w : World} (h0 : ops[k]? = some o) (h : wpList P ops (Exit.then K Q) [o] a w) : wpOp P ops Q k K a w := by
  unfold wpOp
  simp only [h0]
  unfold wpList at h
  have hn : ∀ a w, wpList P ops (Exit.then K Q) [] a w = K a w := fun _ _ => rfl
  split
  · rename_i hw
    rw [if_pos hw] at h
    rcases h with h | h
    · refine .inl ?_
      unfold Oper.wp at *
      generalize (execOp a.eval o).run P w = r at *
      cases r with
      | ok n w' =>
        cases n <;> simp only [Oper.upon] at h ⊢
        case value => exact h
        case skip => exact h
        case defer => exact h
        case enter f args =>
          refine Calls.mono h fun e w'' he => ?_
          cases e with
          | returned u => exact he
          | panicked c => exact he
          | outgrown => obtain ⟨a, w, he⟩ := he; exact ⟨a, w, he⟩
        case row => exact h
      | halt x w' =>
        cases x <;> simp only [Oper.upon] at h ⊢
        case panic => exact h
    · exact .inr ⟨h.1, by obtain ⟨a, w, he⟩ := h.2; exact ⟨a, w, he⟩⟩
  · rename_i hw
    rw [if_neg hw] at h
    exact h
def loadB (md : Region.Mode) (ops : Array Oper) (n : Nat) : Bool := floatB md ops n && Region.waitsFor md ops (n + 1) 0
theorem wp_region_ext_load {id : Nat} {Q : Exit → Act → World → Prop} {a : Act} {W : World} {l : List Oper} {o0 on : Oper} {v : Value} {l' : List Oper} (n : Nat) (hm : P.follows .mixedOrders = true) (hB : loadB .any l.toArray n = true) (hl : l = o0 :: l')
    (hon : l.drop n = on :: l.drop (n + 1)) (hy : YieldsIf P l.toArray (fun w' => ∃ x : Ext W, w' = x.w) o0 v a) (hQ : ∀ c a w, Q (.panic c) (a.put o0.dst v) w → Q (.panic c) a w)
    (h : wpQuiet P l.toArray (fun w' => ∃ x : Ext W, w' = x.w)
      (fun a' => ∀ w', (∃ x : Ext W, w' = x.w) → wpList P l.toArray (Exit.then (fun a2 w2 => (∃ x : Ext W, w2 = x.w) ∧ wpList P l.toArray Q (l.drop (n + 1)) a2 w2) Q) [on] a' w')
      ((l.take n).drop 1) (a.put o0.dst v)) : (Code.region id l.toArray true).wp P Q a W := by
  have h0 : l.toArray[0]? = some o0 := by rw [hl]; simp
  simp only [loadB, floatB, Bool.and_eq_true, decide_eq_true_eq] at hB
  obtain ⟨⟨⟨⟨⟨⟨⟨hsel, hn⟩, hn0⟩, hs⟩, hc⟩, hr, hf⟩, hlex⟩, hw0⟩ := hB
  have hn' : n < l.length := by simpa using hn
  have htl : ((l.take n).drop 1).length = n - 1 := by simp; omega
  have hdl : (l.drop n).length = l.toArray.size - n := by simp
  have hln : l.toArray[n]? = some on := by
    have := congrArg (fun m => m[0]?) hon
    simpa using this
  have inv0 : HeadInv .any l.toArray n (Array.replicate l.toArray.size false) :=
    ⟨by simp, fun j oj _ hl => (by rw [getD_replicate_false] at hl; cases hl), fun t _ ht => getD_in (by simpa using ht) (getD_replicate_false _ _)⟩
  have hr0 : 0 ∈ Region.ready .any l.toArray (Array.replicate l.toArray.size false) := by simpa using hr
  have inv1 := inv0.set hr0 hn0
  have H := headF_lex (md := .any) (f0 := 1) (g := l.toArray.size - n) hsel hs hc hn ((l.take n).drop 1) 1 _ (a.put o0.dst v) (fun j hj => by
    have hj' : j < n - 1 := by rw [htl] at hj; exact hj
    rw [List.getElem?_drop, List.getElem?_take, if_pos (by omega)]
    simp) (by rw [htl]; omega) (Nat.le_refl _) inv1 (by rw [htl]; exact hlex) h
  refine wp_region_any hm ?_
  have key := wpAnyD_of_headQ (Q := Q) (D := fun j => decide (n < j)) (g := l.toArray.size - n) (fun listed a' w' hw' hL => by
    have hseq := hL.1
    have h1 := wpList_one hln (hL.2 w' hw')
    rw [← hdl, hon, List.length_cons] at hseq ⊢
    simp only [Region.seqB, Bool.and_eq_true, decide_eq_true_eq] at hseq
    refine ⟨fun h1 => (by rw [hseq.1] at h1; cases h1), fun i hi => ?_⟩
    rw [hseq.1] at hi
    have hik : i = n := by simpa using hi
    subst hik
    exact wpOp_mono (fun a2 w2 h2 => ⟨fun _ => h2.1, wpAnyD_of_seq (l.drop (i + 1)) (i + 1) _ a2 w2 (fun j => by simp [List.getElem?_drop]) (fun j hj => decide_eq_true (by omega)) hseq.2 h2.2⟩) h1)
    _ _ _ ({ W with drawn := W.drawn + 1 }) ⟨⟨_, (Below.refl _ W).drew⟩, rfl⟩ H
  have h2 := wpAnyD_first (md := .any) (Q := Q) h0 (Region.noSelect_spec hsel) hQ (fun listed j hcl hun hj hji => late_waits hc hw0 listed j hcl hun hj hji) (n - 1 + (l.toArray.size - n)) _ a
    ({ W with drawn := W.drawn + 1 }) (fun j oj _ hl => (by rw [getD_replicate_false] at hl; cases hl)) (Region.free_spec h0 hf) hr0 hy ⟨⟨_, (Below.refl _ W).drew⟩, rfl⟩ (by rw [htl] at key; exact key)
  rw [show n - 1 + (l.toArray.size - n) + 1 = l.toArray.size by omega] at h2
  exact h2
end
end Go.Proofs.YtfbangojgjcbcaaGreatDoor
namespace Go.Proofs.YtfbangojgjcbcaaGreatDoor
open Go.RowKit Pl
theorem str_data (l : List UInt8) : (str l).data.toList = l := by simp [str]
theorem str_size (l : List UInt8) : (str l).size = l.length := by simp [str, ByteArray.size]
theorem join_own {base n : Nat} {v : Value} {ls : List (List UInt8)} {sep : List UInt8} (w : World) (h : w.ownsRow base 9 1 v n (ls.map fun l => .string (str l))) (h0 : 0 < n) (hn : n ≤ 100000) (hlen : (Lib.join ls sep).length ≤ 1000000) :
    Calls Tryz.prog 139 #[v, .string (str sep)] w fun e w' => e = .returned (.string (str (Lib.join ls sep))) ∧ Below w.heap.size w w' := by
  obtain ⟨g, cap, hv, _, hlt⟩ := h.form h0
  subst hv
  have hl : ls.length = n := by have := h.1; simpa using this
  have hcap : n ≤ cap := by
    rcases h.2 with ⟨h', _⟩ | ⟨g', cap', cur, h', _, _, hnc, _⟩
    · cases h'
    · injection h' with _ _ h'; omega
  have e1 : (ls.map str).map (·.data.toList) = ls := by rw [List.map_map]; exact (List.map_congr_left (fun l _ => str_data l)).trans (List.map_id _)
  have key := Tryz.strings_Join g 0 cap (ls.map str) (str sep) w (fun j x hx => by
      have hx' : (ls.map fun l => Value.string (str l))[j]? = some (.string x) := by
        simp only [List.getElem?_map, Option.map_eq_some_iff] at hx ⊢
        obtain ⟨l, h1, h2⟩ := hx
        exact ⟨l, h1, by rw [h2]⟩
      have := h.cells (g := g) rfl j _ hx'
      rw [show ((⟨g, 0, none⟩ : Addr).add j) = ⟨g, 0 + j, none⟩ from by unfold Addr.add; by_cases hj : j = 0 <;> simp [hj]] at this
      exact this) hlt (by simp; omega) (by simp; omega) (by rw [e1, str_data]; omega)
  rw [e1, str_data] at key
  rw [List.length_map, hl] at key
  exact key
theorem str_append (l m : List UInt8) : str l ++ str m = str (l ++ m) := by
  apply ByteArray.ext
  simp [str]
end Go.Proofs.YtfbangojgjcbcaaGreatDoor
namespace Go.Proofs.YtfbangojgjcbcaaGreatDoor
open Go.RowKit Pl
theorem splitB_str (c : UInt8) (l : List UInt8) : Lib.splitB (str [c]) 0 (Lib.countB (str l) (str [c])) (str l) = (splitOn c l).map str := by
  have h := Lib.splitB_data (str [c]) 0 (Lib.countB (str l) (str [c])) (str l)
  rw [str_data, str_data] at h
  have e : Lib.countB (str l) (str [c]) = Lib.count l [c] := by show Lib.count _ _ = _; rw [str_data, str_data]
  rw [e, split_eq] at h
  rw [e, ← h, List.map_map]
  have : (str ∘ fun x : ByteArray => x.data.toList) = id := by funext x; simp [str]
  rw [this, List.map_id]
/-- What strings.Split leaves: a row of the parts. -/
def Parts (w : World) (v : Value) (ws : List (List UInt8)) : Prop :=
  ∃ b, v = .slice (some ⟨b, 0, none⟩) ws.length ws.length ∧ b < w.heap.size ∧ ∀ j x, ws[j]? = some x → w.cell? ⟨b, j, none⟩ = some (.string (str x))
theorem Parts.below {w w' : World} {v : Value} {ws : List (List UInt8)} (h : Parts w v ws) (hb : Below w.heap.size w w') : Parts w' v ws := by
  obtain ⟨b, rfl, hlt, hc⟩ := h
  exact ⟨b, rfl, Nat.lt_of_lt_of_le hlt hb.size, fun j x hx => (hb.cell hlt).trans (hc j x hx)⟩
theorem split_any (c : UInt8) (l : List UInt8) (w : World) (hl : l.length ≤ 1000000) (E : Env w) :
    Calls Tryz.prog 83 #[.string (str l), .string (str [c])] w fun e w' => ∃ v, e = .returned v ∧ Parts w' v (splitOn c l) ∧ Below w.heap.size w w' := by
  obtain ⟨m, hm⟩ := E.maxlen
  refine (Tryz.strings_Split (str l) (str [c]) m w (by rw [str_size]; omega) hm (by rw [str_size]; simp)).mono fun e w' ⟨he, hw⟩ => ?_
  rw [splitB_str] at hw
  have hlen : Lib.countB (str l) (str [c]) + 1 = (splitOn c l).length := by
    have h := Lib.splitB_all (str [c]) (by rw [str_size]; simp) 0 _ (str l) rfl
    rw [splitB_str, List.length_map] at h; omega
  rw [hlen] at he
  refine ⟨_, he, ⟨w.heap.size, rfl, by rw [hw]; simp, fun j x hx => ?_⟩, by rw [hw]; exact (Below.refl _ _).alloc (Nat.le_refl _) _⟩
  rw [hw, cell_of_row _ w.heap.size j _ _ (0, 0) (heap_alloc_new w _)]
  simp [hx]
theorem below_bytes (w : World) (t : TypeId) (s : ByteArray) : Below w.heap.size w (Lib.bytesWorld w t s) :=
  ⟨rfl, rfl, rfl, by rw [Lib.bytesWorld_size]; omega, fun k hk => Lib.bytesWorld_at_old w t s k hk⟩
theorem str_toList (l : List UInt8) : (str l).toList = l := by rw [Lib.toList_data, str_data]
theorem str_eq_true {l m : List UInt8} (h : l = m) : ((str l).toList == (str m).toList) = true := by rw [h]; simp
theorem str_eq_false {l m : List UInt8} (h : ¬ l = m) : ((str l).toList == (str m).toList) = false := by rw [str_toList, str_toList]; simpa using h
theorem cut_any (c : UInt8) (l : List UInt8) (w : World) (hl : l.length ≤ 1000000) (E : Env w) :
    Calls Tryz.prog 52 #[.string (str l), .string (str [c])] w fun e w' => (∃ f, e = .returned (.tuple #[.string (str (cutA c l)), .string (str (cutB c l)), .bool f])) ∧ Below w.heap.size w w' := by
  obtain ⟨m, hm⟩ := E.maxlen
  refine (Tryz.strings_Cut (str l) (str [c]) m w (by rw [str_size]; omega) hm).mono fun e w' ⟨he, n, hw⟩ => ⟨⟨(Lib.cut l [c]).2.2, ?_⟩, by rw [hw]; exact Go.below_drewN (Below.refl _ _) n⟩
  rw [str_data, str_data] at he
  exact he
end Go.Proofs.YtfbangojgjcbcaaGreatDoor
namespace Go.Proofs.YtfbangojgjcbcaaGreatDoor
open Go.RowKit Pl
/-- Block g holds just the cells cs, of element type t, none of them frozen. -/
structure Whole (w : World) (g : Nat) (t : TypeId) (cs : Array Value) : Prop where
  is : w.heap[g]? = some (.cells cs t (0, 0))
section
variable {w w' : World} {g : Nat} {t : TypeId} {cs : Array Value}
theorem Whole.lt (h : Whole w g t cs) : g < w.heap.size := (Array.getElem?_eq_some_iff.1 h.is).1
theorem Whole.cell (h : Whole w g t cs) (i : Nat) : w.cell? ⟨g, i, none⟩ = cs[i]? := cell_of_row w g i cs t (0, 0) h.is
theorem Whole.frozen (h : Whole w g t cs) (i : Nat) : w.frozen? ⟨g, i, none⟩ = false := by simp [World.frozen?, h.is]
theorem Whole.new (w : World) (t : TypeId) (cs : Array Value) : Whole (w.alloc (.cells cs t)) w.heap.size t cs := ⟨heap_alloc_new w _⟩
theorem Whole.kept {row : Option Nat} (h : Whole w g t cs) (hg : w.grownBy w' row) (hne : some g ≠ row) : Whole w' g t cs := ⟨(hg.block g h.lt hne).trans h.is⟩
theorem Whole.below {B : Nat} (h : Whole w g t cs) (hb : Below B w w') (hg : g < B) : Whole w' g t cs := ⟨(hb.block g hg).trans h.is⟩
theorem Whole.here (h : Whole w g t cs) (hb : Below w.heap.size w w') : Whole w' g t cs := h.below hb h.lt
theorem Whole.drew (h : Whole w g t cs) : Whole w.drew g t cs := ⟨h.is⟩
theorem Whole.drewN (h : Whole w g t cs) (n : Nat) : Whole (w.drewN n) g t cs := ⟨h.is⟩
theorem Whole.alloc (h : Whole w g t cs) (o : Obj) : Whole (w.alloc o) g t cs := h.here ((Below.refl _ _).alloc (Nat.le_refl _) o)
theorem Whole.set (h : Whole w g t cs) (i : Nat) (u : Value) : Whole (w.setCell ⟨g, i, none⟩ u) g t (cs.setIfInBounds i u) := by
  have h1 := h.is
  exact ⟨by simp [World.setCell, Array.getElem?_modify, h1]⟩
theorem Whole.far (h : Whole w g t cs) {p : Addr} (hp : g ≠ p.block) (u : Value) : Whole (w.setCell p u) g t cs := ⟨(Below.heap_setCell w p u g hp).trans h.is⟩
theorem Whole.apart {g' : Nat} {t' : TypeId} {cs' : Array Value} (h : Whole w g t cs) (h' : Whole w g' t' cs') (hne : t ≠ t') : g ≠ g' := by
  rintro rfl
  have h1 := h.is
  rw [h'.is] at h1
  injection h1 with h1
  injection h1 with _ ht
  exact hne ht.symm
/-- A row of another element type lies elsewhere. -/
theorem Whole.notRow {base size n : Nat} {e : TypeId} {v : Value} {xs : List Value} (hg : Whole w g t cs) (h : w.ownsRow base e size v n xs) (hne : t ≠ e) : v.ownBlock ≠ some g := by
  rcases h.2 with ⟨rfl, _⟩ | ⟨g', cap, cur, rfl, _, hh, _⟩
  · simp [Value.ownBlock]
  · intro he
    have : g' = g := by simpa [Value.ownBlock] using he
    subst this
    exact hg.apart (g' := g') ⟨hh⟩ hne rfl
end
theorem whole_own {β : Type} (B : Nat) (t : TypeId) (f : β → Array Value) : Own (fun s W => Whole W B t (f s)) := fun s X Y row hs hg hrow =>
  hs.kept hg (fun e => by
    obtain ⟨o, ho, hc⟩ := hrow _ e.symm
    rw [hs.is] at ho
    injection ho with ho
    subst ho
    simp [Obj.isCells] at hc)
end Go.Proofs.YtfbangojgjcbcaaGreatDoor
namespace Go.Proofs.YtfbangojgjcbcaaGreatDoor
open Go.RowKit Pl
theorem atoi_ok (x : List UInt8) (v : Int) (w : World) (hx : x.length ≤ 1000000) (h : Lib.atoiAll x = .ok v) :
    Calls Tryz.prog 146 #[.string (str x)] w fun e w' => e = .returned (.tuple #[.int .i64 v, .nilIface]) ∧ Below w.heap.size w w' :=
  (Tryz.strconv_Atoi_ok (str x) (by rw [str_size]; omega) v (by rw [str_data]; exact h) w).mono fun e w' ⟨he, hw⟩ => ⟨he, by
    rcases hw with rfl | ⟨t, rfl⟩
    · exact Below.refl _ _
    · exact below_bytes _ _ _⟩
def AtErr (e : Ending) : Prop := ∃ (n : Int) (t : TypeId) (p : Value), e = .returned (.tuple #[.int .i64 n, .iface t p])
theorem atoi_err (x : List UInt8) (w : World) (hx : x.length ≤ 1000000) (h : ∀ u, Lib.atoiAll x ≠ .ok u) (E : Env w) :
    Calls Tryz.prog 146 #[.string (str x)] w fun e w' => AtErr e ∧ Below w.heap.size w w' := by
  obtain ⟨t1, p1, h1⟩ := E.syn
  obtain ⟨t2, p2, h2⟩ := E.rng
  cases hp : Lib.atoiAll x
  · exact absurd hp (h _)
  · exact (Any.strconv_Atoi_syntax Tryz.laysC172 (str x) (by rw [str_size]; omega) (by rw [str_data]; exact hp) _ w h1 (.inr ⟨_, _, rfl⟩)).mono fun e w' ⟨N, he, _, _, hb⟩ => ⟨⟨_, _, _, he⟩, hb⟩
  · exact (Any.strconv_Atoi_range Tryz.laysC172 (str x) (by rw [str_size]; omega) (by rw [str_data]; exact hp) _ w h2 (.inr ⟨_, _, rfl⟩)).mono fun e w' ⟨N, he, _, _, hb⟩ => ⟨⟨_, _, _, he⟩, hb⟩
theorem itoa_all (n : Int) (w : World) (h0 : -9223372036854775808 ≤ n) (h1 : n ≤ 9223372036854775807) (E : Env w) :
    Calls Tryz.prog 58 #[.int .i64 n] w fun e w' => e = .returned (.string (str (Lib.itoa n))) ∧ Below w.heap.size w w' :=
  (Tryz.strconv_Itoa n h0 h1 w E.pow).mono fun _ _ ⟨he, k, os, hw⟩ => ⟨he, by rw [hw]; exact Lib.below_grow _ _ (Nat.le_refl _) _ _⟩
end Go.Proofs.YtfbangojgjcbcaaGreatDoor
namespace Go.Proofs.YtfbangojgjcbcaaGreatDoor
open Go.RowKit Pl
theorem str_lt {l : List UInt8} {i : Nat} (h : i < l.length) : i < (str l).size := by rw [str_size]; exact h
theorem str_at (l : List UInt8) (i : Nat) (h : i < l.length) (h' : i < (str l).size) : (str l)[i]'h' = l[i]'h := by
  rfl
theorem str_cut (l : List UInt8) (a b : Nat) : (str l).extract a b = str ((l.drop a).take (b - a)) := by
  apply ByteArray.ext
  simp [str, List.extract_eq_take_drop]
theorem split_rel {w wr w1 : World} {v v' : Value} {done : List (List UInt8)} {x : List UInt8} (hb : Below w.heap.size w wr) (hown : wr.ownsRow w.heap.size 9 1 v done.length (done.map fun x => .string (str x)))
    (hown' : w1.ownsRow w.heap.size 9 1 v' (done.length + 1) ((done.map fun x => .string (str x)) ++ [.string (str x)])) (hg : wr.grownBy w1 v.ownBlock) :
    w1.ownsRow w.heap.size 9 1 v' (done ++ [x]).length ((done ++ [x]).map fun x => .string (str x)) ∧ Below w.heap.size w w1 := by
  refine ⟨by simpa using hown', hb.grown hg hb.size fun g hg => (hown.lt g hg).1⟩
set_option maxRecDepth 100000 in
set_option maxHeartbeats 1000000 in
theorem rsplit (c : UInt8) (l : List UInt8) (w : World) (hl : l.length ≤ 1000000) :
    Calls Tryz.prog 53 #[.string (str l), .int .u8 (c.toNat : Int)] w fun e w' => ∃ v, e = .returned v ∧ w'.ownsRow w.heap.size 9 1 v (splitOn c l).length ((splitOn c l).map fun x => .string (str x)) ∧ Below w.heap.size w w' := by
  have hsz : (str l).size = l.length := str_size l
  have hex := fun a b => str_cut l a b
  go_enter Tryz.func53, Tryz.ntmps53
  go_wp2
  go_loopw [5, 6, 7] (fun v f i wr => ∃ (i0 f0 : Nat) (done : List (List UInt8)), i0 ≤ l.length + 1 ∧ f0 ≤ i0 ∧ SpInv c l i0 f0 done ∧ i = .int .i64 i0 ∧ f = .int .i64 f0 ∧ wr.ownsRow w.heap.size 9 1 v done.length (done.map fun x => .string (str x)) ∧ Below w.heap.size w wr) (fun _ _ i _ => l.length + 1 - (intOf i).toNat)
  case atStart => exact ⟨0, 0, [], by omega, Nat.le_refl _, SpInv.start c l, rfl, rfl, by simpa using World.ownsRow_nil _ _ _ _, Below.refl _ _⟩
  case round =>
    obtain ⟨i, f, done, hi, hf, HI, rfl, rfl, hown, hb⟩ := hrel
    have hdl : done.length ≤ 1000001 := by have := HI.len; omega
    have hbs := hb.size
    by_cases hlt : i < l.length
    · have d1 : ((i : Int) == (l.length : Int)) = false := by simp; omega
      obtain ⟨b, hbj⟩ : ∃ b, l[i]'hlt = b := ⟨_, rfl⟩
      have HI1 := fun h : b = c => HI.hit hlt (hbj.trans h)
      have HI0 := fun h : ¬ b = c => HI.miss hlt (by rw [hbj]; exact h)
      have hlt' := str_lt hlt
      have ej : (str l)[i]'hlt' = b := hbj
      clear hbj HI
      by_cases hc : b = c
      · have d2 : (((str l)[i].toNat : Int) == (c.toNat : Int)) = true := by rw [ej, hc]; simp
        go_wp2_with (at_builtin; refine wpList_push rfl _ _ 40 rfl w.heap.size 9 info_str rfl (by decide) Tryz.underlying40 _ _ _ rfl hown rfl rfl (by omega) hbs ?_; intro v' w1 hown' hg)
        have R := split_rel hb hown hown' hg
        have HI2 := HI1 hc
        clear hown hown' hg hb d2 HI1 HI0 ej
        go_wp2
        go_roundw
        case rel => exact ⟨i + 1, i + 1, _, by omega, Nat.le_refl _, HI2, by go_num, by go_num, R.1, R.2⟩
        case measure => simp [intOf]; omega
      · have d2 : (((str l)[i].toNat : Int) == (c.toNat : Int)) = false := by
          rw [ej, beq_eq_false_iff_ne]
          intro h; exact hc (UInt8.toNat_inj.1 (by omega))
        have HI2 := HI0 hc
        clear HI1 HI0 ej
        go_wp2
        go_roundw
        case rel => exact ⟨i + 1, f, done, by omega, by omega, HI2, by go_num, rfl, hown, hb⟩
        case measure => simp [intOf]; omega
    · by_cases he : i = l.length
      · subst he
        go_wp2_with (at_builtin; refine wpList_push rfl _ _ 40 rfl w.heap.size 9 info_str rfl (by decide) Tryz.underlying40 _ _ _ rfl hown rfl rfl (by omega) hbs ?_; intro v' w1 hown' hg)
        have R := split_rel hb hown hown' hg
        have HI2 := HI.last
        clear hown hown' hg hb HI
        go_wp2
        go_roundw
        case rel => exact ⟨l.length + 1, l.length + 1, _, by omega, Nat.le_refl _, HI2, by go_num, by go_num, R.1, R.2⟩
        case measure => simp [intOf]
      · obtain rfl : i = l.length + 1 := by omega
        rw [← HI.out] at hown
        have d3 : decide ((l.length : Int) + 1 ≤ (l.length : Int)) = false := by simp; omega
        go_wp2
        go_ret
        exact ⟨_, rfl, hown, hb⟩
/-! ### Number -/
/-- A row of strings that the call owns, element by element. -/
theorem parts_at {w : World} {base n g cap : Nat} {ps : List (List UInt8)} (h : w.ownsRow base 9 1 (.slice (some ⟨g, 0, none⟩) n cap) n (ps.map fun x => .string (str x))) (j : Nat) (hj : j < n) :
    w.cell? ⟨g, j, none⟩ = some (.string (str (ps.getD j []))) := by
  have hl : ps.length = n := by have := h.1; simpa using this
  rw [h.cellAt j (by omega)]
  simp [List.getD_eq_getElem?_getD, List.getElem?_eq_getElem (show j < ps.length by omega)]
end Go.Proofs.YtfbangojgjcbcaaGreatDoor
namespace Go.Proofs.YtfbangojgjcbcaaGreatDoor
open Go.RowKit Pl
/-- A class of worlds that keep W, which what makes memory does not leave. -/
structure Up (W : World) where
  D : World → Prop
  sub : ∀ w, D w → Below W.heap.size W w
  up : ∀ w w', D w → Below w.heap.size w w' → D w'
  one : ∃ w, D w
structure ExtU {W : World} (U : Up W) where
  w : World
  has : U.D w
instance {W : World} (U : Up W) : Nonempty (ExtU U) := let ⟨w, h⟩ := U.one; ⟨⟨w, h⟩⟩
theorem ExtU.below {W : World} {U : Up W} (x : ExtU U) : Below W.heap.size W x.w := U.sub _ x.has
theorem ExtU.call {W : World} {U : Up W} {P : Program} {f : FuncId} {args : Array Value} {x : ExtU U} {v : Value}
    (h : Calls P f args x.w fun e w' => e = .returned v ∧ Below x.w.heap.size x.w w') : Calls P f args x.w fun e w'' => e = .returned v ∧ ∃ y : ExtU U, w'' = y.w :=
  h.mono fun _ w' ⟨he, hb⟩ => ⟨he, ⟨w', U.up _ _ x.has hb⟩, rfl⟩
theorem ExtU.callq {W : World} {U : Up W} {P : Program} {f : FuncId} {args : Array Value} {x : ExtU U} {v : Value}
    (h : Calls P f args x.w fun e w' => e = .returned v ∧ x.w = w') : Calls P f args x.w fun e w'' => e = .returned v ∧ ∃ y : ExtU U, w'' = y.w :=
  h.mono fun _ _ ⟨he, hb⟩ => ⟨he, x, hb.symm⟩
@[go_sem] theorem ExtU.cell {W : World} {U : Up W} (x : ExtU U) (p : Addr) (h : p.block < W.heap.size) : x.w.cell? p = W.cell? p := x.below.cell h
@[go_sem] theorem ExtU.frozen {W : World} {U : Up W} (x : ExtU U) (p : Addr) (h : p.block < W.heap.size) : x.w.frozen? p = W.frozen? p := x.below.frozen h
def Up.all (W : World) : Up W := ⟨fun w => Below W.heap.size W w, fun _ h => h, fun _ _ h hb => h.trans (hb.mono h.size), ⟨W, Below.refl _ _⟩⟩
theorem below_long (W : World) : ∀ k : Nat, ∃ w, Below W.heap.size W w ∧ w.heap.size = W.heap.size + k
  | 0 => ⟨W, Below.refl _ _, rfl⟩
  | k + 1 => let ⟨w, h, hs⟩ := below_long W k; ⟨w.alloc (.cells #[] 0), h.alloc h.size _, by rw [World.size_alloc, hs]; omega⟩
theorem below_at (W : World) (p : Nat) (t : TypeId) (cs : Array Value) (hp : W.heap.size ≤ p) : ∃ w, Below W.heap.size W w ∧ Whole w p t cs := by
  obtain ⟨w, h, hs⟩ := below_long W (p - W.heap.size)
  have : w.heap.size = p := by omega
  subst this
  exact ⟨w.alloc (.cells cs t), h.alloc h.size _, Whole.new _ _ _⟩
def Up.at (W : World) (p : Nat) (t : TypeId) (cs : Array Value) (hp : W.heap.size ≤ p) : Up W :=
  ⟨fun w => Below W.heap.size W w ∧ Whole w p t cs, fun _ h => h.1, fun _ _ h hb => ⟨h.1.trans (hb.mono h.1.size), h.2.here hb⟩, below_at W p t cs hp⟩
def Up.C {W : World} (U : Up W) : World → Prop := fun w' => ∃ x : ExtU U, w' = x.w
section
variable {P : Program} {ops : Array Oper} {md : Region.Mode} {C D0 : World → Prop}
/-- What the end's frame holds where an operation that has come up has written. -/
theorem headQ_slot {n : Nat} {L : Array Bool → Act → Prop} {aE : Act} (hL : ∀ l a, L l a → a = aE) {j : Nat} {oj : Oper} {d : Tmp} (hj : ops[j]? = some oj) (hd : oj.dst = some d)
    (hdist : ∀ i oi, ops[i]? = some oi → i < n → i ≠ j → oi.dst ≠ some d) :
    ∀ (f : Nat) (listed : Array Bool) (a : Act), listed.getD j true = true → headQ P md ops C n L f listed a → aE.tmps[d]? = a.tmps[d]?
  | 0, _, a, _, h => by rw [hL _ _ h]
  | f + 1, listed, a, hl, h => by
    obtain ⟨i, hi⟩ := List.exists_mem_of_ne_nil _ h.1
    obtain ⟨hin, hq⟩ := h.2 i hi
    obtain ⟨hun, oi, hoi, -⟩ := mem_ready.1 hi
    have hij : i ≠ j := by rintro rfl; rw [hun] at hl; cases hl
    obtain ⟨v, -, hK⟩ := yieldsIn_of_qOp hoi hq
    have := headQ_slot hL hj hd hdist f _ _ (by rw [getD_set_ne true hij]; exact hl) hK
    rw [this]
    have hne := hdist i oi hoi hin hij
    cases ho : oi.dst with
    | none => rfl
    | some e =>
      have : e ≠ d := fun h => hne (by rw [ho, h])
      show (a.tmps.setIfInBounds e v)[d]? = _
      rw [Array.getElem?_setIfInBounds_ne this]
theorem put_same {a aE : Act} {d : Tmp} {v v' : Value} (h : aE.tmps[d]? = (a.put (some d) v).tmps[d]?) (h' : aE.tmps[d]? = (a.put (some d) v').tmps[d]?) : a.put (some d) v = a.put (some d) v' := by
  rw [h] at h'
  unfold Act.put at h' ⊢
  simp only at h' ⊢
  rcases Nat.lt_or_ge d a.tmps.size with hd | hd
  · rw [Array.getElem?_setIfInBounds_self_of_lt hd, Array.getElem?_setIfInBounds_self_of_lt hd] at h'
    rw [Option.some.inj h']
  · simp only [Act.mk.injEq, and_true]
    rw [Array.setIfInBounds_eq_of_size_le hd, Array.setIfInBounds_eq_of_size_le hd]
theorem qOp_put' {j : Nat} {oi oj : Oper} {v : Value} (hj : ops[j]? = some oj) (hap : oi.apart ops oj = true) (hsj : ∀ cs b, oj.op ≠ .select cs b) {K : Act → Prop} {a : Act}
    (h : qOp P ops C j K a) : qOp P ops C j (fun a' => ∃ a0, a' = a0.put oi.dst v ∧ K a0) (a.put oi.dst v) := by
  obtain ⟨h1, h2, h3⟩ := Oper.apart_spec hap
  unfold qOp at *
  simp only [hj] at *
  rw [wanted_put oj a oi.dst v h1]
  split
  · rename_i hw
    simp only [hw, if_true] at h
    obtain ⟨u, hu, hn⟩ := h
    refine ⟨u, fun w hw' => ?_, a.put oj.dst u, (Act.put_comm a v u h2), hn⟩
    have := hu w hw'
    unfold Oper.quietAt at *
    rwa [execOp_put oj hsj a oi.dst v h1]
  · rename_i hw
    simp only [hw] at h
    exact ⟨a.put oj.dst undef, (Act.put_comm a v undef h2), h⟩
theorem headQ_put {n : Nat} {L : Array Bool → Act → Prop} {oi : Oper} {v : Value} (hsel : ∀ (j : Nat) (o : Oper) cs b, ops[j]? = some o → o.op ≠ .select cs b)
    (hap : ∀ j oj, ops[j]? = some oj → j < n → oi.apart ops oj = true ∨ oj = oi) :
    ∀ (f : Nat) (listed : Array Bool) (a : Act), (∀ j, j < n → ops[j]? = some oi → listed.getD j true = true) → headQ P md ops C n L f listed a →
      headQ P md ops C n (fun l a' => ∃ a0, a' = a0.put oi.dst v ∧ L l a0) f listed (a.put oi.dst v)
  | 0, _, a, _, h => ⟨a, rfl, h⟩
  | f + 1, listed, a, hl, h => by
    refine ⟨h.1, fun j hj => ?_⟩
    obtain ⟨hjn, hq⟩ := h.2 j hj
    obtain ⟨hju, oj, hoj, -⟩ := mem_ready.1 hj
    refine ⟨hjn, ?_⟩
    rcases hap j oj hoj hjn with h1 | rfl
    · refine qOp_mono ?_ (qOp_put' hoj h1 (fun cs b => hsel j oj cs b hoj) hq)
      rintro _ ⟨a0, rfl, h0⟩
      refine headQ_put hsel hap f _ a0 (fun k hk hok => ?_) h0
      by_cases hjk : j = k
      · subst hjk
        exact absurd (hl j hk hok) (by rw [hju]; decide)
      · rw [getD_set_ne true hjk]; exact hl k hk hok
    · exact absurd (hl j hjn hoj) (by rw [hju]; decide)
/-- The head without operation m, in the order of the text; then, m having come up, the tail. -/
def lexA (md : Region.Mode) (ops : Array Oper) (g m : Nat) : Nat → Nat → Array Bool → Bool
  | 0, _, listed => Region.seqB md ops g (m + 1) listed
  | f + 1, k, listed => (Region.ready md ops listed).contains k && Region.free md ops listed k && lexA md ops g m f (k + 1) (listed.setIfInBounds k true)
theorem headA_lex {m g : Nat} {Lq : Act → Prop} (hsel : Region.noSelect ops = true) (hs : sinkF md ops 0 (m + 1) = true) (hc : Region.chainB md ops (m + 1) = true) (hn : m + 1 < ops.size) :
    ∀ (l : List Oper) (k : Nat) (listed : Array Bool) (a : Act), (∀ j, j < l.length → l[j]? = ops[k + j]?) → k + l.length = m → HeadInv md ops (m + 1) listed →
    lexA md ops g m l.length k listed = true → wpQuiet P ops C Lq l a →
    headQ P md ops C (m + 1) (fun listed' a' => Region.seqB md ops g (m + 1) listed' = true ∧ Lq a') l.length listed a
  | [], _, listed, a, _, _, _, hB, h => ⟨by simpa [lexA] using hB, h⟩
  | o :: l, k, listed, a, hl, hk, inv, hB, h => by
    have h0 : ops[k]? = some o := by simpa using (hl 0 (by simp)).symm
    simp only [List.length_cons, lexA, Bool.and_eq_true] at hB
    obtain ⟨⟨hr, hf⟩, hB'⟩ := hB
    have hkn : k < m + 1 := by simp only [List.length_cons] at hk; omega
    have hr' : k ∈ Region.ready md ops listed := by simpa using hr
    have hst : qOp P ops C k (wpQuiet P ops C Lq l) a := by unfold qOp; simp only [h0]; exact h
    obtain ⟨v, hy, hK⟩ := yieldsIn_of_qOp h0 hst
    exact headF_first h0 (Region.noSelect_spec hsel) hs hc hn hkn (Nat.zero_le _) (fun listed' a' hL => seqB_ready hL.1) l.length listed a inv (Region.free_spec h0 hf) hr' hy
      (headA_lex hsel hs hc hn l (k + 1) _ _ (fun j hj => by have := hl (j + 1) (by simp; omega); simpa [Nat.add_assoc, Nat.add_comm 1 j] using this) (by simp only [List.length_cons] at hk; omega) (inv.set hr' hkn) hB' hK)
theorem wpAny_alloc {D1 : Nat → World → Prop} {ok : Nat → Prop} {Q : Exit → Act → World → Prop} {m g : Nat} {L : Array Bool → Act → Prop} {oa : Oper} {aE : Act} {val : Nat → Value} (hoa : ops[m]? = some oa)
    (hsel : ∀ (j : Nat) (o : Oper) cs b, ops[j]? = some o → o.op ≠ .select cs b)
    (hap : ∀ j oj, ops[j]? = some oj → j < m → oa.apart ops oj = true)
    (hdist : ∀ i oi j oj, ops[i]? = some oi → ops[j]? = some oj → i < m → j < m → i ≠ j → ∃ d, oj.dst = some d ∧ oi.dst ≠ some d) (hsome : ∀ j oj, ops[j]? = some oj → j < m → ∃ d, oj.dst = some d)
    (hw : Region.waitsFor md ops (m + 1) m = true) (hc : Region.chainB md ops (m + 1) = true)
    (halloc : ∀ (a : Act) (w : World) (K : Act → World → Prop), D0 w → (ok w.heap.size → ∀ w', D1 w.heap.size w' → K (a.put oa.dst (val w.heap.size)) w') → wpOp P ops Q m K a w)
    (hL : ∀ l a, L l a → a = aE) (hLr : ∀ l a, L l a → ∀ j ∈ Region.ready md ops l, m + 1 ≤ j)
    (htail : ∀ p l w, D1 p w → L l aE → wpAny P md ops Q g l (aE.put oa.dst (val p)) w) :
    ∀ (f : Nat) (listed : Array Bool) (a : Act) (w : World), D0 w → listed.size = ops.size → listed.getD m true = false → m ∈ Region.ready md ops listed →
      (∀ t, m + 1 ≤ t → t < ops.size → listed.getD t true = false) →
      headQ P md ops D0 (m + 1) L f (listed.setIfInBounds m true) a → (∀ p, ok p → headQ P md ops (D1 p) (m + 1) L f (listed.setIfInBounds m true) a) → wpAny P md ops Q (f + 1 + g) listed a w := by
  have hlate : ∀ (listed : Array Bool), listed.size = ops.size → listed.getD m true = false → (∀ t, m + 1 ≤ t → t < ops.size → listed.getD t true = false) → ∀ j ∈ Region.ready md ops listed, j ≤ m := by
    intro listed hsz hm htl j hj
    rcases Nat.lt_or_ge m j with h | h
    · obtain ⟨_, oj, hoj, hall⟩ := mem_ready.1 hj
      have hlt : j < ops.size := (Array.getElem?_eq_some_iff.1 hoj).1
      have waits : ∀ {i : Nat}, Region.waitsFor md ops j i = true → listed.getD i false = true := fun h => by
        obtain ⟨o', ho', e, he, hb, rfl⟩ := Region.waitsFor_spec h
        rw [hoj] at ho'
        cases ho'
        exact hall e he hb
      by_cases hjm : j = m + 1
      · subst hjm
        have := waits hw
        rw [getD_both hm] at this
        cases this
      · have h1 := List.all_eq_true.1 hc j (List.mem_range.2 hlt)
        rcases (Bool.or_eq_true _ _).mp h1 with h1 | h1
        · have := of_decide_eq_true h1; omega
        · have h3 := waits h1
          rw [getD_both (htl (j - 1) (by omega) (by omega))] at h3
          cases h3
    · exact h
  have hgo : ∀ (f : Nat) (listed : Array Bool) (a : Act) (p : Nat) (w : World), D1 p w → listed.getD m true = false → m < listed.size → headQ P md ops (D1 p) (m + 1) L f (listed.setIfInBounds m true) a →
      wpAny P md ops Q (f + g) (listed.setIfInBounds m true) (a.put oa.dst (val p)) w := by
    intro f listed a p w hw hm hms h
    have h2 := headQ_put (v := val p) (oi := oa) hsel (fun j oj hoj hjn => by
      by_cases hjm : j = m
      · subst hjm; rw [hoa] at hoj; exact .inr (Option.some.inj hoj).symm
      · exact .inl (hap j oj hoj (by omega))) f _ a (fun j hj hoj => by
        by_cases hjm : j = m
        · subst hjm; simp [hms]
        · obtain ⟨e, he⟩ := hsome j oa hoj (by omega)
          have := (Oper.apart_spec (hap j oa hoj (by omega))).2.1 e he
          exact absurd he this) h
    refine wpAny_of_headQ (fun l a' w' hw' => ?_) f _ _ _ hw h2
    rintro ⟨a0, rfl, h0⟩
    obtain rfl := hL _ _ h0
    exact htail p _ _ hw' h0
  intro f
  induction f with
  | zero =>
    intro listed a w hD hsz hm hr htl H0 H1
    rw [show 0 + 1 + g = g + 1 by omega]
    refine ⟨fun h => (by rw [h] at hr; cases hr), fun j hj => ?_⟩
    have hjm := hlate listed hsz hm htl j hj
    by_cases hji : j = m
    · subst hji
      refine halloc a w _ hD fun hok w' hw' => ?_
      have := hgo 0 listed a _ w' hw' hm (by rw [hsz]; exact (Array.getElem?_eq_some_iff.1 hoa).1) (H1 _ hok)
      rwa [Nat.zero_add] at this
    · have := hLr _ _ H0 j (ready_mono hj hji)
      omega
  | succ f ih =>
    intro listed a w hD hsz hm hr htl H0 H1
    rw [show f + 1 + 1 + g = (f + 1 + g) + 1 by omega]
    refine ⟨fun h => (by rw [h] at hr; cases hr), fun j hj => ?_⟩
    have hjm := hlate listed hsz hm htl j hj
    by_cases hji : j = m
    · subst hji
      exact halloc a w _ hD fun hok w' hw' => hgo (f + 1) listed a _ w' hw' hm (by rw [hsz]; exact (Array.getElem?_eq_some_iff.1 hoa).1) (H1 _ hok)
    · have hjlt : j < m := by omega
      obtain ⟨hjun, oj, hoj, -⟩ := mem_ready.1 hj
      have hj1 := ready_mono hj hji
      have h0 := (H0.2 j hj1).2
      obtain ⟨v, hy, hK⟩ := yieldsIn_of_qOp hoj h0
      obtain ⟨d, hd⟩ := hsome j oj hoj hjlt
      have hdi : ∀ i oi, ops[i]? = some oi → i < m + 1 → i ≠ j → oi.dst ≠ some d := fun i oi hoi hin hij => by
        by_cases him : i = m
        · subst him
          rw [hoa] at hoi
          cases hoi
          intro he
          exact (Oper.apart_spec (hap j oj hoj hjlt)).2.1 d he hd
        · obtain ⟨d', hd', hne⟩ := hdist i oi j oj hoi hoj (by omega) hjlt hij
          rw [hd] at hd'
          cases hd'
          exact hne
      have hset : ((listed.setIfInBounds m true).setIfInBounds j true).getD j true = true := by
        simp only [Array.getD_eq_getD_getElem?, Array.getElem?_setIfInBounds, if_true]
        split <;> rfl
      have hs0 := headQ_slot hL hoj hd hdi f _ _ hset hK
      refine wpOp_of_qOp (K := fun a' => a' = a.put oj.dst v) hD (fun a' w' hw' ha' => ?_) (hy.qOp hoj rfl)
      subst ha'
      have hcm : (listed.setIfInBounds m true).setIfInBounds j true = (listed.setIfInBounds j true).setIfInBounds m true := Array.setIfInBounds_comm _ _ (Ne.symm hji)
      refine ih (listed.setIfInBounds j true) _ w' hw' (by simp [hsz]) (by rw [getD_set_ne true hji]; exact hm) (ready_mono hr (Ne.symm hji)) (fun t ht ht' => by rw [getD_set_ne true (by omega)]; exact htl t ht ht') (by rw [← hcm]; exact hK) fun p hp => ?_
      have h1 := ((H1 p hp).2 j hj1).2
      obtain ⟨v', hy', hK'⟩ := yieldsIn_of_qOp hoj h1
      have hs1 := headQ_slot hL hoj hd hdi f _ _ hset hK'
      rw [← hcm]
      rw [hd] at hs0 hs1 hK' ⊢
      rw [put_same hs0 hs1]
      exact hK'
def dstsB (ops : Array Oper) (m : Nat) : Bool :=
  (List.range m).all fun j => match (ops[j]?).bind (·.dst) with
    | some d => (List.range m).all fun i => decide (i = j) || decide ((ops[i]?).bind (·.dst) ≠ some d)
    | none => false
def allocB (md : Region.Mode) (ops : Array Oper) (m : Nat) : Bool :=
  Region.noSelect ops && decide (m + 1 < ops.size) && sinkF md ops 0 (m + 1) && Region.chainB md ops (m + 1) && (Region.ready md ops (Array.replicate ops.size false)).contains m && Region.waitsFor md ops (m + 1) m && dstsB ops m &&
    ((List.range m).all fun j => match ops[m]?, ops[j]? with | some x, some y => x.apart ops y | _, _ => false) && lexA md ops (ops.size - (m + 1)) m m 0 ((Array.replicate ops.size false).setIfInBounds m true)
/-- The law: 'x := T{..}' whose parts call what makes memory. -/
theorem wp_region_ext_alloc {id : Nat} {Q : Exit → Act → World → Prop} {a : Act} {W : World} {l : List Oper} (m : Nat) (aE : Act) (oa : Oper) (t : TypeId) (cs : Array Value) (hm : P.follows .mixedOrders = true) (hB : allocB .any l.toArray m = true) (hoa : l[m]? = some oa)
    (hwant : oa.guard = none) (hrun : ∀ (a : Act) (w : World), (execOp a.eval oa).run P w = .ok (.value (.pointer (some ⟨w.heap.size, 0, none⟩))) (w.alloc (.cells cs t)))
    (hq : ∀ U : Up W, wpQuiet P l.toArray (fun w' => ∃ x : ExtU U, w' = x.w) (fun a' => a' = aE) (l.take m) a)
    (ht : ∀ (p : Nat) (x : Ext W), W.heap.size ≤ p → Whole x.w p t cs → wpList P l.toArray Q (l.drop (m + 1)) (aE.put oa.dst (.pointer (some ⟨p, 0, none⟩))) x.w) : (Code.region id l.toArray true).wp P Q a W := by
  simp only [allocB, Bool.and_eq_true, decide_eq_true_eq] at hB
  obtain ⟨⟨⟨⟨⟨⟨⟨⟨hsel, hn⟩, hs⟩, hc⟩, hr⟩, hw⟩, hds⟩, hap⟩, hlex⟩ := hB
  have hn' : m + 1 < l.length := by simpa using hn
  have htl : (l.take m).length = m := by simp; omega
  have hdl : (l.drop (m + 1)).length = l.toArray.size - (m + 1) := by simp
  have hoa' : l.toArray[m]? = some oa := by simpa using hoa
  have inv0 : HeadInv .any l.toArray (m + 1) (Array.replicate l.toArray.size false) :=
    ⟨by simp, fun j oj _ hl => (by rw [getD_replicate_false] at hl; cases hl), fun t _ ht => getD_in (by simpa using ht) (getD_replicate_false _ _)⟩
  have hr0 : m ∈ Region.ready .any l.toArray (Array.replicate l.toArray.size false) := by simpa using hr
  have inv1 := inv0.set hr0 (by omega)
  have H : ∀ U : Up W, headQ P .any l.toArray (fun w' => ∃ x : ExtU U, w' = x.w) (m + 1) (fun listed' a' => Region.seqB .any l.toArray (l.toArray.size - (m + 1)) (m + 1) listed' = true ∧ a' = aE) m ((Array.replicate l.toArray.size false).setIfInBounds m true) a := fun U => by
    have := headA_lex (md := .any) (g := l.toArray.size - (m + 1)) hsel hs hc hn (l.take m) 0 _ a (fun j hj => by
      have hj' : j < m := by rw [htl] at hj; exact hj
      simp [hj']) (by simpa using htl) inv1 (by rw [htl]; exact hlex) (hq U)
    rw [htl] at this
    exact this
  refine wp_region_any hm ?_
  have := wpAny_alloc (P := P) (md := .any) (ops := l.toArray) (D0 := fun w' => ∃ x : ExtU (Up.all W), w' = x.w) (ok := fun p => W.heap.size ≤ p) (D1 := fun p w' => ∃ (hp : W.heap.size ≤ p) (x : ExtU (Up.at W p t cs hp)), w' = x.w) (Q := Q) (m := m) (g := l.toArray.size - (m + 1))
    (L := fun listed' a' => Region.seqB .any l.toArray (l.toArray.size - (m + 1)) (m + 1) listed' = true ∧ a' = aE) (oa := oa) (aE := aE) (val := fun p => .pointer (some ⟨p, 0, none⟩)) hoa' (Region.noSelect_spec hsel) ?_ ?_ ?_ hw hc ?_ (fun _ _ h => h.2) (fun _ _ h => seqB_ready h.1) ?_
    m (Array.replicate l.toArray.size false) a { W with drawn := W.drawn + 1 } ⟨⟨_, (Below.refl _ W).drew⟩, rfl⟩ (by simp) (getD_in (by simp; omega) (getD_replicate_false _ _)) hr0 (fun t _ ht => getD_in (by simpa using ht) (getD_replicate_false _ _)) (H _) (fun p hp => by
      have h1 := H (Up.at W p t cs hp)
      have e : (fun w' => ∃ (hp : W.heap.size ≤ p) (x : ExtU (Up.at W p t cs hp)), w' = x.w) = (fun w' => ∃ x : ExtU (Up.at W p t cs hp), w' = x.w) := by
        funext w'
        exact propext ⟨fun ⟨_, h⟩ => h, fun h => ⟨hp, h⟩⟩
      rw [e]
      exact h1)
  · rw [show m + 1 + (l.toArray.size - (m + 1)) = l.toArray.size by omega] at this
    exact this
  · intro j oj hoj hj
    have h1 := List.all_eq_true.1 hap j (List.mem_range.2 hj)
    rw [hoa', hoj] at h1
    exact h1
  · intro i oi j oj hoi hoj hi hj hij
    have h1 := List.all_eq_true.1 hds j (List.mem_range.2 hj)
    rw [hoj] at h1
    simp only [Option.bind_some] at h1
    cases hd : oj.dst with
    | none => rw [hd] at h1; cases h1
    | some d =>
      rw [hd] at h1
      have h2 := List.all_eq_true.1 h1 i (List.mem_range.2 hi)
      rw [hoi] at h2
      simp only [Option.bind_some, Bool.or_eq_true, decide_eq_true_eq] at h2
      exact ⟨d, rfl, h2.resolve_left hij⟩
  · intro j oj hoj hj
    have h1 := List.all_eq_true.1 hds j (List.mem_range.2 hj)
    rw [hoj] at h1
    simp only [Option.bind_some] at h1
    cases hd : oj.dst with
    | none => rw [hd] at h1; cases h1
    | some d => exact ⟨d, rfl⟩
  · rintro a w K ⟨x, rfl⟩ hK
    unfold wpOp
    rw [hoa']
    simp only
    have hwt : Region.wanted oa (yielded l.toArray a.tmps) = true := by unfold Region.wanted; rw [hwant]
    rw [if_pos hwt]
    refine .inl ?_
    unfold Oper.wp
    rw [hrun]
    exact hK x.below.size _ ⟨x.below.size, ⟨x.w.alloc (.cells cs t), x.below.alloc x.below.size _, Whole.new _ _ _⟩, rfl⟩
  · rintro p l' w ⟨hp, x, rfl⟩ hL
    have := wpAny_of_seq (md := .any) (Q' := Q) (l.drop (m + 1)) (m + 1) l' (aE.put oa.dst (.pointer (some ⟨p, 0, none⟩))) x.w (fun j => by simp [List.getElem?_drop]) (by rw [hdl]; exact hL.1) (ht p ⟨x.w, x.below⟩ hp x.has.2)
    rwa [hdl] at this
end
end Go.Proofs.YtfbangojgjcbcaaGreatDoor
namespace Go.Proofs.YtfbangojgjcbcaaGreatDoor
open Go.RowKit Pl
open Go.Lib (decDigits itoa join)
theorem numC_ok {x : List UInt8} {v : Int} (h : Lib.atoiAll x = .ok v) : numC x = v := by unfold numC; rw [h]
theorem numC_no {x : List UInt8} (h : ∀ u, Lib.atoiAll x ≠ .ok u) : numC x = 0 := by
  unfold numC
  cases hx : Lib.atoiAll x with
  | ok v => exact absurd hx (h v)
  | _ => rfl
set_option maxRecDepth 100000 in
set_option maxHeartbeats 1000000 in
theorem cnum_any (x : List UInt8) (w : World) (hx : x.length ≤ 1000000) (E : Env w) :
    Calls Tryz.prog 87 #[.string (str x)] w fun e w' => e = .returned (.int .i64 (numC x)) ∧ Below w.heap.size w w' := by
  by_cases h : ∃ v, Lib.atoiAll x = .ok v
  · obtain ⟨v, hv⟩ := h
    have HN := Lib.hid (numC_ok hv)
    have HC := Lib.hid (atoi_ok x v w hx hv)
    clear hv
    go_enter Tryz.func87, Tryz.ntmps87
    go_wp2_with (go_at_call 146; refine HC.out.mono ?_; rintro e w' ⟨rfl, hb⟩)
    go_ret
    exact ⟨by rw [HN.out]; rfl, hb⟩
  · have HN := Lib.hid (numC_no fun u hu => h ⟨u, hu⟩)
    have HC := Lib.hid (atoi_err x w hx (fun u hu => h ⟨u, hu⟩) E)
    clear h
    go_enter Tryz.func87, Tryz.ntmps87
    go_wp2_with fail
    refine HC.out.mono ?_
    rintro e w' ⟨⟨n, t, p, rfl⟩, hb⟩
    go_wp2
    go_ret
    exact ⟨by rw [HN.out]; rfl, hb⟩
/-- What was read behind k bytes. -/
def numAcc (l : List UInt8) (k : Nat) : Nat := ((l.take k).drop (if isNeg l then 1 else 0)).foldl numStep 0
theorem numAcc_zero (l : List UInt8) : numAcc l 0 = 0 := by unfold numAcc; simp
theorem numAcc_lt (l : List UInt8) (k : Nat) : numAcc l k < 18446744073709551616 := by
  unfold numAcc
  have : ∀ (l : List UInt8) (a : Nat), a < 18446744073709551616 → l.foldl numStep a < 18446744073709551616 := by
    intro l
    induction l with
    | nil => intro a h; exact h
    | cons c l ih => intro a _; rw [List.foldl_cons]; exact ih _ (numStep_lt a c)
  exact this _ 0 (by decide)
theorem numAcc_skip {l : List UInt8} (h : isNeg l = true) : numAcc l 1 = 0 := by
  unfold numAcc
  rw [h, if_pos rfl]
  cases l <;> simp
theorem numAcc_next {l : List UInt8} {k : Nat} {b : UInt8} (hb : l[k]? = some b) (h : isNeg l = true → 0 < k) : numAcc l (k + 1) = numStep (numAcc l k) b := by
  unfold numAcc
  have hk : k < l.length := (List.getElem?_eq_some_iff.1 hb).1
  have e : (some b).toList = [b] := rfl
  rw [List.take_add_one, hb, e]
  cases hn : isNeg l with
  | true =>
    have := h hn
    rw [if_pos rfl, List.drop_append_of_le_length (by rw [List.length_take]; omega), List.foldl_append, List.foldl_cons, List.foldl_nil]
  | false =>
    rw [if_neg (by simp), List.drop_zero, List.drop_zero, List.foldl_append, List.foldl_cons, List.foldl_nil]
theorem numAcc_end {l : List UInt8} {k : Nat} (h : k = 20 ∨ (k = l.length ∧ k ≤ 20)) : numAcc l k = numU l := by
  unfold numAcc numU
  rcases h with rfl | ⟨rfl, hk⟩
  · rfl
  · rw [List.take_length, List.take_of_length_le hk]
theorem u64_wrap (x : Int) : IntKind.u64.wrap x = ((x % 18446744073709551616).toNat : Int) := by rw [IntKind.wrap_u64]; omega
theorem nat_step (x b m m2 : Nat) (hm : m = x * 10 % 18446744073709551616) (hm2 : m2 = (m + b) % 18446744073709551616) : (m2 + 18446744073709551568) % 18446744073709551616 = (x * 10 + b + 18446744073709551568) % 18446744073709551616 := by omega
/-- The three sums of a step, each named. -/
theorem step_wrap (x : Nat) (b : Nat) (hb : b < 256) : ∃ m m2 : Nat, IntKind.u64.wrap ((x : Int) * 10) = (m : Int) ∧ IntKind.u64.wrap ((m : Int) + (b : Int)) = (m2 : Int) ∧ IntKind.u64.wrap ((m2 : Int) - 48) = ((numStep x (UInt8.ofNat b) : Nat) : Int) := by
  obtain ⟨m, hm⟩ : ∃ m, m = x * 10 % 18446744073709551616 := ⟨_, rfl⟩
  obtain ⟨m2, hm2⟩ : ∃ m2, m2 = (m + b) % 18446744073709551616 := ⟨_, rfl⟩
  have h3 := nat_step x b m m2 hm hm2
  have hbb : (UInt8.ofNat b).toNat = b := by simp; omega
  have e : numStep x (UInt8.ofNat b) = (m2 + 18446744073709551568) % 18446744073709551616 := by unfold numStep; rw [hbb, h3]
  refine ⟨m, m2, ?_, ?_, ?_⟩
  · rw [IntKind.wrap_u64]; clear h3 e hm2; omega
  · rw [IntKind.wrap_u64]; clear h3 e hm; omega
  · rw [IntKind.wrap_u64, e]; clear h3 e hm hm2; omega
theorem num_neg (q : Nat) (l : List UInt8) (h : q = numU l) (hn : isNeg l = true) : wrap64 (IntKind.u64.wrap (-(q : Int))) = numR l := by
  have hq := numU_lt l
  rw [u64_wrap]
  unfold numR toI64
  rw [if_pos hn, ← h]
  rw [← h] at hq
  unfold wrap64
  split <;> omega
theorem num_pos (q : Nat) (l : List UInt8) (h : q = numU l) (hn : isNeg l = false) : wrap64 (q : Int) = numR l := by
  have hq := numU_lt l
  unfold numR toI64
  rw [if_neg (by rw [hn]; decide), ← h]
  rw [← h] at hq
  unfold wrap64
  split <;> omega
set_option maxRecDepth 100000 in
set_option maxHeartbeats 2000000 in
theorem rnum_any (l : List UInt8) (w : World) (hl : l.length ≤ 1000000) :
    Calls Tryz.prog 85 #[.string (str l)] w fun e w' => e = .returned (.int .i64 (numR l)) ∧ w = w' := by
  have hz := str_size l
  cases hn : isNeg l with
  | true =>
    have h0 : 0 < l.length := by
      unfold isNeg at hn
      cases l with
      | nil => simp at hn
      | cons c r => simp
    have hlt0 := str_lt h0
    have e0 : (((str l)[0]'hlt0).toNat : Int) = 45 := by
      rw [str_at l 0 h0]
      unfold isNeg at hn
      simp only [decide_eq_true_eq] at hn
      rw [List.head?_eq_getElem?, List.getElem?_eq_getElem h0] at hn
      rw [Option.some.inj hn]; rfl
    have d0 : ((((str l)[0]'hlt0).toNat : Int) == 45) = true := by rw [e0]; rfl
    have HN := Lib.hid hn
    clear hn e0
    go_enter Tryz.func85, Tryz.ntmps85
    go_wp2
    go_loop [3, 5] (fun x i => ∃ k q : Nat, k ≤ l.length ∧ k ≤ 20 ∧ i = .int .i64 k ∧ x = .int .u64 q ∧ Hid (q = numAcc l k)) (fun _ i => 20 - (intOf i).toNat)
    case atStart => exact ⟨0, 0, Nat.zero_le _, by omega, rfl, rfl, Lib.hid (numAcc_zero l).symm⟩
    case round =>
      obtain ⟨k, q, hk, hk2, rfl, rfl, HQ⟩ := hrel
      have hq := numAcc_lt l k
      rw [← HQ.out] at hq
      by_cases hlt : k < l.length
      · by_cases h20 : k < 20
        · have hlt' := str_lt hlt
          by_cases h00 : k = 0
          · subst h00
            have HQ1 : Hid (q = numAcc l (0 + 1)) := Lib.hid (by rw [HQ.out, numAcc_zero, numAcc_skip HN.out])
            clear hq
            go_wp2
            go_round
            case rel => exact ⟨0 + 1, q, by omega, by omega, by go_num, rfl, HQ1⟩
            case measure => simp [intOf]
          · obtain ⟨b, hbj⟩ : ∃ b, l[k]'hlt = b := ⟨_, rfl⟩
            obtain ⟨c, hc⟩ : ∃ c, b.toNat = c := ⟨_, rfl⟩
            have ej : (((str l)[k]'hlt').toNat : Int) = (c : Int) := by rw [str_at l k hlt, hbj, hc]
            have hb := b.toNat_lt
            rw [hc] at hb
            obtain ⟨m, m2, e1, e2, e3⟩ := step_wrap q c hb
            obtain rfl : b = UInt8.ofNat c := by rw [← hc]; simp
            have HQ1 : Hid (numStep q (UInt8.ofNat c) = numAcc l (k + 1)) := Lib.hid (by rw [numAcc_next (show l[k]? = some (UInt8.ofNat c) by rw [← hbj]; exact List.getElem?_eq_getElem hlt) (fun hh => by omega), ← HQ.out])
            have hcc : (c : Int) < 256 := by omega
            generalize numStep q (UInt8.ofNat c) = q2 at *
            have h00' : 0 < k := by omega
            clear hq hbj h00 hlt hc hb
            go_wp2
            go_round
            case rel => exact ⟨k + 1, q2, by omega, by omega, by go_num, rfl, HQ1⟩
            case measure => simp [intOf]; omega
        · obtain rfl : k = 20 := by omega
          have HE : Hid (q = numU l) := Lib.hid (by rw [HQ.out, numAcc_end (.inl rfl)])
          clear hq
          go_wp2
          go_ret
          exact ⟨ret_int (num_neg q l HE.out HN.out), rfl⟩
      · obtain rfl : k = l.length := by omega
        have HE : Hid (q = numU l) := Lib.hid (by rw [HQ.out, numAcc_end (.inr ⟨rfl, hk2⟩)])
        clear hq
        go_wp2
        go_ret
        exact ⟨ret_int (num_neg q l HE.out HN.out), rfl⟩
  | false =>
    by_cases h0 : 0 < l.length
    · have hlt0 := str_lt h0
      have d0 : ((((str l)[0]'hlt0).toNat : Int) == 45) = false := by
        rw [str_at l 0 h0, beq_eq_false_iff_ne]
        intro h
        unfold isNeg at hn
        rw [List.head?_eq_getElem?, List.getElem?_eq_getElem h0] at hn
        have : l[0] = 45 := UInt8.toNat_inj.1 (by simpa using (by omega : (l[0]).toNat = 45))
        simp only [decide_eq_false_iff_not, Option.some.injEq] at hn
        exact hn this
      have HN := Lib.hid hn
      clear hn
      go_enter Tryz.func85, Tryz.ntmps85
      go_wp2
      go_loop [3, 5] (fun x i => ∃ k q : Nat, k ≤ l.length ∧ k ≤ 20 ∧ i = .int .i64 k ∧ x = .int .u64 q ∧ Hid (q = numAcc l k)) (fun _ i => 20 - (intOf i).toNat)
      case atStart => exact ⟨0, 0, Nat.zero_le _, by omega, rfl, rfl, Lib.hid (numAcc_zero l).symm⟩
      case round =>
        obtain ⟨k, q, hk, hk2, rfl, rfl, HQ⟩ := hrel
        have hq := numAcc_lt l k
        rw [← HQ.out] at hq
        by_cases hlt : k < l.length
        · by_cases h20 : k < 20
          · have hlt' := str_lt hlt
            obtain ⟨b, hbj⟩ : ∃ b, l[k]'hlt = b := ⟨_, rfl⟩
            obtain ⟨c, hc⟩ : ∃ c, b.toNat = c := ⟨_, rfl⟩
            have ej : (((str l)[k]'hlt').toNat : Int) = (c : Int) := by rw [str_at l k hlt, hbj, hc]
            have hb := b.toNat_lt
            rw [hc] at hb
            obtain ⟨m, m2, e1, e2, e3⟩ := step_wrap q c hb
            obtain rfl : b = UInt8.ofNat c := by rw [← hc]; simp
            have HQ1 : Hid (numStep q (UInt8.ofNat c) = numAcc l (k + 1)) := Lib.hid (by rw [numAcc_next (show l[k]? = some (UInt8.ofNat c) by rw [← hbj]; exact List.getElem?_eq_getElem hlt) (fun hh => by rw [HN.out] at hh; cases hh), ← HQ.out])
            have hcc : (c : Int) < 256 := by omega
            generalize numStep q (UInt8.ofNat c) = q2 at *
            rcases Nat.eq_zero_or_pos k with rfl | h00
            · have e00 : (0 : Int) ≤ 0 := by omega
              clear hq hbj hlt hc hb
              go_wp2
              go_round
              case rel => exact ⟨0 + 1, q2, by omega, by omega, by go_num, rfl, HQ1⟩
              case measure => simp [intOf]
            · clear hq hbj hlt hc hb
              go_wp2
              go_round
              case rel => exact ⟨k + 1, q2, by omega, by omega, by go_num, rfl, HQ1⟩
              case measure => simp [intOf]; omega
          · obtain rfl : k = 20 := by omega
            have HE : Hid (q = numU l) := Lib.hid (by rw [HQ.out, numAcc_end (.inl rfl)])
            clear hq
            go_wp2
            go_ret
            exact ⟨ret_int (num_pos q l HE.out HN.out), rfl⟩
        · obtain rfl : k = l.length := by omega
          have HE : Hid (q = numU l) := Lib.hid (by rw [HQ.out, numAcc_end (.inr ⟨rfl, hk2⟩)])
          clear hq
          go_wp2
          go_ret
          exact ⟨ret_int (num_pos q l HE.out HN.out), rfl⟩
    · have h1 : l = [] := List.eq_nil_of_length_eq_zero (by omega)
      subst h1
      go_enter Tryz.func85, Tryz.ntmps85
      go_wp2
      go_loop [3, 5] (fun x i => i = .int .i64 0 ∧ x = .int .u64 0) (fun _ _ => 0)
      case atStart => exact ⟨rfl, rfl⟩
      case round =>
        obtain ⟨rfl, rfl⟩ := hrel
        go_wp2
        go_ret
        exact ⟨ret_int (by decide), rfl⟩
/-- A link as a value. -/
abbrev lkV (l : Lk) : Value := .agg #[.int .i64 l.1, .int .i64 l.2.1, .int .i64 l.2.2.1, .int .i64 l.2.2.2]
def lkN (l : Lk) : List Int := [l.1, l.2.1, l.2.2.1, l.2.2.2]
def lkPart (l : Lk) (k : Nat) : List UInt8 := wLink ++ ((lkN l).take k).flatMap fun n => 32 :: itoa n
theorem lkPart_all (l : Lk) : lkPart l 4 = linkText l := by
  unfold lkPart lkN linkText
  simp
theorem lkPart_next (l : Lk) (k : Nat) (n : Int) (h : (lkN l)[k]? = some n) : lkPart l (k + 1) = lkPart l k ++ 32 :: itoa n := by
  unfold lkPart
  rw [List.take_add_one, h]
  simp
theorem lkPart_len (l : Lk) (k : Nat) (h : In4 l) : (lkPart l k).length ≤ 100 := by
  have h1 := linkText_len h
  rw [← lkPart_all] at h1
  have : ((lkN l).take k).flatMap (fun n => 32 :: itoa n) = ((lkN l).take k).flatMap (fun n => 32 :: itoa n) := rfl
  unfold lkPart at h1 ⊢
  have h2 : (((lkN l).take k).flatMap fun n => 32 :: itoa n).length ≤ (((lkN l).take 4).flatMap fun n => 32 :: itoa n).length := by
    rw [show (lkN l).take 4 = lkN l from rfl]
    conv => rhs; rw [← List.take_append_drop k (lkN l), List.flatMap_append, List.length_append]
    omega
  rw [List.length_append] at h1 ⊢
  omega
theorem lkPart_str (p x : List UInt8) : (str p ++ ({ data := #[32] } ++ str x) : ByteArray) = str (p ++ 32 :: x) := by
  show str p ++ (str [32] ++ str x) = _
  rw [str_append, str_append]
  rfl
set_option maxRecDepth 100000 in
set_option maxHeartbeats 1000000 in
theorem clinkText_any (l : Lk) (w : World) (h : In4 l) (E : Env w) :
    Calls Tryz.prog 41 #[lkV l] w fun e w' => e = .returned (.string (str (linkText l))) ∧ Below w.heap.size w w' := by
  have HI := Lib.hid h
  obtain ⟨a, b, c, d⟩ := l
  clear h
  obtain ⟨W2, hW2⟩ : ∃ W2, (w.alloc (.cells #[.int .i64 a, .int .i64 b, .int .i64 c, .int .i64 d] 63)).alloc (.cells #[.int .i64 a, .int .i64 b, .int .i64 c, .int .i64 d] 3) = W2 := ⟨_, rfl⟩
  have HB2 : Hid (Below w.heap.size w W2) := Lib.hid (by rw [← hW2]; exact ((Below.refl _ _).alloc (Nat.le_refl _) _).alloc (by simp) _)
  have HX : Hid (Whole W2 (w.heap.size + 1) 3 #[.int .i64 a, .int .i64 b, .int .i64 c, .int .i64 d]) := Lib.hid (by
    rw [← hW2]
    have := Whole.new (w.alloc (.cells #[.int .i64 a, .int .i64 b, .int .i64 c, .int .i64 d] 63)) 3 #[.int .i64 a, .int .i64 b, .int .i64 c, .int .i64 d]
    simpa using this)
  have E2 := Lib.hid (E.here HB2.out)
  have HW := Lib.hid hW2
  clear hW2 E
  go_enter Tryz.func41, Tryz.ntmps41
  go_wp2
  rw [HW.out]
  go_loopw [3, 16] (fun s i wr => ∃ k : Nat, k ≤ 4 ∧ i = .int .i64 k ∧ s = .string (str (lkPart (a, b, c, d) k)) ∧ Hid (Below W2.heap.size W2 wr)) (fun _ i _ => 4 - (intOf i).toNat)
  case atStart => exact ⟨0, by omega, rfl, rfl, Lib.hid (Below.refl _ _)⟩
  case round =>
    obtain ⟨k, hk, rfl, rfl, HB⟩ := hrel
    by_cases hk4 : k < 4
    · obtain ⟨n, hn⟩ : ∃ n, (lkN (a, b, c, d))[k]? = some n := ⟨_, List.getElem?_eq_getElem (show k < 4 from hk4)⟩
      have hcell : wr.cell? ⟨w.heap.size + 1, k, none⟩ = some (.int .i64 n) := by
        have := (HX.out.here HB.out).cell k
        rw [this]
        unfold lkN at hn
        rcases (by omega : k = 0 ∨ k = 1 ∨ k = 2 ∨ k = 3) with rfl | rfl | rfl | rfl <;> simp at hn <;> subst hn <;> rfl
      have hin : In64 n := by
        obtain ⟨i1, i2, i3, i4⟩ := HI.out
        have hm := List.mem_of_getElem? hn
        unfold lkN at hm
        simp only [List.mem_cons, List.not_mem_nil, or_false] at hm
        rcases hm with rfl | rfl | rfl | rfl
        · exact i1
        · exact i2
        · exact i3
        · exact i4
      have hs : (str (itoa n)).size ≤ 20 := by rw [str_size]; exact itoa_len20 hin
      have hs2 : (str (lkPart (a, b, c, d) k)).size ≤ 100 := by rw [str_size]; exact lkPart_len _ _ HI.out
      have HN := Lib.hid (lkPart_next _ _ _ hn)
      clear hn
      go_wp2_with (go_at_call 58; refine (itoa_all _ _ hin.1 hin.2 (E2.out.here HB.out)).mono ?_; rintro e w3 ⟨rfl, hb3⟩; have HB3 := Lib.hid (HB.out.trans (hb3.mono HB.out.size)); clear hb3)
      go_roundw
      case rel => exact ⟨k + 1, by omega, by go_num, by rw [HN.out]; exact congrArg Value.string (lkPart_str _ _), HB3⟩
      case measure => simp [intOf]; omega
    · obtain rfl : k = 4 := by omega
      go_wp2
      go_ret
      exact ⟨by rw [lkPart_all]; rfl, HB2.out.trans (HB.out.mono HB2.out.size)⟩
end Go.Proofs.YtfbangojgjcbcaaGreatDoor
namespace Go.Proofs.YtfbangojgjcbcaaGreatDoor
open Go.RowKit Pl
open Go.Lib (decDigits itoa join)
def clkRes (s : List UInt8) : Value := match linkC s with
  | some l => .tuple #[lkV l, .int .i64 0]
  | none => .tuple #[lkV (0, 0, 0, 0), .int .i64 4]
theorem linkW_five {f : List UInt8 → Int} {s x0 x1 x2 x3 x4 : List UInt8} (h : splitOn 32 s = [x0, x1, x2, x3, x4]) : linkW f s = if linkText (f x1, f x2, f x3, f x4) = s then some (f x1, f x2, f x3, f x4) else none := by
  unfold linkW; rw [h]
theorem linkW_other {f : List UInt8 → Int} {s : List UInt8} (h : (splitOn 32 s).length ≠ 5) : linkW f s = none := by
  unfold linkW
  split
  · rename_i he; rw [he] at h; simp at h
  · rfl
theorem five_of {ws : List (List UInt8)} (h : ws.length = 5) : ∃ x0 x1 x2 x3 x4, ws = [x0, x1, x2, x3, x4] := by
  match ws, h with
  | [x0, x1, x2, x3, x4], _ => exact ⟨_, _, _, _, _, rfl⟩
/-- Five parts: a row of five strings, known by their numbers. -/
structure Five (w : World) (b : Nat) (x1 x2 x3 x4 : List UInt8) : Prop where
  lt : b < w.heap.size
  g1 : w.cell? ⟨b, 1, none⟩ = some (.string (str x1))
  g2 : w.cell? ⟨b, 2, none⟩ = some (.string (str x2))
  g3 : w.cell? ⟨b, 3, none⟩ = some (.string (str x3))
  g4 : w.cell? ⟨b, 4, none⟩ = some (.string (str x4))
theorem csplit_five (s x0 x1 x2 x3 x4 : List UInt8) (w : World) (hs : s.length ≤ 1000000) (E : Env w) (h : splitOn 32 s = [x0, x1, x2, x3, x4]) :
    Calls Tryz.prog 83 #[.string (str s), .string ⟨#[32]⟩] w fun e w' => ∃ b, e = .returned (.slice (some ⟨b, 0, none⟩) 5 5) ∧ Five w' b x1 x2 x3 x4 ∧ Below w.heap.size w w' := by
  have := split_any 32 s w hs E
  rw [h] at this
  exact this.mono fun e w' ⟨v, he, ⟨b, hv, hlt, hc⟩, hb⟩ => ⟨b, by rw [he, hv]; rfl, ⟨hlt, hc 1 _ rfl, hc 2 _ rfl, hc 3 _ rfl, hc 4 _ rfl⟩, hb⟩
theorem csplit_len (s : List UInt8) (w : World) (hs : s.length ≤ 1000000) (E : Env w) :
    Calls Tryz.prog 83 #[.string (str s), .string ⟨#[32]⟩] w fun e w' => ∃ b, e = .returned (.slice (some ⟨b, 0, none⟩) (splitOn 32 s).length (splitOn 32 s).length) ∧ Below w.heap.size w w' :=
  (split_any 32 s w hs E).mono fun _ _ ⟨_, he, ⟨b, hv, _, _⟩, hb⟩ => ⟨b, by rw [he, hv], hb⟩
theorem set4_below {w W : World} (h : Below w.heap.size w W) (u0 u1 u2 u3 : Value) : Below w.heap.size w ((((W.setCell ⟨w.heap.size, 0, none⟩ u0).setCell ⟨w.heap.size, 1, none⟩ u1).setCell ⟨w.heap.size, 2, none⟩ u2).setCell ⟨w.heap.size, 3, none⟩ u3) :=
  (((h.setCell (p := ⟨w.heap.size, 0, none⟩) (Nat.le_refl _) _).setCell (p := ⟨w.heap.size, 1, none⟩) (Nat.le_refl _) _).setCell (p := ⟨w.heap.size, 2, none⟩) (Nat.le_refl _) _).setCell (p := ⟨w.heap.size, 3, none⟩) (Nat.le_refl _) _
set_option maxRecDepth 100000 in
set_option maxHeartbeats 1000000 in
theorem clinkOf_any (s : List UInt8) (w : World) (hs : s.length ≤ 1000000) (E : Env w) :
    Calls Tryz.prog 39 #[.string (str s)] w fun e w' => e = .returned (clkRes s) ∧ Below w.heap.size w w' := by
  have E0 := Lib.hid E
  clear E
  by_cases h5 : (splitOn 32 s).length = 5
  · obtain ⟨x0, x1, x2, x3, x4, hx⟩ := five_of h5
    have hlen : ∀ x ∈ splitOn 32 s, x.length ≤ 1000000 := fun x hx => Nat.le_trans ((splitOn_len 32 s).2 x hx) hs
    rw [hx] at hlen
    have HLX := Lib.hid hlen
    have HR : Hid (clkRes s = match (if linkText (numC x1, numC x2, numC x3, numC x4) = s then some (numC x1, numC x2, numC x3, numC x4) else none) with
      | some l => .tuple #[lkV l, .int .i64 0]
      | none => .tuple #[lkV (0, 0, 0, 0), .int .i64 4]) := Lib.hid (by unfold clkRes linkC; rw [linkW_five hx]; rfl)
    have HS := Lib.hid (fun W hb => csplit_five s x0 x1 x2 x3 x4 W hs (E0.out.here hb) hx)
    have i1 := numC_in x1
    have i2 := numC_in x2
    have i3 := numC_in x3
    have i4 := numC_in x4
    have HN : Hid (In4 (numC x1, numC x2, numC x3, numC x4)) := Lib.hid ⟨i1, i2, i3, i4⟩
    clear h5 hx hlen i1 i2 i3 i4
    go_enter Tryz.func39, Tryz.ntmps39
    go_wp2_with fail
    refine (HS.out _ ((Below.refl _ _).alloc (Nat.le_refl _) _)).mono ?_
    rintro e w1 ⟨b, rfl, ⟨hbl, g1, g2, g3, g4⟩, hb1⟩
    have HZ : Hid (Whole w1 w.heap.size 63 #[.int .i64 0, .int .i64 0, .int .i64 0, .int .i64 0]) := Lib.hid ((Whole.new w 63 #[.int .i64 0, .int .i64 0, .int .i64 0, .int .i64 0]).here hb1)
    have HB1 : Hid (Below w.heap.size w w1) := Lib.hid (((Below.refl _ _).alloc (Nat.le_refl _) _).trans (hb1.mono (by simp)))
    have E1 := Lib.hid (E0.out.here HB1.out)
    clear hb1
    go_upto_region 4 with fail
    refine wp_region_ext_alloc 17 ?aE _ 63 #[.int .i64 0, .int .i64 0, .int .i64 0, .int .i64 0] (by kernel_rfl) (by kernel_rfl) rfl rfl (fun a w => by rfl) ?hq ?ht
    case hq =>
      intro U
      simp only [List.take_succ_cons, List.take_zero]
      repeat (go_big_quiet_step (first | (go_at_call 87; exact ExtU.call (cnum_any _ _ (HLX.out _ (by simp)) (E1.out.here (ExtU.below _))))))
      refine wpQuiet_nil ?_
      rfl
    case ht =>
      intro p x hp hpx
      simp only [List.drop_succ_cons, List.drop_zero]
      generalize numC x1 = m1 at *
      generalize numC x2 = m2 at *
      generalize numC x3 = m3 at *
      generalize numC x4 = m4 at *
      have HPX := Lib.hid hpx
      have f0 : x.w.frozen? ⟨p, 0, none⟩ = false := hpx.frozen 0
      have f1 : x.w.frozen? ⟨p, 1, none⟩ = false := hpx.frozen 1
      have f2 : x.w.frozen? ⟨p, 2, none⟩ = false := hpx.frozen 2
      have f3 : x.w.frozen? ⟨p, 3, none⟩ = false := hpx.frozen 3
      have c0 : x.w.cell? ⟨p, 0, none⟩ = some (.int .i64 0) := hpx.cell 0
      have c1 : x.w.cell? ⟨p, 1, none⟩ = some (.int .i64 0) := hpx.cell 1
      have c2 : x.w.cell? ⟨p, 2, none⟩ = some (.int .i64 0) := hpx.cell 2
      have c3 : x.w.cell? ⟨p, 3, none⟩ = some (.int .i64 0) := hpx.cell 3
      clear hpx
      go_wp2_with fail
      clear f0 f1 f2 f3 c0 c1 c2 c3
      obtain ⟨W3, hW3⟩ : ∃ W3, (((x.w.setCell ⟨p, 0, none⟩ (.int .i64 m1)).setCell ⟨p, 1, none⟩ (.int .i64 m2)).setCell ⟨p, 2, none⟩ (.int .i64 m3)).setCell ⟨p, 3, none⟩ (.int .i64 m4) = W3 := ⟨_, rfl⟩
      rw [hW3]
      have hpw : w.heap.size ≠ p := by have := HZ.out.lt; omega
      have H3 : Hid (Whole W3 p 63 #[.int .i64 m1, .int .i64 m2, .int .i64 m3, .int .i64 m4] ∧ Whole W3 w.heap.size 63 #[.int .i64 0, .int .i64 0, .int .i64 0, .int .i64 0] ∧ Below w.heap.size w W3) := Lib.hid (by
        rw [← hW3]
        refine ⟨(((HPX.out.set 0 _).set 1 _).set 2 _).set 3 _, ((((HZ.out.here x.below).far (p := ⟨p, 0, none⟩) hpw _).far (p := ⟨p, 1, none⟩) hpw _).far (p := ⟨p, 2, none⟩) hpw _).far (p := ⟨p, 3, none⟩) hpw _, ?_⟩
        have hB := HB1.out.trans (x.below.mono HB1.out.size)
        have hs : w.heap.size ≤ p := by have := HB1.out.size; omega
        exact (((hB.setCell (p := ⟨p, 0, none⟩) hs _).setCell (p := ⟨p, 1, none⟩) hs _).setCell (p := ⟨p, 2, none⟩) hs _).setCell (p := ⟨p, 3, none⟩) hs _)
      clear hW3 HPX HZ
      by_cases he : linkText (m1, m2, m3, m4) = s
      · have HE := str_eq_true he
        have HE2 : (!(str (linkText (m1, m2, m3, m4))).toList == (str s).toList) = false := by rw [HE]; rfl
        clear HE
        have HR := Lib.hid (HR.out.trans (by first | rw [if_pos he] | rw [if_neg he]))
        clear he
        refine (clinkText_any (m1, m2, m3, m4) _ HN.out (E0.out.here H3.out.2.2)).mono ?_
        rintro e w4 ⟨rfl, hb4⟩
        have hp4 := H3.out.1.here hb4
        have hr4 := H3.out.2.1.here hb4
        have hb4' := H3.out.2.2.trans (hb4.mono H3.out.2.2.size)
        have c0 : w4.cell? ⟨p, 0, none⟩ = some (.int .i64 m1) := hp4.cell 0
        have c1 : w4.cell? ⟨p, 1, none⟩ = some (.int .i64 m2) := hp4.cell 1
        have c2 : w4.cell? ⟨p, 2, none⟩ = some (.int .i64 m3) := hp4.cell 2
        have c3 : w4.cell? ⟨p, 3, none⟩ = some (.int .i64 m4) := hp4.cell 3
        have z0 : w4.cell? ⟨w.heap.size, 0, none⟩ = some (.int .i64 0) := hr4.cell 0
        have z1 : w4.cell? ⟨w.heap.size, 1, none⟩ = some (.int .i64 0) := hr4.cell 1
        have z2 : w4.cell? ⟨w.heap.size, 2, none⟩ = some (.int .i64 0) := hr4.cell 2
        have z3 : w4.cell? ⟨w.heap.size, 3, none⟩ = some (.int .i64 0) := hr4.cell 3
        have f0 : w4.frozen? ⟨w.heap.size, 0, none⟩ = false := hr4.frozen 0
        have f1 : w4.frozen? ⟨w.heap.size, 1, none⟩ = false := hr4.frozen 1
        have f2 : w4.frozen? ⟨w.heap.size, 2, none⟩ = false := hr4.frozen 2
        have f3 : w4.frozen? ⟨w.heap.size, 3, none⟩ = false := hr4.frozen 3
        have hlt4 : w.heap.size < w4.heap.size := hr4.lt
        have HB4 := Lib.hid hb4'
        clear hp4 hr4 hb4' hb4
        go_wp2
        exact bodyPost_ret (v := .tuple #[lkV (m1, m2, m3, m4), .int .i64 0]) (by simp [results, Tryz.results39, go_sem, z0, z1, z2, z3]) rfl ⟨by rw [HR.out], set4_below HB4.out _ _ _ _⟩
      · have HE := str_eq_false he
        have HE2 : (!(str (linkText (m1, m2, m3, m4))).toList == (str s).toList) = true := by rw [HE]; rfl
        clear HE
        have HR := Lib.hid (HR.out.trans (by first | rw [if_pos he] | rw [if_neg he]))
        clear he
        refine (clinkText_any (m1, m2, m3, m4) _ HN.out (E0.out.here H3.out.2.2)).mono ?_
        rintro e w4 ⟨rfl, hb4⟩
        have hp4 := H3.out.1.here hb4
        have hr4 := H3.out.2.1.here hb4
        have hb4' := H3.out.2.2.trans (hb4.mono H3.out.2.2.size)
        have c0 : w4.cell? ⟨p, 0, none⟩ = some (.int .i64 m1) := hp4.cell 0
        have c1 : w4.cell? ⟨p, 1, none⟩ = some (.int .i64 m2) := hp4.cell 1
        have c2 : w4.cell? ⟨p, 2, none⟩ = some (.int .i64 m3) := hp4.cell 2
        have c3 : w4.cell? ⟨p, 3, none⟩ = some (.int .i64 m4) := hp4.cell 3
        have z0 : w4.cell? ⟨w.heap.size, 0, none⟩ = some (.int .i64 0) := hr4.cell 0
        have z1 : w4.cell? ⟨w.heap.size, 1, none⟩ = some (.int .i64 0) := hr4.cell 1
        have z2 : w4.cell? ⟨w.heap.size, 2, none⟩ = some (.int .i64 0) := hr4.cell 2
        have z3 : w4.cell? ⟨w.heap.size, 3, none⟩ = some (.int .i64 0) := hr4.cell 3
        have f0 : w4.frozen? ⟨w.heap.size, 0, none⟩ = false := hr4.frozen 0
        have f1 : w4.frozen? ⟨w.heap.size, 1, none⟩ = false := hr4.frozen 1
        have f2 : w4.frozen? ⟨w.heap.size, 2, none⟩ = false := hr4.frozen 2
        have f3 : w4.frozen? ⟨w.heap.size, 3, none⟩ = false := hr4.frozen 3
        have hlt4 : w.heap.size < w4.heap.size := hr4.lt
        have HB4 := Lib.hid hb4'
        clear hp4 hr4 hb4' hb4
        go_wp2
        exact bodyPost_ret (v := .tuple #[lkV (0, 0, 0, 0), .int .i64 4]) (by simp [results, Tryz.results39, go_sem, z0, z1, z2, z3]) rfl ⟨by rw [HR.out], set4_below HB4.out _ _ _ _⟩
  · have HR : Hid (clkRes s = .tuple #[lkV (0, 0, 0, 0), .int .i64 4]) := Lib.hid (by unfold clkRes linkC; rw [linkW_other h5])
    have HS := Lib.hid (fun W hb => csplit_len s W hs (E0.out.here hb))
    have hn := (splitOn_len 32 s).1
    have d5 : (((splitOn 32 s).length : Int) != 5) = true := by simp; omega
    generalize (splitOn 32 s).length = n at *
    clear h5
    go_enter Tryz.func39, Tryz.ntmps39
    go_wp2_with fail
    refine (HS.out _ ((Below.refl _ _).alloc (Nat.le_refl _) _)).mono ?_
    rintro e w1 ⟨b, rfl, hb1⟩
    have hz1 := (Whole.new w 63 #[.int .i64 0, .int .i64 0, .int .i64 0, .int .i64 0]).here hb1
    have HB4 : Hid (Below w.heap.size w w1) := Lib.hid (((Below.refl _ _).alloc (Nat.le_refl _) _).trans (hb1.mono (by simp)))
    have z0 : w1.cell? ⟨w.heap.size, 0, none⟩ = some (.int .i64 0) := hz1.cell 0
    have z1 : w1.cell? ⟨w.heap.size, 1, none⟩ = some (.int .i64 0) := hz1.cell 1
    have z2 : w1.cell? ⟨w.heap.size, 2, none⟩ = some (.int .i64 0) := hz1.cell 2
    have z3 : w1.cell? ⟨w.heap.size, 3, none⟩ = some (.int .i64 0) := hz1.cell 3
    have f0 : w1.frozen? ⟨w.heap.size, 0, none⟩ = false := hz1.frozen 0
    have f1 : w1.frozen? ⟨w.heap.size, 1, none⟩ = false := hz1.frozen 1
    have f2 : w1.frozen? ⟨w.heap.size, 2, none⟩ = false := hz1.frozen 2
    have f3 : w1.frozen? ⟨w.heap.size, 3, none⟩ = false := hz1.frozen 3
    have hlt4 : w.heap.size < w1.heap.size := hz1.lt
    clear hz1 hb1
    go_wp2
    exact bodyPost_ret (v := .tuple #[lkV (0, 0, 0, 0), .int .i64 4]) (by simp [results, Tryz.results39, go_sem, z0, z1, z2, z3]) rfl ⟨by rw [HR.out], set4_below HB4.out _ _ _ _⟩
-- the reference's
end Go.Proofs.YtfbangojgjcbcaaGreatDoor
