/- A region that draws its order: first some operations in one forced order, then a head that is quiet in a class of worlds, then a tail in one forced order. -/
import Derived.Test.YtfbangojgjcbcaaGreatDoorTail
namespace Go.Proofs.YtfbangojgjcbcaaGreatDoor
open Go.RowKit Pl
section
variable {P : Program} {ops : Array Oper} {md : Region.Mode}

theorem wp_then {o : Oper} {a : Act} {w : World} {K K' : Act → World → Prop} {Q : Exit → Act → World → Prop} (hh : o.wp P a w K (Exit.then K' Q)) : o.wp P a w K Q := by
  unfold Oper.wp at *
  generalize (execOp a.eval o).run P w = r at *
  cases r with
  | ok n w' =>
    cases n <;> simp only [Oper.upon] at hh ⊢ <;>
      first
        | exact hh
        | exact Calls.mono hh (fun e w'' he => by cases e <;> exact he)
  | halt x w' => cases x <;> simp only [Oper.upon] at hh ⊢ <;> exact hh
theorem wpOp_then {i : Nat} {a : Act} {w : World} {K K' : Act → World → Prop} {Q : Exit → Act → World → Prop} (hh : wpOp P ops (Exit.then K' Q) i K a w) : wpOp P ops Q i K a w := by
  unfold wpOp at *
  split
  · simpa [*] using hh
  · rename_i o ho
    simp only [ho] at hh
    split
    · rename_i hw; simp only [hw, if_true] at hh; exact hh.imp wp_then id
    · rename_i hw; simp only [hw] at hh; exact hh

theorem at_array {L : List Oper} {ops : Array Oper} (h : L.toArray = ops) (j : Nat) : L[j]? = ops[j]? := by rw [← h]; simp
def frontB (md : Region.Mode) (ops : Array Oper) (g : Nat) : Nat → Nat → Nat → Array Bool → Bool
  | 0, m, k, listed => Region.lexHead md ops g m k listed
  | f + 1, m, k, listed => decide (Region.ready md ops listed = [k]) && frontB md ops g f m (k + 1) (listed.setIfInBounds k true)
def frontTailB (md : Region.Mode) (ops : Array Oper) (f n : Nat) : Bool :=
  Region.noSelect ops && decide (n < ops.size) && decide (f ≤ n) && Region.sinkB md ops n && Region.chainB md ops n && frontB md ops (ops.size - n) f (n - f) 0 (Array.replicate ops.size false)

theorem wpAny_front {n f : Nat} {Q : Exit → Act → World → Prop} {L : List Oper} (hL : L.toArray = ops) (hsel : Region.noSelect ops = true) (hs : Region.sinkB md ops n = true) (hc : Region.chainB md ops n = true) (hn : n < ops.size) (hfn : f ≤ n) :
    ∀ (l : List Oper) (k : Nat) (listed : Array Bool) (a : Act) (w : World), (∀ j, j < l.length → l[j]? = ops[k + j]?) → k + l.length = f → HeadInv md ops n listed →
    frontB md ops (ops.size - n) l.length (n - f) k listed = true →
    wpList P ops (Exit.then (fun a1 w1 => ∃ C : World → Prop, C w1 ∧ wpQuiet P ops C (fun a' => ∀ w', C w' → wpList P ops Q (L.drop n) a' w') ((L.drop f).take (n - f)) a1) Q) l a w →
    wpAny P md ops Q (ops.size - k) listed a w
  | [], k, listed, a, w, _, hk, inv, hB, h => by
    obtain rfl : k = f := by simpa using hk
    obtain ⟨C, hC, hq⟩ := h
    have hsz : L.length = ops.size := by rw [← hL]; simp
    have htl : ((L.drop k).take (n - k)).length = n - k := by simp; omega
    have hat : ∀ j : Nat, L[j]? = ops[j]? := at_array hL
    have H := headQ_lex (md := md) (g := ops.size - n) hsel hs hc hn ((L.drop k).take (n - k)) k listed a (fun j hj => by
      rw [htl] at hj
      rw [List.getElem?_take, if_pos hj, List.getElem?_drop]; exact hat _) (by rw [htl]; omega) inv (by rw [htl]; exact hB) hq
    have hdl : (L.drop n).length = ops.size - n := by simp [hsz]
    have := wpAny_of_headQ (Q' := Q) (g := ops.size - n) (fun listed a' w' hw' hL2 => by
      have := wpAny_of_seq (md := md) (Q' := Q) (L.drop n) n listed a' w' (fun j => by rw [List.getElem?_drop]; exact hat _) (by rw [hdl]; exact hL2.1) (hL2.2 w' hw')
      rwa [hdl] at this) _ _ _ _ hC H
    rw [htl, show n - k + (ops.size - n) = ops.size - k by omega] at this
    exact this
  | o :: l, k, listed, a, w, hl, hk, inv, hB, h => by
    have h0 : ops[k]? = some o := by simpa using (hl 0 (by simp)).symm
    simp only [List.length_cons, frontB, Bool.and_eq_true, decide_eq_true_eq] at hB
    simp only [List.length_cons] at hk
    rw [show ops.size - k = (ops.size - (k + 1)) + 1 by omega]
    refine ⟨fun h1 => (by rw [hB.1] at h1; cases h1), fun i hi => ?_⟩
    have hi2 := hi
    rw [hB.1] at hi
    obtain rfl : i = k := by simpa using hi
    refine wpOp_then (K' := fun a1 w1 => ∃ C : World → Prop, C w1 ∧ wpQuiet P ops C (fun a' => ∀ w', C w' → wpList P ops Q (L.drop n) a' w') ((L.drop f).take (n - f)) a1) (wpOp_mono (K := wpList P ops (Exit.then (fun a1 w1 => ∃ C : World → Prop, C w1 ∧ wpQuiet P ops C (fun a' => ∀ w', C w' → wpList P ops Q (L.drop n) a' w') ((L.drop f).take (n - f)) a1) Q) l) (fun a' w' h' => wpAny_front hL hsel hs hc hn hfn l (i + 1) _ a' w' (fun j hj => by have := hl (j + 1) (by simp; omega); simpa [Nat.add_assoc, Nat.add_comm 1 j] using this) (by omega) (inv.set hi2 (by omega)) hB.2 h') ?_)
    unfold wpOp; simp only [h0]; exact h

/-- The first f operations in their order; those up to n quiet in a class that holds then; the rest in its order. -/
theorem wp_region_front {id : Nat} {Q : Exit → Act → World → Prop} {a : Act} {w : World} {l : List Oper} (f n : Nat) (hm : P.follows .mixedOrders = true) (hB : frontTailB .any l.toArray f n = true)
    (h : wpList P l.toArray (Exit.then (fun a1 w1 => ∃ C : World → Prop, C w1 ∧ wpQuiet P l.toArray C (fun a' => ∀ w', C w' → wpList P l.toArray Q (l.drop n) a' w') ((l.drop f).take (n - f)) a1) Q) (l.take f) a { w with drawn := w.drawn + 1 }) : (Code.region id l.toArray true).wp P Q a w := by
  simp only [frontTailB, Bool.and_eq_true, decide_eq_true_eq] at hB
  obtain ⟨⟨⟨⟨⟨hsel, hn⟩, hfn⟩, hs⟩, hc⟩, hfr⟩ := hB
  have hn' : n < l.length := by simpa using hn
  have htl : (l.take f).length = f := by simp; omega
  have inv0 : HeadInv .any l.toArray n (Array.replicate l.toArray.size false) :=
    ⟨by simp, fun j oj _ hl => (by rw [getD_replicate_false] at hl; cases hl), fun t _ ht => getD_in (by simpa using ht) (getD_replicate_false _ _)⟩
  refine wp_region_any hm ?_
  have := wpAny_front (md := .any) (L := l) rfl hsel hs hc hn hfn (l.take f) 0 _ a _ (fun j hj => by
    rw [htl] at hj
    simp [hj]) (by rw [htl]; simp) inv0 (by rw [htl]; exact hfr) h
  simpa using this
end
end Go.Proofs.YtfbangojgjcbcaaGreatDoor
