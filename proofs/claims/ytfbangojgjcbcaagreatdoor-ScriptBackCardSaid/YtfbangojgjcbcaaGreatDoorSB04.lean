/- Part 4 of the proof: AllocF, ScrL, ScrM, ActA, OpenS, PlainV, SetA, ConfB. -/
import Derived.WalkMore
import Derived.Deep.LoopGhost
import Derived.Test.YtfbangojgjcbcaaGreatDoorSB01
import Derived.Test.YtfbangojgjcbcaaGreatDoorSB02
import Derived.Test.YtfbangojgjcbcaaGreatDoorSB03
namespace Go.Proofs.YtfbangojgjcbcaaGreatDoor
open Go.RowKit Pl
/-- A class of worlds that keep W, which what makes memory does not leave. -/
structure Up (W : World) where
  D : World → Prop
  sub : ∀ w, D w → Below W.heap.size W w
  up : ∀ w w', D w → Below w.heap.size w w' → D w'
  one : ∃ w, D w
structure ExtU {W : World} (U : Up W) where
  w : World
  has : U.D w
instance {W : World} (U : Up W) : Nonempty (ExtU U) := let ⟨w, h⟩ := U.one; ⟨⟨w, h⟩⟩
theorem ExtU.below {W : World} {U : Up W} (x : ExtU U) : Below W.heap.size W x.w := U.sub _ x.has
theorem ExtU.call {W : World} {U : Up W} {P : Program} {f : FuncId} {args : Array Value} {x : ExtU U} {v : Value}
    (h : Calls P f args x.w fun e w' => e = .returned v ∧ Below x.w.heap.size x.w w') : Calls P f args x.w fun e w'' => e = .returned v ∧ ∃ y : ExtU U, w'' = y.w :=
  h.mono fun _ w' ⟨he, hb⟩ => ⟨he, ⟨w', U.up _ _ x.has hb⟩, rfl⟩
theorem ExtU.callq {W : World} {U : Up W} {P : Program} {f : FuncId} {args : Array Value} {x : ExtU U} {v : Value}
    (h : Calls P f args x.w fun e w' => e = .returned v ∧ x.w = w') : Calls P f args x.w fun e w'' => e = .returned v ∧ ∃ y : ExtU U, w'' = y.w :=
  h.mono fun _ _ ⟨he, hb⟩ => ⟨he, x, hb.symm⟩
@[go_sem] theorem ExtU.cell {W : World} {U : Up W} (x : ExtU U) (p : Addr) (h : p.block < W.heap.size) : x.w.cell? p = W.cell? p := x.below.cell h
@[go_sem] theorem ExtU.frozen {W : World} {U : Up W} (x : ExtU U) (p : Addr) (h : p.block < W.heap.size) : x.w.frozen? p = W.frozen? p := x.below.frozen h
def Up.all (W : World) : Up W := ⟨fun w => Below W.heap.size W w, fun _ h => h, fun _ _ h hb => h.trans (hb.mono h.size), ⟨W, Below.refl _ _⟩⟩
theorem below_long (W : World) : ∀ k : Nat, ∃ w, Below W.heap.size W w ∧ w.heap.size = W.heap.size + k
  | 0 => ⟨W, Below.refl _ _, rfl⟩
  | k + 1 => let ⟨w, h, hs⟩ := below_long W k; ⟨w.alloc (.cells #[] 0), h.alloc h.size _, by rw [World.size_alloc, hs]; omega⟩
theorem below_at (W : World) (p : Nat) (t : TypeId) (cs : Array Value) (hp : W.heap.size ≤ p) : ∃ w, Below W.heap.size W w ∧ Whole w p t cs := by
  obtain ⟨w, h, hs⟩ := below_long W (p - W.heap.size)
  have : w.heap.size = p := by omega
  subst this
  exact ⟨w.alloc (.cells cs t), h.alloc h.size _, Whole.new _ _ _⟩
def Up.at (W : World) (p : Nat) (t : TypeId) (cs : Array Value) (hp : W.heap.size ≤ p) : Up W :=
  ⟨fun w => Below W.heap.size W w ∧ Whole w p t cs, fun _ h => h.1, fun _ _ h hb => ⟨h.1.trans (hb.mono h.1.size), h.2.here hb⟩, below_at W p t cs hp⟩
def Up.C {W : World} (U : Up W) : World → Prop := fun w' => ∃ x : ExtU U, w' = x.w
section
variable {P : Program} {ops : Array Oper} {md : Region.Mode} {C D0 : World → Prop}
/-- What the end's frame holds where an operation that has come up has written. -/
theorem headQ_slot {n : Nat} {L : Array Bool → Act → Prop} {aE : Act} (hL : ∀ l a, L l a → a = aE) {j : Nat} {oj : Oper} {d : Tmp} (hj : ops[j]? = some oj) (hd : oj.dst = some d)
    (hdist : ∀ i oi, ops[i]? = some oi → i < n → i ≠ j → oi.dst ≠ some d) :
    ∀ (f : Nat) (listed : Array Bool) (a : Act), listed.getD j true = true → headQ P md ops C n L f listed a → aE.tmps[d]? = a.tmps[d]?
  | 0, _, a, _, h => by rw [hL _ _ h]
  | f + 1, listed, a, hl, h => by
    obtain ⟨i, hi⟩ := List.exists_mem_of_ne_nil _ h.1
    obtain ⟨hin, hq⟩ := h.2 i hi
    obtain ⟨hun, oi, hoi, -⟩ := mem_ready.1 hi
    have hij : i ≠ j := by rintro rfl; rw [hun] at hl; cases hl
    obtain ⟨v, -, hK⟩ := yieldsIn_of_qOp hoi hq
    have := headQ_slot hL hj hd hdist f _ _ (by rw [getD_set_ne true hij]; exact hl) hK
    rw [this]
    have hne := hdist i oi hoi hin hij
    cases ho : oi.dst with
    | none => rfl
    | some e =>
      have : e ≠ d := fun h => hne (by rw [ho, h])
      show (a.tmps.setIfInBounds e v)[d]? = _
      rw [Array.getElem?_setIfInBounds_ne this]
theorem put_same {a aE : Act} {d : Tmp} {v v' : Value} (h : aE.tmps[d]? = (a.put (some d) v).tmps[d]?) (h' : aE.tmps[d]? = (a.put (some d) v').tmps[d]?) : a.put (some d) v = a.put (some d) v' := by
  rw [h] at h'
  unfold Act.put at h' ⊢
  simp only at h' ⊢
  rcases Nat.lt_or_ge d a.tmps.size with hd | hd
  · rw [Array.getElem?_setIfInBounds_self_of_lt hd, Array.getElem?_setIfInBounds_self_of_lt hd] at h'
    rw [Option.some.inj h']
  · simp only [Act.mk.injEq, and_true]
    rw [Array.setIfInBounds_eq_of_size_le hd, Array.setIfInBounds_eq_of_size_le hd]
theorem qOp_put' {j : Nat} {oi oj : Oper} {v : Value} (hj : ops[j]? = some oj) (hap : oi.apart ops oj = true) (hsj : ∀ cs b, oj.op ≠ .select cs b) {K : Act → Prop} {a : Act}
    (h : qOp P ops C j K a) : qOp P ops C j (fun a' => ∃ a0, a' = a0.put oi.dst v ∧ K a0) (a.put oi.dst v) := by
  obtain ⟨h1, h2, h3⟩ := Oper.apart_spec hap
  unfold qOp at *
  simp only [hj] at *
  rw [wanted_put oj a oi.dst v h1]
  split
  · rename_i hw
    simp only [hw, if_true] at h
    obtain ⟨u, hu, hn⟩ := h
    refine ⟨u, fun w hw' => ?_, a.put oj.dst u, (Act.put_comm a v u h2), hn⟩
    have := hu w hw'
    unfold Oper.quietAt at *
    rwa [execOp_put oj hsj a oi.dst v h1]
  · rename_i hw
    simp only [hw] at h
    exact ⟨a.put oj.dst undef, (Act.put_comm a v undef h2), h⟩
theorem headQ_put {n : Nat} {L : Array Bool → Act → Prop} {oi : Oper} {v : Value} (hsel : ∀ (j : Nat) (o : Oper) cs b, ops[j]? = some o → o.op ≠ .select cs b)
    (hap : ∀ j oj, ops[j]? = some oj → j < n → oi.apart ops oj = true ∨ oj = oi) :
    ∀ (f : Nat) (listed : Array Bool) (a : Act), (∀ j, j < n → ops[j]? = some oi → listed.getD j true = true) → headQ P md ops C n L f listed a →
      headQ P md ops C n (fun l a' => ∃ a0, a' = a0.put oi.dst v ∧ L l a0) f listed (a.put oi.dst v)
  | 0, _, a, _, h => ⟨a, rfl, h⟩
  | f + 1, listed, a, hl, h => by
    refine ⟨h.1, fun j hj => ?_⟩
    obtain ⟨hjn, hq⟩ := h.2 j hj
    obtain ⟨hju, oj, hoj, -⟩ := mem_ready.1 hj
    refine ⟨hjn, ?_⟩
    rcases hap j oj hoj hjn with h1 | rfl
    · refine qOp_mono ?_ (qOp_put' hoj h1 (fun cs b => hsel j oj cs b hoj) hq)
      rintro _ ⟨a0, rfl, h0⟩
      refine headQ_put hsel hap f _ a0 (fun k hk hok => ?_) h0
      by_cases hjk : j = k
      · subst hjk
        exact absurd (hl j hk hok) (by rw [hju]; decide)
      · rw [getD_set_ne true hjk]; exact hl k hk hok
    · exact absurd (hl j hjn hoj) (by rw [hju]; decide)
/-- The head without operation m, in the order of the text; then, m having come up, the tail. -/
def lexA (md : Region.Mode) (ops : Array Oper) (g m : Nat) : Nat → Nat → Array Bool → Bool
  | 0, _, listed => Region.seqB md ops g (m + 1) listed
  | f + 1, k, listed => (Region.ready md ops listed).contains k && Region.free md ops listed k && lexA md ops g m f (k + 1) (listed.setIfInBounds k true)
theorem headA_lex {m g : Nat} {Lq : Act → Prop} (hsel : Region.noSelect ops = true) (hs : sinkF md ops 0 (m + 1) = true) (hc : Region.chainB md ops (m + 1) = true) (hn : m + 1 < ops.size) :
    ∀ (l : List Oper) (k : Nat) (listed : Array Bool) (a : Act), (∀ j, j < l.length → l[j]? = ops[k + j]?) → k + l.length = m → HeadInv md ops (m + 1) listed →
    lexA md ops g m l.length k listed = true → wpQuiet P ops C Lq l a →
    headQ P md ops C (m + 1) (fun listed' a' => Region.seqB md ops g (m + 1) listed' = true ∧ Lq a') l.length listed a
  | [], _, listed, a, _, _, _, hB, h => ⟨by simpa [lexA] using hB, h⟩
  | o :: l, k, listed, a, hl, hk, inv, hB, h => by
    have h0 : ops[k]? = some o := by simpa using (hl 0 (by simp)).symm
    simp only [List.length_cons, lexA, Bool.and_eq_true] at hB
    obtain ⟨⟨hr, hf⟩, hB'⟩ := hB
    have hkn : k < m + 1 := by simp only [List.length_cons] at hk; omega
    have hr' : k ∈ Region.ready md ops listed := by simpa using hr
    have hst : qOp P ops C k (wpQuiet P ops C Lq l) a := by unfold qOp; simp only [h0]; exact h
    obtain ⟨v, hy, hK⟩ := yieldsIn_of_qOp h0 hst
    exact headF_first h0 (Region.noSelect_spec hsel) hs hc hn hkn (Nat.zero_le _) (fun listed' a' hL => seqB_ready hL.1) l.length listed a inv (Region.free_spec h0 hf) hr' hy
      (headA_lex hsel hs hc hn l (k + 1) _ _ (fun j hj => by have := hl (j + 1) (by simp; omega); simpa [Nat.add_assoc, Nat.add_comm 1 j] using this) (by simp only [List.length_cons] at hk; omega) (inv.set hr' hkn) hB' hK)
theorem wpAny_alloc {D1 : Nat → World → Prop} {ok : Nat → Prop} {Q : Exit → Act → World → Prop} {m g : Nat} {L : Array Bool → Act → Prop} {oa : Oper} {aE : Act} {val : Nat → Value} (hoa : ops[m]? = some oa)
    (hsel : ∀ (j : Nat) (o : Oper) cs b, ops[j]? = some o → o.op ≠ .select cs b)
    (hap : ∀ j oj, ops[j]? = some oj → j < m → oa.apart ops oj = true)
    (hdist : ∀ i oi j oj, ops[i]? = some oi → ops[j]? = some oj → i < m → j < m → i ≠ j → ∃ d, oj.dst = some d ∧ oi.dst ≠ some d) (hsome : ∀ j oj, ops[j]? = some oj → j < m → ∃ d, oj.dst = some d)
    (hw : Region.waitsFor md ops (m + 1) m = true) (hc : Region.chainB md ops (m + 1) = true)
    (halloc : ∀ (a : Act) (w : World) (K : Act → World → Prop), D0 w → (ok w.heap.size → ∀ w', D1 w.heap.size w' → K (a.put oa.dst (val w.heap.size)) w') → wpOp P ops Q m K a w)
    (hL : ∀ l a, L l a → a = aE) (hLr : ∀ l a, L l a → ∀ j ∈ Region.ready md ops l, m + 1 ≤ j)
    (htail : ∀ p l w, D1 p w → L l aE → wpAny P md ops Q g l (aE.put oa.dst (val p)) w) :
    ∀ (f : Nat) (listed : Array Bool) (a : Act) (w : World), D0 w → listed.size = ops.size → listed.getD m true = false → m ∈ Region.ready md ops listed →
      (∀ t, m + 1 ≤ t → t < ops.size → listed.getD t true = false) →
      headQ P md ops D0 (m + 1) L f (listed.setIfInBounds m true) a → (∀ p, ok p → headQ P md ops (D1 p) (m + 1) L f (listed.setIfInBounds m true) a) → wpAny P md ops Q (f + 1 + g) listed a w := by
  have hlate : ∀ (listed : Array Bool), listed.size = ops.size → listed.getD m true = false → (∀ t, m + 1 ≤ t → t < ops.size → listed.getD t true = false) → ∀ j ∈ Region.ready md ops listed, j ≤ m := by
    intro listed hsz hm htl j hj
    rcases Nat.lt_or_ge m j with h | h
    · obtain ⟨_, oj, hoj, hall⟩ := mem_ready.1 hj
      have hlt : j < ops.size := (Array.getElem?_eq_some_iff.1 hoj).1
      have waits : ∀ {i : Nat}, Region.waitsFor md ops j i = true → listed.getD i false = true := fun h => by
        obtain ⟨o', ho', e, he, hb, rfl⟩ := Region.waitsFor_spec h
        rw [hoj] at ho'
        cases ho'
        exact hall e he hb
      by_cases hjm : j = m + 1
      · subst hjm
        have := waits hw
        rw [getD_both hm] at this
        cases this
      · have h1 := List.all_eq_true.1 hc j (List.mem_range.2 hlt)
        rcases (Bool.or_eq_true _ _).mp h1 with h1 | h1
        · have := of_decide_eq_true h1; omega
        · have h3 := waits h1
          rw [getD_both (htl (j - 1) (by omega) (by omega))] at h3
          cases h3
    · exact h
  have hgo : ∀ (f : Nat) (listed : Array Bool) (a : Act) (p : Nat) (w : World), D1 p w → listed.getD m true = false → m < listed.size → headQ P md ops (D1 p) (m + 1) L f (listed.setIfInBounds m true) a →
      wpAny P md ops Q (f + g) (listed.setIfInBounds m true) (a.put oa.dst (val p)) w := by
    intro f listed a p w hw hm hms h
    have h2 := headQ_put (v := val p) (oi := oa) hsel (fun j oj hoj hjn => by
      by_cases hjm : j = m
      · subst hjm; rw [hoa] at hoj; exact .inr (Option.some.inj hoj).symm
      · exact .inl (hap j oj hoj (by omega))) f _ a (fun j hj hoj => by
        by_cases hjm : j = m
        · subst hjm; simp [hms]
        · obtain ⟨e, he⟩ := hsome j oa hoj (by omega)
          have := (Oper.apart_spec (hap j oa hoj (by omega))).2.1 e he
          exact absurd he this) h
    refine wpAny_of_headQ (fun l a' w' hw' => ?_) f _ _ _ hw h2
    rintro ⟨a0, rfl, h0⟩
    obtain rfl := hL _ _ h0
    exact htail p _ _ hw' h0
  intro f
  induction f with
  | zero =>
    intro listed a w hD hsz hm hr htl H0 H1
    rw [show 0 + 1 + g = g + 1 by omega]
    refine ⟨fun h => (by rw [h] at hr; cases hr), fun j hj => ?_⟩
    have hjm := hlate listed hsz hm htl j hj
    by_cases hji : j = m
    · subst hji
      refine halloc a w _ hD fun hok w' hw' => ?_
      have := hgo 0 listed a _ w' hw' hm (by rw [hsz]; exact (Array.getElem?_eq_some_iff.1 hoa).1) (H1 _ hok)
      rwa [Nat.zero_add] at this
    · have := hLr _ _ H0 j (ready_mono hj hji)
      omega
  | succ f ih =>
    intro listed a w hD hsz hm hr htl H0 H1
    rw [show f + 1 + 1 + g = (f + 1 + g) + 1 by omega]
    refine ⟨fun h => (by rw [h] at hr; cases hr), fun j hj => ?_⟩
    have hjm := hlate listed hsz hm htl j hj
    by_cases hji : j = m
    · subst hji
      exact halloc a w _ hD fun hok w' hw' => hgo (f + 1) listed a _ w' hw' hm (by rw [hsz]; exact (Array.getElem?_eq_some_iff.1 hoa).1) (H1 _ hok)
    · have hjlt : j < m := by omega
      obtain ⟨hjun, oj, hoj, -⟩ := mem_ready.1 hj
      have hj1 := ready_mono hj hji
      have h0 := (H0.2 j hj1).2
      obtain ⟨v, hy, hK⟩ := yieldsIn_of_qOp hoj h0
      obtain ⟨d, hd⟩ := hsome j oj hoj hjlt
      have hdi : ∀ i oi, ops[i]? = some oi → i < m + 1 → i ≠ j → oi.dst ≠ some d := fun i oi hoi hin hij => by
        by_cases him : i = m
        · subst him
          rw [hoa] at hoi
          cases hoi
          intro he
          exact (Oper.apart_spec (hap j oj hoj hjlt)).2.1 d he hd
        · obtain ⟨d', hd', hne⟩ := hdist i oi j oj hoi hoj (by omega) hjlt hij
          rw [hd] at hd'
          cases hd'
          exact hne
      have hset : ((listed.setIfInBounds m true).setIfInBounds j true).getD j true = true := by
        simp only [Array.getD_eq_getD_getElem?, Array.getElem?_setIfInBounds, if_true]
        split <;> rfl
      have hs0 := headQ_slot hL hoj hd hdi f _ _ hset hK
      refine wpOp_of_qOp (K := fun a' => a' = a.put oj.dst v) hD (fun a' w' hw' ha' => ?_) (hy.qOp hoj rfl)
      subst ha'
      have hcm : (listed.setIfInBounds m true).setIfInBounds j true = (listed.setIfInBounds j true).setIfInBounds m true := Array.setIfInBounds_comm _ _ (Ne.symm hji)
      refine ih (listed.setIfInBounds j true) _ w' hw' (by simp [hsz]) (by rw [getD_set_ne true hji]; exact hm) (ready_mono hr (Ne.symm hji)) (fun t ht ht' => by rw [getD_set_ne true (by omega)]; exact htl t ht ht') (by rw [← hcm]; exact hK) fun p hp => ?_
      have h1 := ((H1 p hp).2 j hj1).2
      obtain ⟨v', hy', hK'⟩ := yieldsIn_of_qOp hoj h1
      have hs1 := headQ_slot hL hoj hd hdi f _ _ hset hK'
      rw [← hcm]
      rw [hd] at hs0 hs1 hK' ⊢
      rw [put_same hs0 hs1]
      exact hK'
def dstsB (ops : Array Oper) (m : Nat) : Bool :=
  (List.range m).all fun j => match (ops[j]?).bind (·.dst) with
    | some d => (List.range m).all fun i => decide (i = j) || decide ((ops[i]?).bind (·.dst) ≠ some d)
    | none => false
def allocB (md : Region.Mode) (ops : Array Oper) (m : Nat) : Bool :=
  Region.noSelect ops && decide (m + 1 < ops.size) && sinkF md ops 0 (m + 1) && Region.chainB md ops (m + 1) && (Region.ready md ops (Array.replicate ops.size false)).contains m && Region.waitsFor md ops (m + 1) m && dstsB ops m &&
    ((List.range m).all fun j => match ops[m]?, ops[j]? with | some x, some y => x.apart ops y | _, _ => false) && lexA md ops (ops.size - (m + 1)) m m 0 ((Array.replicate ops.size false).setIfInBounds m true)
/-- The law: 'x := T{..}' whose parts call what makes memory. -/
theorem wp_region_ext_alloc {id : Nat} {Q : Exit → Act → World → Prop} {a : Act} {W : World} {l : List Oper} (m : Nat) (aE : Act) (oa : Oper) (t : TypeId) (cs : Array Value) (hm : P.follows .mixedOrders = true) (hB : allocB .any l.toArray m = true) (hoa : l[m]? = some oa)
    (hwant : oa.guard = none) (hrun : ∀ (a : Act) (w : World), (execOp a.eval oa).run P w = .ok (.value (.pointer (some ⟨w.heap.size, 0, none⟩))) (w.alloc (.cells cs t)))
    (hq : ∀ U : Up W, wpQuiet P l.toArray (fun w' => ∃ x : ExtU U, w' = x.w) (fun a' => a' = aE) (l.take m) a)
    (ht : ∀ (p : Nat) (x : Ext W), W.heap.size ≤ p → Whole x.w p t cs → wpList P l.toArray Q (l.drop (m + 1)) (aE.put oa.dst (.pointer (some ⟨p, 0, none⟩))) x.w) : (Code.region id l.toArray true).wp P Q a W := by
  simp only [allocB, Bool.and_eq_true, decide_eq_true_eq] at hB
  obtain ⟨⟨⟨⟨⟨⟨⟨⟨hsel, hn⟩, hs⟩, hc⟩, hr⟩, hw⟩, hds⟩, hap⟩, hlex⟩ := hB
  have hn' : m + 1 < l.length := by simpa using hn
  have htl : (l.take m).length = m := by simp; omega
  have hdl : (l.drop (m + 1)).length = l.toArray.size - (m + 1) := by simp
  have hoa' : l.toArray[m]? = some oa := by simpa using hoa
  have inv0 : HeadInv .any l.toArray (m + 1) (Array.replicate l.toArray.size false) :=
    ⟨by simp, fun j oj _ hl => (by rw [getD_replicate_false] at hl; cases hl), fun t _ ht => getD_in (by simpa using ht) (getD_replicate_false _ _)⟩
  have hr0 : m ∈ Region.ready .any l.toArray (Array.replicate l.toArray.size false) := by simpa using hr
  have inv1 := inv0.set hr0 (by omega)
  have H : ∀ U : Up W, headQ P .any l.toArray (fun w' => ∃ x : ExtU U, w' = x.w) (m + 1) (fun listed' a' => Region.seqB .any l.toArray (l.toArray.size - (m + 1)) (m + 1) listed' = true ∧ a' = aE) m ((Array.replicate l.toArray.size false).setIfInBounds m true) a := fun U => by
    have := headA_lex (md := .any) (g := l.toArray.size - (m + 1)) hsel hs hc hn (l.take m) 0 _ a (fun j hj => by
      have hj' : j < m := by rw [htl] at hj; exact hj
      simp [hj']) (by simpa using htl) inv1 (by rw [htl]; exact hlex) (hq U)
    rw [htl] at this
    exact this
  refine wp_region_any hm ?_
  have := wpAny_alloc (P := P) (md := .any) (ops := l.toArray) (D0 := fun w' => ∃ x : ExtU (Up.all W), w' = x.w) (ok := fun p => W.heap.size ≤ p) (D1 := fun p w' => ∃ (hp : W.heap.size ≤ p) (x : ExtU (Up.at W p t cs hp)), w' = x.w) (Q := Q) (m := m) (g := l.toArray.size - (m + 1))
    (L := fun listed' a' => Region.seqB .any l.toArray (l.toArray.size - (m + 1)) (m + 1) listed' = true ∧ a' = aE) (oa := oa) (aE := aE) (val := fun p => .pointer (some ⟨p, 0, none⟩)) hoa' (Region.noSelect_spec hsel) ?_ ?_ ?_ hw hc ?_ (fun _ _ h => h.2) (fun _ _ h => seqB_ready h.1) ?_
    m (Array.replicate l.toArray.size false) a { W with drawn := W.drawn + 1 } ⟨⟨_, (Below.refl _ W).drew⟩, rfl⟩ (by simp) (getD_in (by simp; omega) (getD_replicate_false _ _)) hr0 (fun t _ ht => getD_in (by simpa using ht) (getD_replicate_false _ _)) (H _) (fun p hp => by
      have h1 := H (Up.at W p t cs hp)
      have e : (fun w' => ∃ (hp : W.heap.size ≤ p) (x : ExtU (Up.at W p t cs hp)), w' = x.w) = (fun w' => ∃ x : ExtU (Up.at W p t cs hp), w' = x.w) := by
        funext w'
        exact propext ⟨fun ⟨_, h⟩ => h, fun h => ⟨hp, h⟩⟩
      rw [e]
      exact h1)
  · rw [show m + 1 + (l.toArray.size - (m + 1)) = l.toArray.size by omega] at this
    exact this
  · intro j oj hoj hj
    have h1 := List.all_eq_true.1 hap j (List.mem_range.2 hj)
    rw [hoa', hoj] at h1
    exact h1
  · intro i oi j oj hoi hoj hi hj hij
    have h1 := List.all_eq_true.1 hds j (List.mem_range.2 hj)
    rw [hoj] at h1
    simp only [Option.bind_some] at h1
    cases hd : oj.dst with
    | none => rw [hd] at h1; cases h1
    | some d =>
      rw [hd] at h1
      have h2 := List.all_eq_true.1 h1 i (List.mem_range.2 hi)
      rw [hoi] at h2
      simp only [Option.bind_some, Bool.or_eq_true, decide_eq_true_eq] at h2
      exact ⟨d, rfl, h2.resolve_left hij⟩
  · intro j oj hoj hj
    have h1 := List.all_eq_true.1 hds j (List.mem_range.2 hj)
    rw [hoj] at h1
    simp only [Option.bind_some] at h1
    cases hd : oj.dst with
    | none => rw [hd] at h1; cases h1
    | some d => exact ⟨d, rfl⟩
  · rintro a w K ⟨x, rfl⟩ hK
    unfold wpOp
    rw [hoa']
    simp only
    have hwt : Region.wanted oa (yielded l.toArray a.tmps) = true := by unfold Region.wanted; rw [hwant]
    rw [if_pos hwt]
    refine .inl ?_
    unfold Oper.wp
    rw [hrun]
    exact hK x.below.size _ ⟨x.below.size, ⟨x.w.alloc (.cells cs t), x.below.alloc x.below.size _, Whole.new _ _ _⟩, rfl⟩
  · rintro p l' w ⟨hp, x, rfl⟩ hL
    have := wpAny_of_seq (md := .any) (Q' := Q) (l.drop (m + 1)) (m + 1) l' (aE.put oa.dst (.pointer (some ⟨p, 0, none⟩))) x.w (fun j => by simp [List.getElem?_drop]) (by rw [hdl]; exact hL.1) (ht p ⟨x.w, x.below⟩ hp x.has.2)
    rwa [hdl] at this
end
end Go.Proofs.YtfbangojgjcbcaaGreatDoor
namespace Go.Proofs.YtfbangojgjcbcaaGreatDoor
open Go.RowKit Pl
open Go.Lib (decDigits itoa join)
theorem numC_ok {x : List UInt8} {v : Int} (h : Lib.atoiAll x = .ok v) : numC x = v := by unfold numC; rw [h]
theorem numC_no {x : List UInt8} (h : ∀ u, Lib.atoiAll x ≠ .ok u) : numC x = 0 := by
  unfold numC
  cases hx : Lib.atoiAll x with
  | ok v => exact absurd hx (h v)
  | _ => rfl
set_option maxRecDepth 100000 in
set_option maxHeartbeats 1000000 in
theorem cnum_any (x : List UInt8) (w : World) (hx : x.length ≤ 1000000) (E : Env w) :
    Calls Tryz.prog 87 #[.string (str x)] w fun e w' => e = .returned (.int .i64 (numC x)) ∧ Below w.heap.size w w' := by
  by_cases h : ∃ v, Lib.atoiAll x = .ok v
  · obtain ⟨v, hv⟩ := h
    have HN := Lib.hid (numC_ok hv)
    have HC := Lib.hid (atoi_ok x v w hx hv)
    clear hv
    go_enter Tryz.func87, Tryz.ntmps87
    go_wp2_with (go_at_call 146; refine HC.out.mono ?_; rintro e w' ⟨rfl, hb⟩)
    go_ret
    exact ⟨by rw [HN.out]; rfl, hb⟩
  · have HN := Lib.hid (numC_no fun u hu => h ⟨u, hu⟩)
    have HC := Lib.hid (atoi_err x w hx (fun u hu => h ⟨u, hu⟩) E)
    clear h
    go_enter Tryz.func87, Tryz.ntmps87
    go_wp2_with fail
    refine HC.out.mono ?_
    rintro e w' ⟨⟨n, t, p, rfl⟩, hb⟩
    go_wp2
    go_ret
    exact ⟨by rw [HN.out]; rfl, hb⟩
/-- A link as a value. -/
abbrev lkV (l : Lk) : Value := .agg #[.int .i64 l.1, .int .i64 l.2.1, .int .i64 l.2.2.1, .int .i64 l.2.2.2]
def lkN (l : Lk) : List Int := [l.1, l.2.1, l.2.2.1, l.2.2.2]
def lkPart (l : Lk) (k : Nat) : List UInt8 := wLink ++ ((lkN l).take k).flatMap fun n => 32 :: itoa n
theorem lkPart_all (l : Lk) : lkPart l 4 = linkText l := by
  unfold lkPart lkN linkText
  simp
theorem lkPart_next (l : Lk) (k : Nat) (n : Int) (h : (lkN l)[k]? = some n) : lkPart l (k + 1) = lkPart l k ++ 32 :: itoa n := by
  unfold lkPart
  rw [List.take_add_one, h]
  simp
theorem lkPart_len (l : Lk) (k : Nat) (h : In4 l) : (lkPart l k).length ≤ 100 := by
  have h1 := linkText_len h
  rw [← lkPart_all] at h1
  have : ((lkN l).take k).flatMap (fun n => 32 :: itoa n) = ((lkN l).take k).flatMap (fun n => 32 :: itoa n) := rfl
  unfold lkPart at h1 ⊢
  have h2 : (((lkN l).take k).flatMap fun n => 32 :: itoa n).length ≤ (((lkN l).take 4).flatMap fun n => 32 :: itoa n).length := by
    rw [show (lkN l).take 4 = lkN l from rfl]
    conv => rhs; rw [← List.take_append_drop k (lkN l), List.flatMap_append, List.length_append]
    omega
  rw [List.length_append] at h1 ⊢
  omega
theorem lkPart_str (p x : List UInt8) : (str p ++ ({ data := #[32] } ++ str x) : ByteArray) = str (p ++ 32 :: x) := by
  show str p ++ (str [32] ++ str x) = _
  rw [str_append, str_append]
  rfl
set_option maxRecDepth 100000 in
set_option maxHeartbeats 1000000 in
theorem clinkText_any (l : Lk) (w : World) (h : In4 l) (E : Env w) :
    Calls Tryz.prog 41 #[lkV l] w fun e w' => e = .returned (.string (str (linkText l))) ∧ Below w.heap.size w w' := by
  have HI := Lib.hid h
  obtain ⟨a, b, c, d⟩ := l
  clear h
  obtain ⟨W2, hW2⟩ : ∃ W2, (w.alloc (.cells #[.int .i64 a, .int .i64 b, .int .i64 c, .int .i64 d] 63)).alloc (.cells #[.int .i64 a, .int .i64 b, .int .i64 c, .int .i64 d] 3) = W2 := ⟨_, rfl⟩
  have HB2 : Hid (Below w.heap.size w W2) := Lib.hid (by rw [← hW2]; exact ((Below.refl _ _).alloc (Nat.le_refl _) _).alloc (by simp) _)
  have HX : Hid (Whole W2 (w.heap.size + 1) 3 #[.int .i64 a, .int .i64 b, .int .i64 c, .int .i64 d]) := Lib.hid (by
    rw [← hW2]
    have := Whole.new (w.alloc (.cells #[.int .i64 a, .int .i64 b, .int .i64 c, .int .i64 d] 63)) 3 #[.int .i64 a, .int .i64 b, .int .i64 c, .int .i64 d]
    simpa using this)
  have E2 := Lib.hid (E.here HB2.out)
  have HW := Lib.hid hW2
  clear hW2 E
  go_enter Tryz.func41, Tryz.ntmps41
  go_wp2
  rw [HW.out]
  go_loopw [3, 16] (fun s i wr => ∃ k : Nat, k ≤ 4 ∧ i = .int .i64 k ∧ s = .string (str (lkPart (a, b, c, d) k)) ∧ Hid (Below W2.heap.size W2 wr)) (fun _ i _ => 4 - (intOf i).toNat)
  case atStart => exact ⟨0, by omega, rfl, rfl, Lib.hid (Below.refl _ _)⟩
  case round =>
    obtain ⟨k, hk, rfl, rfl, HB⟩ := hrel
    by_cases hk4 : k < 4
    · obtain ⟨n, hn⟩ : ∃ n, (lkN (a, b, c, d))[k]? = some n := ⟨_, List.getElem?_eq_getElem (show k < 4 from hk4)⟩
      have hcell : wr.cell? ⟨w.heap.size + 1, k, none⟩ = some (.int .i64 n) := by
        have := (HX.out.here HB.out).cell k
        rw [this]
        unfold lkN at hn
        rcases (by omega : k = 0 ∨ k = 1 ∨ k = 2 ∨ k = 3) with rfl | rfl | rfl | rfl <;> simp at hn <;> subst hn <;> rfl
      have hin : In64 n := by
        obtain ⟨i1, i2, i3, i4⟩ := HI.out
        have hm := List.mem_of_getElem? hn
        unfold lkN at hm
        simp only [List.mem_cons, List.not_mem_nil, or_false] at hm
        rcases hm with rfl | rfl | rfl | rfl
        · exact i1
        · exact i2
        · exact i3
        · exact i4
      have hs : (str (itoa n)).size ≤ 20 := by rw [str_size]; exact itoa_len20 hin
      have hs2 : (str (lkPart (a, b, c, d) k)).size ≤ 100 := by rw [str_size]; exact lkPart_len _ _ HI.out
      have HN := Lib.hid (lkPart_next _ _ _ hn)
      clear hn
      go_wp2_with (go_at_call 58; refine (itoa_all _ _ hin.1 hin.2 (E2.out.here HB.out)).mono ?_; rintro e w3 ⟨rfl, hb3⟩; have HB3 := Lib.hid (HB.out.trans (hb3.mono HB.out.size)); clear hb3)
      go_roundw
      case rel => exact ⟨k + 1, by omega, by go_num, by rw [HN.out]; exact congrArg Value.string (lkPart_str _ _), HB3⟩
      case measure => simp [intOf]; omega
    · obtain rfl : k = 4 := by omega
      go_wp2
      go_ret
      exact ⟨by rw [lkPart_all]; rfl, HB2.out.trans (HB.out.mono HB2.out.size)⟩
end Go.Proofs.YtfbangojgjcbcaaGreatDoor
namespace Go.Proofs.YtfbangojgjcbcaaGreatDoor
open Go.RowKit Pl
open Go.Lib (decDigits itoa join)
def clkRes (s : List UInt8) : Value := match linkC s with
  | some l => .tuple #[lkV l, .int .i64 0]
  | none => .tuple #[lkV (0, 0, 0, 0), .int .i64 4]
theorem linkW_five {f : List UInt8 → Int} {s x0 x1 x2 x3 x4 : List UInt8} (h : splitOn 32 s = [x0, x1, x2, x3, x4]) : linkW f s = if linkText (f x1, f x2, f x3, f x4) = s then some (f x1, f x2, f x3, f x4) else none := by
  unfold linkW; rw [h]
theorem linkW_other {f : List UInt8 → Int} {s : List UInt8} (h : (splitOn 32 s).length ≠ 5) : linkW f s = none := by
  unfold linkW
  split
  · rename_i he; rw [he] at h; simp at h
  · rfl
theorem five_of {ws : List (List UInt8)} (h : ws.length = 5) : ∃ x0 x1 x2 x3 x4, ws = [x0, x1, x2, x3, x4] := by
  match ws, h with
  | [x0, x1, x2, x3, x4], _ => exact ⟨_, _, _, _, _, rfl⟩
/-- Five parts: a row of five strings, known by their numbers. -/
structure Five (w : World) (b : Nat) (x1 x2 x3 x4 : List UInt8) : Prop where
  lt : b < w.heap.size
  g1 : w.cell? ⟨b, 1, none⟩ = some (.string (str x1))
  g2 : w.cell? ⟨b, 2, none⟩ = some (.string (str x2))
  g3 : w.cell? ⟨b, 3, none⟩ = some (.string (str x3))
  g4 : w.cell? ⟨b, 4, none⟩ = some (.string (str x4))
theorem csplit_five (s x0 x1 x2 x3 x4 : List UInt8) (w : World) (hs : s.length ≤ 1000000) (E : Env w) (h : splitOn 32 s = [x0, x1, x2, x3, x4]) :
    Calls Tryz.prog 83 #[.string (str s), .string ⟨#[32]⟩] w fun e w' => ∃ b, e = .returned (.slice (some ⟨b, 0, none⟩) 5 5) ∧ Five w' b x1 x2 x3 x4 ∧ Below w.heap.size w w' := by
  have := split_any 32 s w hs E
  rw [h] at this
  exact this.mono fun e w' ⟨v, he, ⟨b, hv, hlt, hc⟩, hb⟩ => ⟨b, by rw [he, hv]; rfl, ⟨hlt, hc 1 _ rfl, hc 2 _ rfl, hc 3 _ rfl, hc 4 _ rfl⟩, hb⟩
theorem csplit_len (s : List UInt8) (w : World) (hs : s.length ≤ 1000000) (E : Env w) :
    Calls Tryz.prog 83 #[.string (str s), .string ⟨#[32]⟩] w fun e w' => ∃ b, e = .returned (.slice (some ⟨b, 0, none⟩) (splitOn 32 s).length (splitOn 32 s).length) ∧ Below w.heap.size w w' :=
  (split_any 32 s w hs E).mono fun _ _ ⟨_, he, ⟨b, hv, _, _⟩, hb⟩ => ⟨b, by rw [he, hv], hb⟩
theorem set4_below {w W : World} (h : Below w.heap.size w W) (u0 u1 u2 u3 : Value) : Below w.heap.size w ((((W.setCell ⟨w.heap.size, 0, none⟩ u0).setCell ⟨w.heap.size, 1, none⟩ u1).setCell ⟨w.heap.size, 2, none⟩ u2).setCell ⟨w.heap.size, 3, none⟩ u3) :=
  (((h.setCell (p := ⟨w.heap.size, 0, none⟩) (Nat.le_refl _) _).setCell (p := ⟨w.heap.size, 1, none⟩) (Nat.le_refl _) _).setCell (p := ⟨w.heap.size, 2, none⟩) (Nat.le_refl _) _).setCell (p := ⟨w.heap.size, 3, none⟩) (Nat.le_refl _) _
set_option maxRecDepth 100000 in
set_option maxHeartbeats 1000000 in
theorem clinkOf_any (s : List UInt8) (w : World) (hs : s.length ≤ 1000000) (E : Env w) :
    Calls Tryz.prog 39 #[.string (str s)] w fun e w' => e = .returned (clkRes s) ∧ Below w.heap.size w w' := by
  have E0 := Lib.hid E
  clear E
  by_cases h5 : (splitOn 32 s).length = 5
  · obtain ⟨x0, x1, x2, x3, x4, hx⟩ := five_of h5
    have hlen : ∀ x ∈ splitOn 32 s, x.length ≤ 1000000 := fun x hx => Nat.le_trans ((splitOn_len 32 s).2 x hx) hs
    rw [hx] at hlen
    have HLX := Lib.hid hlen
    have HR : Hid (clkRes s = match (if linkText (numC x1, numC x2, numC x3, numC x4) = s then some (numC x1, numC x2, numC x3, numC x4) else none) with
      | some l => .tuple #[lkV l, .int .i64 0]
      | none => .tuple #[lkV (0, 0, 0, 0), .int .i64 4]) := Lib.hid (by unfold clkRes linkC; rw [linkW_five hx]; rfl)
    have HS := Lib.hid (fun W hb => csplit_five s x0 x1 x2 x3 x4 W hs (E0.out.here hb) hx)
    have i1 := numC_in x1
    have i2 := numC_in x2
    have i3 := numC_in x3
    have i4 := numC_in x4
    have HN : Hid (In4 (numC x1, numC x2, numC x3, numC x4)) := Lib.hid ⟨i1, i2, i3, i4⟩
    clear h5 hx hlen i1 i2 i3 i4
    go_enter Tryz.func39, Tryz.ntmps39
    go_wp2_with fail
    refine (HS.out _ ((Below.refl _ _).alloc (Nat.le_refl _) _)).mono ?_
    rintro e w1 ⟨b, rfl, ⟨hbl, g1, g2, g3, g4⟩, hb1⟩
    have HZ : Hid (Whole w1 w.heap.size 63 #[.int .i64 0, .int .i64 0, .int .i64 0, .int .i64 0]) := Lib.hid ((Whole.new w 63 #[.int .i64 0, .int .i64 0, .int .i64 0, .int .i64 0]).here hb1)
    have HB1 : Hid (Below w.heap.size w w1) := Lib.hid (((Below.refl _ _).alloc (Nat.le_refl _) _).trans (hb1.mono (by simp)))
    have E1 := Lib.hid (E0.out.here HB1.out)
    clear hb1
    go_upto_region 4 with fail
    refine wp_region_ext_alloc 17 ?aE _ 63 #[.int .i64 0, .int .i64 0, .int .i64 0, .int .i64 0] (by kernel_rfl) (by kernel_rfl) rfl rfl (fun a w => by rfl) ?hq ?ht
    case hq =>
      intro U
      simp only [List.take_succ_cons, List.take_zero]
      repeat (go_big_quiet_step (first | (go_at_call 87; exact ExtU.call (cnum_any _ _ (HLX.out _ (by simp)) (E1.out.here (ExtU.below _))))))
      refine wpQuiet_nil ?_
      rfl
    case ht =>
      intro p x hp hpx
      simp only [List.drop_succ_cons, List.drop_zero]
      generalize numC x1 = m1 at *
      generalize numC x2 = m2 at *
      generalize numC x3 = m3 at *
      generalize numC x4 = m4 at *
      have HPX := Lib.hid hpx
      have f0 : x.w.frozen? ⟨p, 0, none⟩ = false := hpx.frozen 0
      have f1 : x.w.frozen? ⟨p, 1, none⟩ = false := hpx.frozen 1
      have f2 : x.w.frozen? ⟨p, 2, none⟩ = false := hpx.frozen 2
      have f3 : x.w.frozen? ⟨p, 3, none⟩ = false := hpx.frozen 3
      have c0 : x.w.cell? ⟨p, 0, none⟩ = some (.int .i64 0) := hpx.cell 0
      have c1 : x.w.cell? ⟨p, 1, none⟩ = some (.int .i64 0) := hpx.cell 1
      have c2 : x.w.cell? ⟨p, 2, none⟩ = some (.int .i64 0) := hpx.cell 2
      have c3 : x.w.cell? ⟨p, 3, none⟩ = some (.int .i64 0) := hpx.cell 3
      clear hpx
      go_wp2_with fail
      clear f0 f1 f2 f3 c0 c1 c2 c3
      obtain ⟨W3, hW3⟩ : ∃ W3, (((x.w.setCell ⟨p, 0, none⟩ (.int .i64 m1)).setCell ⟨p, 1, none⟩ (.int .i64 m2)).setCell ⟨p, 2, none⟩ (.int .i64 m3)).setCell ⟨p, 3, none⟩ (.int .i64 m4) = W3 := ⟨_, rfl⟩
      rw [hW3]
      have hpw : w.heap.size ≠ p := by have := HZ.out.lt; omega
      have H3 : Hid (Whole W3 p 63 #[.int .i64 m1, .int .i64 m2, .int .i64 m3, .int .i64 m4] ∧ Whole W3 w.heap.size 63 #[.int .i64 0, .int .i64 0, .int .i64 0, .int .i64 0] ∧ Below w.heap.size w W3) := Lib.hid (by
        rw [← hW3]
        refine ⟨(((HPX.out.set 0 _).set 1 _).set 2 _).set 3 _, ((((HZ.out.here x.below).far (p := ⟨p, 0, none⟩) hpw _).far (p := ⟨p, 1, none⟩) hpw _).far (p := ⟨p, 2, none⟩) hpw _).far (p := ⟨p, 3, none⟩) hpw _, ?_⟩
        have hB := HB1.out.trans (x.below.mono HB1.out.size)
        have hs : w.heap.size ≤ p := by have := HB1.out.size; omega
        exact (((hB.setCell (p := ⟨p, 0, none⟩) hs _).setCell (p := ⟨p, 1, none⟩) hs _).setCell (p := ⟨p, 2, none⟩) hs _).setCell (p := ⟨p, 3, none⟩) hs _)
      clear hW3 HPX HZ
      by_cases he : linkText (m1, m2, m3, m4) = s
      · have HE := str_eq_true he
        have HE2 : (!(str (linkText (m1, m2, m3, m4))).toList == (str s).toList) = false := by rw [HE]; rfl
        clear HE
        have HR := Lib.hid (HR.out.trans (by first | rw [if_pos he] | rw [if_neg he]))
        clear he
        refine (clinkText_any (m1, m2, m3, m4) _ HN.out (E0.out.here H3.out.2.2)).mono ?_
        rintro e w4 ⟨rfl, hb4⟩
        have hp4 := H3.out.1.here hb4
        have hr4 := H3.out.2.1.here hb4
        have hb4' := H3.out.2.2.trans (hb4.mono H3.out.2.2.size)
        have c0 : w4.cell? ⟨p, 0, none⟩ = some (.int .i64 m1) := hp4.cell 0
        have c1 : w4.cell? ⟨p, 1, none⟩ = some (.int .i64 m2) := hp4.cell 1
        have c2 : w4.cell? ⟨p, 2, none⟩ = some (.int .i64 m3) := hp4.cell 2
        have c3 : w4.cell? ⟨p, 3, none⟩ = some (.int .i64 m4) := hp4.cell 3
        have z0 : w4.cell? ⟨w.heap.size, 0, none⟩ = some (.int .i64 0) := hr4.cell 0
        have z1 : w4.cell? ⟨w.heap.size, 1, none⟩ = some (.int .i64 0) := hr4.cell 1
        have z2 : w4.cell? ⟨w.heap.size, 2, none⟩ = some (.int .i64 0) := hr4.cell 2
        have z3 : w4.cell? ⟨w.heap.size, 3, none⟩ = some (.int .i64 0) := hr4.cell 3
        have f0 : w4.frozen? ⟨w.heap.size, 0, none⟩ = false := hr4.frozen 0
        have f1 : w4.frozen? ⟨w.heap.size, 1, none⟩ = false := hr4.frozen 1
        have f2 : w4.frozen? ⟨w.heap.size, 2, none⟩ = false := hr4.frozen 2
        have f3 : w4.frozen? ⟨w.heap.size, 3, none⟩ = false := hr4.frozen 3
        have hlt4 : w.heap.size < w4.heap.size := hr4.lt
        have HB4 := Lib.hid hb4'
        clear hp4 hr4 hb4' hb4
        go_wp2
        exact bodyPost_ret (v := .tuple #[lkV (m1, m2, m3, m4), .int .i64 0]) (by simp [results, Tryz.results39, go_sem, z0, z1, z2, z3]) rfl ⟨by rw [HR.out], set4_below HB4.out _ _ _ _⟩
      · have HE := str_eq_false he
        have HE2 : (!(str (linkText (m1, m2, m3, m4))).toList == (str s).toList) = true := by rw [HE]; rfl
        clear HE
        have HR := Lib.hid (HR.out.trans (by first | rw [if_pos he] | rw [if_neg he]))
        clear he
        refine (clinkText_any (m1, m2, m3, m4) _ HN.out (E0.out.here H3.out.2.2)).mono ?_
        rintro e w4 ⟨rfl, hb4⟩
        have hp4 := H3.out.1.here hb4
        have hr4 := H3.out.2.1.here hb4
        have hb4' := H3.out.2.2.trans (hb4.mono H3.out.2.2.size)
        have c0 : w4.cell? ⟨p, 0, none⟩ = some (.int .i64 m1) := hp4.cell 0
        have c1 : w4.cell? ⟨p, 1, none⟩ = some (.int .i64 m2) := hp4.cell 1
        have c2 : w4.cell? ⟨p, 2, none⟩ = some (.int .i64 m3) := hp4.cell 2
        have c3 : w4.cell? ⟨p, 3, none⟩ = some (.int .i64 m4) := hp4.cell 3
        have z0 : w4.cell? ⟨w.heap.size, 0, none⟩ = some (.int .i64 0) := hr4.cell 0
        have z1 : w4.cell? ⟨w.heap.size, 1, none⟩ = some (.int .i64 0) := hr4.cell 1
        have z2 : w4.cell? ⟨w.heap.size, 2, none⟩ = some (.int .i64 0) := hr4.cell 2
        have z3 : w4.cell? ⟨w.heap.size, 3, none⟩ = some (.int .i64 0) := hr4.cell 3
        have f0 : w4.frozen? ⟨w.heap.size, 0, none⟩ = false := hr4.frozen 0
        have f1 : w4.frozen? ⟨w.heap.size, 1, none⟩ = false := hr4.frozen 1
        have f2 : w4.frozen? ⟨w.heap.size, 2, none⟩ = false := hr4.frozen 2
        have f3 : w4.frozen? ⟨w.heap.size, 3, none⟩ = false := hr4.frozen 3
        have hlt4 : w.heap.size < w4.heap.size := hr4.lt
        have HB4 := Lib.hid hb4'
        clear hp4 hr4 hb4' hb4
        go_wp2
        exact bodyPost_ret (v := .tuple #[lkV (0, 0, 0, 0), .int .i64 4]) (by simp [results, Tryz.results39, go_sem, z0, z1, z2, z3]) rfl ⟨by rw [HR.out], set4_below HB4.out _ _ _ _⟩
  · have HR : Hid (clkRes s = .tuple #[lkV (0, 0, 0, 0), .int .i64 4]) := Lib.hid (by unfold clkRes linkC; rw [linkW_other h5])
    have HS := Lib.hid (fun W hb => csplit_len s W hs (E0.out.here hb))
    have hn := (splitOn_len 32 s).1
    have d5 : (((splitOn 32 s).length : Int) != 5) = true := by simp; omega
    generalize (splitOn 32 s).length = n at *
    clear h5
    go_enter Tryz.func39, Tryz.ntmps39
    go_wp2_with fail
    refine (HS.out _ ((Below.refl _ _).alloc (Nat.le_refl _) _)).mono ?_
    rintro e w1 ⟨b, rfl, hb1⟩
    have hz1 := (Whole.new w 63 #[.int .i64 0, .int .i64 0, .int .i64 0, .int .i64 0]).here hb1
    have HB4 : Hid (Below w.heap.size w w1) := Lib.hid (((Below.refl _ _).alloc (Nat.le_refl _) _).trans (hb1.mono (by simp)))
    have z0 : w1.cell? ⟨w.heap.size, 0, none⟩ = some (.int .i64 0) := hz1.cell 0
    have z1 : w1.cell? ⟨w.heap.size, 1, none⟩ = some (.int .i64 0) := hz1.cell 1
    have z2 : w1.cell? ⟨w.heap.size, 2, none⟩ = some (.int .i64 0) := hz1.cell 2
    have z3 : w1.cell? ⟨w.heap.size, 3, none⟩ = some (.int .i64 0) := hz1.cell 3
    have f0 : w1.frozen? ⟨w.heap.size, 0, none⟩ = false := hz1.frozen 0
    have f1 : w1.frozen? ⟨w.heap.size, 1, none⟩ = false := hz1.frozen 1
    have f2 : w1.frozen? ⟨w.heap.size, 2, none⟩ = false := hz1.frozen 2
    have f3 : w1.frozen? ⟨w.heap.size, 3, none⟩ = false := hz1.frozen 3
    have hlt4 : w.heap.size < w1.heap.size := hz1.lt
    clear hz1 hb1
    go_wp2
    exact bodyPost_ret (v := .tuple #[lkV (0, 0, 0, 0), .int .i64 4]) (by simp [results, Tryz.results39, go_sem, z0, z1, z2, z3]) rfl ⟨by rw [HR.out], set4_below HB4.out _ _ _ _⟩
-- the reference's
end Go.Proofs.YtfbangojgjcbcaaGreatDoor
namespace Go.Proofs.YtfbangojgjcbcaaGreatDoor
open Go.RowKit Pl
/-- An act as a value: its bytes are whatever slice. -/
abbrev actV (a : ActP) (bv : Value) : Value := .agg #[.int .i64 a.kind, .int .i64 a.node, .int .i64 a.port, .int .i64 a.cost, .int .i64 a.n, .bool a.up, .int .u8 (a.by_.toNat : Int), .bool a.unread, bv]
def bareA (a : ActP) : ActP := match a.kind with
  | 1 => { kind := 1, node := a.node }
  | 2 => { kind := 2, n := a.n }
  | 3 => { kind := 3, n := a.n }
  | 4 => { kind := 4, n := a.n }
  | 5 => { kind := 5, node := a.node, port := a.port, cost := a.cost }
  | 6 => { kind := 6, n := a.n, up := a.up }
  | 7 => { kind := 7, node := a.node }
  | 8 => { kind := 8, node := a.node, n := a.n, by_ := a.by_, unread := a.unread }
  | 9 => { kind := 9, node := a.node, bytes := a.bytes }
  | k => { kind := k }
def bareV (a : ActP) (bv : Value) : Value := if a.kind = 9 then bv else .slice none 0 0
def K9 (a : ActP) : Prop := 1 ≤ a.kind ∧ a.kind ≤ 9
theorem K9.cases {a : ActP} (h : K9 a) : a.kind = 1 ∨ a.kind = 2 ∨ a.kind = 3 ∨ a.kind = 4 ∨ a.kind = 5 ∨ a.kind = 6 ∨ a.kind = 7 ∨ a.kind = 8 ∨ a.kind = 9 := by
  obtain ⟨h0, h1⟩ := h
  omega
theorem Bs.bare {w : World} {a : ActP} {bv : Value} (h : Bs w bv a.bytes) (hk : K9 a) : Bs w (bareV a bv) (bareA a).bytes := by
  rcases hk.cases with e | e | e | e | e | e | e | e | e <;> simp only [bareV, bareA, e] <;> first | exact Bs.nil w | exact h
set_option maxRecDepth 100000 in
set_option maxHeartbeats 4000000 in
theorem bare_any (a : ActP) (bv : Value) (w : World) (hk : K9 a) (h : Bs w bv a.bytes) :
    Calls Tryz.prog 77 #[actV a bv] w fun e w' => e = .returned (actV (bareA a) (bareV a bv)) ∧ Below w.heap.size w w' := by
  obtain ⟨k, node, port, cost, n, up, by_, unread, bytes⟩ := a
  obtain ⟨A, c, rfl, -⟩ := h
  have hs2 : w.heap.size < w.heap.size + 1 + 1 := by omega
  have hs3 : w.heap.size + 1 < w.heap.size + 1 + 1 + 1 := by omega
  rcases hk.cases with e | e | e | e | e | e | e | e | e <;> simp only at e <;> subst e
  · go_enter Tryz.func77, Tryz.ntmps77
    go_wp2
    exact bodyPost_ret (v := .agg #[.int .i64 1, .int .i64 node, .int .i64 0, .int .i64 0, .int .i64 0, .bool false, .int .u8 0, .bool false, .slice none 0 0]) (by simp [results, Tryz.results77, go_sem]) rfl ⟨rfl, (by repeat (first | exact Below.refl _ _ | apply Below.drew | apply Go.below_drewN | apply bel_alloc | apply Ext.lift | apply bel_set0 | apply bel_set))⟩
  · go_enter Tryz.func77, Tryz.ntmps77
    go_wp2
    exact bodyPost_ret (v := .agg #[.int .i64 2, .int .i64 0, .int .i64 0, .int .i64 0, .int .i64 n, .bool false, .int .u8 0, .bool false, .slice none 0 0]) (by simp [results, Tryz.results77, go_sem]) rfl ⟨rfl, (by repeat (first | exact Below.refl _ _ | apply Below.drew | apply Go.below_drewN | apply bel_alloc | apply Ext.lift | apply bel_set0 | apply bel_set))⟩
  · go_enter Tryz.func77, Tryz.ntmps77
    go_wp2
    exact bodyPost_ret (v := .agg #[.int .i64 3, .int .i64 0, .int .i64 0, .int .i64 0, .int .i64 n, .bool false, .int .u8 0, .bool false, .slice none 0 0]) (by simp [results, Tryz.results77, go_sem]) rfl ⟨rfl, (by repeat (first | exact Below.refl _ _ | apply Below.drew | apply Go.below_drewN | apply bel_alloc | apply Ext.lift | apply bel_set0 | apply bel_set))⟩
  · go_enter Tryz.func77, Tryz.ntmps77
    go_wp2
    exact bodyPost_ret (v := .agg #[.int .i64 4, .int .i64 0, .int .i64 0, .int .i64 0, .int .i64 n, .bool false, .int .u8 0, .bool false, .slice none 0 0]) (by simp [results, Tryz.results77, go_sem]) rfl ⟨rfl, (by repeat (first | exact Below.refl _ _ | apply Below.drew | apply Go.below_drewN | apply bel_alloc | apply Ext.lift | apply bel_set0 | apply bel_set))⟩
  · go_enter Tryz.func77, Tryz.ntmps77
    go_wp2
    go_region_held3 (fun w' => w'.cell? ⟨w.heap.size, 1, none⟩ = some (.int .i64 node) ∧ w'.cell? ⟨w.heap.size, 2, none⟩ = some (.int .i64 port) ∧ w'.cell? ⟨w.heap.size, 3, none⟩ = some (.int .i64 cost)) (go_keep) (fail)
    all_goals
      go_wp2
      exact bodyPost_ret (v := .agg #[.int .i64 5, .int .i64 node, .int .i64 port, .int .i64 cost, .int .i64 0, .bool false, .int .u8 0, .bool false, .slice none 0 0]) (by simp [results, Tryz.results77, go_sem]) rfl ⟨rfl, (by repeat (first | assumption | exact Below.refl _ _ | apply Below.drew | apply Go.below_drewN | apply bel_alloc | apply Ext.lift | refine bel_setge ?_ (by omega) _ _))⟩
  · go_enter Tryz.func77, Tryz.ntmps77
    go_wp2
    go_region_held3 (fun w' => w'.cell? ⟨w.heap.size, 4, none⟩ = some (.int .i64 n) ∧ w'.cell? ⟨w.heap.size, 5, none⟩ = some (.bool up)) (go_keep) (fail)
    all_goals
      go_wp2
      exact bodyPost_ret (v := .agg #[.int .i64 6, .int .i64 0, .int .i64 0, .int .i64 0, .int .i64 n, .bool up, .int .u8 0, .bool false, .slice none 0 0]) (by simp [results, Tryz.results77, go_sem]) rfl ⟨rfl, (by repeat (first | assumption | exact Below.refl _ _ | apply Below.drew | apply Go.below_drewN | apply bel_alloc | apply Ext.lift | refine bel_setge ?_ (by omega) _ _))⟩
  · go_enter Tryz.func77, Tryz.ntmps77
    go_wp2
    exact bodyPost_ret (v := .agg #[.int .i64 7, .int .i64 node, .int .i64 0, .int .i64 0, .int .i64 0, .bool false, .int .u8 0, .bool false, .slice none 0 0]) (by simp [results, Tryz.results77, go_sem]) rfl ⟨rfl, (by repeat (first | exact Below.refl _ _ | apply Below.drew | apply Go.below_drewN | apply bel_alloc | apply Ext.lift | apply bel_set0 | apply bel_set))⟩
  · go_enter Tryz.func77, Tryz.ntmps77
    go_wp2
    go_region_held3 (fun w' => w'.cell? ⟨w.heap.size, 1, none⟩ = some (.int .i64 node) ∧ w'.cell? ⟨w.heap.size, 4, none⟩ = some (.int .i64 n) ∧ w'.cell? ⟨w.heap.size, 6, none⟩ = some (.int .u8 (by_.toNat : Int)) ∧ w'.cell? ⟨w.heap.size, 7, none⟩ = some (.bool unread)) (go_keep) (fail)
    all_goals
      go_wp2
      exact bodyPost_ret (v := .agg #[.int .i64 8, .int .i64 node, .int .i64 0, .int .i64 0, .int .i64 n, .bool false, .int .u8 (by_.toNat : Int), .bool unread, .slice none 0 0]) (by simp [results, Tryz.results77, go_sem]) rfl ⟨rfl, (by repeat (first | assumption | exact Below.refl _ _ | apply Below.drew | apply Go.below_drewN | apply bel_alloc | apply Ext.lift | refine bel_setge ?_ (by omega) _ _))⟩
  · go_enter Tryz.func77, Tryz.ntmps77
    go_wp2
    go_region_held3 (fun w' => w'.cell? ⟨w.heap.size, 1, none⟩ = some (.int .i64 node) ∧ w'.cell? ⟨w.heap.size, 8, none⟩ = some (.slice A bytes.length c)) (go_keep) (fail)
    all_goals
      go_wp2
      exact bodyPost_ret (v := .agg #[.int .i64 9, .int .i64 node, .int .i64 0, .int .i64 0, .int .i64 0, .bool false, .int .u8 0, .bool false, .slice A bytes.length c]) (by simp [results, Tryz.results77, go_sem]) rfl ⟨rfl, (by repeat (first | assumption | exact Below.refl _ _ | apply Below.drew | apply Go.below_drewN | apply bel_alloc | apply Ext.lift | refine bel_setge ?_ (by omega) _ _))⟩
end Go.Proofs.YtfbangojgjcbcaaGreatDoor
namespace Go.Proofs.YtfbangojgjcbcaaGreatDoor
open Go.ChangeShapes Go.WideShapes Go.ChangeAt Go.RowKit Pl
theorem in64_of_wf {a : Int} (h : (Lit.int .i64 a).wf = true) : In64 a := by
  simp [Lit.wf, IntKind.min, IntKind.max, IntKind.signed, IntKind.bits] at h
  exact ⟨by omega, by omega⟩
theorem byte_of_wf {a : Int} (h : (Lit.int .u8 a).wf = true) : a = ((UInt8.ofNat a.toNat).toNat : Int) := by
  simp [Lit.wf, IntKind.min, IntKind.max, IntKind.signed, IntKind.bits] at h
  rw [UInt8.toNat_ofNat']
  omega
section
variable {H : Type} {enc : TypeId × Value → H} {W : World} {base b0 : Nat} {sp : Nat → Bool} {held : Bool} {r : Reach}
theorem sCellsK : Tryz.prog.cellsOf 49 = 1 := by kernel_rfl
theorem sCellsI : Tryz.prog.cellsOf 3 = 1 := by kernel_rfl
theorem sCellsB : Tryz.prog.cellsOf 4 = 1 := by kernel_rfl
theorem sCellsY : Tryz.prog.cellsOf 5 = 1 := by kernel_rfl
theorem sCellsA : Tryz.prog.cellsOf 51 = 9 := by kernel_rfl
theorem sCellsL : Tryz.prog.cellsOf 63 = 4 := by kernel_rfl
set_option maxRecDepth 100000 in
theorem openS_bytes {fuel : Nat} {v : Value} {x : DataW H × List MemPlace} (hf : DataW.trod enc Tryz.prog W base sp held fuel 37 [v] = some x) :
    ∃ l : List UInt8, Bs W v l := by
  rcases open_ints Tryz.underlying37 Tryz.underlying5 (by kernel_rfl) hf with ⟨hcs, _⟩ | ⟨x, len, cap, zs, hcs, _, hl, hm, hz, _, hcell, hwz⟩
  · simp at hcs
    subst hcs
    exact ⟨[], Bs.nil W⟩
  · simp at hcs
    subst hcs
    have hzl : len ≤ zs.length := by rw [hz]; split <;> omega
    obtain ⟨L, hL, hLe⟩ : ∃ L : List UInt8, L.length = len ∧ ∀ j, j < len → (zs.getD j 0) = ((L.getD j 0).toNat : Int) := by
      refine ⟨(zs.take len).map fun z => UInt8.ofNat z.toNat, by simp; omega, fun j hj => ?_⟩
      have hjz : j < zs.length := by omega
      have hw := hwz zs[j] (List.getElem_mem hjz)
      simp [Lit.wf, IntKind.min, IntKind.max, IntKind.signed, IntKind.bits] at hw
      simp only [List.getD_eq_getElem?_getD, List.getElem?_map, List.getElem?_take, if_pos hj, List.getElem?_eq_getElem hjz, Option.map_some, Option.getD_some]
      rw [UInt8.toNat_ofNat']
      omega
    refine ⟨L, some x, cap, by rw [hL], by rw [hL]; exact hl, (fun h => by cases h), fun hp => ?_⟩
    obtain ⟨b, off, spot⟩ := x
    have hc0 := hcell 0 (by omega)
    have hcB := hc0
    rw [show ((⟨b, off, spot⟩ : Addr).add 0) = ⟨b, off, spot⟩ from by simp [Addr.add]] at hcB
    have hspot : spot = none := by simpa [Addr.add] using World.cell?_spot hc0
    subst hspot
    refine ⟨b, off, rfl, ?_, fun j u hu => ?_⟩
    · exact block_lt_of_cell hcB
    · have hj : j < len := by have := (List.getElem?_eq_some_iff.1 hu).1; rw [cellsB_length] at this; omega
      have hcj := hcell j (by omega)
      rw [hLe j hj] at hcj
      have hu' : u = .int .u8 ((L.getD j 0).toNat : Int) := by
        have hjl : j < L.length := by omega
        simp [cellsB, List.getElem?_eq_getElem hjl] at hu
        rw [← hu]; simp [List.getD_eq_getElem?_getD, List.getElem?_eq_getElem hjl]
      rw [hu', ← hcj, addC]
end
end Go.Proofs.YtfbangojgjcbcaaGreatDoor
namespace Go.Proofs.YtfbangojgjcbcaaGreatDoor.Pl
/-- The configurations behind those of pre. -/
def okC (pre : List Cfg) : List Cfg → Bool
  | [] => true
  | c :: r => (mayC c && !(pre.any fun x => x.node == c.node)) && okC (pre ++ [c]) r
def confsOk (cs : List Cfg) : Bool := decide (1 ≤ cs.length) && decide (cs.length ≤ 16) && okC [] cs
def findN (cs : List Cfg) (n : Int) : Option Cfg := cs.find? fun c => c.node == n
def hasPort (cs : List Cfg) (n p : Int) : Bool := match findN cs n with
  | some c => decide (0 ≤ p) && decide (p < c.ports.length)
  | none => false
abbrev endA (l : Lk) : Int × Int := (l.1, l.2.1)
abbrev endB (l : Lk) : Int × Int := (l.2.2.1, l.2.2.2)
def linkOk (cs : List Cfg) (used : List (Int × Int)) (l : Lk) : Bool :=
  !(l.1 == l.2.2.1) && hasPort cs l.1 l.2.1 && hasPort cs l.2.2.1 l.2.2.2 && !(used.contains (endA l)) && !(used.contains (endB l))
/-- The links, of which the ends in used are taken. -/
def okL (cs : List Cfg) (used : List (Int × Int)) : List Lk → Bool
  | [] => true
  | l :: r => linkOk cs used l && okL cs (endB l :: endA l :: used) r
def maySet (cs : List Cfg) (ls : List Lk) : Bool := confsOk cs && okL cs [] ls
theorem drop_at {α : Type} {cs : List α} {j : Nat} {c : α} (h : cs[j]? = some c) : cs.drop j = c :: cs.drop (j + 1) := by
  obtain ⟨hj, rfl⟩ := List.getElem?_eq_some_iff.1 h
  exact List.drop_eq_getElem_cons hj
theorem take_at {α : Type} {cs : List α} {j : Nat} {c : α} (h : cs[j]? = some c) : cs.take (j + 1) = cs.take j ++ [c] := by
  rw [List.take_add_one, h]; rfl
theorem okC_step {cs : List Cfg} {j : Nat} {c : Cfg} (h : cs[j]? = some c) : okC (cs.take j) (cs.drop j) = ((mayC c && !((cs.take j).any fun x => x.node == c.node)) && okC (cs.take (j + 1)) (cs.drop (j + 1))) := by
  rw [drop_at h, take_at h]
  rfl
/-- A setup's ends, of the links ahead. -/
def usedL (ls : List Lk) : List (Int × Int) := ls.foldl (fun u l => endB l :: endA l :: u) []
theorem usedL_step {ls : List Lk} {j : Nat} {l : Lk} (h : ls[j]? = some l) : usedL (ls.take (j + 1)) = endB l :: endA l :: usedL (ls.take j) := by
  rw [take_at h]
  unfold usedL
  rw [List.foldl_append]
  rfl
theorem okL_step {cs : List Cfg} {ls : List Lk} {j : Nat} {l : Lk} (h : ls[j]? = some l) : okL cs (usedL (ls.take j)) (ls.drop j) = (linkOk cs (usedL (ls.take j)) l && okL cs (usedL (ls.take (j + 1))) (ls.drop (j + 1))) := by
  rw [drop_at h, usedL_step h]
  rfl
theorem findN_snoc (cs : List Cfg) (c : Cfg) (n : Int) : findN (cs ++ [c]) n = (findN cs n).or (if c.node = n then some c else none) := by
  unfold findN
  rw [List.find?_append]
  congr 1
  by_cases h : c.node = n
  · simp [List.find?, h]
  · have h2 : (c.node == n) = false := by simpa using h
    simp [List.find?, h2, h]
theorem findN_none {cs : List Cfg} {n : Int} : findN cs n = none ↔ (cs.any fun x => x.node == n) = false := by
  unfold findN
  rw [List.find?_eq_none, List.any_eq_false]
theorem okC_may : ∀ (cs pre : List Cfg), okC pre cs = true → ∀ c ∈ cs, mayC c = true
  | [], _, _, c, h => by cases h
  | x :: r, pre, h, c, hc => by
    unfold okC at h
    simp only [Bool.and_eq_true] at h
    rcases List.mem_cons.1 hc with rfl | h'
    · exact h.1.1
    · exact okC_may r _ h.2 c h'
theorem maySet_confs {cs : List Cfg} {ls : List Lk} (h : maySet cs ls = true) : ∀ c ∈ cs, mayC c = true := by
  unfold maySet confsOk at h
  simp only [Bool.and_eq_true] at h
  exact okC_may cs [] h.1.2
theorem maySet_len {cs : List Cfg} {ls : List Lk} (h : maySet cs ls = true) : cs.length ≤ 16 := by
  unfold maySet confsOk at h
  simp only [Bool.and_eq_true, decide_eq_true_eq] at h
  exact h.1.1.2
end Go.Proofs.YtfbangojgjcbcaaGreatDoor.Pl
namespace Go.Proofs.YtfbangojgjcbcaaGreatDoor
open Go.RowKit Pl
/-- A slice whose elements, of z cells each, are as Q says. -/
def Seqs {α : Type} (z : Nat) (Q : World → Nat → Nat → α → Prop) (w : World) (v : Value) (xs : List α) : Prop :=
  ∃ (A : Option Addr) (c : Nat), v = .slice A xs.length c ∧ xs.length ≤ c ∧ (A = none → c = 0) ∧
    (0 < xs.length → ∃ b off, A = some ⟨b, off, none⟩ ∧ b < w.heap.size ∧ ∀ j x, xs[j]? = some x → Q w b (off + j * z) x)
def confQ (w : World) (b o : Nat) (c : Cfg) : Prop := ∃ own ports, Rs .u32 w own c.own ∧ Rs .i64 w ports c.ports ∧ w.cell? ⟨b, o, none⟩ = some (.int .i64 c.node) ∧ w.cell? ⟨b, o + 1, none⟩ = some (.int .u32 c.addr) ∧ w.cell? ⟨b, o + 2, none⟩ = some own ∧ w.cell? ⟨b, o + 3, none⟩ = some ports ∧ w.cell? ⟨b, o + 4, none⟩ = some (.int .i64 c.hello) ∧ w.cell? ⟨b, o + 5, none⟩ = some (.int .i64 c.dead) ∧ w.cell? ⟨b, o + 6, none⟩ = some (.int .i64 c.again) ∧ w.cell? ⟨b, o + 7, none⟩ = some (.int .i64 c.room) ∧ w.cell? ⟨b, o + 8, none⟩ = some (.int .i64 c.queue) ∧ w.cell? ⟨b, o + 9, none⟩ = some (.int .i64 c.tokens) ∧ w.cell? ⟨b, o + 10, none⟩ = some (.int .i64 c.refill)
def linkQ (w : World) (b o : Nat) (l : Lk) : Prop := w.cell? ⟨b, o, none⟩ = some (.int .i64 l.1) ∧ w.cell? ⟨b, o + 1, none⟩ = some (.int .i64 l.2.1) ∧ w.cell? ⟨b, o + 2, none⟩ = some (.int .i64 l.2.2.1) ∧ w.cell? ⟨b, o + 3, none⟩ = some (.int .i64 l.2.2.2)
def actQ (w : World) (b o : Nat) (a : ActP) : Prop := ∃ bv, Bs w bv a.bytes ∧ w.cell? ⟨b, o, none⟩ = some (.int .i64 a.kind) ∧ w.cell? ⟨b, o + 1, none⟩ = some (.int .i64 a.node) ∧ w.cell? ⟨b, o + 2, none⟩ = some (.int .i64 a.port) ∧ w.cell? ⟨b, o + 3, none⟩ = some (.int .i64 a.cost) ∧ w.cell? ⟨b, o + 4, none⟩ = some (.int .i64 a.n) ∧ w.cell? ⟨b, o + 5, none⟩ = some (.bool a.up) ∧ w.cell? ⟨b, o + 6, none⟩ = some (.int .u8 (a.by_.toNat : Int)) ∧ w.cell? ⟨b, o + 7, none⟩ = some (.bool a.unread) ∧ w.cell? ⟨b, o + 8, none⟩ = some bv
theorem Seqs.below {α : Type} {z : Nat} {Q : World → Nat → Nat → α → Prop} {w w' : World} {v : Value} {xs : List α} (h : Seqs z Q w v xs) (hb : Below w.heap.size w w')
    (hQ : ∀ b o x, b < w.heap.size → Q w b o x → Q w' b o x) : Seqs z Q w' v xs := by
  obtain ⟨A, c, rfl, hc, hn, hA⟩ := h
  refine ⟨A, c, rfl, hc, hn, fun hp => ?_⟩
  obtain ⟨b, off, rfl, hlt, hcell⟩ := hA hp
  exact ⟨b, off, rfl, Nat.lt_of_lt_of_le hlt hb.size, fun j x hx => hQ _ _ _ hlt (hcell j x hx)⟩
theorem Seqs.nil {α : Type} (z : Nat) (Q : World → Nat → Nat → α → Prop) (w : World) : Seqs z Q w (.slice none 0 0) [] := ⟨none, 0, rfl, Nat.le_refl _, fun _ => rfl, fun h => absurd h (by simp)⟩
theorem Seqs.len {α : Type} {z : Nat} {Q : World → Nat → Nat → α → Prop} {w : World} {A : Option Addr} {n c : Nat} {xs : List α} (h : Seqs z Q w (.slice A n c) xs) : n = xs.length ∧ xs.length ≤ c := by
  obtain ⟨A', c', hv, hc, _, _⟩ := h
  injection hv with h1 h2 h3
  exact ⟨h2, by omega⟩
theorem Seqs.at {α : Type} {z : Nat} {Q : World → Nat → Nat → α → Prop} {w : World} {A : Option Addr} {n c : Nat} {xs : List α} (h : Seqs z Q w (.slice A n c) xs) {j : Nat} {x : α} (hx : xs[j]? = some x) :
    ∃ b off, A = some ⟨b, off, none⟩ ∧ b < w.heap.size ∧ Q w b (off + j * z) x := by
  obtain ⟨A', c', hv, hc, _, hA⟩ := h
  injection hv with h1 h2 h3
  subst h1
  obtain ⟨b, off, rfl, hlt, hcell⟩ := hA (by have := (List.getElem?_eq_some_iff.1 hx).1; omega)
  exact ⟨b, off, rfl, hlt, hcell j x hx⟩
theorem confQ.below {w w' : World} {b o : Nat} {c : Cfg} (hlt : b < w.heap.size) (h : confQ w b o c) (hb : Below w.heap.size w w') : confQ w' b o c := by
  obtain ⟨own, ports, h1, h2, c0, c1, c2, c3, c4, c5, c6, c7, c8, c9, c10⟩ := h
  exact ⟨own, ports, h1.below hb, h2.below hb, (hb.cell hlt).trans c0, (hb.cell hlt).trans c1, (hb.cell hlt).trans c2, (hb.cell hlt).trans c3, (hb.cell hlt).trans c4, (hb.cell hlt).trans c5, (hb.cell hlt).trans c6, (hb.cell hlt).trans c7, (hb.cell hlt).trans c8, (hb.cell hlt).trans c9, (hb.cell hlt).trans c10⟩
theorem linkQ.below {w w' : World} {b o : Nat} {l : Lk} (hlt : b < w.heap.size) (h : linkQ w b o l) (hb : Below w.heap.size w w') : linkQ w' b o l := by
  obtain ⟨c0, c1, c2, c3⟩ := h
  exact ⟨(hb.cell hlt).trans c0, (hb.cell hlt).trans c1, (hb.cell hlt).trans c2, (hb.cell hlt).trans c3⟩
theorem actQ.below {w w' : World} {b o : Nat} {a : ActP} (hlt : b < w.heap.size) (h : actQ w b o a) (hb : Below w.heap.size w w') : actQ w' b o a := by
  obtain ⟨bv, h1, c0, c1, c2, c3, c4, c5, c6, c7, c8⟩ := h
  exact ⟨bv, h1.below hb, (hb.cell hlt).trans c0, (hb.cell hlt).trans c1, (hb.cell hlt).trans c2, (hb.cell hlt).trans c3, (hb.cell hlt).trans c4, (hb.cell hlt).trans c5, (hb.cell hlt).trans c6, (hb.cell hlt).trans c7, (hb.cell hlt).trans c8⟩
abbrev Confs := Seqs 11 confQ
abbrev Links := Seqs 4 linkQ
abbrev Acts := Seqs 9 actQ
theorem Confs.here {w w' : World} {v : Value} {cs : List Cfg} (h : Confs w v cs) (hb : Below w.heap.size w w') : Confs w' v cs := h.below hb fun _ _ _ hlt hq => hq.below hlt hb
theorem Links.here {w w' : World} {v : Value} {ls : List Lk} (h : Links w v ls) (hb : Below w.heap.size w w') : Links w' v ls := h.below hb fun _ _ _ hlt hq => hq.below hlt hb
theorem Acts.here {w w' : World} {v : Value} {l : List ActP} (h : Acts w v l) (hb : Below w.heap.size w w') : Acts w' v l := h.below hb fun _ _ _ hlt hq => hq.below hlt hb
/-- A configuration's row is a configuration. -/
theorem confQ.cfg {w : World} {b o : Nat} {c : Cfg} (h : confQ w b o c) : ∃ A1 k1 A2 k2, CfgIs w (cfgV c (.slice A1 c.own.length k1) (.slice A2 c.ports.length k2)) c ∧
    w.cell? ⟨b, o, none⟩ = some (.int .i64 c.node) ∧ w.cell? ⟨b, o + 1, none⟩ = some (.int .u32 c.addr) ∧ w.cell? ⟨b, o + 2, none⟩ = some (.slice A1 c.own.length k1) ∧ w.cell? ⟨b, o + 3, none⟩ = some (.slice A2 c.ports.length k2) ∧ w.cell? ⟨b, o + 4, none⟩ = some (.int .i64 c.hello) ∧ w.cell? ⟨b, o + 5, none⟩ = some (.int .i64 c.dead) ∧ w.cell? ⟨b, o + 6, none⟩ = some (.int .i64 c.again) ∧ w.cell? ⟨b, o + 7, none⟩ = some (.int .i64 c.room) ∧ w.cell? ⟨b, o + 8, none⟩ = some (.int .i64 c.queue) ∧ w.cell? ⟨b, o + 9, none⟩ = some (.int .i64 c.tokens) ∧ w.cell? ⟨b, o + 10, none⟩ = some (.int .i64 c.refill) := by
  obtain ⟨own, ports, h1, h2, hc⟩ := h
  obtain ⟨A1, k1, rfl, -⟩ := id h1
  obtain ⟨A2, k2, rfl, -⟩ := id h2
  exact ⟨A1, k1, A2, k2, ⟨⟨_, _, rfl, h1, h2⟩⟩, hc⟩
end Go.Proofs.YtfbangojgjcbcaaGreatDoor
namespace Go.Proofs.YtfbangojgjcbcaaGreatDoor
open Go.RowKit Pl
set_option maxRecDepth 100000 in
theorem cwithin_any (n lo hi : Int) (w : World) : Calls Tryz.prog 69 #[.int .i64 n, .int .i64 lo, .int .i64 hi] w fun e w' => e = .returned (.bool (inI n lo hi)) ∧ w = w' := by
  by_cases h1 : lo ≤ n
  · by_cases h2 : n ≤ hi
    · have H : Hid (inI n lo hi = true) := Lib.hid (inI_iff.2 ⟨h1, h2⟩)
      go_enter Tryz.func69, Tryz.ntmps69
      go_wp2
      go_ret
      exact ⟨by rw [H.out]; rfl, rfl⟩
    · have H : Hid (inI n lo hi = false) := Lib.hid (Bool.eq_false_iff.2 fun h => h2 (inI_iff.1 h).2)
      have d : decide (n ≤ hi) = false := decide_eq_false h2
      clear h2
      go_enter Tryz.func69, Tryz.ntmps69
      go_wp2
      go_ret
      exact ⟨by rw [H.out]; rfl, rfl⟩
  · have H : Hid (inI n lo hi = false) := Lib.hid (Bool.eq_false_iff.2 fun h => h1 (inI_iff.1 h).1)
    have d : decide (lo ≤ n) = false := decide_eq_false h1
    clear h1
    go_enter Tryz.func69, Tryz.ntmps69
    go_wp2
    go_ret
    exact ⟨by rw [H.out]; rfl, rfl⟩
set_option maxRecDepth 100000 in
theorem mayPort_any (a b : Int) (w : World) : Calls Tryz.prog 67 #[.agg #[.int .i64 a, .int .i64 b]] w fun e w' => e = .returned (.bool (portOk (a, b))) ∧ Below w.heap.size w w' := by
  have H : Hid (portOk (a, b) = (inI a 1 50 && inI b 68 1500)) := Lib.hid rfl
  cases h1 : inI a 1 50 with
  | true =>
    rw [h1] at H
    go_enter Tryz.func67, Tryz.ntmps67
    go_wp2_with (go_at_call 69; refine (cwithin_any _ _ _ _).mono ?_; rintro e w' ⟨rfl, rfl⟩)
    go_ret
    exact ⟨by rw [H.out]; rfl, (Below.refl _ _).alloc (Nat.le_refl _) _⟩
  | false =>
    rw [h1] at H
    go_enter Tryz.func67, Tryz.ntmps67
    go_wp2_with (go_at_call 69; refine (cwithin_any _ _ _ _).mono ?_; rintro e w' ⟨rfl, rfl⟩)
    go_ret
    exact ⟨by rw [H.out]; rfl, (Below.refl _ _).alloc (Nat.le_refl _) _⟩
set_option maxRecDepth 100000 in
theorem may1_any (a b : Int) (w : World) :
    Calls Tryz.prog 66 #[.agg #[.int .i64 a, .int .i64 b]] w fun e w' => e = .returned (.bool (!portOk (a, b))) ∧ Below w.heap.size w w' := by
  go_enter Tryz.func66, Tryz.ntmps66
  go_wp2_with (go_at_call 67; refine (ext_of (mayPort_any _ _ _)).mono ?_; rintro e w' ⟨rfl, y, rfl⟩)
  go_ret
  exact ⟨rfl, (by repeat (first | exact Below.refl _ _ | apply Below.drew | apply Go.below_drewN | apply bel_alloc | apply Ext.lift | apply bel_set0 | apply bel_set))⟩
set_option maxRecDepth 100000 in
set_option maxHeartbeats 1000000 in
/-- slices.IndexFunc over ports: is there one that f says yes to? -/
theorem idxO_any (f : Value) (b : Pr → Bool) (v : Value) (ps : List Pr) (w : World) (h : Rs .i64 w v ps) (hl : ps.length ≤ 1000000)
    (hf : ∃ g lb, f = .func (.func g) #[] lb ∧ (∀ args W, (callFunc g args).run Tryz.prog W = .ok (.enter g args) W) ∧ ∀ u : Pr, u ∈ ps → ∀ W, Below w.heap.size w W → Calls Tryz.prog g (#[.agg #[.int .i64 u.1, .int .i64 u.2]] ++ lb) W fun e W' => e = .returned (.bool (b u)) ∧ Below W.heap.size W W') :
    Calls Tryz.prog 131 #[v, f] w fun e w' => (∃ r : Int, e = .returned (.int .i64 r) ∧ decide (0 ≤ r) = ps.any b) ∧ Below w.heap.size w w' := by
  obtain ⟨g, lb, rfl, he, hf⟩ := hf
  have HE := Lib.hid he
  have HF := Lib.hid hf
  have HU := Lib.hid h
  obtain ⟨A, c, rfl, hc, _, _⟩ := h
  clear hf he
  go_enter Tryz.func131, Tryz.ntmps131
  go_wp2
  go_loopw [8] (fun i wr => ∃ j : Nat, j ≤ ps.length ∧ i = .int .i64 j ∧ Hid ((ps.take j).any b = false) ∧ Below w.heap.size w wr) (fun i _ => ps.length - (intOf i).toNat)
  case atStart => exact ⟨0, Nat.zero_le _, rfl, Lib.hid rfl, Below.refl _ _⟩
  case round =>
    obtain ⟨j, hj, rfl, HI, hb⟩ := hrel
    by_cases hlt : j < ps.length
    · obtain ⟨⟨ua, ub⟩, hu⟩ : ∃ u, ps[j]? = some u := ⟨_, List.getElem?_eq_getElem hlt⟩
      obtain ⟨bb, off, rfl, hbs, c0, c1⟩ := (HU.out.below hb).at hu
      simp only at c0 c1
      have HT : Hid ((ps.take (j + 1)).any b = ((ps.take j).any b || b (ua, ub))) := Lib.hid (by
        rw [List.take_add_one, hu]; simp)
      have HX : Hid (b (ua, ub) = true → ps.any b = true) := Lib.hid (fun hf => List.any_eq_true.2 ⟨_, List.mem_of_getElem? hu, hf⟩)
      have HC := Lib.hid (HF.out (ua, ub) (List.mem_of_getElem? hu) wr hb)
      clear hu
      cases hm : b (ua, ub) with
      | false =>
        have HT2 : Hid ((ps.take (j + 1)).any b = false) := Lib.hid (by rw [HT.out, HI.out]; exact hm)
        go_wp2_with (rw [HE.out]; show Calls _ _ _ _ _; refine (ext_of HC.out).mono ?_; rintro e w' ⟨rfl, y, rfl⟩)
        go_roundw
        case rel => exact ⟨j + 1, by omega, by go_num, HT2, Ext.lift y hb⟩
        case measure => simp [intOf]; omega
      | true =>
        have HZ : Hid (ps.any b = true) := Lib.hid (HX.out hm)
        go_wp2_with (rw [HE.out]; show Calls _ _ _ _ _; refine (ext_of HC.out).mono ?_; rintro e w' ⟨rfl, y, rfl⟩)
        go_ret
        exact ⟨⟨_, rfl, by rw [HZ.out]; simp⟩, Ext.lift y hb⟩
    · obtain rfl : j = ps.length := by omega
      have HZ : Hid (ps.any b = false) := Lib.hid (by have := HI.out; rwa [List.take_length] at this)
      go_wp2
      go_ret
      exact ⟨⟨_, rfl, by rw [HZ.out]; rfl⟩, hb⟩
set_option maxRecDepth 100000 in
theorem containsO_any (f : Value) (b : Pr → Bool) (v : Value) (ps : List Pr) (w : World) (h : Rs .i64 w v ps) (hl : ps.length ≤ 1000000)
    (hf : ∃ g lb, f = .func (.func g) #[] lb ∧ (∀ args W, (callFunc g args).run Tryz.prog W = .ok (.enter g args) W) ∧ ∀ u : Pr, u ∈ ps → ∀ W, Below w.heap.size w W → Calls Tryz.prog g (#[.agg #[.int .i64 u.1, .int .i64 u.2]] ++ lb) W fun e W' => e = .returned (.bool (b u)) ∧ Below W.heap.size W W') :
    Calls Tryz.prog 65 #[v, f] w fun e w' => e = .returned (.bool (ps.any b)) ∧ Below w.heap.size w w' := by
  have HI := Lib.hid (idxO_any f b v ps w h hl hf)
  go_enter Tryz.func65, Tryz.ntmps65
  go_wp2_with (go_at_call 131; refine HI.out.mono ?_; rintro e w' ⟨⟨r, rfl, hr⟩, hb⟩; have HR := Lib.hid hr; clear hr)
  go_ret
  exact ⟨by rw [← HR.out]; rfl, hb⟩
set_option maxRecDepth 100000 in
set_option maxHeartbeats 1000000 in
/-- slices.IndexFunc over prefixes: is there one that f says yes to? -/
theorem idxP_any (f : Value) (b : Pr → Bool) (v : Value) (ps : List Pr) (w : World) (h : Rs .u32 w v ps) (hl : ps.length ≤ 1000000)
    (hf : ∃ g lb, f = .func (.func g) #[] lb ∧ (∀ args W, (callFunc g args).run Tryz.prog W = .ok (.enter g args) W) ∧ ∀ u : Pr, u ∈ ps → ∀ W, Below w.heap.size w W → Calls Tryz.prog g (#[.agg #[.int .u32 u.1, .int .i64 u.2]] ++ lb) W fun e W' => e = .returned (.bool (b u)) ∧ Below W.heap.size W W') :
    Calls Tryz.prog 133 #[v, f] w fun e w' => (∃ r : Int, e = .returned (.int .i64 r) ∧ decide (0 ≤ r) = ps.any b) ∧ Below w.heap.size w w' := by
  obtain ⟨g, lb, rfl, he, hf⟩ := hf
  have HE := Lib.hid he
  have HF := Lib.hid hf
  have HU := Lib.hid h
  obtain ⟨A, c, rfl, hc, _, _⟩ := h
  clear hf he
  go_enter Tryz.func133, Tryz.ntmps133
  go_wp2
  go_loopw [8] (fun i wr => ∃ j : Nat, j ≤ ps.length ∧ i = .int .i64 j ∧ Hid ((ps.take j).any b = false) ∧ Below w.heap.size w wr) (fun i _ => ps.length - (intOf i).toNat)
  case atStart => exact ⟨0, Nat.zero_le _, rfl, Lib.hid rfl, Below.refl _ _⟩
  case round =>
    obtain ⟨j, hj, rfl, HI, hb⟩ := hrel
    by_cases hlt : j < ps.length
    · obtain ⟨⟨ua, ub⟩, hu⟩ : ∃ u, ps[j]? = some u := ⟨_, List.getElem?_eq_getElem hlt⟩
      obtain ⟨bb, off, rfl, hbs, c0, c1⟩ := (HU.out.below hb).at hu
      simp only at c0 c1
      have HT : Hid ((ps.take (j + 1)).any b = ((ps.take j).any b || b (ua, ub))) := Lib.hid (by
        rw [List.take_add_one, hu]; simp)
      have HX : Hid (b (ua, ub) = true → ps.any b = true) := Lib.hid (fun hf => List.any_eq_true.2 ⟨_, List.mem_of_getElem? hu, hf⟩)
      have HC := Lib.hid (HF.out (ua, ub) (List.mem_of_getElem? hu) wr hb)
      clear hu
      cases hm : b (ua, ub) with
      | false =>
        have HT2 : Hid ((ps.take (j + 1)).any b = false) := Lib.hid (by rw [HT.out, HI.out]; exact hm)
        go_wp2_with (rw [HE.out]; show Calls _ _ _ _ _; refine (ext_of HC.out).mono ?_; rintro e w' ⟨rfl, y, rfl⟩)
        go_roundw
        case rel => exact ⟨j + 1, by omega, by go_num, HT2, Ext.lift y hb⟩
        case measure => simp [intOf]; omega
      | true =>
        have HZ : Hid (ps.any b = true) := Lib.hid (HX.out hm)
        go_wp2_with (rw [HE.out]; show Calls _ _ _ _ _; refine (ext_of HC.out).mono ?_; rintro e w' ⟨rfl, y, rfl⟩)
        go_ret
        exact ⟨⟨_, rfl, by rw [HZ.out]; simp⟩, Ext.lift y hb⟩
    · obtain rfl : j = ps.length := by omega
      have HZ : Hid (ps.any b = false) := Lib.hid (by have := HI.out; rwa [List.take_length] at this)
      go_wp2
      go_ret
      exact ⟨⟨_, rfl, by rw [HZ.out]; rfl⟩, hb⟩
set_option maxRecDepth 100000 in
theorem containsP_any (f : Value) (b : Pr → Bool) (v : Value) (ps : List Pr) (w : World) (h : Rs .u32 w v ps) (hl : ps.length ≤ 1000000)
    (hf : ∃ g lb, f = .func (.func g) #[] lb ∧ (∀ args W, (callFunc g args).run Tryz.prog W = .ok (.enter g args) W) ∧ ∀ u : Pr, u ∈ ps → ∀ W, Below w.heap.size w W → Calls Tryz.prog g (#[.agg #[.int .u32 u.1, .int .i64 u.2]] ++ lb) W fun e W' => e = .returned (.bool (b u)) ∧ Below W.heap.size W W') :
    Calls Tryz.prog 70 #[v, f] w fun e w' => e = .returned (.bool (ps.any b)) ∧ Below w.heap.size w w' := by
  have HI := Lib.hid (idxP_any f b v ps w h hl hf)
  go_enter Tryz.func70, Tryz.ntmps70
  go_wp2_with (go_at_call 133; refine HI.out.mono ?_; rintro e w' ⟨⟨r, rfl, hr⟩, hb⟩; have HR := Lib.hid hr; clear hr)
  go_ret
  exact ⟨by rw [← HR.out]; rfl, hb⟩
end Go.Proofs.YtfbangojgjcbcaaGreatDoor
