/- Part 3 of the proof: AllocF, ScrL, ScrM, ActA, ActB, ActC, Builder. -/
import Derived.Test.YtfbangojgjcbcaaGreatDoorShelf2
import Derived.Lib.Builder
import Derived.Test.YtfbangojgjcbcaaGreatDoorSC01
import Derived.Test.YtfbangojgjcbcaaGreatDoorSC02
namespace Go.Proofs.YtfbangojgjcbcaaGreatDoor
open Go.RowKit Pl
/-- A class of worlds that keep W, which what makes memory does not leave. -/
structure Up (W : World) where
  D : World → Prop
  sub : ∀ w, D w → Below W.heap.size W w
  up : ∀ w w', D w → Below w.heap.size w w' → D w'
  one : ∃ w, D w
structure ExtU {W : World} (U : Up W) where
  w : World
  has : U.D w
instance {W : World} (U : Up W) : Nonempty (ExtU U) := let ⟨w, h⟩ := U.one; ⟨⟨w, h⟩⟩
theorem ExtU.below {W : World} {U : Up W} (x : ExtU U) : Below W.heap.size W x.w := U.sub _ x.has
theorem ExtU.call {W : World} {U : Up W} {P : Program} {f : FuncId} {args : Array Value} {x : ExtU U} {v : Value}
    (h : Calls P f args x.w fun e w' => e = .returned v ∧ Below x.w.heap.size x.w w') : Calls P f args x.w fun e w'' => e = .returned v ∧ ∃ y : ExtU U, w'' = y.w :=
  h.mono fun _ w' ⟨he, hb⟩ => ⟨he, ⟨w', U.up _ _ x.has hb⟩, rfl⟩
theorem ExtU.callq {W : World} {U : Up W} {P : Program} {f : FuncId} {args : Array Value} {x : ExtU U} {v : Value}
    (h : Calls P f args x.w fun e w' => e = .returned v ∧ x.w = w') : Calls P f args x.w fun e w'' => e = .returned v ∧ ∃ y : ExtU U, w'' = y.w :=
  h.mono fun _ _ ⟨he, hb⟩ => ⟨he, x, hb.symm⟩
@[go_sem] theorem ExtU.cell {W : World} {U : Up W} (x : ExtU U) (p : Addr) (h : p.block < W.heap.size) : x.w.cell? p = W.cell? p := x.below.cell h
@[go_sem] theorem ExtU.frozen {W : World} {U : Up W} (x : ExtU U) (p : Addr) (h : p.block < W.heap.size) : x.w.frozen? p = W.frozen? p := x.below.frozen h
def Up.all (W : World) : Up W := ⟨fun w => Below W.heap.size W w, fun _ h => h, fun _ _ h hb => h.trans (hb.mono h.size), ⟨W, Below.refl _ _⟩⟩
theorem below_long (W : World) : ∀ k : Nat, ∃ w, Below W.heap.size W w ∧ w.heap.size = W.heap.size + k
  | 0 => ⟨W, Below.refl _ _, rfl⟩
  | k + 1 => let ⟨w, h, hs⟩ := below_long W k; ⟨w.alloc (.cells #[] 0), h.alloc h.size _, by rw [World.size_alloc, hs]; omega⟩
theorem below_at (W : World) (p : Nat) (t : TypeId) (cs : Array Value) (hp : W.heap.size ≤ p) : ∃ w, Below W.heap.size W w ∧ Whole w p t cs := by
  obtain ⟨w, h, hs⟩ := below_long W (p - W.heap.size)
  have : w.heap.size = p := by omega
  subst this
  exact ⟨w.alloc (.cells cs t), h.alloc h.size _, Whole.new _ _ _⟩
def Up.at (W : World) (p : Nat) (t : TypeId) (cs : Array Value) (hp : W.heap.size ≤ p) : Up W :=
  ⟨fun w => Below W.heap.size W w ∧ Whole w p t cs, fun _ h => h.1, fun _ _ h hb => ⟨h.1.trans (hb.mono h.1.size), h.2.here hb⟩, below_at W p t cs hp⟩
def Up.C {W : World} (U : Up W) : World → Prop := fun w' => ∃ x : ExtU U, w' = x.w
section
variable {P : Program} {ops : Array Oper} {md : Region.Mode} {C D0 : World → Prop}
/-- What the end's frame holds where an operation that has come up has written. -/
theorem headQ_slot {n : Nat} {L : Array Bool → Act → Prop} {aE : Act} (hL : ∀ l a, L l a → a = aE) {j : Nat} {oj : Oper} {d : Tmp} (hj : ops[j]? = some oj) (hd : oj.dst = some d)
    (hdist : ∀ i oi, ops[i]? = some oi → i < n → i ≠ j → oi.dst ≠ some d) :
    ∀ (f : Nat) (listed : Array Bool) (a : Act), listed.getD j true = true → headQ P md ops C n L f listed a → aE.tmps[d]? = a.tmps[d]?
  | 0, _, a, _, h => by rw [hL _ _ h]
  | f + 1, listed, a, hl, h => by
    obtain ⟨i, hi⟩ := List.exists_mem_of_ne_nil _ h.1
    obtain ⟨hin, hq⟩ := h.2 i hi
    obtain ⟨hun, oi, hoi, -⟩ := mem_ready.1 hi
    have hij : i ≠ j := by rintro rfl; rw [hun] at hl; cases hl
    obtain ⟨v, -, hK⟩ := yieldsIn_of_qOp hoi hq
    have := headQ_slot hL hj hd hdist f _ _ (by rw [getD_set_ne true hij]; exact hl) hK
    rw [this]
    have hne := hdist i oi hoi hin hij
    cases ho : oi.dst with
    | none => rfl
    | some e =>
      have : e ≠ d := fun h => hne (by rw [ho, h])
      show (a.tmps.setIfInBounds e v)[d]? = _
      rw [Array.getElem?_setIfInBounds_ne this]
theorem put_same {a aE : Act} {d : Tmp} {v v' : Value} (h : aE.tmps[d]? = (a.put (some d) v).tmps[d]?) (h' : aE.tmps[d]? = (a.put (some d) v').tmps[d]?) : a.put (some d) v = a.put (some d) v' := by
  rw [h] at h'
  unfold Act.put at h' ⊢
  simp only at h' ⊢
  rcases Nat.lt_or_ge d a.tmps.size with hd | hd
  · rw [Array.getElem?_setIfInBounds_self_of_lt hd, Array.getElem?_setIfInBounds_self_of_lt hd] at h'
    rw [Option.some.inj h']
  · simp only [Act.mk.injEq, and_true]
    rw [Array.setIfInBounds_eq_of_size_le hd, Array.setIfInBounds_eq_of_size_le hd]
theorem qOp_put' {j : Nat} {oi oj : Oper} {v : Value} (hj : ops[j]? = some oj) (hap : oi.apart ops oj = true) (hsj : ∀ cs b, oj.op ≠ .select cs b) {K : Act → Prop} {a : Act}
    (h : qOp P ops C j K a) : qOp P ops C j (fun a' => ∃ a0, a' = a0.put oi.dst v ∧ K a0) (a.put oi.dst v) := by
  obtain ⟨h1, h2, h3⟩ := Oper.apart_spec hap
  unfold qOp at *
  simp only [hj] at *
  rw [wanted_put oj a oi.dst v h1]
  split
  · rename_i hw
    simp only [hw, if_true] at h
    obtain ⟨u, hu, hn⟩ := h
    refine ⟨u, fun w hw' => ?_, a.put oj.dst u, (Act.put_comm a v u h2), hn⟩
    have := hu w hw'
    unfold Oper.quietAt at *
    rwa [execOp_put oj hsj a oi.dst v h1]
  · rename_i hw
    simp only [hw] at h
    exact ⟨a.put oj.dst undef, (Act.put_comm a v undef h2), h⟩
theorem headQ_put {n : Nat} {L : Array Bool → Act → Prop} {oi : Oper} {v : Value} (hsel : ∀ (j : Nat) (o : Oper) cs b, ops[j]? = some o → o.op ≠ .select cs b)
    (hap : ∀ j oj, ops[j]? = some oj → j < n → oi.apart ops oj = true ∨ oj = oi) :
    ∀ (f : Nat) (listed : Array Bool) (a : Act), (∀ j, j < n → ops[j]? = some oi → listed.getD j true = true) → headQ P md ops C n L f listed a →
      headQ P md ops C n (fun l a' => ∃ a0, a' = a0.put oi.dst v ∧ L l a0) f listed (a.put oi.dst v)
  | 0, _, a, _, h => ⟨a, rfl, h⟩
  | f + 1, listed, a, hl, h => by
    refine ⟨h.1, fun j hj => ?_⟩
    obtain ⟨hjn, hq⟩ := h.2 j hj
    obtain ⟨hju, oj, hoj, -⟩ := mem_ready.1 hj
    refine ⟨hjn, ?_⟩
    rcases hap j oj hoj hjn with h1 | rfl
    · refine qOp_mono ?_ (qOp_put' hoj h1 (fun cs b => hsel j oj cs b hoj) hq)
      rintro _ ⟨a0, rfl, h0⟩
      refine headQ_put hsel hap f _ a0 (fun k hk hok => ?_) h0
      by_cases hjk : j = k
      · subst hjk
        exact absurd (hl j hk hok) (by rw [hju]; decide)
      · rw [getD_set_ne true hjk]; exact hl k hk hok
    · exact absurd (hl j hjn hoj) (by rw [hju]; decide)
/-- The head without operation m, in the order of the text; then, m having come up, the tail. -/
def lexA (md : Region.Mode) (ops : Array Oper) (g m : Nat) : Nat → Nat → Array Bool → Bool
  | 0, _, listed => Region.seqB md ops g (m + 1) listed
  | f + 1, k, listed => (Region.ready md ops listed).contains k && Region.free md ops listed k && lexA md ops g m f (k + 1) (listed.setIfInBounds k true)
theorem headA_lex {m g : Nat} {Lq : Act → Prop} (hsel : Region.noSelect ops = true) (hs : sinkF md ops 0 (m + 1) = true) (hc : Region.chainB md ops (m + 1) = true) (hn : m + 1 < ops.size) :
    ∀ (l : List Oper) (k : Nat) (listed : Array Bool) (a : Act), (∀ j, j < l.length → l[j]? = ops[k + j]?) → k + l.length = m → HeadInv md ops (m + 1) listed →
    lexA md ops g m l.length k listed = true → wpQuiet P ops C Lq l a →
    headQ P md ops C (m + 1) (fun listed' a' => Region.seqB md ops g (m + 1) listed' = true ∧ Lq a') l.length listed a
  | [], _, listed, a, _, _, _, hB, h => ⟨by simpa [lexA] using hB, h⟩
  | o :: l, k, listed, a, hl, hk, inv, hB, h => by
    have h0 : ops[k]? = some o := by simpa using (hl 0 (by simp)).symm
    simp only [List.length_cons, lexA, Bool.and_eq_true] at hB
    obtain ⟨⟨hr, hf⟩, hB'⟩ := hB
    have hkn : k < m + 1 := by simp only [List.length_cons] at hk; omega
    have hr' : k ∈ Region.ready md ops listed := by simpa using hr
    have hst : qOp P ops C k (wpQuiet P ops C Lq l) a := by unfold qOp; simp only [h0]; exact h
    obtain ⟨v, hy, hK⟩ := yieldsIn_of_qOp h0 hst
    exact headF_first h0 (Region.noSelect_spec hsel) hs hc hn hkn (Nat.zero_le _) (fun listed' a' hL => seqB_ready hL.1) l.length listed a inv (Region.free_spec h0 hf) hr' hy
      (headA_lex hsel hs hc hn l (k + 1) _ _ (fun j hj => by have := hl (j + 1) (by simp; omega); simpa [Nat.add_assoc, Nat.add_comm 1 j] using this) (by simp only [List.length_cons] at hk; omega) (inv.set hr' hkn) hB' hK)
theorem wpAny_alloc {D1 : Nat → World → Prop} {ok : Nat → Prop} {Q : Exit → Act → World → Prop} {m g : Nat} {L : Array Bool → Act → Prop} {oa : Oper} {aE : Act} {val : Nat → Value} (hoa : ops[m]? = some oa)
    (hsel : ∀ (j : Nat) (o : Oper) cs b, ops[j]? = some o → o.op ≠ .select cs b)
    (hap : ∀ j oj, ops[j]? = some oj → j < m → oa.apart ops oj = true)
    (hdist : ∀ i oi j oj, ops[i]? = some oi → ops[j]? = some oj → i < m → j < m → i ≠ j → ∃ d, oj.dst = some d ∧ oi.dst ≠ some d) (hsome : ∀ j oj, ops[j]? = some oj → j < m → ∃ d, oj.dst = some d)
    (hw : Region.waitsFor md ops (m + 1) m = true) (hc : Region.chainB md ops (m + 1) = true)
    (halloc : ∀ (a : Act) (w : World) (K : Act → World → Prop), D0 w → (ok w.heap.size → ∀ w', D1 w.heap.size w' → K (a.put oa.dst (val w.heap.size)) w') → wpOp P ops Q m K a w)
    (hL : ∀ l a, L l a → a = aE) (hLr : ∀ l a, L l a → ∀ j ∈ Region.ready md ops l, m + 1 ≤ j)
    (htail : ∀ p l w, D1 p w → L l aE → wpAny P md ops Q g l (aE.put oa.dst (val p)) w) :
    ∀ (f : Nat) (listed : Array Bool) (a : Act) (w : World), D0 w → listed.size = ops.size → listed.getD m true = false → m ∈ Region.ready md ops listed →
      (∀ t, m + 1 ≤ t → t < ops.size → listed.getD t true = false) →
      headQ P md ops D0 (m + 1) L f (listed.setIfInBounds m true) a → (∀ p, ok p → headQ P md ops (D1 p) (m + 1) L f (listed.setIfInBounds m true) a) → wpAny P md ops Q (f + 1 + g) listed a w := by
  have hlate : ∀ (listed : Array Bool), listed.size = ops.size → listed.getD m true = false → (∀ t, m + 1 ≤ t → t < ops.size → listed.getD t true = false) → ∀ j ∈ Region.ready md ops listed, j ≤ m := by
    intro listed hsz hm htl j hj
    rcases Nat.lt_or_ge m j with h | h
    · obtain ⟨_, oj, hoj, hall⟩ := mem_ready.1 hj
      have hlt : j < ops.size := (Array.getElem?_eq_some_iff.1 hoj).1
      have waits : ∀ {i : Nat}, Region.waitsFor md ops j i = true → listed.getD i false = true := fun h => by
        obtain ⟨o', ho', e, he, hb, rfl⟩ := Region.waitsFor_spec h
        rw [hoj] at ho'
        cases ho'
        exact hall e he hb
      by_cases hjm : j = m + 1
      · subst hjm
        have := waits hw
        rw [getD_both hm] at this
        cases this
      · have h1 := List.all_eq_true.1 hc j (List.mem_range.2 hlt)
        rcases (Bool.or_eq_true _ _).mp h1 with h1 | h1
        · have := of_decide_eq_true h1; omega
        · have h3 := waits h1
          rw [getD_both (htl (j - 1) (by omega) (by omega))] at h3
          cases h3
    · exact h
  have hgo : ∀ (f : Nat) (listed : Array Bool) (a : Act) (p : Nat) (w : World), D1 p w → listed.getD m true = false → m < listed.size → headQ P md ops (D1 p) (m + 1) L f (listed.setIfInBounds m true) a →
      wpAny P md ops Q (f + g) (listed.setIfInBounds m true) (a.put oa.dst (val p)) w := by
    intro f listed a p w hw hm hms h
    have h2 := headQ_put (v := val p) (oi := oa) hsel (fun j oj hoj hjn => by
      by_cases hjm : j = m
      · subst hjm; rw [hoa] at hoj; exact .inr (Option.some.inj hoj).symm
      · exact .inl (hap j oj hoj (by omega))) f _ a (fun j hj hoj => by
        by_cases hjm : j = m
        · subst hjm; simp [hms]
        · obtain ⟨e, he⟩ := hsome j oa hoj (by omega)
          have := (Oper.apart_spec (hap j oa hoj (by omega))).2.1 e he
          exact absurd he this) h
    refine wpAny_of_headQ (fun l a' w' hw' => ?_) f _ _ _ hw h2
    rintro ⟨a0, rfl, h0⟩
    obtain rfl := hL _ _ h0
    exact htail p _ _ hw' h0
  intro f
  induction f with
  | zero =>
    intro listed a w hD hsz hm hr htl H0 H1
    rw [show 0 + 1 + g = g + 1 by omega]
    refine ⟨fun h => (by rw [h] at hr; cases hr), fun j hj => ?_⟩
    have hjm := hlate listed hsz hm htl j hj
    by_cases hji : j = m
    · subst hji
      refine halloc a w _ hD fun hok w' hw' => ?_
      have := hgo 0 listed a _ w' hw' hm (by rw [hsz]; exact (Array.getElem?_eq_some_iff.1 hoa).1) (H1 _ hok)
      rwa [Nat.zero_add] at this
    · have := hLr _ _ H0 j (ready_mono hj hji)
      omega
  | succ f ih =>
    intro listed a w hD hsz hm hr htl H0 H1
    rw [show f + 1 + 1 + g = (f + 1 + g) + 1 by omega]
    refine ⟨fun h => (by rw [h] at hr; cases hr), fun j hj => ?_⟩
    have hjm := hlate listed hsz hm htl j hj
    by_cases hji : j = m
    · subst hji
      exact halloc a w _ hD fun hok w' hw' => hgo (f + 1) listed a _ w' hw' hm (by rw [hsz]; exact (Array.getElem?_eq_some_iff.1 hoa).1) (H1 _ hok)
    · have hjlt : j < m := by omega
      obtain ⟨hjun, oj, hoj, -⟩ := mem_ready.1 hj
      have hj1 := ready_mono hj hji
      have h0 := (H0.2 j hj1).2
      obtain ⟨v, hy, hK⟩ := yieldsIn_of_qOp hoj h0
      obtain ⟨d, hd⟩ := hsome j oj hoj hjlt
      have hdi : ∀ i oi, ops[i]? = some oi → i < m + 1 → i ≠ j → oi.dst ≠ some d := fun i oi hoi hin hij => by
        by_cases him : i = m
        · subst him
          rw [hoa] at hoi
          cases hoi
          intro he
          exact (Oper.apart_spec (hap j oj hoj hjlt)).2.1 d he hd
        · obtain ⟨d', hd', hne⟩ := hdist i oi j oj hoi hoj (by omega) hjlt hij
          rw [hd] at hd'
          cases hd'
          exact hne
      have hset : ((listed.setIfInBounds m true).setIfInBounds j true).getD j true = true := by
        simp only [Array.getD_eq_getD_getElem?, Array.getElem?_setIfInBounds, if_true]
        split <;> rfl
      have hs0 := headQ_slot hL hoj hd hdi f _ _ hset hK
      refine wpOp_of_qOp (K := fun a' => a' = a.put oj.dst v) hD (fun a' w' hw' ha' => ?_) (hy.qOp hoj rfl)
      subst ha'
      have hcm : (listed.setIfInBounds m true).setIfInBounds j true = (listed.setIfInBounds j true).setIfInBounds m true := Array.setIfInBounds_comm _ _ (Ne.symm hji)
      refine ih (listed.setIfInBounds j true) _ w' hw' (by simp [hsz]) (by rw [getD_set_ne true hji]; exact hm) (ready_mono hr (Ne.symm hji)) (fun t ht ht' => by rw [getD_set_ne true (by omega)]; exact htl t ht ht') (by rw [← hcm]; exact hK) fun p hp => ?_
      have h1 := ((H1 p hp).2 j hj1).2
      obtain ⟨v', hy', hK'⟩ := yieldsIn_of_qOp hoj h1
      have hs1 := headQ_slot hL hoj hd hdi f _ _ hset hK'
      rw [← hcm]
      rw [hd] at hs0 hs1 hK' ⊢
      rw [put_same hs0 hs1]
      exact hK'
def dstsB (ops : Array Oper) (m : Nat) : Bool :=
  (List.range m).all fun j => match (ops[j]?).bind (·.dst) with
    | some d => (List.range m).all fun i => decide (i = j) || decide ((ops[i]?).bind (·.dst) ≠ some d)
    | none => false
def allocB (md : Region.Mode) (ops : Array Oper) (m : Nat) : Bool :=
  Region.noSelect ops && decide (m + 1 < ops.size) && sinkF md ops 0 (m + 1) && Region.chainB md ops (m + 1) && (Region.ready md ops (Array.replicate ops.size false)).contains m && Region.waitsFor md ops (m + 1) m && dstsB ops m &&
    ((List.range m).all fun j => match ops[m]?, ops[j]? with | some x, some y => x.apart ops y | _, _ => false) && lexA md ops (ops.size - (m + 1)) m m 0 ((Array.replicate ops.size false).setIfInBounds m true)
/-- The law: 'x := T{..}' whose parts call what makes memory. -/
theorem wp_region_ext_alloc {id : Nat} {Q : Exit → Act → World → Prop} {a : Act} {W : World} {l : List Oper} (m : Nat) (aE : Act) (oa : Oper) (t : TypeId) (cs : Array Value) (hm : P.follows .mixedOrders = true) (hB : allocB .any l.toArray m = true) (hoa : l[m]? = some oa)
    (hwant : oa.guard = none) (hrun : ∀ (a : Act) (w : World), (execOp a.eval oa).run P w = .ok (.value (.pointer (some ⟨w.heap.size, 0, none⟩))) (w.alloc (.cells cs t)))
    (hq : ∀ U : Up W, wpQuiet P l.toArray (fun w' => ∃ x : ExtU U, w' = x.w) (fun a' => a' = aE) (l.take m) a)
    (ht : ∀ (p : Nat) (x : Ext W), W.heap.size ≤ p → Whole x.w p t cs → wpList P l.toArray Q (l.drop (m + 1)) (aE.put oa.dst (.pointer (some ⟨p, 0, none⟩))) x.w) : (Code.region id l.toArray true).wp P Q a W := by
  simp only [allocB, Bool.and_eq_true, decide_eq_true_eq] at hB
  obtain ⟨⟨⟨⟨⟨⟨⟨⟨hsel, hn⟩, hs⟩, hc⟩, hr⟩, hw⟩, hds⟩, hap⟩, hlex⟩ := hB
  have hn' : m + 1 < l.length := by simpa using hn
  have htl : (l.take m).length = m := by simp; omega
  have hdl : (l.drop (m + 1)).length = l.toArray.size - (m + 1) := by simp
  have hoa' : l.toArray[m]? = some oa := by simpa using hoa
  have inv0 : HeadInv .any l.toArray (m + 1) (Array.replicate l.toArray.size false) :=
    ⟨by simp, fun j oj _ hl => (by rw [getD_replicate_false] at hl; cases hl), fun t _ ht => getD_in (by simpa using ht) (getD_replicate_false _ _)⟩
  have hr0 : m ∈ Region.ready .any l.toArray (Array.replicate l.toArray.size false) := by simpa using hr
  have inv1 := inv0.set hr0 (by omega)
  have H : ∀ U : Up W, headQ P .any l.toArray (fun w' => ∃ x : ExtU U, w' = x.w) (m + 1) (fun listed' a' => Region.seqB .any l.toArray (l.toArray.size - (m + 1)) (m + 1) listed' = true ∧ a' = aE) m ((Array.replicate l.toArray.size false).setIfInBounds m true) a := fun U => by
    have := headA_lex (md := .any) (g := l.toArray.size - (m + 1)) hsel hs hc hn (l.take m) 0 _ a (fun j hj => by
      have hj' : j < m := by rw [htl] at hj; exact hj
      simp [hj']) (by simpa using htl) inv1 (by rw [htl]; exact hlex) (hq U)
    rw [htl] at this
    exact this
  refine wp_region_any hm ?_
  have := wpAny_alloc (P := P) (md := .any) (ops := l.toArray) (D0 := fun w' => ∃ x : ExtU (Up.all W), w' = x.w) (ok := fun p => W.heap.size ≤ p) (D1 := fun p w' => ∃ (hp : W.heap.size ≤ p) (x : ExtU (Up.at W p t cs hp)), w' = x.w) (Q := Q) (m := m) (g := l.toArray.size - (m + 1))
    (L := fun listed' a' => Region.seqB .any l.toArray (l.toArray.size - (m + 1)) (m + 1) listed' = true ∧ a' = aE) (oa := oa) (aE := aE) (val := fun p => .pointer (some ⟨p, 0, none⟩)) hoa' (Region.noSelect_spec hsel) ?_ ?_ ?_ hw hc ?_ (fun _ _ h => h.2) (fun _ _ h => seqB_ready h.1) ?_
    m (Array.replicate l.toArray.size false) a { W with drawn := W.drawn + 1 } ⟨⟨_, (Below.refl _ W).drew⟩, rfl⟩ (by simp) (getD_in (by simp; omega) (getD_replicate_false _ _)) hr0 (fun t _ ht => getD_in (by simpa using ht) (getD_replicate_false _ _)) (H _) (fun p hp => by
      have h1 := H (Up.at W p t cs hp)
      have e : (fun w' => ∃ (hp : W.heap.size ≤ p) (x : ExtU (Up.at W p t cs hp)), w' = x.w) = (fun w' => ∃ x : ExtU (Up.at W p t cs hp), w' = x.w) := by
        funext w'
        exact propext ⟨fun ⟨_, h⟩ => h, fun h => ⟨hp, h⟩⟩
      rw [e]
      exact h1)
  · rw [show m + 1 + (l.toArray.size - (m + 1)) = l.toArray.size by omega] at this
    exact this
  · intro j oj hoj hj
    have h1 := List.all_eq_true.1 hap j (List.mem_range.2 hj)
    rw [hoa', hoj] at h1
    exact h1
  · intro i oi j oj hoi hoj hi hj hij
    have h1 := List.all_eq_true.1 hds j (List.mem_range.2 hj)
    rw [hoj] at h1
    simp only [Option.bind_some] at h1
    cases hd : oj.dst with
    | none => rw [hd] at h1; cases h1
    | some d =>
      rw [hd] at h1
      have h2 := List.all_eq_true.1 h1 i (List.mem_range.2 hi)
      rw [hoi] at h2
      simp only [Option.bind_some, Bool.or_eq_true, decide_eq_true_eq] at h2
      exact ⟨d, rfl, h2.resolve_left hij⟩
  · intro j oj hoj hj
    have h1 := List.all_eq_true.1 hds j (List.mem_range.2 hj)
    rw [hoj] at h1
    simp only [Option.bind_some] at h1
    cases hd : oj.dst with
    | none => rw [hd] at h1; cases h1
    | some d => exact ⟨d, rfl⟩
  · rintro a w K ⟨x, rfl⟩ hK
    unfold wpOp
    rw [hoa']
    simp only
    have hwt : Region.wanted oa (yielded l.toArray a.tmps) = true := by unfold Region.wanted; rw [hwant]
    rw [if_pos hwt]
    refine .inl ?_
    unfold Oper.wp
    rw [hrun]
    exact hK x.below.size _ ⟨x.below.size, ⟨x.w.alloc (.cells cs t), x.below.alloc x.below.size _, Whole.new _ _ _⟩, rfl⟩
  · rintro p l' w ⟨hp, x, rfl⟩ hL
    have := wpAny_of_seq (md := .any) (Q' := Q) (l.drop (m + 1)) (m + 1) l' (aE.put oa.dst (.pointer (some ⟨p, 0, none⟩))) x.w (fun j => by simp [List.getElem?_drop]) (by rw [hdl]; exact hL.1) (ht p ⟨x.w, x.below⟩ hp x.has.2)
    rwa [hdl] at this
end
end Go.Proofs.YtfbangojgjcbcaaGreatDoor
namespace Go.Proofs.YtfbangojgjcbcaaGreatDoor
open Go.RowKit Pl
open Go.Lib (decDigits itoa join)
theorem numC_ok {x : List UInt8} {v : Int} (h : Lib.atoiAll x = .ok v) : numC x = v := by unfold numC; rw [h]
theorem numC_no {x : List UInt8} (h : ∀ u, Lib.atoiAll x ≠ .ok u) : numC x = 0 := by
  unfold numC
  cases hx : Lib.atoiAll x with
  | ok v => exact absurd hx (h v)
  | _ => rfl
set_option maxRecDepth 100000 in
set_option maxHeartbeats 1000000 in
theorem cnum_any (x : List UInt8) (w : World) (hx : x.length ≤ 1000000) (E : Env w) :
    Calls Tryz.prog 87 #[.string (str x)] w fun e w' => e = .returned (.int .i64 (numC x)) ∧ Below w.heap.size w w' := by
  by_cases h : ∃ v, Lib.atoiAll x = .ok v
  · obtain ⟨v, hv⟩ := h
    have HN := Lib.hid (numC_ok hv)
    have HC := Lib.hid (atoi_ok x v w hx hv)
    clear hv
    go_enter Tryz.func87, Tryz.ntmps87
    go_wp2_with (go_at_call 146; refine HC.out.mono ?_; rintro e w' ⟨rfl, hb⟩)
    go_ret
    exact ⟨by rw [HN.out]; rfl, hb⟩
  · have HN := Lib.hid (numC_no fun u hu => h ⟨u, hu⟩)
    have HC := Lib.hid (atoi_err x w hx (fun u hu => h ⟨u, hu⟩) E)
    clear h
    go_enter Tryz.func87, Tryz.ntmps87
    go_wp2_with fail
    refine HC.out.mono ?_
    rintro e w' ⟨⟨n, t, p, rfl⟩, hb⟩
    go_wp2
    go_ret
    exact ⟨by rw [HN.out]; rfl, hb⟩
/-- A link as a value. -/
abbrev lkV (l : Lk) : Value := .agg #[.int .i64 l.1, .int .i64 l.2.1, .int .i64 l.2.2.1, .int .i64 l.2.2.2]
def lkN (l : Lk) : List Int := [l.1, l.2.1, l.2.2.1, l.2.2.2]
def lkPart (l : Lk) (k : Nat) : List UInt8 := wLink ++ ((lkN l).take k).flatMap fun n => 32 :: itoa n
theorem lkPart_all (l : Lk) : lkPart l 4 = linkText l := by
  unfold lkPart lkN linkText
  simp
theorem lkPart_next (l : Lk) (k : Nat) (n : Int) (h : (lkN l)[k]? = some n) : lkPart l (k + 1) = lkPart l k ++ 32 :: itoa n := by
  unfold lkPart
  rw [List.take_add_one, h]
  simp
theorem lkPart_len (l : Lk) (k : Nat) (h : In4 l) : (lkPart l k).length ≤ 100 := by
  have h1 := linkText_len h
  rw [← lkPart_all] at h1
  have : ((lkN l).take k).flatMap (fun n => 32 :: itoa n) = ((lkN l).take k).flatMap (fun n => 32 :: itoa n) := rfl
  unfold lkPart at h1 ⊢
  have h2 : (((lkN l).take k).flatMap fun n => 32 :: itoa n).length ≤ (((lkN l).take 4).flatMap fun n => 32 :: itoa n).length := by
    rw [show (lkN l).take 4 = lkN l from rfl]
    conv => rhs; rw [← List.take_append_drop k (lkN l), List.flatMap_append, List.length_append]
    omega
  rw [List.length_append] at h1 ⊢
  omega
theorem lkPart_str (p x : List UInt8) : (str p ++ ({ data := #[32] } ++ str x) : ByteArray) = str (p ++ 32 :: x) := by
  show str p ++ (str [32] ++ str x) = _
  rw [str_append, str_append]
  rfl
set_option maxRecDepth 100000 in
set_option maxHeartbeats 1000000 in
theorem clinkText_any (l : Lk) (w : World) (h : In4 l) (E : Env w) :
    Calls Tryz.prog 41 #[lkV l] w fun e w' => e = .returned (.string (str (linkText l))) ∧ Below w.heap.size w w' := by
  have HI := Lib.hid h
  obtain ⟨a, b, c, d⟩ := l
  clear h
  obtain ⟨W2, hW2⟩ : ∃ W2, (w.alloc (.cells #[.int .i64 a, .int .i64 b, .int .i64 c, .int .i64 d] 63)).alloc (.cells #[.int .i64 a, .int .i64 b, .int .i64 c, .int .i64 d] 3) = W2 := ⟨_, rfl⟩
  have HB2 : Hid (Below w.heap.size w W2) := Lib.hid (by rw [← hW2]; exact ((Below.refl _ _).alloc (Nat.le_refl _) _).alloc (by simp) _)
  have HX : Hid (Whole W2 (w.heap.size + 1) 3 #[.int .i64 a, .int .i64 b, .int .i64 c, .int .i64 d]) := Lib.hid (by
    rw [← hW2]
    have := Whole.new (w.alloc (.cells #[.int .i64 a, .int .i64 b, .int .i64 c, .int .i64 d] 63)) 3 #[.int .i64 a, .int .i64 b, .int .i64 c, .int .i64 d]
    simpa using this)
  have E2 := Lib.hid (E.here HB2.out)
  have HW := Lib.hid hW2
  clear hW2 E
  go_enter Tryz.func41, Tryz.ntmps41
  go_wp2
  rw [HW.out]
  go_loopw [3, 16] (fun s i wr => ∃ k : Nat, k ≤ 4 ∧ i = .int .i64 k ∧ s = .string (str (lkPart (a, b, c, d) k)) ∧ Hid (Below W2.heap.size W2 wr)) (fun _ i _ => 4 - (intOf i).toNat)
  case atStart => exact ⟨0, by omega, rfl, rfl, Lib.hid (Below.refl _ _)⟩
  case round =>
    obtain ⟨k, hk, rfl, rfl, HB⟩ := hrel
    by_cases hk4 : k < 4
    · obtain ⟨n, hn⟩ : ∃ n, (lkN (a, b, c, d))[k]? = some n := ⟨_, List.getElem?_eq_getElem (show k < 4 from hk4)⟩
      have hcell : wr.cell? ⟨w.heap.size + 1, k, none⟩ = some (.int .i64 n) := by
        have := (HX.out.here HB.out).cell k
        rw [this]
        unfold lkN at hn
        rcases (by omega : k = 0 ∨ k = 1 ∨ k = 2 ∨ k = 3) with rfl | rfl | rfl | rfl <;> simp at hn <;> subst hn <;> rfl
      have hin : In64 n := by
        obtain ⟨i1, i2, i3, i4⟩ := HI.out
        have hm := List.mem_of_getElem? hn
        unfold lkN at hm
        simp only [List.mem_cons, List.not_mem_nil, or_false] at hm
        rcases hm with rfl | rfl | rfl | rfl
        · exact i1
        · exact i2
        · exact i3
        · exact i4
      have hs : (str (itoa n)).size ≤ 20 := by rw [str_size]; exact itoa_len20 hin
      have hs2 : (str (lkPart (a, b, c, d) k)).size ≤ 100 := by rw [str_size]; exact lkPart_len _ _ HI.out
      have HN := Lib.hid (lkPart_next _ _ _ hn)
      clear hn
      go_wp2_with (go_at_call 58; refine (itoa_all _ _ hin.1 hin.2 (E2.out.here HB.out)).mono ?_; rintro e w3 ⟨rfl, hb3⟩; have HB3 := Lib.hid (HB.out.trans (hb3.mono HB.out.size)); clear hb3)
      go_roundw
      case rel => exact ⟨k + 1, by omega, by go_num, by rw [HN.out]; exact congrArg Value.string (lkPart_str _ _), HB3⟩
      case measure => simp [intOf]; omega
    · obtain rfl : k = 4 := by omega
      go_wp2
      go_ret
      exact ⟨by rw [lkPart_all]; rfl, HB2.out.trans (HB.out.mono HB2.out.size)⟩
end Go.Proofs.YtfbangojgjcbcaaGreatDoor
namespace Go.Proofs.YtfbangojgjcbcaaGreatDoor
open Go.RowKit Pl
open Go.Lib (decDigits itoa join)
def clkRes (s : List UInt8) : Value := match linkC s with
  | some l => .tuple #[lkV l, .int .i64 0]
  | none => .tuple #[lkV (0, 0, 0, 0), .int .i64 4]
theorem linkW_five {f : List UInt8 → Int} {s x0 x1 x2 x3 x4 : List UInt8} (h : splitOn 32 s = [x0, x1, x2, x3, x4]) : linkW f s = if linkText (f x1, f x2, f x3, f x4) = s then some (f x1, f x2, f x3, f x4) else none := by
  unfold linkW; rw [h]
theorem linkW_other {f : List UInt8 → Int} {s : List UInt8} (h : (splitOn 32 s).length ≠ 5) : linkW f s = none := by
  unfold linkW
  split
  · rename_i he; rw [he] at h; simp at h
  · rfl
theorem five_of {ws : List (List UInt8)} (h : ws.length = 5) : ∃ x0 x1 x2 x3 x4, ws = [x0, x1, x2, x3, x4] := by
  match ws, h with
  | [x0, x1, x2, x3, x4], _ => exact ⟨_, _, _, _, _, rfl⟩
/-- Five parts: a row of five strings, known by their numbers. -/
structure Five (w : World) (b : Nat) (x1 x2 x3 x4 : List UInt8) : Prop where
  lt : b < w.heap.size
  g1 : w.cell? ⟨b, 1, none⟩ = some (.string (str x1))
  g2 : w.cell? ⟨b, 2, none⟩ = some (.string (str x2))
  g3 : w.cell? ⟨b, 3, none⟩ = some (.string (str x3))
  g4 : w.cell? ⟨b, 4, none⟩ = some (.string (str x4))
theorem csplit_five (s x0 x1 x2 x3 x4 : List UInt8) (w : World) (hs : s.length ≤ 1000000) (E : Env w) (h : splitOn 32 s = [x0, x1, x2, x3, x4]) :
    Calls Tryz.prog 83 #[.string (str s), .string ⟨#[32]⟩] w fun e w' => ∃ b, e = .returned (.slice (some ⟨b, 0, none⟩) 5 5) ∧ Five w' b x1 x2 x3 x4 ∧ Below w.heap.size w w' := by
  have := split_any 32 s w hs E
  rw [h] at this
  exact this.mono fun e w' ⟨v, he, ⟨b, hv, hlt, hc⟩, hb⟩ => ⟨b, by rw [he, hv]; rfl, ⟨hlt, hc 1 _ rfl, hc 2 _ rfl, hc 3 _ rfl, hc 4 _ rfl⟩, hb⟩
theorem csplit_len (s : List UInt8) (w : World) (hs : s.length ≤ 1000000) (E : Env w) :
    Calls Tryz.prog 83 #[.string (str s), .string ⟨#[32]⟩] w fun e w' => ∃ b, e = .returned (.slice (some ⟨b, 0, none⟩) (splitOn 32 s).length (splitOn 32 s).length) ∧ Below w.heap.size w w' :=
  (split_any 32 s w hs E).mono fun _ _ ⟨_, he, ⟨b, hv, _, _⟩, hb⟩ => ⟨b, by rw [he, hv], hb⟩
theorem set4_below {w W : World} (h : Below w.heap.size w W) (u0 u1 u2 u3 : Value) : Below w.heap.size w ((((W.setCell ⟨w.heap.size, 0, none⟩ u0).setCell ⟨w.heap.size, 1, none⟩ u1).setCell ⟨w.heap.size, 2, none⟩ u2).setCell ⟨w.heap.size, 3, none⟩ u3) :=
  (((h.setCell (p := ⟨w.heap.size, 0, none⟩) (Nat.le_refl _) _).setCell (p := ⟨w.heap.size, 1, none⟩) (Nat.le_refl _) _).setCell (p := ⟨w.heap.size, 2, none⟩) (Nat.le_refl _) _).setCell (p := ⟨w.heap.size, 3, none⟩) (Nat.le_refl _) _
set_option maxRecDepth 100000 in
set_option maxHeartbeats 1000000 in
theorem clinkOf_any (s : List UInt8) (w : World) (hs : s.length ≤ 1000000) (E : Env w) :
    Calls Tryz.prog 39 #[.string (str s)] w fun e w' => e = .returned (clkRes s) ∧ Below w.heap.size w w' := by
  have E0 := Lib.hid E
  clear E
  by_cases h5 : (splitOn 32 s).length = 5
  · obtain ⟨x0, x1, x2, x3, x4, hx⟩ := five_of h5
    have hlen : ∀ x ∈ splitOn 32 s, x.length ≤ 1000000 := fun x hx => Nat.le_trans ((splitOn_len 32 s).2 x hx) hs
    rw [hx] at hlen
    have HLX := Lib.hid hlen
    have HR : Hid (clkRes s = match (if linkText (numC x1, numC x2, numC x3, numC x4) = s then some (numC x1, numC x2, numC x3, numC x4) else none) with
      | some l => .tuple #[lkV l, .int .i64 0]
      | none => .tuple #[lkV (0, 0, 0, 0), .int .i64 4]) := Lib.hid (by unfold clkRes linkC; rw [linkW_five hx]; rfl)
    have HS := Lib.hid (fun W hb => csplit_five s x0 x1 x2 x3 x4 W hs (E0.out.here hb) hx)
    have i1 := numC_in x1
    have i2 := numC_in x2
    have i3 := numC_in x3
    have i4 := numC_in x4
    have HN : Hid (In4 (numC x1, numC x2, numC x3, numC x4)) := Lib.hid ⟨i1, i2, i3, i4⟩
    clear h5 hx hlen i1 i2 i3 i4
    go_enter Tryz.func39, Tryz.ntmps39
    go_wp2_with fail
    refine (HS.out _ ((Below.refl _ _).alloc (Nat.le_refl _) _)).mono ?_
    rintro e w1 ⟨b, rfl, ⟨hbl, g1, g2, g3, g4⟩, hb1⟩
    have HZ : Hid (Whole w1 w.heap.size 63 #[.int .i64 0, .int .i64 0, .int .i64 0, .int .i64 0]) := Lib.hid ((Whole.new w 63 #[.int .i64 0, .int .i64 0, .int .i64 0, .int .i64 0]).here hb1)
    have HB1 : Hid (Below w.heap.size w w1) := Lib.hid (((Below.refl _ _).alloc (Nat.le_refl _) _).trans (hb1.mono (by simp)))
    have E1 := Lib.hid (E0.out.here HB1.out)
    clear hb1
    go_upto_region 4 with fail
    refine wp_region_ext_alloc 17 ?aE _ 63 #[.int .i64 0, .int .i64 0, .int .i64 0, .int .i64 0] (by kernel_rfl) (by kernel_rfl) rfl rfl (fun a w => by rfl) ?hq ?ht
    case hq =>
      intro U
      simp only [List.take_succ_cons, List.take_zero]
      repeat (go_big_quiet_step (first | (go_at_call 87; exact ExtU.call (cnum_any _ _ (HLX.out _ (by simp)) (E1.out.here (ExtU.below _))))))
      refine wpQuiet_nil ?_
      rfl
    case ht =>
      intro p x hp hpx
      simp only [List.drop_succ_cons, List.drop_zero]
      generalize numC x1 = m1 at *
      generalize numC x2 = m2 at *
      generalize numC x3 = m3 at *
      generalize numC x4 = m4 at *
      have HPX := Lib.hid hpx
      have f0 : x.w.frozen? ⟨p, 0, none⟩ = false := hpx.frozen 0
      have f1 : x.w.frozen? ⟨p, 1, none⟩ = false := hpx.frozen 1
      have f2 : x.w.frozen? ⟨p, 2, none⟩ = false := hpx.frozen 2
      have f3 : x.w.frozen? ⟨p, 3, none⟩ = false := hpx.frozen 3
      have c0 : x.w.cell? ⟨p, 0, none⟩ = some (.int .i64 0) := hpx.cell 0
      have c1 : x.w.cell? ⟨p, 1, none⟩ = some (.int .i64 0) := hpx.cell 1
      have c2 : x.w.cell? ⟨p, 2, none⟩ = some (.int .i64 0) := hpx.cell 2
      have c3 : x.w.cell? ⟨p, 3, none⟩ = some (.int .i64 0) := hpx.cell 3
      clear hpx
      go_wp2_with fail
      clear f0 f1 f2 f3 c0 c1 c2 c3
      obtain ⟨W3, hW3⟩ : ∃ W3, (((x.w.setCell ⟨p, 0, none⟩ (.int .i64 m1)).setCell ⟨p, 1, none⟩ (.int .i64 m2)).setCell ⟨p, 2, none⟩ (.int .i64 m3)).setCell ⟨p, 3, none⟩ (.int .i64 m4) = W3 := ⟨_, rfl⟩
      rw [hW3]
      have hpw : w.heap.size ≠ p := by have := HZ.out.lt; omega
      have H3 : Hid (Whole W3 p 63 #[.int .i64 m1, .int .i64 m2, .int .i64 m3, .int .i64 m4] ∧ Whole W3 w.heap.size 63 #[.int .i64 0, .int .i64 0, .int .i64 0, .int .i64 0] ∧ Below w.heap.size w W3) := Lib.hid (by
        rw [← hW3]
        refine ⟨(((HPX.out.set 0 _).set 1 _).set 2 _).set 3 _, ((((HZ.out.here x.below).far (p := ⟨p, 0, none⟩) hpw _).far (p := ⟨p, 1, none⟩) hpw _).far (p := ⟨p, 2, none⟩) hpw _).far (p := ⟨p, 3, none⟩) hpw _, ?_⟩
        have hB := HB1.out.trans (x.below.mono HB1.out.size)
        have hs : w.heap.size ≤ p := by have := HB1.out.size; omega
        exact (((hB.setCell (p := ⟨p, 0, none⟩) hs _).setCell (p := ⟨p, 1, none⟩) hs _).setCell (p := ⟨p, 2, none⟩) hs _).setCell (p := ⟨p, 3, none⟩) hs _)
      clear hW3 HPX HZ
      by_cases he : linkText (m1, m2, m3, m4) = s
      · have HE := str_eq_true he
        have HE2 : (!(str (linkText (m1, m2, m3, m4))).toList == (str s).toList) = false := by rw [HE]; rfl
        clear HE
        have HR := Lib.hid (HR.out.trans (by first | rw [if_pos he] | rw [if_neg he]))
        clear he
        refine (clinkText_any (m1, m2, m3, m4) _ HN.out (E0.out.here H3.out.2.2)).mono ?_
        rintro e w4 ⟨rfl, hb4⟩
        have hp4 := H3.out.1.here hb4
        have hr4 := H3.out.2.1.here hb4
        have hb4' := H3.out.2.2.trans (hb4.mono H3.out.2.2.size)
        have c0 : w4.cell? ⟨p, 0, none⟩ = some (.int .i64 m1) := hp4.cell 0
        have c1 : w4.cell? ⟨p, 1, none⟩ = some (.int .i64 m2) := hp4.cell 1
        have c2 : w4.cell? ⟨p, 2, none⟩ = some (.int .i64 m3) := hp4.cell 2
        have c3 : w4.cell? ⟨p, 3, none⟩ = some (.int .i64 m4) := hp4.cell 3
        have z0 : w4.cell? ⟨w.heap.size, 0, none⟩ = some (.int .i64 0) := hr4.cell 0
        have z1 : w4.cell? ⟨w.heap.size, 1, none⟩ = some (.int .i64 0) := hr4.cell 1
        have z2 : w4.cell? ⟨w.heap.size, 2, none⟩ = some (.int .i64 0) := hr4.cell 2
        have z3 : w4.cell? ⟨w.heap.size, 3, none⟩ = some (.int .i64 0) := hr4.cell 3
        have f0 : w4.frozen? ⟨w.heap.size, 0, none⟩ = false := hr4.frozen 0
        have f1 : w4.frozen? ⟨w.heap.size, 1, none⟩ = false := hr4.frozen 1
        have f2 : w4.frozen? ⟨w.heap.size, 2, none⟩ = false := hr4.frozen 2
        have f3 : w4.frozen? ⟨w.heap.size, 3, none⟩ = false := hr4.frozen 3
        have hlt4 : w.heap.size < w4.heap.size := hr4.lt
        have HB4 := Lib.hid hb4'
        clear hp4 hr4 hb4' hb4
        go_wp2
        exact bodyPost_ret (v := .tuple #[lkV (m1, m2, m3, m4), .int .i64 0]) (by simp [results, Tryz.results39, go_sem, z0, z1, z2, z3]) rfl ⟨by rw [HR.out], set4_below HB4.out _ _ _ _⟩
      · have HE := str_eq_false he
        have HE2 : (!(str (linkText (m1, m2, m3, m4))).toList == (str s).toList) = true := by rw [HE]; rfl
        clear HE
        have HR := Lib.hid (HR.out.trans (by first | rw [if_pos he] | rw [if_neg he]))
        clear he
        refine (clinkText_any (m1, m2, m3, m4) _ HN.out (E0.out.here H3.out.2.2)).mono ?_
        rintro e w4 ⟨rfl, hb4⟩
        have hp4 := H3.out.1.here hb4
        have hr4 := H3.out.2.1.here hb4
        have hb4' := H3.out.2.2.trans (hb4.mono H3.out.2.2.size)
        have c0 : w4.cell? ⟨p, 0, none⟩ = some (.int .i64 m1) := hp4.cell 0
        have c1 : w4.cell? ⟨p, 1, none⟩ = some (.int .i64 m2) := hp4.cell 1
        have c2 : w4.cell? ⟨p, 2, none⟩ = some (.int .i64 m3) := hp4.cell 2
        have c3 : w4.cell? ⟨p, 3, none⟩ = some (.int .i64 m4) := hp4.cell 3
        have z0 : w4.cell? ⟨w.heap.size, 0, none⟩ = some (.int .i64 0) := hr4.cell 0
        have z1 : w4.cell? ⟨w.heap.size, 1, none⟩ = some (.int .i64 0) := hr4.cell 1
        have z2 : w4.cell? ⟨w.heap.size, 2, none⟩ = some (.int .i64 0) := hr4.cell 2
        have z3 : w4.cell? ⟨w.heap.size, 3, none⟩ = some (.int .i64 0) := hr4.cell 3
        have f0 : w4.frozen? ⟨w.heap.size, 0, none⟩ = false := hr4.frozen 0
        have f1 : w4.frozen? ⟨w.heap.size, 1, none⟩ = false := hr4.frozen 1
        have f2 : w4.frozen? ⟨w.heap.size, 2, none⟩ = false := hr4.frozen 2
        have f3 : w4.frozen? ⟨w.heap.size, 3, none⟩ = false := hr4.frozen 3
        have hlt4 : w.heap.size < w4.heap.size := hr4.lt
        have HB4 := Lib.hid hb4'
        clear hp4 hr4 hb4' hb4
        go_wp2
        exact bodyPost_ret (v := .tuple #[lkV (0, 0, 0, 0), .int .i64 4]) (by simp [results, Tryz.results39, go_sem, z0, z1, z2, z3]) rfl ⟨by rw [HR.out], set4_below HB4.out _ _ _ _⟩
  · have HR : Hid (clkRes s = .tuple #[lkV (0, 0, 0, 0), .int .i64 4]) := Lib.hid (by unfold clkRes linkC; rw [linkW_other h5])
    have HS := Lib.hid (fun W hb => csplit_len s W hs (E0.out.here hb))
    have hn := (splitOn_len 32 s).1
    have d5 : (((splitOn 32 s).length : Int) != 5) = true := by simp; omega
    generalize (splitOn 32 s).length = n at *
    clear h5
    go_enter Tryz.func39, Tryz.ntmps39
    go_wp2_with fail
    refine (HS.out _ ((Below.refl _ _).alloc (Nat.le_refl _) _)).mono ?_
    rintro e w1 ⟨b, rfl, hb1⟩
    have hz1 := (Whole.new w 63 #[.int .i64 0, .int .i64 0, .int .i64 0, .int .i64 0]).here hb1
    have HB4 : Hid (Below w.heap.size w w1) := Lib.hid (((Below.refl _ _).alloc (Nat.le_refl _) _).trans (hb1.mono (by simp)))
    have z0 : w1.cell? ⟨w.heap.size, 0, none⟩ = some (.int .i64 0) := hz1.cell 0
    have z1 : w1.cell? ⟨w.heap.size, 1, none⟩ = some (.int .i64 0) := hz1.cell 1
    have z2 : w1.cell? ⟨w.heap.size, 2, none⟩ = some (.int .i64 0) := hz1.cell 2
    have z3 : w1.cell? ⟨w.heap.size, 3, none⟩ = some (.int .i64 0) := hz1.cell 3
    have f0 : w1.frozen? ⟨w.heap.size, 0, none⟩ = false := hz1.frozen 0
    have f1 : w1.frozen? ⟨w.heap.size, 1, none⟩ = false := hz1.frozen 1
    have f2 : w1.frozen? ⟨w.heap.size, 2, none⟩ = false := hz1.frozen 2
    have f3 : w1.frozen? ⟨w.heap.size, 3, none⟩ = false := hz1.frozen 3
    have hlt4 : w.heap.size < w1.heap.size := hz1.lt
    clear hz1 hb1
    go_wp2
    exact bodyPost_ret (v := .tuple #[lkV (0, 0, 0, 0), .int .i64 4]) (by simp [results, Tryz.results39, go_sem, z0, z1, z2, z3]) rfl ⟨by rw [HR.out], set4_below HB4.out _ _ _ _⟩
-- the reference's
end Go.Proofs.YtfbangojgjcbcaaGreatDoor
namespace Go.Proofs.YtfbangojgjcbcaaGreatDoor
open Go.RowKit Pl
/-- An act as a value: its bytes are whatever slice. -/
abbrev actV (a : ActP) (bv : Value) : Value := .agg #[.int .i64 a.kind, .int .i64 a.node, .int .i64 a.port, .int .i64 a.cost, .int .i64 a.n, .bool a.up, .int .u8 (a.by_.toNat : Int), .bool a.unread, bv]
def bareA (a : ActP) : ActP := match a.kind with
  | 1 => { kind := 1, node := a.node }
  | 2 => { kind := 2, n := a.n }
  | 3 => { kind := 3, n := a.n }
  | 4 => { kind := 4, n := a.n }
  | 5 => { kind := 5, node := a.node, port := a.port, cost := a.cost }
  | 6 => { kind := 6, n := a.n, up := a.up }
  | 7 => { kind := 7, node := a.node }
  | 8 => { kind := 8, node := a.node, n := a.n, by_ := a.by_, unread := a.unread }
  | 9 => { kind := 9, node := a.node, bytes := a.bytes }
  | k => { kind := k }
def bareV (a : ActP) (bv : Value) : Value := if a.kind = 9 then bv else .slice none 0 0
def K9 (a : ActP) : Prop := 1 ≤ a.kind ∧ a.kind ≤ 9
theorem K9.cases {a : ActP} (h : K9 a) : a.kind = 1 ∨ a.kind = 2 ∨ a.kind = 3 ∨ a.kind = 4 ∨ a.kind = 5 ∨ a.kind = 6 ∨ a.kind = 7 ∨ a.kind = 8 ∨ a.kind = 9 := by
  obtain ⟨h0, h1⟩ := h
  omega
theorem Bs.bare {w : World} {a : ActP} {bv : Value} (h : Bs w bv a.bytes) (hk : K9 a) : Bs w (bareV a bv) (bareA a).bytes := by
  rcases hk.cases with e | e | e | e | e | e | e | e | e <;> simp only [bareV, bareA, e] <;> first | exact Bs.nil w | exact h
set_option maxRecDepth 100000 in
set_option maxHeartbeats 4000000 in
theorem bare_any (a : ActP) (bv : Value) (w : World) (hk : K9 a) (h : Bs w bv a.bytes) :
    Calls Tryz.prog 77 #[actV a bv] w fun e w' => e = .returned (actV (bareA a) (bareV a bv)) ∧ Below w.heap.size w w' := by
  obtain ⟨k, node, port, cost, n, up, by_, unread, bytes⟩ := a
  obtain ⟨A, c, rfl, -⟩ := h
  have hs2 : w.heap.size < w.heap.size + 1 + 1 := by omega
  have hs3 : w.heap.size + 1 < w.heap.size + 1 + 1 + 1 := by omega
  rcases hk.cases with e | e | e | e | e | e | e | e | e <;> simp only at e <;> subst e
  · go_enter Tryz.func77, Tryz.ntmps77
    go_wp2
    exact bodyPost_ret (v := .agg #[.int .i64 1, .int .i64 node, .int .i64 0, .int .i64 0, .int .i64 0, .bool false, .int .u8 0, .bool false, .slice none 0 0]) (by simp [results, Tryz.results77, go_sem]) rfl ⟨rfl, (by repeat (first | exact Below.refl _ _ | apply Below.drew | apply Go.below_drewN | apply bel_alloc | apply Ext.lift | apply bel_set0 | apply bel_set))⟩
  · go_enter Tryz.func77, Tryz.ntmps77
    go_wp2
    exact bodyPost_ret (v := .agg #[.int .i64 2, .int .i64 0, .int .i64 0, .int .i64 0, .int .i64 n, .bool false, .int .u8 0, .bool false, .slice none 0 0]) (by simp [results, Tryz.results77, go_sem]) rfl ⟨rfl, (by repeat (first | exact Below.refl _ _ | apply Below.drew | apply Go.below_drewN | apply bel_alloc | apply Ext.lift | apply bel_set0 | apply bel_set))⟩
  · go_enter Tryz.func77, Tryz.ntmps77
    go_wp2
    exact bodyPost_ret (v := .agg #[.int .i64 3, .int .i64 0, .int .i64 0, .int .i64 0, .int .i64 n, .bool false, .int .u8 0, .bool false, .slice none 0 0]) (by simp [results, Tryz.results77, go_sem]) rfl ⟨rfl, (by repeat (first | exact Below.refl _ _ | apply Below.drew | apply Go.below_drewN | apply bel_alloc | apply Ext.lift | apply bel_set0 | apply bel_set))⟩
  · go_enter Tryz.func77, Tryz.ntmps77
    go_wp2
    exact bodyPost_ret (v := .agg #[.int .i64 4, .int .i64 0, .int .i64 0, .int .i64 0, .int .i64 n, .bool false, .int .u8 0, .bool false, .slice none 0 0]) (by simp [results, Tryz.results77, go_sem]) rfl ⟨rfl, (by repeat (first | exact Below.refl _ _ | apply Below.drew | apply Go.below_drewN | apply bel_alloc | apply Ext.lift | apply bel_set0 | apply bel_set))⟩
  · go_enter Tryz.func77, Tryz.ntmps77
    go_wp2
    go_region_held3 (fun w' => w'.cell? ⟨w.heap.size, 1, none⟩ = some (.int .i64 node) ∧ w'.cell? ⟨w.heap.size, 2, none⟩ = some (.int .i64 port) ∧ w'.cell? ⟨w.heap.size, 3, none⟩ = some (.int .i64 cost)) (go_keep) (fail)
    all_goals
      go_wp2
      exact bodyPost_ret (v := .agg #[.int .i64 5, .int .i64 node, .int .i64 port, .int .i64 cost, .int .i64 0, .bool false, .int .u8 0, .bool false, .slice none 0 0]) (by simp [results, Tryz.results77, go_sem]) rfl ⟨rfl, (by repeat (first | assumption | exact Below.refl _ _ | apply Below.drew | apply Go.below_drewN | apply bel_alloc | apply Ext.lift | refine bel_setge ?_ (by omega) _ _))⟩
  · go_enter Tryz.func77, Tryz.ntmps77
    go_wp2
    go_region_held3 (fun w' => w'.cell? ⟨w.heap.size, 4, none⟩ = some (.int .i64 n) ∧ w'.cell? ⟨w.heap.size, 5, none⟩ = some (.bool up)) (go_keep) (fail)
    all_goals
      go_wp2
      exact bodyPost_ret (v := .agg #[.int .i64 6, .int .i64 0, .int .i64 0, .int .i64 0, .int .i64 n, .bool up, .int .u8 0, .bool false, .slice none 0 0]) (by simp [results, Tryz.results77, go_sem]) rfl ⟨rfl, (by repeat (first | assumption | exact Below.refl _ _ | apply Below.drew | apply Go.below_drewN | apply bel_alloc | apply Ext.lift | refine bel_setge ?_ (by omega) _ _))⟩
  · go_enter Tryz.func77, Tryz.ntmps77
    go_wp2
    exact bodyPost_ret (v := .agg #[.int .i64 7, .int .i64 node, .int .i64 0, .int .i64 0, .int .i64 0, .bool false, .int .u8 0, .bool false, .slice none 0 0]) (by simp [results, Tryz.results77, go_sem]) rfl ⟨rfl, (by repeat (first | exact Below.refl _ _ | apply Below.drew | apply Go.below_drewN | apply bel_alloc | apply Ext.lift | apply bel_set0 | apply bel_set))⟩
  · go_enter Tryz.func77, Tryz.ntmps77
    go_wp2
    go_region_held3 (fun w' => w'.cell? ⟨w.heap.size, 1, none⟩ = some (.int .i64 node) ∧ w'.cell? ⟨w.heap.size, 4, none⟩ = some (.int .i64 n) ∧ w'.cell? ⟨w.heap.size, 6, none⟩ = some (.int .u8 (by_.toNat : Int)) ∧ w'.cell? ⟨w.heap.size, 7, none⟩ = some (.bool unread)) (go_keep) (fail)
    all_goals
      go_wp2
      exact bodyPost_ret (v := .agg #[.int .i64 8, .int .i64 node, .int .i64 0, .int .i64 0, .int .i64 n, .bool false, .int .u8 (by_.toNat : Int), .bool unread, .slice none 0 0]) (by simp [results, Tryz.results77, go_sem]) rfl ⟨rfl, (by repeat (first | assumption | exact Below.refl _ _ | apply Below.drew | apply Go.below_drewN | apply bel_alloc | apply Ext.lift | refine bel_setge ?_ (by omega) _ _))⟩
  · go_enter Tryz.func77, Tryz.ntmps77
    go_wp2
    go_region_held3 (fun w' => w'.cell? ⟨w.heap.size, 1, none⟩ = some (.int .i64 node) ∧ w'.cell? ⟨w.heap.size, 8, none⟩ = some (.slice A bytes.length c)) (go_keep) (fail)
    all_goals
      go_wp2
      exact bodyPost_ret (v := .agg #[.int .i64 9, .int .i64 node, .int .i64 0, .int .i64 0, .int .i64 0, .bool false, .int .u8 0, .bool false, .slice A bytes.length c]) (by simp [results, Tryz.results77, go_sem]) rfl ⟨rfl, (by repeat (first | assumption | exact Below.refl _ _ | apply Below.drew | apply Go.below_drewN | apply bel_alloc | apply Ext.lift | refine bel_setge ?_ (by omega) _ _))⟩
end Go.Proofs.YtfbangojgjcbcaaGreatDoor
namespace Go.Proofs.YtfbangojgjcbcaaGreatDoor
open Go.RowKit Pl
theorem takeB_ne {ps qs : List UInt8} {j : Nat} {u v : UInt8} (hu : ps[j]? = some u) (hv : qs[j]? = some v) (h : u ≠ v) : decide (ps = qs) = false :=
  decide_eq_false fun e => h (by subst e; rw [hu] at hv; injection hv)
theorem takeB_next {ps qs : List UInt8} {j : Nat} {u : UInt8} (hu : ps[j]? = some u) (hv : qs[j]? = some u) (h : ps.take j = qs.take j) : ps.take (j + 1) = qs.take (j + 1) := by
  rw [List.take_add_one, List.take_add_one, hu, hv, h]
theorem takeB_all {ps qs : List UInt8} (hl : ps.length = qs.length) (h : ps.take ps.length = qs.take ps.length) : decide (ps = qs) = true := by
  rw [List.take_length] at h
  rw [hl, List.take_length] at h
  exact decide_eq_true h
theorem Bs.at {w : World} {A : Option Addr} {k : Nat} {l : List UInt8} (h : Bs w (.slice A l.length k) l) {j : Nat} {u : UInt8} (hu : l[j]? = some u) :
    ∃ b o, A = some ⟨b, o, none⟩ ∧ b < w.heap.size ∧ l.length ≤ k ∧ w.cell? ⟨b, o + j, none⟩ = some (.int .u8 (u.toNat : Int)) := by
  obtain ⟨A', c, hv, hc, _, hA⟩ := h
  injection hv with h1 h2 h3
  subst h1; subst h3
  have hj : j < l.length := (List.getElem?_eq_some_iff.1 hu).1
  obtain ⟨b, o, rfl, hb, hcell⟩ := hA (by omega)
  exact ⟨b, o, rfl, hb, hc, hcell j _ (by simp [cellsB, hu])⟩
set_option maxRecDepth 100000 in
set_option maxHeartbeats 2000000 in
theorem equalB_any (v v' : Value) (ps qs : List UInt8) (w : World) (h : Bs w v ps) (h' : Bs w v' qs) (hl : ps.length ≤ 1000000000) :
    Calls Tryz.prog 140 #[v, v'] w fun e w' => e = .returned (.bool (decide (ps = qs))) ∧ Below w.heap.size w w' := by
  have HP := Lib.hid h
  have HQ := Lib.hid h'
  obtain ⟨A, k1, rfl, _⟩ := h
  obtain ⟨B, k2, rfl, _⟩ := h'
  by_cases hn : ps.length = qs.length
  · have HN := Lib.hid hn
    have d1 : ((ps.length : Int) != (qs.length : Int)) = false := by simp [hn]
    clear hn
    go_enter Tryz.func140, Tryz.ntmps140
    go_wp2
    go_loopw [13] (fun i wr => ∃ j : Nat, j ≤ ps.length ∧ i = .int .i64 j ∧ Hid (ps.take j = qs.take j) ∧ Hid (Below w.heap.size w wr)) (fun i _ => ps.length - (intOf i).toNat)
    case atStart => exact ⟨0, Nat.zero_le _, rfl, Lib.hid rfl, Lib.hid (Below.refl _ _)⟩
    case round =>
      obtain ⟨j, hj, rfl, HT, HB⟩ := hrel
      by_cases hlt : j < ps.length
      · have hlt' : j < qs.length := by have := HN.out; omega
        obtain ⟨u, hu⟩ : ∃ u, ps[j]? = some u := ⟨_, List.getElem?_eq_getElem hlt⟩
        obtain ⟨v, hv⟩ : ∃ u, qs[j]? = some u := ⟨_, List.getElem?_eq_getElem hlt'⟩
        obtain ⟨b1, o1, rfl, hb1, -, p0⟩ := (HP.out.below HB.out).at hu
        obtain ⟨b2, o2, rfl, hb2, -, q0⟩ := (HQ.out.below HB.out).at hv
        have HU := Lib.hid hu
        have HV := Lib.hid hv
        clear hu hv
        by_cases e1 : u = v
        · subst e1
          have HT2 := Lib.hid (takeB_next HU.out HV.out HT.out)
          generalize (u.toNat : Int) = x at *
          go_wp2
          go_region
          go_wp2
          go_roundw
          case rel => exact ⟨j + 1, by omega, by go_num, HT2, Lib.hid HB.out.drew⟩
          case measure => simp [intOf]; omega
        · have HF := Lib.hid (takeB_ne HU.out HV.out e1)
          have d2 : ((u.toNat : Int) == (v.toNat : Int)) = false := by
            rw [beq_eq_false_iff_ne]
            intro h
            exact e1 (UInt8.toNat_inj.1 (by omega))
          generalize (u.toNat : Int) = x at *
          generalize (v.toNat : Int) = y at *
          clear e1
          go_wp2
          go_region
          go_wp2
          go_ret
          exact ⟨by rw [HF.out]; rfl, HB.out.drew⟩
      · obtain rfl : j = ps.length := by omega
        have HF := Lib.hid (takeB_all HN.out HT.out)
        go_wp2
        go_ret
        exact ⟨by rw [HF.out]; rfl, HB.out⟩
  · have d1 : ((ps.length : Int) != (qs.length : Int)) = true := by simp; omega
    have HF : Hid (decide (ps = qs) = false) := Lib.hid (decide_eq_false fun e => hn (by rw [e]))
    clear hn
    go_enter Tryz.func140, Tryz.ntmps140
    go_wp2
    go_ret
    exact ⟨by rw [HF.out]; rfl, Below.refl _ _⟩
-- printed by actb.py
/-- Are two acts the same? -/
def sameA (a b : ActP) : Bool := decide (a = b)
set_option maxRecDepth 100000 in
set_option maxHeartbeats 4000000 in
theorem csameAct_any (a b : ActP) (va vb : Value) (w : World) (h : Bs w va a.bytes) (h' : Bs w vb b.bytes) (hl : a.bytes.length ≤ 1000000000) :
    Calls Tryz.prog 76 #[actV a va, actV b vb] w fun e w' => e = .returned (.bool (sameA a b)) ∧ Below w.heap.size w w' := by
  have HEQ := Lib.hid (fun W (hb : Below w.heap.size w W) => equalB_any va vb a.bytes b.bytes W (h.below hb) (h'.below hb) hl)
  obtain ⟨A, c, rfl, -⟩ := h
  obtain ⟨B, c', rfl, -⟩ := h'
  obtain ⟨k, node, port, cost, n, up, by_, unread, bytes⟩ := a
  obtain ⟨k', node', port', cost', n', up', by_', unread', bytes'⟩ := b
  simp only at HEQ hl ⊢
  obtain ⟨W0, hW0⟩ : ∃ W0, (w.alloc (.cells #[.int .i64 k, .int .i64 node, .int .i64 port, .int .i64 cost, .int .i64 n, .bool up, .int .u8 (by_.toNat : Int), .bool unread, .slice A bytes.length c] 51)).alloc (.cells #[.int .i64 k', .int .i64 node', .int .i64 port', .int .i64 cost', .int .i64 n', .bool up', .int .u8 (by_'.toNat : Int), .bool unread', .slice B bytes'.length c'] 51) = W0 := ⟨_, rfl⟩
  have HB0 : Hid (Below w.heap.size w W0) := Lib.hid (by rw [← hW0]; exact ((Below.refl _ _).alloc (Nat.le_refl _) _).alloc (by simp) _)
  have HX1 : Whole W0 w.heap.size 51 #[.int .i64 k, .int .i64 node, .int .i64 port, .int .i64 cost, .int .i64 n, .bool up, .int .u8 (by_.toNat : Int), .bool unread, .slice A bytes.length c] := by rw [← hW0]; exact (Whole.new w _ _).alloc _
  have HX2 : Whole W0 (w.heap.size + 1) 51 #[.int .i64 k', .int .i64 node', .int .i64 port', .int .i64 cost', .int .i64 n', .bool up', .int .u8 (by_'.toNat : Int), .bool unread', .slice B bytes'.length c'] := by
    rw [← hW0]
    have := Whole.new (w.alloc (.cells #[.int .i64 k, .int .i64 node, .int .i64 port, .int .i64 cost, .int .i64 n, .bool up, .int .u8 (by_.toNat : Int), .bool unread, .slice A bytes.length c] 51)) 51 #[.int .i64 k', .int .i64 node', .int .i64 port', .int .i64 cost', .int .i64 n', .bool up', .int .u8 (by_'.toNat : Int), .bool unread', .slice B bytes'.length c']
    simpa using this
  have hlt1 := HX1.lt
  have hlt2 := HX2.lt
  have y0 : W0.cell? ⟨w.heap.size, 0, none⟩ = some (.int .i64 k) := HX1.cell 0
  have z0 : W0.cell? ⟨w.heap.size + 1, 0, none⟩ = some (.int .i64 k') := HX2.cell 0
  have y1 : W0.cell? ⟨w.heap.size, 1, none⟩ = some (.int .i64 node) := HX1.cell 1
  have z1 : W0.cell? ⟨w.heap.size + 1, 1, none⟩ = some (.int .i64 node') := HX2.cell 1
  have y2 : W0.cell? ⟨w.heap.size, 2, none⟩ = some (.int .i64 port) := HX1.cell 2
  have z2 : W0.cell? ⟨w.heap.size + 1, 2, none⟩ = some (.int .i64 port') := HX2.cell 2
  have y3 : W0.cell? ⟨w.heap.size, 3, none⟩ = some (.int .i64 cost) := HX1.cell 3
  have z3 : W0.cell? ⟨w.heap.size + 1, 3, none⟩ = some (.int .i64 cost') := HX2.cell 3
  have y4 : W0.cell? ⟨w.heap.size, 4, none⟩ = some (.int .i64 n) := HX1.cell 4
  have z4 : W0.cell? ⟨w.heap.size + 1, 4, none⟩ = some (.int .i64 n') := HX2.cell 4
  have y5 : W0.cell? ⟨w.heap.size, 5, none⟩ = some (.bool up) := HX1.cell 5
  have z5 : W0.cell? ⟨w.heap.size + 1, 5, none⟩ = some (.bool up') := HX2.cell 5
  have y6 : W0.cell? ⟨w.heap.size, 6, none⟩ = some (.int .u8 (by_.toNat : Int)) := HX1.cell 6
  have z6 : W0.cell? ⟨w.heap.size + 1, 6, none⟩ = some (.int .u8 (by_'.toNat : Int)) := HX2.cell 6
  have y7 : W0.cell? ⟨w.heap.size, 7, none⟩ = some (.bool unread) := HX1.cell 7
  have z7 : W0.cell? ⟨w.heap.size + 1, 7, none⟩ = some (.bool unread') := HX2.cell 7
  have y8 : W0.cell? ⟨w.heap.size, 8, none⟩ = some (.slice A bytes.length c) := HX1.cell 8
  have z8 : W0.cell? ⟨w.heap.size + 1, 8, none⟩ = some (.slice B bytes'.length c') := HX2.cell 8
  have HW0 := Lib.hid hW0
  clear hW0 HX1 HX2
  by_cases e0 : k = k'
  · subst e0
    by_cases e1 : node = node'
    · subst e1
      by_cases e2 : port = port'
      · subst e2
        by_cases e3 : cost = cost'
        · subst e3
          by_cases e4 : n = n'
          · subst e4
            by_cases e5 : up = up'
            · subst e5
              by_cases e6 : by_ = by_'
              · subst e6
                by_cases e7 : unread = unread'
                · subst e7
                  go_enter Tryz.func76, Tryz.ntmps76
                  go_upto_region 1 with fail
                  rw [HW0.out]
                  go_wp2_with fail
                  refine (HEQ.out W0 HB0.out).mono ?_
                  rintro e w' ⟨rfl, hb⟩
                  have HB1 := Lib.hid (HB0.out.trans (hb.mono HB0.out.size))
                  have HS : Hid (sameA ⟨k, node, port, cost, n, up, by_, unread, bytes⟩ ⟨k, node, port, cost, n, up, by_, unread, bytes'⟩ = decide (bytes = bytes')) := Lib.hid (by simp [sameA])
                  clear hb
                  go_wp2
                  go_ret
                  exact ⟨by rw [HS.out]; rfl, HB1.out⟩
                · have d : (unread == unread') = false := by simpa using e7
                  have HS : Hid (sameA ⟨k, node, port, cost, n, up, by_, unread, bytes⟩ ⟨k, node, port, cost, n, up, by_, unread', bytes'⟩ = false) := Lib.hid (by simp [sameA, e7])
                  clear e7
                  go_enter Tryz.func76, Tryz.ntmps76
                  go_upto_region 1 with fail
                  rw [HW0.out]
                  go_wp2
                  go_ret
                  exact ⟨by rw [HS.out]; rfl, HB0.out⟩
              · have d : ((by_.toNat : Int) == (by_'.toNat : Int)) = false := by
                  rw [beq_eq_false_iff_ne]
                  intro h
                  exact e6 (UInt8.toNat_inj.1 (by omega))
                have HS : Hid (sameA ⟨k, node, port, cost, n, up, by_, unread, bytes⟩ ⟨k, node, port, cost, n, up, by_', unread', bytes'⟩ = false) := Lib.hid (by simp [sameA, e6])
                clear e6
                go_enter Tryz.func76, Tryz.ntmps76
                go_upto_region 1 with fail
                rw [HW0.out]
                go_wp2
                go_ret
                exact ⟨by rw [HS.out]; rfl, HB0.out⟩
            · have d : (up == up') = false := by simpa using e5
              have HS : Hid (sameA ⟨k, node, port, cost, n, up, by_, unread, bytes⟩ ⟨k, node, port, cost, n, up', by_', unread', bytes'⟩ = false) := Lib.hid (by simp [sameA, e5])
              clear e5
              go_enter Tryz.func76, Tryz.ntmps76
              go_upto_region 1 with fail
              rw [HW0.out]
              go_wp2
              go_ret
              exact ⟨by rw [HS.out]; rfl, HB0.out⟩
          · have d : (n == n') = false := by simpa using e4
            have HS : Hid (sameA ⟨k, node, port, cost, n, up, by_, unread, bytes⟩ ⟨k, node, port, cost, n', up', by_', unread', bytes'⟩ = false) := Lib.hid (by simp [sameA, e4])
            clear e4
            go_enter Tryz.func76, Tryz.ntmps76
            go_upto_region 1 with fail
            rw [HW0.out]
            go_wp2
            go_ret
            exact ⟨by rw [HS.out]; rfl, HB0.out⟩
        · have d : (cost == cost') = false := by simpa using e3
          have HS : Hid (sameA ⟨k, node, port, cost, n, up, by_, unread, bytes⟩ ⟨k, node, port, cost', n', up', by_', unread', bytes'⟩ = false) := Lib.hid (by simp [sameA, e3])
          clear e3
          go_enter Tryz.func76, Tryz.ntmps76
          go_upto_region 1 with fail
          rw [HW0.out]
          go_wp2
          go_ret
          exact ⟨by rw [HS.out]; rfl, HB0.out⟩
      · have d : (port == port') = false := by simpa using e2
        have HS : Hid (sameA ⟨k, node, port, cost, n, up, by_, unread, bytes⟩ ⟨k, node, port', cost', n', up', by_', unread', bytes'⟩ = false) := Lib.hid (by simp [sameA, e2])
        clear e2
        go_enter Tryz.func76, Tryz.ntmps76
        go_upto_region 1 with fail
        rw [HW0.out]
        go_wp2
        go_ret
        exact ⟨by rw [HS.out]; rfl, HB0.out⟩
    · have d : (node == node') = false := by simpa using e1
      have HS : Hid (sameA ⟨k, node, port, cost, n, up, by_, unread, bytes⟩ ⟨k, node', port', cost', n', up', by_', unread', bytes'⟩ = false) := Lib.hid (by simp [sameA, e1])
      clear e1
      go_enter Tryz.func76, Tryz.ntmps76
      go_upto_region 1 with fail
      rw [HW0.out]
      go_wp2
      go_ret
      exact ⟨by rw [HS.out]; rfl, HB0.out⟩
  · have d : (k == k') = false := by simpa using e0
    have HS : Hid (sameA ⟨k, node, port, cost, n, up, by_, unread, bytes⟩ ⟨k', node', port', cost', n', up', by_', unread', bytes'⟩ = false) := Lib.hid (by simp [sameA, e0])
    clear e0
    go_enter Tryz.func76, Tryz.ntmps76
    go_upto_region 1 with fail
    rw [HW0.out]
    go_wp2
    go_ret
    exact ⟨by rw [HS.out]; rfl, HB0.out⟩
end Go.Proofs.YtfbangojgjcbcaaGreatDoor
namespace Go.Proofs.YtfbangojgjcbcaaGreatDoor
open Go.RowKit Pl
theorem same_bare {a : ActP} (hk : K9 a) : sameA a (bareA a) = bareOk a := by
  obtain ⟨k, node, port, cost, n, up, by_, unread, bytes⟩ := a
  rcases hk.cases with e | e | e | e | e | e | e | e | e <;> simp only at e <;> subst e <;> rw [Bool.eq_iff_iff] <;> simp [sameA, bareA, bareOk, partsA] <;> grind
set_option maxRecDepth 100000 in
set_option maxHeartbeats 4000000 in
theorem cmayAct_any (a : ActP) (bv : Value) (w : World) (h : Bs w bv a.bytes) (hl : a.bytes.length ≤ 1000000000) :
    Calls Tryz.prog 31 #[actV a bv] w fun e w' => e = .returned (.bool (mayA a)) ∧ Below w.heap.size w w' := by
  have HB := Lib.hid h
  have HBV := Lib.hid h
  obtain ⟨A, c, rfl, -⟩ := h
  obtain ⟨W0, hW0⟩ : ∃ W0, w.alloc (.cells #[.int .i64 a.kind, .int .i64 a.node, .int .i64 a.port, .int .i64 a.cost, .int .i64 a.n, .bool a.up, .int .u8 (a.by_.toNat : Int), .bool a.unread, .slice A a.bytes.length c] 51) = W0 := ⟨_, rfl⟩
  have HB0 : Hid (Below w.heap.size w W0) := Lib.hid (by rw [← hW0]; exact (Below.refl _ _).alloc (Nat.le_refl _) _)
  have HX : Whole W0 w.heap.size 51 #[.int .i64 a.kind, .int .i64 a.node, .int .i64 a.port, .int .i64 a.cost, .int .i64 a.n, .bool a.up, .int .u8 (a.by_.toNat : Int), .bool a.unread, .slice A a.bytes.length c] := by rw [← hW0]; exact Whole.new w _ _
  have hlt1 := HX.lt
  have y0 : W0.cell? ⟨w.heap.size, 0, none⟩ = some (.int .i64 a.kind) := HX.cell 0
  have y1 : W0.cell? ⟨w.heap.size, 1, none⟩ = some (.int .i64 a.node) := HX.cell 1
  have y2 : W0.cell? ⟨w.heap.size, 2, none⟩ = some (.int .i64 a.port) := HX.cell 2
  have y3 : W0.cell? ⟨w.heap.size, 3, none⟩ = some (.int .i64 a.cost) := HX.cell 3
  have y4 : W0.cell? ⟨w.heap.size, 4, none⟩ = some (.int .i64 a.n) := HX.cell 4
  have y5 : W0.cell? ⟨w.heap.size, 5, none⟩ = some (.bool a.up) := HX.cell 5
  have y6 : W0.cell? ⟨w.heap.size, 6, none⟩ = some (.int .u8 (a.by_.toNat : Int)) := HX.cell 6
  have y7 : W0.cell? ⟨w.heap.size, 7, none⟩ = some (.bool a.unread) := HX.cell 7
  have y8 : W0.cell? ⟨w.heap.size, 8, none⟩ = some (.slice A a.bytes.length c) := HX.cell 8
  have HW0 := Lib.hid hW0
  clear hW0 HX
  by_cases h1 : 1 ≤ a.kind
  · have q1 : decide (1 ≤ a.kind) = true := decide_eq_true h1
    by_cases h9 : a.kind ≤ 9
    · have q9 : decide (a.kind ≤ 9) = true := decide_eq_true h9
      have HK : Hid (K9 a) := Lib.hid ⟨h1, h9⟩
      have HBA : Hid (∀ y : Ext W0, Calls Tryz.prog 77 #[.agg #[.int .i64 a.kind, .int .i64 a.node, .int .i64 a.port, .int .i64 a.cost, .int .i64 a.n, .bool a.up, .int .u8 (a.by_.toNat : Int), .bool a.unread, .slice A a.bytes.length c]] y.w fun e w' => e = .returned (actV (bareA a) (bareV a (.slice A a.bytes.length c))) ∧ Below y.w.heap.size y.w w') :=
        Lib.hid (fun y => bare_any a _ y.w HK.out ((HBV.out.below HB0.out).below y.below))
      have HSA : Hid (∀ y : Ext W0, Calls Tryz.prog 76 #[.agg #[.int .i64 a.kind, .int .i64 a.node, .int .i64 a.port, .int .i64 a.cost, .int .i64 a.n, .bool a.up, .int .u8 (a.by_.toNat : Int), .bool a.unread, .slice A a.bytes.length c], actV (bareA a) (bareV a (.slice A a.bytes.length c))] y.w fun e w' => e = .returned (.bool (bareOk a)) ∧ Below y.w.heap.size y.w w') :=
        Lib.hid (fun y => by
          have hb := (HBV.out.below HB0.out).below y.below
          have := csameAct_any a (bareA a) _ _ y.w hb (hb.bare HK.out) hl
          rw [same_bare HK.out] at this
          exact this)
      have HM : Hid (mayA a = (bareOk a && decide (a.bytes.length ≤ 2048))) := Lib.hid (by unfold mayA; rw [q1, q9]; rfl)
      cases hb : bareOk a with
      | false =>
        rw [hb] at HSA HM
        clear h1 h9 hb
        go_enter Tryz.func31, Tryz.ntmps31
        go_upto_region 1 with fail
        rw [HW0.out]
        refine wp_region_ext (by kernel_rfl) (by kernel_rfl) ?_
        repeat (go_big_quiet_step (first
          | (go_at_call 77; exact Ext.call (HBA.out _))
          | (go_at_call 76; exact Ext.call (HSA.out _))))
        refine wpQuiet_nil ?_
        rintro _ ⟨y, rfl⟩
        go_wp2
        go_ret
        exact ⟨by rw [HM.out]; rfl, HB0.out.trans (y.below.mono HB0.out.size)⟩
      | true =>
        rw [hb] at HSA HM
        clear h1 h9 hb
        go_enter Tryz.func31, Tryz.ntmps31
        go_upto_region 1 with fail
        rw [HW0.out]
        refine wp_region_ext (by kernel_rfl) (by kernel_rfl) ?_
        repeat (go_big_quiet_step (first
          | (go_at_call 77; exact Ext.call (HBA.out _))
          | (go_at_call 76; exact Ext.call (HSA.out _))))
        refine wpQuiet_nil ?_
        rintro _ ⟨y, rfl⟩
        go_wp2
        go_ret
        refine ⟨?_, HB0.out.trans (y.below.mono HB0.out.size)⟩
        rw [HM.out]
        have hd : decide ((a.bytes.length : Int) ≤ 2048) = decide (a.bytes.length ≤ 2048) := decide_eq_decide.2 (by omega)
        show Ending.returned (.bool (decide ((a.bytes.length : Int) ≤ 2048))) = _
        rw [hd]
        rfl
    · have q9 : decide (a.kind ≤ 9) = false := decide_eq_false h9
      have HM : Hid (mayA a = false) := Lib.hid (by unfold mayA; rw [q9]; simp)
      clear h9
      go_enter Tryz.func31, Tryz.ntmps31
      go_upto_region 1 with fail
      rw [HW0.out]
      refine wp_region_ext (by kernel_rfl) (by kernel_rfl) ?_
      repeat (go_big_quiet_step (fail))
      refine wpQuiet_nil ?_
      rintro _ ⟨y, rfl⟩
      go_wp2
      go_ret
      exact ⟨by rw [HM.out]; rfl, HB0.out.trans (y.below.mono HB0.out.size)⟩
  · have q1 : decide (1 ≤ a.kind) = false := decide_eq_false h1
    have HM : Hid (mayA a = false) := Lib.hid (by unfold mayA; rw [q1]; simp)
    clear h1
    go_enter Tryz.func31, Tryz.ntmps31
    go_upto_region 1 with fail
    rw [HW0.out]
    refine wp_region_ext (by kernel_rfl) (by kernel_rfl) ?_
    repeat (go_big_quiet_step (fail))
    refine wpQuiet_nil ?_
    rintro _ ⟨y, rfl⟩
    go_wp2
    go_ret
    exact ⟨by rw [HM.out]; rfl, HB0.out.trans (y.below.mono HB0.out.size)⟩
end Go.Proofs.YtfbangojgjcbcaaGreatDoor
namespace Go.Proofs.YtfbangojgjcbcaaGreatDoor
open Go.RowKit Pl
theorem bl_info : (Tryz.prog.info? 111).map (·.size) = some 2 := by kernel_rfl
theorem bl_lies : liesAt Tryz.prog Tryz.prog.depth 111 (2 / Tryz.prog.cellsOf 111) 0 111 1 = true := by kernel_rfl
set_option maxHeartbeats 1000000 in
set_option maxRecDepth 100000 in
theorem copyCheck_used (b : Nat) (w : World) (h0 : w.cell? ⟨b, 0, none⟩ = some (.pointer (some ⟨b, 0, none⟩))) :
    Calls Tryz.prog 127 #[.pointer (some ⟨b, 0, none⟩)] w fun e w' => e = .returned (.tuple #[]) ∧ w = w' := by
  obtain ⟨j, hj, _⟩ := Option.map_eq_some_iff.1 bl_info
  have hne := Lib.run_neq_ptr_same (P := Tryz.prog) w ⟨b, 0, none⟩ Tryz.underlying109 hj
  go_enter Tryz.func127, Tryz.ntmps127
  go_wp2
  go_end0
  exact ⟨rfl, rfl⟩
set_option maxHeartbeats 1000000 in
set_option maxRecDepth 100000 in
theorem copyCheck_fresh (b : Nat) (w : World) (h0 : w.cell? ⟨b, 0, none⟩ = some (.pointer none)) (hsh : w.shape? b = some (111, 2)) (hfz : w.frozen? ⟨b, 0, none⟩ = false) :
    Calls Tryz.prog 127 #[.pointer (some ⟨b, 0, none⟩)] w fun e w' => e = .returned (.tuple #[]) ∧ w.setCell ⟨b, 0, none⟩ (.pointer (some ⟨b, 0, none⟩)) = w' := by
  obtain ⟨j, hj, hjs⟩ := Option.map_eq_some_iff.1 bl_info
  have hto := Lib.run_to_unsafe (P := Tryz.prog) w ⟨b, 0, none⟩ Tryz.underlying109 Tryz.underlying209 hj (by rw [hjs]; decide) hsh (Nat.zero_lt_succ 1)
  have hfrom := Lib.run_from_unsafe (P := Tryz.prog) w ⟨b, 0, none⟩ Tryz.underlying209 Tryz.underlying109 hj hsh bl_lies
  go_enter Tryz.func127, Tryz.ntmps127
  go_wp2
  rw [run_callFunc_extern Tryz.func161 (by kernel_rfl) (by kernel_rfl) (by kernel_rfl) (e := Extern.AbiNoEscape.same) (by kernel_rfl)]
  rw [Lib.run_noEscape]
  simp only [Result.andThen]
  rw [Oper.upon_value]
  go_wp2
  go_end0
  exact ⟨rfl, rfl⟩
theorem copyCheck_any (B b : Nat) (bs : List Value) (w : World) (h : Lib.IsBuilder 111 5 B b bs w) :
    Calls Tryz.prog 127 #[.pointer (some ⟨b, 0, none⟩)] w fun e w' => e = .returned (.tuple #[]) ∧ (Lib.BuilderAt 111 5 B b (.pointer (some ⟨b, 0, none⟩)) bs w' ∧ Below B w w') := by
  rcases h with h | h
  · refine (copyCheck_fresh b w h.cell0 h.shape h.frozen0).mono ?_
    rintro e w' ⟨rfl, rfl⟩
    exact ⟨rfl, h.used _, (Below.refl B w).setCell (p := ⟨b, 0, none⟩) h.1 _⟩
  · refine (copyCheck_used b w h.cell0).mono ?_
    rintro e w' ⟨rfl, rfl⟩
    exact ⟨rfl, h, Below.refl B _⟩
set_option maxHeartbeats 2000000 in
set_option maxRecDepth 100000 in
theorem writeByte_any (B b : Nat) (l : List UInt8) (c : UInt8) (w : World) (h : Lib.IsBuilder 111 5 B b (cellsB l) w) (hlen : l.length ≤ 100000000) (hBw : B ≤ w.heap.size) :
    Calls Tryz.prog 195 #[.pointer (some ⟨b, 0, none⟩), .int .u8 (c.toNat : Int)] w fun e w' => e = .returned .nilIface ∧ (Lib.IsBuilder 111 5 B b (cellsB (l ++ [c])) w' ∧ Below B w w') := by
  have HC := Lib.hid (copyCheck_any B b (cellsB l) w h)
  go_enter Tryz.func195, Tryz.ntmps195
  go_wp2_with (go_at_call 127; refine HC.out.mono ?_)
  rintro e w1 ⟨rfl, h1, hb1⟩
  obtain ⟨hB, v, hbk, hown, hne⟩ := h1
  have c0 : w1.cell? ⟨b, 0, none⟩ = some (.pointer (some ⟨b, 0, none⟩)) := by rw [Lib.cell_of_heap hbk]; rfl
  have c1 : w1.cell? ⟨b, 1, none⟩ = some v := by rw [Lib.cell_of_heap hbk]; rfl
  have hBs : B ≤ w1.heap.size := by have := hb1.size; omega
  rw [cellsB_length] at hown
  have HO := Lib.hid hown
  have HK := Lib.hid hbk
  clear hbk
  go_wp2_with (at_builtin; refine wpList_push rfl _ _ 37 rfl B 5 info_u8 rfl (by decide) Tryz.underlying37 _ _ _ rfl hown rfl rfl (by omega) hBs ?_)
  intro v' w2 hown' hg
  have hlt : b < w1.heap.size := block_lt_of_cell c0
  have hb2 : w2.heap[b]? = some (.cells #[.pointer (some ⟨b, 0, none⟩), v] 111 (0, 0)) := by
    rw [hg.block b hlt (fun e => hne e.symm)]; exact HK.out
  have d0 : w2.cell? ⟨b, 0, none⟩ = some (.pointer (some ⟨b, 0, none⟩)) := by rw [Lib.cell_of_heap hb2]; rfl
  have d1 : w2.cell? ⟨b, 1, none⟩ = some v := by rw [Lib.cell_of_heap hb2]; rfl
  have f1 : w2.frozen? ⟨b, 1, none⟩ = false := Lib.frozen_of_heap hb2 1
  obtain ⟨g, cap, hv, _, _⟩ := hown'.form (by omega)
  subst hv
  have HO' := Lib.hid hown'
  have HG := Lib.hid hg
  have HB2 := Lib.hid hb2
  clear hown hown' hg hb2 c0 c1
  go_wp2
  go_ret
  refine ⟨rfl, .inr ?_, ?_⟩
  · exact Lib.BuilderAt.put (T := 111) (e := 5) hB HB2.out (bs' := cellsB (l ++ [c])) (by rw [cellsB_append]; simpa [cellsB] using HO'.out) (by decide)
  · exact (hb1.grown HG.out hBs (fun k hk => (HO.out.lt k hk).1)).setCell (p := ⟨b, 1, none⟩) hB _
end Go.Proofs.YtfbangojgjcbcaaGreatDoor
