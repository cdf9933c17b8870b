/- A run of a program on abstract memory: storing, building, addresses, slices, new blocks. -/
import Derived.Test.YthgkdadchfoomabGreatEvJ
namespace Go.Proofs.YthgkdadchfoomabGreat.Ev
section
variable {P : Program} {ρ : Rho} {S : AS} {w : World}

theorem concs_nil' : concs ρ [] = some [] := rfl

/-! ### Cells of a value -/
theorem cellsA_other {v : AV} (h : ∀ l, v ≠ .agg l) : cellsA v = [v] := by
  cases v <;> first | rfl | exact absurd rfl (h _)
theorem conc_not_agg {v : AV} {u : Value} (h : ∀ l, v ≠ .agg l) (hu : conc ρ v = some u) : u.cells = #[u] := by
  cases v with
  | agg l => exact absurd rfl (h _)
  | tuple l => obtain ⟨r, rfl, _⟩ := conc_tuple hu; rfl
  | _ => have := cell1_one (v := _) (by rfl) hu; cases u <;> first | rfl | cases this
theorem cellsA_conc {v : AV} {u : Value} (hu : conc ρ v = some u) : concs ρ (cellsA v) = some u.cells.toList := by
  by_cases h : ∃ l, v = .agg l
  · obtain ⟨l, rfl⟩ := h
    obtain ⟨r, rfl, hr⟩ := conc_agg hu
    exact hr
  · have h' : ∀ l, v ≠ .agg l := fun l e => h ⟨l, e⟩
    rw [cellsA_other h', conc_not_agg h' hu]
    exact concs_cons' hu concs_nil'

/-! ### Storing -/
theorem putC_ok (hs : Sat P ρ S w) {b : Nam} {m : Md} {t : TypeId} {cs new : List AV} {o g off cap : Nat} {vs : List Value} (ho : S.at b.p = .cells m t cs) (hb : ρ b.p = some (.blk g off cap))
    (hv : concs ρ new = some vs) (h1 : ∀ v ∈ vs, v.oneCell' = true) : AN.okU P ρ S w ((storeCells ⟨g, off + o, none⟩ vs).run P w) (putC m t S b (put new o cs)) := by
  refine cO_ok trivial fun cs' hp => ?_
  obtain ⟨a1, a2, a3⟩ := hs.write ho hb hp hv h1
  exact ⟨rfl, ρ, _, a1, a3, a2⟩
theorem store_ok (hs : Sat P ρ S w) {t : TypeId} {a v : AV} {ua uv : Value} (ha : conc ρ a = some ua) (hv : conc ρ v = some uv) :
    AN.okU P ρ S w ((Instr.storeAt t ua uv).run P w) ((storeA P t).f a v S) := by
  unfold storeA
  split
  · rename_i n h1 h2
    refine vPtr_ok trivial fun b o e => ?_
    subst e
    refine oCells_ok trivial fun m e cs ho => ?_
    rw [getA_eq] at ho
    refine vAgg_ok trivial fun l e => ?_
    subst e
    refine cB_ok (fun hb => ?_) fun _ => trivial
    obtain ⟨hb1, hb2⟩ := bAnd_iff.1 hb
    obtain ⟨g, off, cap, hb, rfl⟩ := conc_ptr ha
    obtain ⟨r, rfl, hr⟩ := conc_agg hv
    have hl : r.length = n := by rw [Nat.beq_eq, len_eq] at hb1; rw [concs_length hr, hb1]
    have := putC_ok hs (o := o) ho (look_path hb) hr (allCell1_one hb2 hr)
    have e : (Instr.storeAt t (.pointer (some ⟨g, off + o, none⟩)) (.agg r.toArray)).run P w = (storeCells ⟨g, off + o, none⟩ r).run P w := by
      simp [Instr.storeAt, Instr.sureAddr, storeVar, Value.cells, size_run h2, hl]
    rw [e]
    exact cMd_ok (fun _ => this) (fun _ => this) fun _ => trivial
  · rename_i h1 h2
    refine vPtr_ok trivial fun b o e => ?_
    subst e
    refine oCells_ok trivial fun m e cs ho => ?_
    rw [getA_eq] at ho
    refine cB_ok (fun hc => ?_) fun _ => trivial
    obtain ⟨g, off, cap, hb, rfl⟩ := conc_ptr ha
    have h3 := cell1_one hc hv
    have h4 : uv.cells = #[uv] := by cases uv <;> first | rfl | cases h3
    have := putC_ok hs (o := o) ho (look_path hb) (concs_cons' hv concs_nil') (by intro x hx; rw [List.mem_singleton] at hx; subst hx; exact h3)
    have e : (Instr.storeAt t (.pointer (some ⟨g, off + o, none⟩)) uv).run P w = (storeCells ⟨g, off + o, none⟩ [uv]).run P w := by
      simp [Instr.storeAt, Instr.sureAddr, storeVar, h4, size_run h2]
    rw [e]
    exact cMd_ok (fun _ => this) (fun _ => this) fun _ => trivial
  · exact trivial

/-! ### Building -/
theorem foldl_writes (off : Nat) : ∀ (l : List Value) (k : Nat) (arr : Array Value), (l.zipIdx k).foldl (fun cs (x : Value × Nat) => cs.setIfInBounds (off + x.2) x.1) arr = writes arr (off + k) l
  | [], _, _ => rfl
  | v :: l, k, arr => by
    rw [List.zipIdx_cons, List.foldl_cons, foldl_writes off l (k + 1), writes]; rfl
theorem writes_list (l vs : List Value) (o : Nat) (h : o + vs.length ≤ l.length) : writes l.toArray o vs = (l.take o ++ (vs ++ l.drop (o + vs.length))).toArray := by
  apply Array.ext_getElem?
  intro i
  rw [writes_get vs o _ i (fun _ => by simpa using h), List.getElem?_toArray, List.getElem?_toArray]
  by_cases c1 : i < o
  · rw [if_neg (by omega), List.getElem?_append_left (by simp; omega), List.getElem?_take_of_lt c1]
  · rw [List.getElem?_append_right (by simp; omega)]
    simp only [List.length_take, show min o l.length = o by omega]
    by_cases c2 : i < o + vs.length
    · rw [if_pos (by omega), List.getElem?_append_left (by omega)]
    · rw [if_neg (by omega), List.getElem?_append_right (by omega), List.getElem?_drop, show o + vs.length + (i - o - vs.length) = i by omega]
theorem fill_ok {place : Nat → Option (Nat × Nat)} : ∀ (ps : List (Nat × AV)) (qs : List (Nat × Value)) (cs cs' : List AV) (l : List Value),
    All2 (fun a b => a.1 = b.1 ∧ conc ρ a.2 = some b.2) ps qs → concs ρ cs = some l → fillA place ps cs = some cs' → ∃ l', concs ρ cs' = some l' ∧ Instr.fill place l.toArray qs = some l'.toArray
  | [], _, cs, cs', l, h, hl, hf => by
    cases h
    have : cs = cs' := Option.some.inj hf
    subst this
    exact ⟨l, hl, rfl⟩
  | x :: ps, _, cs, cs', l, h, hl, hf => by
    cases h with
    | @cons _ y _ qs h1 h2 =>
    have hf' : cO (place x.1) none (fun q => cB (Nat.beq (len (cellsA x.2)) q.2) (cO (put (cellsA x.2) q.1 cs) none (fillA place ps)) none) = some cs' := hf
    obtain ⟨⟨off, size⟩, hp, hf1⟩ := cO_some' hf'
    obtain ⟨hz, hf2⟩ := cB_some hf1
    obtain ⟨cs1, hput, hf3⟩ := cO_some' hf2
    obtain ⟨e1, e2⟩ := put_some _ _ _ _ hput
    have hcx := cellsA_conc h1.2
    have hlx := concs_length hcx
    have hll := concs_length hl
    rw [Nat.beq_eq, len_eq] at hz
    simp only at hz e1 e2
    have h3 : concs ρ cs1 = some (l.take off ++ (y.2.cells.toList ++ l.drop (off + y.2.cells.toList.length))) := by
      rw [e1]; exact concs_append (concs_take hl) (concs_append hcx (by rw [← hlx]; exact concs_drop hl))
    obtain ⟨l', h4, h5⟩ := fill_ok ps qs cs1 cs' _ h2 h3 hf3
    refine ⟨l', h4, ?_⟩
    obtain ⟨i, v⟩ := y
    simp only at h1 hlx h3 h5 h4
    rw [Instr.fill, ← h1.1, hp]
    simp only
    rw [if_neg (by
      simp only [Array.length_toList] at hlx
      simp only [List.size_toArray, ne_eq, Bool.or_eq_true, decide_eq_true_eq, not_or, Nat.not_lt, gt_iff_lt]
      first
        | exact ⟨by omega, by omega⟩
        | omega)]
    rw [show (v.cells.zipIdx.foldl (fun cs (x : Value × Nat) => cs.setIfInBounds (off + x.2) x.1) l.toArray) = writes l.toArray off v.cells.toList by
      rw [← Array.foldl_toList, Array.toList_zipIdx]; exact foldl_writes off _ 0 _]
    rw [writes_list _ _ _ (by omega)]
    exact h5
end
end Go.Proofs.YthgkdadchfoomabGreat.Ev
