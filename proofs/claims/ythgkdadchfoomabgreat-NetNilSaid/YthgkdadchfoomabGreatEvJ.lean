/- A run of a program on abstract memory: cells. -/
import Derived.Test.YthgkdadchfoomabGreatEvI
import Derived.Laws.Cells
namespace Go.Proofs.YthgkdadchfoomabGreat.Ev
section
variable {P : Program} {ρ : Rho} {S : AS} {w : World}

/-! ### Types -/
theorem size_run {t : TypeId} {n : Nat} (h : sizeA P t = some n) : (sizeOf t).run P w = .ok n w := by
  unfold sizeA at h
  split at h
  · rename_i i e; cases h; simp [sizeOf, typeInfo, e]
  · cases h
theorem info_run {t : TypeId} {n : Nat} (h : sizeA P t = some n) : ∃ i, P.info? t = some i ∧ i.size = n := by
  unfold sizeA at h
  split at h
  · rename_i i e; cases h; exact ⟨i, e, rfl⟩
  · cases h
theorem agg_run {t : TypeId} {b : Bool} (h : aggT P t = some b) : (isAgg t).run P w = .ok b w := by
  unfold aggT at h
  split at h
  · rename_i e; cases h; simp [isAgg, run_underlying e]
  · rename_i e; cases h; simp [isAgg, run_underlying e]
  · rename_i d h1 h2 e; cases h
    simp only [isAgg, Sem.run_bind, run_underlying e, Result.andThen_ok]
    cases d <;> first | rfl | exact absurd rfl (h1 _) | exact absurd rfl (h2 _ _)
  · cases h
theorem zero_run {t : TypeId} {z : AV} (h : zeroA P t = some z) : ∃ u, (∀ w, (zeroValue t).run P w = .ok u w) ∧ conc ρ z = some u := by
  unfold zeroA at h
  split at h
  · rename_i i e
    split at h
    · rename_i v e2; exact ⟨v, fun w => by simp [zeroValue, typeInfo, e, e2], ofV_conc ρ v h⟩
    · cases h
  · cases h

/-! ### Parts -/
theorem extract_list (l : List Value) (o n : Nat) : l.toArray.extract o (o + n) = ((l.drop o).take n).toArray := by
  apply Array.ext'
  simp [List.extract, Nat.add_sub_cancel_left]
theorem part_ok {t : TypeId} {cs : List AV} {o : Nat} {v : AV} {l : List Value} (h : (partA P t).f cs o = some v) (hl : concs ρ cs = some l) :
    ∃ u, conc ρ v = some u ∧ (part t l.toArray o).run P w = .ok u w := by
  unfold partA at h
  split at h
  · rename_i n ha hz
    obtain ⟨q, h1, h2⟩ := cO_some' h
    cases h2
    obtain ⟨h3, _⟩ := tke_some _ _ _ h1
    rw [drp_eq] at h3
    subst h3
    refine ⟨.agg ((l.drop o).take n).toArray, by simp only [conc, concs_take (concs_drop hl)], ?_⟩
    simp only [part, Sem.run_bind, agg_run ha, Result.andThen_ok, if_true, size_run hz, Sem.run_pure, extract_list]
  · rename_i n ha hz
    have h' : nth o cs = some v := h
    rw [nth_eq] at h'
    obtain ⟨u, h1, h2⟩ := concs_get hl h'
    refine ⟨u, h2, ?_⟩
    simp only [part, Sem.run_bind, agg_run ha, Result.andThen_ok, Bool.false_eq_true, if_false, List.getElem?_toArray, h1, Sem.run_pure]
  · cases h

/-! ### Reading -/
theorem relC_of (hs : Sat P ρ S w) {p : Pth} {m : Md} {t : TypeId} {cs : List AV} (ho : S.at p = .cells m t cs) :
    ∃ g off cap arr fz l, relC P ρ w.heap p m t cs g off cap arr fz l := by
  have := hs.obj p; rw [ho] at this; exact this
theorem addr_add (g o j : Nat) : (⟨g, o, none⟩ : Addr).add j = ⟨g, o + j, none⟩ := by unfold Addr.add; split <;> simp_all
theorem relC.cell {p : Pth} {m : Md} {t : TypeId} {cs : List AV} {g off cap : Nat} {arr : Array Value} {fz : Nat × Nat} {l : List Value} (r : relC P ρ w.heap p m t cs g off cap arr fz l)
    {i : Nat} {v : Value} (h : l[i]? = some v) : w.cell? ⟨g, off + i, none⟩ = some v := by
  simp only [World.cell?, r.obj, Option.isSome_none, Bool.false_eq_true, if_false]
  exact r.lies i v h
theorem relC.cells {p : Pth} {m : Md} {t : TypeId} {cs : List AV} {g off cap : Nat} {arr : Array Value} {fz : Nat × Nat} {l : List Value} (r : relC P ρ w.heap p m t cs g off cap arr fz l)
    (o n : Nat) (h : o + n ≤ l.length) : (loadCells ⟨g, off + o, none⟩ n).run P w = .ok ((l.drop o).take n).toArray w := by
  have hlen : ((l.drop o).take n).length = n := by rw [List.length_take, List.length_drop]; omega
  have := run_loadCells_list (P := P) w ⟨g, off + o, none⟩ ((l.drop o).take n) (fun j v hj => by
    rw [addr_add, Nat.add_assoc]
    refine r.cell ?_
    rw [List.getElem?_take] at hj
    split at hj
    · rw [List.getElem?_drop] at hj; exact hj
    · cases hj)
  rw [hlen] at this
  exact this
theorem load_ok (hs : Sat P ρ S w) {t : TypeId} {a x : AV} {u : Value} (h : (loadA P t).f a S = some x) (hu : conc ρ a = some u) :
    ∃ y, conc ρ x = some y ∧ (Instr.loadAt t u).run P w = .ok y w := by
  have h' : vPtr a none (fun b o => oCells (getA S b) none fun _ _ cs => (partA P t).f cs o) = some x := h
  obtain ⟨b, o, rfl, h1⟩ := vPtr_some h'
  obtain ⟨m, e, cs, ho, h2⟩ := oCells_some h1
  rw [getA_eq] at ho
  obtain ⟨g, off, cap, hb, rfl⟩ := conc_ptr hu
  obtain ⟨g', off', cap', arr, fz, l, r⟩ := relC_of hs ho
  have := look_path hb
  rw [r.here] at this
  cases this
  unfold partA at h2
  split at h2
  · rename_i n ha hz
    obtain ⟨q, h3, h4⟩ := cO_some' h2
    cases h4
    obtain ⟨h5, h6⟩ := tke_some _ _ _ h3
    rw [drp_eq] at h5 h6
    subst h5
    rw [List.length_drop] at h6
    have hlen := concs_length r.vals
    refine ⟨.agg ((l.drop o).take n).toArray, by simp only [conc, concs_take (concs_drop r.vals)], ?_⟩
    by_cases hn : n = 0
    · subst hn
      simp [Instr.loadAt, Instr.sureAddr, loadVar, agg_run ha, size_run hz, loadCells, loadCellsFrom]
    · have := r.cells o n (by omega)
      simp [Instr.loadAt, Instr.sureAddr, loadVar, agg_run ha, size_run hz, this]
  · rename_i n ha hz
    have h' : nth o cs = some x := h2
    rw [nth_eq] at h'
    obtain ⟨u, h3, h4⟩ := concs_get r.vals h'
    refine ⟨u, h4, ?_⟩
    simp [Instr.loadAt, Instr.sureAddr, loadVar, agg_run ha, r.cell h3]
  · cases h2

/-! ### Writing -/
theorem cell1_one {v : AV} {u : Value} (h : cell1 v = true) (hu : conc ρ v = some u) : u.oneCell' = true := by
  cases v with
  | agg l => cases h
  | tuple l => cases h
  | bool b => cases conc_bool hu; rfl
  | int k n => cases conc_int hu; rfl
  | str l => obtain ⟨b, rfl, _⟩ := conc_str hu; rfl
  | ptr b o => obtain ⟨_, _, _, _, rfl⟩ := conc_ptr hu; rfl
  | nilp => cases conc_nilp hu; rfl
  | slice b o n c => obtain ⟨_, _, _, _, _, rfl⟩ := conc_slice hu; rfl
  | row b o n c => obtain ⟨_, _, _, _, _, rfl⟩ := conc_row hu; rfl
  | tail b o p c => obtain ⟨_, _, _, _, _, rfl⟩ := conc_tail hu; rfl
  | nils => cases conc_nils hu; rfl
  | map b => obtain ⟨_, _, _, _, rfl⟩ := conc_map hu; rfl
  | nilm => cases conc_nilm hu; rfl
  | func f a b =>
    simp only [conc] at hu
    split at hu
    · cases hu; rfl
    · cases hu
  | yld l =>
    simp only [conc] at hu
    split at hu
    · cases hu; rfl
    · cases hu
  | nilf => simp only [conc] at hu; cases hu; rfl
  | iface t v =>
    simp only [conc] at hu
    split at hu
    · cases hu; rfl
    · cases hu
  | nili => simp only [conc] at hu; cases hu; rfl
  | stamp i =>
    simp only [conc] at hu
    split at hu
    · cases hu; rfl
    · cases hu
theorem allCell1_one : ∀ {l : List AV} {r : List Value}, allCell1 l = true → concs ρ l = some r → ∀ v ∈ r, v.oneCell' = true
  | [], r, _, h => by cases concs_nil h; intro v hv; cases hv
  | a :: l, r, h, hr => by
    have h' : cB (cell1 a) (allCell1 l) false = true := h
    obtain ⟨u, q, rfl, h1, h2⟩ := concs_cons hr
    cases hc : cell1 a with
    | false => rw [hc] at h'; cases h'
    | true =>
      rw [hc] at h'
      intro v hv
      rcases List.mem_cons.1 hv with rfl | hv
      · exact cell1_one hc h1
      · exact allCell1_one h' h2 v hv
/-- Cells of an array written, one by one. -/
noncomputable def writes (arr : Array Value) : Nat → List Value → Array Value
  | _, [] => arr
  | o, v :: r => writes (arr.setIfInBounds o v) (o + 1) r
theorem writes_size : ∀ (vs : List Value) (o : Nat) (arr : Array Value), (writes arr o vs).size = arr.size
  | [], _, _ => rfl
  | v :: r, o, arr => by rw [writes, writes_size r]; simp
theorem writes_get : ∀ (vs : List Value) (o : Nat) (arr : Array Value) (i : Nat), (vs.length ≠ 0 → o + vs.length ≤ arr.size) → (writes arr o vs)[i]? = if o ≤ i ∧ i < o + vs.length then vs[i - o]? else arr[i]?
  | [], o, arr, i, _ => by rw [writes, if_neg (by simp only [List.length_nil]; omega)]
  | v :: r, o, arr, i, h => by
    have h := h (by simp)
    rw [writes, writes_get r (o + 1) _ i (fun _ => by simp only [List.length_cons] at h; rw [Array.size_setIfInBounds]; omega)]
    simp only [List.length_cons] at h ⊢
    by_cases h1 : i = o
    · subst h1
      rw [if_neg (by omega), if_pos (by omega), Nat.sub_self]
      simp [Array.getElem?_setIfInBounds]
      omega
    · by_cases h2 : o ≤ i ∧ i < o + (r.length + 1)
      · rw [if_pos (by omega), if_pos h2, show i - o = (i - (o + 1)) + 1 by omega]; simp
      · rw [if_neg (by omega), if_neg h2, Array.getElem?_setIfInBounds_ne (by omega)]
theorem setCells_facts {g : Nat} {t : TypeId} {fz : Nat × Nat} : ∀ (vs : List Value) (o : Nat) (w : World) (arr : Array Value), w.heap[g]? = some (.cells arr t fz) →
    (w.setCells g o vs).heap[g]? = some (.cells (writes arr o vs) t fz) ∧ (∀ g', g' ≠ g → (w.setCells g o vs).heap[g']? = w.heap[g']?) ∧ (w.setCells g o vs).heap.size = w.heap.size ∧
      (w.setCells g o vs).os = w.os ∧ (w.setCells g o vs).tape = w.tape ∧ (w.setCells g o vs).output = w.output
  | [], _, _, _, h => ⟨h, fun _ _ => rfl, rfl, rfl, rfl, rfl⟩
  | v :: r, o, w, arr, h => by
    have hlt : g < w.heap.size := (Array.getElem?_eq_some_iff.1 h).1
    have h1 : (w.setCell ⟨g, o, none⟩ v).heap[g]? = some (.cells (arr.setIfInBounds o v) t fz) := by
      simp only [World.setCell, Array.getElem?_modify, if_true, h, Option.map_some, Option.isSome_none, Bool.false_eq_true, if_false]
    obtain ⟨a1, a2, a3, a4, a5, a6⟩ := setCells_facts r (o + 1) (w.setCell ⟨g, o, none⟩ v) _ h1
    refine ⟨a1, fun g' hg => ?_, ?_, a4, a5, a6⟩
    · rw [World.setCells, a2 g' hg]
      simp only [World.setCell, Array.getElem?_modify]
      rw [if_neg (fun e => hg e.symm)]
    · rw [World.setCells, a3]; simp [World.setCell]
/-- Cells of a block of the run's own are written. -/
theorem Sat.write (hs : Sat P ρ S w) {b : Nam} {m : Md} {t : TypeId} {cs cs' new : List AV} {o g off cap : Nat} {vs : List Value} (ho : S.at b.p = .cells m t cs) (hb : ρ b.p = some (.blk g off cap))
    (hp : put new o cs = some cs') (hv : concs ρ new = some vs) (h1 : ∀ v ∈ vs, v.oneCell' = true) :
    (storeCells ⟨g, off + o, none⟩ vs).run P w = .ok () (w.setCells g (off + o) vs) ∧ Sat P ρ (putA S b (.cells m t cs')) (w.setCells g (off + o) vs) ∧ Ext ρ S w ρ (putA S b (.cells m t cs')) (w.setCells g (off + o) vs) := by
  obtain ⟨g', off', cap', arr, fz, l, r⟩ := relC_of hs ho
  have := hb
  rw [r.here] at this
  cases this
  obtain ⟨hcs, hlen⟩ := put_some _ _ _ _ hp
  have hl := concs_length r.vals
  have hvl := concs_length hv
  have hlive : (S.at b.p).live := by rw [ho]; exact trivial
  have hsz : ∀ i, i < l.length → off + i < arr.size := fun i hi => by
    have := r.lies i l[i] (by simp [hi])
    exact (Array.getElem?_eq_some_iff.1 this).1
  have hst := run_storeCells_cells (P := P) g (off + o) vs 0 w (fun j hj => by
      have := r.cell (i := o + j) (v := l[o + j]'(by omega)) (by simp [show o + j < l.length by omega])
      simp only [Nat.add_zero]
      rw [Nat.add_assoc, this]; rfl)
    (fun j hj => by
      have h2 := r.thaw (off + o + j) (by have := hsz (o + j) (by omega); omega)
      simp only [World.frozen?, r.obj, Nat.add_zero]
      simpa using h2) h1
  obtain ⟨a1, a2, a3, a4, a5, a6⟩ := setCells_facts (g := g) vs (off + o) w arr r.obj
  refine ⟨by simpa using hst, ?_⟩
  have hcs' : concs ρ cs' = some (l.take o ++ (vs ++ l.drop (o + vs.length))) := by
    rw [hcs]; exact concs_append (concs_take r.vals) (concs_append hv (by rw [← hvl]; exact concs_drop r.vals))
  have hfit : vs.length ≠ 0 → off + o + vs.length ≤ arr.size := fun _ => by
    have := hsz (o + vs.length - 1) (by omega); omega
  have hlies : ∀ i v, (l.take o ++ (vs ++ l.drop (o + vs.length)))[i]? = some v → (writes arr (off + o) vs)[off + i]? = some v := fun i v hi => by
    rw [writes_get vs _ _ _ hfit]
    by_cases c1 : i < o
    · rw [if_neg (by omega)]
      rw [List.getElem?_append_left (by simp; omega), List.getElem?_take_of_lt c1] at hi
      exact r.lies i v hi
    · rw [List.getElem?_append_right (by simp; omega)] at hi
      simp only [List.length_take, show min o l.length = o by omega] at hi
      by_cases c2 : i < o + vs.length
      · rw [if_pos (by omega), show off + i - (off + o) = i - o by omega]
        rw [List.getElem?_append_left (by omega)] at hi
        exact hi
      · rw [if_neg (by omega)]
        rw [List.getElem?_append_right (by omega), List.getElem?_drop] at hi
        rw [show o + vs.length + (i - o - vs.length) = i by omega] at hi
        exact r.lies i v hi
  have hat : ∀ p, (putA S b (.cells m t cs')).at p = if p = b.p then .cells m t cs' else S.at p := at_putA (by intro e; cases e)
  refine hs.upd (S' := putA S b (.cells m t cs')) (b := b.p) r.here hlive (by rw [hat, if_pos rfl]; exact trivial) (Le.refl _) (fun p t h => .inl h) (fun p hp => .inl (by rw [hat, if_neg hp])) (Tr.put rfl) ?_ a3 a2 ?_ a4 a5 a6
  · rw [hat, if_pos rfl]
    refine ⟨g, off, cap, _, fz, _, r.here, a1, by rw [writes_size]; exact r.thaw, hcs', hlies, fun hm => ?_, fun hm z hz => by
      rw [writes_size]
      obtain ⟨x1, x2⟩ := r.row hm z hz
      refine ⟨x1, ?_⟩
      rw [hcs]; simp; omega, r.lib⟩
    obtain ⟨h0, h2, h3⟩ := r.own hm
    refine ⟨h0, ?_, h3⟩
    subst h0
    apply Array.ext_getElem?
    intro i
    by_cases hi : i < (l.take o ++ (vs ++ l.drop (o + vs.length))).length
    · have := hlies i _ (List.getElem?_eq_getElem hi)
      rw [Nat.zero_add i] at this
      rw [this, List.getElem?_toArray, List.getElem?_eq_getElem hi]
    · have hi' : l.length ≤ i := by simp at hi; omega
      rw [Array.getElem?_eq_none (by rw [writes_size, h2]; simpa using hi'), Array.getElem?_eq_none (by simp; simp at hi; omega)]
  · intro es c h
    rw [a1] at h; cases h
end
end Go.Proofs.YthgkdadchfoomabGreat.Ev
