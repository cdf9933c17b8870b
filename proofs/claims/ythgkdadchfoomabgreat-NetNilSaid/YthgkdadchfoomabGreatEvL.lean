/- A run of a program on abstract memory: building, addresses, slices, new blocks. -/
import Derived.Test.YthgkdadchfoomabGreatEvK
namespace Go.Proofs.YthgkdadchfoomabGreat.Ev
section
variable {P : Program} {ρ : Rho} {S : AS} {w : World}

/-! ### Building -/
theorem mapM_run {α β : Type} {f : α → Sem β} {g : α → β} : ∀ {l : List α}, (∀ a ∈ l, (f a).run P w = .ok (g a) w) → (l.mapM f).run P w = .ok (l.map g) w
  | [], _ => by simp
  | a :: l, h => by
    rw [List.mapM_cons]
    simp only [Sem.run_bind, h a (by simp), Result.andThen_ok, mapM_run (l := l) (fun b hb => h b (by simp [hb])), Sem.run_pure, List.map_cons]
theorem build_ok {t : TypeId} {ps : List (Nat × AV)} {qs : List (Nat × Value)} (hp : All2 (fun a b => a.1 = b.1 ∧ conc ρ a.2 = some b.2) ps qs) :
    AN.okV P ρ S w ((Instr.build t qs.toArray).run P w) ((buildA P t).f ps) := by
  unfold buildA
  split
  · rename_i z fs hz hu
    split
    · rename_i hk
      refine cO_ok trivial fun l hl => ?_
      obtain ⟨u, hzr, hzc⟩ := zero_run hz (ρ := ρ)
      have hpl : ∀ f ∈ fs.toList, (do pure (f.offset, ← sizeOf f.type) : Sem (Nat × Nat)).run P w = .ok (f.offset, (sizeA P f.type).getD 0) w := fun f hf => by
        have h1 := List.all_eq_true.1 hk f hf
        obtain ⟨n, hn⟩ := Option.isSome_iff_exists.1 h1
        simp [size_run hn, hn]
      obtain ⟨l', h1, h2⟩ := fill_ok ps qs _ l _ hp (cellsA_conc hzc) hl
      have hm : (fs.mapM fun f => (do pure (f.offset, ← sizeOf f.type) : Sem (Nat × Nat))).run P w = .ok (fs.toList.map fun f => (f.offset, (sizeA P f.type).getD 0)).toArray w := by
        obtain ⟨fl⟩ := fs
        rw [List.mapM_toArray, Sem.run_map, mapM_run hpl]
        rfl
      have he : placeS P fs = fun i => ((fs.toList.map fun f => (f.offset, (sizeA P f.type).getD 0)).toArray)[i]? := by
        funext i
        have hk' : ∀ f ∈ fs.toList, (sizeA P f.type).isSome = true := fun f hf => List.all_eq_true.1 hk f hf
        clear h2 hm hpl hl hk hu
        obtain ⟨fl⟩ := fs
        simp only [placeS, List.getElem?_toArray, List.getElem?_map]
        cases hf : fl[i]? with
        | none => rfl
        | some f =>
          obtain ⟨n, hn⟩ := Option.isSome_iff_exists.1 (hk' f (List.mem_of_getElem? hf))
          simp only [hn, Option.map_some, Option.getD_some]
      rw [he] at h2
      refine ⟨.agg l'.toArray, by simp only [conc, h1], ?_⟩
      simp only [Instr.build, Sem.run_bind, hzr, Result.andThen_ok, run_underlying hu, hm]
      rw [Array.toArray_toList] at h2
      simp only [h2, Sem.run_pure]
    · exact trivial
  · rename_i z n e hz hu
    split
    · rename_i m hm
      refine cO_ok trivial fun l hl => ?_
      obtain ⟨u, hzr, hzc⟩ := zero_run hz (ρ := ρ)
      obtain ⟨l', h1, h2⟩ := fill_ok ps qs _ l _ hp (cellsA_conc hzc) hl
      refine ⟨.agg l'.toArray, by simp only [conc, h1], ?_⟩
      simp only [Instr.build, Sem.run_bind, hzr, Result.andThen_ok, run_underlying hu, size_run hm]
      rw [Array.toArray_toList] at h2
      have h3 : Instr.fill (fun i => some (i * m, m)) u.cells qs = some l'.toArray := h2
      simp only [h3, Sem.run_pure]
    · exact trivial
  · exact trivial

/-! ### Fields -/
theorem fieldAddr_ok {st : TypeId} {f : Nat} {a : AV} {u : Value} (hu : conc ρ a = some u) : AN.okV P ρ S w ((Instr.fieldAt st u f).run P w) ((fieldAddrA P st f).f a) := by
  unfold fieldAddrA
  split
  · rename_i fs hs
    split
    · rename_i fd hf
      split
      · rename_i z hz
        refine vPtr_ok trivial fun b o e => ?_
        subst e
        obtain ⟨g, off, cap, hb, rfl⟩ := conc_ptr hu
        refine ⟨.pointer (some ⟨g, off + (o + fd.offset), none⟩), by simp only [conc, hb]; rfl, ?_⟩
        simp [Instr.fieldAt, run_underlying hs, hf, Instr.sureAddr, fieldPlace, size_run hz, addr_add, Nat.add_assoc]
      · exact trivial
    · exact trivial
  · exact trivial
theorem field_ok {st : TypeId} {f : Nat} {a : AV} {u : Value} (hu : conc ρ a = some u) : AN.okV P ρ S w ((Instr.field st u f).run P w) ((fieldA P st f).f a) := by
  unfold fieldA
  split
  · rename_i fs hs
    split
    · rename_i fd hf
      refine vAgg_ok trivial fun l e => ?_
      subst e
      obtain ⟨r, rfl, hr⟩ := conc_agg hu
      refine cO_ok trivial fun v hv => ?_
      obtain ⟨y, hy, hrun⟩ := part_ok (w := w) hv hr
      refine ⟨y, hy, ?_⟩
      simp [Instr.field, run_underlying hs, hf, asAgg, hrun]
    · exact trivial
  · exact trivial

/-! ### Indexes -/
theorem idx_some {x : AV} {n k : Nat} {u : Value} (h : idxA x n = some k) (hu : conc ρ x = some u) : ∃ kd, u = .int kd k ∧ k < n := by
  have h' : vInt x none (fun _ i => cI i (fun m => cB (Nat.blt m n) (some m) none) fun _ => none) = some k := h
  obtain ⟨kd, i, rfl, h1⟩ := vInt_some h'
  cases conc_int hu
  cases i with
  | ofNat m =>
    have h2 : cB (Nat.blt m n) (some m) none = some k := h1
    obtain ⟨h3, h4⟩ := cB_some h2
    cases h4
    exact ⟨kd, rfl, by simpa using h3⟩
  | negSucc m => cases h1
theorem indexAddr_ok {t : TypeId} {a i : AV} {ua ui : Value} (ha : conc ρ a = some ua) (hi : conc ρ i = some ui) : AN.okV P ρ S w ((Instr.indexAt t ua ui).run P w) ((indexAddrA P t).f a i) := by
  unfold indexAddrA
  split
  · rename_i n e hu
    split
    · rename_i z hz
      refine vPtr_ok trivial fun b o e => ?_
      subst e
      refine cO_ok trivial fun k hk => ?_
      obtain ⟨kd, rfl, hlt⟩ := idx_some hk hi
      obtain ⟨g, off, cap, hb, rfl⟩ := conc_ptr ha
      refine ⟨.pointer (some ⟨g, off + (o + k * z), none⟩), by simp only [conc, hb]; rfl, ?_⟩
      simp [Instr.indexAt, asIntOf, run_underlying hu, Instr.sureAddr, size_run hz, addr_add, Nat.add_assoc, hlt]
    · exact trivial
  · rename_i e hu
    split
    · rename_i z hz
      refine vSl_ok trivial (fun _ => trivial) (fun b o n c e => ?_) (fun b o n c e => ?_)
      · subst e
        refine cO_ok trivial fun k hk => ?_
        obtain ⟨kd, rfl, hlt⟩ := idx_some hk hi
        obtain ⟨g, off, cap, hb, _, rfl⟩ := conc_slice ha
        refine ⟨.pointer (some ⟨g, off + (o + k * z), none⟩), by simp only [conc, hb]; rfl, ?_⟩
        simp [Instr.indexAt, asIntOf, run_underlying hu, size_run hz, addr_add, Nat.add_assoc, hlt]
      · subst e
        refine cO_ok trivial fun k hk => ?_
        obtain ⟨kd, rfl, hlt⟩ := idx_some hk hi
        obtain ⟨g, off, cap, hb, _, rfl⟩ := conc_row ha
        refine ⟨.pointer (some ⟨g, off + (o + k * z), none⟩), by simp only [conc, hb]; rfl, ?_⟩
        simp [Instr.indexAt, asIntOf, run_underlying hu, size_run hz, addr_add, Nat.add_assoc, hlt]
    · exact trivial
  · exact trivial
theorem text_get {l : List Nat} {s : ByteArray} {k b : Nat} (hs : textOf l = some s) (hb : l[k]? = some b) : s[k]? = some b.toUInt8 ∧ b.toUInt8.toNat = b := by
  obtain ⟨rfl, hall⟩ := textOf_some hs
  have hb256 := hall b (List.mem_of_getElem? hb)
  refine ⟨?_, by simp [Nat.toUInt8, UInt8.toNat_ofNat', Nat.mod_eq_of_lt hb256]⟩
  have hlt : k < l.length := (List.getElem?_eq_some_iff.1 hb).1
  have h : k < ByteArray.size ⟨(l.map Nat.toUInt8).toArray⟩ := by simpa [ByteArray.size] using hlt
  rw [getElem?_pos (⟨(l.map Nat.toUInt8).toArray⟩ : ByteArray) k h]
  congr 1
  show (l.map Nat.toUInt8).toArray[k]'(by simpa using hlt) = _
  simp [(List.getElem?_eq_some_iff.1 hb).2]
theorem index_ok {t : TypeId} {a i : AV} {ua ui : Value} (ha : conc ρ a = some ua) (hi : conc ρ i = some ui) : AN.okV P ρ S w ((Instr.index t ua ui).run P w) ((indexA P t).f a i) := by
  unfold indexA
  split
  · rename_i n e hu
    split
    · rename_i z hz
      refine vAgg_ok trivial fun l e => ?_
      subst e
      refine cO_ok trivial fun k hk => ?_
      obtain ⟨kd, rfl, hlt⟩ := idx_some hk hi
      obtain ⟨r, rfl, hr⟩ := conc_agg ha
      refine cO_ok trivial fun v hv => ?_
      obtain ⟨y, hy, hrun⟩ := part_ok (w := w) hv hr
      have hrun : (part e r.toArray (k * z)).run P w = .ok y w := hrun
      refine ⟨y, hy, ?_⟩
      simp [Instr.index, asIntOf, run_underlying hu, size_run hz, hlt, hrun]
    · exact trivial
  · rename_i hu
    refine vStr_ok trivial fun l e => ?_
    subst e
    refine cO_ok trivial fun k hk => ?_
    obtain ⟨kd, rfl, hlt⟩ := idx_some hk hi
    refine cO_ok trivial fun b hb => ?_
    obtain ⟨s, rfl, hs⟩ := conc_str ha
    rw [nth_eq] at hb
    obtain ⟨hg, hb2⟩ := text_get hs hb
    refine get_int' ?_
    simp [Instr.index, asIntOf, run_underlying hu, hg, hb2]
  · exact trivial
end
end Go.Proofs.YthgkdadchfoomabGreat.Ev
