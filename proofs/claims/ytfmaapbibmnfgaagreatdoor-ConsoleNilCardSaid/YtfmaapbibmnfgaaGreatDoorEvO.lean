/- A run of a program on abstract memory: storing, building, addresses, slices, new blocks. -/
import Derived.Test.YtfmaapbibmnfgaaGreatDoorEvJ
import Derived.Laws.MakeOwn
import Derived.Laws.AppendOwn
set_option linter.unusedSectionVars false
namespace Go.Proofs.YtfmaapbibmnfgaaGreatDoor.Ev
variable [Vr]
section
variable {P : Program} {ρ : Rho} {S : AS} {w : World}

theorem concs_nil' : concs ρ [] = some [] := rfl

/-! ### Cells of a value -/
theorem cellsA_other {v : AV} (h : ∀ l, v ≠ .agg l) : cellsA v = [v] := by
  cases v <;> first | rfl | exact absurd rfl (h _)
theorem conc_not_agg {v : AV} {u : Value} (h : ∀ l, v ≠ .agg l) (hu : conc ρ v = some u) : u.cells = #[u] := by
  cases v with
  | agg l => exact absurd rfl (h _)
  | tuple l => obtain ⟨r, rfl, _⟩ := conc_tuple hu; rfl
  | _ => have := cell1_one (v := _) (by rfl) hu; cases u <;> first | rfl | cases this
theorem cellsA_conc {v : AV} {u : Value} (hu : conc ρ v = some u) : concs ρ (cellsA v) = some u.cells.toList := by
  by_cases h : ∃ l, v = .agg l
  · obtain ⟨l, rfl⟩ := h
    obtain ⟨r, rfl, hr⟩ := conc_agg hu
    exact hr
  · have h' : ∀ l, v ≠ .agg l := fun l e => h ⟨l, e⟩
    rw [cellsA_other h', conc_not_agg h' hu]
    exact concs_cons' hu concs_nil'

/-! ### Storing -/
theorem putC_ok (hs : Sat P ρ S w) {b : Nam} {m : Md} {t : TypeId} {cs new : List AV} {o g off cap : Nat} {vs : List Value} (ho : S.at b.p = .cells m t cs) (hb : ρ b.p = some (.blk g off cap))
    (hv : concs ρ new = some vs) (h1 : ∀ v ∈ vs, v.oneCell' = true) : AN.okU P ρ S w ((storeCells ⟨g, off + o, none⟩ vs).run P w) (putC m t S b (put new o cs)) := by
  refine cO_ok trivial fun cs' hp => ?_
  obtain ⟨a1, a2, a3⟩ := hs.write ho hb hp hv h1
  exact ⟨rfl, ρ, _, a1, a3, a2⟩
theorem store_ok (hs : Sat P ρ S w) {t : TypeId} {a v : AV} {ua uv : Value} (ha : conc ρ a = some ua) (hv : conc ρ v = some uv) :
    AN.okU P ρ S w ((Instr.storeAt t ua uv).run P w) ((storeA P t).f a v S) := by
  unfold storeA
  split
  · rename_i n h1 h2
    refine vPtr_ok trivial fun b o e => ?_
    subst e
    refine oCells_ok trivial fun m e cs ho => ?_
    rw [getA_eq] at ho
    refine vAgg_ok trivial fun l e => ?_
    subst e
    refine cB_ok (fun hb => ?_) fun _ => trivial
    obtain ⟨hb1, hb2⟩ := bAnd_iff.1 hb
    obtain ⟨g, off, cap, hb, rfl⟩ := conc_ptr ha
    obtain ⟨r, rfl, hr⟩ := conc_agg hv
    have hl : r.length = n := by rw [Nat.beq_eq, len_eq] at hb1; rw [concs_length hr, hb1]
    have := putC_ok hs (o := o) ho (look_path hb) hr (allCell1_one hb2 hr)
    have e : (Instr.storeAt t (.pointer (some ⟨g, off + o, none⟩)) (.agg r.toArray)).run P w = (storeCells ⟨g, off + o, none⟩ r).run P w := by
      simp [Instr.storeAt, Instr.sureAddr, storeVar, Value.cells, size_run h2, hl]
    rw [e]
    exact cMd_ok (fun _ => this) (fun _ => this) fun _ => trivial
  · rename_i h1 h2
    refine vPtr_ok trivial fun b o e => ?_
    subst e
    refine oCells_ok trivial fun m e cs ho => ?_
    rw [getA_eq] at ho
    refine cB_ok (fun hc => ?_) fun _ => trivial
    obtain ⟨g, off, cap, hb, rfl⟩ := conc_ptr ha
    have h3 := cell1_one hc hv
    have h4 : uv.cells = #[uv] := by cases uv <;> first | rfl | cases h3
    have := putC_ok hs (o := o) ho (look_path hb) (concs_cons' hv concs_nil') (by intro x hx; rw [List.mem_singleton] at hx; subst hx; exact h3)
    have e : (Instr.storeAt t (.pointer (some ⟨g, off + o, none⟩)) uv).run P w = (storeCells ⟨g, off + o, none⟩ [uv]).run P w := by
      simp [Instr.storeAt, Instr.sureAddr, storeVar, h4, size_run h2]
    rw [e]
    exact cMd_ok (fun _ => this) (fun _ => this) fun _ => trivial
  · exact trivial

/-! ### Building -/
theorem foldl_writes (off : Nat) : ∀ (l : List Value) (k : Nat) (arr : Array Value), (l.zipIdx k).foldl (fun cs (x : Value × Nat) => cs.setIfInBounds (off + x.2) x.1) arr = writes arr (off + k) l
  | [], _, _ => rfl
  | v :: l, k, arr => by
    rw [List.zipIdx_cons, List.foldl_cons, foldl_writes off l (k + 1), writes]; rfl
theorem writes_list (l vs : List Value) (o : Nat) (h : o + vs.length ≤ l.length) : writes l.toArray o vs = (l.take o ++ (vs ++ l.drop (o + vs.length))).toArray := by
  apply Array.ext_getElem?
  intro i
  rw [writes_get vs o _ i (fun _ => by simpa using h), List.getElem?_toArray, List.getElem?_toArray]
  by_cases c1 : i < o
  · rw [if_neg (by omega), List.getElem?_append_left (by simp; omega), List.getElem?_take_of_lt c1]
  · rw [List.getElem?_append_right (by simp; omega)]
    simp only [List.length_take, show min o l.length = o by omega]
    by_cases c2 : i < o + vs.length
    · rw [if_pos (by omega), List.getElem?_append_left (by omega)]
    · rw [if_neg (by omega), List.getElem?_append_right (by omega), List.getElem?_drop, show o + vs.length + (i - o - vs.length) = i by omega]
theorem fill_ok {place : Nat → Option (Nat × Nat)} : ∀ (ps : List (Nat × AV)) (qs : List (Nat × Value)) (cs cs' : List AV) (l : List Value),
    All2 (fun a b => a.1 = b.1 ∧ conc ρ a.2 = some b.2) ps qs → concs ρ cs = some l → fillA place ps cs = some cs' → ∃ l', concs ρ cs' = some l' ∧ Instr.fill place l.toArray qs = some l'.toArray
  | [], _, cs, cs', l, h, hl, hf => by
    cases h
    have : cs = cs' := Option.some.inj hf
    subst this
    exact ⟨l, hl, rfl⟩
  | x :: ps, _, cs, cs', l, h, hl, hf => by
    cases h with
    | @cons _ y _ qs h1 h2 =>
    have hf' : cO (place x.1) none (fun q => cB (Nat.beq (len (cellsA x.2)) q.2) (cO (put (cellsA x.2) q.1 cs) none (fillA place ps)) none) = some cs' := hf
    obtain ⟨⟨off, size⟩, hp, hf1⟩ := cO_some' hf'
    obtain ⟨hz, hf2⟩ := cB_some hf1
    obtain ⟨cs1, hput, hf3⟩ := cO_some' hf2
    obtain ⟨e1, e2⟩ := put_some _ _ _ _ hput
    have hcx := cellsA_conc h1.2
    have hlx := concs_length hcx
    have hll := concs_length hl
    rw [Nat.beq_eq, len_eq] at hz
    simp only at hz e1 e2
    have h3 : concs ρ cs1 = some (l.take off ++ (y.2.cells.toList ++ l.drop (off + y.2.cells.toList.length))) := by
      rw [e1]; exact concs_append (concs_take hl) (concs_append hcx (by rw [← hlx]; exact concs_drop hl))
    obtain ⟨l', h4, h5⟩ := fill_ok ps qs cs1 cs' _ h2 h3 hf3
    refine ⟨l', h4, ?_⟩
    obtain ⟨i, v⟩ := y
    simp only at h1 hlx h3 h5 h4
    rw [Instr.fill, ← h1.1, hp]
    simp only
    rw [if_neg (by
      simp only [Array.length_toList] at hlx
      simp only [List.size_toArray, ne_eq, Bool.or_eq_true, decide_eq_true_eq, not_or, Nat.not_lt, gt_iff_lt]
      first
        | exact ⟨by omega, by omega⟩
        | omega)]
    rw [show (v.cells.zipIdx.foldl (fun cs (x : Value × Nat) => cs.setIfInBounds (off + x.2) x.1) l.toArray) = writes l.toArray off v.cells.toList by
      rw [← Array.foldl_toList, Array.toList_zipIdx]; exact foldl_writes off _ 0 _]
    rw [writes_list _ _ _ (by omega)]
    exact h5
end
end Go.Proofs.YtfmaapbibmnfgaaGreatDoor.Ev
namespace Go.Proofs.YtfmaapbibmnfgaaGreatDoor.Ev
variable [Vr]
section
variable {P : Program} {ρ : Rho} {S : AS} {w : World}

/-! ### Building -/
theorem mapM_run {α β : Type} {f : α → Sem β} {g : α → β} : ∀ {l : List α}, (∀ a ∈ l, (f a).run P w = .ok (g a) w) → (l.mapM f).run P w = .ok (l.map g) w
  | [], _ => by simp
  | a :: l, h => by
    rw [List.mapM_cons]
    simp only [Sem.run_bind, h a (by simp), Result.andThen_ok, mapM_run (l := l) (fun b hb => h b (by simp [hb])), Sem.run_pure, List.map_cons]
theorem build_ok {t : TypeId} {ps : List (Nat × AV)} {qs : List (Nat × Value)} (hp : All2 (fun a b => a.1 = b.1 ∧ conc ρ a.2 = some b.2) ps qs) :
    AN.okV P ρ S w ((Instr.build t qs.toArray).run P w) ((buildA P t).f ps) := by
  unfold buildA
  split
  · rename_i z fs hz hu
    split
    · rename_i hk
      refine cO_ok trivial fun l hl => ?_
      obtain ⟨u, hzr, hzc⟩ := zero_run hz (ρ := ρ)
      have hpl : ∀ f ∈ fs.toList, (do pure (f.offset, ← sizeOf f.type) : Sem (Nat × Nat)).run P w = .ok (f.offset, (sizeA P f.type).getD 0) w := fun f hf => by
        have h1 := List.all_eq_true.1 hk f hf
        obtain ⟨n, hn⟩ := Option.isSome_iff_exists.1 h1
        simp [size_run hn, hn]
      obtain ⟨l', h1, h2⟩ := fill_ok ps qs _ l _ hp (cellsA_conc hzc) hl
      have hm : (fs.mapM fun f => (do pure (f.offset, ← sizeOf f.type) : Sem (Nat × Nat))).run P w = .ok (fs.toList.map fun f => (f.offset, (sizeA P f.type).getD 0)).toArray w := by
        obtain ⟨fl⟩ := fs
        rw [List.mapM_toArray, Sem.run_map, mapM_run hpl]
        rfl
      have he : placeS P fs = fun i => ((fs.toList.map fun f => (f.offset, (sizeA P f.type).getD 0)).toArray)[i]? := by
        funext i
        have hk' : ∀ f ∈ fs.toList, (sizeA P f.type).isSome = true := fun f hf => List.all_eq_true.1 hk f hf
        clear h2 hm hpl hl hk hu
        obtain ⟨fl⟩ := fs
        simp only [placeS, List.getElem?_toArray, List.getElem?_map]
        cases hf : fl[i]? with
        | none => rfl
        | some f =>
          obtain ⟨n, hn⟩ := Option.isSome_iff_exists.1 (hk' f (List.mem_of_getElem? hf))
          simp only [hn, Option.map_some, Option.getD_some]
      rw [he] at h2
      refine ⟨.agg l'.toArray, by simp only [conc, h1], ?_⟩
      simp only [Instr.build, Sem.run_bind, hzr, Result.andThen_ok, run_underlying hu, hm]
      rw [Array.toArray_toList] at h2
      simp only [h2, Sem.run_pure]
    · exact trivial
  · rename_i z n e hz hu
    split
    · rename_i m hm
      refine cO_ok trivial fun l hl => ?_
      obtain ⟨u, hzr, hzc⟩ := zero_run hz (ρ := ρ)
      obtain ⟨l', h1, h2⟩ := fill_ok ps qs _ l _ hp (cellsA_conc hzc) hl
      refine ⟨.agg l'.toArray, by simp only [conc, h1], ?_⟩
      simp only [Instr.build, Sem.run_bind, hzr, Result.andThen_ok, run_underlying hu, size_run hm]
      rw [Array.toArray_toList] at h2
      have h3 : Instr.fill (fun i => some (i * m, m)) u.cells qs = some l'.toArray := h2
      simp only [h3, Sem.run_pure]
    · exact trivial
  · exact trivial

/-! ### Fields -/
theorem fieldAddr_ok {st : TypeId} {f : Nat} {a : AV} {u : Value} (hu : conc ρ a = some u) : AN.okV P ρ S w ((Instr.fieldAt st u f).run P w) ((fieldAddrA P st f).f a) := by
  unfold fieldAddrA
  split
  · rename_i fs hs
    split
    · rename_i fd hf
      split
      · rename_i z hz
        refine vPtr_ok trivial fun b o e => ?_
        subst e
        obtain ⟨g, off, cap, hb, rfl⟩ := conc_ptr hu
        refine ⟨.pointer (some ⟨g, off + (o + fd.offset), none⟩), by simp only [conc, hb]; rfl, ?_⟩
        simp [Instr.fieldAt, run_underlying hs, hf, Instr.sureAddr, fieldPlace, size_run hz, addr_add, Nat.add_assoc]
      · exact trivial
    · exact trivial
  · exact trivial
theorem field_ok {st : TypeId} {f : Nat} {a : AV} {u : Value} (hu : conc ρ a = some u) : AN.okV P ρ S w ((Instr.field st u f).run P w) ((fieldA P st f).f a) := by
  unfold fieldA
  split
  · rename_i fs hs
    split
    · rename_i fd hf
      refine vAgg_ok trivial fun l e => ?_
      subst e
      obtain ⟨r, rfl, hr⟩ := conc_agg hu
      refine cO_ok trivial fun v hv => ?_
      obtain ⟨y, hy, hrun⟩ := part_ok (w := w) hv hr
      refine ⟨y, hy, ?_⟩
      simp [Instr.field, run_underlying hs, hf, asAgg, hrun]
    · exact trivial
  · exact trivial

/-! ### Indexes -/
theorem idx_some {x : AV} {n k : Nat} {u : Value} (h : idxA x n = some k) (hu : conc ρ x = some u) : ∃ kd, u = .int kd k ∧ k < n := by
  have h' : vInt x none (fun _ i => cI i (fun m => cB (Nat.blt m n) (some m) none) fun _ => none) = some k := h
  obtain ⟨kd, i, rfl, h1⟩ := vInt_some h'
  cases conc_int hu
  cases i with
  | ofNat m =>
    have h2 : cB (Nat.blt m n) (some m) none = some k := h1
    obtain ⟨h3, h4⟩ := cB_some h2
    cases h4
    exact ⟨kd, rfl, by simpa using h3⟩
  | negSucc m => cases h1
theorem indexAddr_ok {t : TypeId} {a i : AV} {ua ui : Value} (ha : conc ρ a = some ua) (hi : conc ρ i = some ui) : AN.okV P ρ S w ((Instr.indexAt t ua ui).run P w) ((indexAddrA P t).f a i) := by
  unfold indexAddrA
  split
  · rename_i n e hu
    split
    · rename_i z hz
      refine vPtr_ok trivial fun b o e => ?_
      subst e
      refine cO_ok trivial fun k hk => ?_
      obtain ⟨kd, rfl, hlt⟩ := idx_some hk hi
      obtain ⟨g, off, cap, hb, rfl⟩ := conc_ptr ha
      refine ⟨.pointer (some ⟨g, off + (o + k * z), none⟩), by simp only [conc, hb]; rfl, ?_⟩
      simp [Instr.indexAt, asIntOf, run_underlying hu, Instr.sureAddr, size_run hz, addr_add, Nat.add_assoc, hlt]
    · exact trivial
  · rename_i e hu
    split
    · rename_i z hz
      refine vSl_ok trivial (fun _ => trivial) (fun b o n c e => ?_) (fun b o n c e => ?_)
      · subst e
        refine cO_ok trivial fun k hk => ?_
        obtain ⟨kd, rfl, hlt⟩ := idx_some hk hi
        obtain ⟨g, off, cap, hb, _, rfl⟩ := conc_slice ha
        refine ⟨.pointer (some ⟨g, off + (o + k * z), none⟩), by simp only [conc, hb]; rfl, ?_⟩
        simp [Instr.indexAt, asIntOf, run_underlying hu, size_run hz, addr_add, Nat.add_assoc, hlt]
      · subst e
        refine cO_ok trivial fun k hk => ?_
        obtain ⟨kd, rfl, hlt⟩ := idx_some hk hi
        obtain ⟨g, off, cap, hb, _, rfl⟩ := conc_row ha
        refine ⟨.pointer (some ⟨g, off + (o + k * z), none⟩), by simp only [conc, hb]; rfl, ?_⟩
        simp [Instr.indexAt, asIntOf, run_underlying hu, size_run hz, addr_add, Nat.add_assoc, hlt]
    · exact trivial
  · exact trivial
theorem text_get {l : List Nat} {s : ByteArray} {k b : Nat} (hs : textOf l = some s) (hb : l[k]? = some b) : s[k]? = some b.toUInt8 ∧ b.toUInt8.toNat = b := by
  obtain ⟨rfl, hall⟩ := textOf_some hs
  have hb256 := hall b (List.mem_of_getElem? hb)
  refine ⟨?_, by simp [Nat.toUInt8, UInt8.toNat_ofNat', Nat.mod_eq_of_lt hb256]⟩
  have hlt : k < l.length := (List.getElem?_eq_some_iff.1 hb).1
  have h : k < ByteArray.size ⟨(l.map Nat.toUInt8).toArray⟩ := by simpa [ByteArray.size] using hlt
  rw [getElem?_pos (⟨(l.map Nat.toUInt8).toArray⟩ : ByteArray) k h]
  congr 1
  show (l.map Nat.toUInt8).toArray[k]'(by simpa using hlt) = _
  simp [(List.getElem?_eq_some_iff.1 hb).2]
theorem index_ok {t : TypeId} {a i : AV} {ua ui : Value} (ha : conc ρ a = some ua) (hi : conc ρ i = some ui) : AN.okV P ρ S w ((Instr.index t ua ui).run P w) ((indexA P t).f a i) := by
  unfold indexA
  split
  · rename_i n e hu
    split
    · rename_i z hz
      refine vAgg_ok trivial fun l e => ?_
      subst e
      refine cO_ok trivial fun k hk => ?_
      obtain ⟨kd, rfl, hlt⟩ := idx_some hk hi
      obtain ⟨r, rfl, hr⟩ := conc_agg ha
      refine cO_ok trivial fun v hv => ?_
      obtain ⟨y, hy, hrun⟩ := part_ok (w := w) hv hr
      have hrun : (part e r.toArray (k * z)).run P w = .ok y w := hrun
      refine ⟨y, hy, ?_⟩
      simp [Instr.index, asIntOf, run_underlying hu, size_run hz, hlt, hrun]
    · exact trivial
  · rename_i hu
    refine vStr_ok trivial fun l e => ?_
    subst e
    refine cO_ok trivial fun k hk => ?_
    obtain ⟨kd, rfl, hlt⟩ := idx_some hk hi
    refine cO_ok trivial fun b hb => ?_
    obtain ⟨s, rfl, hs⟩ := conc_str ha
    rw [nth_eq] at hb
    obtain ⟨hg, hb2⟩ := text_get hs hb
    refine get_int' ?_
    simp [Instr.index, asIntOf, run_underlying hu, hg, hb2]
  · exact trivial
end
end Go.Proofs.YtfmaapbibmnfgaaGreatDoor.Ev
namespace Go.Proofs.YtfmaapbibmnfgaaGreatDoor.Ev
variable [Vr]
section
variable {P : Program} {ρ : Rho} {S : AS} {w : World}

/-! ### Slices -/
/-- Values that may be left out. -/
noncomputable def OptC (ρ : Rho) (x : Option AV) (u : Option Value) : Prop := match x, u with
  | none, none => True
  | some v, some y => conc ρ v = some y
  | _, _ => False
theorem bnd_run {x : AV} {y y' n : Nat} {u : Value} {code : BoundsCode} (h : bndA x y = some n) (hu : conc ρ x = some u) (hy : y ≤ y') : (Instr.sliceBound u y' code).run P w = .ok n w ∧ n ≤ y := by
  have h' : vInt x none (fun _ i => cI i (fun m => cB (Nat.ble m y) (some m) none) fun _ => none) = some n := h
  obtain ⟨kd, i, rfl, h1⟩ := vInt_some h'
  cases conc_int hu
  cases i with
  | ofNat m =>
    have h2 : cB (Nat.ble m y) (some m) none = some n := h1
    obtain ⟨h3, h4⟩ := cB_some h2
    have h5 : m = n := Option.some.inj h4
    subst h5
    have h5 : m ≤ y := by simpa using h3
    refine ⟨?_, h5⟩
    have h6 : m ≤ y' := by omega
    have h7 : (m : Int) ≤ (y' : Int) := by omega
    simp only [Instr.sliceBound, asIntOf, Sem.run_bind, Sem.run_pure, Result.andThen_ok, Int.ofNat_eq_natCast]
    rw [if_pos ⟨by omega, h7⟩]
    rfl
  | negSucc m => cases h1
/-- The bounds of a slice, where there is room at least for what is known. -/
theorem bounds_run {isS : Bool} {n c c' m h l d : Nat} {lo hi mx : Option AV} {ulo uhi umx : Option Value} (hlo : OptC ρ lo ulo) (hhi : OptC ρ hi uhi) (hmx : OptC ρ mx umx)
    (h0 : mx = none ∨ hi ≠ none) (hm : bndO mx c d = some m) (hh : bndO hi n m = some h) (hl : bndO lo 0 h = some l) (hd : mx = none → m ≤ c') (hd2 : mx ≠ none → d ≤ c') :
    (Instr.sliceBounds isS n c' ulo uhi umx).run P w = .ok (l, h, if mx = none then c' else m) w ∧ l ≤ h ∧ (hi ≠ none → h ≤ m) ∧ (hi = none → h = n) ∧ (mx ≠ none → m ≤ d) := by
  have hlo' : l ≤ h ∧ ((lo = none ∧ ulo = none ∧ l = 0) ∨ ∃ y, ulo = some y ∧ ∀ code, (Instr.sliceBound y h code).run P w = .ok l w) := by
    cases lo with
    | none => cases ulo with
      | none => cases hl; exact ⟨Nat.zero_le _, .inl ⟨rfl, rfl, rfl⟩⟩
      | some _ => exact hlo.elim
    | some v => cases ulo with
      | none => exact hlo.elim
      | some y => exact ⟨(bnd_run (P := P) (w := w) (code := .index) (h := hl) hlo (Nat.le_refl _)).2, .inr ⟨y, rfl, fun code => (bnd_run (h := hl) hlo (Nat.le_refl _)).1⟩⟩
  obtain ⟨hlh, hlo'⟩ := hlo'
  have fin : ∀ (m' : Nat) (code : BoundsCode), ((match (generalizing := false) ulo with
      | some v => do let l ← Instr.sliceBound v h code; pure (l, h, m')
      | none => do let l ← pure 0; pure (l, h, m')) : Sem (Nat × Nat × Nat)).run P w = .ok (l, h, m') w := fun m' code => by
    rcases hlo' with ⟨_, rfl, rfl⟩ | ⟨y, rfl, hr⟩
    · rfl
    · simp only [Sem.run_bind, hr code, Result.andThen_ok, Sem.run_pure]
  cases mx with
  | none =>
    cases umx with
    | some _ => exact hmx.elim
    | none =>
    cases hi with
    | none =>
      cases uhi with
      | some _ => exact hhi.elim
      | none =>
      cases hh
      refine ⟨?_, hlh, fun x => absurd rfl x, fun _ => rfl, fun x => absurd rfl x⟩
      rw [if_pos rfl]
      simp only [Instr.sliceBounds, Sem.run_bind, Sem.run_pure, Result.andThen_ok, Option.isSome_none, Bool.false_eq_true, if_false]
      exact fin _ _
    | some v =>
      cases uhi with
      | none => exact hhi.elim
      | some y =>
      have hb := fun code => bnd_run (P := P) (w := w) (code := code) (h := hh) hhi (y' := c') (hd rfl)
      refine ⟨?_, hlh, fun _ => (hb .sliceB).2, fun x => (by cases x), fun x => absurd rfl x⟩
      rw [if_pos rfl]
      simp only [Instr.sliceBounds, Sem.run_bind, Sem.run_pure, Result.andThen_ok, Option.isSome_none, Bool.false_eq_true, if_false, (hb _).1]
      exact fin _ _
  | some vm =>
    cases umx with
    | none => exact hmx.elim
    | some ym =>
    cases hi with
    | none => rcases h0 with h0 | h0 <;> first | cases h0 | exact absurd rfl h0
    | some v =>
      cases uhi with
      | none => exact hhi.elim
      | some y =>
      have ha := fun code => bnd_run (P := P) (w := w) (code := code) (h := hm) hmx (y' := c') (hd2 (by intro e; cases e))
      have hb := fun code => bnd_run (P := P) (w := w) (code := code) (h := hh) hhi (y' := m) (Nat.le_refl _)
      refine ⟨?_, hlh, fun _ => (hb .sliceB).2, fun x => (by cases x), fun _ => (ha .sliceB).2⟩
      rw [if_neg (by intro e; cases e)]
      simp only [Instr.sliceBounds, Sem.run_bind, Option.isSome_some, if_true, (ha _).1, (hb _).1, Result.andThen_ok]
      exact fin _ _
theorem hasO_iff {x : Option AV} : hasO x = true ↔ x ≠ none := by cases x <;> simp [hasO]
theorem guardM {mx hi : Option AV} (h : bAnd (hasO mx) (bNot (hasO hi)) = false) : mx = none ∨ hi ≠ none := by
  cases mx with
  | none => exact .inl rfl
  | some _ =>
    cases hi with
    | some _ => exact .inr (by intro e; cases e)
    | none => exact absurd h (by simp [hasO, bAnd, bNot])
theorem cutA_ok {z : Nat} {b : Nam} {o n c g off cap : Nat} {lo hi mx : Option AV} {ulo uhi umx : Option Value} (hlo : OptC ρ lo ulo) (hhi : OptC ρ hi uhi) (hmx : OptC ρ mx umx) (hb : look ρ b = some (.blk g off cap)) (hn : n ≤ c) (isS : Bool)
    {r : Result Value} (hr : ∀ l h m, (Instr.sliceBounds isS n c ulo uhi umx).run P w = .ok (l, h, m) w → r = .ok (.slice (some (if m = l then ⟨g, off + o, none⟩ else ⟨g, off + (o + l * z), none⟩)) (h - l) (m - l)) w) :
    AN.okV P ρ S w r (cutA z b o n c lo hi mx) := by
  refine cB_ok (fun _ => trivial) fun hg => ?_
  refine cO_ok trivial fun m hm => cO_ok trivial fun h hh => cO_ok trivial fun l hl => ?_
  have hmc : m ≤ c := by
    cases mx with
    | none => cases hm; exact Nat.le_refl _
    | some v =>
      cases umx with
      | none => exact hmx.elim
      | some y => exact (bnd_run (P := P) (w := w) (code := .index) (h := hm) hmx (Nat.le_refl _)).2
  obtain ⟨h1, h2, h3, h4, h5⟩ := bounds_run (P := P) (w := w) (isS := isS) (c' := c) hlo hhi hmx (guardM hg) hm hh hl (fun _ => hmc) (fun _ => Nat.le_refl _)
  have hme : (if mx = none then c else m) = m := by
    cases mx with
    | none => cases hm; rfl
    | some v => rfl
  rw [hme] at h1
  have hhm : h ≤ m := by
    cases hi with
    | none =>
      rcases guardM hg with e | e
      · subst e; cases hm; rw [h4 rfl]; exact hn
      · exact absurd rfl e
    | some v => exact h3 (by intro e; cases e)
  rw [hr l h m h1]
  refine ⟨_, ?_, rfl⟩
  simp only [conc, hb]
  rw [if_pos (by show h - l ≤ m - l; omega)]
  simp only [offA]
  by_cases e : m = l
  · subst e; rw [if_pos rfl]; simp [cB]
  · rw [if_neg e]
    have : Nat.beq m l = false := by cases hx : Nat.beq m l with | false => rfl | true => rw [Nat.beq_eq] at hx; exact absurd hx e
    rw [this]; rfl
theorem cutN_ok {lo hi mx : Option AV} {ulo uhi umx : Option Value} (hlo : OptC ρ lo ulo) (hhi : OptC ρ hi uhi) (hmx : OptC ρ mx umx)
    {r : Result Value} (hr : ∀ l h m, (Instr.sliceBounds true 0 0 ulo uhi umx).run P w = .ok (l, h, m) w → r = .ok (.slice none (h - l) (m - l)) w) : AN.okV P ρ S w r (cutN lo hi mx) := by
  refine cB_ok (fun _ => trivial) fun hg => ?_
  refine cO_ok trivial fun m hm => cO_ok trivial fun h hh => cO_ok trivial fun l hl => ?_
  have hmc : m ≤ 0 := by
    cases mx with
    | none => cases hm; exact Nat.le_refl _
    | some v =>
      cases umx with
      | none => exact hmx.elim
      | some y => exact (bnd_run (P := P) (w := w) (code := .index) (h := hm) hmx (Nat.le_refl _)).2
  obtain ⟨h1, h2, h3, h4, h5⟩ := bounds_run (P := P) (w := w) (isS := true) (c' := 0) hlo hhi hmx (guardM hg) hm hh hl (fun _ => hmc) (fun _ => Nat.le_refl _)
  have hme : (if mx = none then 0 else m) = m := by
    cases mx with
    | none => cases hm; rfl
    | some v => rfl
  rw [hme] at h1
  have hh0 : h = 0 := by
    cases hi with
    | none => exact h4 rfl
    | some v => have := h3 (by intro e; cases e); omega
  rw [hr l h m h1]
  exact ⟨.slice none 0 0, by simp only [conc], by rw [hh0, show m = 0 by omega, Nat.zero_sub]⟩
theorem topR_le (hs : Sat P ρ S w) {e z : Nat} {b : Nam} {o n c g off cap : Nat} (hb : look ρ b = some (.blk g off cap)) (hn : n + c ≤ cap) (hz : sizeA P e = some z) : topR e z b o n c S + c ≤ cap := by
  unfold topR
  refine oCells_ok (Q := fun x => x + c ≤ cap) hn fun m e' cs ho => ?_
  rw [getA_eq] at ho
  refine cMd_ok (Q := fun x => x + c ≤ cap) (fun _ => hn) (fun hm => ?_) fun _ => hn
  refine cB_ok (Q := fun x => x + c ≤ cap) (fun h => ?_) fun _ => hn
  obtain ⟨h1, h2⟩ := bAnd_iff.1 h
  rw [Nat.beq_eq] at h1 h2
  subst h1
  obtain ⟨g', off', cap', arr, fz, l, r⟩ := relC_of hs ho
  have := look_path hb
  rw [r.here] at this
  cases this
  rw [maxM_eq, len_eq]
  have key := (r.row hm z hz).2
  have h2 : c * z = o := h2
  rcases Nat.eq_zero_or_pos z with h0 | h0
  · subst h0
    show max n ((cs.length - o) / 0) + c ≤ cap
    rw [Nat.div_zero]; omega
  · have h3 : (cs.length - o) / z ≤ cap - c := by
      rw [← h2]
      calc (cs.length - c * z) / z ≤ (cap * z - c * z) / z := Nat.div_le_div_right (by omega)
        _ = cap - c := by rw [← Nat.sub_mul, Nat.mul_div_cancel _ h0]
    show max n ((cs.length - o) / z) + c ≤ cap
    omega
theorem cutR_ok (hs : Sat P ρ S w) {e z : Nat} {b : Nam} {o n c g off cap : Nat} {lo hi mx : Option AV} {ulo uhi umx : Option Value} (hlo : OptC ρ lo ulo) (hhi : OptC ρ hi uhi) (hmx : OptC ρ mx umx)
    (hb : look ρ b = some (.blk g off cap)) (hn : n + c ≤ cap) (hz : sizeA P e = some z)
    {r : Result Value} (hr : ∀ l h m, (Instr.sliceBounds true n (cap - c) ulo uhi umx).run P w = .ok (l, h, m) w → r = .ok (.slice (some (if m = l then ⟨g, off + o, none⟩ else ⟨g, off + (o + l * z), none⟩)) (h - l) (m - l)) w) :
    AN.okV P ρ S w r (cutR e z b o n c lo hi mx S) := by
  have htop := topR_le hs hb hn hz (o := o)
  cases mx with
  | none =>
    cases umx with
    | some _ => exact hmx.elim
    | none =>
    simp only [cutR, cO_none]
    refine cO_ok trivial fun h hh => ?_
    have hh2 : ∃ y, bndO hi n y = some h ∧ y ≤ cap - c := by
      have hh' : cO (bndO hi n n) (bndO hi n (topR e z b o n c S)) some = some h := hh
      cases e1 : bndO hi n n with
      | some x => rw [e1] at hh'; cases hh'; exact ⟨n, e1, by omega⟩
      | none => rw [e1] at hh'; exact ⟨_, hh', by omega⟩
    obtain ⟨y, hh3, hy⟩ := hh2
    refine cO_ok trivial fun l hl => ?_
    obtain ⟨h1, h2, h3, h4, _⟩ := bounds_run (P := P) (w := w) (isS := true) (c := y) (d := y) (m := y) (c' := cap - c) hlo hhi (mx := none) (umx := none) trivial (.inl rfl) rfl hh3 hl (fun _ => hy) (fun x => absurd rfl x)
    rw [if_pos rfl] at h1
    have hhc : h ≤ cap - c := by
      cases hi with
      | none => rw [h4 rfl]; omega
      | some v => have := h3 (by intro e; cases e); omega
    rw [hr l h _ h1]
    have e1 : (if cap - c = l then (⟨g, off + o, none⟩ : Addr) else ⟨g, off + (o + l * z), none⟩) = ⟨g, off + (if cap - c = l then o else o + l * z), none⟩ := by split <;> rfl
    rw [e1]
    refine cB_ok (fun q => ?_) fun q => ?_
    · rw [Nat.beq_eq] at q
      subst q
      refine ⟨.slice (some ⟨g, off + o, none⟩) h (cap - c), by simp only [conc, hb]; rw [if_pos (by omega)], ?_⟩
      simp
    · have q : l ≠ 0 := by intro x; subst x; cases q
      have e2 : ∀ k, k < cap - c → l = k → (if cap - c = l then o else o + l * z) = o + l * z := fun k hk e => if_neg (by omega)
      refine cB_ok (fun q2 => ?_) fun q2 => ?_
      · have q2 : l < n := by simpa using q2
        refine ⟨.slice (some ⟨g, off + (o + l * z), none⟩) (h - l) (cap - (c + l)), by simp only [conc, hb]; rw [if_pos (by show (h - l) + (c + l) ≤ cap; omega)]; rfl, ?_⟩
        rw [e2 l (by omega) rfl, Nat.sub_add_eq]
      · refine cB_ok (fun q3 => ?_) fun q3 => ?_
        · rw [Nat.beq_eq] at q3
          subst q3
          refine ⟨.slice (some ⟨g, off + (if cap = c + l then o else o + l * z), none⟩) 0 (cap - (c + l)), by simp only [conc, hb]; rw [if_pos (by show c + l ≤ cap; omega)]; rfl, ?_⟩
          rw [Nat.sub_self, Nat.sub_add_eq]
          by_cases q4 : cap - c = l
          · rw [if_pos q4, if_pos (show cap = c + l by omega)]
          · rw [if_neg q4, if_neg (show ¬ cap = c + l by omega)]
        · have q3 : l ≠ h := by intro x; subst x; rw [Nat.beq_refl] at q3; cases q3
          refine ⟨.slice (some ⟨g, off + (o + l * z), none⟩) (h - l) (cap - (c + l)), by simp only [conc, hb]; rw [if_pos (by show (h - l) + (c + l) ≤ cap; omega)]; rfl, ?_⟩
          rw [e2 l (by omega) rfl, Nat.sub_add_eq]
  | some vm =>
    cases umx with
    | none => exact hmx.elim
    | some ym =>
    simp only [cutR, cO_some]
    refine cO_ok trivial fun vh hvh => ?_
    subst hvh
    refine cO_ok trivial fun m hm => cO_ok trivial fun h hh => cO_ok trivial fun l hl => ?_
    obtain ⟨h1, h2, h3, _, h5⟩ := bounds_run (P := P) (w := w) (isS := true) (c := n) (d := n) (n := n) (c' := cap - c) hlo hhi (mx := some vm) (umx := some ym) hmx (.inr (by intro e; cases e)) hm hh hl (fun x => by cases x) (fun _ => by omega)
    rw [if_neg (by intro e; cases e)] at h1
    have hhm := h3 (by intro e; cases e)
    have hmn := h5 (by intro e; cases e)
    rw [hr l h m h1]
    refine ⟨_, ?_, rfl⟩
    simp only [conc, hb]
    rw [if_pos (by show h - l ≤ m - l; omega)]
    simp only [offA]
    by_cases e : m = l
    · subst e; rw [if_pos rfl]; simp [cB]
    · rw [if_neg e]
      have : Nat.beq m l = false := by cases hx : Nat.beq m l with | false => rfl | true => rw [Nat.beq_eq] at hx; exact absurd hx e
      rw [this]; rfl
theorem textOf_cut {l : List Nat} {s : ByteArray} (hs : textOf l = some s) (a k : Nat) : textOf ((l.drop a).take k) = some (s.extract a (a + k)) := by
  unfold textOf at hs ⊢
  split at hs
  · rename_i h1
    rw [if_pos (List.all_eq_true.2 fun x hx => List.all_eq_true.1 h1 x (List.mem_of_mem_drop (List.mem_of_mem_take hx)))]
    cases hs
    congr 1
    apply ByteArray.ext
    rw [ByteArray.data_extract]
    simp [List.map_take, List.map_drop, List.extract_eq_take_drop]
  · cases hs
theorem cutT_ok {l : List Nat} {s : ByteArray} (hs : textOf l = some s) {lo hi mx : Option AV} {ulo uhi umx : Option Value} (hlo : OptC ρ lo ulo) (hhi : OptC ρ hi uhi) (hmx : OptC ρ mx umx)
    {r : Result Value} (hr : umx = none → ∀ a h m, (Instr.sliceBounds false s.size s.size ulo uhi none).run P w = .ok (a, h, m) w → r = .ok (.string (s.extract a h)) w) : AN.okV P ρ S w r (cutT l lo hi mx) := by
  unfold cutT
  cases mx with
  | some _ => exact trivial
  | none =>
    cases umx with
    | some _ => exact hmx.elim
    | none =>
      refine (show AN.okV P ρ S w r (cO (bndO hi (len l) (len l)) .no fun h => cO (bndO lo 0 h) .no fun a => cO (tke (Nat.sub h a) (drp a l)) .no fun r => .get (.str r)) from ?_)
      refine cO_ok trivial fun h hh => ?_
      refine cO_ok trivial fun a ha => ?_
      refine cO_ok trivial fun q hq => ?_
      rw [drp_eq] at hq
      obtain ⟨rfl, _⟩ := tke_some _ _ _ hq
      rw [len_eq] at hh
      have hsz := textOf_size hs
      obtain ⟨h1, h2, h3, h4, h5⟩ := bounds_run (P := P) (w := w) (isS := false) (n := l.length) (c := l.length) (c' := l.length) (d := l.length) (m := l.length) hlo hhi (mx := none) (umx := none) trivial (.inl rfl) rfl hh ha (fun _ => Nat.le_refl _) (fun _ => Nat.le_refl _)
      rw [hr rfl a h _ (by rw [hsz]; exact h1)]
      refine ⟨_, ?_, rfl⟩
      have := textOf_cut hs a (h - a)
      rw [show a + (h - a) = h by omega] at this
      have this : textOf (List.take (h.sub a) (List.drop a l)) = some (s.extract a h) := this
      simp only [conc, this]
theorem slice_ok (hs : Sat P ρ S w) {t : TypeId} {x : AV} {ux : Value} {lo hi mx : Option AV} {ulo uhi umx : Option Value} (hx : conc ρ x = some ux) (hlo : OptC ρ lo ulo) (hhi : OptC ρ hi uhi) (hmx : OptC ρ mx umx) :
    AN.okV P ρ S w ((Instr.sliceAt t ux ulo uhi umx).run P w) ((sliceA P t).f x lo hi mx S) := by
  unfold sliceA
  split
  · rename_i e hu
    split
    · rename_i z hz
      refine vSl_ok trivial (fun q => ?_) (fun b o n c q => ?_) (fun b o n c q => ?_)
      · subst q
        cases conc_nils hx
        refine cutN_ok hlo hhi hmx fun l h m hb => ?_
        simp [Instr.sliceAt, Instr.slice, run_underlying hu, hb, size_run hz]
      · subst q
        obtain ⟨g, off, cap, hb, hn, rfl⟩ := conc_slice hx
        refine cutA_ok hlo hhi hmx hb hn true fun l h m hb => ?_
        simp [Instr.sliceAt, Instr.slice, run_underlying hu, hb, size_run hz, addr_add, Nat.add_assoc]
        split <;> rfl
      · subst q
        obtain ⟨g, off, cap, hb, hn, rfl⟩ := conc_row hx
        refine cutR_ok hs hlo hhi hmx hb hn hz fun l h m hb => ?_
        simp [Instr.sliceAt, Instr.slice, run_underlying hu, hb, size_run hz, addr_add, Nat.add_assoc]
        split <;> rfl
    · exact trivial
  · rename_i n e hu
    split
    · rename_i z hz
      refine vPtr_ok trivial fun b o q => ?_
      subst q
      obtain ⟨g, off, cap, hb, rfl⟩ := conc_ptr hx
      refine cutA_ok hlo hhi hmx hb (Nat.le_refl _) false fun l h m hb => ?_
      simp [Instr.sliceAt, run_underlying hu, Instr.sureAddr, hb, size_run hz, addr_add, Nat.add_assoc]
    · exact trivial
  · rename_i hu
    refine vStr_ok trivial fun l q => ?_
    subst q
    obtain ⟨s, rfl, hs'⟩ := conc_str hx
    refine cutT_ok hs' hlo hhi hmx fun hm a h m hb => ?_
    subst hm
    simp [Instr.sliceAt, Instr.slice, run_underlying hu, hb]
  · exact trivial
end
end Go.Proofs.YtfmaapbibmnfgaaGreatDoor.Ev
namespace Go.Proofs.YtfmaapbibmnfgaaGreatDoor.Ev
variable [Vr]
section
variable {P : Program} {ρ : Rho} {S : AS} {w : World}

/-! ### New blocks -/
theorem newA_okQ {β : Type} {Q : β → Prop} {o : AO} {by_ : Nat} {no : β} {k : Nam → AS → β} (hno : Q no)
    (h : ∀ i : Nam, i.n = i.p.num → S.at i.p = .free → Q (k i ⟨hput S.top i.p o, S.lay, logA S i, Nat.add S.next by_⟩)) : Q (newA S o by_ no k) := by
  unfold newA
  refine cB_ok (fun hb => ?_) fun _ => hno
  unfold newI
  rw [getA_eq]
  show Q (oFree (S.at (nam S.next).p) no (k (nam S.next) ⟨hput S.top (nam S.next).p o, S.lay, logA S (nam S.next), Nat.add S.next by_⟩))
  cases e : S.at (nam S.next).p <;> first | exact hno | exact h _ (digs_num (k := S.next) (by simpa using hb)).symm e
/-- A new row of cells. -/
theorem Sat.newCells (hs : Sat P ρ S w) {i : Nam} {m : Md} {t : TypeId} {cs : List AV} {l : List Value} {arr : Array Value} {fz : Nat × Nat} {cap : Nat} {S' : AS} {w' : World} (hf : S.at i.p = .free)
    (hS : ∀ p, S'.at p = if p = i.p then .cells m t cs else S.at p) (htr : Tr S S') (hw : w'.heap = w.heap.push (.cells arr t fz)) (ho : w'.os = w.os) (ht : w'.tape = w.tape) (hout : w'.output = w.output)
    (hcs : concs ρ cs = some l) (hfz : fzFree fz arr.size) (hlies : ∀ (i : Nat) (v : Value), l[i]? = some v → arr[i]? = some v) (hown : m = .own → arr = l.toArray ∧ fz = (0, 0))
    (hrow : m = .row → ∀ z, sizeA P t = some z → cap * z ≤ arr.size ∧ cs.length ≤ cap * z) (_hlib : m ≠ .lib) :
    Sat P (ρ.set i.p (.blk w.heap.size 0 cap)) S' w' ∧ Ext ρ S w (ρ.set i.p (.blk w.heap.size 0 cap)) S' w' := by
  refine hs.new (o := .cells m t cs) hf hS htr hw ho ht hout fun hle => ?_
  exact ⟨w.heap.size, 0, cap, arr, fz, l, Rho.set_same _ _ _, by rw [hw]; simp, hfz, concs_mono hle _ hcs, fun i v h => by rw [Nat.zero_add]; exact hlies i v h,
    fun hm => ⟨rfl, hown hm⟩, fun hm z hz => by rw [Nat.zero_add]; exact hrow hm z hz, trivial⟩
theorem fz0 (n : Nat) : fzFree (0, 0) n := fun _ _ h => absurd h.2 (Nat.not_lt_zero _)
theorem new_own (hs : Sat P ρ S w) {t : TypeId} {cs : List AV} {l : List Value} {by_ : Nat} (hcs : concs ρ cs = some l) {k : Nam → AV} {u : Nat → Value} {r : Result Value}
    (hk : ∀ i ρ' g, look ρ' i = some (.blk g 0 0) → conc ρ' (k i) = some (u g))
    (hr : r = .ok (u w.heap.size) { w with heap := w.heap.push (.cells l.toArray t) }) : AN.okV P ρ S w r (newA S (.cells .own t cs) by_ .no fun i s => .val (k i) s) := by
  refine newA_okQ trivial fun i hi hf => ?_
  obtain ⟨h1, h2⟩ := hs.newCells (m := .own) (t := t) (cap := 0) (w' := { w with heap := w.heap.push (.cells l.toArray t) }) hf (at_put (by intro e; cases e) rfl) (Tr.put rfl) rfl rfl rfl rfl hcs (fz0 _)
    (fun i v h => by rw [List.getElem?_toArray]; exact h) (fun _ => ⟨rfl, rfl⟩) (fun h => by cases h) (fun h => by cases h)
  exact ⟨_, _, _, hr, h2, h1, hk i _ _ (look_set hi _)⟩
theorem newV_ok (hs : Sat P ρ S w) {t : TypeId} {v : AV} {u : Value} (hu : conc ρ v = some u) : AN.okV P ρ S w ((do pure (.pointer (some (← newVar t u))) : Sem Value).run P w) (newV S t (cellsA v)) := by
  refine new_own hs (cellsA_conc hu) (k := fun i => .ptr i 0) (u := fun g => .pointer (some ⟨g, 0, none⟩)) (fun i ρ' g h => by simp [conc, h]) ?_
  simp only [newVar, newRow, Sem.run_bind, run_newObj, Result.andThen_ok, Sem.run_pure, Array.toArray_toList]
theorem alloc_ok (hs : Sat P ρ S w) {t : TypeId} {z : AV} (hz : zeroA P t = some z) : AN.okV P ρ S w ((Instr.alloc t true (.tuple #[])).run P w) (newV S t (cellsA z)) := by
  obtain ⟨u, hr, hc⟩ := zero_run hz (ρ := ρ)
  have := newV_ok hs (t := t) hc
  simpa only [Instr.alloc, Sem.run_bind, hr, Result.andThen_ok] using this
theorem rep_eq {α : Type} (z : List α) : ∀ n, rep z (n + 1) = z ++ rep z n := fun n => by
  have : rep z (n + 1) = app z (rep z n) := rfl
  rw [this, app_eq]
theorem rep_zero {α : Type} (z : List α) : rep z 0 = [] := rfl
theorem rep_get {α : Type} (z : List α) : ∀ (n i : Nat), i < n * z.length → (rep z n)[i]? = z[i % z.length]?
  | 0, i, h => by simp at h
  | n + 1, i, h => by
    rw [rep_eq]
    by_cases c : i < z.length
    · rw [List.getElem?_append_left c, Nat.mod_eq_of_lt c]
    · rw [Nat.succ_mul] at h
      rw [List.getElem?_append_right (by omega), rep_get z n (i - z.length) (by omega)]
      rw [← Nat.mod_eq_sub_mod (by omega)]
theorem concs_rep {z : List AV} {l : List Value} (h : concs ρ z = some l) : ∀ n, concs ρ (rep z n) = some (rep l n)
  | 0 => rfl
  | n + 1 => by rw [rep_eq, rep_eq]; exact concs_append h (concs_rep h n)
/-- Zeros, as the model lays them. -/
theorem zeros_eq (z : Array Value) (n m : Nat) (h : m = n * z.size) : madeCells z m = (rep z.toList n).toArray := by
  subst h
  apply Array.ext_getElem?
  intro i
  by_cases c : i < n * z.size
  · rw [List.getElem?_toArray (xs := rep z.toList n), rep_get _ _ _ (by rw [Array.length_toList]; exact c)]
    have hz : 0 < z.size := by
      rcases Nat.eq_zero_or_pos z.size with e | e
      · rw [e] at c; simp at c
      · exact e
    have hm := Nat.mod_lt i hz
    simp [madeCells, c, hm]
  · rw [Array.getElem?_eq_none (by rw [size_madeCells]; omega), Array.getElem?_eq_none (by rw [List.size_toArray, rep_length, Array.length_toList]; omega)]
theorem makeSlice_ok (hs : Sat P ρ S w) {t : TypeId} {l c : AV} {ul uc : Value} (hl : conc ρ l = some ul) (hc : conc ρ c = some uc) : AN.okV P ρ S w ((Instr.makeSlice t ul uc).run P w) ((makeSliceA P t).f l c S) := by
  unfold makeSliceA
  split
  · rename_i e hu
    split
    · rename_i z zv hz hzv
      split
      · rename_i hlen
        refine vInt_ok trivial fun kl n e1 => ?_
        subst e1; cases conc_int hl
        refine vInt_ok trivial fun kc m e1 => ?_
        subst e1; cases conc_int hc
        refine cI_ok (fun n e1 => ?_) fun _ _ => trivial
        subst e1
        refine cI_ok (fun m e1 => ?_) fun _ _ => trivial
        subst e1
        refine cB_ok (fun hb => ?_) fun _ => trivial
        obtain ⟨hb1, hb2⟩ := bAnd_iff.1 hb
        have hnm : n ≤ m := by simpa using hb1
        have hsm : m * (z + 1 + bytesA P e) ≤ 1000000000 := by simpa [small] using hb2
        obtain ⟨u, hzr, hzc⟩ := zero_run hzv (ρ := ρ)
        have hcz := cellsA_conc hzc
        have hzl : u.cells.size = z := by
          have := concs_length hcz
          rw [Nat.beq_eq, len_eq] at hlen
          simp only [Array.length_toList] at this
          omega
        obtain ⟨ti, hti, htz⟩ := info_run hz
        have hby : bytesA P e = ti.bytes := by simp [bytesA, hti]
        have hm9 : m ≤ 1000000000 := Nat.le_trans (Nat.le_mul_of_pos_right m (by omega)) hsm
        have hbm : m * ti.bytes ≤ 1000000000 := by rw [← hby]; exact Nat.le_trans (Nat.mul_le_mul_left m (by omega)) hsm
        have hbm' : (ti.bytes : Int) * (m : Int) ≤ 281474976710656 := by
          have : (ti.bytes : Int) * (m : Int) = ((m * ti.bytes : Nat) : Int) := by rw [Int.natCast_mul, Int.mul_comm]
          rw [this]; omega
        have hzi : ti.zero = some u := by
          have := hzr w
          simp only [zeroValue, Sem.run_bind, typeInfo, run_program, hti, Result.andThen_ok, Sem.run_pure] at this
          cases hq : ti.zero with
          | none => rw [hq] at this; cases this
          | some y => rw [hq] at this; cases this; rfl
        have hrun := run_make (P := P) w t e ti u hu hti hzi kl kc n m (by omega) (by omega) hbm' (by omega)
        refine new_own hs (concs_rep hcz m) (k := fun i => .slice i 0 n m) (u := fun g => .slice (some ⟨g, 0, none⟩) n m) (fun i ρ' g h => by simp only [conc, h]; rw [if_pos hnm]) ?_
        rw [← zeros_eq u.cells m (m * ti.size) (by rw [htz, hzl])]
        exact hrun
      · exact trivial
    · exact trivial
  · exact trivial
theorem rep_one (v : Value) : ∀ n, rep [v] n = List.replicate n v
  | 0 => rfl
  | n + 1 => by rw [rep_eq, rep_one v n]; rfl
theorem makeFill_ok (hs : Sat P ρ S w) {t : TypeId} {l c : AV} {ul uc : Value} (hl : conc ρ l = some ul) (hc : conc ρ c = some uc) : AN.okV P ρ S w ((Instr.makeSlice t ul uc).run P w) ((makeFillA P t).f l c S) := by
  unfold makeFillA
  split
  · rename_i e hu
    split
    · rename_i zv hz hzv
      split
      · rename_i hlen
        refine vInt_ok trivial fun kl n e1 => ?_
        subst e1; cases conc_int hl
        refine vInt_ok trivial fun kc m e1 => ?_
        subst e1; cases conc_int hc
        refine cI_ok (fun n e1 => ?_) fun _ _ => trivial
        subst e1
        refine cI_ok (fun m e1 => ?_) fun _ _ => trivial
        subst e1
        refine cB_ok (fun hb => ?_) fun _ => trivial
        obtain ⟨hb1, hb2⟩ := bAnd_iff.1 hb
        have hnm : n ≤ m := by simpa using hb1
        have hsm : m * (1 + 1 + bytesA P e) ≤ 1000000000 := by simpa [small] using hb2
        obtain ⟨u, hzr, hzc⟩ := zero_run hzv (ρ := ρ)
        have hcz := cellsA_conc hzc
        have hzl : u.cells.size = 1 := by
          have hz8 : zv = .int .u8 (.ofNat 0) := by unfold isNil8 at hlen; split at hlen <;> first | rfl | cases hlen
          rw [hz8] at hzc
          cases conc_int hzc; rfl
        obtain ⟨ti, hti, htz⟩ := info_run hz
        have hby : bytesA P e = ti.bytes := by simp [bytesA, hti]
        have hm9 : m ≤ 1000000000 := Nat.le_trans (Nat.le_mul_of_pos_right m (by omega)) hsm
        have hbm : m * ti.bytes ≤ 1000000000 := by rw [← hby]; exact Nat.le_trans (Nat.mul_le_mul_left m (by omega)) hsm
        have hbm' : (ti.bytes : Int) * (m : Int) ≤ 281474976710656 := by
          have : (ti.bytes : Int) * (m : Int) = ((m * ti.bytes : Nat) : Int) := by rw [Int.natCast_mul, Int.mul_comm]
          rw [this]; omega
        have hzi : ti.zero = some u := by
          have := hzr w
          simp only [zeroValue, Sem.run_bind, typeInfo, run_program, hti, Result.andThen_ok, Sem.run_pure] at this
          cases hq : ti.zero with
          | none => rw [hq] at this; cases this
          | some y => rw [hq] at this; cases this; rfl
        have hrun := run_make (P := P) w t e ti u hu hti hzi kl kc n m (by omega) (by omega) hbm' (by omega)
        have hu8 : u.cells.toList = [.int .u8 0] := by
          have hz8 : zv = .int .u8 (.ofNat 0) := by unfold isNil8 at hlen; split at hlen <;> first | rfl | cases hlen
          rw [hz8] at hzc
          cases conc_int hzc; rfl
        have hmade : madeCells u.cells (m * ti.size) = Array.replicate m (.int .u8 (.ofNat 0)) := by
          rw [zeros_eq u.cells m (m * ti.size) (by rw [htz, hzl]), hu8]
          apply Array.ext'
          rw [rep_one]; simp
        refine newA_okQ trivial fun i hi hf => ?_
        obtain ⟨h1, h2⟩ := hs.new (o := .fill m 0) (off := 0) (cap := 0) (ob := .cells (Array.replicate m (.int .u8 (.ofNat 0))) e) (w' := { w with heap := w.heap.push (.cells (Array.replicate m (.int .u8 (.ofNat 0))) e) }) hf (at_put (by intro e; cases e) rfl) (Tr.put rfl) rfl rfl rfl rfl fun hle => ⟨w.heap.size, 0, e, Rho.set_same _ _ _, by simp, by decide⟩
        exact ⟨_, .slice (some ⟨w.heap.size, 0, none⟩) n m, _, by rw [← hmade]; exact hrun, h2, h1, by simp only [conc, look_set hi, if_pos hnm, Nat.add_zero]⟩
      · exact trivial
    · exact trivial
  · exact trivial
end
end Go.Proofs.YtfmaapbibmnfgaaGreatDoor.Ev
namespace Go.Proofs.YtfmaapbibmnfgaaGreatDoor.Ev
variable [Vr]
section
variable {P : Program} {ρ : Rho} {S : AS} {w : World}

/-! ### Sources -/
theorem lenS_run {x : AV} {n : Nat} {u : Value} (h : lenS x = some n) (hu : conc ρ x = some u) : (∀ w, (Builtin.lenOf u).run P w = .ok n w) ∧ ∃ a c, u = .slice a n c := by
  have h' : vSlT x none (some 0) (fun _ _ n _ => some n) (fun _ _ n _ => some n) (fun _ _ _ _ => some 0) = some n := h
  rcases vSlT_some h' with ⟨rfl, h1⟩ | ⟨b, o, m, c, rfl, h1⟩ | ⟨b, o, m, c, rfl, h1⟩ | ⟨b, o, p, c, rfl, h1⟩
  · cases h1; cases conc_nils hu; exact ⟨fun _ => rfl, _, _, rfl⟩
  · cases h1; obtain ⟨_, _, _, _, _, rfl⟩ := conc_slice hu; exact ⟨fun _ => rfl, _, _, rfl⟩
  · cases h1; obtain ⟨_, _, _, _, _, rfl⟩ := conc_row hu; exact ⟨fun _ => rfl, _, _, rfl⟩
  · cases h1; obtain ⟨_, _, _, _, _, rfl⟩ := conc_tail hu; exact ⟨fun _ => rfl, _, _, rfl⟩
theorem firstS_run (hs : Sat P ρ S w) {z n : Nat} {x : AV} {q : List AV} {u : Value} (h : firstS z n x S = some q) (hl : ∃ m, lenS x = some m ∧ n ≤ m) (hu : conc ρ x = some u) :
    ∃ vs, concs ρ q = some vs ∧ vs.length = n * z ∧ ∀ w', w'.heap = w.heap → (Builtin.firstCells z n u).run P w' = .ok vs.toArray w' := by
  have h' : vSlT x none (some []) (fun b o _ _ => oCells (getA S b) none fun _ _ cs => tke (Nat.mul n z) (drp o cs)) (fun b o _ _ => oCells (getA S b) none fun _ _ cs => tke (Nat.mul n z) (drp o cs)) (fun _ _ _ _ => some []) = some q := h
  have key : ∀ (b : Nam) (o : Nat) (g off cap : Nat) (len c : Nat), look ρ b = some (.blk g off cap) → (oCells (getA S b) none fun _ _ cs => tke (Nat.mul n z) (drp o cs)) = some q →
      ∃ vs, concs ρ q = some vs ∧ vs.length = n * z ∧ ∀ w', w'.heap = w.heap → (Builtin.firstCells z n (.slice (some ⟨g, off + o, none⟩) len c)).run P w' = .ok vs.toArray w' := fun b o g off cap len c hb hq => by
    obtain ⟨m, e, cs, ho, h2⟩ := oCells_some hq
    rw [getA_eq] at ho
    obtain ⟨g', off', cap', arr, fz, l, r⟩ := relC_of hs ho
    have := look_path hb
    rw [r.here] at this
    cases this
    obtain ⟨h5, h6⟩ := tke_some _ _ _ h2
    rw [drp_eq] at h5 h6
    subst h5
    rw [List.length_drop] at h6
    have hlen := concs_length r.vals
    have h6 : n * z ≤ cs.length - o := h6
    have hvl : ((l.drop o).take (n * z)).length = n * z := by rw [List.length_take, List.length_drop]; omega
    refine ⟨(l.drop o).take (n * z), concs_take (concs_drop r.vals), hvl, fun w' hw' => ?_⟩
    have hcell : ∀ j v, ((l.drop o).take (n * z))[j]? = some v → w'.cell? ((⟨g, off + o, none⟩ : Addr).add j) = some v := fun j v hj => by
      rw [addr_add, Nat.add_assoc]
      have := r.cell (i := o + j) (v := v) (by
        rw [List.getElem?_take] at hj
        split at hj
        · rw [List.getElem?_drop] at hj; exact hj
        · cases hj)
      simpa only [World.cell?, hw'] using this
    have := run_firstCells_some (P := P) w' z n ⟨g, off + o, none⟩ len c _ hvl hcell
    exact this
  rcases vSlT_some h' with ⟨rfl, h1⟩ | ⟨b, o, m, c, rfl, h1⟩ | ⟨b, o, m, c, rfl, h1⟩ | ⟨b, o, p, c, rfl, h1⟩
  · cases h1; cases conc_nils hu
    obtain ⟨m, hm, hn⟩ := hl
    have hm0 : m = 0 := by cases hm; rfl
    have : n = 0 := by omega
    subst this
    exact ⟨[], rfl, by simp, fun w' _ => by simp [Builtin.firstCells]⟩
  · obtain ⟨g, off, cap, hb, _, rfl⟩ := conc_slice hu; exact key b o g off cap _ _ hb h1
  · obtain ⟨g, off, cap, hb, _, rfl⟩ := conc_row hu; exact key b o g off cap _ _ hb h1
  · cases h1
    obtain ⟨g, off, cap, hb, _, rfl⟩ := conc_tail hu
    obtain ⟨m, hm, hn⟩ := hl
    have hm0 : m = 0 := by cases hm; rfl
    have : n = 0 := by omega
    subst this
    exact ⟨[], rfl, by simp, fun w' _ => by simp [Builtin.firstCells, loadCells, loadCellsFrom]⟩

/-! ### Appending, in the model -/
theorem append_room {ats : Array TypeId} {sT yT ty e e2 : TypeId} {base : Option Addr} {sLen sCap n z : Nat} {x : Value} {news : List Value} (h0 : ats[0]? = some sT) (h1 : ats[1]? = some yT)
    (hu : P.underlying sT = some (.slice e)) (hy : P.underlying yT = some (.slice e2)) (hz : sizeA P e = some z) (hx : (Builtin.lenOf x).run P w = .ok n w) (hf : (Builtin.firstCells z n x).run P w = .ok news.toArray w)
    (hr : sLen + n ≤ sCap) {w' : World} (hst : ∀ a, base = some a → (storeCells (a.add (sLen * z)) news).run P w = .ok () w') (hn : base = none → w' = w) :
    (Builtin.append_ ats ty #[.slice base sLen sCap, x]).run P w = .ok (.slice base (sLen + n) sCap) w' := by
  cases base with
  | none =>
    cases hn rfl
    simp [Builtin.append_, h0, h1, run_underlying hu, run_underlying hy, size_run hz, hx, hr, hf]
  | some a =>
    have := hst a rfl
    simp [Builtin.append_, h0, h1, run_underlying hu, run_underlying hy, size_run hz, hx, hr, hf, this]
theorem append_grow {ats : Array TypeId} {sT yT ty e e2 : TypeId} {base : Option Addr} {sLen sCap n z : Nat} {x zv : Value} {olds news : List Value} (h0 : ats[0]? = some sT) (h1 : ats[1]? = some yT)
    (hu : P.underlying sT = some (.slice e)) (hy : P.underlying yT = some (.slice e2)) (hz : sizeA P e = some z) (hzv : ∀ w, (zeroValue e).run P w = .ok zv w) (hx : (Builtin.lenOf x).run P w = .ok n w)
    (hf : (Builtin.firstCells z n x).run P w.drew = .ok news.toArray w.drew) (ho : (Builtin.firstCells z sLen (.slice base sLen sCap)).run P w.drew = .ok olds.toArray w.drew)
    (hr : sCap < sLen + n) (hfit : (sLen + n) * (bytesA P e + 1) ≤ 1000000000) :
    (Builtin.append_ ats ty #[.slice base sLen sCap, x]).run P w = .ok (.slice (some ⟨w.heap.size, 0, none⟩) (sLen + n) (grownCap w (sLen + n) sCap e))
      (w.drew.alloc (.cells (olds.toArray ++ news.toArray ++ Builtin.zeroCells zv.cells (grownCap w (sLen + n) sCap e - (sLen + n))) e)) := by
  obtain ⟨ti, hti, htz⟩ := info_run hz
  have hby : bytesA P e = ti.bytes := by simp [bytesA, hti]
  have hn : ¬ (sLen + n ≤ sCap) := by omega
  have hb : (sLen + n) * ti.bytes ≤ 1000000000 := by rw [← hby]; exact Nat.le_trans (Nat.mul_le_mul_left _ (by omega)) hfit
  have hl : sLen + n ≤ 1000000000 := Nat.le_trans (Nat.le_mul_of_pos_right _ (by omega)) hfit
  have h63' : ¬ (9223372036854775807 < ((sLen : Int) + (n : Int))) := by omega
  have h48 := growslice_fits (bytes := ti.bytes) hr (by omega)
  have h48' : ¬ (281474976710656 < Builtin.nextslicecap (sLen + n) sCap * ti.bytes) := by omega
  have hz' : ∀ w, (sizeOf e).run P w = .ok z w := fun w => size_run hz
  simp [Builtin.append_, h0, h1, run_underlying hu, run_underlying hy, hz', typeInfo, hti, hzv, hx, hn, h63', h48', Question.forced, hf, ho, newRow, grownCap]
  congr 2
  apply Array.ext'
  simp

/-! ### Appending -/
theorem zeroCells_size (z : Array Value) (n : Nat) : (Builtin.zeroCells z n).size = n * z.size := by simp [Builtin.zeroCells]
/-- A grown row, with a new name. -/
theorem grown_ok (hs : Sat P ρ S w) {i : Nam} {e : TypeId} {old new : List AV} {olds news zl : List Value} {cap z n : Nat} {S' : AS} (hi : i.n = i.p.num) (hf : S.at i.p = .free)
    (hS : ∀ p, S'.at p = if p = i.p then .cells .row e (old ++ new) else S.at p) (htr : Tr S S') (ho : concs ρ old = some olds) (hn : concs ρ new = some news) (hz : sizeA P e = some z)
    (hlen : olds.length + news.length = n * z) (hcap : n ≤ cap) (hzl : zl.length = (cap - n) * z) {r : Result Value}
    (hr : r = .ok (.slice (some ⟨w.heap.size, 0, none⟩) n cap) (w.drew.alloc (.cells (olds.toArray ++ news.toArray ++ zl.toArray) e))) :
    AN.okV P ρ S w r (.val (.row i 0 n 0) S') := by
  have harr : olds.toArray ++ news.toArray ++ zl.toArray = (olds ++ news ++ zl).toArray := by simp
  have hsz : (olds ++ news ++ zl).length = cap * z := by
    simp only [List.length_append, hzl, hlen]
    rw [← Nat.add_mul]; congr 1; omega
  have hol := concs_length ho
  have hnl := concs_length hn
  obtain ⟨h1, h2⟩ := hs.newCells (m := .row) (t := e) (cap := cap) (arr := (olds ++ news ++ zl).toArray) (fz := (0, 0)) (w' := w.drew.alloc (.cells (olds.toArray ++ news.toArray ++ zl.toArray) e)) hf hS htr (by rw [harr]; rfl) rfl rfl rfl
    (concs_append ho hn) (fz0 _) (fun i v h => by rw [List.getElem?_toArray, List.getElem?_append_left (List.getElem?_eq_some_iff.1 h).1]; exact h) (fun h => by cases h)
    (fun _ z' hz' => by
      rw [hz] at hz'; cases hz'
      refine ⟨by rw [List.size_toArray, hsz]; exact Nat.le_refl _, ?_⟩
      rw [List.length_append, ← hol, ← hnl, hlen]
      exact Nat.mul_le_mul_right z hcap) (fun h => by cases h)
  refine ⟨_, .slice (some ⟨w.heap.size, 0, none⟩) n cap, _, hr, h2, h1, ?_⟩
  simp only [conc, look_set hi]
  rw [if_pos (by omega)]; rfl
theorem rowI_okQ {β : Type} {Q : β → Prop} {rs : Nat} {b : Nam} {o : AO} {no : β} {k : Nam → AS → β} (hno : Q no)
    (h : ∀ (i : Nam) (m : Nat), i.n = i.p.num → S.at i.p = .free → Q (k i ⟨hput S.top i.p o, S.lay, logA S i, m⟩)) : Q (rowI rs b o S no k) := by
  unfold rowI
  have hnew : Q (newA S o 1 no k) := newA_okQ hno fun i hi hf => h i _ hi hf
  refine cB_ok (fun hb => ?_) fun _ => hnew
  rw [getA_eq]
  have h1 := (bAnd_iff.1 (bAnd_iff.1 hb).2).2
  have hi : (nam (b.n + 1)).n = (nam (b.n + 1)).p.num := (digs_num (k := b.n + 1) (by simpa using h1)).symm
  cases e : S.at (nam (Nat.add b.n 1)).p with
  | free =>
    show Q (newI S (nam (Nat.add b.n 1)) o 0 no k)
    unfold newI
    rw [getA_eq]
    have e' : S.at (nam (b.n + 1)).p = .free := e
    rw [e]
    exact h _ _ hi e'
  | _ => exact hnew
theorem grow_ok (hs : Sat P ρ S w) {rs e e2 : Nat} {z n : Nat} {x : AV} {ux uv : Value} {new : List AV} {news : List Value} {ats : Array TypeId} {sT yT ty : TypeId} {zv : AV} (h0 : ats[0]? = some sT) (h1 : ats[1]? = some yT)
    (hu : P.underlying sT = some (.slice e)) (hy : P.underlying yT = some (.slice e2)) (hz : sizeA P e = some z) (hz0 : 0 < z) (hzv : zeroA P e = some zv) (hzl : len (cellsA zv) = z) (hx : conc ρ x = some ux)
    (hln : ∀ w, (Builtin.lenOf uv).run P w = .ok n w) (hfn : ∀ w', w'.heap = w.heap → (Builtin.firstCells z n uv).run P w' = .ok news.toArray w') (hnews : concs ρ new = some news) (hnl : news.length = n * z) (hone : ∀ y ∈ news, y.oneCell' = true) :
    AN.okV P ρ S w ((Builtin.append_ ats ty #[ux, uv]).run P w) (growA rs e z (bytesA P e + 1) x n new S) := by
  obtain ⟨uz, hzr, hzc⟩ := zero_run hzv (ρ := ρ)
  have hzs : uz.cells.size = z := by
    have := concs_length (cellsA_conc hzc)
    rw [len_eq] at hzl
    simp only [Array.length_toList] at this
    omega
  have hnewl := concs_length hnews
  -- where there is no room
  have hgrow : ∀ {S1 : AS} (hs1 : Sat P ρ S1 w) (hext : Ext ρ S w ρ S1 w) {base : Option Addr} {l cap : Nat} {old : List AV} {olds : List Value} {i : Nam} {S' : AS} (_ : i.n = i.p.num) (_ : S1.at i.p = .free)
      (_ : ∀ p, S'.at p = if p = i.p then .cells .row e (old ++ new) else S1.at p) (_ : Tr S1 S'), concs ρ old = some olds → olds.length = l * z → (Builtin.firstCells z l (.slice base l cap)).run P w.drew = .ok olds.toArray w.drew → cap < l + n →
      (l + n) * (bytesA P e + 1) ≤ 1000000000 → AN.okV P ρ S w ((Builtin.append_ ats ty #[.slice base l cap, uv]).run P w) (.val (.row i 0 (l + n) 0) S') := by
    intro S1 hs1 hext base l cap old olds i S' hi hf hS htr hold hol hof hc hfit
    have hg := append_grow (ty := ty) (w := w) h0 h1 hu hy hz hzr (hln w) (hfn w.drew rfl) hof hc hfit
    have hcap := grownCap_ge w (l + n) cap e
    obtain ⟨ρ', u, w', a1, a2, a3, a4⟩ := grown_ok hs1 (z := z) (n := l + n) (cap := grownCap w (l + n) cap e) (zl := (Builtin.zeroCells uz.cells (grownCap w (l + n) cap e - (l + n))).toList) (r := (Builtin.append_ ats ty #[.slice base l cap, uv]).run P w) hi hf hS htr hold hnews hz (by rw [hol, hnl, Nat.add_mul]) hcap
      (by rw [Array.length_toList, zeroCells_size, hzs]) (by rw [Array.toArray_toList]; exact hg)
    exact ⟨ρ', u, w', a1, hext.trans a2, a3, a4⟩
  refine vSl_ok trivial (fun q => ?_) (fun b o l c q => ?_) (fun b o l c q => ?_)
  · subst q
    cases conc_nils hx
    refine cB_ok (fun hb => ?_) fun hb => ?_
    · rw [Nat.beq_eq] at hb
      subst hb
      have hr := append_room (ty := ty) (base := none) (sLen := 0) (sCap := 0) (w' := w) h0 h1 hu hy hz (hln w) (hfn w rfl) (Nat.le_refl _) (fun a h => by cases h) fun _ => rfl
      exact ⟨ρ, _, w, hr, Ext.refl _ _ _, hs, by simp only [conc]⟩
    · have hn0 : n ≠ 0 := by intro x; subst x; cases hb
      refine cB_ok (fun hsm => ?_) fun _ => trivial
      refine newA_okQ trivial fun i hi hf => ?_
      have hsm : n * (bytesA P e + 1) ≤ 1000000000 := by simpa [small] using hsm
      have := hgrow hs (Ext.refl _ _ _) (S' := ⟨hput S.top i.p (.cells .row e new), S.lay, logA S i, Nat.add S.next (maxM 1 rs)⟩) (base := none) (l := 0) (cap := 0) (old := []) (olds := []) hi hf (at_put (by intro e; cases e) rfl) (Tr.put rfl) rfl (by simp) (by simp [Builtin.firstCells]) (by omega) (by simpa using hsm)
      rw [Nat.zero_add] at this
      exact this
  · subst q
    obtain ⟨g, off, cap, hb, hlc, rfl⟩ := conc_slice hx
    refine oCells_ok trivial fun m e' cs ho => ?_
    refine cB_ok (fun hroom => ?_) fun hroom => ?_
    · have hroom : l + n ≤ c := by simpa using hroom
      have key : AN.okV P ρ S w ((Builtin.append_ ats ty #[.slice (some ⟨g, off + o, none⟩) l c, uv]).run P w) (cO (put new (Nat.add o (Nat.mul l z)) cs) .no fun cs' => .val (.slice b o (Nat.add l n) c) (putA S b (.cells m e' cs'))) := by
        refine cO_ok trivial fun cs' hp => ?_
        obtain ⟨a1, a2, a3⟩ := hs.write (by rw [← getA_eq]; exact ho) (look_path hb) hp hnews hone
        have hr := append_room (ty := ty) (base := some ⟨g, off + o, none⟩) (sLen := l) (sCap := c) (w' := w.setCells g (off + (o + l * z)) news) h0 h1 hu hy hz (hln w) (hfn w rfl) hroom
          (fun a h => by cases h; rw [addr_add, Nat.add_assoc]; exact a1) fun h => by cases h
        refine ⟨ρ, _, _, hr, a3, a2, ?_⟩
        simp only [conc, hb]
        exact if_pos hroom
      exact cMd_ok (fun _ => key) (fun _ => key) fun _ => trivial
    · have hroom : ¬ l + n ≤ c := by intro x; rw [show Nat.ble (Nat.add l n) c = true from Nat.ble_eq_true_of_le x] at hroom; cases hroom
      refine cB_ok (fun hsm => ?_) fun _ => trivial
      have hsm : (l + n + c) * (bytesA P e + 1) ≤ 1000000000 := by simpa [small] using hsm
      refine cO_ok trivial fun old hold => ?_
      obtain ⟨olds, b1, b2, b3⟩ := firstS_run hs (z := z) (n := l) (x := .slice b o l c) (q := old) (by
        show oCells (getA S b) none (fun _ _ cs => tke (Nat.mul l z) (drp o cs)) = some old
        rw [ho]; exact hold) ⟨l, rfl, Nat.le_refl _⟩ hx
      refine newA_okQ trivial fun i hi hf => ?_
      exact hgrow hs (Ext.refl _ _ _) hi hf (at_put (by intro e; cases e) (by rw [app_eq])) (Tr.put rfl) b1 b2 (b3 w.drew rfl) (by omega) (Nat.le_trans (Nat.mul_le_mul_right _ (by omega)) hsm)
  · subst q
    obtain ⟨g, off, cap, hb, hlc, rfl⟩ := conc_row hx
    refine cB_ok (fun hn0 => ?_) fun hn0 => ?_
    · rw [Nat.beq_eq] at hn0
      subst hn0
      have hnn : news = [] := by cases news with | nil => rfl | cons a t => simp at hnl
      subst hnn
      have hr := append_room (ty := ty) (base := some ⟨g, off + o, none⟩) (sLen := l) (sCap := cap - c) (w' := w) h0 h1 hu hy hz (hln w) (hfn w rfl) (by omega) (fun a h => rfl) fun _ => rfl
      refine ⟨ρ, _, w, hr, Ext.refl _ _ _, hs, ?_⟩
      simp only [conc, hb]; exact if_pos hlc
    · refine cB_ok (fun hsm => ?_) fun _ => trivial
      have hsm : (l + n) * (bytesA P e + 1) ≤ 1000000000 := by simpa [small] using hsm
      refine oCells_ok trivial fun m e' cs ho => ?_
      rw [getA_eq] at ho
      refine cMd_ok (fun _ => trivial) (fun hm => ?_) fun _ => trivial
      subst hm
      refine cB_ok (fun hc => ?_) fun _ => trivial
      obtain ⟨hc1, hc2⟩ := bAnd_iff.1 hc
      rw [Nat.beq_eq] at hc1 hc2
      subst hc1
      have hc2 : c * z = o := hc2
      obtain ⟨g', off', cap', arr, fz, ll, r⟩ := relC_of hs ho
      have := look_path hb
      rw [r.here] at this
      cases this
      obtain ⟨hrow1, hrow2⟩ := r.row rfl z hz
      cases hpt : put new (Nat.add o (Nat.mul l z)) cs with
      | some cs' =>
        simp only [cO_some]
        obtain ⟨a1, a2, a3⟩ := hs.write ho (look_path hb) hpt hnews hone
        obtain ⟨_, hfit⟩ := put_some _ _ _ _ hpt
        have hroom : l + n ≤ cap - c := by
          have hfit : o + l * z + new.length ≤ cs.length := hfit
          have h3 : (c + l + n) * z ≤ cap * z := by
            rw [Nat.add_mul, Nat.add_mul, hc2, ← hnl, hnewl]; omega
          have := Nat.le_of_mul_le_mul_right h3 hz0
          omega
        have hr := append_room (ty := ty) (base := some ⟨g, off + o, none⟩) (sLen := l) (sCap := cap - c) (w' := w.setCells g (off + (o + l * z)) news) h0 h1 hu hy hz (hln w) (hfn w rfl) hroom
          (fun a h => by cases h; rw [addr_add, Nat.add_assoc]; exact a1) fun h => by cases h
        refine ⟨ρ, _, _, hr, a3, a2, ?_⟩
        simp only [conc, hb]
        exact if_pos (by show l + n + c ≤ cap; omega)
      | none =>
        simp only [cO_none]
        refine cO_ok trivial fun old hold => ?_
        obtain ⟨olds, b1, b2, b3⟩ := firstS_run hs (z := z) (n := l) (x := .row b o l c) (q := old) (by
          show oCells (getA S b) none (fun _ _ cs => tke (Nat.mul l z) (drp o cs)) = some old
          rw [getA_eq, ho]; exact hold) ⟨l, rfl, Nat.le_refl _⟩ hx
        have hlive : (S.at b.p).live := by rw [ho]; exact trivial
        have hat1 : ∀ p, (putA S b .dead).at p = if p = b.p then .dead else S.at p := at_putA (by intro e; cases e)
        refine rowI_okQ trivial fun i mm hi hf => ?_
        have hib : i.p ≠ b.p ∧ S.at i.p = .free := by
          rw [hat1] at hf
          split at hf
          · cases hf
          · rename_i h; exact ⟨h, hf⟩
        have hat2 : ∀ p, (AS.at ⟨hput (putA S b .dead).top i.p (.cells .row e (app old new)), (putA S b .dead).lay, logA (putA S b .dead) i, mm⟩ p) = if p = i.p then .cells .row e (old ++ new) else (putA S b .dead).at p := at_put (by intro e; cases e) (by rw [app_eq])
        by_cases hroom : l + n ≤ cap - c
        · -- in place
          obtain ⟨hold1, hold2⟩ := tke_some _ _ _ hold
          rw [drp_eq] at hold1 hold2
          have hll := concs_length r.vals
          have hol : olds = (ll.drop o).take (l * z) := by
            have := concs_take (n := l * z) (concs_drop (n := o) r.vals)
            rw [hold1] at b1
            have h2 : concs ρ (List.take (l * z) (List.drop o cs)) = some olds := b1
            rw [h2] at this
            exact Option.some.inj this
          have hsp : off + o + l * z + news.length ≤ arr.size := by
            have h3 : (c + l + n) * z ≤ cap * z := Nat.mul_le_mul_right z (by omega)
            rw [Nat.add_mul, Nat.add_mul, hc2, ← hnl] at h3
            omega
          have hst := run_storeCells_cells (P := P) g (off + o + l * z) news 0 w (fun j hj => by
              simp only [World.cell?, r.obj, Nat.add_zero, Option.isSome_none, Bool.false_eq_true, if_false]
              rw [Array.getElem?_eq_getElem (by omega)]; rfl)
            (fun j hj => by
              have h2 := r.thaw (off + o + l * z + j) (by omega)
              simp only [World.frozen?, r.obj, Nat.add_zero]
              simpa using h2) hone
          rw [Nat.add_zero] at hst
          obtain ⟨a1, a2, a3, a4, a5, a6⟩ := setCells_facts (g := g) news (off + o + l * z) w arr r.obj
          have hr := append_room (ty := ty) (base := some ⟨g, off + o, none⟩) (sLen := l) (sCap := cap - c) (w' := w.setCells g (off + o + l * z) news) h0 h1 hu hy hz (hln w) (hfn w rfl) hroom
            (fun a h => by cases h; rw [addr_add]; exact hst) fun h => by cases h
          have hrel : Le ρ (ρ.set i.p (.blk g (off + o) (cap - c))) → relO P (ρ.set i.p (.blk g (off + o) (cap - c))) (w.setCells g (off + o + l * z) news).heap i.p (.cells .row e (old ++ new)) := by
            intro hle
            refine ⟨g, off + o, cap - c, _, fz, olds ++ news, Rho.set_same _ _ _, a1, (by rw [writes_size]; exact r.thaw), concs_mono hle _ (concs_append b1 hnews), fun j y hj => ?_, fun h => (by cases h), fun _ z' hz' => ?_, trivial⟩
            · rw [writes_get news _ _ _ (fun _ => hsp)]
              by_cases hj1 : j < l * z
              · rw [if_neg (by omega)]
                rw [List.getElem?_append_left (by omega), hol, List.getElem?_take_of_lt hj1, List.getElem?_drop] at hj
                rw [Nat.add_assoc]
                exact r.lies _ _ hj
              · rw [List.getElem?_append_right (by omega)] at hj
                have hj2 := (List.getElem?_eq_some_iff.1 hj).1
                rw [if_pos (by omega), show off + o + j - (off + o + l * z) = j - olds.length by omega]
                exact hj
            · rw [hz] at hz'; cases hz'
              rw [writes_size]
              have e1 : off + o + (cap - c) * z = off + cap * z := by
                rw [← hc2, Nat.add_assoc, ← Nat.add_mul]; congr 2; omega
              refine ⟨by omega, ?_⟩
              have h3 : (l + n) * z ≤ (cap - c) * z := Nat.mul_le_mul_right z hroom
              have hol' := concs_length b1
              rw [List.length_append, ← hol', ← hnewl, hnl, b2, ← Nat.add_mul]
              exact h3
          obtain ⟨c1, c2⟩ := hs.move (S' := ⟨hput (putA S b .dead).top i.p (.cells .row e (app old new)), (putA S b .dead).lay, logA (putA S b .dead) i, mm⟩) (b := b.p) (i := i) (o := .cells .row e (old ++ new)) (off' := off + o) (cap' := cap - c)
            (w' := w.setCells g (off + o + l * z) news) r.here hlive hib.2 (fun p => by rw [hat2, hat1]) ((Tr.put rfl).trans (Tr.put rfl)) hrel a3 a2 (fun es c h => by rw [a1] at h; cases h) a4 a5 a6
          refine ⟨_, _, _, hr, c2, c1, ?_⟩
          simp only [conc, look_set hi]
          exact if_pos (by show l + n + 0 ≤ cap - c; omega)
        · obtain ⟨k1, k2⟩ := hs.kill hat1 (Tr.put rfl)
          exact hgrow k1 k2 hi hf hat2 (Tr.put rfl) b1 b2 (b3 w.drew rfl) (by omega) hsm
theorem append_ok (hs : Sat P ρ S w) {rs : Nat} {x v : AV} {ux uv : Value} {ats : Array TypeId} {sT yT ty : TypeId} (h0 : ats[0]? = some sT) (h1 : ats[1]? = some yT) (hx : conc ρ x = some ux) (hv : conc ρ v = some uv) :
    AN.okV P ρ S w ((Builtin.append_ ats ty #[ux, uv]).run P w) ((appendA P rs sT yT).f x v S) := by
  unfold appendA
  split
  · rename_i e e2 hu hy
    split
    · rename_i z zv hz hzv
      split
      · rename_i hzl
        refine cO_ok trivial fun n hn => cO_ok trivial fun q hq => ?_
        refine cB_ok (fun hc => ?_) fun _ => trivial
        obtain ⟨h2, _⟩ := lenS_run (P := P) hn hv
        obtain ⟨vs, h3, h4, h5⟩ := firstS_run hs hq ⟨n, hn, Nat.le_refl _⟩ hv
        rw [Nat.beq_eq] at hzl
        exact grow_ok hs h0 h1 hu hy hz (Nat.succ_pos _) hzv hzl hx h2 h5 h3 h4 (allCell1_one hc h3)
      · exact trivial
    · exact trivial
  · exact trivial
end
end Go.Proofs.YtfmaapbibmnfgaaGreatDoor.Ev
