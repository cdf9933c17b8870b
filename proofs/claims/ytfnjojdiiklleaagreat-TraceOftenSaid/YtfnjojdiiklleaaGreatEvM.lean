/- A run of a program on abstract memory: storing, building, addresses, slices, new blocks. -/
import Derived.Test.YtfnjojdiiklleaaGreatEvJ
namespace Go.Proofs.YtfnjojdiiklleaaGreat.Ev
section
variable {P : Program} {ρ : Rho} {S : AS} {w : World}

theorem concs_nil' : concs ρ [] = some [] := rfl

/-! ### Cells of a value -/
theorem cellsA_other {v : AV} (h : ∀ l, v ≠ .agg l) : cellsA v = [v] := by
  cases v <;> first | rfl | exact absurd rfl (h _)
theorem conc_not_agg {v : AV} {u : Value} (h : ∀ l, v ≠ .agg l) (hu : conc ρ v = some u) : u.cells = #[u] := by
  cases v with
  | agg l => exact absurd rfl (h _)
  | tuple l => obtain ⟨r, rfl, _⟩ := conc_tuple hu; rfl
  | _ => have := cell1_one (v := _) (by rfl) hu; cases u <;> first | rfl | cases this
theorem cellsA_conc {v : AV} {u : Value} (hu : conc ρ v = some u) : concs ρ (cellsA v) = some u.cells.toList := by
  by_cases h : ∃ l, v = .agg l
  · obtain ⟨l, rfl⟩ := h
    obtain ⟨r, rfl, hr⟩ := conc_agg hu
    exact hr
  · have h' : ∀ l, v ≠ .agg l := fun l e => h ⟨l, e⟩
    rw [cellsA_other h', conc_not_agg h' hu]
    exact concs_cons' hu concs_nil'

/-! ### Storing -/
theorem putC_ok (hs : Sat P ρ S w) {b : Nam} {m : Md} {t : TypeId} {cs new : List AV} {o g off cap : Nat} {vs : List Value} (ho : S.at b.p = .cells m t cs) (hb : ρ b.p = some (.blk g off cap))
    (hv : concs ρ new = some vs) (h1 : ∀ v ∈ vs, v.oneCell' = true) : AN.okU P ρ S w ((storeCells ⟨g, off + o, none⟩ vs).run P w) (putC m t S b (put new o cs)) := by
  refine cO_ok trivial fun cs' hp => ?_
  obtain ⟨a1, a2, a3⟩ := hs.write ho hb hp hv h1
  exact ⟨rfl, ρ, _, a1, a3, a2⟩
theorem store_ok (hs : Sat P ρ S w) {t : TypeId} {a v : AV} {ua uv : Value} (ha : conc ρ a = some ua) (hv : conc ρ v = some uv) :
    AN.okU P ρ S w ((Instr.storeAt t ua uv).run P w) ((storeA P t).f a v S) := by
  unfold storeA
  split
  · rename_i n h1 h2
    refine vPtr_ok trivial fun b o e => ?_
    subst e
    refine oCells_ok trivial fun m e cs ho => ?_
    rw [getA_eq] at ho
    refine vAgg_ok trivial fun l e => ?_
    subst e
    refine cB_ok (fun hb => ?_) fun _ => trivial
    obtain ⟨hb1, hb2⟩ := bAnd_iff.1 hb
    obtain ⟨g, off, cap, hb, rfl⟩ := conc_ptr ha
    obtain ⟨r, rfl, hr⟩ := conc_agg hv
    have hl : r.length = n := by rw [Nat.beq_eq, len_eq] at hb1; rw [concs_length hr, hb1]
    have := putC_ok hs (o := o) ho (look_path hb) hr (allCell1_one hb2 hr)
    have e : (Instr.storeAt t (.pointer (some ⟨g, off + o, none⟩)) (.agg r.toArray)).run P w = (storeCells ⟨g, off + o, none⟩ r).run P w := by
      simp [Instr.storeAt, Instr.sureAddr, storeVar, Value.cells, size_run h2, hl]
    rw [e]
    exact cMd_ok (fun _ => this) (fun _ => this) fun _ => trivial
  · rename_i h1 h2
    refine vPtr_ok trivial fun b o e => ?_
    subst e
    refine oCells_ok trivial fun m e cs ho => ?_
    rw [getA_eq] at ho
    refine cB_ok (fun hc => ?_) fun _ => trivial
    obtain ⟨g, off, cap, hb, rfl⟩ := conc_ptr ha
    have h3 := cell1_one hc hv
    have h4 : uv.cells = #[uv] := by cases uv <;> first | rfl | cases h3
    have := putC_ok hs (o := o) ho (look_path hb) (concs_cons' hv concs_nil') (by intro x hx; rw [List.mem_singleton] at hx; subst hx; exact h3)
    have e : (Instr.storeAt t (.pointer (some ⟨g, off + o, none⟩)) uv).run P w = (storeCells ⟨g, off + o, none⟩ [uv]).run P w := by
      simp [Instr.storeAt, Instr.sureAddr, storeVar, h4, size_run h2]
    rw [e]
    exact cMd_ok (fun _ => this) (fun _ => this) fun _ => trivial
  · exact trivial

/-! ### Building -/
theorem foldl_writes (off : Nat) : ∀ (l : List Value) (k : Nat) (arr : Array Value), (l.zipIdx k).foldl (fun cs (x : Value × Nat) => cs.setIfInBounds (off + x.2) x.1) arr = writes arr (off + k) l
  | [], _, _ => rfl
  | v :: l, k, arr => by
    rw [List.zipIdx_cons, List.foldl_cons, foldl_writes off l (k + 1), writes]; rfl
theorem writes_list (l vs : List Value) (o : Nat) (h : o + vs.length ≤ l.length) : writes l.toArray o vs = (l.take o ++ (vs ++ l.drop (o + vs.length))).toArray := by
  apply Array.ext_getElem?
  intro i
  rw [writes_get vs o _ i (fun _ => by simpa using h), List.getElem?_toArray, List.getElem?_toArray]
  by_cases c1 : i < o
  · rw [if_neg (by omega), List.getElem?_append_left (by simp; omega), List.getElem?_take_of_lt c1]
  · rw [List.getElem?_append_right (by simp; omega)]
    simp only [List.length_take, show min o l.length = o by omega]
    by_cases c2 : i < o + vs.length
    · rw [if_pos (by omega), List.getElem?_append_left (by omega)]
    · rw [if_neg (by omega), List.getElem?_append_right (by omega), List.getElem?_drop, show o + vs.length + (i - o - vs.length) = i by omega]
theorem fill_ok {place : Nat → Option (Nat × Nat)} : ∀ (ps : List (Nat × AV)) (qs : List (Nat × Value)) (cs cs' : List AV) (l : List Value),
    All2 (fun a b => a.1 = b.1 ∧ conc ρ a.2 = some b.2) ps qs → concs ρ cs = some l → fillA place ps cs = some cs' → ∃ l', concs ρ cs' = some l' ∧ Instr.fill place l.toArray qs = some l'.toArray
  | [], _, cs, cs', l, h, hl, hf => by
    cases h
    have : cs = cs' := Option.some.inj hf
    subst this
    exact ⟨l, hl, rfl⟩
  | x :: ps, _, cs, cs', l, h, hl, hf => by
    cases h with
    | @cons _ y _ qs h1 h2 =>
    have hf' : cO (place x.1) none (fun q => cB (Nat.beq (len (cellsA x.2)) q.2) (cO (put (cellsA x.2) q.1 cs) none (fillA place ps)) none) = some cs' := hf
    obtain ⟨⟨off, size⟩, hp, hf1⟩ := cO_some' hf'
    obtain ⟨hz, hf2⟩ := cB_some hf1
    obtain ⟨cs1, hput, hf3⟩ := cO_some' hf2
    obtain ⟨e1, e2⟩ := put_some _ _ _ _ hput
    have hcx := cellsA_conc h1.2
    have hlx := concs_length hcx
    have hll := concs_length hl
    rw [Nat.beq_eq, len_eq] at hz
    simp only at hz e1 e2
    have h3 : concs ρ cs1 = some (l.take off ++ (y.2.cells.toList ++ l.drop (off + y.2.cells.toList.length))) := by
      rw [e1]; exact concs_append (concs_take hl) (concs_append hcx (by rw [← hlx]; exact concs_drop hl))
    obtain ⟨l', h4, h5⟩ := fill_ok ps qs cs1 cs' _ h2 h3 hf3
    refine ⟨l', h4, ?_⟩
    obtain ⟨i, v⟩ := y
    simp only at h1 hlx h3 h5 h4
    rw [Instr.fill, ← h1.1, hp]
    simp only
    rw [if_neg (by
      simp only [Array.length_toList] at hlx
      simp only [List.size_toArray, ne_eq, Bool.or_eq_true, decide_eq_true_eq, not_or, Nat.not_lt, gt_iff_lt]
      first
        | exact ⟨by omega, by omega⟩
        | omega)]
    rw [show (v.cells.zipIdx.foldl (fun cs (x : Value × Nat) => cs.setIfInBounds (off + x.2) x.1) l.toArray) = writes l.toArray off v.cells.toList by
      rw [← Array.foldl_toList, Array.toList_zipIdx]; exact foldl_writes off _ 0 _]
    rw [writes_list _ _ _ (by omega)]
    exact h5
end
end Go.Proofs.YtfnjojdiiklleaaGreat.Ev
namespace Go.Proofs.YtfnjojdiiklleaaGreat.Ev
section
variable {P : Program} {ρ : Rho} {S : AS} {w : World}

/-! ### Building -/
theorem mapM_run {α β : Type} {f : α → Sem β} {g : α → β} : ∀ {l : List α}, (∀ a ∈ l, (f a).run P w = .ok (g a) w) → (l.mapM f).run P w = .ok (l.map g) w
  | [], _ => by simp
  | a :: l, h => by
    rw [List.mapM_cons]
    simp only [Sem.run_bind, h a (by simp), Result.andThen_ok, mapM_run (l := l) (fun b hb => h b (by simp [hb])), Sem.run_pure, List.map_cons]
theorem build_ok {t : TypeId} {ps : List (Nat × AV)} {qs : List (Nat × Value)} (hp : All2 (fun a b => a.1 = b.1 ∧ conc ρ a.2 = some b.2) ps qs) :
    AN.okV P ρ S w ((Instr.build t qs.toArray).run P w) ((buildA P t).f ps) := by
  unfold buildA
  split
  · rename_i z fs hz hu
    split
    · rename_i hk
      refine cO_ok trivial fun l hl => ?_
      obtain ⟨u, hzr, hzc⟩ := zero_run hz (ρ := ρ)
      have hpl : ∀ f ∈ fs.toList, (do pure (f.offset, ← sizeOf f.type) : Sem (Nat × Nat)).run P w = .ok (f.offset, (sizeA P f.type).getD 0) w := fun f hf => by
        have h1 := List.all_eq_true.1 hk f hf
        obtain ⟨n, hn⟩ := Option.isSome_iff_exists.1 h1
        simp [size_run hn, hn]
      obtain ⟨l', h1, h2⟩ := fill_ok ps qs _ l _ hp (cellsA_conc hzc) hl
      have hm : (fs.mapM fun f => (do pure (f.offset, ← sizeOf f.type) : Sem (Nat × Nat))).run P w = .ok (fs.toList.map fun f => (f.offset, (sizeA P f.type).getD 0)).toArray w := by
        obtain ⟨fl⟩ := fs
        rw [List.mapM_toArray, Sem.run_map, mapM_run hpl]
        rfl
      have he : placeS P fs = fun i => ((fs.toList.map fun f => (f.offset, (sizeA P f.type).getD 0)).toArray)[i]? := by
        funext i
        have hk' : ∀ f ∈ fs.toList, (sizeA P f.type).isSome = true := fun f hf => List.all_eq_true.1 hk f hf
        clear h2 hm hpl hl hk hu
        obtain ⟨fl⟩ := fs
        simp only [placeS, List.getElem?_toArray, List.getElem?_map]
        cases hf : fl[i]? with
        | none => rfl
        | some f =>
          obtain ⟨n, hn⟩ := Option.isSome_iff_exists.1 (hk' f (List.mem_of_getElem? hf))
          simp only [hn, Option.map_some, Option.getD_some]
      rw [he] at h2
      refine ⟨.agg l'.toArray, by simp only [conc, h1], ?_⟩
      simp only [Instr.build, Sem.run_bind, hzr, Result.andThen_ok, run_underlying hu, hm]
      rw [Array.toArray_toList] at h2
      simp only [h2, Sem.run_pure]
    · exact trivial
  · rename_i z n e hz hu
    split
    · rename_i m hm
      refine cO_ok trivial fun l hl => ?_
      obtain ⟨u, hzr, hzc⟩ := zero_run hz (ρ := ρ)
      obtain ⟨l', h1, h2⟩ := fill_ok ps qs _ l _ hp (cellsA_conc hzc) hl
      refine ⟨.agg l'.toArray, by simp only [conc, h1], ?_⟩
      simp only [Instr.build, Sem.run_bind, hzr, Result.andThen_ok, run_underlying hu, size_run hm]
      rw [Array.toArray_toList] at h2
      have h3 : Instr.fill (fun i => some (i * m, m)) u.cells qs = some l'.toArray := h2
      simp only [h3, Sem.run_pure]
    · exact trivial
  · exact trivial

/-! ### Fields -/
theorem fieldAddr_ok {st : TypeId} {f : Nat} {a : AV} {u : Value} (hu : conc ρ a = some u) : AN.okV P ρ S w ((Instr.fieldAt st u f).run P w) ((fieldAddrA P st f).f a) := by
  unfold fieldAddrA
  split
  · rename_i fs hs
    split
    · rename_i fd hf
      split
      · rename_i z hz
        refine vPtr_ok trivial fun b o e => ?_
        subst e
        obtain ⟨g, off, cap, hb, rfl⟩ := conc_ptr hu
        refine ⟨.pointer (some ⟨g, off + (o + fd.offset), none⟩), by simp only [conc, hb]; rfl, ?_⟩
        simp [Instr.fieldAt, run_underlying hs, hf, Instr.sureAddr, fieldPlace, size_run hz, addr_add, Nat.add_assoc]
      · exact trivial
    · exact trivial
  · exact trivial
theorem field_ok {st : TypeId} {f : Nat} {a : AV} {u : Value} (hu : conc ρ a = some u) : AN.okV P ρ S w ((Instr.field st u f).run P w) ((fieldA P st f).f a) := by
  unfold fieldA
  split
  · rename_i fs hs
    split
    · rename_i fd hf
      refine vAgg_ok trivial fun l e => ?_
      subst e
      obtain ⟨r, rfl, hr⟩ := conc_agg hu
      refine cO_ok trivial fun v hv => ?_
      obtain ⟨y, hy, hrun⟩ := part_ok (w := w) hv hr
      refine ⟨y, hy, ?_⟩
      simp [Instr.field, run_underlying hs, hf, asAgg, hrun]
    · exact trivial
  · exact trivial

/-! ### Indexes -/
theorem idx_some {x : AV} {n k : Nat} {u : Value} (h : idxA x n = some k) (hu : conc ρ x = some u) : ∃ kd, u = .int kd k ∧ k < n := by
  have h' : vInt x none (fun _ i => cI i (fun m => cB (Nat.blt m n) (some m) none) fun _ => none) = some k := h
  obtain ⟨kd, i, rfl, h1⟩ := vInt_some h'
  cases conc_int hu
  cases i with
  | ofNat m =>
    have h2 : cB (Nat.blt m n) (some m) none = some k := h1
    obtain ⟨h3, h4⟩ := cB_some h2
    cases h4
    exact ⟨kd, rfl, by simpa using h3⟩
  | negSucc m => cases h1
theorem indexAddr_ok {t : TypeId} {a i : AV} {ua ui : Value} (ha : conc ρ a = some ua) (hi : conc ρ i = some ui) : AN.okV P ρ S w ((Instr.indexAt t ua ui).run P w) ((indexAddrA P t).f a i) := by
  unfold indexAddrA
  split
  · rename_i n e hu
    split
    · rename_i z hz
      refine vPtr_ok trivial fun b o e => ?_
      subst e
      refine cO_ok trivial fun k hk => ?_
      obtain ⟨kd, rfl, hlt⟩ := idx_some hk hi
      obtain ⟨g, off, cap, hb, rfl⟩ := conc_ptr ha
      refine ⟨.pointer (some ⟨g, off + (o + k * z), none⟩), by simp only [conc, hb]; rfl, ?_⟩
      simp [Instr.indexAt, asIntOf, run_underlying hu, Instr.sureAddr, size_run hz, addr_add, Nat.add_assoc, hlt]
    · exact trivial
  · rename_i e hu
    split
    · rename_i z hz
      refine vSl_ok trivial (fun _ => trivial) (fun b o n c e => ?_) (fun b o n c e => ?_)
      · subst e
        refine cO_ok trivial fun k hk => ?_
        obtain ⟨kd, rfl, hlt⟩ := idx_some hk hi
        obtain ⟨g, off, cap, hb, _, rfl⟩ := conc_slice ha
        refine ⟨.pointer (some ⟨g, off + (o + k * z), none⟩), by simp only [conc, hb]; rfl, ?_⟩
        simp [Instr.indexAt, asIntOf, run_underlying hu, size_run hz, addr_add, Nat.add_assoc, hlt]
      · subst e
        refine cO_ok trivial fun k hk => ?_
        obtain ⟨kd, rfl, hlt⟩ := idx_some hk hi
        obtain ⟨g, off, cap, hb, _, rfl⟩ := conc_row ha
        refine ⟨.pointer (some ⟨g, off + (o + k * z), none⟩), by simp only [conc, hb]; rfl, ?_⟩
        simp [Instr.indexAt, asIntOf, run_underlying hu, size_run hz, addr_add, Nat.add_assoc, hlt]
    · exact trivial
  · exact trivial
theorem text_get {l : List Nat} {s : ByteArray} {k b : Nat} (hs : textOf l = some s) (hb : l[k]? = some b) : s[k]? = some b.toUInt8 ∧ b.toUInt8.toNat = b := by
  obtain ⟨rfl, hall⟩ := textOf_some hs
  have hb256 := hall b (List.mem_of_getElem? hb)
  refine ⟨?_, by simp [Nat.toUInt8, UInt8.toNat_ofNat', Nat.mod_eq_of_lt hb256]⟩
  have hlt : k < l.length := (List.getElem?_eq_some_iff.1 hb).1
  have h : k < ByteArray.size ⟨(l.map Nat.toUInt8).toArray⟩ := by simpa [ByteArray.size] using hlt
  rw [getElem?_pos (⟨(l.map Nat.toUInt8).toArray⟩ : ByteArray) k h]
  congr 1
  show (l.map Nat.toUInt8).toArray[k]'(by simpa using hlt) = _
  simp [(List.getElem?_eq_some_iff.1 hb).2]
theorem index_ok {t : TypeId} {a i : AV} {ua ui : Value} (ha : conc ρ a = some ua) (hi : conc ρ i = some ui) : AN.okV P ρ S w ((Instr.index t ua ui).run P w) ((indexA P t).f a i) := by
  unfold indexA
  split
  · rename_i n e hu
    split
    · rename_i z hz
      refine vAgg_ok trivial fun l e => ?_
      subst e
      refine cO_ok trivial fun k hk => ?_
      obtain ⟨kd, rfl, hlt⟩ := idx_some hk hi
      obtain ⟨r, rfl, hr⟩ := conc_agg ha
      refine cO_ok trivial fun v hv => ?_
      obtain ⟨y, hy, hrun⟩ := part_ok (w := w) hv hr
      have hrun : (part e r.toArray (k * z)).run P w = .ok y w := hrun
      refine ⟨y, hy, ?_⟩
      simp [Instr.index, asIntOf, run_underlying hu, size_run hz, hlt, hrun]
    · exact trivial
  · rename_i hu
    refine vStr_ok trivial fun l e => ?_
    subst e
    refine cO_ok trivial fun k hk => ?_
    obtain ⟨kd, rfl, hlt⟩ := idx_some hk hi
    refine cO_ok trivial fun b hb => ?_
    obtain ⟨s, rfl, hs⟩ := conc_str ha
    rw [nth_eq] at hb
    obtain ⟨hg, hb2⟩ := text_get hs hb
    refine get_int' ?_
    simp [Instr.index, asIntOf, run_underlying hu, hg, hb2]
  · exact trivial
end
end Go.Proofs.YtfnjojdiiklleaaGreat.Ev
namespace Go.Proofs.YtfnjojdiiklleaaGreat.Ev
section
variable {P : Program} {ρ : Rho} {S : AS} {w : World}

/-! ### Slices -/
/-- Values that may be left out. -/
noncomputable def OptC (ρ : Rho) (x : Option AV) (u : Option Value) : Prop := match x, u with
  | none, none => True
  | some v, some y => conc ρ v = some y
  | _, _ => False
theorem bnd_run {x : AV} {y y' n : Nat} {u : Value} {code : BoundsCode} (h : bndA x y = some n) (hu : conc ρ x = some u) (hy : y ≤ y') : (Instr.sliceBound u y' code).run P w = .ok n w ∧ n ≤ y := by
  have h' : vInt x none (fun _ i => cI i (fun m => cB (Nat.ble m y) (some m) none) fun _ => none) = some n := h
  obtain ⟨kd, i, rfl, h1⟩ := vInt_some h'
  cases conc_int hu
  cases i with
  | ofNat m =>
    have h2 : cB (Nat.ble m y) (some m) none = some n := h1
    obtain ⟨h3, h4⟩ := cB_some h2
    have h5 : m = n := Option.some.inj h4
    subst h5
    have h5 : m ≤ y := by simpa using h3
    refine ⟨?_, h5⟩
    have h6 : m ≤ y' := by omega
    have h7 : (m : Int) ≤ (y' : Int) := by omega
    simp only [Instr.sliceBound, asIntOf, Sem.run_bind, Sem.run_pure, Result.andThen_ok, Int.ofNat_eq_natCast]
    rw [if_pos ⟨by omega, h7⟩]
    rfl
  | negSucc m => cases h1
/-- The bounds of a slice, where there is room at least for what is known. -/
theorem bounds_run {isS : Bool} {n c c' m h l d : Nat} {lo hi mx : Option AV} {ulo uhi umx : Option Value} (hlo : OptC ρ lo ulo) (hhi : OptC ρ hi uhi) (hmx : OptC ρ mx umx)
    (h0 : mx = none ∨ hi ≠ none) (hm : bndO mx c d = some m) (hh : bndO hi n m = some h) (hl : bndO lo 0 h = some l) (hd : mx = none → m ≤ c') (hd2 : mx ≠ none → d ≤ c') :
    (Instr.sliceBounds isS n c' ulo uhi umx).run P w = .ok (l, h, if mx = none then c' else m) w ∧ l ≤ h ∧ (hi ≠ none → h ≤ m) ∧ (hi = none → h = n) ∧ (mx ≠ none → m ≤ d) := by
  have hlo' : l ≤ h ∧ ((lo = none ∧ ulo = none ∧ l = 0) ∨ ∃ y, ulo = some y ∧ ∀ code, (Instr.sliceBound y h code).run P w = .ok l w) := by
    cases lo with
    | none => cases ulo with
      | none => cases hl; exact ⟨Nat.zero_le _, .inl ⟨rfl, rfl, rfl⟩⟩
      | some _ => exact hlo.elim
    | some v => cases ulo with
      | none => exact hlo.elim
      | some y => exact ⟨(bnd_run (P := P) (w := w) (code := .index) (h := hl) hlo (Nat.le_refl _)).2, .inr ⟨y, rfl, fun code => (bnd_run (h := hl) hlo (Nat.le_refl _)).1⟩⟩
  obtain ⟨hlh, hlo'⟩ := hlo'
  have fin : ∀ (m' : Nat) (code : BoundsCode), ((match (generalizing := false) ulo with
      | some v => do let l ← Instr.sliceBound v h code; pure (l, h, m')
      | none => do let l ← pure 0; pure (l, h, m')) : Sem (Nat × Nat × Nat)).run P w = .ok (l, h, m') w := fun m' code => by
    rcases hlo' with ⟨_, rfl, rfl⟩ | ⟨y, rfl, hr⟩
    · rfl
    · simp only [Sem.run_bind, hr code, Result.andThen_ok, Sem.run_pure]
  cases mx with
  | none =>
    cases umx with
    | some _ => exact hmx.elim
    | none =>
    cases hi with
    | none =>
      cases uhi with
      | some _ => exact hhi.elim
      | none =>
      cases hh
      refine ⟨?_, hlh, fun x => absurd rfl x, fun _ => rfl, fun x => absurd rfl x⟩
      rw [if_pos rfl]
      simp only [Instr.sliceBounds, Sem.run_bind, Sem.run_pure, Result.andThen_ok, Option.isSome_none, Bool.false_eq_true, if_false]
      exact fin _ _
    | some v =>
      cases uhi with
      | none => exact hhi.elim
      | some y =>
      have hb := fun code => bnd_run (P := P) (w := w) (code := code) (h := hh) hhi (y' := c') (hd rfl)
      refine ⟨?_, hlh, fun _ => (hb .sliceB).2, fun x => (by cases x), fun x => absurd rfl x⟩
      rw [if_pos rfl]
      simp only [Instr.sliceBounds, Sem.run_bind, Sem.run_pure, Result.andThen_ok, Option.isSome_none, Bool.false_eq_true, if_false, (hb _).1]
      exact fin _ _
  | some vm =>
    cases umx with
    | none => exact hmx.elim
    | some ym =>
    cases hi with
    | none => rcases h0 with h0 | h0 <;> first | cases h0 | exact absurd rfl h0
    | some v =>
      cases uhi with
      | none => exact hhi.elim
      | some y =>
      have ha := fun code => bnd_run (P := P) (w := w) (code := code) (h := hm) hmx (y' := c') (hd2 (by intro e; cases e))
      have hb := fun code => bnd_run (P := P) (w := w) (code := code) (h := hh) hhi (y' := m) (Nat.le_refl _)
      refine ⟨?_, hlh, fun _ => (hb .sliceB).2, fun x => (by cases x), fun _ => (ha .sliceB).2⟩
      rw [if_neg (by intro e; cases e)]
      simp only [Instr.sliceBounds, Sem.run_bind, Option.isSome_some, if_true, (ha _).1, (hb _).1, Result.andThen_ok]
      exact fin _ _
theorem hasO_iff {x : Option AV} : hasO x = true ↔ x ≠ none := by cases x <;> simp [hasO]
theorem guardM {mx hi : Option AV} (h : bAnd (hasO mx) (bNot (hasO hi)) = false) : mx = none ∨ hi ≠ none := by
  cases mx with
  | none => exact .inl rfl
  | some _ =>
    cases hi with
    | some _ => exact .inr (by intro e; cases e)
    | none => exact absurd h (by simp [hasO, bAnd, bNot])
theorem cutA_ok {z : Nat} {b : Nam} {o n c g off cap : Nat} {lo hi mx : Option AV} {ulo uhi umx : Option Value} (hlo : OptC ρ lo ulo) (hhi : OptC ρ hi uhi) (hmx : OptC ρ mx umx) (hb : look ρ b = some (.blk g off cap)) (hn : n ≤ c) (isS : Bool)
    {r : Result Value} (hr : ∀ l h m, (Instr.sliceBounds isS n c ulo uhi umx).run P w = .ok (l, h, m) w → r = .ok (.slice (some (if m = l then ⟨g, off + o, none⟩ else ⟨g, off + (o + l * z), none⟩)) (h - l) (m - l)) w) :
    AN.okV P ρ S w r (cutA z b o n c lo hi mx) := by
  refine cB_ok (fun _ => trivial) fun hg => ?_
  refine cO_ok trivial fun m hm => cO_ok trivial fun h hh => cO_ok trivial fun l hl => ?_
  have hmc : m ≤ c := by
    cases mx with
    | none => cases hm; exact Nat.le_refl _
    | some v =>
      cases umx with
      | none => exact hmx.elim
      | some y => exact (bnd_run (P := P) (w := w) (code := .index) (h := hm) hmx (Nat.le_refl _)).2
  obtain ⟨h1, h2, h3, h4, h5⟩ := bounds_run (P := P) (w := w) (isS := isS) (c' := c) hlo hhi hmx (guardM hg) hm hh hl (fun _ => hmc) (fun _ => Nat.le_refl _)
  have hme : (if mx = none then c else m) = m := by
    cases mx with
    | none => cases hm; rfl
    | some v => rfl
  rw [hme] at h1
  have hhm : h ≤ m := by
    cases hi with
    | none =>
      rcases guardM hg with e | e
      · subst e; cases hm; rw [h4 rfl]; exact hn
      · exact absurd rfl e
    | some v => exact h3 (by intro e; cases e)
  rw [hr l h m h1]
  refine ⟨_, ?_, rfl⟩
  simp only [conc, hb]
  rw [if_pos (by show h - l ≤ m - l; omega)]
  simp only [offA]
  by_cases e : m = l
  · subst e; rw [if_pos rfl]; simp [cB]
  · rw [if_neg e]
    have : Nat.beq m l = false := by cases hx : Nat.beq m l with | false => rfl | true => rw [Nat.beq_eq] at hx; exact absurd hx e
    rw [this]; rfl
theorem cutN_ok {lo hi mx : Option AV} {ulo uhi umx : Option Value} (hlo : OptC ρ lo ulo) (hhi : OptC ρ hi uhi) (hmx : OptC ρ mx umx)
    {r : Result Value} (hr : ∀ l h m, (Instr.sliceBounds true 0 0 ulo uhi umx).run P w = .ok (l, h, m) w → r = .ok (.slice none (h - l) (m - l)) w) : AN.okV P ρ S w r (cutN lo hi mx) := by
  refine cB_ok (fun _ => trivial) fun hg => ?_
  refine cO_ok trivial fun m hm => cO_ok trivial fun h hh => cO_ok trivial fun l hl => ?_
  have hmc : m ≤ 0 := by
    cases mx with
    | none => cases hm; exact Nat.le_refl _
    | some v =>
      cases umx with
      | none => exact hmx.elim
      | some y => exact (bnd_run (P := P) (w := w) (code := .index) (h := hm) hmx (Nat.le_refl _)).2
  obtain ⟨h1, h2, h3, h4, h5⟩ := bounds_run (P := P) (w := w) (isS := true) (c' := 0) hlo hhi hmx (guardM hg) hm hh hl (fun _ => hmc) (fun _ => Nat.le_refl _)
  have hme : (if mx = none then 0 else m) = m := by
    cases mx with
    | none => cases hm; rfl
    | some v => rfl
  rw [hme] at h1
  have hh0 : h = 0 := by
    cases hi with
    | none => exact h4 rfl
    | some v => have := h3 (by intro e; cases e); omega
  rw [hr l h m h1]
  exact ⟨.slice none 0 0, by simp only [conc], by rw [hh0, show m = 0 by omega, Nat.zero_sub]⟩
theorem topR_le (hs : Sat P ρ S w) {e z : Nat} {b : Nam} {o n c g off cap : Nat} (hb : look ρ b = some (.blk g off cap)) (hn : n + c ≤ cap) (hz : sizeA P e = some z) : topR e z b o n c S + c ≤ cap := by
  unfold topR
  refine oCells_ok (Q := fun x => x + c ≤ cap) hn fun m e' cs ho => ?_
  rw [getA_eq] at ho
  refine cMd_ok (Q := fun x => x + c ≤ cap) (fun _ => hn) (fun hm => ?_) fun _ => hn
  refine cB_ok (Q := fun x => x + c ≤ cap) (fun h => ?_) fun _ => hn
  obtain ⟨h1, h2⟩ := bAnd_iff.1 h
  rw [Nat.beq_eq] at h1 h2
  subst h1
  obtain ⟨g', off', cap', arr, fz, l, r⟩ := relC_of hs ho
  have := look_path hb
  rw [r.here] at this
  cases this
  rw [maxM_eq, len_eq]
  have key := (r.row hm z hz).2
  have h2 : c * z = o := h2
  rcases Nat.eq_zero_or_pos z with h0 | h0
  · subst h0
    show max n ((cs.length - o) / 0) + c ≤ cap
    rw [Nat.div_zero]; omega
  · have h3 : (cs.length - o) / z ≤ cap - c := by
      rw [← h2]
      calc (cs.length - c * z) / z ≤ (cap * z - c * z) / z := Nat.div_le_div_right (by omega)
        _ = cap - c := by rw [← Nat.sub_mul, Nat.mul_div_cancel _ h0]
    show max n ((cs.length - o) / z) + c ≤ cap
    omega
theorem cutR_ok (hs : Sat P ρ S w) {e z : Nat} {b : Nam} {o n c g off cap : Nat} {lo hi mx : Option AV} {ulo uhi umx : Option Value} (hlo : OptC ρ lo ulo) (hhi : OptC ρ hi uhi) (hmx : OptC ρ mx umx)
    (hb : look ρ b = some (.blk g off cap)) (hn : n + c ≤ cap) (hz : sizeA P e = some z)
    {r : Result Value} (hr : ∀ l h m, (Instr.sliceBounds true n (cap - c) ulo uhi umx).run P w = .ok (l, h, m) w → r = .ok (.slice (some (if m = l then ⟨g, off + o, none⟩ else ⟨g, off + (o + l * z), none⟩)) (h - l) (m - l)) w) :
    AN.okV P ρ S w r (cutR e z b o n c lo hi mx S) := by
  have htop := topR_le hs hb hn hz (o := o)
  cases mx with
  | none =>
    cases umx with
    | some _ => exact hmx.elim
    | none =>
    simp only [cutR, cO_none]
    refine cO_ok trivial fun h hh => ?_
    have hh2 : ∃ y, bndO hi n y = some h ∧ y ≤ cap - c := by
      have hh' : cO (bndO hi n n) (bndO hi n (topR e z b o n c S)) some = some h := hh
      cases e1 : bndO hi n n with
      | some x => rw [e1] at hh'; cases hh'; exact ⟨n, e1, by omega⟩
      | none => rw [e1] at hh'; exact ⟨_, hh', by omega⟩
    obtain ⟨y, hh3, hy⟩ := hh2
    refine cO_ok trivial fun l hl => ?_
    obtain ⟨h1, h2, h3, h4, _⟩ := bounds_run (P := P) (w := w) (isS := true) (c := y) (d := y) (m := y) (c' := cap - c) hlo hhi (mx := none) (umx := none) trivial (.inl rfl) rfl hh3 hl (fun _ => hy) (fun x => absurd rfl x)
    rw [if_pos rfl] at h1
    have hhc : h ≤ cap - c := by
      cases hi with
      | none => rw [h4 rfl]; omega
      | some v => have := h3 (by intro e; cases e); omega
    rw [hr l h _ h1]
    have e1 : (if cap - c = l then (⟨g, off + o, none⟩ : Addr) else ⟨g, off + (o + l * z), none⟩) = ⟨g, off + (if cap - c = l then o else o + l * z), none⟩ := by split <;> rfl
    rw [e1]
    refine cB_ok (fun q => ?_) fun q => ?_
    · rw [Nat.beq_eq] at q
      subst q
      refine ⟨.slice (some ⟨g, off + o, none⟩) h (cap - c), by simp only [conc, hb]; rw [if_pos (by omega)], ?_⟩
      simp
    · have q : l ≠ 0 := by intro x; subst x; cases q
      have e2 : ∀ k, k < cap - c → l = k → (if cap - c = l then o else o + l * z) = o + l * z := fun k hk e => if_neg (by omega)
      refine cB_ok (fun q2 => ?_) fun q2 => ?_
      · have q2 : l < n := by simpa using q2
        refine ⟨.slice (some ⟨g, off + (o + l * z), none⟩) (h - l) (cap - (c + l)), by simp only [conc, hb]; rw [if_pos (by show (h - l) + (c + l) ≤ cap; omega)]; rfl, ?_⟩
        rw [e2 l (by omega) rfl, Nat.sub_add_eq]
      · refine cB_ok (fun q3 => ?_) fun q3 => ?_
        · rw [Nat.beq_eq] at q3
          subst q3
          refine ⟨.slice (some ⟨g, off + (if cap = c + l then o else o + l * z), none⟩) 0 (cap - (c + l)), by simp only [conc, hb]; rw [if_pos (by show c + l ≤ cap; omega)]; rfl, ?_⟩
          rw [Nat.sub_self, Nat.sub_add_eq]
          by_cases q4 : cap - c = l
          · rw [if_pos q4, if_pos (show cap = c + l by omega)]
          · rw [if_neg q4, if_neg (show ¬ cap = c + l by omega)]
        · have q3 : l ≠ h := by intro x; subst x; rw [Nat.beq_refl] at q3; cases q3
          refine ⟨.slice (some ⟨g, off + (o + l * z), none⟩) (h - l) (cap - (c + l)), by simp only [conc, hb]; rw [if_pos (by show (h - l) + (c + l) ≤ cap; omega)]; rfl, ?_⟩
          rw [e2 l (by omega) rfl, Nat.sub_add_eq]
  | some vm =>
    cases umx with
    | none => exact hmx.elim
    | some ym =>
    simp only [cutR, cO_some]
    refine cO_ok trivial fun vh hvh => ?_
    subst hvh
    refine cO_ok trivial fun m hm => cO_ok trivial fun h hh => cO_ok trivial fun l hl => ?_
    obtain ⟨h1, h2, h3, _, h5⟩ := bounds_run (P := P) (w := w) (isS := true) (c := n) (d := n) (n := n) (c' := cap - c) hlo hhi (mx := some vm) (umx := some ym) hmx (.inr (by intro e; cases e)) hm hh hl (fun x => by cases x) (fun _ => by omega)
    rw [if_neg (by intro e; cases e)] at h1
    have hhm := h3 (by intro e; cases e)
    have hmn := h5 (by intro e; cases e)
    rw [hr l h m h1]
    refine ⟨_, ?_, rfl⟩
    simp only [conc, hb]
    rw [if_pos (by show h - l ≤ m - l; omega)]
    simp only [offA]
    by_cases e : m = l
    · subst e; rw [if_pos rfl]; simp [cB]
    · rw [if_neg e]
      have : Nat.beq m l = false := by cases hx : Nat.beq m l with | false => rfl | true => rw [Nat.beq_eq] at hx; exact absurd hx e
      rw [this]; rfl
theorem slice_ok (hs : Sat P ρ S w) {t : TypeId} {x : AV} {ux : Value} {lo hi mx : Option AV} {ulo uhi umx : Option Value} (hx : conc ρ x = some ux) (hlo : OptC ρ lo ulo) (hhi : OptC ρ hi uhi) (hmx : OptC ρ mx umx) :
    AN.okV P ρ S w ((Instr.sliceAt t ux ulo uhi umx).run P w) ((sliceA P t).f x lo hi mx S) := by
  unfold sliceA
  split
  · rename_i e hu
    split
    · rename_i z hz
      refine vSl_ok trivial (fun q => ?_) (fun b o n c q => ?_) (fun b o n c q => ?_)
      · subst q
        cases conc_nils hx
        refine cutN_ok hlo hhi hmx fun l h m hb => ?_
        simp [Instr.sliceAt, Instr.slice, run_underlying hu, hb, size_run hz]
      · subst q
        obtain ⟨g, off, cap, hb, hn, rfl⟩ := conc_slice hx
        refine cutA_ok hlo hhi hmx hb hn true fun l h m hb => ?_
        simp [Instr.sliceAt, Instr.slice, run_underlying hu, hb, size_run hz, addr_add, Nat.add_assoc]
        split <;> rfl
      · subst q
        obtain ⟨g, off, cap, hb, hn, rfl⟩ := conc_row hx
        refine cutR_ok hs hlo hhi hmx hb hn hz fun l h m hb => ?_
        simp [Instr.sliceAt, Instr.slice, run_underlying hu, hb, size_run hz, addr_add, Nat.add_assoc]
        split <;> rfl
    · exact trivial
  · rename_i n e hu
    split
    · rename_i z hz
      refine vPtr_ok trivial fun b o q => ?_
      subst q
      obtain ⟨g, off, cap, hb, rfl⟩ := conc_ptr hx
      refine cutA_ok hlo hhi hmx hb (Nat.le_refl _) false fun l h m hb => ?_
      simp [Instr.sliceAt, run_underlying hu, Instr.sureAddr, hb, size_run hz, addr_add, Nat.add_assoc]
    · exact trivial
  · exact trivial
end
end Go.Proofs.YtfnjojdiiklleaaGreat.Ev
