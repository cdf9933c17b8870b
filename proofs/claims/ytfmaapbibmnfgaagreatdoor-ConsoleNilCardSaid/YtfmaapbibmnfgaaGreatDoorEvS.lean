/- A run of a program on abstract memory: copying, clearing, lengths, conversions. -/
import Derived.Test.YtfmaapbibmnfgaaGreatDoorEvO
import Derived.ChangeKeysEq
set_option linter.unusedSectionVars false
namespace Go.Proofs.YtfmaapbibmnfgaaGreatDoor.Ev
variable [Vr]
section
variable {P : Program} {ρ : Rho} {S : AS} {w : World}

/-! ### Copying -/
theorem copy_ok (hs : Sat P ρ S w) {x v : AV} {ux uv : Value} {ats : Array TypeId} {dT yT ty : TypeId} (h0 : ats[0]? = some dT) (hx : conc ρ x = some ux) (hv : conc ρ v = some uv) :
    AN.okV P ρ S w ((Builtin.copy_ ats ty #[ux, uv]).run P w) ((copyA P dT yT).f x v S) := by
  unfold copyA
  split
  · rename_i e e2 hu hy
    split
    · rename_i z hz
      refine cO_ok trivial fun m hm => cO_ok trivial fun n hn => cO_ok trivial fun q hq => ?_
      refine cB_ok (fun hc => ?_) fun _ => trivial
      rw [minN_eq] at hq ⊢
      obtain ⟨hlv, _⟩ := lenS_run (P := P) hn hv
      obtain ⟨_, a, c, hux⟩ := lenS_run (P := P) hm hx
      obtain ⟨vs, h3, h4, h5⟩ := firstS_run hs hq ⟨n, hn, Nat.min_le_left _ _⟩ hv
      have hone := allCell1_one hc h3
      have hrun : ∀ base len cap w', ux = .slice base len cap → len = m → (∀ b, base = some b → (storeCells b vs).run P w = .ok () w') → (base = none → w' = w) → (Builtin.copy_ ats ty #[ux, uv]).run P w = .ok (.int .i64 (.ofNat (min n m))) w' := by
        intro base len cap w' e1 e2 hst hnone
        subst e1 e2
        have h5' := h5 w rfl
        cases base with
        | none =>
          cases hnone rfl
          simp [Builtin.copy_, h0, run_underlying hu, hlv, size_run hz, h5', goInt]
        | some b =>
          have := hst b rfl
          simp [Builtin.copy_, h0, run_underlying hu, hlv, size_run hz, h5', this, goInt]
      have hlm : ∀ {b o l c'}, x = .slice b o l c' → l = m := by intro b o l c' e; subst e; exact Option.some.inj hm
      have hlm2 : ∀ {b o l c'}, x = .row b o l c' → l = m := by intro b o l c' e; subst e; exact Option.some.inj hm
      have key : ∀ {b : Nam} {o g off cap : Nat} {m' : Md} {t : TypeId} {cs : List AV} (_ : S.at b.p = .cells m' t cs) (_ : look ρ b = some (.blk g off cap)) {len c : Nat} (_ : ux = .slice (some ⟨g, off + o, none⟩) len c) (_ : len = m),
          AN.okV P ρ S w ((Builtin.copy_ ats ty #[ux, uv]).run P w) (cO (put q o cs) .no fun cs' => .val (.int .i64 (.ofNat (min n m))) (putA S b (.cells m' t cs'))) := by
        intro b o g off cap m' t cs ho hb len c e1 e2
        refine cO_ok trivial fun cs' hp => ?_
        obtain ⟨a1, a2, a3⟩ := hs.write ho (look_path hb) hp h3 hone
        exact ⟨ρ, _, _, hrun _ len c _ e1 e2 (fun b' h => by cases h; exact a1) (fun h => by cases h), a3, a2, by simp only [conc]⟩
      refine vSl_ok trivial (fun e => ?_) (fun b o l c e => ?_) (fun b o l c e => ?_)
      · subst e
        cases conc_nils hx
        have hm0 : m = 0 := (Option.some.inj hm).symm
        exact ⟨ρ, _, w, hrun none 0 0 w rfl hm0.symm (fun b h => by cases h) fun _ => rfl, Ext.refl _ _ _, hs, by simp only [conc]⟩
      · have hl := hlm e
        subst e
        obtain ⟨g, off, cap, hb, _, rfl⟩ := conc_slice hx
        refine oCells_ok trivial fun m' t cs ho => ?_
        rw [getA_eq] at ho
        have := key ho hb rfl hl
        exact cMd_ok (fun _ => this) (fun _ => this) fun _ => trivial
      · have hl := hlm2 e
        subst e
        obtain ⟨g, off, cap, hb, _, rfl⟩ := conc_row hx
        refine oCells_ok trivial fun m' t cs ho => ?_
        rw [getA_eq] at ho
        have := key ho hb rfl hl
        exact cMd_ok (fun _ => trivial) (fun _ => this) fun _ => trivial
    · exact trivial
  · exact trivial

/-! ### Clearing -/
theorem clear_ok (hs : Sat P ρ S w) {x : AV} {ux : Value} {ats : Array TypeId} {t ty : TypeId} (h0 : ats[0]? = some t) (hx : conc ρ x = some ux) :
    AN.okV P ρ S w ((Builtin.clear_ ats ty #[ux]).run P w) ((clearA P t).f x S) := by
  unfold clearA
  split
  · rename_i e hu
    split
    · rename_i zv z hzv hz
      split
      · rename_i hzl
        simp only [Bool.and_eq_true] at hzl
        obtain ⟨uz, hzr, hzc⟩ := zero_run hzv (ρ := ρ)
        have hcz := cellsA_conc hzc
        have hzs : uz.cells.size = z := by
          have := concs_length hcz
          rw [Nat.beq_eq, len_eq] at hzl
          simp only [Array.length_toList] at this
          omega
        have hzone := allCell1_one hzl.2 hcz
        have hzeros : ∀ n, Builtin.zeroCells uz.cells n = (rep uz.cells.toList n).toArray := fun n => zeros_eq uz.cells n _ rfl
        have hone : ∀ n, ∀ v ∈ rep uz.cells.toList n, v.oneCell' = true := by
          intro n
          induction n with
          | zero => intro v hv; cases hv
          | succ n ih =>
            intro v hv
            rw [rep_eq] at hv
            rcases List.mem_append.1 hv with hv | hv
            · exact hzone v hv
            · exact ih v hv
        have key : ∀ {b : Nam} {o g off cap : Nat} {m' : Md} {t' : TypeId} {cs : List AV} (_ : S.at b.p = .cells m' t' cs) (_ : look ρ b = some (.blk g off cap)) {n c : Nat} (_ : ux = .slice (some ⟨g, off + o, none⟩) n c),
            AN.okV P ρ S w ((Builtin.clear_ ats ty #[ux]).run P w) (putC m' t' S b (put (rep (cellsA zv) n) o cs)) := by
          intro b o g off cap m' t' cs ho hb n c e1
          subst e1
          refine cO_ok trivial fun cs' hp => ?_
          obtain ⟨a1, a2, a3⟩ := hs.write ho (look_path hb) hp (concs_rep hcz n) (hone n)
          refine ⟨ρ, .tuple #[], _, ?_, a3, a2, by simp only [conc, concs]⟩
          cases n with
          | zero => simp [Builtin.clear_, h0, run_underlying hu, rep_zero, World.setCells]
          | succ n => simp [Builtin.clear_, h0, run_underlying hu, hzr, hzeros, a1]
        refine vSl_ok trivial (fun e => ?_) (fun b o l c e => ?_) (fun b o l c e => ?_)
        · subst e
          cases conc_nils hx
          exact ⟨ρ, .tuple #[], w, by simp [Builtin.clear_, h0, run_underlying hu], Ext.refl _ _ _, hs, by simp only [conc, concs]⟩
        · subst e
          obtain ⟨g, off, cap, hb, _, rfl⟩ := conc_slice hx
          refine oCells_ok trivial fun m' t cs ho => ?_
          rw [getA_eq] at ho
          have := key ho hb rfl
          exact cMd_ok (fun _ => this) (fun _ => this) fun _ => trivial
        · subst e
          obtain ⟨g, off, cap, hb, _, rfl⟩ := conc_row hx
          refine oCells_ok trivial fun m' t cs ho => ?_
          rw [getA_eq] at ho
          have := key ho hb rfl
          exact cMd_ok (fun _ => trivial) (fun _ => this) fun _ => trivial
      · exact trivial
    · exact trivial
  · exact trivial

/-! ### Lengths -/
theorem intV_ok {n : Nat} {r : Result Value} (h : r = .ok (goInt n) w) : AN.okV P ρ S w r (intV n) := get_int' h
theorem All2.length {α β : Type} {R : α → β → Prop} {l : List α} {m : List β} (h : All2 R l m) : l.length = m.length := by
  induction h with
  | nil => rfl
  | cons _ _ ih => simp [ih]
theorem len_ok (hs : Sat P ρ S w) {x : AV} {ux : Value} {ats : Array TypeId} {t ty : TypeId} (h0 : ats[0]? = some t) (hx : conc ρ x = some ux) : AN.okV P ρ S w ((Builtin.len_ ats ty #[ux]).run P w) ((lenA P t).f x S) := by
  unfold lenA
  split
  · rename_i e hu
    refine vSlT_ok trivial (fun q => ?_) (fun b o n c q => ?_) (fun b o n c q => ?_) (fun b o p c q => ?_) <;> subst q
    · cases conc_nils hx; exact intV_ok (by simp [Builtin.len_, h0, run_underlying hu])
    · obtain ⟨_, _, _, _, _, rfl⟩ := conc_slice hx; exact intV_ok (by simp [Builtin.len_, h0, run_underlying hu])
    · obtain ⟨_, _, _, _, _, rfl⟩ := conc_row hx; exact intV_ok (by simp [Builtin.len_, h0, run_underlying hu])
    · obtain ⟨_, _, _, _, _, rfl⟩ := conc_tail hx; exact intV_ok (by simp [Builtin.len_, h0, run_underlying hu])
  · rename_i k e hu
    refine vMap_ok trivial (fun q => ?_) (fun b q => ?_) <;> subst q
    · cases conc_nilm hx; exact intV_ok (by simp [Builtin.len_, h0, run_underlying hu])
    · refine oMap_ok trivial fun es clk ho => ?_
      rw [getA_eq] at ho
      obtain ⟨g, off, cap, hb, rfl⟩ := conc_map hx
      have := hs.obj b.p
      rw [ho] at this
      obtain ⟨g', off', cap', l, h1, h2, h3⟩ := this
      rw [look_path hb] at h1
      cases h1
      obtain ⟨m, h4, h5⟩ := h3.perm
      have h6 : len es = l.size := by rw [len_eq, h4.length, h5.length_eq]; simp
      refine intV_ok ?_
      have hg : (getObj g).run P w = .ok (.map l clk) w := by simp only [getObj, Sem.run, h2]
      simp [Builtin.len_, h0, run_underlying hu, hg, h6]
  · rename_i hu
    refine vTx_ok trivial (fun l q => ?_) fun n c q => ?_ <;> subst q
    · obtain ⟨s, rfl, hs'⟩ := conc_str hx
      rw [len_eq, ← textOf_size hs']
      exact intV_ok (by simp [Builtin.len_, h0, run_underlying hu])
    · obtain ⟨rfl, _⟩ := conc_rstr hx
      have hsz : (⟨Array.replicate n c.toUInt8⟩ : ByteArray).size = n := Array.size_replicate
      refine intV_ok ?_
      rw [show goInt n = goInt ((⟨Array.replicate n c.toUInt8⟩ : ByteArray).size) from by rw [hsz]]
      generalize (⟨Array.replicate n c.toUInt8⟩ : ByteArray) = s
      simp [Builtin.len_, h0, run_underlying hu]
  · exact trivial
theorem cap_ok {x : AV} {ux : Value} {ats : Array TypeId} {t ty : TypeId} (h0 : ats[0]? = some t) (hx : conc ρ x = some ux) : AN.okV P ρ S w ((Builtin.cap_ ats ty #[ux]).run P w) ((capA P t).f x) := by
  unfold capA
  split
  · rename_i e hu
    refine vSl_ok trivial (fun q => ?_) (fun b o n c q => ?_) (fun b o n c q => ?_)
    · subst q; cases conc_nils hx; exact intV_ok (by simp [Builtin.cap_, h0, run_underlying hu])
    · subst q; obtain ⟨_, _, _, _, _, rfl⟩ := conc_slice hx; exact intV_ok (by simp [Builtin.cap_, h0, run_underlying hu])
    · exact trivial
  · exact trivial
theorem min_ok : ∀ {l : List AV} {us : List Value} {v : AV} {u : Value}, concs ρ l = some us → conc ρ v = some u → AN.okV P ρ S w ((us.foldlM Builtin.min2 u).run P w) (minA l v)
  | [], us, v, u, hl, hv => by cases concs_nil hl; exact get_of hv
  | y :: l, us, v, u, hl, hv => by
    obtain ⟨uy, q, rfl, h1, h2⟩ := concs_cons hl
    refine vInt_ok trivial fun k a e => ?_
    subst e; cases conc_int hv
    refine vInt_ok trivial fun j b e => ?_
    subst e; cases conc_int h1
    refine cB_ok (fun hk => ?_) fun _ => trivial
    cases kEq_iff.1 hk
    have := min_ok (l := l) (v := .int k (cB (ile a b) a b)) (u := .int k (if b < a then b else a)) h2 (by
      simp only [conc, ile_eq]
      congr 2
      by_cases c : a ≤ b
      · rw [show decide (a ≤ b) = true from decide_eq_true c, if_neg (by omega)]; rfl
      · rw [show decide (a ≤ b) = false from decide_eq_false c, if_pos (by omega)]; rfl)
    simp only [List.foldlM_cons, Sem.run_bind, Builtin.min2, Sem.run_pure, Result.andThen_ok]
    exact this
theorem max_ok : ∀ {l : List AV} {us : List Value} {v : AV} {u : Value}, concs ρ l = some us → conc ρ v = some u → AN.okV P ρ S w ((us.foldlM Builtin.max2 u).run P w) (maxA l v)
  | [], us, v, u, hl, hv => by cases concs_nil hl; exact get_of hv
  | y :: l, us, v, u, hl, hv => by
    obtain ⟨uy, q, rfl, h1, h2⟩ := concs_cons hl
    refine vInt_ok trivial fun k a e => ?_
    subst e; cases conc_int hv
    refine vInt_ok trivial fun j b e => ?_
    subst e; cases conc_int h1
    refine cB_ok (fun hk => ?_) fun _ => trivial
    cases kEq_iff.1 hk
    have := max_ok (l := l) (v := .int k (cB (ile b a) a b)) (u := .int k (if b > a then b else a)) h2 (by
      simp only [conc, ile_eq]
      congr 2
      by_cases c : b ≤ a
      · rw [show decide (b ≤ a) = true from decide_eq_true c, if_neg (by omega)]; rfl
      · rw [show decide (b ≤ a) = false from decide_eq_false c, if_pos (by omega)]; rfl)
    simp only [List.foldlM_cons, Sem.run_bind, Builtin.max2, Sem.run_pure, Result.andThen_ok]
    exact this

/-! ### Conversions -/
theorem byteN_run : ∀ {l : List AV} {r : List Nat} {vs : List Value}, byteN l = some r → concs ρ l = some vs → vs = r.map (fun n => .int .u8 (.ofNat n)) ∧ ∀ n ∈ r, n < 256
  | [], r, vs, h, hv => by
    have : r = [] := (Option.some.inj h).symm
    subst this; exact ⟨concs_nil hv, fun n hn => by cases hn⟩
  | a :: l, r, vs, h, hv => by
    obtain ⟨u, q, rfl, h1, h2⟩ := concs_cons hv
    have h' : vInt a none (fun k i => cB (kEq k .u8) (cI i (fun n => cB (Nat.blt n 256) (cO (byteN l) none fun q => some (n :: q)) none) fun _ => none) none) = some r := h
    obtain ⟨k, i, rfl, h3⟩ := vInt_some h'
    obtain ⟨h4, h5⟩ := cB_some h3
    cases kEq_iff.1 h4
    cases conc_int h1
    cases i with
    | negSucc m => cases h5
    | ofNat m =>
      have h6 : cB (Nat.blt m 256) (cO (byteN l) none (fun q => some (m :: q))) none = some r := h5
      obtain ⟨h9, h6⟩ := cB_some h6
      obtain ⟨q', h7, h8⟩ := cO_some' h6
      cases h8
      obtain ⟨e1, e2⟩ := byteN_run h7 h2
      refine ⟨by rw [List.map_cons, ← e1], fun n hn => ?_⟩
      rcases List.mem_cons.1 hn with rfl | hn
      · simpa using h9
      · exact e2 n hn
theorem bytes_run {f : Value → ByteArray → Sem (ForInStep ByteArray)} (hf : ∀ n s, f (.int .u8 n) s = pure (ForInStep.yield (s.push (UInt8.ofNat n.toNat)))) (r : List Nat) :
    ∀ (acc : ByteArray), (forIn (r.map fun n => Value.int .u8 (.ofNat n)) acc f).run P w = .ok ⟨acc.data ++ (r.map Nat.toUInt8).toArray⟩ w := by
  induction r with
  | nil => intro acc; simp
  | cons a r ih =>
    intro acc
    simp only [List.map_cons, List.forIn_cons, Sem.run_bind, hf, Sem.run_pure, Result.andThen_ok]
    rw [ih]
    congr 2
    apply Array.ext'
    simp [ByteArray.push, Nat.toUInt8]
/-- A block of the run's own is marked as a text's. -/
theorem Sat.mark (hs : Sat P ρ S w) {b : Nam} {t : TypeId} {cs : List AV} {g off cap : Nat} (ho : S.at b.p = .cells .own t cs) (hb : ρ b.p = some (.blk g off cap)) :
    ∃ arr : Array Value, w.heap[g]? = some (.cells arr t (0, 0)) ∧ Sat P ρ (putA S b (.cells .lib t cs)) (w.freeze ⟨g, arr.size, none⟩ 1) ∧ Ext ρ S w ρ (putA S b (.cells .lib t cs)) (w.freeze ⟨g, arr.size, none⟩ 1) := by
  obtain ⟨g', off', cap', arr, fz, l, r⟩ := relC_of hs ho
  have := hb
  rw [r.here] at this
  cases this
  obtain ⟨_, _, h2⟩ := r.own rfl
  subst h2
  have hheap : ∀ g', (w.freeze ⟨g, arr.size, none⟩ 1).heap[g']? = if g' = g then some (.cells arr t (arr.size, arr.size + 1)) else w.heap[g']? := by
    intro g'
    unfold World.freeze
    rw [if_neg (by decide)]
    simp only [Array.getElem?_modify]
    by_cases e : g = g'
    · subst e; rw [if_pos rfl, if_pos rfl, r.obj]; rfl
    · rw [if_neg e, if_neg (fun h => e h.symm)]
  have hsz : (w.freeze ⟨g, arr.size, none⟩ 1).heap.size = w.heap.size := by
    unfold World.freeze
    rw [if_neg (by decide)]
    simp
  have hat : ∀ p, (putA S b (.cells .lib t cs)).at p = if p = b.p then .cells .lib t cs else S.at p := at_putA (by intro e; cases e)
  refine ⟨arr, r.obj, hs.upd (S' := putA S b (.cells .lib t cs)) (b := b.p) r.here (by rw [ho]; exact trivial) (by rw [hat, if_pos rfl]; exact trivial) (Le.refl _) (fun p t h => .inl h) (fun p hp => .inl (by rw [hat, if_neg hp])) (Tr.put rfl) ?_ hsz (fun g' hg => by rw [hheap, if_neg hg]) ?_ ?_ ?_ ?_⟩
  · rw [hat, if_pos rfl]
    exact ⟨g, off, cap, arr, _, l, r.here, by rw [hheap, if_pos rfl], fun i hi h => Nat.not_le_of_lt hi h.1, r.vals, r.lies, (fun h => by cases h), (fun h => by cases h), trivial⟩
  · intro es c h
    rw [hheap, if_pos rfl] at h; cases h
  all_goals (unfold World.freeze; rw [if_neg (by decide)])
theorem convO_ok (hs : Sat P ρ S w) {x : AV} {ux : Value} {src dst e : TypeId} (hx : conc ρ x = some ux) (h1 : P.underlying src = some (.slice e)) (h2 : P.underlying dst = some .string) (h3 : P.underlying e = some (.int .u8)) :
    AN.okV P ρ S w ((convert src dst ux).run P w) (convO x S) := by
  refine cO_ok trivial fun n hn => cO_ok trivial fun l hl => cO_ok trivial fun r hr => ?_
  obtain ⟨_, a, c, rfl⟩ := lenS_run (P := P) hn hx
  obtain ⟨vs, h4, h5, h6⟩ := firstS_run hs hl ⟨n, hn, Nat.le_refl _⟩ hx
  obtain ⟨h7, h8⟩ := byteN_run hr h4
  have ht : textOf r = some ⟨(r.map Nat.toUInt8).toArray⟩ := by
    unfold textOf; rw [if_pos (by rw [List.all_eq_true]; intro n hn; simpa using h8 n hn)]
  refine ⟨.string ⟨(r.map Nat.toUInt8).toArray⟩, by simp only [conc, ht], ?_⟩
  have h9 := h6 w rfl
  cases a with
  | none =>
    have : vs = [] := by simp [Builtin.firstCells] at h9; exact h9
    subst this
    have : r = [] := by cases r with | nil => rfl | cons a t => simp at h7
    subst this
    simp [convert, run_underlying h1, run_underlying h2, run_underlying h3, Conv.bytesToString]
    rfl
  | some a =>
    have h9 : (loadCells a n).run P w = .ok vs.toArray w := by simpa [Builtin.firstCells] using h9
    simp only [convert, run_underlying h1, run_underlying h2, run_underlying h3, Sem.run_bind, Result.andThen_ok, Conv.bytesToString, h9, List.forIn_toArray]
    rw [h7]
    rw [bytes_run (fun _ _ => rfl) r]
    simp [ByteArray.empty, ByteArray.emptyWithCapacity]
    rfl
theorem textOf_rep (n : Nat) {c : Nat} (h : c < 256) : textOf (List.replicate n c) = some ⟨Array.replicate n c.toUInt8⟩ := by
  unfold textOf
  rw [if_pos (List.all_eq_true.2 fun x hx => by rw [(List.mem_replicate.1 hx).2]; simpa using h)]
  congr 1
  apply ByteArray.ext
  simp
theorem convR_ok {src dst e : TypeId} {g n m c cap : Nat} {e' : TypeId} (h1 : P.underlying src = some (.slice e)) (h2 : P.underlying dst = some .string) (h3 : P.underlying e = some (.int .u8))
    (ho : w.heap[g]? = some (.cells (Array.replicate m (.int .u8 (.ofNat c))) e' (0, 0))) (hn : n ≤ m) : (convert src dst (.slice (some ⟨g, 0 + 0, none⟩) n cap)).run P w = .ok (.string ⟨Array.replicate n c.toUInt8⟩) w := by
  have h9 := run_loadCells_list (P := P) w ⟨g, 0 + 0, none⟩ ((List.replicate n c).map fun n => Value.int .u8 (.ofNat n)) (fun j v hj => by
    rw [addr_add]
    simp only [World.cell?, ho, Option.isSome_none, Bool.false_eq_true, if_false]
    rw [List.map_replicate, List.getElem?_replicate] at hj
    split at hj
    · cases hj
      rw [Array.getElem?_replicate, if_pos (by omega)]
    · cases hj)
  rw [List.length_map, List.length_replicate] at h9
  simp only [convert, run_underlying h1, run_underlying h2, run_underlying h3, Sem.run_bind, Result.andThen_ok, Conv.bytesToString, h9, List.forIn_toArray]
  rw [bytes_run (fun _ _ => rfl) (List.replicate n c)]
  simp [ByteArray.empty, ByteArray.emptyWithCapacity]
  rfl
theorem conv_ok (hs : Sat P ρ S w) {x : AV} {ux : Value} {src dst : TypeId} (hx : conc ρ x = some ux) : AN.okV P ρ S w ((convert src dst ux).run P w) ((convA P src dst).f x S) := by
  unfold convA
  split
  · rename_i k1 k h1 h2
    refine vInt_ok trivial fun k' n e => ?_
    subst e; cases conc_int hx
    rw [wrapA_eq]
    refine get_int' ?_
    simp [convert, run_underlying h1, run_underlying h2, Conv.intToInt]
  · rename_i a e h1 h2
    split
    · rename_i h3 h4
      refine vSl_ok trivial (fun _ => trivial) (fun b o n c e' => ?_) fun _ _ _ _ _ => trivial
      subst e'
      refine oCells_ok trivial fun m t cs ho => ?_
      rw [getA_eq] at ho
      refine cMd_ok (fun hm => ?_) (fun _ => trivial) fun _ => trivial
      subst hm
      obtain ⟨g, off, cap, hb, hnc, rfl⟩ := conc_slice hx
      obtain ⟨arr, a1, a2, a3⟩ := hs.mark ho (look_path hb)
      refine ⟨ρ, _, w.freeze ⟨g, arr.size, none⟩ 1, ?_, a3, a2, hx⟩
      have hsh : w.shape? g = some (t, arr.size) := by simp [World.shape?, a1]
      simp [convert, run_underlying h1, run_underlying h2, run_underlying h4, h3, markStringish, hsh]
    · exact trivial
  · rename_i e h1 h2
    split
    · rename_i h3
      refine vSlT_ok trivial (fun _ => convO_ok hs hx h1 h2 h3) (fun b o n c q => ?_) (fun _ _ _ _ _ => convO_ok hs hx h1 h2 h3) fun _ _ _ _ _ => convO_ok hs hx h1 h2 h3
      refine oFill_ok (convO_ok hs hx h1 h2 h3) fun m d ho => ?_
      subst q
      refine cB_ok (fun hk => ?_) fun _ => trivial
      obtain ⟨k1, k2⟩ := bAnd_iff.1 hk
      rw [getA_eq] at ho
      obtain ⟨g, off, cap, hb, hnc, rfl⟩ := conc_slice hx
      have := hs.obj b.p
      rw [ho] at this
      obtain ⟨g', cap', e', q1, q2, q3⟩ := this
      rw [look_path hb] at q1
      cases q1
      have : o = 0 := by simpa using k1
      subst this
      exact ⟨_, by simp only [conc, if_pos q3], convR_ok h1 h2 h3 q2 (by simpa using k2)⟩
    · exact trivial
  · exact trivial
end
end Go.Proofs.YtfmaapbibmnfgaaGreatDoor.Ev
namespace Go.Proofs.YtfmaapbibmnfgaaGreatDoor.Ev
variable [Vr]
section
variable {P : Program} {ρ : Rho} {S : AS} {w : World}

/-! ### Cells, one by one -/
/-- Are two values of a kind the same? -/
noncomputable def sameC : Nat → Value → Value → Option Bool
  | 0, .bool a, .bool b => some (a == b)
  | 1, .int k a, .int j b => if k = j then some (a == b) else none
  | _ + 2, .string a, .string b => some (a.toList == b.toList)
  | _, _, _ => none
noncomputable def eqAt (X Y : Array Value) : List (Nat × Nat) → Option Bool
  | [] => some true
  | x :: L => match X[x.1]?, Y[x.1]? with
    | some a, some b => match sameC x.2 a b with
      | some true => eqAt X Y L
      | some false => some false
      | none => none
    | _, _ => none
theorem eqK_ok {k : Nat} {x y : AV} {ux uy : Value} {r : Bool} (h : (eqK k).f x y = some r) (hx : conc ρ x = some ux) (hy : conc ρ y = some uy) : sameC k ux uy = some r := by
  match k with
  | 0 =>
    have h' : vBool x none (fun a => vBool y none fun b => some (bEq a b)) = some r := h
    obtain ⟨a, rfl, h1⟩ := vBool_some h'
    obtain ⟨b, rfl, h2⟩ := vBool_some h1
    cases conc_bool hx; cases conc_bool hy
    rw [bEq_eq] at h2
    exact h2
  | 1 =>
    have h' : vInt x none (fun k a => vInt y none fun j b => cB (kEq k j) (some (ieq a b)) none) = some r := h
    obtain ⟨k, a, rfl, h1⟩ := vInt_some h'
    obtain ⟨j, b, rfl, h2⟩ := vInt_some h1
    cases conc_int hx; cases conc_int hy
    obtain ⟨h3, h4⟩ := cB_some h2
    cases kEq_iff.1 h3
    rw [ieq_eq] at h4
    simp only [sameC, if_true]
    rw [← h4]; rfl
  | n + 2 =>
    obtain ⟨s, s', rfl, rfl, h2⟩ := eqS_ok (show eqS x y = some r from h) hx hy
    simp only [sameC]
    rw [← h2]
theorem eqCs_ok : ∀ {L : List (Nat × Nat)} {o : Nat} {l m : List AV} {X Y : Array Value} {xs ys : List Value} {r : Bool}, L.map (·.1) = List.range' o L.length → (eqCs (L.map (·.2))).f l m = some r → concs ρ l = some xs → concs ρ m = some ys →
    (∀ i v, xs[i]? = some v → X[o + i]? = some v) → (∀ i v, ys[i]? = some v → Y[o + i]? = some v) → eqAt X Y L = some r
  | [], _, l, m, _, _, _, _, r, _, h, _, _, _, _ => by
    have h' : cL l (cL m (some true) fun _ _ => none) (fun _ _ => none) = some r := h
    cases l <;> cases m <;> first | exact h' | cases h'
  | x :: L, o, l, m, X, Y, xs, ys, r, hL, h, hx, hy, hX, hY => by
    have h' : cL l none (fun a l => cL m none fun b m => cO ((eqK x.2).f a b) none fun r => cB r ((eqCs (L.map (·.2))).f l m) (some false)) = some r := h
    cases l with
    | nil => cases h'
    | cons a l =>
    cases m with
    | nil => cases h'
    | cons b m =>
    obtain ⟨ux, qx, rfl, hx1, hx2⟩ := concs_cons hx
    obtain ⟨uy, qy, rfl, hy1, hy2⟩ := concs_cons hy
    have h'' : cO ((eqK x.2).f a b) none (fun r => cB r ((eqCs (L.map (·.2))).f l m) (some false)) = some r := h'
    obtain ⟨r1, h1, h2⟩ := cO_some' h''
    have h3 := eqK_ok h1 hx1 hy1
    simp only [List.map_cons, List.length_cons, List.range'_succ, List.cons.injEq] at hL
    have e1 : X[x.1]? = some ux := by rw [hL.1]; exact hX 0 ux rfl
    have e2 : Y[x.1]? = some uy := by rw [hL.1]; exact hY 0 uy rfl
    simp only [eqAt, e1, e2, h3]
    cases r1 with
    | false => exact h2
    | true =>
      have h2 : (eqCs (L.map (·.2))).f l m = some r := h2
      exact eqCs_ok hL.2 h2 hx2 hy2 (fun i v hi => by have := hX (i + 1) v hi; rwa [show o + (i + 1) = o + 1 + i by omega] at this) (fun i v hi => by have := hY (i + 1) v hi; rwa [show o + (i + 1) = o + 1 + i by omega] at this)
theorem eqAt_append {X Y : Array Value} : ∀ {A B : List (Nat × Nat)} {r : Bool}, eqAt X Y (A ++ B) = some r → (eqAt X Y A = some false ∧ r = false) ∨ (eqAt X Y A = some true ∧ eqAt X Y B = some r)
  | [], B, r, h => .inr ⟨rfl, h⟩
  | x :: A, B, r, h => by
    simp only [List.cons_append, eqAt] at h ⊢
    split at h
    · split at h
      · exact eqAt_append h
      · cases h; exact .inl ⟨rfl, rfl⟩
      · cases h
    · cases h

/-! ### How a type's values lie -/
/-- A value of a type lies in cells, from a place on. -/
noncomputable def LiesV (P : Program) (t : TypeId) (V : Value) (X : Array Value) (o : Nat) : Prop := match aggT P t with
  | some true => ∃ Y n, V = .agg Y ∧ sizeA P t = some n ∧ ∀ i, i < n → Y[i]? = X[o + i]?
  | some false => X[o]? = some V
  | none => False
theorem lookFs_pos {look : TypeId → Nat → Option (List (Nat × Nat))} (hl : ∀ t o L, look t o = some L → ∃ n, sizeA P t = some n ∧ ∀ x ∈ L, o ≤ x.1 ∧ x.1 < o + n) {n o : Nat} :
    ∀ {fs : List Field} {L : List (Nat × Nat)}, lookFs P look n o fs = some L → ∀ x ∈ L, o ≤ x.1 ∧ x.1 < o + n
  | [], L, h => by cases h; intro x hx; cases hx
  | f :: fs, L, h => by
    simp only [lookFs] at h
    split at h
    · rename_i m h1 h2
      split at h
      · rename_i a b h3 h4 h5
        cases h
        intro x hx
        rcases List.mem_append.1 hx with hx | hx
        · obtain ⟨m', h6, h7⟩ := hl _ _ _ h4
          rw [h2] at h6; cases h6
          have := h7 x hx
          have h3 : f.offset + m ≤ n := by simpa using h3
          omega
        · exact lookFs_pos hl h5 x hx
      · cases h
    · cases h
theorem lookEs_pos {look : Nat → Option (List (Nat × Nat))} {z : Nat} (hl : ∀ o L, look o = some L → ∀ x ∈ L, o ≤ x.1 ∧ x.1 < o + z) {o : Nat} :
    ∀ {k i : Nat} {L : List (Nat × Nat)}, lookEs look z o i k = some L → ∀ x ∈ L, o ≤ x.1 ∧ x.1 < o + (i + k) * z
  | 0, i, L, h => by cases h; intro x hx; cases hx
  | k + 1, i, L, h => by
    simp only [lookEs] at h
    split at h
    · rename_i a b h1 h2
      cases h
      intro x hx
      rcases List.mem_append.1 hx with hx | hx
      · have := hl _ _ h1 x hx
        have h3 : i * z + z ≤ (i + (k + 1)) * z := by rw [← Nat.succ_mul]; exact Nat.mul_le_mul_right z (by omega)
        omega
      · have := lookEs_pos hl h2 x hx
        rw [show i + 1 + k = i + (k + 1) by omega] at this
        exact this
    · cases h
theorem look1_some {t : TypeId} {o k : Nat} {L : List (Nat × Nat)} (h : look1 P t o k = some L) : sizeA P t = some 1 ∧ L = [(o, k)] := by
  unfold look1 at h
  split at h
  · rename_i e; cases h; exact ⟨e, rfl⟩
  · cases h
theorem lookT_pos : ∀ (d : Nat) (t : TypeId) (o : Nat) (L : List (Nat × Nat)), lookT P d t o = some L → ∃ n, sizeA P t = some n ∧ ∀ x ∈ L, o ≤ x.1 ∧ x.1 < o + n
  | 0, _, _, _, h => by cases h
  | d + 1, t, o, L, h => by
    simp only [lookT] at h
    split at h
    · obtain ⟨h1, rfl⟩ := look1_some h; exact ⟨1, h1, fun x hx => by rw [List.mem_singleton] at hx; subst hx; exact ⟨Nat.le_refl _, Nat.lt_succ_self _⟩⟩
    · obtain ⟨h1, rfl⟩ := look1_some h; exact ⟨1, h1, fun x hx => by rw [List.mem_singleton] at hx; subst hx; exact ⟨Nat.le_refl _, Nat.lt_succ_self _⟩⟩
    · obtain ⟨h1, rfl⟩ := look1_some h; exact ⟨1, h1, fun x hx => by rw [List.mem_singleton] at hx; subst hx; exact ⟨Nat.le_refl _, Nat.lt_succ_self _⟩⟩
    · split at h
      · rename_i n h1 h2; exact ⟨n, h2, lookFs_pos (lookT_pos d) h⟩
      · cases h
    · split at h
      · rename_i z s h1 h2
        split at h
        · rename_i h3
          have h3 := Nat.le_of_ble_eq_true h3
          refine ⟨s, h2, fun x hx => ?_⟩
          have := lookEs_pos (fun o L hL => by obtain ⟨n, e1, e2⟩ := lookT_pos d _ _ _ hL; rw [h1] at e1; cases e1; exact e2) h x hx
          rw [Nat.zero_add] at this
          omega
        · cases h
      · cases h
    · cases h
theorem part_lies {t : TypeId} {X Y : Array Value} {o fo n m : Nat} (hY : ∀ i, i < n → Y[i]? = X[o + i]?) (hfo : fo + m ≤ n) (hm : sizeA P t = some m) {b : Bool} (ha : aggT P t = some b) (hleaf : b = false → 0 < m ∧ (X[o + fo]?).isSome = true) :
    ∃ V, (part t Y fo).run P w = .ok V w ∧ LiesV P t V X (o + fo) := by
  cases b with
  | true =>
    refine ⟨.agg (Y.extract fo (fo + m)), by simp [part, agg_run ha, size_run hm], ?_⟩
    unfold LiesV
    rw [ha]
    refine ⟨_, m, rfl, hm, fun i hi => ?_⟩
    rw [Nat.add_assoc, ← hY (fo + i) (by omega), Array.getElem?_extract]
    split
    · rfl
    · rw [Array.getElem?_eq_none (by omega)]
  | false =>
    obtain ⟨h1, h2⟩ := hleaf rfl
    obtain ⟨v, hv⟩ := Option.isSome_iff_exists.1 h2
    refine ⟨v, ?_, ?_⟩
    · have := hY fo (by omega)
      rw [hv] at this
      simp [part, agg_run ha, this]
    · unfold LiesV
      rw [ha]; exact hv
/-- A leaf's first cell is looked at; a value with parts need not have any. -/
theorem lookT_agg {d : Nat} {t : TypeId} {o : Nat} {L : List (Nat × Nat)} (h : lookT P d t o = some L) : ∃ b, aggT P t = some b ∧ (b = false → sizeA P t = some 1 ∧ ∃ k, L = [(o, k)]) := by
  cases d with
  | zero => cases h
  | succ d =>
    simp only [lookT] at h
    unfold aggT
    split at h
    · rename_i e; rw [e]; obtain ⟨h1, rfl⟩ := look1_some h; exact ⟨false, rfl, fun _ => ⟨h1, _, rfl⟩⟩
    · rename_i e; rw [e]; obtain ⟨h1, rfl⟩ := look1_some h; exact ⟨false, rfl, fun _ => ⟨h1, _, rfl⟩⟩
    · rename_i e; rw [e]; obtain ⟨h1, rfl⟩ := look1_some h; exact ⟨false, rfl, fun _ => ⟨h1, _, rfl⟩⟩
    · rename_i e; rw [e]; exact ⟨true, rfl, fun x => by cases x⟩
    · rename_i e; rw [e]; exact ⟨true, rfl, fun x => by cases x⟩
    · cases h
theorem eqAt_single {X Y : Array Value} {o k : Nat} {r : Bool} (h : eqAt X Y [(o, k)] = some r) : ∃ a b, X[o]? = some a ∧ Y[o]? = some b ∧ sameC k a b = some r := by
  simp only [eqAt] at h
  split at h
  · rename_i a b h1 h2
    split at h
    · rename_i h3; cases h; exact ⟨a, b, h1, h2, h3⟩
    · rename_i h3; cases h; exact ⟨a, b, h1, h2, h3⟩
    · cases h
  · cases h
theorem eq_fields {d D : Nat} {X Y xs ys : Array Value} {o n : Nat} (hx : ∀ i, i < n → xs[i]? = X[o + i]?) (hy : ∀ i, i < n → ys[i]? = Y[o + i]?)
    (ih : ∀ t o L, lookT P d t o = some L → ∀ V W r, LiesV P t V X o → LiesV P t W Y o → eqAt X Y L = some r → (Op.equalIn (d + D) t V W).run P w = .ok r w) :
    ∀ {fs : List Field} {L : List (Nat × Nat)} {r : Bool}, lookFs P (lookT P d) n o fs = some L → eqAt X Y L = some r → (Op.eqFields (d + D) xs ys fs).run P w = .ok r w
  | [], L, r, h, he => by cases h; cases he; rfl
  | f :: fs, L, r, h, he => by
    simp only [lookFs] at h
    split at h
    · rename_i m h1 h2
      split at h
      · rename_i a b h3 h4 h5
        cases h
        have h3 : f.offset + m ≤ n := by simpa using h3
        have hname : f.name ≠ "_" := by intro e; rw [e] at h1; cases h1
        obtain ⟨bb, hb1, hb2⟩ := lookT_agg h4
        have hsome : ∀ r', eqAt X Y a = some r' → (bb = false → 0 < m ∧ (X[o + f.offset]?).isSome = true) ∧ (bb = false → 0 < m ∧ (Y[o + f.offset]?).isSome = true) := fun r' hr' => by
          refine ⟨fun e => ?_, fun e => ?_⟩ <;> (
            obtain ⟨e1, k, rfl⟩ := hb2 e
            rw [h2] at e1; cases e1
            obtain ⟨u, v, e2, e3, _⟩ := eqAt_single hr'
            refine ⟨by omega, ?_⟩
            first | (rw [e2]; rfl) | (rw [e3]; rfl))
        have go : ∀ r', eqAt X Y a = some r' → ∃ V W, (part f.type xs f.offset).run P w = .ok V w ∧ (part f.type ys f.offset).run P w = .ok W w ∧ (Op.equalIn (d + D) f.type V W).run P w = .ok r' w := fun r' hr' => by
          obtain ⟨s1, s2⟩ := hsome r' hr'
          obtain ⟨V, v1, v2⟩ := part_lies (w := w) hx h3 h2 hb1 s1
          obtain ⟨W, w1, w2⟩ := part_lies (w := w) hy h3 h2 hb1 s2
          exact ⟨V, W, v1, w1, ih _ _ _ h4 V W r' v2 w2 hr'⟩
        rcases eqAt_append he with ⟨e1, rfl⟩ | ⟨e1, e2⟩
        · obtain ⟨V, W, g1, g2, g3⟩ := go false e1
          simp only [Op.eqFields, hname, ne_eq, not_false_eq_true, if_true, Sem.run_bind, g1, g2, g3, Result.andThen_ok, Bool.not_false, Sem.run_pure]
        · obtain ⟨V, W, g1, g2, g3⟩ := go true e1
          simp only [Op.eqFields, hname, ne_eq, not_false_eq_true, if_true, Sem.run_bind, g1, g2, g3, Result.andThen_ok, Bool.not_true, Bool.false_eq_true, if_false]
          exact eq_fields hx hy ih h5 e2
      · cases h
    · cases h
end
end Go.Proofs.YtfmaapbibmnfgaaGreatDoor.Ev
namespace Go.Proofs.YtfmaapbibmnfgaaGreatDoor.Ev
variable [Vr]
section
variable {P : Program} {ρ : Rho} {S : AS} {w : World}

theorem sameC_bool {a b : Value} {r : Bool} (h : sameC 0 a b = some r) : ∃ x y, a = .bool x ∧ b = .bool y ∧ (x == y) = r := by
  cases a <;> cases b <;> first | exact ⟨_, _, rfl, rfl, Option.some.inj h⟩ | cases h
theorem sameC_int {a b : Value} {r : Bool} (h : sameC 1 a b = some r) : ∃ k x y, a = .int k x ∧ b = .int k y ∧ (x == y) = r := by
  cases a with
  | int k x =>
    cases b with
    | int j y =>
      have h' : (if k = j then some (x == y) else none) = some r := h
      split at h'
      · rename_i e; subst e; exact ⟨_, _, _, rfl, rfl, Option.some.inj h'⟩
      · cases h'
    | _ => cases h
  | _ => cases b <;> cases h
theorem sameC_string {a b : Value} {r : Bool} (h : sameC 2 a b = some r) : ∃ x y, a = .string x ∧ b = .string y ∧ (x.toList == y.toList) = r := by
  cases a <;> cases b <;> first | exact ⟨_, _, rfl, rfl, Option.some.inj h⟩ | cases h
theorem LiesV.leaf {t : TypeId} {V : Value} {X : Array Value} {o : Nat} (h : LiesV P t V X o) (ha : aggT P t = some false) : X[o]? = some V := by
  unfold LiesV at h; rw [ha] at h; exact h
theorem LiesV.parts {t : TypeId} {V : Value} {X : Array Value} {o : Nat} (h : LiesV P t V X o) (ha : aggT P t = some true) : ∃ Y n, V = .agg Y ∧ sizeA P t = some n ∧ ∀ i, i < n → Y[i]? = X[o + i]? := by
  unfold LiesV at h; rw [ha] at h; exact h
theorem eq_items {d z n : Nat} {e : TypeId} {X Y xs ys : Array Value} {o : Nat} (hx : ∀ i, i < n → xs[i]? = X[o + i]?) (hy : ∀ i, i < n → ys[i]? = Y[o + i]?) (hz : sizeA P e = some z) {look : Nat → Option (List (Nat × Nat))}
    (hag : ∀ o L, look o = some L → ∃ b, aggT P e = some b ∧ (b = false → sizeA P e = some 1 ∧ ∃ k, L = [(o, k)]))
    (ih : ∀ o L, look o = some L → ∀ V W r, LiesV P e V X o → LiesV P e W Y o → eqAt X Y L = some r → (Op.equalIn d e V W).run P w = .ok r w) :
    ∀ {k i : Nat} {L : List (Nat × Nat)} {r : Bool}, (i + k) * z ≤ n → lookEs look z o i k = some L → eqAt X Y L = some r → (Op.eqItems d e z xs ys (List.range' i k)).run P w = .ok r w
  | 0, i, L, r, _, h, he => by cases h; cases he; rfl
  | k + 1, i, L, r, hn, h, he => by
    simp only [lookEs] at h
    split at h
    · rename_i a b h4 h5
      cases h
      have h3 : i * z + z ≤ n := by rw [← Nat.succ_mul]; exact Nat.le_trans (Nat.mul_le_mul_right z (by omega)) hn
      obtain ⟨bb, hb1, hb2⟩ := hag _ _ h4
      have hsome : ∀ r', eqAt X Y a = some r' → (bb = false → 0 < z ∧ (X[o + i * z]?).isSome = true) ∧ (bb = false → 0 < z ∧ (Y[o + i * z]?).isSome = true) := fun r' hr' => by
        refine ⟨fun e => ?_, fun e => ?_⟩ <;> (
          obtain ⟨e1, k, rfl⟩ := hb2 e
          rw [hz] at e1; cases e1
          obtain ⟨u, v, e2, e3, _⟩ := eqAt_single hr'
          refine ⟨by omega, ?_⟩
          first | (rw [e2]; rfl) | (rw [e3]; rfl))
      have go : ∀ r', eqAt X Y a = some r' → ∃ V W, (part e xs (i * z)).run P w = .ok V w ∧ (part e ys (i * z)).run P w = .ok W w ∧ (Op.equalIn d e V W).run P w = .ok r' w := fun r' hr' => by
        obtain ⟨s1, s2⟩ := hsome r' hr'
        obtain ⟨V, v1, v2⟩ := part_lies (w := w) hx h3 hz hb1 s1
        obtain ⟨W, w1, w2⟩ := part_lies (w := w) hy h3 hz hb1 s2
        exact ⟨V, W, v1, w1, ih _ _ h4 V W r' v2 w2 hr'⟩
      rw [List.range'_succ]
      rcases eqAt_append he with ⟨e1, rfl⟩ | ⟨e1, e2⟩
      · obtain ⟨V, W, g1, g2, g3⟩ := go false e1
        simp [Op.eqItems, g1, g2, g3]
      · obtain ⟨V, W, g1, g2, g3⟩ := go true e1
        have := eq_items hx hy hz hag ih (by rw [show i + 1 + k = i + (k + 1) by omega]; exact hn) h5 e2
        simp [Op.eqItems, g1, g2, g3, this]
    · cases h
theorem eq_flat : ∀ (d : Nat) (t : TypeId) (o : Nat) (L : List (Nat × Nat)), lookT P d t o = some L → ∀ (D : Nat) (V W : Value) (X Y : Array Value) (r : Bool), LiesV P t V X o → LiesV P t W Y o → eqAt X Y L = some r →
    (Op.equalIn (d + D) t V W).run P w = .ok r w
  | 0, _, _, _, h => by cases h
  | d + 1, t, o, L, h => by
    intro D V W X Y r hV hW he
    rw [show d + 1 + D = (d + D) + 1 by omega]
    obtain ⟨bb, hb1, hb2⟩ := lookT_agg h
    simp only [lookT] at h
    split at h
    · rename_i hu
      have ha : aggT P t = some false := by simp [aggT, hu]
      obtain ⟨_, rfl⟩ := look1_some h
      obtain ⟨a, b, e1, e2, e3⟩ := eqAt_single he
      rw [hV.leaf ha] at e1; rw [hW.leaf ha] at e2
      cases e1; cases e2
      obtain ⟨x, y, rfl, rfl, rfl⟩ := sameC_bool e3
      exact run_equalIn_bool w _ _ _ _ hu
    · rename_i kk hu
      have ha : aggT P t = some false := by simp [aggT, hu]
      obtain ⟨_, rfl⟩ := look1_some h
      obtain ⟨a, b, e1, e2, e3⟩ := eqAt_single he
      rw [hV.leaf ha] at e1; rw [hW.leaf ha] at e2
      cases e1; cases e2
      obtain ⟨k, x, y, rfl, rfl, rfl⟩ := sameC_int e3
      simp [Op.equalIn, run_underlying hu]
    · rename_i hu
      have ha : aggT P t = some false := by simp [aggT, hu]
      obtain ⟨_, rfl⟩ := look1_some h
      obtain ⟨a, b, e1, e2, e3⟩ := eqAt_single he
      rw [hV.leaf ha] at e1; rw [hW.leaf ha] at e2
      cases e1; cases e2
      obtain ⟨x, y, rfl, rfl, rfl⟩ := sameC_string e3
      exact run_equalIn_string w _ _ _ _ hu
    · rename_i fs hu
      have ha : aggT P t = some true := by simp [aggT, hu]
      obtain ⟨xs, n, rfl, hn, hx⟩ := hV.parts ha
      obtain ⟨ys, n', rfl, hn', hy⟩ := hW.parts ha
      rw [hn] at hn'; cases hn'
      split at h
      · rename_i m h1 h2
        rw [hn] at h2; cases h2
        have hf : P.fieldsOf t = fs := by simp [Program.fieldsOf, hu]
        rw [run_equalIn_struct w (d + D) t xs ys (by rw [hf]; exact hu) h1, hf]
        exact eq_fields hx hy (fun t o L hL V W r v1 v2 v3 => eq_flat d t o L hL D V W X Y r v1 v2 v3) h he
      · cases h
    · rename_i len e hu
      have ha : aggT P t = some true := by simp [aggT, hu]
      obtain ⟨xs, n, rfl, hn, hx⟩ := hV.parts ha
      obtain ⟨ys, n', rfl, hn', hy⟩ := hW.parts ha
      rw [hn] at hn'; cases hn'
      split at h
      · rename_i z m h1 h2
        rw [hn] at h2; cases h2
        split at h
        · rename_i h3
          have h3 := Nat.le_of_ble_eq_true h3
          obtain ⟨i, hi, hiz⟩ := info_run h1
          have hc : P.cellsOf e = z := by simp [Program.cellsOf, hi, hiz]
          rw [run_equalIn_array w (d + D) xs ys hu hi, hc, List.range_eq_range']
          exact eq_items hx hy h1 (fun o L hL => lookT_agg hL) (fun o L hL V W r v1 v2 v3 => eq_flat d e o L hL D V W X Y r v1 v2 v3) (by rw [Nat.zero_add]; exact h3) h he
        · cases h
      · cases h
    · cases h
/-- What flatT says. -/
theorem flatT_some {t : TypeId} {ks : List Nat} (h : flatT P t = some ks) : ∃ L n, lookT P 20 t 0 = some L ∧ sizeA P t = some n ∧ P.eqGuardType P.depth t = false ∧ L.map (·.1) = List.range' 0 L.length ∧ L.map (·.2) = ks ∧ L.length = n := by
  unfold flatT at h
  split at h
  · rename_i l n h1 h2 h3
    split at h
    · rename_i h4
      cases h
      have h4 : l.map (·.1) = List.range n := by simpa using h4
      have h5 : l.length = n := by have := congrArg List.length h4; simpa using this
      exact ⟨l, n, h1, h2, h3, by rw [h4, h5, List.range_eq_range'], rfl, h5⟩
    · cases h
  · cases h
theorem flat_equal {t : TypeId} {ks : List Nat} {a b : List AV} {xs ys : List Value} {r : Bool} (h : flatT P t = some ks) (ha : aggT P t = some true) (he : (eqCs ks).f a b = some r) (hx : concs ρ a = some xs) (hy : concs ρ b = some ys) :
    (Op.equal t (.agg xs.toArray) (.agg ys.toArray)).run P w = .ok r w := by
  obtain ⟨L, n, h1, h2, _, h4, rfl, h6⟩ := flatT_some h
  have e := eqCs_ok (X := xs.toArray) (Y := ys.toArray) h4 he hx hy (fun i v hi => by rw [Nat.zero_add, List.getElem?_toArray]; exact hi) (fun i v hi => by rw [Nat.zero_add, List.getElem?_toArray]; exact hi)
  have hl : ∀ zs : List Value, LiesV P t (.agg zs.toArray) zs.toArray 0 := fun zs => by
    unfold LiesV; rw [ha]
    exact ⟨zs.toArray, n, rfl, h2, fun i _ => by rw [Nat.zero_add]⟩
  exact eq_flat 20 t 0 L h1 (Op.maxDepth - 20) _ _ _ _ r (hl xs) (hl ys) e
end
end Go.Proofs.YtfmaapbibmnfgaaGreatDoor.Ev
namespace Go.Proofs.YtfmaapbibmnfgaaGreatDoor.Ev
variable [Vr]
section
variable {P : Program} {ρ : Rho} {S : AS} {w : World}

theorem eqGuard_agg {op : BinOp} {t : TypeId} {X Y : Operand} {a b : Array Value} (h : P.eqGuardType P.depth t = false) : (eqGuard op t X Y (.agg a) (.agg b)).run P w = .ok () w := by
  cases op <;> simp [eqGuard, h]
theorem eqGuard_else {op : BinOp} {t : TypeId} {X Y : Operand} {a b : Value} (h1 : a ≠ .nilIface) (h2 : ∀ l, a ≠ .agg l) : (eqGuard op t X Y a b).run P w = .ok () w := by
  cases a <;> first | exact absurd rfl h1 | exact absurd rfl (h2 _) | (cases op <;> simp [eqGuard])
theorem sameAddr_apart {g1 g2 o1 o2 : Nat} {a1 a2 : Array Value} {t1 t2 : TypeId} (h1 : w.heap[g1]? = some (.cells a1 t1 (0, 0))) (h2 : w.heap[g2]? = some (.cells a2 t2 (0, 0))) (hne : g1 ≠ g2) :
    (sameAddr ⟨g1, o1, none⟩ ⟨g2, o2, none⟩).run P w = .ok false w := by
  have hb : (g1 == g2) = false := by simpa using hne
  have s1 : w.shape? g1 = some (t1, a1.size) := by simp [World.shape?, h1]
  have s2 : w.shape? g2 = some (t2, a2.size) := by simp [World.shape?, h2]
  have f1 : ∀ o, w.frozen? ⟨g1, o, none⟩ = false := fun o => by simp [World.frozen?, h1]
  have f2 : ∀ o, w.frozen? ⟨g2, o, none⟩ = false := fun o => by simp [World.frozen?, h2]
  simp [sameAddr, hb, noView, viewAt, mayBeOne, stringish, s1, s2, f1, f2]
theorem relC_own (hs : Sat P ρ S w) {b : Nam} {g off cap : Nat} (hb : look ρ b = some (.blk g off cap)) (h : ownB S b = true) : (S.at b.p).live ∧ ∃ arr t, w.heap[g]? = some (.cells arr t (0, 0)) := by
  have h' : oCells (getA S b) false (fun m _ _ => cMd m true false false) = true := h
  cases e : getA S b with
  | cells m t cs =>
    rw [e] at h'
    cases m with
    | own =>
      rw [getA_eq] at e
      obtain ⟨g', off', cap', arr, fz, l, r⟩ := relC_of hs e
      have := look_path hb
      rw [r.here] at this
      cases this
      obtain ⟨_, _, h3⟩ := r.own rfl
      refine ⟨by rw [e]; exact trivial, arr, t, ?_⟩
      rw [r.obj, h3]
    | row => cases h'
    | lib => cases h'
  | _ => rw [e] at h'; cases h'
theorem vFnN_some {α : Type} {x : α} {v : AV} {a : Option α} {f : FuncId → List AV → List AV → Option α} {g : Nam → Option α} (h : vFnN v none a f g = some x) :
    (v = .nilf ∧ a = some x) ∨ (∃ k p q, v = .func k p q ∧ f k p q = some x) ∨ (∃ l, v = .yld l ∧ g l = some x) := by
  cases v <;> first | exact .inl ⟨rfl, h⟩ | exact .inr (.inl ⟨_, _, _, rfl, h⟩) | exact .inr (.inr ⟨_, rfl, h⟩) | cases h
theorem eq_ok (hs : Sat P ρ S w) {t : TypeId} {x y : AV} {ux uy : Value} {b : Bool} (h : (eqA P t).f x y S = some b) (hx : conc ρ x = some ux) (hy : conc ρ y = some uy) :
    (Op.equal t ux uy).run P w = .ok b w ∧ (∀ op X Y, (eqGuard op t X Y ux uy).run P w = .ok () w) ∧ (∀ k n, ux ≠ .int k n) ∧ (∀ s, ux ≠ .string s) ∧ (∀ k n, ux ≠ .float k n) ∧ (∀ k n m, ux ≠ .complex k n m) := by
  unfold eqA at h
  split at h
  · rename_i hu
    have h' : vBool x none (fun a => vBool y none fun b => some (bEq a b)) = some b := h
    obtain ⟨p, rfl, h1⟩ := vBool_some h'
    obtain ⟨q, rfl, h2⟩ := vBool_some h1
    cases conc_bool hx; cases conc_bool hy
    rw [bEq_eq] at h2
    cases h2
    exact ⟨run_equalIn_bool w _ _ _ _ hu, fun _ _ _ => eqGuard_else (by intro e; cases e) (by intro l e; cases e), nofun, nofun, nofun, nofun⟩
  · rename_i fs hu
    split at h
    · rename_i ks hk
      obtain ⟨l, rfl, h1⟩ := vAgg_some h
      obtain ⟨m, rfl, h2⟩ := vAgg_some h1
      obtain ⟨xs, rfl, hxs⟩ := conc_agg hx
      obtain ⟨ys, rfl, hys⟩ := conc_agg hy
      obtain ⟨_, _, _, _, hg, _⟩ := flatT_some hk
      exact ⟨flat_equal hk (by simp [aggT, hu]) h2 hxs hys, fun _ _ _ => eqGuard_agg hg, nofun, nofun, nofun, nofun⟩
    · cases h
  · rename_i n e hu
    split at h
    · rename_i ks hk
      obtain ⟨l, rfl, h1⟩ := vAgg_some h
      obtain ⟨m, rfl, h2⟩ := vAgg_some h1
      obtain ⟨xs, rfl, hxs⟩ := conc_agg hx
      obtain ⟨ys, rfl, hys⟩ := conc_agg hy
      obtain ⟨_, _, _, _, hg, _⟩ := flatT_some hk
      exact ⟨flat_equal hk (by simp [aggT, hu]) h2 hxs hys, fun _ _ _ => eqGuard_agg hg, nofun, nofun, nofun, nofun⟩
    · cases h
  · rename_i e hu
    have nilcase : ∀ {p q : Option Addr}, (p = none ∨ q = none) → (Op.equal t (.pointer p) (.pointer q)).run P w = .ok (p.isNone && q.isNone) w := by
      intro p q hpq
      suffices H : ∀ d, (Op.equalIn (d + 1) t (.pointer p) (.pointer q)).run P w = .ok (p.isNone && q.isNone) w from H 9999
      intro d
      cases p <;> cases q <;> first | (rcases hpq with h | h <;> cases h; done) | simp [Op.equalIn, run_underlying hu]
    have fin : ∀ {p : Option Addr} {v : Value} {r : Bool}, (Op.equal t (.pointer p) v).run P w = .ok r w → (Op.equal t (.pointer p) v).run P w = .ok r w ∧ (∀ op X Y, (eqGuard op t X Y (.pointer p) v).run P w = .ok () w) ∧ (∀ k n, Value.pointer p ≠ .int k n) ∧ (∀ s, Value.pointer p ≠ .string s) ∧ (∀ k n, Value.pointer p ≠ .float k n) ∧ (∀ k n m, Value.pointer p ≠ .complex k n m) := fun h =>
      ⟨h, fun _ _ _ => eqGuard_else (by intro e; cases e) (by intro l e; cases e), nofun, nofun, nofun, nofun⟩
    split at h
    · rename_i z hz
      rcases vPtrN_some h with ⟨rfl, h1⟩ | ⟨a, o, rfl, h1⟩
      · cases conc_nilp hx
        rcases vPtrN_some h1 with ⟨rfl, h2⟩ | ⟨a, o, rfl, h2⟩
        · cases conc_nilp hy; cases h2; exact fin (nilcase (.inl rfl))
        · obtain ⟨_, _, _, _, rfl⟩ := conc_ptr hy; cases h2; exact fin (nilcase (.inl rfl))
      · obtain ⟨g, off, cap, hb, rfl⟩ := conc_ptr hx
        rcases vPtrN_some h1 with ⟨rfl, h2⟩ | ⟨a', o', rfl, h2⟩
        · cases conc_nilp hy; cases h2; exact fin (nilcase (.inr rfl))
        · obtain ⟨g', off', cap', hb', rfl⟩ := conc_ptr hy
          obtain ⟨h3, h4⟩ := cB_some h2
          obtain ⟨ho, ho'⟩ := bAnd_iff.1 h3
          obtain ⟨l1, arr1, t1, e1⟩ := relC_own hs hb ho
          obtain ⟨l2, arr2, t2, e2⟩ := relC_own hs hb' ho'
          have red : (Op.equal t (.pointer (some ⟨g, off + o, none⟩)) (.pointer (some ⟨g', off' + o', none⟩))).run P w = (sameAddr ⟨g, off + o, none⟩ ⟨g', off' + o', none⟩).run P w := by
            suffices H : ∀ d, (Op.equalIn (d + 1) t (.pointer (some ⟨g, off + o, none⟩)) (.pointer (some ⟨g', off' + o', none⟩))).run P w = (sameAddr ⟨g, off + o, none⟩ ⟨g', off' + o', none⟩).run P w from H 9999
            intro d
            simp [Op.equalIn, run_underlying hu, size_run hz]
          refine fin ?_
          rw [red]
          cases hn : Nat.beq a.n a'.n with
          | true =>
            rw [hn] at h4
            have h4 : some (Nat.beq o o') = some b := h4
            cases h4
            rw [Nat.beq_eq] at hn
            have := nam_eq hb hb' hn
            subst this
            rw [hb] at hb'; cases hb'
            have e3 : ((⟨g, off + o, none⟩ : Addr) == ⟨g, off + o', none⟩) = Nat.beq o o' := by
              cases hq : Nat.beq o o' with
              | true => rw [Nat.beq_eq] at hq; subst hq; simp
              | false =>
                have : o ≠ o' := by intro e; subst e; rw [Nat.beq_refl] at hq; cases hq
                simp [this]
            simp [sameAddr, e3]
          | false =>
            rw [hn] at h4
            have h4 : some false = some b := h4
            cases h4
            refine sameAddr_apart e1 e2 fun e => ?_
            subst e
            have hp := hs.inj _ _ _ _ _ _ _ l1 l2 (look_path hb) (look_path hb')
            have : a.n = a'.n := by rw [look_num hb, look_num hb', hp]
            rw [this, Nat.beq_refl] at hn; cases hn
    · rcases vPtrN_some h with ⟨rfl, h1⟩ | ⟨a, o, rfl, h1⟩
      · cases conc_nilp hx
        rcases vPtrN_some h1 with ⟨rfl, h2⟩ | ⟨a, o, rfl, h2⟩
        · cases conc_nilp hy; cases h2; exact fin (nilcase (.inl rfl))
        · obtain ⟨_, _, _, _, rfl⟩ := conc_ptr hy; cases h2; exact fin (nilcase (.inl rfl))
      · obtain ⟨g, off, cap, hb, rfl⟩ := conc_ptr hx
        rcases vPtrN_some h1 with ⟨rfl, h2⟩ | ⟨a', o', rfl, h2⟩
        · cases conc_nilp hy; cases h2; exact fin (nilcase (.inr rfl))
        · cases h2
  · rename_i e hu
    have some_of : ∀ {v : AV} {u : Value}, (∃ b o n c, v = .slice b o n c) ∨ (∃ b o n c, v = .row b o n c) ∨ (∃ b o p c, v = .tail b o p c) → conc ρ v = some u → ∃ a n c, u = .slice (some a) n c := by
      rintro v u (⟨b, o, n, c, rfl⟩ | ⟨b, o, n, c, rfl⟩ | ⟨b, o, n, c, rfl⟩) hu
      · obtain ⟨_, _, _, _, _, rfl⟩ := conc_slice hu; exact ⟨_, _, _, rfl⟩
      · obtain ⟨_, _, _, _, _, rfl⟩ := conc_row hu; exact ⟨_, _, _, rfl⟩
      · obtain ⟨_, _, _, _, _, rfl⟩ := conc_tail hu; exact ⟨_, _, _, rfl⟩
    have fin : ∀ {a a' : Option Addr} {n c n' c' : Nat}, (a = none ∨ a' = none) → b = (a.isNone && a'.isNone) → (Op.equal t (.slice a n c) (.slice a' n' c')).run P w = .ok b w ∧ (∀ op X Y, (eqGuard op t X Y (.slice a n c) (.slice a' n' c')).run P w = .ok () w) ∧ (∀ k m, Value.slice a n c ≠ .int k m) ∧ (∀ s, Value.slice a n c ≠ .string s) ∧ (∀ k m, Value.slice a n c ≠ .float k m) ∧ (∀ k m m', Value.slice a n c ≠ .complex k m m') := by
      intro a a' n c n' c' hq e
      subst e
      refine ⟨?_, fun _ _ _ => eqGuard_else (by intro e; cases e) (by intro l e; cases e), nofun, nofun, nofun, nofun⟩
      suffices H : ∀ d, (Op.equalIn (d + 1) t (.slice a n c) (.slice a' n' c')).run P w = .ok (a.isNone && a'.isNone) w from H 9999
      intro d
      cases a <;> cases a' <;> first | (rcases hq with hq | hq <;> cases hq; done) | simp [Op.equalIn, run_underlying hu]
    have two : ∀ {v : AV} {uv : Value}, ((∃ b o n c, v = .slice b o n c) ∨ (∃ b o n c, v = .row b o n c) ∨ (∃ b o p c, v = .tail b o p c)) → conc ρ v = some uv → vSl y none (vB false) (fun _ _ _ _ => none) (fun _ _ _ _ => none) = some b →
        (Op.equal t uv uy).run P w = .ok b w ∧ (∀ op X Y, (eqGuard op t X Y uv uy).run P w = .ok () w) ∧ (∀ k n, uv ≠ .int k n) ∧ (∀ s, uv ≠ .string s) ∧ (∀ k n, uv ≠ .float k n) ∧ (∀ k n m, uv ≠ .complex k n m) := fun {v uv} hv hvx hy2 => by
      obtain ⟨a, n, c, rfl⟩ := some_of hv hvx
      rcases vSl_some hy2 with ⟨rfl, h2⟩ | ⟨_, _, _, _, rfl, h2⟩ | ⟨_, _, _, _, rfl, h2⟩
      · cases conc_nils hy; cases h2; exact fin (a := some a) (a' := none) (n := n) (c := c) (n' := 0) (c' := 0) (.inr rfl) rfl
      · cases h2
      · cases h2
    rcases vSlT_some h with ⟨rfl, h1⟩ | ⟨p, o, n, c, rfl, h1⟩ | ⟨p, o, n, c, rfl, h1⟩ | ⟨p, o, n, c, rfl, h1⟩
    · cases conc_nils hx
      rcases vSlT_some h1 with ⟨rfl, h2⟩ | ⟨p, o, n, c, rfl, h2⟩ | ⟨p, o, n, c, rfl, h2⟩ | ⟨p, o, n, c, rfl, h2⟩
      · cases conc_nils hy; cases h2; exact fin (.inl rfl) rfl
      · obtain ⟨a, n, c, rfl⟩ := some_of (.inl ⟨_, _, _, _, rfl⟩) hy; cases h2; exact fin (.inl rfl) rfl
      · obtain ⟨a, n, c, rfl⟩ := some_of (.inr (.inl ⟨_, _, _, _, rfl⟩)) hy; cases h2; exact fin (.inl rfl) rfl
      · obtain ⟨a, n, c, rfl⟩ := some_of (.inr (.inr ⟨_, _, _, _, rfl⟩)) hy; cases h2; exact fin (.inl rfl) rfl
    · exact two (.inl ⟨_, _, _, _, rfl⟩) hx h1
    · exact two (.inr (.inl ⟨_, _, _, _, rfl⟩)) hx h1
    · exact two (.inr (.inr ⟨_, _, _, _, rfl⟩)) hx h1
  · rename_i q1 q2 q3 hu
    have isf : ∀ {v : AV} {u : Value}, ((∃ g a b, v = .func g a b) ∨ ∃ l, v = .yld l) → conc ρ v = some u → ∃ F a b, u = .func F a b := by
      rintro v u (⟨g, a, b, rfl⟩ | ⟨l, rfl⟩) hu
      · simp only [conc] at hu
        split at hu
        · cases hu; exact ⟨_, _, _, rfl⟩
        · cases hu
      · simp only [conc] at hu
        split at hu
        · cases hu; exact ⟨_, _, _, rfl⟩
        · cases hu
    have nilc : ∀ {u : Value}, conc ρ .nilf = some u → u = .nilFunc := fun h => by simp only [conc] at h; exact (Option.some.inj h).symm
    have fin : ∀ {u v : Value} {r : Bool}, ((u = .nilFunc ∧ v = .nilFunc ∧ r = true) ∨ (u = .nilFunc ∧ (∃ F a c, v = .func F a c) ∧ r = false) ∨ ((∃ F a c, u = .func F a c) ∧ v = .nilFunc ∧ r = false)) →
        (Op.equal t u v).run P w = .ok r w ∧ (∀ op X Y, (eqGuard op t X Y u v).run P w = .ok () w) ∧ (∀ k m, u ≠ .int k m) ∧ (∀ s, u ≠ .string s) ∧ (∀ k m, u ≠ .float k m) ∧ (∀ k m m', u ≠ .complex k m m') := by
      intro u v r h
      have H : (∀ d, (Op.equalIn (d + 1) t u v).run P w = .ok r w) → (Op.equal t u v).run P w = .ok r w := fun H => H 9999
      rcases h with ⟨rfl, rfl, rfl⟩ | ⟨rfl, ⟨F, a, c, rfl⟩, rfl⟩ | ⟨⟨F, a, c, rfl⟩, rfl, rfl⟩ <;>
        exact ⟨H fun d => by simp [Op.equalIn, run_underlying hu], fun _ _ _ => eqGuard_else (by intro e; cases e) (by intro l e; cases e), nofun, nofun, nofun, nofun⟩
    rcases vFnN_some h with ⟨rfl, h1⟩ | ⟨g, p, q, rfl, h1⟩ | ⟨l, rfl, h1⟩
    · cases nilc hx
      rcases vFnN_some h1 with ⟨rfl, h2⟩ | ⟨g, p, q, rfl, h2⟩ | ⟨l, rfl, h2⟩
      · cases nilc hy; cases h2; exact fin (.inl ⟨rfl, rfl, rfl⟩)
      · cases h2; exact fin (.inr (.inl ⟨rfl, isf (.inl ⟨_, _, _, rfl⟩) hy, rfl⟩))
      · cases h2; exact fin (.inr (.inl ⟨rfl, isf (.inr ⟨_, rfl⟩) hy, rfl⟩))
    · rcases vFnN_some h1 with ⟨rfl, h2⟩ | ⟨_, _, _, rfl, h2⟩ | ⟨_, rfl, h2⟩
      · cases nilc hy; cases h2; exact fin (.inr (.inr ⟨isf (.inl ⟨_, _, _, rfl⟩) hx, rfl, rfl⟩))
      · cases h2
      · cases h2
    · rcases vFnN_some h1 with ⟨rfl, h2⟩ | ⟨_, _, _, rfl, h2⟩ | ⟨_, rfl, h2⟩
      · cases nilc hy; cases h2; exact fin (.inr (.inr ⟨isf (.inr ⟨_, rfl⟩) hx, rfl, rfl⟩))
      · cases h2
      · cases h2
  · rename_i kk e hu
    have fin : ∀ {a a' : Option Nat}, (a = none ∨ a' = none) → b = (a.isNone && a'.isNone) → (Op.equal t (.map a) (.map a')).run P w = .ok b w ∧ (∀ op X Y, (eqGuard op t X Y (.map a) (.map a')).run P w = .ok () w) ∧ (∀ k m, Value.map a ≠ .int k m) ∧ (∀ s, Value.map a ≠ .string s) ∧ (∀ k m, Value.map a ≠ .float k m) ∧ (∀ k m m', Value.map a ≠ .complex k m m') := by
      intro a a' hq e
      subst e
      refine ⟨?_, fun _ _ _ => eqGuard_else (by intro e; cases e) (by intro l e; cases e), nofun, nofun, nofun, nofun⟩
      suffices H : ∀ d, (Op.equalIn (d + 1) t (.map a) (.map a')).run P w = .ok (a.isNone && a'.isNone) w from H 9999
      intro d
      cases a <;> cases a' <;> first | (rcases hq with hq | hq <;> cases hq; done) | simp [Op.equalIn, run_underlying hu]
    rcases vMap_some h with ⟨rfl, h1⟩ | ⟨p, rfl, h1⟩
    · cases conc_nilm hx
      rcases vMap_some h1 with ⟨rfl, h2⟩ | ⟨p, rfl, h2⟩
      · cases conc_nilm hy; cases h2; exact fin (.inl rfl) rfl
      · obtain ⟨_, _, _, _, rfl⟩ := conc_map hy; cases h2; exact fin (.inl rfl) rfl
    · obtain ⟨_, _, _, _, rfl⟩ := conc_map hx
      rcases vMap_some h1 with ⟨rfl, h2⟩ | ⟨p, rfl, h2⟩
      · cases conc_nilm hy; cases h2; exact fin (.inr rfl) rfl
      · cases h2
  · cases h
theorem eqF_ok {x y : AV} {ux uy : Value} {b : Bool} {t : TypeId} {ms : _} (hu : P.underlying t = some (.interface ms)) (h : eqF x y = some b) (hx : conc ρ x = some ux) (hy : conc ρ y = some uy) :
    (Op.equal t ux uy).run P w = .ok b w ∧ (∀ op X Y, isC X = true ∨ isC Y = true → (eqGuard op t X Y ux uy).run P w = .ok () w) ∧ (∀ k n, ux ≠ .int k n) ∧ (∀ s, ux ≠ .string s) ∧ (∀ k n, ux ≠ .float k n) ∧ (∀ k n m, ux ≠ .complex k n m) := by
  have nilc : ∀ {u : Value}, conc ρ .nili = some u → u = .nilIface := fun h => by simp only [conc] at h; cases h; rfl
  have ifc : ∀ {v : AV} {u : Value}, ((∃ t q, v = .iface t q) ∨ ∃ i, v = .ifo i) → conc ρ v = some u → ∃ t q, u = .iface t q := by
    rintro v u (⟨t, q, rfl⟩ | ⟨i, rfl⟩) h
    · simp only [conc] at h
      split at h
      · cases h; exact ⟨_, _, rfl⟩
      · cases h
    · obtain ⟨t, q, rfl, _⟩ := conc_ifo h; exact ⟨_, _, rfl⟩
  have e0 : (Op.equal t .nilIface .nilIface).run P w = .ok true w := by
    suffices H : ∀ d, (Op.equalIn (d + 1) t .nilIface .nilIface).run P w = .ok true w from H 9999
    intro d; simp [Op.equalIn, run_underlying hu]
  have e1 : ∀ a q, (Op.equal t .nilIface (.iface a q)).run P w = .ok false w := fun a q => by
    suffices H : ∀ d, (Op.equalIn (d + 1) t .nilIface (.iface a q)).run P w = .ok false w from H 9999
    intro d; simp [Op.equalIn, run_underlying hu]
  have e2 : ∀ a q, (Op.equal t (.iface a q) .nilIface).run P w = .ok false w := fun a q => by
    suffices H : ∀ d, (Op.equalIn (d + 1) t (.iface a q) .nilIface).run P w = .ok false w from H 9999
    intro d; simp [Op.equalIn, run_underlying hu]
  have g0 : ∀ op X Y, isC X = true ∨ isC Y = true → (eqGuard op t X Y .nilIface .nilIface).run P w = .ok () w := fun op X Y hc => by
    cases X <;> cases Y <;> first | (cases op <;> simp [eqGuard]; done) | (rcases hc with hc | hc <;> cases hc)
  have g1 : ∀ a q op X Y, (eqGuard op t X Y .nilIface (.iface a q)).run P w = .ok () w := fun a q op X Y => by cases op <;> simp [eqGuard]
  unfold eqF at h
  rcases vIfo_some h with ⟨rfl, h1⟩ | ⟨a, q, rfl, h1⟩ | ⟨i, rfl, h1⟩
  · cases nilc hx
    have h1 : vIfo y none (some true) (fun _ _ => some false) (fun _ => some false) = some b := h1
    rcases vIfo_some h1 with ⟨rfl, h2⟩ | ⟨a, q, rfl, h2⟩ | ⟨i, rfl, h2⟩
    · cases nilc hy; cases h2; exact ⟨e0, g0, nofun, nofun, nofun, nofun⟩
    · cases h2; obtain ⟨a', q', rfl⟩ := ifc (.inl ⟨_, _, rfl⟩) hy; exact ⟨e1 _ _, fun op X Y _ => g1 _ _ op X Y, nofun, nofun, nofun, nofun⟩
    · cases h2; obtain ⟨a', q', rfl⟩ := ifc (.inr ⟨_, rfl⟩) hy; exact ⟨e1 _ _, fun op X Y _ => g1 _ _ op X Y, nofun, nofun, nofun, nofun⟩
  · obtain ⟨a', q', rfl⟩ := ifc (.inl ⟨_, _, rfl⟩) hx
    have h1 : vIfo y none (some false) (fun _ _ => none) (fun _ => none) = some b := h1
    rcases vIfo_some h1 with ⟨rfl, h2⟩ | ⟨a, q, rfl, h2⟩ | ⟨i, rfl, h2⟩
    · cases nilc hy; cases h2; exact ⟨e2 _ _, fun _ _ _ _ => eqGuard_else (by intro e; cases e) (by intro l e; cases e), nofun, nofun, nofun, nofun⟩
    · cases h2
    · cases h2
  · obtain ⟨a', q', rfl⟩ := ifc (.inr ⟨_, rfl⟩) hx
    have h1 : vIfo y none (some false) (fun _ _ => none) (fun _ => none) = some b := h1
    rcases vIfo_some h1 with ⟨rfl, h2⟩ | ⟨a, q, rfl, h2⟩ | ⟨i, rfl, h2⟩
    · cases nilc hy; cases h2; exact ⟨e2 _ _, fun _ _ _ _ => eqGuard_else (by intro e; cases e) (by intro l e; cases e), nofun, nofun, nofun, nofun⟩
    · cases h2
    · cases h2
theorem bin_ok (hs : Sat P ρ S w) (cst : Bool) (op : BinOp) (t : TypeId) (X Y : Operand) (hc : cst = true → isC X = true ∨ isC Y = true) {x y : AV} {ux uy : Value} (hx : conc ρ x = some ux) (hy : conc ρ y = some uy) :
    AN.okV P ρ S w ((do eqGuard op t X Y ux uy; binOp op t ux uy).run P w) ((binA P cst op t).f x y S) := by
  unfold binA
  split
  · have int2 : ∀ (G : IntKind → Int → IntKind → Int → AN), (∀ k a j b, AN.okV P ρ S w ((do eqGuard op t X Y (.int k a) (.int j b); binOp op t (.int k a) (.int j b)).run P w) (G k a j b)) →
        AN.okV P ρ S w ((do eqGuard op t X Y ux uy; binOp op t ux uy).run P w) (vInt x .no fun k a => vInt y .no fun j b => G k a j b) := fun G hG => by
      refine vInt_ok trivial fun k a e => ?_
      subst e; cases conc_int hx
      refine vInt_ok trivial fun j b e => ?_
      subst e; cases conc_int hy
      exact hG k a j b
    split
    · exact int2 _ fun k a j b => shl_ok k j a b t X Y
    · exact int2 _ fun k a j b => shr_ok k j a b t X Y
    · rename_i h1 h2
      refine int2 _ fun k a j b => ?_
      refine cB_ok (fun hk => ?_) fun _ => trivial
      cases kEq_iff.1 hk
      exact arith_ok op k a b t X Y (fun e => h1 e) (fun e => h2 e)
  · split
    · refine cO_ok trivial fun b hb => ?_
      obtain ⟨s, s', rfl, rfl, e⟩ := eqS_ok hb hx hy
      simp only [e, eqGuard, binOp, Op.stringOp]; exact get_bool _
    · refine cO_ok trivial fun b hb => ?_
      obtain ⟨s, s', rfl, rfl, e⟩ := eqS_ok hb hx hy
      simp only [e, bNot_eq, eqGuard, binOp, Op.stringOp]; exact get_bool _
    · refine vStr_ok trivial fun a e => ?_
      subst e
      refine vStr_ok trivial fun b e => ?_
      subst e
      refine cB_ok (fun hk => ?_) fun _ => trivial
      obtain ⟨s, rfl, hsx⟩ := conc_str hx
      obtain ⟨s', rfl, hsy⟩ := conc_str hy
      have h1 := textOf_size hsx
      have h2 := textOf_size hsy
      have h3 : a.length + b.length ≤ 1000000000 := by
        have := Nat.le_of_ble_eq_true hk
        rwa [len_eq, len_eq] at this
      refine ⟨.string (s ++ s'), ?_, ?_⟩
      · simp only [conc, app_eq, textOf_append hsx hsy]
      · have hq : ¬ (((s.size + s'.size : Nat) : Int) > IntKind.i64.max) := by show ¬ (((s.size + s'.size : Nat) : Int) > 9223372036854775807); omega
        simp only [eqGuard, binOp, Op.stringOp, if_neg hq]
        rfl
    · exact trivial
  · rename_i ms hu
    split
    · refine cO_ok trivial fun b hb => ?_
      obtain ⟨h1, h2, h3, h4, h5, h6⟩ := eqF_ok (w := w) hu hb hx hy
      have h2 := h2 .eql X Y (hc rfl)
      refine get_bool' ?_
      have : binOp .eql t ux uy = (do pure (.bool (← Op.equal t ux uy))) := by
        cases ux <;> first | exact absurd rfl (h3 _ _) | exact absurd rfl (h4 _) | exact absurd rfl (h5 _ _) | exact absurd rfl (h6 _ _ _) | (cases uy <;> rfl)
      simp only [Sem.run_bind, h2, Result.andThen_ok, this, h1, Sem.run_pure]
    · refine cO_ok trivial fun b hb => ?_
      obtain ⟨h1, h2, h3, h4, h5, h6⟩ := eqF_ok (w := w) hu hb hx hy
      have h2 := h2 .neq X Y (hc rfl)
      refine get_bool' ?_
      have : binOp .neq t ux uy = (do pure (.bool (!(← Op.equal t ux uy)))) := by
        cases ux <;> first | exact absurd rfl (h3 _ _) | exact absurd rfl (h4 _) | exact absurd rfl (h5 _ _) | exact absurd rfl (h6 _ _ _) | (cases uy <;> rfl)
      simp only [Sem.run_bind, h2, Result.andThen_ok, this, h1, Sem.run_pure, bNot_eq]
    · exact trivial
  · split
    · refine cO_ok trivial fun b hb => ?_
      obtain ⟨h1, h2, h3, h4, h5, h6⟩ := eq_ok hs hb hx hy
      refine get_bool' ?_
      have : binOp .eql t ux uy = (do pure (.bool (← Op.equal t ux uy))) := by
        cases ux <;> first | exact absurd rfl (h3 _ _) | exact absurd rfl (h4 _) | exact absurd rfl (h5 _ _) | exact absurd rfl (h6 _ _ _) | (cases uy <;> rfl)
      simp only [Sem.run_bind, h2, Result.andThen_ok, this, h1, Sem.run_pure]
    · refine cO_ok trivial fun b hb => ?_
      obtain ⟨h1, h2, h3, h4, h5, h6⟩ := eq_ok hs hb hx hy
      rw [bNot_eq]
      refine get_bool' ?_
      have : binOp .neq t ux uy = (do pure (.bool (!(← Op.equal t ux uy)))) := by
        cases ux <;> first | exact absurd rfl (h3 _ _) | exact absurd rfl (h4 _) | exact absurd rfl (h5 _ _) | exact absurd rfl (h6 _ _ _) | (cases uy <;> rfl)
      simp only [Sem.run_bind, h2, Result.andThen_ok, this, h1, Sem.run_pure]
    · exact trivial
end
end Go.Proofs.YtfmaapbibmnfgaaGreatDoor.Ev
