/- A run of a program on abstract memory: copying, clearing, lengths, conversions. -/
import Derived.Test.YthgkdadchfoomabGreatEvO
namespace Go.Proofs.YthgkdadchfoomabGreat.Ev
section
variable {P : Program} {ρ : Rho} {S : AS} {w : World}

/-! ### Copying -/
theorem copy_ok (hs : Sat P ρ S w) {x v : AV} {ux uv : Value} {ats : Array TypeId} {dT yT ty : TypeId} (h0 : ats[0]? = some dT) (hx : conc ρ x = some ux) (hv : conc ρ v = some uv) :
    AN.okV P ρ S w ((Builtin.copy_ ats ty #[ux, uv]).run P w) ((copyA P dT yT).f x v S) := by
  unfold copyA
  split
  · rename_i e e2 hu hy
    split
    · rename_i z hz
      refine cO_ok trivial fun m hm => cO_ok trivial fun n hn => cO_ok trivial fun q hq => ?_
      refine cB_ok (fun hc => ?_) fun _ => trivial
      rw [minN_eq] at hq ⊢
      obtain ⟨hlv, _⟩ := lenS_run (P := P) hn hv
      obtain ⟨_, a, c, hux⟩ := lenS_run (P := P) hm hx
      obtain ⟨vs, h3, h4, h5⟩ := firstS_run hs hq ⟨n, hn, Nat.min_le_left _ _⟩ hv
      have hone := allCell1_one hc h3
      have hrun : ∀ base len cap w', ux = .slice base len cap → len = m → (∀ b, base = some b → (storeCells b vs).run P w = .ok () w') → (base = none → w' = w) → (Builtin.copy_ ats ty #[ux, uv]).run P w = .ok (.int .i64 (.ofNat (min n m))) w' := by
        intro base len cap w' e1 e2 hst hnone
        subst e1 e2
        have h5' := h5 w rfl
        cases base with
        | none =>
          cases hnone rfl
          simp [Builtin.copy_, h0, run_underlying hu, hlv, size_run hz, h5', goInt]
        | some b =>
          have := hst b rfl
          simp [Builtin.copy_, h0, run_underlying hu, hlv, size_run hz, h5', this, goInt]
      have hlm : ∀ {b o l c'}, x = .slice b o l c' → l = m := by intro b o l c' e; subst e; exact Option.some.inj hm
      have hlm2 : ∀ {b o l c'}, x = .row b o l c' → l = m := by intro b o l c' e; subst e; exact Option.some.inj hm
      have key : ∀ {b : Nam} {o g off cap : Nat} {m' : Md} {t : TypeId} {cs : List AV} (_ : S.at b.p = .cells m' t cs) (_ : look ρ b = some (.blk g off cap)) {len c : Nat} (_ : ux = .slice (some ⟨g, off + o, none⟩) len c) (_ : len = m),
          AN.okV P ρ S w ((Builtin.copy_ ats ty #[ux, uv]).run P w) (cO (put q o cs) .no fun cs' => .val (.int .i64 (.ofNat (min n m))) (putA S b (.cells m' t cs'))) := by
        intro b o g off cap m' t cs ho hb len c e1 e2
        refine cO_ok trivial fun cs' hp => ?_
        obtain ⟨a1, a2, a3⟩ := hs.write ho (look_path hb) hp h3 hone
        exact ⟨ρ, _, _, hrun _ len c _ e1 e2 (fun b' h => by cases h; exact a1) (fun h => by cases h), a3, a2, by simp only [conc]⟩
      refine vSl_ok trivial (fun e => ?_) (fun b o l c e => ?_) (fun b o l c e => ?_)
      · subst e
        cases conc_nils hx
        have hm0 : m = 0 := (Option.some.inj hm).symm
        exact ⟨ρ, _, w, hrun none 0 0 w rfl hm0.symm (fun b h => by cases h) fun _ => rfl, Ext.refl _ _ _, hs, by simp only [conc]⟩
      · have hl := hlm e
        subst e
        obtain ⟨g, off, cap, hb, _, rfl⟩ := conc_slice hx
        refine oCells_ok trivial fun m' t cs ho => ?_
        rw [getA_eq] at ho
        have := key ho hb rfl hl
        exact cMd_ok (fun _ => this) (fun _ => this) fun _ => trivial
      · have hl := hlm2 e
        subst e
        obtain ⟨g, off, cap, hb, _, rfl⟩ := conc_row hx
        refine oCells_ok trivial fun m' t cs ho => ?_
        rw [getA_eq] at ho
        have := key ho hb rfl hl
        exact cMd_ok (fun _ => trivial) (fun _ => this) fun _ => trivial
    · exact trivial
  · exact trivial

/-! ### Clearing -/
theorem clear_ok (hs : Sat P ρ S w) {x : AV} {ux : Value} {ats : Array TypeId} {t ty : TypeId} (h0 : ats[0]? = some t) (hx : conc ρ x = some ux) :
    AN.okV P ρ S w ((Builtin.clear_ ats ty #[ux]).run P w) ((clearA P t).f x S) := by
  unfold clearA
  split
  · rename_i e hu
    split
    · rename_i zv z hzv hz
      split
      · rename_i hzl
        simp only [Bool.and_eq_true] at hzl
        obtain ⟨uz, hzr, hzc⟩ := zero_run hzv (ρ := ρ)
        have hcz := cellsA_conc hzc
        have hzs : uz.cells.size = z := by
          have := concs_length hcz
          rw [Nat.beq_eq, len_eq] at hzl
          simp only [Array.length_toList] at this
          omega
        have hzone := allCell1_one hzl.2 hcz
        have hzeros : ∀ n, Builtin.zeroCells uz.cells n = (rep uz.cells.toList n).toArray := fun n => zeros_eq uz.cells n _ rfl
        have hone : ∀ n, ∀ v ∈ rep uz.cells.toList n, v.oneCell' = true := by
          intro n
          induction n with
          | zero => intro v hv; cases hv
          | succ n ih =>
            intro v hv
            rw [rep_eq] at hv
            rcases List.mem_append.1 hv with hv | hv
            · exact hzone v hv
            · exact ih v hv
        have key : ∀ {b : Nam} {o g off cap : Nat} {m' : Md} {t' : TypeId} {cs : List AV} (_ : S.at b.p = .cells m' t' cs) (_ : look ρ b = some (.blk g off cap)) {n c : Nat} (_ : ux = .slice (some ⟨g, off + o, none⟩) n c),
            AN.okV P ρ S w ((Builtin.clear_ ats ty #[ux]).run P w) (putC m' t' S b (put (rep (cellsA zv) n) o cs)) := by
          intro b o g off cap m' t' cs ho hb n c e1
          subst e1
          refine cO_ok trivial fun cs' hp => ?_
          obtain ⟨a1, a2, a3⟩ := hs.write ho (look_path hb) hp (concs_rep hcz n) (hone n)
          refine ⟨ρ, .tuple #[], _, ?_, a3, a2, by simp only [conc, concs]⟩
          cases n with
          | zero => simp [Builtin.clear_, h0, run_underlying hu, rep_zero, World.setCells]
          | succ n => simp [Builtin.clear_, h0, run_underlying hu, hzr, hzeros, a1]
        refine vSl_ok trivial (fun e => ?_) (fun b o l c e => ?_) (fun b o l c e => ?_)
        · subst e
          cases conc_nils hx
          exact ⟨ρ, .tuple #[], w, by simp [Builtin.clear_, h0, run_underlying hu], Ext.refl _ _ _, hs, by simp only [conc, concs]⟩
        · subst e
          obtain ⟨g, off, cap, hb, _, rfl⟩ := conc_slice hx
          refine oCells_ok trivial fun m' t cs ho => ?_
          rw [getA_eq] at ho
          have := key ho hb rfl
          exact cMd_ok (fun _ => this) (fun _ => this) fun _ => trivial
        · subst e
          obtain ⟨g, off, cap, hb, _, rfl⟩ := conc_row hx
          refine oCells_ok trivial fun m' t cs ho => ?_
          rw [getA_eq] at ho
          have := key ho hb rfl
          exact cMd_ok (fun _ => trivial) (fun _ => this) fun _ => trivial
      · exact trivial
    · exact trivial
  · exact trivial

/-! ### Lengths -/
theorem intV_ok {n : Nat} {r : Result Value} (h : r = .ok (goInt n) w) : AN.okV P ρ S w r (intV n) := get_int' h
theorem All2.length {α β : Type} {R : α → β → Prop} {l : List α} {m : List β} (h : All2 R l m) : l.length = m.length := by
  induction h with
  | nil => rfl
  | cons _ _ ih => simp [ih]
theorem len_ok (hs : Sat P ρ S w) {x : AV} {ux : Value} {ats : Array TypeId} {t ty : TypeId} (h0 : ats[0]? = some t) (hx : conc ρ x = some ux) : AN.okV P ρ S w ((Builtin.len_ ats ty #[ux]).run P w) ((lenA P t).f x S) := by
  unfold lenA
  split
  · rename_i e hu
    refine vSlT_ok trivial (fun q => ?_) (fun b o n c q => ?_) (fun b o n c q => ?_) (fun b o p c q => ?_) <;> subst q
    · cases conc_nils hx; exact intV_ok (by simp [Builtin.len_, h0, run_underlying hu])
    · obtain ⟨_, _, _, _, _, rfl⟩ := conc_slice hx; exact intV_ok (by simp [Builtin.len_, h0, run_underlying hu])
    · obtain ⟨_, _, _, _, _, rfl⟩ := conc_row hx; exact intV_ok (by simp [Builtin.len_, h0, run_underlying hu])
    · obtain ⟨_, _, _, _, _, rfl⟩ := conc_tail hx; exact intV_ok (by simp [Builtin.len_, h0, run_underlying hu])
  · rename_i k e hu
    refine vMap_ok trivial (fun q => ?_) (fun b q => ?_) <;> subst q
    · cases conc_nilm hx; exact intV_ok (by simp [Builtin.len_, h0, run_underlying hu])
    · refine oMap_ok trivial fun es clk ho => ?_
      rw [getA_eq] at ho
      obtain ⟨g, off, cap, hb, rfl⟩ := conc_map hx
      have := hs.obj b.p
      rw [ho] at this
      obtain ⟨g', off', cap', l, h1, h2, h3⟩ := this
      rw [look_path hb] at h1
      cases h1
      obtain ⟨m, h4, h5⟩ := h3.perm
      have h6 : len es = l.size := by rw [len_eq, h4.length, h5.length_eq]; simp
      refine intV_ok ?_
      have hg : (getObj g).run P w = .ok (.map l clk) w := by simp only [getObj, Sem.run, h2]
      simp [Builtin.len_, h0, run_underlying hu, hg, h6]
  · exact trivial
theorem cap_ok {x : AV} {ux : Value} {ats : Array TypeId} {t ty : TypeId} (h0 : ats[0]? = some t) (hx : conc ρ x = some ux) : AN.okV P ρ S w ((Builtin.cap_ ats ty #[ux]).run P w) ((capA P t).f x) := by
  unfold capA
  split
  · rename_i e hu
    refine vSl_ok trivial (fun q => ?_) (fun b o n c q => ?_) (fun b o n c q => ?_)
    · subst q; cases conc_nils hx; exact intV_ok (by simp [Builtin.cap_, h0, run_underlying hu])
    · subst q; obtain ⟨_, _, _, _, _, rfl⟩ := conc_slice hx; exact intV_ok (by simp [Builtin.cap_, h0, run_underlying hu])
    · exact trivial
  · exact trivial
theorem min_ok : ∀ {l : List AV} {us : List Value} {v : AV} {u : Value}, concs ρ l = some us → conc ρ v = some u → AN.okV P ρ S w ((us.foldlM Builtin.min2 u).run P w) (minA l v)
  | [], us, v, u, hl, hv => by cases concs_nil hl; exact get_of hv
  | y :: l, us, v, u, hl, hv => by
    obtain ⟨uy, q, rfl, h1, h2⟩ := concs_cons hl
    refine vInt_ok trivial fun k a e => ?_
    subst e; cases conc_int hv
    refine vInt_ok trivial fun j b e => ?_
    subst e; cases conc_int h1
    refine cB_ok (fun hk => ?_) fun _ => trivial
    cases kEq_iff.1 hk
    have := min_ok (l := l) (v := .int k (cB (ile a b) a b)) (u := .int k (if b < a then b else a)) h2 (by
      simp only [conc, ile_eq]
      congr 2
      by_cases c : a ≤ b
      · rw [show decide (a ≤ b) = true from decide_eq_true c, if_neg (by omega)]; rfl
      · rw [show decide (a ≤ b) = false from decide_eq_false c, if_pos (by omega)]; rfl)
    simp only [List.foldlM_cons, Sem.run_bind, Builtin.min2, Sem.run_pure, Result.andThen_ok]
    exact this
theorem max_ok : ∀ {l : List AV} {us : List Value} {v : AV} {u : Value}, concs ρ l = some us → conc ρ v = some u → AN.okV P ρ S w ((us.foldlM Builtin.max2 u).run P w) (maxA l v)
  | [], us, v, u, hl, hv => by cases concs_nil hl; exact get_of hv
  | y :: l, us, v, u, hl, hv => by
    obtain ⟨uy, q, rfl, h1, h2⟩ := concs_cons hl
    refine vInt_ok trivial fun k a e => ?_
    subst e; cases conc_int hv
    refine vInt_ok trivial fun j b e => ?_
    subst e; cases conc_int h1
    refine cB_ok (fun hk => ?_) fun _ => trivial
    cases kEq_iff.1 hk
    have := max_ok (l := l) (v := .int k (cB (ile b a) a b)) (u := .int k (if b > a then b else a)) h2 (by
      simp only [conc, ile_eq]
      congr 2
      by_cases c : b ≤ a
      · rw [show decide (b ≤ a) = true from decide_eq_true c, if_neg (by omega)]; rfl
      · rw [show decide (b ≤ a) = false from decide_eq_false c, if_pos (by omega)]; rfl)
    simp only [List.foldlM_cons, Sem.run_bind, Builtin.max2, Sem.run_pure, Result.andThen_ok]
    exact this

/-! ### Conversions -/
theorem byteN_run : ∀ {l : List AV} {r : List Nat} {vs : List Value}, byteN l = some r → concs ρ l = some vs → vs = r.map (fun n => .int .u8 (.ofNat n)) ∧ ∀ n ∈ r, n < 256
  | [], r, vs, h, hv => by
    have : r = [] := (Option.some.inj h).symm
    subst this; exact ⟨concs_nil hv, fun n hn => by cases hn⟩
  | a :: l, r, vs, h, hv => by
    obtain ⟨u, q, rfl, h1, h2⟩ := concs_cons hv
    have h' : vInt a none (fun k i => cB (kEq k .u8) (cI i (fun n => cB (Nat.blt n 256) (cO (byteN l) none fun q => some (n :: q)) none) fun _ => none) none) = some r := h
    obtain ⟨k, i, rfl, h3⟩ := vInt_some h'
    obtain ⟨h4, h5⟩ := cB_some h3
    cases kEq_iff.1 h4
    cases conc_int h1
    cases i with
    | negSucc m => cases h5
    | ofNat m =>
      have h6 : cB (Nat.blt m 256) (cO (byteN l) none (fun q => some (m :: q))) none = some r := h5
      obtain ⟨h9, h6⟩ := cB_some h6
      obtain ⟨q', h7, h8⟩ := cO_some' h6
      cases h8
      obtain ⟨e1, e2⟩ := byteN_run h7 h2
      refine ⟨by rw [List.map_cons, ← e1], fun n hn => ?_⟩
      rcases List.mem_cons.1 hn with rfl | hn
      · simpa using h9
      · exact e2 n hn
theorem bytes_run {f : Value → ByteArray → Sem (ForInStep ByteArray)} (hf : ∀ n s, f (.int .u8 n) s = pure (ForInStep.yield (s.push (UInt8.ofNat n.toNat)))) (r : List Nat) :
    ∀ (acc : ByteArray), (forIn (r.map fun n => Value.int .u8 (.ofNat n)) acc f).run P w = .ok ⟨acc.data ++ (r.map Nat.toUInt8).toArray⟩ w := by
  induction r with
  | nil => intro acc; simp
  | cons a r ih =>
    intro acc
    simp only [List.map_cons, List.forIn_cons, Sem.run_bind, hf, Sem.run_pure, Result.andThen_ok]
    rw [ih]
    congr 2
    apply Array.ext'
    simp [ByteArray.push, Nat.toUInt8]
theorem conv_ok (hs : Sat P ρ S w) {x : AV} {ux : Value} {src dst : TypeId} (hx : conc ρ x = some ux) : AN.okV P ρ S w ((convert src dst ux).run P w) ((convA P src dst).f x S) := by
  unfold convA
  split
  · rename_i k1 k h1 h2
    refine vInt_ok trivial fun k' n e => ?_
    subst e; cases conc_int hx
    rw [wrapA_eq]
    refine get_int' ?_
    simp [convert, run_underlying h1, run_underlying h2, Conv.intToInt]
  · rename_i e h1 h2
    split
    · rename_i h3
      refine cO_ok trivial fun n hn => cO_ok trivial fun l hl => cO_ok trivial fun r hr => ?_
      obtain ⟨_, a, c, rfl⟩ := lenS_run (P := P) hn hx
      obtain ⟨vs, h4, h5, h6⟩ := firstS_run hs hl ⟨n, hn, Nat.le_refl _⟩ hx
      obtain ⟨h7, h8⟩ := byteN_run hr h4
      have ht : textOf r = some ⟨(r.map Nat.toUInt8).toArray⟩ := by
        unfold textOf; rw [if_pos (by rw [List.all_eq_true]; intro n hn; simpa using h8 n hn)]
      refine ⟨.string ⟨(r.map Nat.toUInt8).toArray⟩, by simp only [conc, ht], ?_⟩
      have h9 := h6 w rfl
      cases a with
      | none =>
        have : vs = [] := by simp [Builtin.firstCells] at h9; exact h9
        subst this
        have : r = [] := by cases r with | nil => rfl | cons a t => simp at h7
        subst this
        simp [convert, run_underlying h1, run_underlying h2, run_underlying h3, Conv.bytesToString]
        rfl
      | some a =>
        have h9 : (loadCells a n).run P w = .ok vs.toArray w := by simpa [Builtin.firstCells] using h9
        simp only [convert, run_underlying h1, run_underlying h2, run_underlying h3, Sem.run_bind, Result.andThen_ok, Conv.bytesToString, h9, List.forIn_toArray]
        rw [h7]
        rw [bytes_run (fun _ _ => rfl) r]
        simp [ByteArray.empty, ByteArray.emptyWithCapacity]
        rfl
    · exact trivial
  · exact trivial
end
end Go.Proofs.YthgkdadchfoomabGreat.Ev
