/- A run of a program on abstract memory: sameness, operators. -/
import Derived.Test.YthgkdadchfoomabGreatEvR
namespace Go.Proofs.YthgkdadchfoomabGreat.Ev
section
variable {P : Program} {ρ : Rho} {S : AS} {w : World}

theorem eqGuard_agg {op : BinOp} {t : TypeId} {X Y : Operand} {a b : Array Value} (h : P.eqGuardType P.depth t = false) : (eqGuard op t X Y (.agg a) (.agg b)).run P w = .ok () w := by
  cases op <;> simp [eqGuard, h]
theorem eqGuard_else {op : BinOp} {t : TypeId} {X Y : Operand} {a b : Value} (h1 : a ≠ .nilIface) (h2 : ∀ l, a ≠ .agg l) : (eqGuard op t X Y a b).run P w = .ok () w := by
  cases a <;> first | exact absurd rfl h1 | exact absurd rfl (h2 _) | (cases op <;> simp [eqGuard])
theorem sameAddr_apart {g1 g2 o1 o2 : Nat} {a1 a2 : Array Value} {t1 t2 : TypeId} (h1 : w.heap[g1]? = some (.cells a1 t1 (0, 0))) (h2 : w.heap[g2]? = some (.cells a2 t2 (0, 0))) (hne : g1 ≠ g2) :
    (sameAddr ⟨g1, o1, none⟩ ⟨g2, o2, none⟩).run P w = .ok false w := by
  have hb : (g1 == g2) = false := by simpa using hne
  have s1 : w.shape? g1 = some (t1, a1.size) := by simp [World.shape?, h1]
  have s2 : w.shape? g2 = some (t2, a2.size) := by simp [World.shape?, h2]
  have f1 : ∀ o, w.frozen? ⟨g1, o, none⟩ = false := fun o => by simp [World.frozen?, h1]
  have f2 : ∀ o, w.frozen? ⟨g2, o, none⟩ = false := fun o => by simp [World.frozen?, h2]
  simp [sameAddr, hb, noView, viewAt, mayBeOne, stringish, s1, s2, f1, f2]
theorem relC_own (hs : Sat P ρ S w) {b : Nam} {g off cap : Nat} (hb : look ρ b = some (.blk g off cap)) (h : ownB S b = true) : (S.at b.p).live ∧ ∃ arr t, w.heap[g]? = some (.cells arr t (0, 0)) := by
  have h' : oCells (getA S b) false (fun m _ _ => cMd m true false false) = true := h
  cases e : getA S b with
  | cells m t cs =>
    rw [e] at h'
    cases m with
    | own =>
      rw [getA_eq] at e
      obtain ⟨g', off', cap', arr, fz, l, r⟩ := relC_of hs e
      have := look_path hb
      rw [r.here] at this
      cases this
      obtain ⟨_, _, h3⟩ := r.own rfl
      refine ⟨by rw [e]; exact trivial, arr, t, ?_⟩
      rw [r.obj, h3]
    | row => cases h'
    | lib => cases h'
  | _ => rw [e] at h'; cases h'
theorem eq_ok (hs : Sat P ρ S w) {t : TypeId} {x y : AV} {ux uy : Value} {b : Bool} (h : (eqA P t).f x y S = some b) (hx : conc ρ x = some ux) (hy : conc ρ y = some uy) :
    (Op.equal t ux uy).run P w = .ok b w ∧ (∀ op X Y, (eqGuard op t X Y ux uy).run P w = .ok () w) ∧ (∀ k n, ux ≠ .int k n) ∧ (∀ s, ux ≠ .string s) ∧ (∀ k n, ux ≠ .float k n) ∧ (∀ k n m, ux ≠ .complex k n m) := by
  unfold eqA at h
  split at h
  · rename_i hu
    have h' : vBool x none (fun a => vBool y none fun b => some (bEq a b)) = some b := h
    obtain ⟨p, rfl, h1⟩ := vBool_some h'
    obtain ⟨q, rfl, h2⟩ := vBool_some h1
    cases conc_bool hx; cases conc_bool hy
    rw [bEq_eq] at h2
    cases h2
    exact ⟨run_equalIn_bool w _ _ _ _ hu, fun _ _ _ => eqGuard_else (by intro e; cases e) (by intro l e; cases e), nofun, nofun, nofun, nofun⟩
  · rename_i fs hu
    split at h
    · rename_i ks hk
      obtain ⟨l, rfl, h1⟩ := vAgg_some h
      obtain ⟨m, rfl, h2⟩ := vAgg_some h1
      obtain ⟨xs, rfl, hxs⟩ := conc_agg hx
      obtain ⟨ys, rfl, hys⟩ := conc_agg hy
      obtain ⟨_, _, _, _, hg, _⟩ := flatT_some hk
      exact ⟨flat_equal hk (by simp [aggT, hu]) h2 hxs hys, fun _ _ _ => eqGuard_agg hg, nofun, nofun, nofun, nofun⟩
    · cases h
  · rename_i n e hu
    split at h
    · rename_i ks hk
      obtain ⟨l, rfl, h1⟩ := vAgg_some h
      obtain ⟨m, rfl, h2⟩ := vAgg_some h1
      obtain ⟨xs, rfl, hxs⟩ := conc_agg hx
      obtain ⟨ys, rfl, hys⟩ := conc_agg hy
      obtain ⟨_, _, _, _, hg, _⟩ := flatT_some hk
      exact ⟨flat_equal hk (by simp [aggT, hu]) h2 hxs hys, fun _ _ _ => eqGuard_agg hg, nofun, nofun, nofun, nofun⟩
    · cases h
  · rename_i e hu
    have nilcase : ∀ {p q : Option Addr}, (p = none ∨ q = none) → (Op.equal t (.pointer p) (.pointer q)).run P w = .ok (p.isNone && q.isNone) w := by
      intro p q hpq
      suffices H : ∀ d, (Op.equalIn (d + 1) t (.pointer p) (.pointer q)).run P w = .ok (p.isNone && q.isNone) w from H 9999
      intro d
      cases p <;> cases q <;> first | (rcases hpq with h | h <;> cases h; done) | simp [Op.equalIn, run_underlying hu]
    have fin : ∀ {p : Option Addr} {v : Value} {r : Bool}, (Op.equal t (.pointer p) v).run P w = .ok r w → (Op.equal t (.pointer p) v).run P w = .ok r w ∧ (∀ op X Y, (eqGuard op t X Y (.pointer p) v).run P w = .ok () w) ∧ (∀ k n, Value.pointer p ≠ .int k n) ∧ (∀ s, Value.pointer p ≠ .string s) ∧ (∀ k n, Value.pointer p ≠ .float k n) ∧ (∀ k n m, Value.pointer p ≠ .complex k n m) := fun h =>
      ⟨h, fun _ _ _ => eqGuard_else (by intro e; cases e) (by intro l e; cases e), nofun, nofun, nofun, nofun⟩
    split at h
    · rename_i z hz
      rcases vPtrN_some h with ⟨rfl, h1⟩ | ⟨a, o, rfl, h1⟩
      · cases conc_nilp hx
        rcases vPtrN_some h1 with ⟨rfl, h2⟩ | ⟨a, o, rfl, h2⟩
        · cases conc_nilp hy; cases h2; exact fin (nilcase (.inl rfl))
        · obtain ⟨_, _, _, _, rfl⟩ := conc_ptr hy; cases h2; exact fin (nilcase (.inl rfl))
      · obtain ⟨g, off, cap, hb, rfl⟩ := conc_ptr hx
        rcases vPtrN_some h1 with ⟨rfl, h2⟩ | ⟨a', o', rfl, h2⟩
        · cases conc_nilp hy; cases h2; exact fin (nilcase (.inr rfl))
        · obtain ⟨g', off', cap', hb', rfl⟩ := conc_ptr hy
          obtain ⟨h3, h4⟩ := cB_some h2
          obtain ⟨ho, ho'⟩ := bAnd_iff.1 h3
          obtain ⟨l1, arr1, t1, e1⟩ := relC_own hs hb ho
          obtain ⟨l2, arr2, t2, e2⟩ := relC_own hs hb' ho'
          have red : (Op.equal t (.pointer (some ⟨g, off + o, none⟩)) (.pointer (some ⟨g', off' + o', none⟩))).run P w = (sameAddr ⟨g, off + o, none⟩ ⟨g', off' + o', none⟩).run P w := by
            suffices H : ∀ d, (Op.equalIn (d + 1) t (.pointer (some ⟨g, off + o, none⟩)) (.pointer (some ⟨g', off' + o', none⟩))).run P w = (sameAddr ⟨g, off + o, none⟩ ⟨g', off' + o', none⟩).run P w from H 9999
            intro d
            simp [Op.equalIn, run_underlying hu, size_run hz]
          refine fin ?_
          rw [red]
          cases hn : Nat.beq a.n a'.n with
          | true =>
            rw [hn] at h4
            have h4 : some (Nat.beq o o') = some b := h4
            cases h4
            rw [Nat.beq_eq] at hn
            have := nam_eq hb hb' hn
            subst this
            rw [hb] at hb'; cases hb'
            have e3 : ((⟨g, off + o, none⟩ : Addr) == ⟨g, off + o', none⟩) = Nat.beq o o' := by
              cases hq : Nat.beq o o' with
              | true => rw [Nat.beq_eq] at hq; subst hq; simp
              | false =>
                have : o ≠ o' := by intro e; subst e; rw [Nat.beq_refl] at hq; cases hq
                simp [this]
            simp [sameAddr, e3]
          | false =>
            rw [hn] at h4
            have h4 : some false = some b := h4
            cases h4
            refine sameAddr_apart e1 e2 fun e => ?_
            subst e
            have hp := hs.inj _ _ _ _ _ _ _ l1 l2 (look_path hb) (look_path hb')
            have : a.n = a'.n := by rw [look_num hb, look_num hb', hp]
            rw [this, Nat.beq_refl] at hn; cases hn
    · rcases vPtrN_some h with ⟨rfl, h1⟩ | ⟨a, o, rfl, h1⟩
      · cases conc_nilp hx
        rcases vPtrN_some h1 with ⟨rfl, h2⟩ | ⟨a, o, rfl, h2⟩
        · cases conc_nilp hy; cases h2; exact fin (nilcase (.inl rfl))
        · obtain ⟨_, _, _, _, rfl⟩ := conc_ptr hy; cases h2; exact fin (nilcase (.inl rfl))
      · obtain ⟨g, off, cap, hb, rfl⟩ := conc_ptr hx
        rcases vPtrN_some h1 with ⟨rfl, h2⟩ | ⟨a', o', rfl, h2⟩
        · cases conc_nilp hy; cases h2; exact fin (nilcase (.inr rfl))
        · cases h2
  · rename_i e hu
    have some_of : ∀ {v : AV} {u : Value}, (∃ b o n c, v = .slice b o n c) ∨ (∃ b o n c, v = .row b o n c) ∨ (∃ b o p c, v = .tail b o p c) → conc ρ v = some u → ∃ a n c, u = .slice (some a) n c := by
      rintro v u (⟨b, o, n, c, rfl⟩ | ⟨b, o, n, c, rfl⟩ | ⟨b, o, n, c, rfl⟩) hu
      · obtain ⟨_, _, _, _, _, rfl⟩ := conc_slice hu; exact ⟨_, _, _, rfl⟩
      · obtain ⟨_, _, _, _, _, rfl⟩ := conc_row hu; exact ⟨_, _, _, rfl⟩
      · obtain ⟨_, _, _, _, _, rfl⟩ := conc_tail hu; exact ⟨_, _, _, rfl⟩
    have fin : ∀ {a a' : Option Addr} {n c n' c' : Nat}, (a = none ∨ a' = none) → b = (a.isNone && a'.isNone) → (Op.equal t (.slice a n c) (.slice a' n' c')).run P w = .ok b w ∧ (∀ op X Y, (eqGuard op t X Y (.slice a n c) (.slice a' n' c')).run P w = .ok () w) ∧ (∀ k m, Value.slice a n c ≠ .int k m) ∧ (∀ s, Value.slice a n c ≠ .string s) ∧ (∀ k m, Value.slice a n c ≠ .float k m) ∧ (∀ k m m', Value.slice a n c ≠ .complex k m m') := by
      intro a a' n c n' c' hq e
      subst e
      refine ⟨?_, fun _ _ _ => eqGuard_else (by intro e; cases e) (by intro l e; cases e), nofun, nofun, nofun, nofun⟩
      suffices H : ∀ d, (Op.equalIn (d + 1) t (.slice a n c) (.slice a' n' c')).run P w = .ok (a.isNone && a'.isNone) w from H 9999
      intro d
      cases a <;> cases a' <;> first | (rcases hq with hq | hq <;> cases hq; done) | simp [Op.equalIn, run_underlying hu]
    have two : ∀ {v : AV} {uv : Value}, ((∃ b o n c, v = .slice b o n c) ∨ (∃ b o n c, v = .row b o n c) ∨ (∃ b o p c, v = .tail b o p c)) → conc ρ v = some uv → vSl y none (vB false) (fun _ _ _ _ => none) (fun _ _ _ _ => none) = some b →
        (Op.equal t uv uy).run P w = .ok b w ∧ (∀ op X Y, (eqGuard op t X Y uv uy).run P w = .ok () w) ∧ (∀ k n, uv ≠ .int k n) ∧ (∀ s, uv ≠ .string s) ∧ (∀ k n, uv ≠ .float k n) ∧ (∀ k n m, uv ≠ .complex k n m) := fun {v uv} hv hvx hy2 => by
      obtain ⟨a, n, c, rfl⟩ := some_of hv hvx
      rcases vSl_some hy2 with ⟨rfl, h2⟩ | ⟨_, _, _, _, rfl, h2⟩ | ⟨_, _, _, _, rfl, h2⟩
      · cases conc_nils hy; cases h2; exact fin (a := some a) (a' := none) (n := n) (c := c) (n' := 0) (c' := 0) (.inr rfl) rfl
      · cases h2
      · cases h2
    rcases vSlT_some h with ⟨rfl, h1⟩ | ⟨p, o, n, c, rfl, h1⟩ | ⟨p, o, n, c, rfl, h1⟩ | ⟨p, o, n, c, rfl, h1⟩
    · cases conc_nils hx
      rcases vSlT_some h1 with ⟨rfl, h2⟩ | ⟨p, o, n, c, rfl, h2⟩ | ⟨p, o, n, c, rfl, h2⟩ | ⟨p, o, n, c, rfl, h2⟩
      · cases conc_nils hy; cases h2; exact fin (.inl rfl) rfl
      · obtain ⟨a, n, c, rfl⟩ := some_of (.inl ⟨_, _, _, _, rfl⟩) hy; cases h2; exact fin (.inl rfl) rfl
      · obtain ⟨a, n, c, rfl⟩ := some_of (.inr (.inl ⟨_, _, _, _, rfl⟩)) hy; cases h2; exact fin (.inl rfl) rfl
      · obtain ⟨a, n, c, rfl⟩ := some_of (.inr (.inr ⟨_, _, _, _, rfl⟩)) hy; cases h2; exact fin (.inl rfl) rfl
    · exact two (.inl ⟨_, _, _, _, rfl⟩) hx h1
    · exact two (.inr (.inl ⟨_, _, _, _, rfl⟩)) hx h1
    · exact two (.inr (.inr ⟨_, _, _, _, rfl⟩)) hx h1
  · rename_i kk e hu
    have fin : ∀ {a a' : Option Nat}, (a = none ∨ a' = none) → b = (a.isNone && a'.isNone) → (Op.equal t (.map a) (.map a')).run P w = .ok b w ∧ (∀ op X Y, (eqGuard op t X Y (.map a) (.map a')).run P w = .ok () w) ∧ (∀ k m, Value.map a ≠ .int k m) ∧ (∀ s, Value.map a ≠ .string s) ∧ (∀ k m, Value.map a ≠ .float k m) ∧ (∀ k m m', Value.map a ≠ .complex k m m') := by
      intro a a' hq e
      subst e
      refine ⟨?_, fun _ _ _ => eqGuard_else (by intro e; cases e) (by intro l e; cases e), nofun, nofun, nofun, nofun⟩
      suffices H : ∀ d, (Op.equalIn (d + 1) t (.map a) (.map a')).run P w = .ok (a.isNone && a'.isNone) w from H 9999
      intro d
      cases a <;> cases a' <;> first | (rcases hq with hq | hq <;> cases hq; done) | simp [Op.equalIn, run_underlying hu]
    rcases vMap_some h with ⟨rfl, h1⟩ | ⟨p, rfl, h1⟩
    · cases conc_nilm hx
      rcases vMap_some h1 with ⟨rfl, h2⟩ | ⟨p, rfl, h2⟩
      · cases conc_nilm hy; cases h2; exact fin (.inl rfl) rfl
      · obtain ⟨_, _, _, _, rfl⟩ := conc_map hy; cases h2; exact fin (.inl rfl) rfl
    · obtain ⟨_, _, _, _, rfl⟩ := conc_map hx
      rcases vMap_some h1 with ⟨rfl, h2⟩ | ⟨p, rfl, h2⟩
      · cases conc_nilm hy; cases h2; exact fin (.inr rfl) rfl
      · cases h2
  · cases h
theorem bin_ok (hs : Sat P ρ S w) (op : BinOp) (t : TypeId) (X Y : Operand) {x y : AV} {ux uy : Value} (hx : conc ρ x = some ux) (hy : conc ρ y = some uy) :
    AN.okV P ρ S w ((do eqGuard op t X Y ux uy; binOp op t ux uy).run P w) ((binA P op t).f x y S) := by
  unfold binA
  split
  · have int2 : ∀ (G : IntKind → Int → IntKind → Int → AN), (∀ k a j b, AN.okV P ρ S w ((do eqGuard op t X Y (.int k a) (.int j b); binOp op t (.int k a) (.int j b)).run P w) (G k a j b)) →
        AN.okV P ρ S w ((do eqGuard op t X Y ux uy; binOp op t ux uy).run P w) (vInt x .no fun k a => vInt y .no fun j b => G k a j b) := fun G hG => by
      refine vInt_ok trivial fun k a e => ?_
      subst e; cases conc_int hx
      refine vInt_ok trivial fun j b e => ?_
      subst e; cases conc_int hy
      exact hG k a j b
    split
    · exact int2 _ fun k a j b => shl_ok k j a b t X Y
    · exact int2 _ fun k a j b => shr_ok k j a b t X Y
    · rename_i h1 h2
      refine int2 _ fun k a j b => ?_
      refine cB_ok (fun hk => ?_) fun _ => trivial
      cases kEq_iff.1 hk
      exact arith_ok op k a b t X Y (fun e => h1 e) (fun e => h2 e)
  · refine vStr_ok trivial fun a e => ?_
    subst e
    refine vStr_ok trivial fun b e => ?_
    subst e
    obtain ⟨s, rfl, hsx⟩ := conc_str hx
    obtain ⟨s', rfl, hsy⟩ := conc_str hy
    exact text_ok op a b s s' hsx hsy t X Y
  · split
    · refine cO_ok trivial fun b hb => ?_
      obtain ⟨h1, h2, h3, h4, h5, h6⟩ := eq_ok hs hb hx hy
      refine get_bool' ?_
      have : binOp .eql t ux uy = (do pure (.bool (← Op.equal t ux uy))) := by
        cases ux <;> first | exact absurd rfl (h3 _ _) | exact absurd rfl (h4 _) | exact absurd rfl (h5 _ _) | exact absurd rfl (h6 _ _ _) | (cases uy <;> rfl)
      simp only [Sem.run_bind, h2, Result.andThen_ok, this, h1, Sem.run_pure]
    · refine cO_ok trivial fun b hb => ?_
      obtain ⟨h1, h2, h3, h4, h5, h6⟩ := eq_ok hs hb hx hy
      rw [bNot_eq]
      refine get_bool' ?_
      have : binOp .neq t ux uy = (do pure (.bool (!(← Op.equal t ux uy)))) := by
        cases ux <;> first | exact absurd rfl (h3 _ _) | exact absurd rfl (h4 _) | exact absurd rfl (h5 _ _) | exact absurd rfl (h6 _ _ _) | (cases uy <;> rfl)
      simp only [Sem.run_bind, h2, Result.andThen_ok, this, h1, Sem.run_pure]
    · exact trivial
end
end Go.Proofs.YthgkdadchfoomabGreat.Ev
