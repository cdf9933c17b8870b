/- A run of a program on abstract memory: slices, new blocks. -/
import Derived.Test.YthgkdadchfoomabGreatEvL
namespace Go.Proofs.YthgkdadchfoomabGreat.Ev
section
variable {P : Program} {ρ : Rho} {S : AS} {w : World}

/-! ### Slices -/
/-- Values that may be left out. -/
noncomputable def OptC (ρ : Rho) (x : Option AV) (u : Option Value) : Prop := match x, u with
  | none, none => True
  | some v, some y => conc ρ v = some y
  | _, _ => False
theorem bnd_run {x : AV} {y y' n : Nat} {u : Value} {code : BoundsCode} (h : bndA x y = some n) (hu : conc ρ x = some u) (hy : y ≤ y') : (Instr.sliceBound u y' code).run P w = .ok n w ∧ n ≤ y := by
  have h' : vInt x none (fun _ i => cI i (fun m => cB (Nat.ble m y) (some m) none) fun _ => none) = some n := h
  obtain ⟨kd, i, rfl, h1⟩ := vInt_some h'
  cases conc_int hu
  cases i with
  | ofNat m =>
    have h2 : cB (Nat.ble m y) (some m) none = some n := h1
    obtain ⟨h3, h4⟩ := cB_some h2
    have h5 : m = n := Option.some.inj h4
    subst h5
    have h5 : m ≤ y := by simpa using h3
    refine ⟨?_, h5⟩
    have h6 : m ≤ y' := by omega
    have h7 : (m : Int) ≤ (y' : Int) := by omega
    simp only [Instr.sliceBound, asIntOf, Sem.run_bind, Sem.run_pure, Result.andThen_ok, Int.ofNat_eq_natCast]
    rw [if_pos ⟨by omega, h7⟩]
    rfl
  | negSucc m => cases h1
/-- The bounds of a slice, where there is room at least for what is known. -/
theorem bounds_run {isS : Bool} {n c c' m h l d : Nat} {lo hi mx : Option AV} {ulo uhi umx : Option Value} (hlo : OptC ρ lo ulo) (hhi : OptC ρ hi uhi) (hmx : OptC ρ mx umx)
    (h0 : mx = none ∨ hi ≠ none) (hm : bndO mx c d = some m) (hh : bndO hi n m = some h) (hl : bndO lo 0 h = some l) (hd : mx = none → m ≤ c') (hd2 : mx ≠ none → d ≤ c') :
    (Instr.sliceBounds isS n c' ulo uhi umx).run P w = .ok (l, h, if mx = none then c' else m) w ∧ l ≤ h ∧ (hi ≠ none → h ≤ m) ∧ (hi = none → h = n) ∧ (mx ≠ none → m ≤ d) := by
  have hlo' : l ≤ h ∧ ((lo = none ∧ ulo = none ∧ l = 0) ∨ ∃ y, ulo = some y ∧ ∀ code, (Instr.sliceBound y h code).run P w = .ok l w) := by
    cases lo with
    | none => cases ulo with
      | none => cases hl; exact ⟨Nat.zero_le _, .inl ⟨rfl, rfl, rfl⟩⟩
      | some _ => exact hlo.elim
    | some v => cases ulo with
      | none => exact hlo.elim
      | some y => exact ⟨(bnd_run (P := P) (w := w) (code := .index) (h := hl) hlo (Nat.le_refl _)).2, .inr ⟨y, rfl, fun code => (bnd_run (h := hl) hlo (Nat.le_refl _)).1⟩⟩
  obtain ⟨hlh, hlo'⟩ := hlo'
  have fin : ∀ (m' : Nat) (code : BoundsCode), ((match (generalizing := false) ulo with
      | some v => do let l ← Instr.sliceBound v h code; pure (l, h, m')
      | none => do let l ← pure 0; pure (l, h, m')) : Sem (Nat × Nat × Nat)).run P w = .ok (l, h, m') w := fun m' code => by
    rcases hlo' with ⟨_, rfl, rfl⟩ | ⟨y, rfl, hr⟩
    · rfl
    · simp only [Sem.run_bind, hr code, Result.andThen_ok, Sem.run_pure]
  cases mx with
  | none =>
    cases umx with
    | some _ => exact hmx.elim
    | none =>
    cases hi with
    | none =>
      cases uhi with
      | some _ => exact hhi.elim
      | none =>
      cases hh
      refine ⟨?_, hlh, fun x => absurd rfl x, fun _ => rfl, fun x => absurd rfl x⟩
      rw [if_pos rfl]
      simp only [Instr.sliceBounds, Sem.run_bind, Sem.run_pure, Result.andThen_ok, Option.isSome_none, Bool.false_eq_true, if_false]
      exact fin _ _
    | some v =>
      cases uhi with
      | none => exact hhi.elim
      | some y =>
      have hb := fun code => bnd_run (P := P) (w := w) (code := code) (h := hh) hhi (y' := c') (hd rfl)
      refine ⟨?_, hlh, fun _ => (hb .sliceB).2, fun x => (by cases x), fun x => absurd rfl x⟩
      rw [if_pos rfl]
      simp only [Instr.sliceBounds, Sem.run_bind, Sem.run_pure, Result.andThen_ok, Option.isSome_none, Bool.false_eq_true, if_false, (hb _).1]
      exact fin _ _
  | some vm =>
    cases umx with
    | none => exact hmx.elim
    | some ym =>
    cases hi with
    | none => rcases h0 with h0 | h0 <;> first | cases h0 | exact absurd rfl h0
    | some v =>
      cases uhi with
      | none => exact hhi.elim
      | some y =>
      have ha := fun code => bnd_run (P := P) (w := w) (code := code) (h := hm) hmx (y' := c') (hd2 (by intro e; cases e))
      have hb := fun code => bnd_run (P := P) (w := w) (code := code) (h := hh) hhi (y' := m) (Nat.le_refl _)
      refine ⟨?_, hlh, fun _ => (hb .sliceB).2, fun x => (by cases x), fun _ => (ha .sliceB).2⟩
      rw [if_neg (by intro e; cases e)]
      simp only [Instr.sliceBounds, Sem.run_bind, Option.isSome_some, if_true, (ha _).1, (hb _).1, Result.andThen_ok]
      exact fin _ _
theorem hasO_iff {x : Option AV} : hasO x = true ↔ x ≠ none := by cases x <;> simp [hasO]
theorem guardM {mx hi : Option AV} (h : bAnd (hasO mx) (bNot (hasO hi)) = false) : mx = none ∨ hi ≠ none := by
  cases mx with
  | none => exact .inl rfl
  | some _ =>
    cases hi with
    | some _ => exact .inr (by intro e; cases e)
    | none => exact absurd h (by simp [hasO, bAnd, bNot])
theorem cutA_ok {z : Nat} {b : Nam} {o n c g off cap : Nat} {lo hi mx : Option AV} {ulo uhi umx : Option Value} (hlo : OptC ρ lo ulo) (hhi : OptC ρ hi uhi) (hmx : OptC ρ mx umx) (hb : look ρ b = some (.blk g off cap)) (hn : n ≤ c) (isS : Bool)
    {r : Result Value} (hr : ∀ l h m, (Instr.sliceBounds isS n c ulo uhi umx).run P w = .ok (l, h, m) w → r = .ok (.slice (some (if m = l then ⟨g, off + o, none⟩ else ⟨g, off + (o + l * z), none⟩)) (h - l) (m - l)) w) :
    AN.okV P ρ S w r (cutA z b o n c lo hi mx) := by
  refine cB_ok (fun _ => trivial) fun hg => ?_
  refine cO_ok trivial fun m hm => cO_ok trivial fun h hh => cO_ok trivial fun l hl => ?_
  have hmc : m ≤ c := by
    cases mx with
    | none => cases hm; exact Nat.le_refl _
    | some v =>
      cases umx with
      | none => exact hmx.elim
      | some y => exact (bnd_run (P := P) (w := w) (code := .index) (h := hm) hmx (Nat.le_refl _)).2
  obtain ⟨h1, h2, h3, h4, h5⟩ := bounds_run (P := P) (w := w) (isS := isS) (c' := c) hlo hhi hmx (guardM hg) hm hh hl (fun _ => hmc) (fun _ => Nat.le_refl _)
  have hme : (if mx = none then c else m) = m := by
    cases mx with
    | none => cases hm; rfl
    | some v => rfl
  rw [hme] at h1
  have hhm : h ≤ m := by
    cases hi with
    | none =>
      rcases guardM hg with e | e
      · subst e; cases hm; rw [h4 rfl]; exact hn
      · exact absurd rfl e
    | some v => exact h3 (by intro e; cases e)
  rw [hr l h m h1]
  refine ⟨_, ?_, rfl⟩
  simp only [conc, hb]
  rw [if_pos (by show h - l ≤ m - l; omega)]
  simp only [offA]
  by_cases e : m = l
  · subst e; rw [if_pos rfl]; simp [cB]
  · rw [if_neg e]
    have : Nat.beq m l = false := by cases hx : Nat.beq m l with | false => rfl | true => rw [Nat.beq_eq] at hx; exact absurd hx e
    rw [this]; rfl
theorem cutN_ok {lo hi mx : Option AV} {ulo uhi umx : Option Value} (hlo : OptC ρ lo ulo) (hhi : OptC ρ hi uhi) (hmx : OptC ρ mx umx)
    {r : Result Value} (hr : ∀ l h m, (Instr.sliceBounds true 0 0 ulo uhi umx).run P w = .ok (l, h, m) w → r = .ok (.slice none (h - l) (m - l)) w) : AN.okV P ρ S w r (cutN lo hi mx) := by
  refine cB_ok (fun _ => trivial) fun hg => ?_
  refine cO_ok trivial fun m hm => cO_ok trivial fun h hh => cO_ok trivial fun l hl => ?_
  have hmc : m ≤ 0 := by
    cases mx with
    | none => cases hm; exact Nat.le_refl _
    | some v =>
      cases umx with
      | none => exact hmx.elim
      | some y => exact (bnd_run (P := P) (w := w) (code := .index) (h := hm) hmx (Nat.le_refl _)).2
  obtain ⟨h1, h2, h3, h4, h5⟩ := bounds_run (P := P) (w := w) (isS := true) (c' := 0) hlo hhi hmx (guardM hg) hm hh hl (fun _ => hmc) (fun _ => Nat.le_refl _)
  have hme : (if mx = none then 0 else m) = m := by
    cases mx with
    | none => cases hm; rfl
    | some v => rfl
  rw [hme] at h1
  have hh0 : h = 0 := by
    cases hi with
    | none => exact h4 rfl
    | some v => have := h3 (by intro e; cases e); omega
  rw [hr l h m h1]
  exact ⟨.slice none 0 0, by simp only [conc], by rw [hh0, show m = 0 by omega, Nat.zero_sub]⟩
theorem topR_le (hs : Sat P ρ S w) {e z : Nat} {b : Nam} {o n c g off cap : Nat} (hb : look ρ b = some (.blk g off cap)) (hn : n + c ≤ cap) (hz : sizeA P e = some z) : topR e z b o n c S + c ≤ cap := by
  unfold topR
  refine oCells_ok (Q := fun x => x + c ≤ cap) hn fun m e' cs ho => ?_
  rw [getA_eq] at ho
  refine cMd_ok (Q := fun x => x + c ≤ cap) (fun _ => hn) (fun hm => ?_) fun _ => hn
  refine cB_ok (Q := fun x => x + c ≤ cap) (fun h => ?_) fun _ => hn
  obtain ⟨h1, h2⟩ := bAnd_iff.1 h
  rw [Nat.beq_eq] at h1 h2
  subst h1
  obtain ⟨g', off', cap', arr, fz, l, r⟩ := relC_of hs ho
  have := look_path hb
  rw [r.here] at this
  cases this
  rw [maxM_eq, len_eq]
  have key := (r.row hm z hz).2
  have h2 : c * z = o := h2
  rcases Nat.eq_zero_or_pos z with h0 | h0
  · subst h0
    show max n ((cs.length - o) / 0) + c ≤ cap
    rw [Nat.div_zero]; omega
  · have h3 : (cs.length - o) / z ≤ cap - c := by
      rw [← h2]
      calc (cs.length - c * z) / z ≤ (cap * z - c * z) / z := Nat.div_le_div_right (by omega)
        _ = cap - c := by rw [← Nat.sub_mul, Nat.mul_div_cancel _ h0]
    show max n ((cs.length - o) / z) + c ≤ cap
    omega
theorem cutR_ok (hs : Sat P ρ S w) {e z : Nat} {b : Nam} {o n c g off cap : Nat} {lo hi mx : Option AV} {ulo uhi umx : Option Value} (hlo : OptC ρ lo ulo) (hhi : OptC ρ hi uhi) (hmx : OptC ρ mx umx)
    (hb : look ρ b = some (.blk g off cap)) (hn : n + c ≤ cap) (hz : sizeA P e = some z)
    {r : Result Value} (hr : ∀ l h m, (Instr.sliceBounds true n (cap - c) ulo uhi umx).run P w = .ok (l, h, m) w → r = .ok (.slice (some (if m = l then ⟨g, off + o, none⟩ else ⟨g, off + (o + l * z), none⟩)) (h - l) (m - l)) w) :
    AN.okV P ρ S w r (cutR e z b o n c lo hi mx S) := by
  have htop := topR_le hs hb hn hz (o := o)
  cases mx with
  | none =>
    cases umx with
    | some _ => exact hmx.elim
    | none =>
    simp only [cutR, cO_none]
    refine cO_ok trivial fun h hh => ?_
    have hh2 : ∃ y, bndO hi n y = some h ∧ y ≤ cap - c := by
      have hh' : cO (bndO hi n n) (bndO hi n (topR e z b o n c S)) some = some h := hh
      cases e1 : bndO hi n n with
      | some x => rw [e1] at hh'; cases hh'; exact ⟨n, e1, by omega⟩
      | none => rw [e1] at hh'; exact ⟨_, hh', by omega⟩
    obtain ⟨y, hh3, hy⟩ := hh2
    refine cO_ok trivial fun l hl => ?_
    obtain ⟨h1, h2, h3, h4, _⟩ := bounds_run (P := P) (w := w) (isS := true) (c := y) (d := y) (m := y) (c' := cap - c) hlo hhi (mx := none) (umx := none) trivial (.inl rfl) rfl hh3 hl (fun _ => hy) (fun x => absurd rfl x)
    rw [if_pos rfl] at h1
    have hhc : h ≤ cap - c := by
      cases hi with
      | none => rw [h4 rfl]; omega
      | some v => have := h3 (by intro e; cases e); omega
    rw [hr l h _ h1]
    have e1 : (if cap - c = l then (⟨g, off + o, none⟩ : Addr) else ⟨g, off + (o + l * z), none⟩) = ⟨g, off + (if cap - c = l then o else o + l * z), none⟩ := by split <;> rfl
    rw [e1]
    refine cB_ok (fun q => ?_) fun q => ?_
    · rw [Nat.beq_eq] at q
      subst q
      refine ⟨.slice (some ⟨g, off + o, none⟩) h (cap - c), by simp only [conc, hb]; rw [if_pos (by omega)], ?_⟩
      simp
    · have q : l ≠ 0 := by intro x; subst x; cases q
      have e2 : ∀ k, k < cap - c → l = k → (if cap - c = l then o else o + l * z) = o + l * z := fun k hk e => if_neg (by omega)
      refine cB_ok (fun q2 => ?_) fun q2 => ?_
      · have q2 : l < n := by simpa using q2
        refine ⟨.slice (some ⟨g, off + (o + l * z), none⟩) (h - l) (cap - (c + l)), by simp only [conc, hb]; rw [if_pos (by show (h - l) + (c + l) ≤ cap; omega)]; rfl, ?_⟩
        rw [e2 l (by omega) rfl, Nat.sub_add_eq]
      · refine cB_ok (fun q3 => ?_) fun q3 => ?_
        · rw [Nat.beq_eq] at q3
          subst q3
          refine ⟨.slice (some ⟨g, off + (if cap = c + l then o else o + l * z), none⟩) 0 (cap - (c + l)), by simp only [conc, hb]; rw [if_pos (by show c + l ≤ cap; omega)]; rfl, ?_⟩
          rw [Nat.sub_self, Nat.sub_add_eq]
          by_cases q4 : cap - c = l
          · rw [if_pos q4, if_pos (show cap = c + l by omega)]
          · rw [if_neg q4, if_neg (show ¬ cap = c + l by omega)]
        · have q3 : l ≠ h := by intro x; subst x; rw [Nat.beq_refl] at q3; cases q3
          refine ⟨.slice (some ⟨g, off + (o + l * z), none⟩) (h - l) (cap - (c + l)), by simp only [conc, hb]; rw [if_pos (by show (h - l) + (c + l) ≤ cap; omega)]; rfl, ?_⟩
          rw [e2 l (by omega) rfl, Nat.sub_add_eq]
  | some vm =>
    cases umx with
    | none => exact hmx.elim
    | some ym =>
    simp only [cutR, cO_some]
    refine cO_ok trivial fun vh hvh => ?_
    subst hvh
    refine cO_ok trivial fun m hm => cO_ok trivial fun h hh => cO_ok trivial fun l hl => ?_
    obtain ⟨h1, h2, h3, _, h5⟩ := bounds_run (P := P) (w := w) (isS := true) (c := n) (d := n) (n := n) (c' := cap - c) hlo hhi (mx := some vm) (umx := some ym) hmx (.inr (by intro e; cases e)) hm hh hl (fun x => by cases x) (fun _ => by omega)
    rw [if_neg (by intro e; cases e)] at h1
    have hhm := h3 (by intro e; cases e)
    have hmn := h5 (by intro e; cases e)
    rw [hr l h m h1]
    refine ⟨_, ?_, rfl⟩
    simp only [conc, hb]
    rw [if_pos (by show h - l ≤ m - l; omega)]
    simp only [offA]
    by_cases e : m = l
    · subst e; rw [if_pos rfl]; simp [cB]
    · rw [if_neg e]
      have : Nat.beq m l = false := by cases hx : Nat.beq m l with | false => rfl | true => rw [Nat.beq_eq] at hx; exact absurd hx e
      rw [this]; rfl
theorem slice_ok (hs : Sat P ρ S w) {t : TypeId} {x : AV} {ux : Value} {lo hi mx : Option AV} {ulo uhi umx : Option Value} (hx : conc ρ x = some ux) (hlo : OptC ρ lo ulo) (hhi : OptC ρ hi uhi) (hmx : OptC ρ mx umx) :
    AN.okV P ρ S w ((Instr.sliceAt t ux ulo uhi umx).run P w) ((sliceA P t).f x lo hi mx S) := by
  unfold sliceA
  split
  · rename_i e hu
    split
    · rename_i z hz
      refine vSl_ok trivial (fun q => ?_) (fun b o n c q => ?_) (fun b o n c q => ?_)
      · subst q
        cases conc_nils hx
        refine cutN_ok hlo hhi hmx fun l h m hb => ?_
        simp [Instr.sliceAt, Instr.slice, run_underlying hu, hb, size_run hz]
      · subst q
        obtain ⟨g, off, cap, hb, hn, rfl⟩ := conc_slice hx
        refine cutA_ok hlo hhi hmx hb hn true fun l h m hb => ?_
        simp [Instr.sliceAt, Instr.slice, run_underlying hu, hb, size_run hz, addr_add, Nat.add_assoc]
        split <;> rfl
      · subst q
        obtain ⟨g, off, cap, hb, hn, rfl⟩ := conc_row hx
        refine cutR_ok hs hlo hhi hmx hb hn hz fun l h m hb => ?_
        simp [Instr.sliceAt, Instr.slice, run_underlying hu, hb, size_run hz, addr_add, Nat.add_assoc]
        split <;> rfl
    · exact trivial
  · rename_i n e hu
    split
    · rename_i z hz
      refine vPtr_ok trivial fun b o q => ?_
      subst q
      obtain ⟨g, off, cap, hb, rfl⟩ := conc_ptr hx
      refine cutA_ok hlo hhi hmx hb (Nat.le_refl _) false fun l h m hb => ?_
      simp [Instr.sliceAt, run_underlying hu, Instr.sureAddr, hb, size_run hz, addr_add, Nat.add_assoc]
    · exact trivial
  · exact trivial
end
end Go.Proofs.YthgkdadchfoomabGreat.Ev
