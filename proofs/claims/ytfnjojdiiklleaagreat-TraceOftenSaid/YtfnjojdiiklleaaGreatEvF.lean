/- A run of a program on abstract memory: how memory changes. -/
import Derived.Test.YtfnjojdiiklleaaGreatEvD
import Derived.Laws.IdiomCopy
namespace Go.Proofs.YtfnjojdiiklleaaGreat.Ev
variable {P : Program}

/-! ### The abstract memory's places -/
theorem AS.at_top {S : AS} {p : Pth} (h : hget S.top p ≠ .free) : S.at p = hget S.top p := by
  show oFree (hget S.top p) (hget S.top p) _ = _
  cases e : hget S.top p <;> first | rfl | exact absurd e h
theorem AS.at_free {S : AS} {p : Pth} (h : S.at p = .free) : hget S.top p = .free := by
  cases e : hget S.top p <;> first | rfl | (rw [AS.at_top (by rw [e]; intro x; cases x), e] at h; cases h)
/-- One place changed. -/
theorem at_put {S : AS} {top : H6} {log : List Nam} {next : Nat} {i : Nam} {o : AO} (ho : o ≠ .free) (ht : top = hput S.top i.p o) (p : Pth) :
    (AS.at ⟨top, S.lay, log, next⟩ p) = if p = i.p then o else S.at p := by
  subst ht
  by_cases h : p = i.p
  · subst h
    rw [if_pos rfl, AS.at_top (by show hget (hput S.top i.p o) i.p ≠ .free; rw [hget_same]; exact ho)]
    exact hget_same _ _ _
  · rw [if_neg h]
    show oFree (hget (hput S.top i.p o) p) (hget (hput S.top i.p o) p) (layG S.lay ⟨0, p⟩) = oFree (hget S.top p) (hget S.top p) (layG S.lay ⟨0, p⟩)
    rw [hget_other _ _ _ _ h]
theorem at_putA {S : AS} {i : Nam} {o : AO} (ho : o ≠ .free) (p : Pth) : (putA S i o).at p = if p = i.p then o else S.at p := at_put ho rfl p
theorem Tr.put {S : AS} {top : H6} {next : Nat} {i : Nam} {o : AO} (ht : top = hput S.top i.p o) : Tr S ⟨top, S.lay, logA S i, next⟩ := by
  subst ht
  refine ⟨rfl, fun hl => ?_⟩
  have hlog : logA S i = oFree (hget S.top i.p) S.log (i :: S.log) := by
    unfold logA
    cases e : S.lay with
    | nil => exact absurd e hl
    | cons a l => rfl
  by_cases hfr : hget S.top i.p = .free
  · have e : logA S i = i :: S.log := by rw [hlog, hfr]; rfl
    refine ⟨fun j hj => by show j ∈ logA S i; rw [e]; exact List.mem_cons_of_mem _ hj, fun p => ?_⟩
    by_cases hp : p = i.p
    · exact .inr (.inr ⟨i, by show i ∈ logA S i; rw [e]; exact List.mem_cons_self, hp.symm⟩)
    · show hget (hput S.top i.p o) p = .free ∨ _
      rw [hget_other _ _ _ _ hp]
      exact (Classical.em _).imp_right .inl
  · have e : logA S i = S.log := by
      rw [hlog]
      cases e : hget S.top i.p <;> first | rfl | exact absurd e hfr
    refine ⟨fun j hj => by show j ∈ logA S i; rw [e]; exact hj, fun p => ?_⟩
    by_cases hp : p = i.p
    · subst hp; exact .inr (.inl hfr)
    · show hget (hput S.top i.p o) p = .free ∨ _
      rw [hget_other _ _ _ _ hp]
      exact (Classical.em _).imp_right .inl
theorem live_ne {o : AO} (h : o.live) : o ≠ .free := by intro e; subst e; exact h
theorem newI_ok {β : Type} {S : AS} {i : Nam} {o : AO} {by_ : Nat} {no x : β} {k : Nam → AS → β} (h : newI S i o by_ no k = x) (hx : x ≠ no) :
    S.at i.p = .free ∧ k i ⟨hput S.top i.p o, S.lay, logA S i, Nat.add S.next by_⟩ = x := by
  have h' : oFree (S.at i.p) no (k i ⟨hput S.top i.p o, S.lay, logA S i, Nat.add S.next by_⟩) = x := h
  cases e : S.at i.p <;> rw [e] at h' <;> first | exact ⟨rfl, h'⟩ | exact absurd h'.symm hx
theorem newA_ok {β : Type} {S : AS} {o : AO} {by_ : Nat} {no x : β} {k : Nam → AS → β} (h : newA S o by_ no k = x) (hx : x ≠ no) :
    ∃ i : Nam, i.n = i.p.num ∧ S.at i.p = .free ∧ k i ⟨hput S.top i.p o, S.lay, logA S i, Nat.add S.next by_⟩ = x := by
  unfold newA at h
  cases hb : Nat.blt S.next 65536 with
  | false => rw [hb] at h; exact absurd h.symm hx
  | true =>
    rw [hb] at h
    obtain ⟨h1, h2⟩ := newI_ok h hx
    exact ⟨nam S.next, (digs_num (k := S.next) (by simpa using hb)).symm, h1, h2⟩

/-! ### What objects say is kept -/
theorem relE.mono {ρ ρ' : Rho} {g : Nat} {x : Ent} {e : MapEntry} (h : relE ρ g x e) (hl : Le ρ ρ') : relE ρ' g x e := ⟨conc_mono hl _ h.key, conc_mono hl _ h.val, hl.look h.id⟩
theorem All2.mono {α β : Type} {R R' : α → β → Prop} (hr : ∀ a b, R a b → R' a b) {l : List α} {m : List β} (h : All2 R l m) : All2 R' l m := by
  induction h with
  | nil => exact .nil
  | cons h _ ih => exact .cons (hr _ _ h) ih
theorem relM.mono {ρ ρ' : Rho} {g clk : Nat} {es : List Ent} {l : List MapEntry} (h : relM ρ g es clk l) (hl : Le ρ ρ') : relM ρ' g es clk l :=
  ⟨let ⟨m, h1, h2⟩ := h.perm; ⟨m, All2.mono (fun _ _ x => x.mono hl) h1, h2⟩, h.born, h.below, h.keys⟩
theorem relO.mono {ρ ρ' : Rho} {heap heap' : Array Obj} {p : Pth} {o : AO} (h : relO P ρ heap p o) (hf : o ≠ .free) (hl : Le ρ ρ')
    (hh : ∀ g off cap, ρ p = some (.blk g off cap) → o.live → heap'[g]? = heap[g]?) : relO P ρ' heap' p o := by
  cases o with
  | free => exact absurd rfl hf
  | dead => exact trivial
  | cells m t cs =>
    obtain ⟨g, off, cap, arr, fz, l, r⟩ := h
    exact ⟨g, off, cap, arr, fz, l, hl _ _ r.here, by rw [hh _ _ _ r.here trivial]; exact r.obj, r.thaw, concs_mono hl _ r.vals, r.lies, r.own, r.row, r.lib⟩
  | map es clk =>
    obtain ⟨g, off, cap, l, h1, h2, h3⟩ := h
    exact ⟨g, off, cap, l, hl _ _ h1, by rw [hh _ _ _ h1 trivial]; exact h2, h3.mono hl⟩
  | iter m since seen a b =>
    cases m with
    | none =>
      obtain ⟨g, cap, s, c, d, h1, h2⟩ := h
      exact ⟨g, cap, s, c, d, hl _ _ h1, by rw [hh _ _ _ h1 trivial]; exact h2⟩
    | some m =>
      obtain ⟨g, cap, gm, o, c, seen', ks, h1, h2, h3, h4, h5⟩ := h
      exact ⟨g, cap, gm, o, c, seen', ks, hl _ _ h1, by rw [hh _ _ _ h1 trivial]; exact h2, hl.look h3, All2.mono (fun _ _ x => hl.look x) h4, h5⟩
  | siter s pos =>
    obtain ⟨g, cap, b, h1, h2, h3⟩ := h
    exact ⟨g, cap, b, hl _ _ h1, by rw [hh _ _ _ h1 trivial]; exact h2, h3⟩
  | loop l =>
    obtain ⟨g, off, cap, r, h1, h2, h3⟩ := h
    refine ⟨g, off, cap, r, hl _ _ h1, by rw [hh _ _ _ h1 trivial]; exact h2, h3.state, h3.pending, h3.size, fun i hi => conc_mono hl _ (h3.tmps i hi), h3.params, h3.assign, h3.body, ?_⟩
    obtain ⟨o, c, h4⟩ := h3.defers
    exact ⟨o, c, hl.look h4⟩
  | defr =>
    obtain ⟨g, off, cap, h1, h2⟩ := h
    exact ⟨g, off, cap, hl _ _ h1, by rw [hh _ _ _ h1 trivial]; exact h2⟩
/-- A live object lies in a block. -/
theorem relO.blk {ρ : Rho} {heap : Array Obj} {p : Pth} {o : AO} (h : relO P ρ heap p o) (hl : o.live) : ∃ g off cap, ρ p = some (.blk g off cap) := by
  cases o with
  | free => exact hl.elim
  | dead => exact hl.elim
  | cells m t cs => obtain ⟨g, off, cap, arr, fz, l, r⟩ := h; exact ⟨g, off, cap, r.here⟩
  | map es clk => obtain ⟨g, off, cap, l, h1, _⟩ := h; exact ⟨g, off, cap, h1⟩
  | iter m since seen a b =>
    cases m with
    | none => obtain ⟨g, cap, s, c, d, h1, h2, _⟩ := h; exact ⟨g, 0, cap, h1⟩
    | some m => obtain ⟨g, cap, gm, o, c, seen', ks, h1, _⟩ := h; exact ⟨g, 0, cap, h1⟩
  | siter s pos => obtain ⟨g, cap, b, h1, _⟩ := h; exact ⟨g, 0, cap, h1⟩
  | loop l => obtain ⟨g, off, cap, r, h1, _⟩ := h; exact ⟨g, off, cap, h1⟩
  | defr => obtain ⟨g, off, cap, h1, _⟩ := h; exact ⟨g, off, cap, h1⟩
theorem relO.mapBlk {ρ : Rho} {heap : Array Obj} {p : Pth} {o : AO} (h : relO P ρ heap p o) (hl : o.live) {g off cap : Nat} (hp : ρ p = some (.blk g off cap)) {es : Array MapEntry} {c : Nat}
    (hm : heap[g]? = some (.map es c)) : ∃ xs, o = .map xs c := by
  cases o with
  | free => exact hl.elim
  | dead => exact hl.elim
  | cells m t cs => obtain ⟨g', off', cap', arr, fz, l, r⟩ := h; rw [r.here] at hp; cases hp; rw [r.obj] at hm; cases hm
  | map es clk => obtain ⟨g', off', cap', l, h1, h2, _⟩ := h; rw [h1] at hp; cases hp; rw [h2] at hm; cases hm; exact ⟨_, rfl⟩
  | iter m since seen a b =>
    cases m with
    | none => obtain ⟨g', cap', s, c, d, h1, h2, _⟩ := h; rw [h1] at hp; cases hp; rw [h2] at hm; cases hm
    | some m => obtain ⟨g', cap', gm, o, c, seen', ks, h1, h2, _⟩ := h; rw [h1] at hp; cases hp; rw [h2] at hm; cases hm
  | siter s pos => obtain ⟨g', cap', b, h1, h2, _⟩ := h; rw [h1] at hp; cases hp; rw [h2] at hm; cases hm
  | loop l => obtain ⟨g', off', cap', r, h1, h2, _⟩ := h; rw [h1] at hp; cases hp; rw [h2] at hm; cases hm
  | defr => obtain ⟨g', off', cap', h1, h2⟩ := h; rw [h1] at hp; cases hp; rw [h2] at hm; cases hm

/-! ### Changes -/
/-- One name more. -/
noncomputable def Rho.set (ρ : Rho) (p : Pth) (t : Tgt) : Rho := fun q => if q = p then some t else ρ q
theorem Rho.set_same (ρ : Rho) (p : Pth) (t : Tgt) : ρ.set p t p = some t := if_pos rfl
theorem Rho.set_other (ρ : Rho) {p q : Pth} (t : Tgt) (h : q ≠ p) : ρ.set p t q = ρ q := if_neg h
theorem Rho.set_le {ρ : Rho} {p : Pth} {t : Tgt} (h : ρ p = none) : Le ρ (ρ.set p t) := fun q u hq => by
  by_cases e : q = p
  · subst e; rw [h] at hq; cases hq
  · rw [Rho.set_other _ _ e]; exact hq
theorem look_set {ρ : Rho} {i : Nam} (hi : i.n = i.p.num) (t : Tgt) : look (ρ.set i.p t) i = some t := by
  unfold look; rw [if_pos hi]; exact Rho.set_same _ _ _
theorem look_path {ρ : Rho} {i : Nam} {t : Tgt} (h : look ρ i = some t) : ρ i.p = some t := by
  unfold look at h; split at h
  · exact h
  · cases h
theorem look_num {ρ : Rho} {i : Nam} {t : Tgt} (h : look ρ i = some t) : i.n = i.p.num := by
  unfold look at h; split at h
  · assumption
  · cases h
/-- Names with the same number are the same. -/
theorem nam_eq {ρ : Rho} {i j : Nam} {t u : Tgt} (hi : look ρ i = some t) (hj : look ρ j = some u) (h : i.n = j.n) : i = j := by
  have h1 := look_num hi
  have h2 := look_num hj
  have : i.p = j.p := Pth.num_inj (by rw [← h1, ← h2, h])
  cases i; cases j; simp_all
section
variable {ρ : Rho} {S : AS} {w : World}
/-- A new block, with a new name. -/
theorem Sat.new (hs : Sat P ρ S w) {i : Nam} {o : AO} {ob : Obj} {off cap : Nat} {S' : AS} {w' : World} (hf : S.at i.p = .free)
    (hS : ∀ p, S'.at p = if p = i.p then o else S.at p) (htr : Tr S S') (hw : w'.heap = w.heap.push ob) (ho : w'.os = w.os) (ht : w'.tape = w.tape) (hout : w'.output = w.output)
    (hrel : Le ρ (ρ.set i.p (.blk w.heap.size off cap)) → relO P (ρ.set i.p (.blk w.heap.size off cap)) w'.heap i.p o) :
    Sat P (ρ.set i.p (.blk w.heap.size off cap)) S' w' ∧ Ext ρ S w (ρ.set i.p (.blk w.heap.size off cap)) S' w' := by
  have hn : ρ i.p = none := by have := hs.obj i.p; rw [hf] at this; exact this
  have hle : Le ρ (ρ.set i.p (.blk w.heap.size off cap)) := Rho.set_le hn
  have hget : ∀ g, g < w.heap.size → w'.heap[g]? = w.heap[g]? := fun g hg => by rw [hw, Array.getElem?_push, if_neg (Nat.ne_of_lt hg)]
  have hsz : w'.heap.size = w.heap.size + 1 := by rw [hw, Array.size_push]
  refine ⟨⟨?_, ?_, ?_, ?_, ?_, ?_⟩, ⟨hle, by omega, fun g hg _ => hget g hg, ?_, ho, ht, hout, htr⟩⟩
  · intro p
    rw [hS p]
    by_cases e : p = i.p
    · subst e; rw [if_pos rfl]; exact hrel hle
    · rw [if_neg e]
      by_cases hfr : S.at p = .free
      · rw [hfr]; show ρ.set i.p _ p = none
        rw [Rho.set_other _ _ e]
        have := hs.obj p; rw [hfr] at this; exact this
      · exact (hs.obj p).mono hfr hle fun g off cap hg _ => hget g (hs.bnd _ _ _ _ hg)
  · intro p q g a b a' b' hp hq h1 h2
    rw [hS p] at hp
    rw [hS q] at hq
    by_cases ep : p = i.p <;> by_cases eq : q = i.p
    · rw [ep, eq]
    · subst ep
      rw [Rho.set_same] at h1
      rw [Rho.set_other _ _ eq] at h2
      cases h1
      have := hs.bnd _ _ _ _ h2
      omega
    · subst eq
      rw [Rho.set_same] at h2
      rw [Rho.set_other _ _ ep] at h1
      cases h2
      have := hs.bnd _ _ _ _ h1
      omega
    · rw [Rho.set_other _ _ ep] at h1
      rw [Rho.set_other _ _ eq] at h2
      rw [if_neg ep] at hp
      rw [if_neg eq] at hq
      exact hs.inj _ _ _ _ _ _ _ hp hq h1 h2
  · intro p g a b h
    by_cases ep : p = i.p
    · subst ep; rw [Rho.set_same] at h; cases h; omega
    · rw [Rho.set_other _ _ ep] at h; have := hs.bnd _ _ _ _ h; omega
  · intro p g k h
    by_cases ep : p = i.p
    · subst ep; rw [Rho.set_same] at h; cases h
    · rw [Rho.set_other _ _ ep] at h
      obtain ⟨h1, h2⟩ := hs.stp _ _ _ h
      exact ⟨by omega, fun es c hc => h2 es c (by rw [← hget g h1]; exact hc)⟩
  · intro p q g k h1 h2
    by_cases ep : p = i.p
    · subst ep; rw [Rho.set_same] at h1; cases h1
    · by_cases eq : q = i.p
      · subst eq; rw [Rho.set_same] at h2; cases h2
      · rw [Rho.set_other _ _ ep] at h1
        rw [Rho.set_other _ _ eq] at h2
        exact hs.stinj _ _ _ _ h1 h2
  · intro g hg
    obtain ⟨c, hc⟩ := hs.glob g hg
    exact ⟨c, hle.look hc⟩
  · rintro g hg ⟨p, o', c', h1, h2⟩
    rw [hS p] at h2
    by_cases ep : p = i.p
    · subst ep; rw [Rho.set_same] at h1; cases h1; omega
    · rw [Rho.set_other _ _ ep] at h1
      rw [if_neg ep] at h2
      exact ⟨p, o', c', h1, h2⟩
/-- A block of the run's own is written; there may be one more stamp of it. -/
theorem Sat.upd (hs : Sat P ρ S w) {ρ' : Rho} {S' : AS} {w' : World} {b : Pth} {g off cap : Nat} (hb : ρ b = some (.blk g off cap)) (hlive : (S.at b).live) (hlive' : (S'.at b).live)
    (hle : Le ρ ρ') (hnew : ∀ p t, ρ' p = some t → ρ p = some t ∨ (S.at p = .free ∧ S'.at p = .dead ∧ ∃ k, t = .stp g k ∧ ∀ q, ρ' q = some (.stp g k) → q = p))
    (hS : ∀ p, p ≠ b → S'.at p = S.at p ∨ (S.at p = .free ∧ S'.at p = .dead ∧ ∃ t, ρ' p = some t)) (htr : Tr S S')
    (hrel : relO P ρ' w'.heap b (S'.at b)) (hsz : w'.heap.size = w.heap.size) (hold : ∀ g', g' ≠ g → w'.heap[g']? = w.heap[g']?)
    (hclk : ∀ es c, w'.heap[g]? = some (.map es c) → ∀ p k, ρ' p = some (.stp g k) → k < c) (ho : w'.os = w.os) (ht : w'.tape = w.tape) (hout : w'.output = w.output) :
    Sat P ρ' S' w' ∧ Ext ρ S w ρ' S' w' := by
  have hold' : ∀ p a g', (S.at p).live → p ≠ b → ρ p = some (.blk g' a cap) ∨ True → ∀ c, ρ p = some (.blk g' a c) → g' ≠ g := fun p a g' hl hne _ c hp e => by
    subst e; exact hne (hs.inj _ _ _ _ _ _ _ hl hlive hp hb)
  have hb' : ρ' b = some (.blk g off cap) := hle _ _ hb
  refine ⟨⟨?_, ?_, ?_, ?_, ?_, ?_⟩, ⟨hle, by omega, ?_, ?_, ho, ht, hout, htr⟩⟩
  · intro p
    by_cases e : p = b
    · subst e; exact hrel
    · rcases hS p e with h | ⟨_, h, _⟩
      · rw [h]
        by_cases hfr : S.at p = .free
        · rw [hfr]; show ρ' p = none
          cases hp : ρ' p with
          | none => rfl
          | some t =>
            rcases hnew p t hp with h1 | ⟨_, h2, _⟩
            · have := hs.obj p; rw [hfr] at this; rw [show ρ p = none from this] at h1; cases h1
            · rw [h, hfr] at h2; cases h2
        · refine (hs.obj p).mono hfr hle fun g' off' cap' hg hl => hold g' (hold' p off' g' hl e (.inr trivial) cap' hg)
      · rw [h]; exact trivial
  · intro p q g' a c a' c' hp hq h1 h2
    have hback : ∀ p a c, (S'.at p).live → ρ' p = some (.blk g' a c) → (S.at p).live ∧ ρ p = some (.blk g' a c) := fun p a c hl hp => by
      rcases hnew p _ hp with h | ⟨_, h, _⟩
      · refine ⟨?_, h⟩
        by_cases e : p = b
        · subst e; exact hlive
        · rcases hS p e with h' | ⟨_, h', _⟩
          · rw [← h']; exact hl
          · rw [h'] at hl; exact hl.elim
      · rw [h] at hl; exact hl.elim
    obtain ⟨x1, x2⟩ := hback p a c hp h1
    obtain ⟨y1, y2⟩ := hback q a' c' hq h2
    exact hs.inj _ _ _ _ _ _ _ x1 y1 x2 y2
  · intro p g' a c h
    rcases hnew p _ h with h | ⟨_, _, k, h, _⟩
    · have := hs.bnd _ _ _ _ h; omega
    · cases h
  · intro p g' k h
    by_cases eg : g' = g
    · subst eg
      exact ⟨by have := hs.bnd _ _ _ _ hb; omega, fun es c hc => hclk es c hc p k h⟩
    · rcases hnew p _ h with h | ⟨_, _, k', h, _⟩
      · obtain ⟨h1, h2⟩ := hs.stp _ _ _ h
        exact ⟨by omega, fun es c hc => h2 es c (by rw [← hold g' eg]; exact hc)⟩
      · cases h; exact absurd rfl eg
  · intro p q g' k h1 h2
    rcases hnew p _ h1 with h | ⟨_, _, k', h, hu⟩
    · rcases hnew q _ h2 with h' | ⟨_, _, k', h', hu'⟩
      · exact hs.stinj _ _ _ _ h h'
      · cases h'; exact hu' _ h1
    · cases h; exact (hu _ h2).symm
  · intro g' hg
    obtain ⟨c, hc⟩ := hs.glob g' hg
    exact ⟨c, hle.look hc⟩
  · intro g' hg hn
    refine hold g' fun e => hn ?_
    subst e
    exact ⟨b, off, cap, hb, hlive⟩
  · rintro g' hg ⟨p, a, c, h1, h2⟩
    rcases hnew p _ h1 with h | ⟨_, h, _⟩
    · by_cases e : p = b
      · subst e; exact ⟨p, a, c, h, hlive⟩
      · rcases hS p e with h' | ⟨_, h', _⟩
        · exact ⟨p, a, c, h, by rw [← h']; exact h2⟩
        · rw [h'] at h2; exact h2.elim
    · rw [h] at h2; exact h2.elim
/-- A name dies. -/
theorem Sat.kill (hs : Sat P ρ S w) {S' : AS} {b : Pth} (hS : ∀ p, S'.at p = if p = b then .dead else S.at p) (htr : Tr S S') :
    Sat P ρ S' w ∧ Ext ρ S w ρ S' w := by
  have hback : ∀ p, (S'.at p).live → (S.at p).live := fun p h => by
    rw [hS p] at h; split at h
    · exact h.elim
    · exact h
  refine ⟨⟨?_, ?_, hs.bnd, hs.stp, hs.stinj, hs.glob⟩, ⟨Le.refl _, Nat.le_refl _, fun _ _ _ => rfl, ?_, rfl, rfl, rfl, htr⟩⟩
  · intro p
    rw [hS p]
    split
    · exact trivial
    · exact hs.obj p
  · intro p q g o c o' c' hp hq; exact hs.inj p q g o c o' c' (hback p hp) (hback q hq)
  · rintro g _ ⟨p, o, c, h1, h2⟩
    exact ⟨p, o, c, h1, hback p h2⟩
/-- A block goes on under a new name; it may be written. -/
theorem Sat.move (hs : Sat P ρ S w) {S' : AS} {w' : World} {b : Pth} {i : Nam} {o : AO} {g off cap off' cap' : Nat} (hb : ρ b = some (.blk g off cap)) (hlive : (S.at b).live) (hf : S.at i.p = .free)
    (hS : ∀ p, S'.at p = if p = i.p then o else if p = b then .dead else S.at p) (htr : Tr S S')
    (hrel : Le ρ (ρ.set i.p (.blk g off' cap')) → relO P (ρ.set i.p (.blk g off' cap')) w'.heap i.p o) (hsz : w'.heap.size = w.heap.size) (hold : ∀ g', g' ≠ g → w'.heap[g']? = w.heap[g']?)
    (hclk : ∀ es c, w'.heap[g]? ≠ some (.map es c)) (ho : w'.os = w.os) (ht : w'.tape = w.tape) (hout : w'.output = w.output) :
    Sat P (ρ.set i.p (.blk g off' cap')) S' w' ∧ Ext ρ S w (ρ.set i.p (.blk g off' cap')) S' w' := by
  have hn : ρ i.p = none := by have := hs.obj i.p; rw [hf] at this; exact this
  have hle : Le ρ (ρ.set i.p (.blk g off' cap')) := Rho.set_le hn
  have hback : ∀ p, p ≠ i.p → (S'.at p).live → p ≠ b ∧ (S.at p).live := fun p e h => by
    rw [hS p, if_neg e] at h; split at h
    · exact h.elim
    · exact ⟨by assumption, h⟩
  refine ⟨⟨?_, ?_, ?_, ?_, ?_, ?_⟩, ⟨hle, by omega, ?_, ?_, ho, ht, hout, htr⟩⟩
  · intro p
    rw [hS p]
    by_cases e : p = i.p
    · subst e; rw [if_pos rfl]; exact hrel hle
    · rw [if_neg e]
      by_cases e' : p = b
      · rw [if_pos e']; exact trivial
      · rw [if_neg e']
        by_cases hfr : S.at p = .free
        · rw [hfr]; show ρ.set i.p _ p = none
          rw [Rho.set_other _ _ e]
          have := hs.obj p; rw [hfr] at this; exact this
        · exact (hs.obj p).mono hfr hle fun g' off cap hg hl => hold g' fun e0 => by
            subst e0; exact e' (hs.inj _ _ _ _ _ _ _ hl hlive hg hb)
  · intro p q g' a c a' c' hp hq h1 h2
    by_cases ep : p = i.p <;> by_cases eq : q = i.p
    · rw [ep, eq]
    · subst ep
      rw [Rho.set_same] at h1; cases h1
      rw [Rho.set_other _ _ eq] at h2
      obtain ⟨x1, x2⟩ := hback q eq hq
      exact absurd (hs.inj _ _ _ _ _ _ _ x2 hlive h2 hb) x1
    · subst eq
      rw [Rho.set_same] at h2; cases h2
      rw [Rho.set_other _ _ ep] at h1
      obtain ⟨x1, x2⟩ := hback p ep hp
      exact absurd (hs.inj _ _ _ _ _ _ _ x2 hlive h1 hb) x1
    · rw [Rho.set_other _ _ ep] at h1
      rw [Rho.set_other _ _ eq] at h2
      exact hs.inj _ _ _ _ _ _ _ (hback p ep hp).2 (hback q eq hq).2 h1 h2
  · intro p g' a c h
    by_cases ep : p = i.p
    · subst ep; rw [Rho.set_same] at h; cases h; have := hs.bnd _ _ _ _ hb; omega
    · rw [Rho.set_other _ _ ep] at h; have := hs.bnd _ _ _ _ h; omega
  · intro p g' k h
    by_cases ep : p = i.p
    · subst ep; rw [Rho.set_same] at h; cases h
    · rw [Rho.set_other _ _ ep] at h
      obtain ⟨h1, h2⟩ := hs.stp _ _ _ h
      refine ⟨by omega, fun es c hc => ?_⟩
      by_cases eg : g' = g
      · subst eg; exact absurd hc (hclk es c)
      · exact h2 es c (by rw [← hold g' eg]; exact hc)
  · intro p q g' k h1 h2
    by_cases ep : p = i.p
    · subst ep; rw [Rho.set_same] at h1; cases h1
    · by_cases eq : q = i.p
      · subst eq; rw [Rho.set_same] at h2; cases h2
      · rw [Rho.set_other _ _ ep] at h1
        rw [Rho.set_other _ _ eq] at h2
        exact hs.stinj _ _ _ _ h1 h2
  · intro g' hg
    obtain ⟨c, hc⟩ := hs.glob g' hg
    exact ⟨c, hle.look hc⟩
  · intro g' hg hno
    refine hold g' fun e => hno ?_
    subst e
    exact ⟨b, off, cap, hb, hlive⟩
  · rintro g' hg ⟨p, a, c, h1, h2⟩
    by_cases ep : p = i.p
    · subst ep; rw [Rho.set_same] at h1; cases h1; exact ⟨b, off, cap, hb, hlive⟩
    · rw [Rho.set_other _ _ ep] at h1
      exact ⟨p, a, c, h1, (hback p ep h2).2⟩
end
end Go.Proofs.YtfnjojdiiklleaaGreat.Ev
namespace Go.Proofs.YtfnjojdiiklleaaGreat.Ev

/-! ### Cases -/
theorem vBool_ok {α : Type} {Q : α → Prop} {no : α} {v : AV} {fbool : _} (hno : Q no) (hbool : ∀ b, v = .bool b → Q (fbool b)) : Q (vBool v no fbool) := by
  cases v <;> first | exact hno | exact hbool _ rfl
theorem vInt_ok {α : Type} {Q : α → Prop} {no : α} {v : AV} {fint : _} (hno : Q no) (hint : ∀ k n, v = .int k n → Q (fint k n)) : Q (vInt v no fint) := by
  cases v <;> first | exact hno | exact hint _ _ rfl
theorem vStr_ok {α : Type} {Q : α → Prop} {no : α} {v : AV} {fstr : _} (hno : Q no) (hstr : ∀ l, v = .str l → Q (fstr l)) : Q (vStr v no fstr) := by
  cases v <;> first | exact hno | exact hstr _ rfl
theorem vPtr_ok {α : Type} {Q : α → Prop} {no : α} {v : AV} {fptr : _} (hno : Q no) (hptr : ∀ b o, v = .ptr b o → Q (fptr b o)) : Q (vPtr v no fptr) := by
  cases v <;> first | exact hno | exact hptr _ _ rfl
theorem vPtrN_ok {α : Type} {Q : α → Prop} {no : α} {v : AV} {fnilp : _} {fptr : _} (hno : Q no) (hnilp : v = .nilp  → Q (fnilp )) (hptr : ∀ b o, v = .ptr b o → Q (fptr b o)) : Q (vPtrN v no fnilp fptr) := by
  cases v <;> first | exact hno | exact hnilp  rfl | exact hptr _ _ rfl
theorem vSl_ok {α : Type} {Q : α → Prop} {no : α} {v : AV} {fnils : _} {fslice : _} {frow : _} (hno : Q no) (hnils : v = .nils  → Q (fnils )) (hslice : ∀ b o n c, v = .slice b o n c → Q (fslice b o n c)) (hrow : ∀ b o n c, v = .row b o n c → Q (frow b o n c)) : Q (vSl v no fnils fslice frow) := by
  cases v <;> first | exact hno | exact hnils  rfl | exact hslice _ _ _ _ rfl | exact hrow _ _ _ _ rfl
theorem vSlT_ok {α : Type} {Q : α → Prop} {no : α} {v : AV} {fnils : _} {fslice : _} {frow : _} {ftail : _} (hno : Q no) (hnils : v = .nils  → Q (fnils )) (hslice : ∀ b o n c, v = .slice b o n c → Q (fslice b o n c)) (hrow : ∀ b o n c, v = .row b o n c → Q (frow b o n c)) (htail : ∀ b o p c, v = .tail b o p c → Q (ftail b o p c)) : Q (vSlT v no fnils fslice frow ftail) := by
  cases v <;> first | exact hno | exact hnils  rfl | exact hslice _ _ _ _ rfl | exact hrow _ _ _ _ rfl | exact htail _ _ _ _ rfl
theorem vMap_ok {α : Type} {Q : α → Prop} {no : α} {v : AV} {fnilm : _} {fmap : _} (hno : Q no) (hnilm : v = .nilm  → Q (fnilm )) (hmap : ∀ b, v = .map b → Q (fmap b)) : Q (vMap v no fnilm fmap) := by
  cases v <;> first | exact hno | exact hnilm  rfl | exact hmap _ rfl
theorem vFn_ok {α : Type} {Q : α → Prop} {no : α} {v : AV} {ffunc : _} {fyld : _} (hno : Q no) (hfunc : ∀ g a b, v = .func g a b → Q (ffunc g a b)) (hyld : ∀ l, v = .yld l → Q (fyld l)) : Q (vFn v no ffunc fyld) := by
  cases v <;> first | exact hno | exact hfunc _ _ _ rfl | exact hyld _ rfl
theorem vAgg_ok {α : Type} {Q : α → Prop} {no : α} {v : AV} {fagg : _} (hno : Q no) (hagg : ∀ l, v = .agg l → Q (fagg l)) : Q (vAgg v no fagg) := by
  cases v <;> first | exact hno | exact hagg _ rfl
theorem vTup_ok {α : Type} {Q : α → Prop} {no : α} {v : AV} {ftuple : _} (hno : Q no) (htuple : ∀ l, v = .tuple l → Q (ftuple l)) : Q (vTup v no ftuple) := by
  cases v <;> first | exact hno | exact htuple _ rfl
theorem vG_ok {α : Type} {Q : α → Prop} {no : α} {v : AV} {fbool : _} {fint : _} {fstr : _} (hno : Q no) (hbool : ∀ b, v = .bool b → Q (fbool b)) (hint : ∀ k n, v = .int k n → Q (fint k n)) (hstr : ∀ l, v = .str l → Q (fstr l)) : Q (vG v no fbool fint fstr) := by
  cases v <;> first | exact hno | exact hbool _ rfl | exact hint _ _ rfl | exact hstr _ rfl
theorem oCells_ok {α : Type} {Q : α → Prop} {no : α} {v : AO} {fcells : _} (hno : Q no) (hcells : ∀ m t cs, v = .cells m t cs → Q (fcells m t cs)) : Q (oCells v no fcells) := by
  cases v <;> first | exact hno | exact hcells _ _ _ rfl
theorem oMap_ok {α : Type} {Q : α → Prop} {no : α} {v : AO} {fmap : _} (hno : Q no) (hmap : ∀ es clk, v = .map es clk → Q (fmap es clk)) : Q (oMap v no fmap) := by
  cases v <;> first | exact hno | exact hmap _ _ rfl
theorem oIter_ok {α : Type} {Q : α → Prop} {no : α} {v : AO} {fiter : _} (hno : Q no) (hiter : ∀ m since seen a b, v = .iter m since seen a b → Q (fiter m since seen a b)) : Q (oIter v no fiter) := by
  cases v <;> first | exact hno | exact hiter _ _ _ _ _ rfl
theorem oLoop_ok {α : Type} {Q : α → Prop} {no : α} {v : AO} {floop : _} (hno : Q no) (hloop : ∀ l, v = .loop l → Q (floop l)) : Q (oLoop v no floop) := by
  cases v <;> first | exact hno | exact hloop _ rfl
theorem oDefr_ok {α : Type} {Q : α → Prop} {no : α} {v : AO} {fdefr : _} (hno : Q no) (hdefr : v = .defr  → Q (fdefr )) : Q (oDefr v no fdefr) := by
  cases v <;> first | exact hno | exact hdefr  rfl
theorem vBool_some {α : Type} {x : α} {v : AV} {fbool : _} (h : vBool v none fbool = some x) : (∃ b, v = .bool b ∧ fbool b = some x) := by
  cases v <;> first | exact ⟨_, rfl, h⟩ | cases h
theorem vInt_some {α : Type} {x : α} {v : AV} {fint : _} (h : vInt v none fint = some x) : (∃ k n, v = .int k n ∧ fint k n = some x) := by
  cases v <;> first | exact ⟨_, _, rfl, h⟩ | cases h
theorem vStr_some {α : Type} {x : α} {v : AV} {fstr : _} (h : vStr v none fstr = some x) : (∃ l, v = .str l ∧ fstr l = some x) := by
  cases v <;> first | exact ⟨_, rfl, h⟩ | cases h
theorem vPtr_some {α : Type} {x : α} {v : AV} {fptr : _} (h : vPtr v none fptr = some x) : (∃ b o, v = .ptr b o ∧ fptr b o = some x) := by
  cases v <;> first | exact ⟨_, _, rfl, h⟩ | cases h
theorem vPtrN_some {α : Type} {x : α} {v : AV} {fnilp : _} {fptr : _} (h : vPtrN v none fnilp fptr = some x) : (v = .nilp ∧ fnilp = some x) ∨ (∃ b o, v = .ptr b o ∧ fptr b o = some x) := by
  cases v <;> first | exact Or.inl ⟨rfl, h⟩ | exact Or.inr (⟨_, _, rfl, h⟩) | cases h
theorem vSl_some {α : Type} {x : α} {v : AV} {fnils : _} {fslice : _} {frow : _} (h : vSl v none fnils fslice frow = some x) : (v = .nils ∧ fnils = some x) ∨ (∃ b o n c, v = .slice b o n c ∧ fslice b o n c = some x) ∨ (∃ b o n c, v = .row b o n c ∧ frow b o n c = some x) := by
  cases v <;> first | exact Or.inl ⟨rfl, h⟩ | exact Or.inr (Or.inl ⟨_, _, _, _, rfl, h⟩) | exact Or.inr (Or.inr (⟨_, _, _, _, rfl, h⟩)) | cases h
theorem vSlT_some {α : Type} {x : α} {v : AV} {fnils : _} {fslice : _} {frow : _} {ftail : _} (h : vSlT v none fnils fslice frow ftail = some x) : (v = .nils ∧ fnils = some x) ∨ (∃ b o n c, v = .slice b o n c ∧ fslice b o n c = some x) ∨ (∃ b o n c, v = .row b o n c ∧ frow b o n c = some x) ∨ (∃ b o p c, v = .tail b o p c ∧ ftail b o p c = some x) := by
  cases v <;> first | exact Or.inl ⟨rfl, h⟩ | exact Or.inr (Or.inl ⟨_, _, _, _, rfl, h⟩) | exact Or.inr (Or.inr (Or.inl ⟨_, _, _, _, rfl, h⟩)) | exact Or.inr (Or.inr (Or.inr (⟨_, _, _, _, rfl, h⟩))) | cases h
theorem vMap_some {α : Type} {x : α} {v : AV} {fnilm : _} {fmap : _} (h : vMap v none fnilm fmap = some x) : (v = .nilm ∧ fnilm = some x) ∨ (∃ b, v = .map b ∧ fmap b = some x) := by
  cases v <;> first | exact Or.inl ⟨rfl, h⟩ | exact Or.inr (⟨_, rfl, h⟩) | cases h
theorem vAgg_some {α : Type} {x : α} {v : AV} {fagg : _} (h : vAgg v none fagg = some x) : (∃ l, v = .agg l ∧ fagg l = some x) := by
  cases v <;> first | exact ⟨_, rfl, h⟩ | cases h
theorem vG_some {α : Type} {x : α} {v : AV} {fbool : _} {fint : _} {fstr : _} (h : vG v none fbool fint fstr = some x) : (∃ b, v = .bool b ∧ fbool b = some x) ∨ (∃ k n, v = .int k n ∧ fint k n = some x) ∨ (∃ l, v = .str l ∧ fstr l = some x) := by
  cases v <;> first | exact Or.inl ⟨_, rfl, h⟩ | exact Or.inr (Or.inl ⟨_, _, rfl, h⟩) | exact Or.inr (Or.inr (⟨_, rfl, h⟩)) | cases h
theorem oCells_some {α : Type} {x : α} {v : AO} {fcells : _} (h : oCells v none fcells = some x) : (∃ m t cs, v = .cells m t cs ∧ fcells m t cs = some x) := by
  cases v <;> first | exact ⟨_, _, _, rfl, h⟩ | cases h
theorem oMap_some {α : Type} {x : α} {v : AO} {fmap : _} (h : oMap v none fmap = some x) : (∃ es clk, v = .map es clk ∧ fmap es clk = some x) := by
  cases v <;> first | exact ⟨_, _, rfl, h⟩ | cases h
theorem oIter_some {α : Type} {x : α} {v : AO} {fiter : _} (h : oIter v none fiter = some x) : (∃ m since seen a b, v = .iter m since seen a b ∧ fiter m since seen a b = some x) := by
  cases v <;> first | exact ⟨_, _, _, _, _, rfl, h⟩ | cases h
theorem oLoop_some {α : Type} {x : α} {v : AO} {floop : _} (h : oLoop v none floop = some x) : (∃ l, v = .loop l ∧ floop l = some x) := by
  cases v <;> first | exact ⟨_, rfl, h⟩ | cases h
theorem oDefr_some {α : Type} {x : α} {v : AO} {fdefr : _} (h : oDefr v none fdefr = some x) : (v = .defr ∧ fdefr = some x) := by
  cases v <;> first | exact ⟨rfl, h⟩ | cases h
theorem cO_ok {α β : Type} {Q : β → Prop} {no : β} {x : Option α} {f : α → β} (hno : Q no) (h : ∀ a, x = some a → Q (f a)) : Q (cO x no f) := by
  cases x <;> first | exact hno | exact h _ rfl
theorem cO_some' {α β : Type} {x : Option α} {f : α → Option β} {y : β} (h : cO x none f = some y) : ∃ a, x = some a ∧ f a = some y := by
  cases x <;> first | exact ⟨_, rfl, h⟩ | cases h
theorem cB_ok {β : Type} {Q : β → Prop} {b : Bool} {x y : β} (h1 : b = true → Q x) (h2 : b = false → Q y) : Q (cB b x y) := by
  cases b <;> first | exact h1 rfl | exact h2 rfl
theorem cB_some {β : Type} {b : Bool} {x : Option β} {y : β} (h : cB b x none = some y) : b = true ∧ x = some y := by
  cases b <;> first | exact ⟨rfl, h⟩ | cases h
theorem cL_ok {α β : Type} {Q : β → Prop} {no : β} {x : List α} {f : α → List α → β} (hno : x = [] → Q no) (h : ∀ a l, x = a :: l → Q (f a l)) : Q (cL x no f) := by
  cases x <;> first | exact hno rfl | exact h _ _ rfl
theorem cI_ok {β : Type} {Q : β → Prop} {x : Int} {f g : Nat → β} (h1 : ∀ n, x = .ofNat n → Q (f n)) (h2 : ∀ n, x = .negSucc n → Q (g n)) : Q (cI x f g) := by
  cases x <;> first | exact h1 _ rfl | exact h2 _ rfl
theorem cMd_ok {β : Type} {Q : β → Prop} {m : Md} {x y z : β} (h1 : m = .own → Q x) (h2 : m = .row → Q y) (h3 : m = .lib → Q z) : Q (cMd m x y z) := by
  cases m <;> first | exact h1 rfl | exact h2 rfl | exact h3 rfl
end Go.Proofs.YtfnjojdiiklleaaGreat.Ev
