/- A run of a program on abstract memory: a region by its plan. -/
import Derived.Test.YtfnjojdiiklleaaGreatEvZc
import Derived.Test.YtfnjojdiiklleaaGreatEvYa
import Derived.RangeFuncIn
namespace Go.Proofs.YtfnjojdiiklleaaGreat.Ev
section
variable {P : Program} {cf : Cf} {vm : Vm} {fn : FuncId} {ops : Array Oper} {n : Nat} {ρ0 : Rho} {S0 : AS} {w0 : World}
variable {Q : Exit → Act → World → Prop} {rn : Option Nat} {N : Nat}

theorem cAN_get {α : Type} {Z : R α → Prop} {x : AN} {f : AV → R α} (hno : ¬ Z .no) (h : Z (cAN x .no f (fun _ _ => .no) (fun _ _ => .no) (fun _ _ => .no) fun _ => .no)) : ∃ v, x = .get v ∧ Z (f v) := by
  cases x with
  | get v => exact ⟨v, rfl, h⟩
  | _ => exact absurd h hno
theorem cAN_val {α : Type} {Z : R α → Prop} {x : AN} {y : R α} (hno : ¬ Z .no) (h : Z (cAN x .no (fun _ => .no) (fun _ _ => y) (fun _ _ => .no) (fun _ _ => .no) fun _ => .no)) : x ≠ .no ∧ Z y := by
  cases x with
  | val v s => exact ⟨(by intro e; cases e), h⟩
  | _ => exact absurd h hno
theorem kSee_pure {o : Oper} (hp : pureOp P o = true) (fr : FrA) (S S' : AS) : (kSee P cf vm fn ops o).f fr S = (kSee P cf vm fn ops o).f fr S' := by
  have key : (kOp P cf vm fn o).f fr S = (kOp P cf vm fn o).f fr S' := by
    obtain ⟨dst, op, type, pos, after, guard⟩ := o
    cases op with
    | binOp bop t x y yt =>
      simp only [pureOp] at hp
      simp only [kOp]
      split
      · show (binA P bop t).f _ _ S = (binA P bop t).f _ _ S'
        unfold binA
        split
        · split <;> rfl
        · rfl
        · have he : ∀ a b, (eqA P t).f a b S = (eqA P t).f a b S' := fun a b => by
            unfold eqA
            split
            · rfl
            · split <;> rfl
            · split <;> rfl
            · rename_i e hu; rw [hu] at hp; cases hp
            · rfl
            · rfl
            · rfl
            · rfl
          split
          · show cO ((eqA P t).f _ _ S) _ _ = cO ((eqA P t).f _ _ S') _ _
            rw [he]
          · show cO ((eqA P t).f _ _ S) _ _ = cO ((eqA P t).f _ _ S') _ _
            rw [he]
          · rfl
      · rfl
    | convert s d x =>
      simp only [pureOp] at hp
      simp only [kOp]
      split
      · show (convA P s d).f _ S = (convA P s d).f _ S'
        unfold convA
        split
        · rfl
        · rename_i e h1 h2
          rw [h1] at hp
          simp at hp
        · rename_i e h1 h2
          rw [h1] at hp
          simp at hp
        · rfl
      · rfl
    | move x => simp only [kOp]; split <;> rfl
    | assign x => simp only [kOp]; split <;> rfl
    | pick c a b => simp only [kOp]; split <;> rfl
    | build t ps => simp only [kOp]; split <;> rfl
    | nilCheck x => simp only [kOp]; split <;> rfl
    | unOp op t x => simp only [kOp]; split <;> rfl
    | makeInterface t x => simp only [kOp]; split <;> rfl
    | makeFunc f a b => simp only [kOp]; split <;> rfl
    | fieldAddr t x f => simp only [kOp]; split <;> rfl
    | field t x f => simp only [kOp]; split <;> rfl
    | indexAddr t x i => simp only [kOp]; split <;> rfl
    | index t x i => simp only [kOp]; split <;> rfl
    | extract x i => simp only [kOp]; split <;> rfl
    | typeAssert a b c d => simp only [kOp]; split <;> rfl
    | _ => simp [pureOp] at hp
  unfold kSee
  cases hk : kWant vm ops o with
  | none => exact key
  | some g => show cB (g.f fr) _ _ = cB (g.f fr) _ _; rw [key]
/-- What a float yields. -/
theorem see_yield {ρ : Rho} {S : AS} {w : World} {fr : FrA} {o : Oper} {v : AV} {η : Operand → Value} (hs : Sat P ρ S w) (hx : ∀ x ∈ o.op.operands.toList, Opd vm P.globals.size ρ fr η x) (hv : (kSee P cf vm fn ops o).f fr S = .get v) :
    ∃ y, conc ρ v = some y ∧ (isW vm ops o fr = true → (execOp η o).run P w = .ok (.value y) w) ∧ (isW vm ops o fr = false → y = undef) := by
  unfold kSee at hv
  unfold isW
  cases hk : kWant vm ops o with
  | none =>
    rw [hk] at hv
    have h4 := kOp_ok hs cf fn o hx
    rw [hv] at h4
    obtain ⟨y, h5, h6⟩ := h4
    exact ⟨y, h5, fun _ => h6, fun h => by cases h⟩
  | some g =>
    rw [hk] at hv
    have hv : cB (g.f fr) ((kOp P cf vm fn o).f fr S) (.get (.tuple [])) = .get v := hv
    cases hg : g.f fr with
    | true =>
      rw [hg] at hv
      have hv : (kOp P cf vm fn o).f fr S = .get v := hv
      have h4 := kOp_ok hs cf fn o hx
      rw [hv] at h4
      obtain ⟨y, h5, h6⟩ := h4
      exact ⟨y, h5, fun _ => h6, fun h => (by have h : g.f fr = false := h; rw [hg] at h; cases h)⟩
    | false =>
      rw [hg] at hv
      cases hv
      exact ⟨undef, by simp [conc, concs, undef], fun h => (by have h : g.f fr = true := h; rw [hg] at h; cases h), fun _ => rfl⟩
theorem oneN_ne {ev : Ev} {S : AS} {x : AN} (h : (oneN ev S x).ok) : x ≠ .no := by intro e; subst e; exact h
theorem ready_nil {L : Array Bool} (h : ∀ j, j ∉ Region.ready .any ops L) : Region.ready .any ops L = [] := List.eq_nil_iff_forall_not_mem.2 h
theorem plan_ok {ev : Ev} (he : EvSpec P ev) (hds : noDS ops = true) (hQ : ∀ c a w, ¬ Q (.panic c) a w) : ∀ (p : Plan) {D L : Array Bool} {hs : List Hd} {fr : FrA} {S : AS}, okPlan ops p D L = true → ((kPlan P cf vm fn n ops p).f ev hs fr S).ok →
    (∀ fr' S' ρ' a' w', ((kPlan P cf vm fn n ops p).f ev hs fr S).has (fr', S') → Ext ρ0 S0 w0 ρ' S' w' → Sat P ρ' S' w' → FR vm ρ' fr' n (fun _ => False) a' → Q .normal a' w') →
    ∀ (k : Nat) {listed : Array Bool} {H : List Hq} {G : Nat → Option Nat} {ρ : Rho} {w : World} {a : Act}, PInv P cf vm fn ops n ρ0 S0 w0 hs D L listed H G ρ S w fr a → unl listed ≤ k → wpH P ops Q rn N k H listed a w
  | .done, D, L, hs, fr, S, hp, _, hpost => by
    intro k listed H G ρ w a inv hk
    simp only [okPlan, Bool.and_eq_true, decide_eq_true_eq] at hp
    obtain ⟨rfl, hr⟩ := hp
    have hnil : Region.ready .any ops listed = [] := ready_nil fun j hj => by
      obtain ⟨h1, _⟩ := inv.unlisted (mem_ready.1 hj).1
      have := inv.ready hj h1
      rw [hr] at this; cases this
    have hq : Q .normal a w := hpost fr S ρ a w rfl inv.ext inv.sat (inv.fr.weaken fun i ⟨_, j, o, h1, h2, _⟩ => by rw [h1] at h2; cases h2)
    cases k with
    | zero => exact ⟨hnil, hq⟩
    | succ k => exact ⟨fun _ => hq, by rw [hnil]; simp⟩
  | .flt i p, D, L, hs, fr, S, hp, hok, hpost => by
    intro k listed H G ρ w a inv hk
    simp only [okPlan, Bool.and_eq_true, List.contains_iff_mem] at hp
    obtain ⟨⟨⟨hrL, hrD⟩, hfree⟩, hp⟩ := hp
    have hL := (mem_ready.1 hrL).1
    obtain ⟨_, o, ho, _⟩ := mem_ready.1 hrD
    have hG : G i = none := by
      cases hg : G i with
      | none => rfl
      | some g => have := (inv.gl i g hg).1; rw [hL] at this; cases this
    have hready := inv.here hrD hG
    have hun := (mem_ready.1 hready).1
    obtain ⟨av1, av2, av3⟩ := inv.avoid hrD hL ho
    unfold kPlan at hok hpost
    simp only [ho] at hok hpost
    cases hop : okOp n ops o with
    | false => simp only [hop] at hok; exact hok.elim
    | true =>
    have hop2 := hop
    simp only [okOp, Bool.and_eq_true] at hop2
    have hopd : ∀ x ∈ o.op.operands.toList, Opd vm P.globals.size ρ fr a.eval x := fun x hx => inv.fr.opd inv.sat x fun d e => av1 d (looksAt_op (by rw [← e]; exact hx))
    have hwant := wanted_ok inv.fr hop2.2 fun j b p d h1 h2 h3 => av1 d (looksAt_guard h1 h2 h3)
    have hfree' : FreeAt ops o i listed := fun j oj hj hne hunj hw => free_of ho hfree j oj hj hne (inv.unlisted hunj).1 hw
    have hHold : ∀ h ∈ H, h.hold w := fun h hm => by obtain ⟨o', fr', v, y, η, hi⟩ := inv.held h hm; exact hi.holds inv.sat inv.seen
    have main : ∀ {v : AV} {hs' : List Hd}, (kSee P cf vm fn ops o).f fr S = .get v → (∀ q ∈ hs, q ∈ hs') → heldA S hs' = true → ((∀ S, (kSee P cf vm fn ops o).f fr S = .get v) ∨ (⟨i, kSee P cf vm fn ops o, fr, v⟩ : Hd) ∈ hs') →
        ((kPlan P cf vm fn n ops p).f ev hs' ((cD vm n o.dst).f fr v) S).ok → (∀ fr' S' ρ' a' w', ((kPlan P cf vm fn n ops p).f ev hs' ((cD vm n o.dst).f fr v) S).has (fr', S') → Ext ρ0 S0 w0 ρ' S' w' → Sat P ρ' S' w' → FR vm ρ' fr' n (fun _ => False) a' → Q .normal a' w') →
        wpH P ops Q rn N k H listed a w := by
      intro v hs' hv hsub hseen hsrc hok' hpost'
      obtain ⟨y, y1, y2, y3⟩ := see_yield inv.sat hopd hv
      have hunl := unl_set hun
      obtain ⟨k', rfl⟩ : ∃ k', k = k' + 1 := ⟨k - 1, by omega⟩
      have hW : isW vm ops o fr = Region.wanted o (yielded ops a.tmps) := hwant
      refine wpH_first hds hQ ho k' (y := y) (hold := fun w => isW vm ops o fr = true → (execOp a.eval o).run P w = .ok (.value y) w) hfree' hready hHold y2 (fun w' hh => ?_) ?_
      · rw [← hW]
        cases hb : isW vm ops o fr with
        | true => rw [if_pos rfl]; exact hh hb
        | false => rw [if_neg (by simp)]; exact y3 hb
      · refine plan_ok he hds hQ p hp hok' hpost' k' (G := G) (inv.step hds hrD hL ho hop (Ext.refl _ _ _) inv.sat y1 (hs' := hs') (fun h hm => ?_) hseen) (by omega)
        rcases List.mem_cons.1 hm with rfl | hm
        · exact ⟨o, fr, v, y, a.eval, ho, hopd, y1, rfl, hsrc⟩
        · obtain ⟨o', fr', v', y', η, hi⟩ := inv.held h hm
          exact ⟨o', fr', v', y', η, hi.mono (Le.refl _) fun q hq _ => hsub q hq⟩
    cases hpure : pureOp P o with
    | true =>
      simp only [hop, hpure] at hok hpost
      obtain ⟨v, hv, hok'⟩ := cAN_get (Z := R.ok) (fun h => h) hok
      rw [hv] at hpost
      exact main hv (fun q hq => hq) inv.seen (.inl fun S' => by rw [← hv]; exact kSee_pure hpure fr S' S) hok' hpost
    | false =>
      simp only [hop, hpure] at hok hpost
      obtain ⟨v, hv, hok'⟩ := cAN_get (Z := R.ok) (fun h => h) hok
      rw [hv] at hpost
      exact main hv (fun q hq => List.mem_cons_of_mem _ hq) (heldA_cons.2 ⟨⟨v, hv, beqV_refl v⟩, inv.seen⟩) (.inr (by simp)) hok' hpost
  | .prep i p, D, L, hs, fr, S, hp, hok, hpost => by
    intro k listed H G ρ w a inv hk
    simp only [okPlan, Bool.and_eq_true, List.contains_iff_mem] at hp
    obtain ⟨⟨⟨⟨hrL, hrD⟩, hfree⟩, hlate⟩, hp⟩ := hp
    have hL := (mem_ready.1 hrL).1
    obtain ⟨hD, o, ho, hdeps⟩ := mem_ready.1 hrD
    have hilt : i < ops.size := (Array.getElem?_eq_some_iff.1 ho).1
    obtain ⟨av1, av2, av3⟩ := inv.avoid hrD hL ho
    unfold kPlan at hok hpost
    simp only [ho] at hok hpost
    cases hop : okOp n ops o with
    | false => simp only [hop] at hok; exact hok.elim
    | true =>
    simp only [hop] at hok hpost
    have hlo : lateOp o = true := by unfold lateAt at hlate; rw [ho] at hlate; exact hlate
    obtain ⟨hne, hok'⟩ := cAN_val (Z := R.ok) (fun h => h) hok
    have hopd : ∀ x ∈ o.op.operands.toList, Opd vm P.globals.size ρ fr a.eval x := fun x hx => inv.fr.opd inv.sat x fun d e => av1 d (looksAt_op (by rw [← e]; exact hx))
    obtain ⟨obj, mk, ob, u, hlt⟩ := late_ok (cf := cf) (fn := fn) hlo hopd hne
    have hval : ∃ v s, (kOp P cf vm fn o).f fr S = .val v s := by
      have h1 := hlt.abs S
      rw [h1] at hne ⊢
      obtain ⟨nm, _, _, h2⟩ := newA_ok (x := newA S obj 1 AN.no fun i s => AN.val (mk i) s) rfl hne
      exact ⟨_, _, h2.symm⟩
    obtain ⟨v, s, hval⟩ := hval
    rw [hval] at hok hpost
    have hG : G i = none := by
      cases hg : G i with
      | none => rfl
      | some g => have := (inv.gl i g hg).1; rw [hL] at this; cases this
    refine plan_ok he hds hQ p hp hok hpost k (G := G) ⟨inv.sat, inv.ext, inv.szD, by simp [inv.szL], inv.szl, fun j hj => ?_, inv.lst, fun j g hg => ?_, inv.ginj, fun j h1 h2 => ?_, ?_, inv.held, inv.seen⟩ hk
    · by_cases c : i = j
      · subst c; exact getD_same (by rw [inv.szL]; exact hilt)
      · rw [getD_set_ne true c]; exact inv.DL j hj
    · have c : i ≠ j := by intro c; subst c; rw [hG] at hg; cases hg
      rw [getD_set_ne true c]; exact inv.gl j g hg
    · by_cases c : i = j
      · subst c
        exact ⟨o, obj, mk, ob, u, a.eval, ho, hlo, free_of ho hfree, hdeps, hop, hlt, fun _ => rfl, fun g hg => by rw [hG] at hg; cases hg⟩
      · rw [getD_set_ne true c] at h2; exact inv.late j h1 h2
    · refine inv.fr.weaken fun d ⟨x, j, o2, y1, y2, y3, y4⟩ => ⟨x, j, o2, y1, ?_, y3, y4⟩
      by_cases c : i = j
      · subst c; exact getD_same (by rw [inv.szL]; exact hilt)
      · rw [getD_set_ne true c]; exact y2
  | .bind i p, D, L, hs, fr, S, hp, hok, hpost => by
    simp only [okPlan, Bool.and_eq_true, decide_eq_true_eq] at hp
    obtain ⟨⟨⟨⟨hlate, hD⟩, hL⟩, hrL⟩, hp⟩ := hp
    have hD : D.getD i true = false := by simpa using hD
    have hL : L.getD i true = true := by
      rcases Nat.lt_or_ge i L.size with h' | h'
      · rw [getD_tf h' true false]; exact hL
      · rw [Array.getD_eq_getD_getElem?, Array.getElem?_eq_none h']; rfl
    have key : ∀ {listed : Array Bool} {H : List Hq} {G : Nat → Option Nat} {ρ : Rho} {w : World} {a : Act}, PInv P cf vm fn ops n ρ0 S0 w0 hs D L listed H G ρ S w fr a → (∃ g, G i = some g) → ∀ k, unl listed ≤ k → wpH P ops Q rn N k H listed a w := by
      intro listed H G ρ w a inv ⟨g, hg⟩ k hk
      obtain ⟨o, obj, mk, ob, u, η, li⟩ := inv.late i hD hL
      unfold kPlan at hok hpost
      simp only [li.op, li.ok] at hok hpost
      obtain ⟨h1, h2⟩ := bindR_ok hok
      have hne := oneN_ne h1
      have habs := li.late.abs S
      rw [habs] at hne
      obtain ⟨nm, q1, q2, q3⟩ := newA_ok (x := newA S obj 1 AN.no fun i s => AN.val (mk i) s) rfl hne
      have hval : (kOp P cf vm fn o).f fr S = .val (mk nm) ⟨hput S.top nm.p obj, S.lay, logA S nm, Nat.add S.next 1⟩ := by rw [habs]; exact q3.symm
      rw [hval] at h2 hpost
      obtain ⟨h3, h4⟩ := h2 (mk nm, ⟨hput S.top nm.p obj, S.lay, logA S nm, Nat.add S.next 1⟩) rfl
      simp only at h3 h4
      cases hheld : heldA (⟨hput S.top nm.p obj, S.lay, logA S nm, Nat.add S.next 1⟩ : AS) hs with
      | false => rw [hheld] at h3; exact h3.elim
      | true =>
      rw [hheld] at h3 h4
      have hb := inv.bind hD hL hg li (nm := nm) (S' := ⟨hput S.top nm.p obj, S.lay, logA S nm, Nat.add S.next 1⟩) q1 q2 (at_put (live_ne li.late.live) rfl) (Tr.put rfl) hheld
      exact plan_ok he hds hQ p hp h3 (fun fr' S' ρ' a' w' r1 r2 r3 r4 => hpost fr' S' ρ' a' w' (h4 _ r1) r2 r3 r4) k hb hk
    intro k
    induction k with
    | zero =>
      intro listed H G ρ w a inv hk
      cases hg : G i with
      | some g => exact key inv ⟨g, hg⟩ 0 hk
      | none =>
        obtain ⟨o, obj, mk, ob, u, η, li⟩ := inv.late i hD hL
        have hready := inv.here (mem_ready.2 ⟨hD, o, li.op, li.deps⟩) hg
        have := unl_set (mem_ready.1 hready).1
        omega
    | succ k ih =>
      intro listed H G ρ w a inv hk
      cases hg : G i with
      | some g => exact key inv ⟨g, hg⟩ (k + 1) hk
      | none =>
        obtain ⟨o, obj, mk, ob, u, η, li⟩ := inv.late i hD hL
        have hready := inv.here (mem_ready.2 ⟨hD, o, li.op, li.deps⟩) hg
        refine ⟨fun h => (by rw [h] at hready; cases hready), fun j hj => ?_⟩
        have hun := (mem_ready.1 hj).1
        have hunl := unl_set hun
        cases hjL : L.getD j true with
        | true => exact inv.early hds hj hjL fun {a' w' G'} _ _ inv' => ih inv' (by omega)
        | false =>
          exfalso
          have hji : j ∈ Region.ready .any ops (L.setIfInBounds i false) := by
            obtain ⟨_, oj, hoj, hall⟩ := mem_ready.1 hj
            have hne : i ≠ j := by intro e; subst e; rw [hL] at hjL; exact absurd hjL (by simp)
            refine mem_ready.2 ⟨?_, oj, hoj, fun e he' hb => ?_⟩
            · rw [Array.getD_eq_getD_getElem?, Array.getElem?_setIfInBounds_ne hne, ← Array.getD_eq_getD_getElem?]; exact hjL
            · have h3 := hall e he' hb
              have hlt : e.on < listed.size := by
                rcases Nat.lt_or_ge e.on listed.size with h' | h'
                · exact h'
                · rw [Array.getD_eq_getD_getElem?, Array.getElem?_eq_none h'] at h3; cases h3
              have hlt' : e.on < ops.size := by rw [← inv.szl]; exact hlt
              rw [getD_tf hlt false true] at h3
              have hne2 : i ≠ e.on := by
                intro q
                rw [← q] at h3
                rcases (inv.lst i (by rw [q]; exact hlt')).1 h3 with h4 | ⟨g, h4⟩
                · rw [hD] at h4; cases h4
                · rw [hg] at h4; cases h4
              rw [Array.getD_eq_getD_getElem?, Array.getElem?_setIfInBounds_ne hne2, ← Array.getD_eq_getD_getElem?, getD_tf (by rw [inv.szL]; exact hlt') false true]
              rcases (inv.lst e.on hlt').1 h3 with h4 | ⟨g, h4⟩
              · exact inv.DL _ h4
              · exact (inv.gl _ _ h4).1
          rw [hrL, List.mem_singleton] at hji
          subst hji
          rw [hL] at hjL; exact absurd hjL (by simp)
  | .eff e p, D, L, hs, fr, S, hp, hok, hpost => by
    simp only [okPlan, Bool.and_eq_true, decide_eq_true_eq, List.contains_iff_mem] at hp
    obtain ⟨⟨hrL, hrD⟩, hp⟩ := hp
    have heL : e ∈ Region.ready .any ops L := by rw [hrL]; simp
    have hL := (mem_ready.1 heL).1
    obtain ⟨hD, o, ho, _⟩ := mem_ready.1 hrD
    unfold kPlan at hok hpost
    simp only [ho] at hok hpost
    cases hop : okOp n ops o with
    | false => simp only [hop] at hok; exact hok.elim
    | true =>
    simp only [hop] at hok hpost
    obtain ⟨h1, h2⟩ := bindR_ok hok
    have hnoG : ∀ {listed : Array Bool} {H : List Hq} {G : Nat → Option Nat} {ρ : Rho} {w : World} {a : Act}, PInv P cf vm fn ops n ρ0 S0 w0 hs D L listed H G ρ S w fr a → G e = none := fun {listed H G ρ w a} inv => by
      cases hg : G e with
      | none => rfl
      | some g => have := (inv.gl e g hg).1; rw [hL] at this; cases this
    intro k
    induction k with
    | zero =>
      intro listed H G ρ w a inv hk
      have hready := inv.here hrD (hnoG inv)
      have := unl_set (mem_ready.1 hready).1
      omega
    | succ k ih =>
      intro listed H G ρ w a inv hk
      have hready := inv.here hrD (hnoG inv)
      refine ⟨fun h => (by rw [h] at hready; cases hready), fun j hj => ?_⟩
      have hun := (mem_ready.1 hj).1
      have hunl := unl_set hun
      cases hjL : L.getD j true with
      | true => exact inv.early hds hj hjL fun {a' w' G'} _ _ inv' => ih inv' (by omega)
      | false =>
        have hje := inv.ready hj hjL
        rw [hrL, List.mem_singleton] at hje
        subst hje
        obtain ⟨av1, av2, av3⟩ := inv.avoid hrD hL ho
        unfold wpOpIn
        simp only [ho]
        refine step_ok (rn := rn) (N := N) (Q := Q) he inv.sat inv.fr hop (fun x hx d q => av1 d (looksAt_op (by rw [← q]; exact hx))) (fun _ _ _ _ g1 g2 g3 => av1 _ (looksAt_guard g1 g2 g3)) h1 fun v S' ρ' u w' q1 q2 q3 q4 => ?_
        obtain ⟨h3, h4⟩ := h2 (v, S') q1
        simp only at h3 h4
        cases hheld : heldA S' (keepH (waitsOn ops o) hs) with
        | false => rw [hheld] at h3; exact h3.elim
        | true =>
        rw [hheld] at h3 h4
        have hkeep : ∀ h ∈ H, ¬ waitsB ops j h.i → ∃ o fr' v y η, HeldI P cf vm fn ops (keepH (waitsOn ops o) hs) ρ' h o fr' v y η ∨ True := fun h hm hn => ⟨o, fr, v, u, a.eval, .inr trivial⟩
        have hk2 : ∀ h ∈ H, ¬ waitsB ops j h.i → ∃ o' fr' v y η, HeldI P cf vm fn ops (keepH (waitsOn ops o) hs) ρ' h o' fr' v y η := fun h hm hn => by
          obtain ⟨o', fr', v', y', η, hi⟩ := inv.held h hm
          refine ⟨o', fr', v', y', η, hi.mono q2.le fun q hq hqi => keepH_mem hq fun hmem => ?_⟩
          obtain ⟨_, hw⟩ := List.mem_filter.1 hmem
          unfold waits at hw
          obtain ⟨x, hx, hb⟩ := Array.any_eq_true'.1 hw
          simp only [Bool.and_eq_true, beq_iff_eq] at hb
          exact hn ⟨o, ho, x, hx, hb.1, by rw [hb.2, hqi]⟩
        have hcl : ∀ h : Hq, Decidable (¬ waitsB ops j h.i) := fun _ => Classical.propDecidable _
        refine ⟨fun h hm hn => ?_, H.filter (fun h => decide (¬ waitsB ops j h.i)), fun h hm hn => List.mem_filter.2 ⟨hm, by simpa using hn⟩, ?_⟩
        · obtain ⟨o', fr', v', y', η, hi⟩ := hk2 h hm hn
          exact hi.holds q3 hheld
        · refine plan_ok he hds hQ p hp h3 (fun fr' S'' ρ'' a' w'' r1 r2 r3 r4 => hpost fr' S'' ρ'' a' w'' (h4 _ r1) r2 r3 r4) k (G := G) (inv.step hds hrD hL ho hop q2 q3 q4 (fun h hm => ?_) hheld) (by omega)
          obtain ⟨m1, m2⟩ := List.mem_filter.1 hm
          exact hk2 h m1 (by simpa using m2)
end
end Go.Proofs.YtfnjojdiiklleaaGreat.Ev
namespace Go.Proofs.YtfnjojdiiklleaaGreat.Ev
section
variable {P : Program} {F : Fence} {n : Nat} {Q : Exit → Act → World → Prop} {a : Act} {w : World}

/-! ### A loop, unrolled; a scope -/
theorem exitTo_len : ∀ {id : Nat} {k k' : List Item}, exitTo id k = some k' → k'.length ≤ k.length
  | _, [], _, h => by cases h
  | id, x :: k, k', h => by
    cases x with
    | inBlock i =>
      simp only [exitTo] at h
      split at h
      · cases h; simp
      · have := exitTo_len h; simp; omega
    | _ => simp only [exitTo] at h; have := exitTo_len h; simp; omega
theorem lone_todo {fr fr' : Frame} {cs cs' : List Frame} {w w' : World} (h : lone fr cs w = lone fr' cs' w') : fr.todo = fr'.todo ∧ fr.mode = fr'.mode := by
  have h1 := congrArg (fun m : Machine => m.gs) h
  simp only [lone] at h1
  have h2 := Array.mk.inj h1
  have h3 := (List.cons.inj h2).1
  have h4 : fr = fr' := congrArg Goroutine.frame h3
  rw [h4]; exact ⟨rfl, rfl⟩
noncomputable def Plainly (Q : Exit → Act → World → Prop) : Prop := ∀ e a w, Q e a w → e = .normal ∨ e = .ret ∨ ∃ i, e = .exit i
theorem wpIn_unroll {c : Code} (hQ : Plainly Q) (h : c.wpIn F n P (Exit.then (fun a w => (Code.loop c).wpIn F n P Q a w) Q) a w) : (Code.loop c).wpIn F n P Q a w := by
  intro b k cs hro hb hr
  obtain ⟨e, a₁, w₁, hq, harr⟩ := h b (.inLoop c :: k) cs hro hb hr
  have h0 : StepsIn (Machine.fenced P F) P (lone (b.atR a (.code (.loop c) :: k)) cs w) (lone (b.atR a (.code c :: .inLoop c :: k)) cs w) := .one (fenced_calm hb hr rfl) stepR_loop
  have move : ∀ {m t : Machine}, t ≠ lone (b.atR a₁ (.code (.loop c) :: k)) cs w₁ → StepsIn (Machine.fenced P F) P (lone (b.atR a₁ (.code (.loop c) :: k)) cs w₁) t → StepsIn (Machine.fenced P F) P (lone (b.atR a₁ (.inLoop c :: k)) cs w₁) t := fun {m t} hne hs => by
    cases hs with
    | refl => exact absurd rfl hne
    | head hI hst hs' =>
      rw [stepR_loop] at hst
      cases hst
      exact .head (fenced_calm hb hr rfl) stepR_inLoop hs'
  cases e with
  | normal =>
    obtain ⟨e₂, a₂, w₂, hq₂, harr₂⟩ := hq b k cs hro hb hr
    refine ⟨e₂, a₂, w₂, hq₂, .of_steps (h0.trans harr) ?_⟩
    rcases hQ _ _ _ hq₂ with rfl | rfl | ⟨i, rfl⟩
    · refine move (m := lone (b.atR a₁ (.inLoop c :: k)) cs w₁) (fun e => ?_) harr₂
      have := congrArg List.length (lone_todo e).1
      simp [Frame.atR] at this
    · refine ⟨fun hn => ?_, fun hn => ?_⟩
      · obtain ⟨todo, hs⟩ := harr₂.1 hn
        refine ⟨todo, move (m := lone (b.atR a₁ (.inLoop c :: k)) cs w₁) (fun e => ?_) hs⟩
        have := (lone_todo e).2
        simp [Frame.atR] at this
      · obtain ⟨k₁, hs⟩ := harr₂.2 hn
        refine ⟨k₁, move (m := lone (b.atR a₁ (.inLoop c :: k)) cs w₁) (fun e => ?_) hs⟩
        have := (lone_todo e).1
        simp [Frame.atR] at this
    · refine ⟨fun k' hk => ?_, fun hn hk => ?_⟩
      · refine move (m := lone (b.atR a₁ (.inLoop c :: k)) cs w₁) (fun e => ?_) (harr₂.1 k' hk)
        have h1 := congrArg List.length (lone_todo e).1
        have h2 := exitTo_len hk
        simp [Frame.atR] at h1
        omega
      · obtain ⟨k₁, hk1, hs⟩ := harr₂.2 hn hk
        refine ⟨k₁, hk1, move (m := lone (b.atR a₁ (.inLoop c :: k)) cs w₁) (fun e => ?_) hs⟩
        have := (lone_todo e).1
        simp [Frame.atR] at this
  | exit id => exact ⟨_, a₁, w₁, hq, .of_steps h0 (.pass (x := .inLoop c) rfl (fun _ _ => .inl (by simp)) harr)⟩
  | goto l => exact ⟨_, a₁, w₁, hq, .of_steps h0 (.pass (x := .inLoop c) rfl (fun _ _ => .inl (by simp)) harr)⟩
  | ret => exact ⟨_, a₁, w₁, hq, .of_steps h0 (.pass (x := .inLoop c) rfl (fun _ _ => .inl (by simp)) harr)⟩
  | panic ch => exact ⟨_, a₁, w₁, hq, .of_steps h0 (.pass (x := .inLoop c) rfl (fun _ _ => .inl (by simp)) harr)⟩
  | outgrown => exact ⟨_, a₁, w₁, hq, .of_steps h0 (.pass (x := .inLoop c) rfl (fun _ _ => .inl (by simp)) harr)⟩
theorem wpIn_scope {c : Code} (hQ : Plainly Q) (h : c.wpIn F n P Q a w) : (Code.scope c).wpIn F n P Q a w := by
  intro b k cs hro hb hr
  have h0 : StepsIn (Machine.fenced P F) P (lone (b.atR a (.code (.scope c) :: k)) cs w) (lone (b.atR a (.code c :: .inScope c :: k)) cs w) := .one (fenced_calm hb hr rfl) (step_lone_go (by simp [stepG, stepG.exec, Frame.atR]))
  obtain ⟨e, a₁, w₁, hq, harr⟩ := h b (.inScope c :: k) cs hro hb hr
  rcases hQ _ _ _ hq with rfl | rfl | ⟨i, rfl⟩
  · exact ⟨.normal, a₁, w₁, hq, h0.trans (StepsIn.trans harr (.one (fenced_calm hb hr rfl) (step_lone_go (by simp [stepG, stepG.exec, Frame.atR]))))⟩
  · exact ⟨.ret, a₁, w₁, hq, .of_steps h0 harr⟩
  · exact ⟨.exit i, a₁, w₁, hq, fun k' hk => h0.trans (harr.1 k' (by simp [exitTo, hk])), fun hn hk => let ⟨k₁, h1, h2⟩ := harr.2 hn (by simp [exitTo, hk]); ⟨k₁, h1, h0.trans h2⟩⟩
end
section
variable {P : Program} {cf : Cf} {vm : Vm} {fn : FuncId}
theorem replicate_getD {m j : Nat} {d : Bool} : (Array.replicate m false).getD j d = if j < m then false else d := by
  rw [Array.getD_eq_getD_getElem?]
  by_cases h : j < m
  · rw [Array.getElem?_replicate, if_pos h, if_pos h]; rfl
  · rw [Array.getElem?_replicate, if_neg h, if_neg h]; rfl
theorem draw_ok {ev : Ev} (he : EvSpec P ev) (hmix : P.follows .mixedOrders = true) {ops : Array Oper} {id n : Nat} {rn : Option Nat} {N : Nat} {Q : Exit → Act → World → Prop} (hQ : ∀ c a w, ¬ Q (.panic c) a w) {ρ : Rho} {S : AS} {w : World} {fr : FrA} {a : Act}
    (hs : Sat P ρ S w) (hf : FR vm ρ fr n (fun _ => False) a) (hok : ((kDraw P cf vm fn n ops).f ev fr S).ok)
    (hpost : ∀ fr' S' ρ' a' w', ((kDraw P cf vm fn n ops).f ev fr S).has (fr', S') → Ext ρ S w ρ' S' w' → Sat P ρ' S' w' → FR vm ρ' fr' n (fun _ => False) a' → Q .normal a' w') : (Code.region id ops true).wpIn (Wf rn) N P Q a w := by
  unfold kDraw kDrawM at hok hpost
  cases hb : (noDS ops && okPlanF ops (mks ops ops.toList 0) (planD P ops (mks ops ops.toList 0))) with
  | false => rw [hb] at hok; exact hok.elim
  | true =>
  rw [hb] at hok hpost
  simp only [Bool.and_eq_true] at hb
  refine wpIn_region_any hmix (wpH_any _ [] _ _ _ ?_)
  have hg : ∀ j d, (noneListed ops).getD j d = if j < ops.size then false else d := fun j d => replicate_getD
  refine plan_ok (ρ0 := ρ) (S0 := S) (w0 := w) he hb.1 hQ (planD P ops (mks ops ops.toList 0)) (okPlanF_ok hb.2) hok hpost ops.size (G := fun _ => none) ⟨⟨hs.obj, hs.inj, hs.bnd, hs.stp, hs.stinj, hs.glob⟩, ⟨Le.refl _, Nat.le_refl _, fun _ _ _ => rfl, fun _ _ h => h, rfl, rfl, rfl, Tr.refl _⟩, by simp [noneListed], by simp [noneListed], by simp, fun j h => h, fun j hj => ?_, fun j g h => (by cases h), fun j j' g h => (by cases h), fun j h1 h2 => ?_, hf.weaken fun i h => h.elim, fun h hm => (by cases hm), rfl⟩ ?_
  · have := hg j true
    constructor
    · intro h; exact .inl h
    · rintro (h | ⟨g, h⟩)
      · exact h
      · cases h
  · have : (noneListed ops).getD j true = true := h2
    rw [h1] at this; cases this
  · exact Nat.le_trans List.countP_le_length (by simp)
end
end Go.Proofs.YtfnjojdiiklleaaGreat.Ev
