/- A run of a program on abstract memory: a region that draws its order. -/
import Derived.Test.YthgkdadchfoomabGreatEvZb
namespace Go.Proofs.YthgkdadchfoomabGreat.Ev
section
variable {P : Program} {ρ : Rho} {S : AS} {w : World} {cf : Cf} {vm : Vm} {fn : FuncId} {ops : Array Oper} {n : Nat} {ρ0 : Rho} {S0 : AS} {w0 : World} {hs : List Hd} {D L listed : Array Bool} {H : List Hq} {G : Nat → Option Nat} {fr : FrA} {a : Act}
variable {Q : Exit → Act → World → Prop} {rn : Option Nat} {N : Nat}

theorem isW_none {o : Oper} (h : o.guard = none) : isW vm ops o fr = true := by unfold isW kWant; rw [h]
theorem late_noguard {o : Oper} (h : lateOp o = true) : o.guard = none := by
  simp only [lateOp, Bool.and_eq_true] at h
  cases hg : o.guard with
  | none => rfl
  | some _ => rw [hg] at h; simp at h
/-- One that only makes a block comes up before it is told of. -/
theorem PInv.early (inv : PInv P cf vm fn ops n ρ0 S0 w0 hs D L listed H G ρ S w fr a) (hds : noDS ops = true) {j : Nat} (hj : j ∈ Region.ready .any ops listed) (hL : L.getD j true = true) {k : Nat}
    (next : ∀ {a' : Act} {w' : World} {G' : Nat → Option Nat}, (∀ i, i ≠ j → G' i = G i) → (∃ g, G' j = some g) → PInv P cf vm fn ops n ρ0 S0 w0 hs D L (listed.setIfInBounds j true) H G' ρ S w' fr a' → wpH P ops Q rn N k H (listed.setIfInBounds j true) a' w') :
    wpOpIn (Wf rn) N P ops Q j (fun a' w' => (∀ h ∈ H, ¬ waitsB ops j h.i → h.hold w') ∧ ∃ H', (∀ h ∈ H, ¬ waitsB ops j h.i → h ∈ H') ∧ wpH P ops Q rn N k H' (listed.setIfInBounds j true) a' w') a w := by
  have hun := (mem_ready.1 hj).1
  obtain ⟨hD, hG⟩ := inv.unlisted hun
  obtain ⟨o, obj, mk, ob, u, η, li⟩ := inv.late j hD hL
  have hjlt : j < ops.size := (Array.getElem?_eq_some_iff.1 li.op).1
  unfold wpOpIn
  simp only [li.op]
  have hw : Region.wanted o (yielded ops a.tmps) = true := by unfold Region.wanted; rw [late_noguard li.is]
  rw [if_pos hw]
  refine ⟨fun _ _ => trivial, ?_⟩
  rw [Oper.semAt_eq _ _ _ (noDS_spec hds li.op).1, li.eval hG, li.late.run w]
  show _ ∧ _
  have hsat' := inv.sat.push ob
  have hsz : ∀ g, g < w.heap.size → (w.heap.push ob)[g]? = w.heap[g]? := fun g hg => by rw [Array.getElem?_push, if_neg (Nat.ne_of_lt hg)]
  refine ⟨fun h hm _ => ?_, H, fun h hm _ => hm, next (G' := fun i => if i = j then some w.heap.size else G i) (fun i hi => if_neg hi) ⟨_, if_pos rfl⟩ ?_⟩
  · obtain ⟨o', fr', v, y, η, hi⟩ := inv.held h hm
    exact hi.holds hsat' inv.seen
  · have hd : okD n o.dst = true := by have := li.ok; simp only [okOp, Bool.and_eq_true] at this; exact this.1
    have hPX : ∀ d, o.dst = some d → d < n → PX ops n D L d := fun d hd hn => ⟨hn, j, o, hD, hL, li.op, hd⟩
    refine ⟨hsat', inv.ext.push ob, inv.szD, inv.szL, by simp [inv.szl], inv.DL, fun i hi => ?_, fun i g hg => ?_, fun i i' g h1 h2 => ?_, fun i h1 h2 => ?_, ?_, inv.held, inv.seen⟩
    · by_cases c : j = i
      · subst c
        rw [getD_same (by rw [inv.szl]; exact hjlt)]
        simp
      · rw [getD_set_ne true c]
        have c' : ¬ i = j := fun e => c e.symm
        simp only [c', if_false]
        exact inv.lst i hi
    · by_cases c : i = j
      · subst c; exact ⟨hL, hD⟩
      · simp only [c, if_false] at hg; exact inv.gl i g hg
    · have old : ∀ {i g}, G i = some g → g < w.heap.size := fun {i g} h => by
        obtain ⟨q1, q2⟩ := inv.gl i g h
        obtain ⟨_, _, _, _, _, _, li'⟩ := inv.late i q2 q1
        exact (li'.made g h).1
      by_cases c : i = j <;> by_cases c' : i' = j
      · rw [c, c']
      · simp only [c, if_true] at h1; simp only [c', if_false] at h2
        cases h1
        exact absurd (old h2) (Nat.lt_irrefl _)
      · simp only [c, if_false] at h1; simp only [c', if_true] at h2
        cases h2
        exact absurd (old h1) (Nat.lt_irrefl _)
      · simp only [c, if_false] at h1; simp only [c', if_false] at h2
        exact inv.ginj i i' g h1 h2
    · by_cases c : i = j
      · subst c
        refine ⟨o, obj, mk, ob, u, η, li.op, li.is, li.free, li.deps, li.ok, li.late, fun hg => by simp at hg, fun g hg => ?_⟩
        · simp only [if_true] at hg
          cases hg
          refine ⟨by simp, inv.ext.size, by simp, fun ⟨p, oo, c, q1, q2⟩ => ?_, fun d hd1 hd2 => ?_⟩
          · have := inv.sat.bnd _ _ _ _ q1; omega
          · rw [hd1]; exact getD_put_same (by rw [inv.fr.size]; exact hd2)
      · obtain ⟨o2, obj2, mk2, ob2, u2, η2, li2⟩ := inv.late i h1 h2
        have hap : o2.apart ops o = true := li2.free j o li.op (Ne.symm c) hD fun ⟨o', ho', e, he, hb, heq⟩ => by
          rw [li.op] at ho'; cases ho'
          have h3 := li.deps e he hb
          rw [heq] at h3
          have hlt : i < D.size := lt_of_getD h1
          rw [getD_tf hlt false true, h1] at h3; cases h3
        obtain ⟨p1, p2, p3⟩ := Oper.apart_spec hap
        refine ⟨o2, obj2, mk2, ob2, u2, η2, li2.op, li2.is, li2.free, li2.deps, li2.ok, li2.late, fun hg => (execOp_put o2 (noDS_spec hds li2.op).2 a o.dst _ p3).trans (li2.eval (by simpa only [c, if_false] using hg)), fun g hg => ?_⟩
        simp only [c, if_false] at hg
        obtain ⟨g1, g2, g3, g4, g5⟩ := li2.made g hg
        refine ⟨by simp; omega, g2, by show (w.heap.push ob)[g]? = _; rw [hsz g g1]; exact g3, g4, fun d hd1 hd2 => ?_⟩
        rw [getD_put (fun q => p2 d hd1 q)]
        exact g5 d hd1 hd2
    · refine ⟨by cases o.dst <;> simp [Act.put, inv.fr.size], fun i hi hn => ?_, by cases o.dst <;> exact inv.fr.defs⟩
      rw [inv.fr.tmps i hi hn]
      by_cases hq : o.dst = some i
      · rw [hq]
        rw [getD_put_out (by rw [inv.fr.size]; exact Nat.le_of_not_lt fun hlt => hn (hPX i hq hlt))]
      · rw [getD_put hq]
/-- Such a block is told of. -/
theorem PInv.bind (inv : PInv P cf vm fn ops n ρ0 S0 w0 hs D L listed H G ρ S w fr a) {i : Nat} {o : Oper} {obj : AO} {mk : Nam → AV} {ob : Obj} {u : Nat → Value} {η : Operand → Value} (hD : D.getD i true = false) (hL : L.getD i true = true) {g : Nat} (hg : G i = some g)
    (li : LateI P cf vm fn ops n w0 D G ρ S w fr a i o obj mk ob u η) {nm : Nam} {S' : AS} (hnm : nm.n = nm.p.num) (hfree : S.at nm.p = .free) (hS : ∀ p, S'.at p = if p = nm.p then obj else S.at p) (htr : Tr S S') (hseen : heldA S' hs = true) :
    PInv P cf vm fn ops n ρ0 S0 w0 hs (D.setIfInBounds i true) L listed H (fun j => if j = i then none else G j) (ρ.set nm.p (.blk g 0 0)) S' w ((cD vm n o.dst).f fr (mk nm)) a := by
  have hn : ρ nm.p = none := by have := inv.sat.obj nm.p; rw [hfree] at this; exact this
  have hle : Le ρ (ρ.set nm.p (.blk g 0 0)) := Rho.set_le hn
  obtain ⟨g1, g2, g3, g4, g5⟩ := li.made g hg
  obtain ⟨r1, r2⟩ := li.late.rel _ w.heap nm g hle (look_set hnm _) g3
  obtain ⟨b1, b2⟩ := inv.sat.bind inv.ext hfree hS htr g1 g2 g4 r1
  have hilt : i < ops.size := (Array.getElem?_eq_some_iff.1 li.op).1
  have hd : okD n o.dst = true := by have := li.ok; simp only [okOp, Bool.and_eq_true] at this; exact this.1
  refine ⟨b1, b2, by simp [inv.szD], inv.szL, inv.szl, fun j hj => ?_, fun j hj => ?_, fun j g' hg' => ?_, fun j j' g' h1 h2 => ?_, fun j h1 h2 => ?_, ?_, fun h hm => ?_, hseen⟩
  · by_cases c : i = j
    · subst c; exact hL
    · rw [getD_set_ne true c] at hj; exact inv.DL j hj
  · by_cases c : i = j
    · subst c
      rw [getD_same (by rw [inv.szD]; exact hilt)]
      simp only [true_or, iff_true]
      exact (inv.lst i hilt).2 (.inr ⟨g, hg⟩)
    · have c' : ¬ j = i := fun e => c e.symm
      rw [getD_set_ne true c]
      simp only [c', if_false]
      exact inv.lst j hj
  · have c : ¬ j = i := by intro c; simp [c] at hg'
    simp only [c, if_false] at hg'
    rw [getD_set_ne true (fun e => c e.symm)]
    exact inv.gl j g' hg'
  · have c : ¬ j = i := by intro c; simp [c] at h1
    have c' : ¬ j' = i := by intro c; simp [c] at h2
    simp only [c, if_false] at h1
    simp only [c', if_false] at h2
    exact inv.ginj j j' g' h1 h2
  · have c : i ≠ j := by intro c; subst c; rw [getD_same (by rw [inv.szD]; exact hilt)] at h1; cases h1
    have c' : ¬ j = i := fun e => c e.symm
    rw [getD_set_ne true c] at h1
    obtain ⟨o2, obj2, mk2, ob2, u2, η2, li2⟩ := inv.late j h1 h2
    have hap : o2.apart ops o = true := li2.free i o li.op c hD fun ⟨o', ho', e, he, hb, heq⟩ => by
      rw [li.op] at ho'; cases ho'
      have h3 := li.deps e he hb
      rw [heq] at h3
      have hlt : j < D.size := lt_of_getD h1
      rw [getD_tf hlt false true, h1] at h3; cases h3
    obtain ⟨p1, p2, p3⟩ := Oper.apart_spec hap
    refine ⟨o2, obj2, mk2, ob2, u2, η2, li2.op, li2.is, li2.free.mono i, fun x hx hb => getD_set_true (li2.deps x hx hb), li2.ok, li2.late.mono hle (fun S => (late_congr li2.is (fun x hx k hxk hk => ?_) S).symm) rfl, fun hg' => ?_, fun g' hg' => ?_⟩
    · symm
      exact cD_tget hd hk (fun q => p3 k q (looksAt_op (by rw [← hxk]; exact hx)))
    · exact li2.eval (by simpa only [c', if_false] using hg')
    · simp only [c', if_false] at hg'
      obtain ⟨q1, q2, q3, q4, q5⟩ := li2.made g' hg'
      refine ⟨q1, q2, q3, fun ⟨p, oo, cc, x1, x2⟩ => ?_, q5⟩
      by_cases ep : p = nm.p
      · subst ep
        rw [Rho.set_same] at x1; cases x1
        exact c' (inv.ginj _ _ _ hg' hg)
      · rw [Rho.set_other _ _ ep] at x1
        rw [hS, if_neg ep] at x2
        exact q4 ⟨p, oo, cc, x1, x2⟩
  · refine ⟨inv.fr.size, fun k hk hnx => ?_, ?_⟩
    · by_cases hq : o.dst = some k
      · by_cases hkn : k < n
        · have hcd : (cD vm n o.dst).f fr (mk nm) = ⟨(tsF vm k).f fr.t (mk nm), fr.ds⟩ := by rw [hq]; simp only [cD, show Nat.blt k n = true by simpa using hkn]
          rw [hcd]
          show conc _ ((tgF vm k).f ((tsF vm k).f fr.t (mk nm))) = _
          rw [tget_same, r2, g5 k hq hkn]
        · have hcd : (cD vm n o.dst).f fr (mk nm) = fr := by
            rw [hq]
            have : Nat.blt k n = false := by cases hb : Nat.blt k n with | false => rfl | true => exact absurd (by simpa using hb) hkn
            simp only [cD, this]
          rw [hcd]
          exact conc_mono hle _ (inv.fr.tmps k hk fun ⟨x, _⟩ => hkn x)
      · rw [cD_tget hd hk hq]
        refine conc_mono hle _ (inv.fr.tmps k hk fun ⟨x, j, o2, y1, y2, y3, y4⟩ => hnx ⟨x, j, o2, ?_, y2, y3, y4⟩)
        have c : i ≠ j := by intro c; subst c; rw [li.op] at y3; cases y3; exact hq y4
        rw [getD_set_ne true c]; exact y1
    · have hds : ((cD vm n o.dst).f fr (mk nm)).ds = fr.ds := by
        cases o.dst with
        | none => rfl
        | some d => simp only [cD]; split <;> rfl
      rw [hds]
      exact All2.mono (fun _ _ ⟨g, o, c, h1, h2⟩ => ⟨g, o, c, hle.look h1, h2⟩) inv.fr.defs
  · obtain ⟨o', fr', v, y, η', hi⟩ := inv.held h hm
    exact ⟨o', fr', v, y, η', hi.mono hle fun q hq _ => hq⟩
end
end Go.Proofs.YthgkdadchfoomabGreat.Ev
