/- A range over a function whose body lets all that lay there lie and never leaves, told what the handed values mean in the round's world. -/
/- The plain law: of tracks of unlike Numbers each is counted once. -/
/- A region that draws its order within a round of a loop over an iterator: what is quiet in a class of worlds, walked once. -/
/- law23.TraceOften answers true for any tracks, known() doing so. -/
import Derived.Test.YtfnjojdiiklleaaGreatTrkL
import Derived.RangeFuncCalls
import Derived.Test.YtfnjojdiiklleaaGreatTrkI
import Derived.Test.YtfnjojdiiklleaaGreatBlk
import Derived.OrdersIn
import Derived.OwnWalkIn
namespace Go.Proofs.YtfnjojdiiklleaaGreat
open Go.RowKit Pl

/-- How the body of such a round is left: at its end, all that lay there lying. -/
def calmPost (W : World) : Exit → Act → World → Prop
  | .normal, _, W' => Below W.heap.size W W'
  | _, _, _ => False
theorem below_putObj {B : Nat} {A W : World} {l : Nat} (o : Obj) (h : Below B A W) (hl : B ≤ l) (hB : B ≤ W.heap.size) : Below B A (W.putObj l o) :=
  h.grown (grownBy_putObj' W l o) hB fun k e => by have := Option.some.inj e; omega
theorem wpIn_rangeFunc_calm {P : Program} {n : Nat} {g : Operand} {p : Tmp} {assign body : Code} {Q : Exit → Act → World → Prop} {a : Act} {w : World} {gf : Nat} {lb : Array Value}
    (hg : a.eval g = .func (.func gf) #[] lb) (eg : ∀ args w, (callFunc gf args).run P w = .ok (.enter gf args) w) (Rd : World → Value → Prop)
    (hRd : ∀ (W : World) (v : Value) (l : Nat) (r : Loop) (o' : Obj), W.heap[l]? = some (.loop r) → Rd W v → Rd (W.putObj l o') v)
    (hcall : ∀ (lr : Nat) (W : World), Below w.heap.size w W → (∀ m v W1, Below W.heap.size W W1 → Rd W1 v → YieldAt Fence.wide m P lr #[v] W1 fun e W' => e = .returned (.bool true) ∧ Below W1.heap.size W1 W') →
      CallsIn Fence.wide (n - 1) P gf (#[.func (.yield lr) #[] #[]] ++ lb) W fun e W' => (∃ v, e = .returned v) ∧ Below W.heap.size W W')
    (a₁ : Value → Act)
    (hassign : ∀ (lr m : Nat) (v : Value) (W : World) (K : Act → World → Prop), K (a₁ v) W →
      assign.wpIn (Fence.wide.inRound lr) m P (Exit.then K (fun _ _ _ => False)) { tmps := ((#[p] : Array Tmp).zip #[v]).foldl (fun t (p, v) => t.setIfInBounds p v) a.tmps, defers := [] } W)
    (hbody : ∀ (lr m : Nat) (v : Value) (W : World), Below w.heap.size w W → Rd W v → body.wpIn (Fence.wide.inRound lr) m P (calmPost W) (a₁ v) W)
    (hdone : ∀ (D : Nat) (W : World), w.heap.size ≤ D → Below w.heap.size w W → W.heap[D]? = some (.deferred (some [])) → Q .normal { a with defers := { target := .collected D, args := #[] } :: a.defers } W) :
    (Code.rangeFunc g #[p] assign body).wpIn Fence.wide n P Q a w := by
  refine wpIn_rangeFunc ?_
  intro fn hfn
  obtain ⟨rec, hrec⟩ : ∃ rec : LoopState → Loop, rec = fun st => { state := st, pending := none, fn, tmps := a.tmps, params := #[p], assign, body, defers := w.heap.size } := ⟨_, rfl⟩
  obtain ⟨W1, hW1⟩ : ∃ W1, (w.alloc (.deferred (some []))).alloc (.loop (rec .ready)) = W1 := ⟨_, rfl⟩
  have hL1 : W1.heap[w.heap.size + 1]? = some (.loop (rec .ready)) := by
    rw [← hW1]; have := World.alloc_heap_new (w.alloc (.deferred (some []))) (.loop (rec .ready)); rwa [World.size_alloc] at this
  have hK1 : W1.heap[w.heap.size]? = some (.deferred (some [])) := by
    rw [← hW1]; exact (Below.heap_alloc _ _ _ (by simp)).trans (World.alloc_heap_new w _)
  have hb1 : Below w.heap.size w W1 := by
    rw [← hW1]; exact bel_alloc (bel_alloc (Below.refl _ w) _) _
  have hlt1 : w.heap.size + 1 < W1.heap.size := (Array.getElem?_eq_some_iff.1 hL1).1
  refine ⟨w.heap.size + 1, [{ target := .collected w.heap.size, args := #[] }], W1, { target := .fn (.func gf) lb, args := #[.func (.yield (w.heap.size + 1)) #[] #[]] }, W1, gf,
    #[.func (.yield (w.heap.size + 1)) #[] #[]] ++ lb, W1, ?_, ?_, ?_, ?_, fun h => by simp [Fence.wide] at h, ?_⟩
  · rw [← hW1, hrec]; exact run_enterLoop_outer _ _ _ _ _
  · simp only [resolve, hg]
    simp [go_sem]
  · intro f' hf'; trivial
  · simp [invoke, go_sem, eg]
  · refine (hcall (w.heap.size + 1) W1 hb1 ?_).mono ?_
    · intro m v W hbW hrd
      have hl : W.heap[w.heap.size + 1]? = some (.loop (rec .ready)) := (hbW.block _ hlt1).trans hL1
      have hlt : w.heap.size + 1 < W.heap.size := (Array.getElem?_eq_some_iff.1 hl).1
      have hy := run_yield (P := P) (args := #[v]) hl (by rw [hrec]; rfl)
      rw [hrec] at hy
      refine ⟨fn, _, assign, body, hy, roundIn_of_wpIn trivial (hassign _ _ v W _ ⟨_, run_beginRound hl (by rw [hrec]), ?_⟩)⟩
      have hl2 : (W.putObj (w.heap.size + 1) (.loop { rec .ready with state := .busy })).heap[w.heap.size + 1]? = some (.loop { rec .ready with state := .busy }) := World.putObj_heap_same hlt
      have hb2 : Below w.heap.size w (W.putObj (w.heap.size + 1) (.loop { rec .ready with state := .busy })) := below_putObj _ (hb1.trans (hbW.mono hb1.size)) (Nat.le_succ _) (Nat.le_trans hb1.size hbW.size)
      refine wpIn_mono (hbody _ _ v _ hb2 (hRd _ _ _ _ _ hl hrd)) ?_
      rintro e a3 W3 hp
      cases e with
      | normal =>
        have hp : Below (W.putObj (w.heap.size + 1) (.loop { rec .ready with state := .busy })).heap.size (W.putObj (w.heap.size + 1) (.loop { rec .ready with state := .busy })) W3 := hp
        have hsz : (W.putObj (w.heap.size + 1) (.loop { rec .ready with state := .busy })).heap.size = W.heap.size := by simp [World.putObj]
        rw [hsz] at hp
        have hl3 : W3.heap[w.heap.size + 1]? = some (.loop { rec .ready with state := .busy }) := (hp.block _ hlt).trans hl2
        have hr := run_endRound (P := P) none hl3
        refine ⟨_, _, hr, rfl, ?_⟩
        have hre : ({ ({ rec .ready with state := .busy } : Loop) with state := if (none : Option Code).isNone then .ready else .done, pending := none } : Loop) = rec .ready := by rw [hrec]; rfl
        rw [hre]
        refine ⟨hp.os, hp.tape, hp.output, by have := hp.size; rw [hsz] at this; simp only [World.putObj, Array.size_setIfInBounds]; exact this, fun k hk => ?_⟩
        by_cases e : k = w.heap.size + 1
        · subst e
          rw [hl]; exact World.putObj_heap_same (Array.getElem?_eq_some_iff.1 hl3).1
        · rw [World.putObj_heap_other e, hp.block k hk, World.putObj_heap_other e]
      | _ => exact hp.elim
    · rintro e W2 ⟨⟨v, rfl⟩, hb2⟩
      have hl2 : W2.heap[w.heap.size + 1]? = some (.loop (rec .ready)) := (hb2.block _ hlt1).trans hL1
      have hk2 : W2.heap[w.heap.size]? = some (.deferred (some [])) := (hb2.block _ (by omega)).trans hK1
      have he := run_endLoop (P := P) hl2 (by rw [hrec]; simp)
      rw [hrec] at he
      refine ⟨none, _, he, hdone w.heap.size _ (Nat.le_refl _) ?_ ((World.putObj_heap_other (by omega)).trans hk2)⟩
      exact below_putObj _ (hb1.trans (hb2.mono hb1.size)) (Nat.le_succ _) (Nat.le_trans hb1.size hb2.size)
/-- Tracks read on while a loop's record is turned. -/
theorem Tracks.putLoop {W : World} {v : Value} {t : List Tk} {l : Nat} {r : Loop} (o' : Obj) (hl : W.heap[l]? = some (.loop r)) (h : Tracks W v t) : Tracks (W.putObj l o') v t := by
  obtain ⟨A, c, rfl, hc, hn, hA⟩ := h
  refine ⟨A, c, rfl, hc, hn, fun hp => ?_⟩
  obtain ⟨b, off, rfl, hlt, hcell⟩ := hA hp
  have hne : b ≠ l := fun e => by
    subst e
    obtain ⟨u, hu⟩ : ∃ u, t[0]? = some u := ⟨_, List.getElem?_eq_getElem hp⟩
    have := (hcell 0 u hu).1
    simp [World.cell?, hl] at this
  refine ⟨b, off, rfl, by simp [World.putObj]; exact hlt, fun j u hu => ?_⟩
  have key : ∀ i, (W.putObj l o').cell? ⟨b, i, none⟩ = W.cell? ⟨b, i, none⟩ := fun i => by
    simp only [World.cell?]
    rw [World.putObj_heap_other hne]
  obtain ⟨c0, c1, c2, c3, c4, c5, c6, c7, c8, c9⟩ := hcell j u hu
  exact ⟨(key _).trans c0, (key _).trans c1, (key _).trans c2, (key _).trans c3, (key _).trans c4, (key _).trans c5, (key _).trans c6, (key _).trans c7, (key _).trans c8, (key _).trans c9⟩
end Go.Proofs.YtfnjojdiiklleaaGreat
namespace Go.Proofs.YtfnjojdiiklleaaGreat
open Go.RowKit Pl

/-- The first m tracks have unlike numbers. -/
def DistP (l : List Tk) (m : Nat) : Prop := ∀ (a b : Nat) (u v : Tk), a < b → b < m → l[a]? = some u → l[b]? = some v → u.num ≠ v.num
theorem DistP.zero (l : List Tk) : DistP l 0 := fun _ _ _ _ _ h => absurd h (Nat.not_lt_zero _)
/-- The number at i is unlike those at the first k places. -/
def NewP (l : List Tk) (i k : Nat) : Prop := ∀ (a : Nat) (u v : Tk), a < k → l[a]? = some u → l[i]? = some v → u.num ≠ v.num
theorem NewP.zero (l : List Tk) (i : Nat) : NewP l i 0 := fun _ _ _ h => absurd h (Nat.not_lt_zero _)
theorem NewP.succ {l : List Tk} {i k : Nat} {u v : Tk} (h : NewP l i k) (hu : l[k]? = some u) (hv : l[i]? = some v) (hne : u.num ≠ v.num) : NewP l i (k + 1) := fun a x y ha hx hy => by
  by_cases e : a = k
  · subst e
    rw [hu] at hx; rw [hv] at hy
    cases hx; cases hy; exact hne
  · exact h a x y (by omega) hx hy
theorem DistP.succ {l : List Tk} {m : Nat} (h : DistP l m) (hn : NewP l m m) : DistP l (m + 1) := fun a b u v hab hb hu hv => by
  by_cases e : b = m
  · subst e; exact hn a u v hab hu hv
  · exact h a b u v hab (by omega) hu hv
theorem idxA_none : ∀ (l : List Tk) (p : Int) (k : Nat), idxA l p k = -1 → ∀ t ∈ l, t.num ≠ p
  | [], _, _, _, _, h => absurd h (by simp)
  | t :: l, p, k, he, u, hu => by
    unfold idxA at he
    split at he
    · omega
    · rename_i hne
      rcases List.mem_cons.1 hu with rfl | hu
      · exact hne
      · exact idxA_none l p (k + 1) he u hu
theorem idx_iff {l : List Tk} (hd : DistP l l.length) {i : Nat} {u : Tk} (hu : l[i]? = some u) (p : Int) : u.num = p ↔ idxP l p = i := by
  constructor
  · intro hp
    rcases idxP_ge l p with h | ⟨j, t, h1, h2, h3, h4⟩
    · exact absurd hp (idxA_none l p 0 h u (List.mem_of_getElem? hu))
    · rw [h1]
      have hil := (List.getElem?_eq_some_iff.1 hu).1
      rcases Nat.lt_trichotomy i j with h | h | h
      · exact absurd (hp.trans h4.symm) (hd i j u t h h2 hu h3)
      · omega
      · exact absurd (h4.trans hp.symm) (hd j i t u h hil h3 hu)
  · intro h
    rcases idxP_ge l p with h' | ⟨j, t, h1, h2, h3, h4⟩
    · omega
    · have : j = i := by omega
      subst this
      rw [h3] at hu; cases hu; exact h4
/-- Is track i of l the one of t's number, at node n, and forwarded? -/
def hitP (l : List Tk) (t : Tk) (n : Int) (i : Nat) : Bool := match l[i]? with
  | some u => decide (u.num = t.num) && (decide (u.node = n) && fwdP l i)
  | none => false
def inC (l : List Tk) (t : Tk) (n : Int) : Nat → Nat
  | 0 => 0
  | k + 1 => inC l t n k + (if hitP l t n k then 1 else 0)
theorem inC_is {l : List Tk} (hd : DistP l l.length) (t : Tk) (n : Int) : ∀ k, k ≤ l.length → inC l t n k = if (idxP l t.num < k ∧ countsAt l t n = true) then 1 else 0
  | 0, _ => by
    have hge : countsAt l t n = true → 0 ≤ idxP l t.num := fun h => by
      unfold countsAt at h; simp at h; exact h.1
    simp only [inC]
    rw [if_neg]
    rintro ⟨h1, h2⟩
    have := hge h2
    omega
  | k + 1, hk => by
    have hlt : k < l.length := hk
    obtain ⟨u, hu⟩ : ∃ u, l[k]? = some u := ⟨_, List.getElem?_eq_getElem hlt⟩
    have ih := inC_is hd t n k (by omega)
    have hx := idx_iff hd hu t.num
    simp only [inC, ih]
    by_cases hn : u.num = t.num
    · have hi := hx.1 hn
      have hc : countsAt l t n = hitP l t n k := by
        unfold countsAt hitP
        rw [hi]
        simp only [Int.toNat_natCast, hu]
        simp [hn]
        cases fwdP l k <;> cases decide (u.node = n) <;> rfl
      rw [if_neg (by omega), hc]
      cases hitP l t n k with
      | false => simp
      | true => simp; omega
    · have hh : hitP l t n k = false := by unfold hitP; simp [hu, hn]
      rw [hh]
      have : idxP l t.num ≠ k := fun e => hn (hx.2 e)
      have hiff : (idxP l t.num < (k : Int)) ↔ (idxP l t.num < ((k + 1 : Nat) : Int)) := by omega
      simp only [hiff]; simp
theorem inC_all {l : List Tk} (hd : DistP l l.length) (t : Tk) (n : Int) : inC l t n l.length = if countsAt l t n then 1 else 0 := by
  rw [inC_is hd t n _ (Nat.le_refl _)]
  have hlt : idxP l t.num < l.length := by
    rcases idxP_ge l t.num with h | ⟨j, _, h1, h2, _⟩
    · omega
    · omega
  simp [hlt]
theorem inC_le (l : List Tk) (t : Tk) (n : Int) : ∀ k, inC l t n k ≤ k
  | 0 => Nat.le_refl _
  | k + 1 => by have := inC_le l t n k; unfold inC; split <;> omega
/-- The whole count, chain track by chain track. -/
theorem cntO_step {l : List Tk} (hd : DistP l l.length) {c : List Tk} {j : Nat} {t : Tk} (ht : c[j]? = some t) (n : Int) : cntO l (c.take j) n + inC l t n l.length = cntO l (c.take (j + 1)) n := by
  rw [List.take_add_one, ht]
  simp only [Option.toList]
  rw [cntO_snoc, inC_all hd]
end Go.Proofs.YtfnjojdiiklleaaGreat
namespace Go.Proofs.YtfnjojdiiklleaaGreat
open Go.RowKit Pl

section
variable {P : Program} {ops : Array Oper} {md : Region.Mode} {l n : Nat} {Q : Exit → Act → World → Prop}

theorem rowsIn_of {row : String} {args : Array Value} {w : World} {R : Value → World → Prop} (h : Rows P row args w R) : RowsIn (Fence.wide.inRound l) n P row args w R := by
  intro c cs _
  obtain ⟨v, w', r, s⟩ := h c cs
  exact ⟨v, w', r, stepsIn_wide.2 s⟩
theorem opIn_of {i : Nat} {K : Act → World → Prop} {a : Act} {w : World} (hdf : ∀ (j : Nat) (o : Oper), ops[j]? = some o → ∀ c, o.op ≠ .defer c) (hQ : ¬ LetsOut Q)
    (h : wpOp P ops Q i K a w) : wpOpIn (Fence.wide.inRound l) n P ops Q i K a w := by
  unfold wpOp at h
  unfold wpOpIn
  split
  · rename_i ho; simp only [ho] at h; exact h
  · rename_i o ho
    simp only [ho] at h
    split
    · rename_i hw
      rw [if_pos hw] at h
      have h := h.resolve_right (fun h => hQ h.2)
      unfold Oper.wp at h
      unfold Oper.wpIn
      refine ⟨fun _ _ => trivial, ?_⟩
      rw [Oper.semAt_plain _ _ _ (hdf i o ho)]
      generalize (execOp a.eval o).run P w = r at *
      cases r with
      | ok x w' =>
        cases x <;> simp only [Oper.upon] at h <;> simp only [Oper.uponIn]
        case enter f args =>
          refine ⟨fun hd => by simp [Fence.wide] at hd, CallsIn.inRound l ((callsIn_wide.2 h).mono fun e w'' he => ?_)⟩
          cases e <;> exact he
        case row row args => exact ⟨fun hd => by simp [Fence.wide] at hd, (rowsIn_of h).mono fun _ _ he => he⟩
        all_goals exact h
      | halt x w' => cases x <;> simp only [Oper.upon] at h <;> simp only [Oper.uponIn] <;> exact h
    · rename_i hw
      rw [if_neg hw] at h
      exact ⟨fun _ _ => trivial, h⟩
theorem anyIn_of (hdf : ∀ (j : Nat) (o : Oper), ops[j]? = some o → ∀ c, o.op ≠ .defer c) (hQ : ¬ LetsOut Q) :
    ∀ (f : Nat) (listed : Array Bool) (a : Act) (w : World), wpAny P md ops Q f listed a w → wpAnyIn (Fence.wide.inRound l) n P md ops Q f listed a w
  | 0, _, _, _, h => h
  | f + 1, _, _, _, h => ⟨h.1, fun i hi => wpOpIn_mono (fun a w h => anyIn_of hdf hQ f _ a w h) (opIn_of hdf hQ (h.2 i hi))⟩
def noDefer (ops : Array Oper) : Bool := ops.all fun o => match o.op with
  | .defer _ => false
  | _ => true
theorem noDefer_spec (h : noDefer ops = true) (j : Nat) (o : Oper) (ho : ops[j]? = some o) (c : Call) : o.op ≠ .defer c := by
  intro he
  have hm := Array.mem_of_getElem? ho
  have := (Array.all_eq_true'.1 h) o hm
  rw [he] at this
  cases this
theorem wpIn_region_ext {id : Nat} {a : Act} {W : World} {ls : List Oper} (hm : P.follows .mixedOrders = true) (hB : Region.lexB .any ls.toArray = true) (hd : noDefer ls.toArray = true)
    (h : wpQuiet P ls.toArray (fun w' => ∃ x : Ext W, w' = x.w) (fun a' => ∀ w', (∃ x : Ext W, w' = x.w) → Q .normal a' w') ls a) : (Code.region id ls.toArray true).wpIn (Fence.wide.inRound l) n P Q a W := by
  have h2 : (Code.region id ls.toArray true).wpIn (Fence.wide.inRound l) n P (Exit.then (fun a w => Q .normal a w) (fun _ _ _ => False)) a W := by
    refine wpIn_region_any hm (anyIn_of (noDefer_spec hd) (fun ⟨_, _, h⟩ => h) _ _ _ _ ?_)
    simp only [Region.lexB, Bool.and_eq_true] at hB
    refine wpAny_of_quiet (C := fun w' => ∃ x : Ext W, w' = x.w) (Q := fun a' => ∀ w', (∃ x : Ext W, w' = x.w) → Q .normal a' w') (Q' := Exit.then (fun a w => Q .normal a w) (fun _ _ _ => False)) (fun _ w' hw' h => h w' hw') _ _ _ { W with drawn := W.drawn + 1 } ⟨⟨_, (Below.refl _ W).drew⟩, rfl⟩ ?_
    have := wpAnyQ_lex (C := fun w' => ∃ x : Ext W, w' = x.w) (md := .any) hB.1 ls 0 (Array.replicate ls.toArray.size false) a (by simp) (by simpa using hB.2) h
    simpa using this
  exact wpIn_mono h2 fun e _ _ h => by cases e <;> first | exact h | exact h.elim
end
end Go.Proofs.YtfnjojdiiklleaaGreat
namespace Go.Proofs.YtfnjojdiiklleaaGreat
open Go.RowKit Go.Maps Go.ChangeMaps Go.WideMaps Pl

attribute [local go_sem] Oper.semAt_some

theorem eqlI_fun2 (d f : Nat) (lb : Array Value) (W : World) : (Op.equalIn (d + 1) 29 (.func (.func f) #[] lb) .nilFunc).run Tryz.prog W = .ok false W := by
  simp [Op.equalIn, run_underlying Tryz.underlying29, Result.andThen]
theorem eql_fun2 (f : Nat) (lb : Array Value) (W : World) : (binOp BinOp.eql 29 (.func (.func f) #[] lb) .nilFunc).run Tryz.prog W = .ok (.bool false) W := by
  have h : (Op.equal 29 (.func (.func f) #[] lb) .nilFunc).run Tryz.prog W = .ok false W := eqlI_fun2 _ f lb W
  simp [binOp, h, Result.andThen]
/-- The boxes of the law: of the tracks, of the answer. -/
structure LwI (w0 w : World) (x : Value) (l : List Tk) : Prop where
  box : Whole w w0.heap.size 22 #[x]
  res : Whole w (w0.heap.size + 1) 4 #[.bool false]
  below : Below w0.heap.size w0 w
  tr : Tracks w0 x l
theorem LwI.here {w0 w w' : World} {x : Value} {l : List Tk} (h : LwI w0 w x l) (hb : Below w.heap.size w w') : LwI w0 w' x l :=
  ⟨h.box.here hb, h.res.here hb, h.below.trans (hb.mono h.below.size), h.tr⟩
theorem LwI.tracks {w0 w : World} {x : Value} {l : List Tk} (h : LwI w0 w x l) : Tracks w x l := h.tr.here h.below
set_option maxRecDepth 100000 in
set_option maxHeartbeats 40000000 in
theorem traceOften_any (hK : ∀ w : World, Calls Tryz.prog 7 #[] w fun e w' => e = .returned (.bool true) ∧ Below w.heap.size w w') (v : Value) (l : List Tk) (root : Int) (w : World)
    (h : Tracks w v l) (hok : ∀ t ∈ l, TkOk t) (hin : ∀ t ∈ l, TkIn t) :
    Calls Tryz.prog 3 #[v, .int .i64 root] w fun e w' => e = .returned (.bool true) ∧ Below w.heap.size w w' := by
  have HK := Lib.hid hK
  have HOK := Lib.hid hok
  have HIN := Lib.hid hin
  have HT := Lib.hid h
  obtain ⟨A, cA, rfl⟩ := tracks_val h
  obtain ⟨W0, hW0⟩ : ∃ W0, (w.alloc (.cells #[.slice A l.length cA] 22)).alloc (.cells #[.bool false] 4) = W0 := ⟨_, rfl⟩
  have H0 : Hid (LwI w W0 (.slice A l.length cA) l) := Lib.hid (by
    rw [← hW0]
    refine ⟨(Whole.new w _ _).alloc _, ?_, bel_alloc (bel_alloc (Below.refl _ w) _) _, HT.out⟩
    have := Whole.new (w.alloc (.cells #[.slice A l.length cA] 22)) 4 #[.bool false]
    rwa [World.size_alloc] at this)
  have c0 : W0.cell? ⟨w.heap.size, 0, none⟩ = some (.slice A l.length cA) := H0.out.box.cell 0
  have c1 : W0.cell? ⟨w.heap.size + 1, 0, none⟩ = some (.bool false) := H0.out.res.cell 0
  have f1 : W0.frozen? ⟨w.heap.size + 1, 0, none⟩ = false := H0.out.res.frozen 0
  have HW0 := Lib.hid hW0
  clear hK hok hin h hW0
  refine (callsIn_wide (n := 3)).1 ?_
  refine callsIn_of_wp_marks Tryz.func3 rfl trivial ?_ rfl
  simp only [Tryz.ntmps3, List.size_toArray, List.length_cons, List.length_nil, Nat.reduceAdd, Nat.reduceSub, Array.replicate_succ, Array.replicate_zero, List.push_toArray, List.append_toArray, List.nil_append, List.cons_append]
  gi_upto_region 1 with fail
  rw [HW0.out]
  by_cases h40 : (40 : Int) < l.length
  · gi_wp2
    refine ⟨trivial, (callsIn_wide.2 (HK.out W0)).mono ?_⟩
    rintro e w2 ⟨rfl, hb2⟩
    have H2 := Lib.hid (H0.out.here hb2)
    have d1 : w2.cell? ⟨w.heap.size + 1, 0, none⟩ = some (.bool false) := H2.out.res.cell 0
    have g1 : w2.frozen? ⟨w.heap.size + 1, 0, none⟩ = false := H2.out.res.frozen 0
    gi_wp2
    have HB := H2.out.below.setCell (p := ⟨w.heap.size + 1, 0, none⟩) (by simp) (.bool true)
    have q1 := (H2.out.res.set 0 (.bool true)).cell 0
    simp at q1
    exact ⟨.bool true, by simp [results, Tryz.results3, go_sem, q1], rfl, HB⟩
  · have hl : l.length ≤ 40 := by omega
    gi_wp2
    gi_loopw [5] (fun z wr => ∃ i : Nat, i ≤ l.length ∧ z = .int .i64 i ∧ Hid (DistP l i) ∧ Hid (LwI w wr (.slice A l.length cA) l)) (fun z _ => l.length - (intOf z).toNat)
    case atStart => exact ⟨0, Nat.zero_le _, rfl, Lib.hid (DistP.zero l), H0⟩
    case round =>
      obtain ⟨i, hi, rfl, HD, HW⟩ := hrel
      have e0 : wr.cell? ⟨w.heap.size, 0, none⟩ = some (.slice A l.length cA) := HW.out.box.cell 0
      by_cases hlt : i < l.length
      · gi_wp2
        gi_loopw [6] (fun z wr => ∃ k : Nat, k ≤ i ∧ z = .int .i64 k ∧ Hid (NewP l i k) ∧ Hid (LwI w wr (.slice A l.length cA) l)) (fun z _ => i - (intOf z).toNat)
        case atStart => exact ⟨0, Nat.zero_le _, rfl, Lib.hid (NewP.zero l i), HW⟩
        case round =>
          obtain ⟨k, hk, rfl, HN, HV⟩ := hrel
          by_cases hkt : k < i
          · obtain ⟨u, hu⟩ : ∃ u, l[k]? = some u := ⟨_, List.getElem?_eq_getElem (by omega)⟩
            obtain ⟨t, ht⟩ : ∃ t, l[i]? = some t := ⟨_, List.getElem?_eq_getElem hlt⟩
            obtain ⟨b, off, rfl, hb, hqk⟩ := HV.out.tracks.at hu
            obtain ⟨b', off', hA, -, hqi⟩ := HV.out.tracks.at ht
            injection hA with hA
            injection hA with h1 h2
            subst h1 h2
            obtain ⟨x0, -⟩ := hqk
            obtain ⟨y0, -⟩ := hqi
            have e1 : wr.cell? ⟨w.heap.size, 0, none⟩ = some (.slice (some ⟨b, off, none⟩) l.length cA) := HV.out.box.cell 0
            have hw1 := HV.out.box.lt
            have hkl : k < l.length := by omega
            gi_upto_region 9 with fail
            refine wpIn_wide.2 (wp_region_ext (by kernel_rfl) (by kernel_rfl) ?_)
            repeat (go_big_quiet_step (fail))
            refine wpQuiet_nil ?_
            rintro _ ⟨y, rfl⟩
            have HY := Lib.hid (HV.out.here y.below)
            by_cases hne : u.num = t.num
            · have hq : (u.num == t.num) = true := by simp [hne]
              gi_wp2
              refine ⟨trivial, (callsIn_wide.2 (HK.out y.w)).mono ?_⟩
              rintro e w2 ⟨rfl, hb2⟩
              have H2 := Lib.hid (HY.out.here hb2)
              have d1 : w2.cell? ⟨w.heap.size + 1, 0, none⟩ = some (.bool false) := H2.out.res.cell 0
              have g1 : w2.frozen? ⟨w.heap.size + 1, 0, none⟩ = false := H2.out.res.frozen 0
              gi_wp2
              have HB := H2.out.below.setCell (p := ⟨w.heap.size + 1, 0, none⟩) (by simp) (.bool true)
              have q1 := (H2.out.res.set 0 (.bool true)).cell 0
              simp at q1
              exact ⟨.bool true, by simp [results, Tryz.results3, go_sem, q1], rfl, HB⟩
            · have hq : (u.num == t.num) = false := by simp [hne]
              have HN2 := Lib.hid (HN.out.succ hu ht hne)
              gi_wp2
              go_roundw
              case rel => exact ⟨k + 1, by omega, by go_num, HN2, HY⟩
              case measure => first | (simp [intOf]; done) | (simp [intOf]; omega)
          · obtain rfl : k = i := by omega
            gi_wp2
            go_roundw
            case rel => exact ⟨k + 1, by omega, by go_num, Lib.hid (HD.out.succ HN.out), HV⟩
            case measure => first | (simp [intOf]; done) | (simp [intOf]; omega)
      · obtain rfl : i = l.length := by omega
        gi_wp2
        refine ⟨trivial, (callsIn_wide.2 (chains_any _ l wr HW.out.tracks HOK.out (by omega))).mono ?_⟩
        rintro e w1 ⟨⟨Bb, Cb, Mb, xv, es, clk, V, g, rfl, hchi⟩, hb1⟩
        have HCH := Lib.hid hchi
        have H1 := Lib.hid (HW.out.here hb1)
        clear hchi hb1
        have hef := eql_fun2 39 #[.pointer (some ⟨Bb, 0, none⟩), .pointer (some ⟨Cb, 0, none⟩)]
        gi_wp2
        refine wpIn_rangeFunc_calm (gf := 39) (lb := #[.pointer (some ⟨Bb, 0, none⟩), .pointer (some ⟨Cb, 0, none⟩)]) rfl (enters_of Tryz.func39 (by kernel_rfl) rfl) (fun W v => ∃ c, Tracks W v c ∧ (∀ u ∈ c, u ∈ l) ∧ c.length ≤ 1000)
          (fun W v lr r o' hlr ⟨c, k1, k2, k3⟩ => ⟨c, k1.putLoop o' hlr, k2, k3⟩) (fun lr W hbW hy => chains1_in (HCH.out.here hbW) HOK.out (by omega) (fun m v c W1 hb k1 k2 k3 => hy m v W1 hb ⟨c, k1, k2, k3⟩) 2)
          (fun v => { tmps := #[(.slice A l.length cA), .int .i64 root, .pointer (some ⟨w.heap.size, 0, none⟩), undef, .pointer (some ⟨w.heap.size + 1, 0, none⟩), .int .i64 l.length, u6, (.func (.func 39) #[] #[.pointer (some ⟨Bb, 0, none⟩), .pointer (some ⟨Cb, 0, none⟩)]), v, undef, undef, undef, undef, undef, undef, undef, undef, undef, (.slice A l.length cA), .int .i64 l.length, .bool false, undef, .int .i64 l.length, (.slice A l.length cA), .int .i64 l.length, .bool false, u26, u27, u28, u29, u30, u31, u32, u33, u34, u35, u36, u37, u38, u39, u40, u41, u42, u43, u44, (.slice A l.length cA), (.func (.func 39) #[] #[.pointer (some ⟨Bb, 0, none⟩), .pointer (some ⟨Cb, 0, none⟩)]), (.func (.func 39) #[] #[.pointer (some ⟨Bb, 0, none⟩), .pointer (some ⟨Cb, 0, none⟩)]), .bool false, (.func (.func 39) #[] #[.pointer (some ⟨Bb, 0, none⟩), .pointer (some ⟨Cb, 0, none⟩)]), v, undef, undef, undef, undef, undef, undef, undef, undef, undef, undef, undef, undef, undef, undef, undef, undef, undef, undef, undef, undef, undef, undef, undef, undef, undef, undef, undef, undef, undef, undef, undef, undef, undef, undef, undef, undef, undef, undef, undef, undef, undef, undef, undef, undef, undef, undef, undef, undef, undef, undef, undef, undef, undef, undef, undef, undef, undef, undef, undef, undef, undef, undef, undef, undef, undef, undef, undef, undef, undef, undef, undef, undef, undef, undef, undef, undef, undef, undef, undef, undef, undef, undef, undef, undef, undef, undef, undef, undef, undef, undef, undef, undef], defers := [] }) ?assign ?body ?done
        case assign =>
          intro lr m v W K hK
          gi_wp2
          exact hK
        case body =>
          rintro lr m v W hbW ⟨c, hc, hcm, hcl⟩
          have HW1 := Lib.hid (H1.out.here hbW)
          have HC := Lib.hid hc
          have HCM := Lib.hid hcm
          obtain ⟨Ac, kc, rfl⟩ := tracks_val hc
          have e2 : W.cell? ⟨w.heap.size, 0, none⟩ = some (.slice A l.length cA) := HW1.out.box.cell 0
          clear hc hcm hbW
          gi_wp2
          refine ⟨trivial, (fun h => by cases h), CallsIn.inRound lr ((callsIn_wide.2 (often_any _ _ c l W HC.out HW1.out.tracks (by omega) (by omega) HIN.out)).mono ?_)⟩
          rintro e W2 ⟨⟨Mo, es2, clk2, rfl, hmo⟩, hb2⟩
          have HMO := Lib.hid hmo
          have HB2 := Lib.hid hb2
          have HW2 := Lib.hid (HW1.out.here hb2)
          clear hmo hb2
          gi_wp2
          gi_loopw [10] (fun z wr => ∃ n : Int, -1 ≤ n ∧ n ≤ 20 ∧ z = .int .i64 n ∧ Hid (Below W2.heap.size W2 wr)) (fun z _ => (20 - intOf z).toNat)
          case atStart => exact ⟨-1, by omega, by omega, rfl, Lib.hid (Below.refl _ _)⟩
          case round =>
            obtain ⟨n, hn1, hn2, rfl, HR⟩ := hrel
            by_cases hnt : n < 20
            · gi_wp2
              gi_loopw [11, 12] (fun q z wr => ∃ j : Nat, j ≤ c.length ∧ z = .int .i64 j ∧ q = .int .i64 (cntO l (c.take j) n) ∧ Hid (Below W2.heap.size W2 wr)) (fun _ z _ => c.length - (intOf z).toNat)
              case atStart => exact ⟨0, Nat.zero_le _, rfl, by simp [cntO], HR⟩
              case round =>
                obtain ⟨j, hj, rfl, rfl, HS⟩ := hrel
                by_cases hjt : j < c.length
                · obtain ⟨t, ht⟩ : ∃ t, c[j]? = some t := ⟨_, List.getElem?_eq_getElem hjt⟩
                  have HTT := Lib.hid ht
                  clear ht
                  gi_wp2
                  gi_loopw [11, 13] (fun q z wr => ∃ i : Nat, i ≤ l.length ∧ z = .int .i64 i ∧ q = .int .i64 ((cntO l (c.take j) n : Int) + inC l t n i) ∧ Hid (Below W2.heap.size W2 wr)) (fun _ z _ => l.length - (intOf z).toNat)
                  case atStart => exact ⟨0, Nat.zero_le _, rfl, by simp [inC], HS⟩
                  case round =>
                    obtain ⟨i, hi2, rfl, rfl, HU⟩ := hrel
                    have HWr := Lib.hid (HW2.out.here HU.out)
                    have e3 : wr.cell? ⟨w.heap.size, 0, none⟩ = some (.slice A l.length cA) := HWr.out.box.cell 0
                    by_cases hit : i < l.length
                    · obtain ⟨u, hu⟩ : ∃ u, l[i]? = some u := ⟨_, List.getElem?_eq_getElem hit⟩
                      have HWC := Lib.hid (HB2.out.trans (HU.out.mono HB2.out.size))
                      obtain ⟨b, off, rfl, hb, hqi⟩ := HWr.out.tracks.at hu
                      obtain ⟨bc, oc, rfl, hbc, hqj⟩ := (HC.out.here HWC.out).at HTT.out
                      obtain ⟨x0, -, x2, -⟩ := hqi
                      obtain ⟨y0, -⟩ := hqj
                      have hwl := HWr.out.box.lt
                      have hcl : (cntO l (c.take j) n : Int) ≤ 1000 := by
                        have := cntO_le l (c.take j) n
                        rw [List.length_take] at this; omega
                      have hil : (inC l t n i : Int) ≤ 40 := by have := inC_le l t n i; omega
                      have HHP : Hid (hitP l t n i = (decide (u.num = t.num) && (decide (u.node = n) && fwdP l i))) := Lib.hid (by unfold hitP; rw [hu])
                      have HF : Hid (∀ y : Ext wr, Calls Tryz.prog 10 #[.slice (some ⟨b, off, none⟩) l.length cA, .int .i64 i] y.w fun e w' => e = .returned (.bool (fwdP l i)) ∧ Below y.w.heap.size y.w w') := Lib.hid fun y => forwarded_any _ l i y.w (HWr.out.here y.below).tracks hit (by omega)
                      clear hu
                      by_cases hnm : u.num = t.num
                      · have q1 : (u.num == t.num) = true := by simp [hnm]
                        by_cases hnd : u.node = n
                        · have q2 : (u.node == n) = true := by simp [hnd]
                          cases hfw : fwdP l i with
                          | false =>
                            have HI : Hid (inC l t n (i + 1) = inC l t n i) := Lib.hid (by show inC l t n i + (if hitP l t n i then 1 else 0) = _; rw [HHP.out, hfw]; simp)
                            rw [hfw] at HF
                            gi_upto_region 27 with fail
                            refine wpIn_region_ext (by kernel_rfl) (by kernel_rfl) (by kernel_rfl) ?_
                            repeat (go_big_quiet_step (first | (go_at_call 10; exact Ext.call (HF.out _))))
                            refine wpQuiet_nil ?_
                            rintro _ ⟨y, rfl⟩
                            have HY := Lib.hid (HU.out.trans (y.below.mono HU.out.size))
                            gi_wp2
                            go_roundw
                            case rel => exact ⟨i + 1, by omega, by go_num, by rw [HI.out], HY⟩
                            case measure => first | (simp [intOf]; done) | (simp [intOf]; omega)
                          | true =>
                            have HI : Hid (inC l t n (i + 1) = inC l t n i + 1) := Lib.hid (by show inC l t n i + (if hitP l t n i then 1 else 0) = _; rw [HHP.out, hfw]; simp [hnm, hnd])
                            rw [hfw] at HF
                            gi_upto_region 27 with fail
                            refine wpIn_region_ext (by kernel_rfl) (by kernel_rfl) (by kernel_rfl) ?_
                            repeat (go_big_quiet_step (first | (go_at_call 10; exact Ext.call (HF.out _))))
                            refine wpQuiet_nil ?_
                            rintro _ ⟨y, rfl⟩
                            have HY := Lib.hid (HU.out.trans (y.below.mono HU.out.size))
                            gi_wp2
                            go_roundw
                            case rel => exact ⟨i + 1, by omega, by go_num, by rw [HI.out]; congr 1, HY⟩
                            case measure => first | (simp [intOf]; done) | (simp [intOf]; omega)
                        · have q2 : (u.node == n) = false := by simp [hnd]
                          have HI : Hid (inC l t n (i + 1) = inC l t n i) := Lib.hid (by show inC l t n i + (if hitP l t n i then 1 else 0) = _; rw [HHP.out]; simp [hnd])
                          gi_upto_region 27 with fail
                          refine wpIn_region_ext (by kernel_rfl) (by kernel_rfl) (by kernel_rfl) ?_
                          repeat (go_big_quiet_step (fail))
                          refine wpQuiet_nil ?_
                          rintro _ ⟨y, rfl⟩
                          have HY := Lib.hid (HU.out.trans (y.below.mono HU.out.size))
                          gi_wp2
                          go_roundw
                          case rel => exact ⟨i + 1, by omega, by go_num, by rw [HI.out], HY⟩
                          case measure => first | (simp [intOf]; done) | (simp [intOf]; omega)
                      · have q1 : (u.num == t.num) = false := by simp [hnm]
                        have HI : Hid (inC l t n (i + 1) = inC l t n i) := Lib.hid (by show inC l t n i + (if hitP l t n i then 1 else 0) = _; rw [HHP.out]; simp [hnm])
                        gi_upto_region 27 with fail
                        refine wpIn_region_ext (by kernel_rfl) (by kernel_rfl) (by kernel_rfl) ?_
                        repeat (go_big_quiet_step (fail))
                        refine wpQuiet_nil ?_
                        rintro _ ⟨y, rfl⟩
                        have HY := Lib.hid (HU.out.trans (y.below.mono HU.out.size))
                        gi_wp2
                        go_roundw
                        case rel => exact ⟨i + 1, by omega, by go_num, by rw [HI.out], HY⟩
                        case measure => first | (simp [intOf]; done) | (simp [intOf]; omega)
                    · obtain rfl : i = l.length := by omega
                      have HI := Lib.hid (cntO_step HD.out HTT.out n)
                      gi_wp2
                      go_roundw
                      case rel => exact ⟨j + 1, by omega, by go_num, by rw [← HI.out]; first | rfl | (congr 1; omega), HU⟩
                      case measure => first | (simp [intOf]; done) | (simp [intOf]; omega)
                · obtain rfl : j = c.length := by omega
                  rw [List.take_length]
                  obtain ⟨kl, hkl⟩ := key_int (a := n) ⟨by omega, by omega⟩
                  have hlk := (HMO.out.here HS.out).look kInt Tryz.underlying31 n hkl (zero_int _) false
                  rw [fO_get] at hlk
                  simp only [Bool.false_eq_true, if_false] at hlk
                  gi_wp2
                  go_roundw
                  case rel => exact ⟨n + 1, by omega, by omega, by go_num, HS⟩
                  case measure => first | (simp [intOf]; done) | (simp [intOf]; omega)
            · obtain rfl : n = 20 := by omega
              gi_wp2
              exact HB2.out.trans (HR.out.mono HB2.out.size)
        case done =>
          intro D W hDl hbW hD
          have HW1 := Lib.hid (H1.out.here hbW)
          have HDF := Lib.hid hD
          clear hD hbW
          gi_wp2
          gi_loopw [14, 15] (fun q z wr => ∃ i : Nat, i ≤ l.length ∧ z = .int .i64 i ∧ q = .int .i64 (cntD l root i) ∧ Hid (Below W.heap.size W wr)) (fun _ z _ => l.length - (intOf z).toNat)
          case atStart => exact ⟨0, Nat.zero_le _, rfl, rfl, Lib.hid (Below.refl _ _)⟩
          case round =>
            obtain ⟨i, hi2, rfl, rfl, HR⟩ := hrel
            have e3 : wr.cell? ⟨w.heap.size, 0, none⟩ = some (.slice A l.length cA) := (HW1.out.here HR.out).box.cell 0
            by_cases hit : i < l.length
            · obtain ⟨u0, hu0⟩ : ∃ u, l[i]? = some u := ⟨_, List.getElem?_eq_getElem hit⟩
              have HU0 := Lib.hid hu0
              have hcd : (cntD l root i : Int) ≤ 40 := by have := cntD_le l root i; omega
              clear hu0
              gi_wp2
              gi_loopw [16, 17] (fun bl z wr => ∃ b : Bool, bl = .bool b ∧ ((z = .int .i64 (-1) ∧ upA l root i = b) ∨ ∃ kn : Nat, z = .int .i64 kn ∧ kn ≤ i ∧ upA l root i = (b || upA l root kn)) ∧ Hid (Below W.heap.size W wr)) (fun _ z _ => (intOf z + 1).toNat)
              case atStart => exact ⟨false, rfl, .inr ⟨i, rfl, Nat.le_refl _, rfl⟩, HR⟩
              case round =>
                obtain ⟨bb, rfl, hz, HS⟩ := hrel
                have e4 : wr.cell? ⟨w.heap.size, 0, none⟩ = some (.slice A l.length cA) := (HW1.out.here HS.out).box.cell 0
                rcases hz with ⟨rfl, HUP⟩ | ⟨kn, rfl, hkn, hup⟩
                · cases bb with
                  | false =>
                    have HI : Hid (cntD l root (i + 1) = cntD l root i) := Lib.hid (by show cntD l root i + (if dblAt l root i then 1 else 0) = _; unfold dblAt; rw [HUP]; simp)
                    gi_wp2
                    go_roundw
                    case rel => exact ⟨i + 1, by omega, by go_num, by rw [HI.out], HS⟩
                    case measure => first | (simp [intOf]; done) | (simp [intOf]; omega)
                  | true =>
                    obtain ⟨b, off, rfl, hb, hq0⟩ := (HW1.out.here HS.out).tracks.at HU0.out
                    obtain ⟨-, -, -, -, -, -, -, x7, -⟩ := hq0
                    cases hdb : u0.dbl with
                    | false =>
                      have HI : Hid (cntD l root (i + 1) = cntD l root i) := Lib.hid (by show cntD l root i + (if dblAt l root i then 1 else 0) = _; unfold dblAt; rw [HUP, HU0.out]; simp [hdb])
                      rw [hdb] at x7
                      gi_wp2
                      go_roundw
                      case rel => exact ⟨i + 1, by omega, by go_num, by rw [HI.out], HS⟩
                      case measure => first | (simp [intOf]; done) | (simp [intOf]; omega)
                    | true =>
                      have HI : Hid (cntD l root (i + 1) = cntD l root i + 1) := Lib.hid (by show cntD l root i + (if dblAt l root i then 1 else 0) = _; unfold dblAt; rw [HUP, HU0.out]; simp [hdb])
                      rw [hdb] at x7
                      gi_wp2
                      go_roundw
                      case rel => exact ⟨i + 1, by omega, by go_num, by rw [HI.out]; congr 1, HS⟩
                      case measure => first | (simp [intOf]; done) | (simp [intOf]; omega)
                · cases bb with
                  | true =>
                    have HUP : upA l root i = true := by rw [hup]; rfl
                    obtain ⟨b, off, rfl, hb, hq0⟩ := (HW1.out.here HS.out).tracks.at HU0.out
                    obtain ⟨-, -, -, -, -, -, -, x7, -⟩ := hq0
                    cases hdb : u0.dbl with
                    | false =>
                      have HI : Hid (cntD l root (i + 1) = cntD l root i) := Lib.hid (by show cntD l root i + (if dblAt l root i then 1 else 0) = _; unfold dblAt; rw [HUP, HU0.out]; simp [hdb])
                      rw [hdb] at x7
                      gi_wp2
                      go_roundw
                      case rel => exact ⟨i + 1, by omega, by go_num, by rw [HI.out], HS⟩
                      case measure => first | (simp [intOf]; done) | (simp [intOf]; omega)
                    | true =>
                      have HI : Hid (cntD l root (i + 1) = cntD l root i + 1) := Lib.hid (by show cntD l root i + (if dblAt l root i then 1 else 0) = _; unfold dblAt; rw [HUP, HU0.out]; simp [hdb])
                      rw [hdb] at x7
                      gi_wp2
                      go_roundw
                      case rel => exact ⟨i + 1, by omega, by go_num, by rw [HI.out]; congr 1, HS⟩
                      case measure => first | (simp [intOf]; done) | (simp [intOf]; omega)
                  | false =>
                    have HUP : Hid (upA l root i = upA l root kn) := Lib.hid (by rw [hup]; rfl)
                    obtain ⟨u, hu⟩ : ∃ u, l[kn]? = some u := ⟨_, List.getElem?_eq_getElem (by omega)⟩
                    have HU := Lib.hid hu
                    obtain ⟨b, off, rfl, hb, hq0⟩ := (HW1.out.here HS.out).tracks.at hu
                    obtain ⟨x0, -⟩ := hq0
                    have hkl : kn < l.length := by omega
                    have HLP := Lib.hid (lparent_any _ l kn wr (HW1.out.here HS.out).tracks hkl (by omega))
                    obtain ⟨hp1, hp2⟩ := parP_lt l kn
                    clear hup hu
                    gi_wp2
                    refine ⟨trivial, (callsIn_wide.2 HLP.out).mono ?_⟩
                    rintro e w3 ⟨rfl, hb3⟩
                    have HS3 := Lib.hid (HS.out.trans (hb3.mono HS.out.size))
                    clear hb3
                    gi_wp2
                    go_roundw
                    case rel =>
                      refine ⟨_, rfl, ?_, HS3⟩
                      by_cases hneg : parP l kn < 0
                      · have hx : parP l kn = -1 := by omega
                        refine .inl ⟨by rw [hx], ?_⟩
                        rw [HUP.out]
                        by_cases hn : u.num = root
                        · rw [upA_hit HU.out hn]; simp [hn]
                        · rw [upA_end HU.out hn hneg]; simp [hn]
                      · refine .inr ⟨(parP l kn).toNat, by rw [Int.toNat_of_nonneg (by omega)], by omega, ?_⟩
                        rw [HUP.out]
                        by_cases hn : u.num = root
                        · rw [upA_hit HU.out hn]; simp [hn]
                        · rw [upA_next (p := (parP l kn).toNat) HU.out hn (by omega)]; simp [hn]
                    case measure => first | (simp [intOf]; done) | (simp [intOf]; omega)
            · obtain rfl : i = l.length := by omega
              gi_wp2
              refine ⟨trivial, (callsIn_wide.2 (doubles_any _ l root wr (HW1.out.here HR.out).tracks (by omega))).mono ?_⟩
              rintro e w3 ⟨rfl, hb3⟩
              have HR3 := Lib.hid (HR.out.trans (hb3.mono HR.out.size))
              clear hb3
              gi_wp2
              refine ⟨trivial, (callsIn_wide.2 (HK.out w3)).mono ?_⟩
              rintro e w4 ⟨rfl, hb4⟩
              have HR4 := Lib.hid (HR3.out.trans (hb4.mono HR3.out.size))
              clear hb4
              have H4 := Lib.hid (HW1.out.here HR4.out)
              have hD4 : w4.heap[D]? = some (.deferred (some [])) := (HR4.out.block D (Array.getElem?_eq_some_iff.1 HDF.out).1).trans HDF.out
              have d1 : w4.cell? ⟨w.heap.size + 1, 0, none⟩ = some (.bool false) := H4.out.res.cell 0
              have g1 : w4.frozen? ⟨w.heap.size + 1, 0, none⟩ = false := H4.out.res.frozen 0
              gi_wp2
              have hne : D ≠ w.heap.size + 1 := fun e => by
                have h1 := H4.out.res.is
                rw [← e, hD4] at h1; cases h1
              have hdl : w.heap.size ≤ D := Nat.le_trans H1.out.below.size hDl
              have hk2 : (w4.setCell ⟨w.heap.size + 1, 0, none⟩ (.bool true)).heap[D]? = some (.deferred (some [])) := (Below.heap_setCell _ _ _ _ hne).trans hD4
              refine ⟨by simp, .inl ⟨_, _, rfl, run_takeDeferred hk2, ?_⟩⟩
              have hr2 := H4.out.res.set 0 (.bool true)
              have HB := H4.out.below.setCell (p := ⟨w.heap.size + 1, 0, none⟩) (by simp) (.bool true)
              have q1 := (hr2.kept (grownBy_putObj' _ D (.deferred none)) (fun e => hne (Option.some.inj e).symm)).cell 0
              simp at q1
              refine ⟨.bool true, by simp [results, Tryz.results3, go_sem, q1], rfl, below_putObj _ HB hdl (by have := H4.out.below.size; simpa [World.setCell] using this)⟩
end Go.Proofs.YtfnjojdiiklleaaGreat
