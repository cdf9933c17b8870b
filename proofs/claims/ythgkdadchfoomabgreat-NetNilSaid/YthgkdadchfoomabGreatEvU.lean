/- A run of a program on abstract memory: operations on maps. -/
import Derived.Test.YthgkdadchfoomabGreatEvT
namespace Go.Proofs.YthgkdadchfoomabGreat.Ev
section
variable {P : Program} {ρ : Rho} {S : AS} {w : World}

/-! ### Entries -/
theorem findA_ok {eq : AV → AV → Option Bool} {k : AV} : ∀ {es : List Ent} {q : Option Ent}, findA eq k es = some q → (∀ x ∈ es, ∃ b, eq k x.key = some b) ∧
    (match q with | none => ∀ x ∈ es, eq k x.key = some false | some x => x ∈ es ∧ eq k x.key = some true)
  | [], q, h => by
    have : q = none := (Option.some.inj h).symm
    subst this; exact ⟨fun x hx => (by cases hx), fun x hx => (by cases hx)⟩
  | x :: es, q, h => by
    have h' : cO (eq k x.key) none (fun b => cO (findA eq k es) none fun q => cB b (some (some x)) (some q)) = some q := h
    obtain ⟨b, h1, h2⟩ := cO_some' h'
    obtain ⟨q', h3, h4⟩ := cO_some' h2
    obtain ⟨i1, i2⟩ := findA_ok h3
    have hall : ∀ y ∈ x :: es, ∃ b, eq k y.key = some b := fun y hy => by
      rcases List.mem_cons.1 hy with rfl | hy
      · exact ⟨b, h1⟩
      · exact i1 y hy
    refine ⟨hall, ?_⟩
    cases b with
    | true => cases h4; exact ⟨by simp, h1⟩
    | false =>
      cases h4
      cases q with
      | none =>
        intro y hy
        rcases List.mem_cons.1 hy with rfl | hy
        · exact h1
        · exact i2 y hy
      | some y => exact ⟨by simp [i2.1], i2.2⟩
theorem insA_split (k v : AV) (i : Nam) : ∀ (es : List Ent), ∃ A B, es = A ++ B ∧ insA k v i es = A ++ ⟨k, v, i⟩ :: B
  | [] => ⟨[], [], rfl, rfl⟩
  | x :: es => by
    have h : insA k v i (x :: es) = cB (ltK k x.key) (⟨k, v, i⟩ :: x :: es) (x :: insA k v i es) := rfl
    cases c : ltK k x.key with
    | true => rw [c] at h; exact ⟨[], x :: es, rfl, h⟩
    | false =>
      rw [c] at h
      obtain ⟨A, B, h1, h2⟩ := insA_split k v i es
      refine ⟨x :: A, B, by rw [h1]; rfl, ?_⟩
      rw [h]
      show x :: insA k v i es = _
      rw [h2]; rfl
theorem setSA_split {i : Nam} {v : AV} : ∀ {es es' : List Ent}, setSA i v es = some es' → ∃ A x B, es = A ++ x :: B ∧ x.id.n = i.n ∧ es' = A ++ ⟨x.key, v, x.id⟩ :: B
  | [], es', h => by cases h
  | x :: es, es', h => by
    have h' : cB (Nat.beq x.id.n i.n) (some (⟨x.key, v, x.id⟩ :: es)) (cO (setSA i v es) none fun q => some (x :: q)) = some es' := h
    cases c : Nat.beq x.id.n i.n with
    | true => rw [c] at h'; rw [Nat.beq_eq] at c; cases h'; exact ⟨[], x, es, rfl, c, rfl⟩
    | false =>
      rw [c] at h'
      have h'' : cO (setSA i v es) none (fun q => some (x :: q)) = some es' := h'
      obtain ⟨q, h1, h2⟩ := cO_some' h''
      cases h2
      obtain ⟨A, y, B, e1, e2, e3⟩ := setSA_split h1
      exact ⟨x :: A, y, B, by rw [e1]; rfl, e2, by rw [e3]; rfl⟩
theorem delA_split {i : Nam} : ∀ {es es' : List Ent}, delA i es = some es' → ∃ A x B, es = A ++ x :: B ∧ x.id.n = i.n ∧ es' = A ++ B
  | [], es', h => by cases h
  | x :: es, es', h => by
    have h' : cB (Nat.beq x.id.n i.n) (some es) (cO (delA i es) none fun q => some (x :: q)) = some es' := h
    cases c : Nat.beq x.id.n i.n with
    | true => rw [c] at h'; rw [Nat.beq_eq] at c; cases h'; exact ⟨[], x, es, rfl, c, rfl⟩
    | false =>
      rw [c] at h'
      have h'' : cO (delA i es) none (fun q => some (x :: q)) = some es' := h'
      obtain ⟨q, h1, h2⟩ := cO_some' h''
      cases h2
      obtain ⟨A, y, B, e1, e2, e3⟩ := delA_split h1
      exact ⟨x :: A, y, B, by rw [e1]; rfl, e2, by rw [e3]; rfl⟩
theorem byId_some {i : Nam} : ∀ {es : List Ent} {x : Ent}, byId i es = some x → x ∈ es ∧ x.id.n = i.n
  | [], x, h => by cases h
  | y :: es, x, h => by
    have h' : cB (Nat.beq y.id.n i.n) (some y) (byId i es) = some x := h
    cases c : Nat.beq y.id.n i.n with
    | true => rw [c] at h'; rw [Nat.beq_eq] at c; cases h'; exact ⟨by simp, c⟩
    | false => rw [c] at h'; obtain ⟨h1, h2⟩ := byId_some h'; exact ⟨by simp [h1], h2⟩
theorem All2.append {α β : Type} {R : α → β → Prop} : ∀ {a b : List α} {m : List β}, All2 R (a ++ b) m → ∃ m1 m2, m = m1 ++ m2 ∧ All2 R a m1 ∧ All2 R b m2
  | [], b, m, h => ⟨[], m, rfl, .nil, h⟩
  | x :: a, b, m, h => by
    cases h with
    | cons h t =>
      obtain ⟨m1, m2, rfl, h1, h2⟩ := All2.append t
      exact ⟨_ :: m1, m2, rfl, .cons h h1, h2⟩
theorem All2.join {α β : Type} {R : α → β → Prop} {a b : List α} {m1 m2 : List β} (h1 : All2 R a m1) (h2 : All2 R b m2) : All2 R (a ++ b) (m1 ++ m2) := by
  induction h1 with
  | nil => exact h2
  | cons h _ ih => exact .cons h ih
theorem All2.mem {α β : Type} {R : α → β → Prop} {a : List α} {m : List β} (h : All2 R a m) {x : α} (hx : x ∈ a) : ∃ y, y ∈ m ∧ R x y := by
  induction h with
  | nil => cases hx
  | cons h _ ih =>
    rcases List.mem_cons.1 hx with rfl | hx
    · exact ⟨_, by simp, h⟩
    · obtain ⟨y, h1, h2⟩ := ih hx; exact ⟨y, by simp [h1], h2⟩
theorem All2.mem' {α β : Type} {R : α → β → Prop} {a : List α} {m : List β} (h : All2 R a m) {y : β} (hy : y ∈ m) : ∃ x, x ∈ a ∧ R x y := by
  induction h with
  | nil => cases hy
  | cons h _ ih =>
    rcases List.mem_cons.1 hy with rfl | hy
    · exact ⟨_, by simp, h⟩
    · obtain ⟨x, h1, h2⟩ := ih hy; exact ⟨x, by simp [h1], h2⟩
theorem nodup_inj {α β : Type} {f : α → β} : ∀ {l : List α}, (l.map f).Nodup → ∀ {a b : α}, a ∈ l → b ∈ l → f a = f b → a = b
  | [], _, a, b, ha, _, _ => by cases ha
  | x :: l, h, a, b, ha, hb, e => by
    rw [List.map_cons, List.nodup_cons] at h
    rcases List.mem_cons.1 ha with ha1 | ha1 <;> rcases List.mem_cons.1 hb with hb1 | hb1
    · rw [ha1, hb1]
    · exact absurd (by rw [← ha1, e]; exact List.mem_map_of_mem hb1) h.1
    · exact absurd (by rw [← hb1, ← e]; exact List.mem_map_of_mem ha1) h.1
    · exact nodup_inj h.2 ha1 hb1 e
theorem modify_split {α : Type} (f : α → α) (e : α) (l2 : List α) : ∀ l1 : List α, (l1 ++ e :: l2).modify l1.length f = l1 ++ f e :: l2
  | [] => by simp
  | a :: l1 => by simp [modify_split f e l2 l1]
theorem eraseIdx_split {α : Type} (e : α) (l2 : List α) : ∀ l1 : List α, (l1 ++ e :: l2).eraseIdx l1.length = l1 ++ l2
  | [] => by simp
  | a :: l1 => by simp [eraseIdx_split e l2 l1]
/-- A map's block. -/
theorem map_of (hs : Sat P ρ S w) {b : Nam} {es : List Ent} {clk : Nat} (ho : S.at b.p = .map es clk) {g off cap : Nat} (hb : look ρ b = some (.blk g off cap)) : ∃ l, w.heap[g]? = some (.map l clk) ∧ relM ρ g es clk l.toList := by
  have := hs.obj b.p
  rw [ho] at this
  obtain ⟨g', off', cap', l, h1, h2, h3⟩ := this
  rw [look_path hb] at h1
  cases h1
  exact ⟨l, h2, h3⟩
theorem run_getMap {g : Nat} {l : Array MapEntry} {c : Nat} (h : w.heap[g]? = some (.map l c)) : (getObj g).run P w = .ok (.map l c) w := by simp only [getObj, Sem.run, h]
theorem run_setMap {g : Nat} {l : Array MapEntry} {c : Nat} (h : w.heap[g]? = some (.map l c)) (o : Obj) : (setObj g o).run P w = .ok () { w with heap := w.heap.setIfInBounds g o } := by simp only [setObj, Sem.run, h]
/-- A map is written. -/
theorem Sat.setMap (hs : Sat P ρ S w) {ρ' : Rho} {S' : AS} {b : Nam} {es es' : List Ent} {clk clk' : Nat} {g off cap : Nat} {l l' : Array MapEntry} (ho : S.at b.p = .map es clk) (hb : look ρ b = some (.blk g off cap)) (hl : w.heap[g]? = some (.map l clk))
    (hle : Le ρ ρ') (hnew : ∀ p t, ρ' p = some t → ρ p = some t ∨ (S.at p = .free ∧ S'.at p = .dead ∧ ∃ k, t = .stp g k ∧ ∀ q, ρ' q = some (.stp g k) → q = p))
    (hS : ∀ p, p ≠ b.p → S'.at p = S.at p ∨ (S.at p = .free ∧ S'.at p = .dead ∧ ∃ t, ρ' p = some t)) (hSb : S'.at b.p = .map es' clk') (htr : Tr S S') (hrel : relM ρ' g es' clk' l'.toList) (hclk : ∀ p k, ρ' p = some (.stp g k) → k < clk') :
    Sat P ρ' S' { w with heap := w.heap.setIfInBounds g (.map l' clk') } ∧ Ext ρ S w ρ' S' { w with heap := w.heap.setIfInBounds g (.map l' clk') } := by
  have hlt : g < w.heap.size := (Array.getElem?_eq_some_iff.1 hl).1
  have h1 : (w.heap.setIfInBounds g (.map l' clk'))[g]? = some (.map l' clk') := by rw [Array.getElem?_setIfInBounds_self_of_lt hlt]
  refine hs.upd (w' := { w with heap := w.heap.setIfInBounds g (.map l' clk') }) (look_path hb) (by rw [ho]; exact trivial) (by rw [hSb]; exact trivial) hle hnew hS htr ?_ (by simp) (fun g' hg => Array.getElem?_setIfInBounds_ne (Ne.symm hg)) ?_ rfl rfl rfl
  · rw [hSb]; exact ⟨g, off, cap, l', hle _ _ (look_path hb), h1, hrel⟩
  · intro es2 c hc p k hp
    rw [h1] at hc; cases hc
    exact hclk p k hp
theorem relM.vals {g clk : Nat} {es : List Ent} {l : List MapEntry} (h : relM ρ g es clk l) {x : Ent} (hx : x ∈ es) : ∃ e, e ∈ l ∧ relE ρ g x e := by
  obtain ⟨m, h1, h2⟩ := h.perm
  obtain ⟨e, h3, h4⟩ := h1.mem hx
  exact ⟨e, h2.mem_iff.1 h3, h4⟩
theorem relM.ents {g clk : Nat} {es : List Ent} {l : List MapEntry} (h : relM ρ g es clk l) {e : MapEntry} (he : e ∈ l) : ∃ x, x ∈ es ∧ relE ρ g x e := by
  obtain ⟨m, h1, h2⟩ := h.perm
  exact h1.mem' (h2.mem_iff.2 he)
/-- What is found in both. -/
theorem found_both {kt : TypeId} {eq : AV → AV → Option Bool} {k : AV} {uk : Value} (K : KeyLaw P ρ w kt eq k uk) {g clk : Nat} {es : List Ent} {l : List MapEntry} (h : relM ρ g es clk l) {q : Option Ent} (hq : findA eq k es = some q) :
    (q = none ∧ (∀ e ∈ l, e.key ≠ uk) ∧ (Instr.findKey kt uk l).run P w = .ok none w) ∨
      ∃ x l1 e l2, q = some x ∧ x ∈ es ∧ eq k x.key = some true ∧ l = l1 ++ e :: l2 ∧ e.key = uk ∧ relE ρ g x e ∧ (Instr.findKey kt uk l).run P w = .ok (some (l1.length, e.val)) w := by
  obtain ⟨h1, h2⟩ := findA_ok hq
  have hall : ∀ e ∈ l, ∃ y b, conc ρ y = some e.key ∧ eq k y = some b := fun e he => by
    obtain ⟨x, hx, hr⟩ := h.ents he
    obtain ⟨b, hb⟩ := h1 x hx
    exact ⟨x.key, b, hr.key, hb⟩
  cases q with
  | none =>
    have hne : ∀ e ∈ l, e.key ≠ uk := fun e he e1 => by
      obtain ⟨x, hx, hr⟩ := h.ents he
      have := (K.same (h2 x hx) hr.key).2 e1.symm
      cases this
    rcases K.find l hall with ⟨l1, e, l2, rfl, h3, _⟩ | ⟨_, h4⟩
    · exact absurd h3 (hne e (by simp))
    · exact .inl ⟨rfl, hne, h4⟩
  | some x =>
    obtain ⟨h3, h4⟩ := h2
    obtain ⟨e0, he0, hr⟩ := h.vals h3
    have hk0 := (K.same h4 hr.key).1 rfl
    rcases K.find l hall with ⟨l1, e, l2, rfl, h5, h6⟩ | ⟨h5, _⟩
    · have : e = e0 := nodup_inj h.keys (by simp) he0 (by rw [h5, hk0])
      subst this
      exact .inr ⟨x, l1, e, l2, rfl, h3, h4, rfl, h5, hr, h6⟩
    · exact absurd hk0.symm (h5 e0 he0)
theorem lookup_ok (hs : Sat P ρ S w) {ty : TypeId} {two : Bool} {m k : AV} {um uk : Value} (hm : conc ρ m = some um) (hk : conc ρ k = some uk) : AN.okV P ρ S w ((Instr.lookup ty um uk two).run P w) ((lookupA P ty two).f m k S) := by
  unfold lookupA
  split
  · rename_i kt e hu
    split
    · rename_i eq ok z hkk hz
      refine cB_ok (fun hok => ?_) fun _ => trivial
      have K := key_law (w := w) hkk hok hk
      obtain ⟨uz, hzr, hzc⟩ := zero_run hz (ρ := ρ)
      have fin : ∀ {v : AV} {u : Value} {bb : Bool} {r : Result Value}, conc ρ v = some u → r = .ok (if two then .tuple #[u, .bool bb] else u) w → AN.okV P ρ S w r (.get (cB two (.tuple [v, .bool bb]) v)) := fun {v u bb r} hv hr => by
        subst hr
        cases two with
        | true => exact ⟨.tuple #[u, .bool bb], by show conc ρ (.tuple [v, .bool bb]) = _; simp [conc, concs, hv], rfl⟩
        | false => exact ⟨u, hv, rfl⟩
      refine vMap_ok trivial (fun e => ?_) fun b e => ?_
      · subst e
        cases conc_nilm hm
        refine fin hzc ?_
        have h1 : (Instr.findKey kt uk []).run P w = .ok none w := by
          rcases K.find [] (fun e he => by cases he) with ⟨l1, e, l2, h, _⟩ | ⟨_, h⟩
          · simp at h
          · exact h
        simp [Instr.lookup, run_underlying hu, K.check, h1, hzr]
      · subst e
        refine oMap_ok trivial fun es clk ho => ?_
        rw [getA_eq] at ho
        obtain ⟨g, off, cap, hb, rfl⟩ := conc_map hm
        obtain ⟨l, hl, hr⟩ := map_of hs ho hb
        refine cO_ok trivial fun q hq => ?_
        rcases found_both K hr hq with ⟨rfl, _, h1⟩ | ⟨x, l1, e, l2, rfl, _, _, h2, _, h3, h1⟩
        · refine fin hzc ?_
          simp [Instr.lookup, run_underlying hu, run_getMap hl, K.check, h1, hzr]
        · refine fin h3.val ?_
          simp [Instr.lookup, run_underlying hu, run_getMap hl, K.check, h1]
    · exact trivial
  · exact trivial
theorem relM.set {g clk : Nat} {es es' : List Ent} {l1 l2 : List MapEntry} {e : MapEntry} (h : relM ρ g es clk (l1 ++ e :: l2)) {x : Ent} (hx : x ∈ es) (hr : relE ρ g x e) {v : AV} {uv : Value} (hv : conc ρ v = some uv)
    (hset : setSA x.id v es = some es') : relM ρ g es' clk (l1 ++ { e with val := uv } :: l2) := by
  obtain ⟨A, y, B, rfl, e2, rfl⟩ := setSA_split hset
  obtain ⟨m, h1, h2⟩ := h.perm
  obtain ⟨mA, mB', rfl, hA, hB'⟩ := All2.append h1
  cases hB' with
  | @cons _ ey _ mB hy hB =>
  have hxy : y.id = x.id := nam_eq hy.id hr.id e2
  have hborn : ey.born = e.born := by
    have h3 := hy.id
    rw [hxy, hr.id] at h3
    exact (Tgt.stp.inj (Option.some.inj h3)).2.symm
  have hmem : ey ∈ l1 ++ e :: l2 := h2.mem_iff.1 (by simp)
  have : ey = e := nodup_inj h.born hmem (by simp) hborn
  subst this
  refine ⟨⟨mA ++ { ey with val := uv } :: mB, All2.join hA (.cons ⟨hy.key, hv, hy.id⟩ hB), ?_⟩, ?_, ?_, ?_⟩
  · have p1 : (ey :: (mA ++ mB)).Perm (ey :: (l1 ++ l2)) := (List.perm_middle.symm.trans h2).trans List.perm_middle
    have p2 := (List.perm_cons ey).1 p1
    exact (List.perm_middle.trans ((List.perm_cons _).2 p2)).trans List.perm_middle.symm
  · have := h.born; simpa using this
  · intro e' he'
    rcases List.mem_append.1 he' with he' | he'
    · exact h.below e' (by simp [he'])
    · rcases List.mem_cons.1 he' with rfl | he'
      · exact h.below ey (by simp)
      · exact h.below e' (by simp [he'])
  · have := h.keys; simpa using this
theorem mapPut_ok (hs : Sat P ρ S w) {ty : TypeId} {m k v : AV} {um uk uv : Value} (hm : conc ρ m = some um) (hk : conc ρ k = some uk) (hv : conc ρ v = some uv) :
    AN.okU P ρ S w ((Instr.mapUpdate ty um uk uv).run P w) ((mapPutA P ty).f m k v S) := by
  unfold mapPutA
  split
  · rename_i kt e hu
    split
    · rename_i eq ok hkk
      refine cB_ok (fun hok => ?_) fun _ => trivial
      have K := key_law (w := w) hkk hok hk
      refine vMap_ok trivial (fun _ => trivial) fun b e => ?_
      subst e
      refine oMap_ok trivial fun es clk ho => ?_
      rw [getA_eq] at ho
      obtain ⟨g, off, cap, hb, rfl⟩ := conc_map hm
      obtain ⟨l, hl, hr⟩ := map_of hs ho hb
      refine cO_ok trivial fun q hq => ?_
      rcases found_both K hr hq with ⟨rfl, hne, h1⟩ | ⟨x, l1, e, l2, rfl, hx, hxe, h2, hek, h3, h1⟩
      · simp only [cO_none]
        refine newA_okQ trivial fun i hi hf => ?_
        have hib : i.p ≠ b.p := fun e => by rw [e, ho] at hf; cases hf
        have hn : ρ i.p = none := by have := hs.obj i.p; rw [hf] at this; exact this
        have hle : Le ρ (ρ.set i.p (.stp g clk)) := Rho.set_le hn
        have hat1 : ∀ p, (AS.at ⟨hput S.top i.p .dead, S.lay, logA S i, Nat.add S.next 1⟩ p) = if p = i.p then .dead else S.at p := at_put (by intro e; cases e) rfl
        have hat : ∀ p, (putA ⟨hput S.top i.p .dead, S.lay, logA S i, Nat.add S.next 1⟩ b (.map (insA k v i es) (Nat.add clk 1))).at p = if p = b.p then .map (insA k v i es) (clk + 1) else if p = i.p then .dead else S.at p := fun p => by
          rw [at_putA (by intro e; cases e), hat1]
        obtain ⟨A, B, hes, hins⟩ := insA_split k v i es
        have hnewE : relE (ρ.set i.p (.stp g clk)) g ⟨k, v, i⟩ { key := uk, val := uv, born := clk } := ⟨conc_mono hle _ hk, conc_mono hle _ hv, look_set hi _⟩
        have hrel : relM (ρ.set i.p (.stp g clk)) g (insA k v i es) (clk + 1) (l.push { key := uk, val := uv, born := clk }).toList := by
          have hr' := hr.mono hle
          obtain ⟨mm, q1, q2⟩ := hr'.perm
          rw [hes] at q1
          obtain ⟨mA, mB, rfl, hA, hB⟩ := All2.append q1
          rw [Array.toList_push, hins]
          refine ⟨⟨mA ++ { key := uk, val := uv, born := clk } :: mB, All2.join hA (.cons hnewE hB), ?_⟩, ?_, ?_, ?_⟩
          · exact (List.perm_middle.trans ((List.perm_cons _).2 q2)).trans (List.perm_append_singleton _ _).symm
          · rw [List.map_append, List.nodup_append]
            refine ⟨hr.born, by simp, fun a ha c hc e => ?_⟩
            obtain ⟨e', he', rfl⟩ := List.mem_map.1 ha
            simp at hc
            have := hr.below e' he'
            omega
          · intro e' he'
            rcases List.mem_append.1 he' with he' | he'
            · have := hr.below e' he'; omega
            · simp at he'; subst he'; exact Nat.lt_succ_self _
          · rw [List.map_append, List.nodup_append]
            refine ⟨hr.keys, by simp, fun a ha c hc e => ?_⟩
            obtain ⟨e', he', rfl⟩ := List.mem_map.1 ha
            simp at hc
            exact hne e' he' (by rw [e, hc])
        obtain ⟨c1, c2⟩ := hs.setMap (S' := putA ⟨hput S.top i.p .dead, S.lay, logA S i, Nat.add S.next 1⟩ b (.map (insA k v i es) (Nat.add clk 1))) ho hb hl hle (fun p t hp => by
            by_cases e : p = i.p
            · subst e
              rw [Rho.set_same] at hp
              cases hp
              refine .inr ⟨hf, by rw [hat, if_neg hib, if_pos rfl], clk, rfl, fun q hq => ?_⟩
              by_cases e2 : q = i.p
              · exact e2
              · rw [Rho.set_other _ _ e2] at hq
                have := (hs.stp _ _ _ hq).2 _ _ hl
                omega
            · rw [Rho.set_other _ _ e] at hp; exact .inl hp)
          (fun p hp => by
            by_cases e : p = i.p
            · subst e; exact .inr ⟨hf, by rw [hat, if_neg hib, if_pos rfl], _, Rho.set_same _ _ _⟩
            · exact .inl (by rw [hat, if_neg hp, if_neg e]))
          (by rw [hat, if_pos rfl]) ((Tr.put rfl).trans (Tr.put rfl)) hrel (fun p kk hp => by
            by_cases e : p = i.p
            · subst e; rw [Rho.set_same] at hp; cases hp; exact Nat.lt_succ_self _
            · rw [Rho.set_other _ _ e] at hp
              have := (hs.stp _ _ _ hp).2 _ _ hl
              omega)
        refine ⟨rfl, _, _, ?_, c2, c1⟩
        simp [Instr.mapUpdate, run_underlying hu, run_getMap hl, K.check, h1, run_setMap hl]
      · simp only [cO_some]
        refine cO_ok trivial fun es' hset => ?_
        rw [h2] at hr
        have hrel := hr.set hx h3 hv hset
        have harr : (l.modify l1.length fun e => { e with key := uk, val := uv }).toList = l1 ++ { e with val := uv } :: l2 := by
          rw [Array.toList_modify, h2, modify_split]
          subst hek; rfl
        have hat : ∀ p, (putA S b (.map es' clk)).at p = if p = b.p then .map es' clk else S.at p := at_putA (by intro e; cases e)
        obtain ⟨c1, c2⟩ := hs.setMap (S' := putA S b (.map es' clk)) (l' := l.modify l1.length fun e => { e with key := uk, val := uv }) ho hb hl (Le.refl _) (fun p t hp => .inl hp) (fun p hp => .inl (by rw [hat, if_neg hp])) (by rw [hat, if_pos rfl]) (Tr.put rfl)
          (by rw [harr]; exact hrel) (fun p kk hp => (hs.stp _ _ _ hp).2 _ _ hl)
        refine ⟨rfl, _, _, ?_, c2, c1⟩
        have hbits := K.bits hxe h3.key
        have hget : l[l1.length]? = some e := by rw [← Array.getElem?_toList, h2]; simp
        have hstay : (Instr.keyThatStays (((l[l1.length]?).map (·.key)).getD uk) uk).run P w = .ok uk w := by
          rw [hget]
          simp only [Option.map_some, Option.getD_some, hek, Instr.keyThatStays, hbits, if_true, Sem.run_pure]
        simp only [Instr.mapUpdate, Sem.run_bind, run_underlying hu, Result.andThen_ok, run_getMap hl, K.check, h1, hstay, run_setMap hl]
    · exact trivial
  · exact trivial
theorem delete_ok (hs : Sat P ρ S w) {ats : Array TypeId} {t ty : TypeId} {m k : AV} {um uk : Value} (h0 : ats[0]? = some t) (hm : conc ρ m = some um) (hk : conc ρ k = some uk) :
    AN.okV P ρ S w ((Builtin.delete_ ats ty #[um, uk]).run P w) ((deleteA P t).f m k S) := by
  unfold deleteA
  split
  · rename_i kt e hu
    split
    · rename_i eq ok hkk
      refine cB_ok (fun hok => ?_) fun _ => trivial
      have K := key_law (w := w) hkk hok hk
      have hct : conc ρ (.tuple []) = some (.tuple #[]) := by simp [conc, concs]
      refine vMap_ok trivial (fun e => ?_) fun b e => ?_
      · subst e
        cases conc_nilm hm
        exact ⟨ρ, _, w, by simp [Builtin.delete_, h0, run_underlying hu, K.check], Ext.refl _ _ _, hs, hct⟩
      · subst e
        refine oMap_ok trivial fun es clk ho => ?_
        rw [getA_eq] at ho
        obtain ⟨g, off, cap, hb, rfl⟩ := conc_map hm
        obtain ⟨l, hl, hr⟩ := map_of hs ho hb
        refine cO_ok trivial fun q hq => ?_
        have hat : ∀ es' p, (putA S b (.map es' clk)).at p = if p = b.p then .map es' clk else S.at p := fun es' => at_putA (by intro e; cases e)
        rcases found_both K hr hq with ⟨rfl, hne, h1⟩ | ⟨x, l1, e, l2, rfl, hx, hxe, h2, hek, h3, h1⟩
        · simp only [cO_none]
          obtain ⟨c1, c2⟩ := hs.setMap (S' := S) (l' := l) (es' := es) ho hb hl (Le.refl _) (fun p t hp => .inl hp) (fun p hp => .inl rfl) ho (Tr.refl _) hr (fun p kk hp => (hs.stp _ _ _ hp).2 _ _ hl)
          exact ⟨ρ, _, _, by simp [Builtin.delete_, h0, run_underlying hu, run_getMap hl, K.check, h1, run_setMap hl], c2, c1, hct⟩
        · simp only [cO_some]
          refine cO_ok trivial fun es' hdel => ?_
          obtain ⟨A, y, B, rfl, e2, rfl⟩ := delA_split hdel
          rw [h2] at hr
          obtain ⟨mm, q1, q2⟩ := hr.perm
          obtain ⟨mA, mB', rfl, hA, hB'⟩ := All2.append q1
          cases hB' with
          | @cons _ ey _ mB hy hB =>
          have hxy : y.id = x.id := nam_eq hy.id h3.id e2
          have hborn : ey.born = e.born := by
            have h4 := hy.id
            rw [hxy, h3.id] at h4
            exact (Tgt.stp.inj (Option.some.inj h4)).2.symm
          have hmem : ey ∈ l1 ++ e :: l2 := q2.mem_iff.1 (by simp)
          have : ey = e := nodup_inj hr.born hmem (by simp) hborn
          subst this
          have hsub : (l1 ++ l2).Sublist (l1 ++ ey :: l2) := List.Sublist.append_left (List.sublist_cons_self _ _) _
          have hrel : relM ρ g (A ++ B) clk (l1 ++ l2) := by
            refine ⟨⟨mA ++ mB, All2.join hA hB, ?_⟩, hr.born.sublist (hsub.map _), fun e' he' => hr.below e' (hsub.mem he'), hr.keys.sublist (hsub.map _)⟩
            have p1 : (ey :: (mA ++ mB)).Perm (ey :: (l1 ++ l2)) := (List.perm_middle.symm.trans q2).trans List.perm_middle
            exact (List.perm_cons ey).1 p1
          have harr : (l.eraseIdxIfInBounds l1.length).toList = l1 ++ l2 := by
            rw [Array.toList_eraseIdxIfInBounds, h2, eraseIdx_split]
          obtain ⟨c1, c2⟩ := hs.setMap (S' := putA S b (.map (A ++ B) clk)) (l' := l.eraseIdxIfInBounds l1.length) ho hb hl (Le.refl _) (fun p t hp => .inl hp) (fun p hp => .inl (by rw [hat, if_neg hp])) (by rw [hat, if_pos rfl]) (Tr.put rfl)
            (by rw [harr]; exact hrel) (fun p kk hp => (hs.stp _ _ _ hp).2 _ _ hl)
          exact ⟨ρ, _, _, by simp [Builtin.delete_, h0, run_underlying hu, run_getMap hl, K.check, h1, run_setMap hl], c2, c1, hct⟩
    · exact trivial
  · exact trivial
end
end Go.Proofs.YthgkdadchfoomabGreat.Ev
