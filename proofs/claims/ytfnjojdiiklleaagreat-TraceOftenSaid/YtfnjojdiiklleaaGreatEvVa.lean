/- A run of a program on abstract memory: going through maps. -/
import Derived.Test.YtfnjojdiiklleaaGreatEvU
import Derived.KernelRfl
namespace Go.Proofs.YtfnjojdiiklleaaGreat.Ev
section
variable {P : Program} {vm : Vm} {ρ : Rho} {S : AS} {w : World}

theorem new_iter (hs : Sat P ρ S w) {o : AO} {ob : Obj} {by_ : Nat} {r : Result Value} (hlive : o ≠ .free) (hrel : ∀ ρ' p heap', Le ρ ρ' → ρ' p = some (.blk w.heap.size 0 0) → heap'[w.heap.size]? = some ob → relO P ρ' heap' p o)
    (hr : r = .ok (.pointer (some ⟨w.heap.size, 0, none⟩)) { w with heap := w.heap.push ob }) : AN.okV P ρ S w r (ptrN S o by_) := by
  refine newA_okQ trivial fun i hi hf => ?_
  obtain ⟨h1, h2⟩ := hs.new (o := o) (ob := ob) (off := 0) (cap := 0) (w' := { w with heap := w.heap.push ob }) hf (at_put hlive rfl) (Tr.put rfl) rfl rfl rfl rfl fun hle => hrel _ _ _ hle (Rho.set_same _ _ _) (by simp)
  exact ⟨_, _, _, hr, h2, h1, by simp [conc, look_set hi]⟩
theorem range_ok (hs : Sat P ρ S w) {cf : Cf} {fn : FuncId} {ty : TypeId} {x : AV} {ux : Value} (hx : conc ρ x = some ux) : AN.okV P ρ S w ((Instr.range ty ux).run P w) ((rangeA P cf fn ty).f x S) := by
  unfold rangeA
  split
  · rename_i k e hu
    refine vMap_ok trivial (fun e => ?_) fun b e => ?_
    · subst e
      cases conc_nilm hx
      refine new_iter hs (ob := .mapIter none 0 #[] 0) (by intro e; cases e) (fun ρ' p heap' hle h1 h2 => ⟨_, _, _, _, _, h1, h2, rfl⟩) ?_
      simp [Instr.range, run_underlying hu]
    · subst e
      refine oMap_ok trivial fun es clk ho => ?_
      rw [getA_eq] at ho
      obtain ⟨g, off, cap, hb, rfl⟩ := conc_map hx
      obtain ⟨l, hl, hr⟩ := map_of hs ho hb
      refine new_iter hs (ob := .mapIter (some g) clk #[] clk) (by intro e; cases e) (fun ρ' p heap' hle h1 h2 => ⟨_, _, _, _, _, _, [], h1, h2, hle.look hb, .nil, rfl⟩) ?_
      simp [Instr.range, run_underlying hu, run_getMap hl]
  · exact trivial
theorem run_getObj {g : Nat} {o : Obj} (h : w.heap[g]? = some o) (hc : ∀ a t f, o ≠ .cells a t f) : (getObj g).run P w = .ok o w := by
  cases o <;> first | exact absurd rfl (hc _ _ _) | simp only [getObj, Sem.run, h]
theorem run_setObj {g : Nat} {o : Obj} (h : w.heap[g]? = some o) (hc : ∀ a t f, o ≠ .cells a t f) (o' : Obj) : (setObj g o').run P w = .ok () { w with heap := w.heap.setIfInBounds g o' } := by
  cases o <;> first | exact absurd rfl (hc _ _ _) | simp only [setObj, Sem.run, h]
theorem next_run {g gm since : Nat} {seen : Array Nat} {es : Array MapEntry} {t : TypeId} (h1 : w.heap[g]? = some (.mapIter (some gm) since seen since)) (h2 : w.heap[gm]? = some (.map es since)) (hb : ∀ e ∈ es.toList, e.born < since) :
    ((∀ e ∈ es.toList, e.born ∈ seen.toList) ∧ (Instr.next (.pointer (some ⟨g, 0, none⟩)) false t).run P w = .ok (.tuple #[.bool false]) w) ∨
      ∃ e d, e ∈ es.toList ∧ e.born ∉ seen.toList ∧ (Instr.next (.pointer (some ⟨g, 0, none⟩)) false t).run P w =
        .ok (.tuple #[.bool true, e.key, e.val]) { w with drawn := d, heap := w.heap.setIfInBounds g (.mapIter (some gm) since (seen.push e.born) since) } := by
  have e1 : (!seen.isEmpty && !es.isEmpty && es.all fun e => decide (e.born ≥ since)) = false := by
    by_cases hes : es.isEmpty = true
    · simp [hes]
    · have : es.all (fun e => decide (e.born ≥ since)) = false := by
        obtain ⟨l⟩ := es
        cases l with
        | nil => simp at hes
        | cons a l =>
          have := hb a (by simp)
          simp
          intro h; omega
      simp [this]
  have e2 : ∀ a : Array MapEntry, (∀ e ∈ a.toList, e.born < since) → a.filter (fun e => decide (e.born < since)) = a := fun a ha => by
    apply Array.ext'
    rw [Array.toList_filter]
    exact List.filter_eq_self.2 fun e he => by simpa using ha e he
  have e3 : ∀ a : Array MapEntry, (∀ e ∈ a.toList, e.born < since) → a.filter (fun e => decide (e.born ≥ since)) = #[] := fun a ha => by
    apply Array.ext'
    rw [Array.toList_filter]
    simp only [List.filter_eq_nil_iff]
    intro e he
    have := ha e he
    simp; omega
  have hleft : ∀ e ∈ (es.filter fun e => !seen.contains e.born).toList, e.born < since := fun e he => by
    rw [Array.toList_filter] at he
    exact hb e (List.mem_filter.1 he).1
  have red : (Instr.next (.pointer (some ⟨g, 0, none⟩)) false t).run P w = (do
      let left := es.filter fun e => !seen.contains e.born
      let candidates : Array (Option MapEntry) := (if left.isEmpty then #[none] else #[]) ++ (left ++ #[]).map some
      match candidates[← choose (.mapNext candidates.size)]? with
      | some (some e) => do
        setObj g (.mapIter (some gm) since (seen.push e.born) since)
        pure (.tuple #[.bool true, e.key, e.val])
      | some none => pure (.tuple #[.bool false])
      | none => stuck "Next: no such candidate" : Sem Value).run P w := by
    simp only [Instr.next, Sem.run_bind, run_getObj h1 (by intro a t f e; cases e), Result.andThen_ok, run_getMap h2, e1, Bool.false_eq_true, if_false, e2 _ hleft, e3 _ hleft]
    rfl
  rw [red]
  generalize hl : es.filter (fun e => !seen.contains e.born) = left
  cases hll : left.toList with
  | nil =>
    have hle : left = #[] := Array.ext' hll
    subst hle
    left
    refine ⟨fun e he => ?_, ?_⟩
    · have h3 : e ∉ (es.filter fun e => !seen.contains e.born).toList := by rw [hl]; simp
      rw [Array.toList_filter, List.mem_filter] at h3
      have : (!seen.contains e.born) = false := by
        cases hc : (!seen.contains e.born) with
        | false => rfl
        | true => exact absurd ⟨he, hc⟩ h3
      simpa using this
    · simp [Question.forced]
  | cons a l =>
    right
    have hne : left.isEmpty = false := by
      cases hq : left.isEmpty with
      | false => rfl
      | true => rw [Array.isEmpty_iff] at hq; subst hq; simp at hll
    have hsz : 0 < left.size := by rw [← Array.length_toList, hll]; simp
    have hmem : ∀ i (hi : i < left.size), left[i] ∈ es.toList ∧ left[i].born ∉ seen.toList := fun i hi => by
      have h3 : left[i] ∈ (es.filter fun e => !seen.contains e.born).toList := by rw [hl]; simp
      rw [Array.toList_filter, List.mem_filter] at h3
      refine ⟨h3.1, ?_⟩
      simpa using h3.2
    have hcand : ((if left.isEmpty then #[none] else #[]) ++ (left ++ #[]).map some : Array (Option MapEntry)) = left.map some := by rw [hne]; simp
    simp only [hcand, Sem.run_bind, run_choose, Array.size_map]
    have hgo : ∀ (i : Nat) (w' : World), i < left.size → w'.heap = w.heap → (match (left.map some)[i]? with
        | some (some e) => (do
          setObj g (.mapIter (some gm) since (seen.push e.born) since)
          pure (.tuple #[.bool true, e.key, e.val]) : Sem Value)
        | some none => pure (.tuple #[.bool false])
        | none => stuck "Next: no such candidate").run P w' = .ok (.tuple #[.bool true, (left[i]?.map (·.key)).getD undef, (left[i]?.map (·.val)).getD undef]) { w' with heap := w'.heap.setIfInBounds g (.mapIter (some gm) since (seen.push ((left[i]?.map (·.born)).getD 0)) since) } := fun i w' hi hw' => by
      have h1' : w'.heap[g]? = some (.mapIter (some gm) since seen since) := by rw [hw']; exact h1
      simp [hi, run_setObj h1' (by intro a t f e; cases e)]
    by_cases hf : (Question.mapNext left.size).forced = true
    · rw [if_pos hf]
      simp only [Result.andThen_ok]
      refine ⟨left[0], w.drawn, (hmem 0 hsz).1, (hmem 0 hsz).2, ?_⟩
      refine (hgo 0 w hsz rfl).trans ?_
      simp [hsz]
    · rw [if_neg hf]
      simp only [Result.andThen_ok]
      have hi : (Question.mapNext left.size).cut (w.tape w.drawn (.mapNext left.size)) < left.size := Nat.mod_lt _ hsz
      generalize (Question.mapNext left.size).cut (w.tape w.drawn (.mapNext left.size)) = i at hi
      refine ⟨left[i], w.drawn + 1, (hmem i hi).1, (hmem i hi).2, ?_⟩
      refine (hgo i { w with drawn := w.drawn + 1 } hi rfl).trans ?_
      simp [hi]
theorem namIn_true {i : Nam} : ∀ {l : List Nam}, namIn i l = true → ∃ j, j ∈ l ∧ i.n = j.n
  | [], h => by cases h
  | j :: l, h => by
    have h' : cB (Nat.beq i.n j.n) true (namIn i l) = true := h
    cases c : Nat.beq i.n j.n with
    | true => rw [Nat.beq_eq] at c; exact ⟨j, by simp, c⟩
    | false => rw [c] at h'; obtain ⟨k, h1, h2⟩ := namIn_true (l := l) h'; exact ⟨k, by simp [h1], h2⟩
theorem namIn_of {i j : Nam} (hn : i.n = j.n) : ∀ {l : List Nam}, j ∈ l → namIn i l = true
  | [], h => by cases h
  | k :: l, h => by
    show cB (Nat.beq i.n k.n) true (namIn i l) = true
    rcases List.mem_cons.1 h with rfl | h
    · rw [show Nat.beq i.n j.n = true by rw [Nat.beq_eq]; exact hn]; rfl
    · cases c : Nat.beq i.n k.n with
      | true => rfl
      | false => exact namIn_of hn h
theorem unseen_mem {b m : Nam} {since base sp : Nat} {seen : List Nam} {s : AS} {x : Ent} (hn : namIn x.id seen = false) : ∀ {es : List Ent} {j : Nat}, x ∈ es → ∃ j', (AV.tuple [.bool true, x.key, x.val], atA (putA s b (.iter (some m) since (x.id :: seen) base sp)) base sp j') ∈ unseen b m since base sp seen s es j
  | [], _, h => by cases h
  | y :: es, j, h => by
    have e : unseen b m since base sp seen s (y :: es) j = cB (namIn y.id seen) (unseen b m since base sp seen s es (Nat.add j 1)) ((.tuple [.bool true, y.key, y.val], atA (putA s b (.iter (some m) since (y.id :: seen) base sp)) base sp j) :: unseen b m since base sp seen s es (Nat.add j 1)) := rfl
    rw [e]
    rcases List.mem_cons.1 h with rfl | h
    · rw [hn]; exact ⟨j, by simp [cB]⟩
    · obtain ⟨j', hj⟩ := unseen_mem hn (j := Nat.add j 1) h
      cases namIn y.id seen with
      | true => exact ⟨j', hj⟩
      | false => exact ⟨j', by simp [cB, hj]⟩
theorem atA_at (s : AS) (base sp j : Nat) (p : Pth) : (atA s base sp j).at p = s.at p := by
  unfold atA
  cases Nat.beq sp 0 <;> rfl
theorem atA_tr (s : AS) (base sp j : Nat) : Tr s (atA s base sp j) := by
  unfold atA
  cases Nat.beq sp 0 with
  | false => exact Tr.refl s
  | true => exact Tr.refl s
theorem Sat.same (hs : Sat P ρ S w) {S' : AS} (h : ∀ p, S'.at p = S.at p) : Sat P ρ S' w := by
  refine ⟨fun p => by rw [h]; exact hs.obj p, fun p q g o c o' c' hp hq => ?_, hs.bnd, hs.stp, hs.stinj, hs.glob⟩
  rw [h] at hp hq
  exact hs.inj p q g o c o' c' hp hq
theorem Ext.same {ρ' : Rho} {S' S'' : AS} {w' : World} (he : Ext ρ S w ρ' S' w') (h : ∀ p, S''.at p = S'.at p) (htr : Tr S' S'') : Ext ρ S w ρ' S'' w' :=
  ⟨he.le, he.size, he.old, fun g hg ⟨p, o, c, h1, h2⟩ => he.owns g hg ⟨p, o, c, h1, by rw [← h]; exact h2⟩, he.os, he.tape, he.output, he.tr.trans htr⟩
theorem next_ok (hs : Sat P ρ S w) {it : AV} {ui : Value} {isS : Bool} {t : TypeId} (hi : conc ρ it = some ui) : AN.okV P ρ S w ((Instr.next ui isS t).run P w) ((nextA isS).f it S) := by
  cases isS with
  | true => exact trivial
  | false =>
    refine vPtr_ok trivial fun b o e => ?_
    subst e
    refine cB_ok (fun h0 => ?_) fun _ => trivial
    rw [Nat.beq_eq] at h0
    subst h0
    refine oIter_ok trivial fun m since seen base sp ho => ?_
    rw [getA_eq] at ho
    obtain ⟨g, off, cap, hb, rfl⟩ := conc_ptr hi
    have hobj := hs.obj b.p
    rw [ho] at hobj
    cases m with
    | none =>
      obtain ⟨g', cap', s, c, d, h1, h2, _⟩ := hobj
      rw [look_path hb] at h1
      cases h1
      refine ⟨.tuple #[.bool false], by simp [conc, concs], ?_⟩
      simp [Instr.next, run_getObj h2 (by intro a t f e; cases e)]
    | some m =>
      obtain ⟨g', cap', gm, oo, cc, seen', ks, h1, h2, h3, h4, h5⟩ := hobj
      rw [look_path hb] at h1
      cases h1
      simp only [cO_some]
      refine oMap_ok trivial fun es clk hm => ?_
      rw [getA_eq] at hm
      obtain ⟨l, hl, hr⟩ := map_of hs hm h3
      refine cB_ok (fun hc => ?_) fun _ => trivial
      rw [Nat.beq_eq] at hc
      subst hc
      rw [Nat.add_zero]
      rcases next_run (P := P) (w := w) (t := t) h2 hl hr.below with ⟨n1, n2⟩ | ⟨e, d, n1, n2, n3⟩
      · have hnil : unseen b m since base sp seen S es 0 = [] := by
          cases hu : unseen b m since base sp seen S es 0 with
          | nil => rfl
          | cons y ys =>
            exfalso
            have key : ∀ {es : List Ent} {j : Nat}, (∀ x ∈ es, namIn x.id seen = true) → unseen b m since base sp seen S es j = [] := by
              intro es
              induction es with
              | nil => intro j _; rfl
              | cons x es ih =>
                intro j h
                show cB (namIn x.id seen) (unseen b m since base sp seen S es (Nat.add j 1)) _ = []
                rw [h x (by simp)]
                exact ih fun y hy => h y (by simp [hy])
            rw [key fun x hx => ?_] at hu
            · cases hu
            · obtain ⟨e, he, hxe⟩ := hr.vals hx
              have h6 := n1 e he
              rw [h5, List.mem_reverse] at h6
              obtain ⟨j, hj, hjk⟩ := h4.mem' h6
              have h7 := hs.stinj _ _ _ _ (look_path hxe.id) (look_path hjk)
              exact namIn_of (by rw [look_num hxe.id, look_num hjk, h7]) hj
        rw [hnil, n2]
        refine ⟨ρ, .tuple #[.bool false], w, rfl, (Ext.refl ρ S w).same (fun p => atA_at _ _ _ _ p) (atA_tr _ _ _ _), hs.same fun p => atA_at _ _ _ _ p, by simp [conc, concs]⟩
      · obtain ⟨x, hx, hxe⟩ := hr.ents n1
        have hnot : namIn x.id seen = false := by
          cases hq : namIn x.id seen with
          | false => rfl
          | true =>
            exfalso
            obtain ⟨j, hj, hn⟩ := namIn_true hq
            obtain ⟨k, hk, hjk⟩ := h4.mem hj
            have : x.id = j := nam_eq hxe.id hjk hn
            subst this
            have h6 := hxe.id
            rw [hjk] at h6
            have h7 := (Tgt.stp.inj (Option.some.inj h6)).2
            apply n2
            rw [h5, List.mem_reverse, ← h7]
            exact hk
        obtain ⟨j', hj'⟩ := unseen_mem (b := b) (m := m) (since := since) (base := base) (sp := sp) (s := S) hnot (j := 0) hx
        have hlt : g < w.heap.size := (Array.getElem?_eq_some_iff.1 h2).1
        have hat : ∀ p, (putA S b (.iter (some m) since (x.id :: seen) base sp)).at p = if p = b.p then .iter (some m) since (x.id :: seen) base sp else S.at p := at_putA (by intro e; cases e)
        have hset : (w.heap.setIfInBounds g (.mapIter (some gm) since (seen'.push e.born) since))[g]? = some (.mapIter (some gm) since (seen'.push e.born) since) := by rw [Array.getElem?_setIfInBounds_self_of_lt hlt]
        obtain ⟨c1, c2⟩ := hs.upd (S' := putA S b (.iter (some m) since (x.id :: seen) base sp)) (w' := { w with drawn := d, heap := w.heap.setIfInBounds g (.mapIter (some gm) since (seen'.push e.born) since) }) (look_path hb) (by rw [ho]; exact trivial) (by rw [hat, if_pos rfl]; exact trivial)
          (Le.refl _) (fun p t h => .inl h) (fun p hp => .inl (by rw [hat, if_neg hp])) (Tr.put rfl) (by
            rw [hat, if_pos rfl]
            exact ⟨g, cap, gm, oo, cc, _, e.born :: ks, look_path hb, hset, h3, .cons hxe.id h4, by rw [Array.toList_push, h5, List.reverse_cons]⟩) (by simp) (fun g' hg => Array.getElem?_setIfInBounds_ne (Ne.symm hg)) (fun es c hc => by
            have hset' : ({ w with drawn := d, heap := w.heap.setIfInBounds g (.mapIter (some gm) since (seen'.push e.born) since) } : World).heap[g]? = _ := hset
            rw [hset'] at hc; cases hc) rfl rfl rfl
        cases hu : unseen b m since base sp seen S es 0 with
        | nil => rw [hu] at hj'; cases hj'
        | cons y ys =>
          rw [hu] at hj'
          refine ⟨_, hj', ρ, .tuple #[.bool true, e.key, e.val], _, n3, c2.same (fun p => atA_at _ _ _ _ p) (atA_tr _ _ _ _), c1.same fun p => atA_at _ _ _ _ p, ?_⟩
          simp [conc, concs, hxe.key, hxe.val]
theorem entry_ok (hs : Sat P ρ S w) {it : AV} {ui : Value} (hi : conc ρ it = some ui) : AN.okV P ρ S w ((Instr.entry ui).run P w) (entryA it S) := by
  refine vPtr_ok trivial fun b o e => ?_
  subst e
  refine cB_ok (fun h0 => ?_) fun _ => trivial
  rw [Nat.beq_eq] at h0
  subst h0
  refine oIter_ok trivial fun m since seen base sp ho => ?_
  rw [getA_eq] at ho
  obtain ⟨g, off, cap, hb, rfl⟩ := conc_ptr hi
  have hobj := hs.obj b.p
  rw [ho] at hobj
  cases m with
  | none => exact trivial
  | some m =>
    obtain ⟨g', cap', gm, oo, cc, seen', ks, h1, h2, h3, h4, h5⟩ := hobj
    rw [look_path hb] at h1
    cases h1
    simp only [cO_some]
    refine oMap_ok trivial fun es clk hm => ?_
    rw [getA_eq] at hm
    obtain ⟨l, hl, hr⟩ := map_of hs hm h3
    refine cB_ok (fun hc => ?_) fun _ => trivial
    rw [Nat.beq_eq] at hc
    subst hc
    refine cL_ok (fun _ => trivial) fun i rest hsn => ?_
    subst hsn
    refine cO_ok trivial fun x hx => ?_
    obtain ⟨hxm, hxn⟩ := byId_some hx
    cases h4 with
    | @cons _ k _ ks h6 h7 =>
    obtain ⟨e, he, hxe⟩ := hr.vals hxm
    have hid : x.id = i := nam_eq hxe.id h6 hxn
    have hk : e.born = k := by
      have h8 := hxe.id
      rw [hid, h6] at h8
      exact (Tgt.stp.inj (Option.some.inj h8)).2.symm
    have hback : seen'.back? = some k := by
      rw [← Array.getLast?_toList, h5]; simp
    have hfind : l.find? (fun e => e.born == k) = some e := by
      rw [← Array.find?_toList]
      cases hq : l.toList.find? (fun e => e.born == k) with
      | none =>
        have := List.find?_eq_none.1 hq e he
        simp [hk] at this
      | some e' =>
        have h8 := List.find?_some hq
        have h9 := List.mem_of_find?_eq_some hq
        congr 1
        refine nodup_inj hr.born h9 he ?_
        simp at h8
        rw [h8, hk]
    refine ⟨.tuple #[e.key, e.val], by simp [conc, concs, hxe.key, hxe.val], ?_⟩
    simp [Instr.entry, run_getObj h2 (by intro a t f e; cases e), hback, run_getMap hl, hfind]
end
end Go.Proofs.YtfnjojdiiklleaaGreat.Ev
namespace Go.Proofs.YtfnjojdiiklleaaGreat.Ev
section
variable {P : Program} {ρ : Rho} {S : AS} {w : World}

/-- What lies behind new names for entries. -/
structure Cloned (S S' : AS) (es es' : List Ent) : Prop where
  same : All2 (fun x y => y.key = x.key ∧ y.val = x.val) es es'
  num : ∀ y ∈ es', y.id.n = y.id.p.num
  nodup : (es'.map (·.id.p)).Nodup
  free : ∀ y ∈ es', S.at y.id.p = .free
  dead : ∀ y ∈ es', S'.at y.id.p = .dead
  rest : ∀ p, (∀ y ∈ es', y.id.p ≠ p) → S'.at p = S.at p
  tr : Tr S S'
theorem cloneL_ok {Q : AN → Prop} (hno : Q .no) : ∀ (es : List Ent) (S : AS) (k : List Ent → AS → AN), (∀ es' S', Cloned S S' es es' → Q (k es' S')) → Q (cloneL es S k)
  | [], S, k, h => h [] S ⟨.nil, fun _ h => (List.not_mem_nil h).elim, List.nodup_nil, fun _ h => (List.not_mem_nil h).elim, fun _ h => (List.not_mem_nil h).elim, fun _ _ => rfl, Tr.refl _⟩
  | x :: es, S, k, h => by
    show Q (newA S .dead 1 .no fun i s1 => cloneL es s1 fun r s2 => k (⟨x.key, x.val, i⟩ :: r) s2)
    refine newA_okQ hno fun i hi hf => cloneL_ok hno es _ _ fun es' S' c => h _ _ ?_
    have hat1 : ∀ p, (AS.at ⟨hput S.top i.p .dead, S.lay, logA S i, Nat.add S.next 1⟩ p) = if p = i.p then .dead else S.at p := at_put (by intro e; cases e) rfl
    have hne : ∀ y ∈ es', y.id.p ≠ i.p := fun y hy e => by
      have := c.free y hy
      rw [e, hat1, if_pos rfl] at this; cases this
    refine ⟨.cons ⟨rfl, rfl⟩ c.same, ?_, ?_, ?_, ?_, ?_, (Tr.put rfl).trans c.tr⟩
    · intro y hy
      rcases List.mem_cons.1 hy with rfl | hy
      · exact hi
      · exact c.num y hy
    · rw [List.map_cons, List.nodup_cons]
      refine ⟨fun hm => ?_, c.nodup⟩
      obtain ⟨y, hy, e⟩ := List.mem_map.1 hm
      exact hne y hy e
    · intro y hy
      rcases List.mem_cons.1 hy with rfl | hy
      · exact hf
      · have := c.free y hy
        rw [hat1, if_neg (hne y hy)] at this; exact this
    · intro y hy
      rcases List.mem_cons.1 hy with rfl | hy
      · show S'.at i.p = .dead
        rw [c.rest i.p hne, hat1, if_pos rfl]
      · exact c.dead y hy
    · intro p hp
      rw [c.rest p fun y hy => hp y (List.mem_cons_of_mem _ hy), hat1, if_neg fun e => hp ⟨x.key, x.val, i⟩ List.mem_cons_self e.symm]
/-- Stamps for many names. -/
noncomputable def Rho.many (ρ : Rho) (g : Nat) : List Ent → List MapEntry → Rho
  | y :: es, e :: m => (Rho.many ρ g es m).set y.id.p (.stp g e.born)
  | _, _ => ρ
theorem many_out {g : Nat} : ∀ {es : List Ent} {m : List MapEntry} {p : Pth}, (∀ y ∈ es, y.id.p ≠ p) → Rho.many ρ g es m p = ρ p
  | [], _, _, _ => by simp [Rho.many]
  | _ :: _, [], _, _ => by simp [Rho.many]
  | y :: es, e :: m, p, h => by
    rw [Rho.many, Rho.set_other _ _ fun e => h y List.mem_cons_self e.symm]
    exact many_out fun z hz => h z (List.mem_cons_of_mem _ hz)
theorem many_in {g : Nat} {R : Ent → MapEntry → Prop} : ∀ {es : List Ent} {m : List MapEntry}, All2 R es m → (es.map (·.id.p)).Nodup → All2 (fun y e => Rho.many ρ g es m y.id.p = some (.stp g e.born)) es m
  | [], _, h, _ => by cases h; exact .nil
  | y :: es, _, h, hn => by
    cases h with
    | @cons _ e _ m hr ht =>
    rw [List.map_cons, List.nodup_cons] at hn
    refine .cons (by rw [Rho.many, Rho.set_same]) ?_
    have ih := many_in (g := g) ht hn.2
    have key : ∀ {a : List Ent} {b : List MapEntry}, All2 (fun y e => Rho.many ρ g es m y.id.p = some (.stp g e.born)) a b → (∀ z ∈ a, z ∈ es) → All2 (fun z k => Rho.many ρ g (y :: es) (e :: m) z.id.p = some (.stp g k.born)) a b := by
      intro a b h
      induction h with
      | nil => intro _; exact .nil
      | @cons z k a b h1 _ ih2 =>
        intro hz
        refine .cons ?_ (ih2 fun x hx => hz x (List.mem_cons_of_mem _ hx))
        rw [Rho.many, Rho.set_other _ _ ?_]
        · exact h1
        · intro e2
          exact hn.1 (List.mem_map.2 ⟨z, hz z List.mem_cons_self, e2⟩)
    exact key ih fun _ h => h
theorem All2.join2 {α β γ : Type} {R : α → β → Prop} {T : α → γ → Prop} : ∀ {a : List α} {b : List β} {c : List γ}, All2 R a b → All2 T a c → All2 (fun y z => ∃ x, R x y ∧ T x z) b c
  | _, _, _, .nil, h => by cases h; exact .nil
  | _, _, _, .cons h1 t1, h => by
    cases h with
    | cons h2 t2 => exact .cons ⟨_, h1, h2⟩ (All2.join2 t1 t2)
theorem All2.meet {α β : Type} {R T : α → β → Prop} : ∀ {a : List α} {b : List β}, All2 R a b → All2 T a b → All2 (fun x y => R x y ∧ T x y) a b
  | _, _, .nil, _ => .nil
  | _, _, .cons h1 t1, h => by
    cases h with
    | cons h2 t2 => exact .cons ⟨h1, h2⟩ (All2.meet t1 t2)
theorem All2.impM {α β : Type} {R T : α → β → Prop} : ∀ {a : List α} {b : List β}, (∀ x ∈ a, ∀ y ∈ b, R x y → T x y) → All2 R a b → All2 T a b
  | _, _, _, .nil => .nil
  | _, _, h, .cons h1 t1 => .cons (h _ List.mem_cons_self _ List.mem_cons_self h1) (All2.impM (fun x hx y hy => h x (List.mem_cons_of_mem _ hx) y (List.mem_cons_of_mem _ hy)) t1)
theorem push_set {α : Type} (a : Array α) (x y : α) : (a.push x).setIfInBounds a.size y = a.push y := by
  apply Array.ext_getElem?
  intro i
  by_cases e : a.size = i
  · subst e
    rw [Array.getElem?_setIfInBounds_self_of_lt (by simp)]; simp
  · rw [Array.getElem?_setIfInBounds_ne e]
    by_cases h : i < a.size
    · rw [Array.getElem?_push_lt h, Array.getElem?_push_lt h]
    · rw [Array.getElem?_eq_none (by simp; omega), Array.getElem?_eq_none (by simp; omega)]
theorem clone_ok (hs : Sat P ρ S w) {args : List AV} {us : List Value} (ha : concs ρ args = some us) : AN.okV P ρ S w ((Extern.MapsClone.clone us.toArray).run P w) (cloneA args S) := by
  rcases args with _ | ⟨a, _ | ⟨a2, r⟩⟩
  · exact trivial
  · obtain ⟨u, q, rfl, hu, hq⟩ := concs_cons ha
    cases concs_nil hq
    show AN.okV P ρ S w _ (vIf a .no .no fun t v => vMap v .no .no fun b => oMap (getA S b) .no fun es clk => newA S (.map [] clk) 1 .no fun j s1 => cloneL es s1 fun es' s2 => .val (.iface t (.map j)) (putA s2 j (.map es' clk)))
    cases a with
    | iface t v =>
      show AN.okV P ρ S w _ (vMap v .no .no fun b => oMap (getA S b) .no fun es clk => newA S (.map [] clk) 1 .no fun j s1 => cloneL es s1 fun es' s2 => .val (.iface t (.map j)) (putA s2 j (.map es' clk)))
      refine vMap_ok trivial (fun _ => trivial) fun b e => ?_
      subst e
      refine oMap_ok trivial fun es clk ho => ?_
      rw [getA_eq] at ho
      simp only [conc] at hu
      split at hu
      · rename_i um hum
        cases hu
        have hum : conc ρ (.map b) = some um := by simp only [conc]; exact hum
        obtain ⟨g, off, cap, hb, rfl⟩ := conc_map hum
        obtain ⟨l, hl, hr⟩ := map_of hs ho hb
        refine newA_okQ trivial fun j hj hf => ?_
        obtain ⟨d1, d2⟩ := hs.new (o := .map [] clk) (ob := .map #[] clk) (off := 0) (cap := 0) (S' := ⟨hput S.top j.p (.map [] clk), S.lay, logA S j, Nat.add S.next 1⟩) (w' := { w with heap := w.heap.push (.map #[] clk) }) hf (at_put (by intro e; cases e) rfl) (Tr.put rfl) rfl rfl rfl rfl fun hle =>
          ⟨w.heap.size, 0, 0, #[], Rho.set_same _ _ _, by simp, ⟨⟨[], .nil, .refl _⟩, by simp, by simp, by simp⟩⟩
        have hatj : ∀ p, (AS.at ⟨hput S.top j.p (.map [] clk), S.lay, logA S j, Nat.add S.next 1⟩ p) = if p = j.p then .map [] clk else S.at p := at_put (by intro e; cases e) rfl
        refine cloneL_ok trivial es _ _ fun es' S2 c => ?_
        obtain ⟨m, m1, m2⟩ := hr.perm
        have hpair := All2.join2 c.same m1
        have hin := many_in (ρ := ρ.set j.p (.blk w.heap.size 0 0)) (g := w.heap.size) hpair c.nodup
        have hjn : ∀ y ∈ es', y.id.p ≠ j.p := fun y hy e => by
          have := c.free y hy
          rw [e, hatj, if_pos rfl] at this; cases this
        have hfree : ∀ y ∈ es', (ρ.set j.p (.blk w.heap.size 0 0)) y.id.p = none := fun y hy => by
          have := d1.obj y.id.p
          rw [c.free y hy] at this; exact this
        have hle : Le (ρ.set j.p (.blk w.heap.size 0 0)) (Rho.many (ρ.set j.p (.blk w.heap.size 0 0)) w.heap.size es' m) := fun p t hp => by
          by_cases h : ∀ y ∈ es', y.id.p ≠ p
          · rw [many_out h]; exact hp
          · have ⟨y, hy⟩ := Classical.not_forall.1 h
            have ⟨hy1, hy2⟩ := Classical.not_imp.1 hy
            have hy3 : y.id.p = p := Classical.not_not.1 hy2
            rw [← hy3, hfree y hy1] at hp; cases hp
        have hle0 : Le ρ (ρ.set j.p (.blk w.heap.size 0 0)) := d2.le
        have hold : ∀ q k, (ρ.set j.p (.blk w.heap.size 0 0)) q ≠ some (.stp w.heap.size k) := fun q k h => by
          by_cases e : q = j.p
          · subst e; rw [Rho.set_same] at h; cases h
          · rw [Rho.set_other _ _ e] at h
            exact absurd (hs.stp _ _ _ h).1 (Nat.lt_irrefl _)
        have hborn : (m.map (·.born)).Nodup := (m2.map _).nodup_iff.2 hr.born
        have hsome : ∀ {p t}, Rho.many (ρ.set j.p (.blk w.heap.size 0 0)) w.heap.size es' m p = some t → (ρ.set j.p (.blk w.heap.size 0 0)) p = some t ∨ ∃ y e, y ∈ es' ∧ e ∈ m ∧ y.id.p = p ∧ t = .stp w.heap.size e.born := fun {p t} h => by
          by_cases hn : ∀ y ∈ es', y.id.p ≠ p
          · rw [many_out hn] at h; exact .inl h
          · have ⟨y, hy⟩ := Classical.not_forall.1 hn
            have ⟨hy1, hy2⟩ := Classical.not_imp.1 hy
            have hy3 : y.id.p = p := Classical.not_not.1 hy2
            obtain ⟨e, he, hye⟩ := hin.mem hy1
            rw [hy3, h] at hye
            exact .inr ⟨y, e, hy1, he, hy3, Option.some.inj hye⟩
        have hat : ∀ p, (putA S2 j (.map es' clk)).at p = if p = j.p then .map es' clk else S2.at p := at_putA (by intro e; cases e)
        have hinj : ∀ y ∈ es', ∀ z ∈ es', ∀ k, Rho.many (ρ.set j.p (.blk w.heap.size 0 0)) w.heap.size es' m y.id.p = some (.stp w.heap.size k) → Rho.many (ρ.set j.p (.blk w.heap.size 0 0)) w.heap.size es' m z.id.p = some (.stp w.heap.size k) → z.id.p = y.id.p := by
          have key : ∀ {a : List Ent} {b : List MapEntry}, All2 (fun y e => Rho.many (ρ.set j.p (.blk w.heap.size 0 0)) w.heap.size es' m y.id.p = some (.stp w.heap.size e.born)) a b → (b.map (·.born)).Nodup →
              ∀ y ∈ a, ∀ z ∈ a, ∀ k, Rho.many (ρ.set j.p (.blk w.heap.size 0 0)) w.heap.size es' m y.id.p = some (.stp w.heap.size k) → Rho.many (ρ.set j.p (.blk w.heap.size 0 0)) w.heap.size es' m z.id.p = some (.stp w.heap.size k) → z.id.p = y.id.p := by
            intro a b h
            induction h with
            | nil => intro _ y hy; exact (List.not_mem_nil hy).elim
            | @cons x e a b h1 t ih =>
              intro hn y hy z hz k hyk hzk
              rw [List.map_cons, List.nodup_cons] at hn
              have hx : ∀ z ∈ a, ∀ k, Rho.many (ρ.set j.p (.blk w.heap.size 0 0)) w.heap.size es' m x.id.p = some (.stp w.heap.size k) → Rho.many (ρ.set j.p (.blk w.heap.size 0 0)) w.heap.size es' m z.id.p = some (.stp w.heap.size k) → False := fun z hz k q1 q2 => by
                obtain ⟨f, hf1, hf2⟩ := t.mem hz
                rw [q2] at hf2
                rw [q1] at h1
                have e1 := (Tgt.stp.inj (Option.some.inj h1)).2
                have e2 := (Tgt.stp.inj (Option.some.inj hf2)).2
                exact hn.1 (List.mem_map.2 ⟨f, hf1, by rw [← e2, e1]⟩)
              rcases List.mem_cons.1 hy with ey | hy2 <;> rcases List.mem_cons.1 hz with ez | hz2
              · rw [ey, ez]
              · rw [ey] at hyk; exact (hx z hz2 k hyk hzk).elim
              · rw [ez] at hzk; exact (hx y hy2 k hzk hyk).elim
              · exact ih hn.2 y hy2 z hz2 k hyk hzk
          exact key hin hborn
        have hent : relM (Rho.many (ρ.set j.p (.blk w.heap.size 0 0)) w.heap.size es' m) w.heap.size es' clk l.toList := by
          refine ⟨⟨m, ?_, m2⟩, hr.born, hr.below, hr.keys⟩
          refine (hpair.meet hin).impM fun y hy e he h => ?_
          obtain ⟨⟨x, ⟨hk, hv⟩, hx⟩, hid⟩ := h
          refine ⟨by rw [hk]; exact conc_mono (hle0.trans hle) _ hx.key, by rw [hv]; exact conc_mono (hle0.trans hle) _ hx.val, ?_⟩
          unfold look
          rw [if_pos (c.num y hy)]; exact hid
        obtain ⟨c1, c2⟩ := d1.setMap (ρ' := Rho.many (ρ.set j.p (.blk w.heap.size 0 0)) w.heap.size es' m) (S' := putA S2 j (.map es' clk)) (b := j) (clk' := clk) (l := #[]) (l' := l) (by rw [hatj, if_pos rfl]) (look_set hj _) (by simp) hle
          (fun p t hp => by
            rcases hsome hp with h | ⟨y, e, hy, he, rfl, rfl⟩
            · exact .inl h
            · refine .inr ⟨c.free y hy, by rw [hat, if_neg (hjn y hy)]; exact c.dead y hy, e.born, rfl, fun q hq => ?_⟩
              rcases hsome hq with h | ⟨z, f, hz, hf2, rfl, _⟩
              · exact absurd h (hold _ _)
              · exact hinj y hy z hz _ hp hq)
          (fun p hp => by
            by_cases hn : ∀ y ∈ es', y.id.p ≠ p
            · exact .inl (by rw [hat, if_neg hp, c.rest p hn])
            · have ⟨y, hy⟩ := Classical.not_forall.1 hn
              have ⟨hy1, hy2⟩ := Classical.not_imp.1 hy
              have hy3 : y.id.p = p := Classical.not_not.1 hy2
              subst hy3
              obtain ⟨e, _, hye⟩ := hin.mem hy1
              exact .inr ⟨c.free y hy1, by rw [hat, if_neg hp]; exact c.dead y hy1, _, hye⟩)
          (by rw [hat, if_pos rfl]) (c.tr.trans (Tr.put rfl)) hent
          (fun p k hp => by
            rcases hsome hp with h | ⟨y, e, hy, he, rfl, h2⟩
            · exact absurd h (hold _ _)
            · cases h2
              exact hr.below e (m2.mem_iff.1 he))
        refine ⟨_, .iface t (.map (some w.heap.size)), _, ?_, d2.trans c2, c1, ?_⟩
        · have hcl : Extern.MapsClone.clone #[.iface t (.map (some g))] = (do
              let .map entries clock ← getObj g | stuck "maps.clone: a map expected"
              pure (.iface t (.map (some (← newObj (.map entries clock)))))) := rfl
          show (Extern.MapsClone.clone #[.iface t (.map (some g))]).run P w = _
          rw [hcl]
          simp only [Sem.run_bind, run_getMap hl, Result.andThen_ok, run_newObj, Sem.run_pure, push_set]
        · simp only [conc]
          rw [hle.look (look_set hj _)]
      · cases hu
    | _ => exact trivial
  · exact trivial
/-- The function of the library that copies a map. -/
theorem clone_run {g : FuncId} (h : cloneF P g = true) (us : Array Value) : (callFunc g us).run P w = ((Extern.MapsClone.clone us).run P w).andThen fun u w' => .ok (.value u) w' := by
  unfold cloneF at h
  split at h
  · rename_i fn hfn
    simp only [Bool.and_eq_true, beq_iff_eq] at h
    obtain ⟨hb, hn, ho⟩ := h
    have h1 : Extern.findNext fn = none := by
      unfold Extern.findNext
      rw [hn, ho]
      kernel_rfl
    have h2 : Extern.find fn = some Extern.MapsClone.clone := by
      unfold Extern.find
      rw [hn, ho]
      kernel_rfl
    have hnm : ¬ (fn.name = "runtime.NumGoroutine") := by rw [hn]; decide
    have hb' : fn.body = none := by simpa using hb
    simp [callFunc, hfn, hnm, hb', h1, h2, mark, Sem.run]
  · cases h
end
end Go.Proofs.YtfnjojdiiklleaaGreat.Ev
