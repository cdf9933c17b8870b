/- A run of a program on abstract memory: going through maps. -/
import Derived.Test.YthgkdadchfoomabGreatEvU
namespace Go.Proofs.YthgkdadchfoomabGreat.Ev
section
variable {P : Program} {vm : Vm} {ρ : Rho} {S : AS} {w : World}

theorem new_iter (hs : Sat P ρ S w) {o : AO} {ob : Obj} {by_ : Nat} {r : Result Value} (hlive : o ≠ .free) (hrel : ∀ ρ' p heap', Le ρ ρ' → ρ' p = some (.blk w.heap.size 0 0) → heap'[w.heap.size]? = some ob → relO P ρ' heap' p o)
    (hr : r = .ok (.pointer (some ⟨w.heap.size, 0, none⟩)) { w with heap := w.heap.push ob }) : AN.okV P ρ S w r (ptrN S o by_) := by
  refine newA_okQ trivial fun i hi hf => ?_
  obtain ⟨h1, h2⟩ := hs.new (o := o) (ob := ob) (off := 0) (cap := 0) (w' := { w with heap := w.heap.push ob }) hf (at_put hlive rfl) (Tr.put rfl) rfl rfl rfl rfl fun hle => hrel _ _ _ hle (Rho.set_same _ _ _) (by simp)
  exact ⟨_, _, _, hr, h2, h1, by simp [conc, look_set hi]⟩
theorem range_ok (hs : Sat P ρ S w) {cf : Cf} {fn : FuncId} {ty : TypeId} {x : AV} {ux : Value} (hx : conc ρ x = some ux) : AN.okV P ρ S w ((Instr.range ty ux).run P w) ((rangeA P cf fn ty).f x S) := by
  unfold rangeA
  split
  · rename_i k e hu
    refine vMap_ok trivial (fun e => ?_) fun b e => ?_
    · subst e
      cases conc_nilm hx
      refine new_iter hs (ob := .mapIter none 0 #[] 0) (by intro e; cases e) (fun ρ' p heap' hle h1 h2 => ⟨_, _, _, _, _, h1, h2, rfl⟩) ?_
      simp [Instr.range, run_underlying hu]
    · subst e
      refine oMap_ok trivial fun es clk ho => ?_
      rw [getA_eq] at ho
      obtain ⟨g, off, cap, hb, rfl⟩ := conc_map hx
      obtain ⟨l, hl, hr⟩ := map_of hs ho hb
      refine new_iter hs (ob := .mapIter (some g) clk #[] clk) (by intro e; cases e) (fun ρ' p heap' hle h1 h2 => ⟨_, _, _, _, _, _, [], h1, h2, hle.look hb, .nil, rfl⟩) ?_
      simp [Instr.range, run_underlying hu, run_getMap hl]
  · exact trivial
theorem run_getObj {g : Nat} {o : Obj} (h : w.heap[g]? = some o) (hc : ∀ a t f, o ≠ .cells a t f) : (getObj g).run P w = .ok o w := by
  cases o <;> first | exact absurd rfl (hc _ _ _) | simp only [getObj, Sem.run, h]
theorem run_setObj {g : Nat} {o : Obj} (h : w.heap[g]? = some o) (hc : ∀ a t f, o ≠ .cells a t f) (o' : Obj) : (setObj g o').run P w = .ok () { w with heap := w.heap.setIfInBounds g o' } := by
  cases o <;> first | exact absurd rfl (hc _ _ _) | simp only [setObj, Sem.run, h]
theorem next_run {g gm since : Nat} {seen : Array Nat} {es : Array MapEntry} {t : TypeId} (h1 : w.heap[g]? = some (.mapIter (some gm) since seen since)) (h2 : w.heap[gm]? = some (.map es since)) (hb : ∀ e ∈ es.toList, e.born < since) :
    ((∀ e ∈ es.toList, e.born ∈ seen.toList) ∧ (Instr.next (.pointer (some ⟨g, 0, none⟩)) false t).run P w = .ok (.tuple #[.bool false]) w) ∨
      ∃ e d, e ∈ es.toList ∧ e.born ∉ seen.toList ∧ (Instr.next (.pointer (some ⟨g, 0, none⟩)) false t).run P w =
        .ok (.tuple #[.bool true, e.key, e.val]) { w with drawn := d, heap := w.heap.setIfInBounds g (.mapIter (some gm) since (seen.push e.born) since) } := by
  have e1 : (!seen.isEmpty && !es.isEmpty && es.all fun e => decide (e.born ≥ since)) = false := by
    by_cases hes : es.isEmpty = true
    · simp [hes]
    · have : es.all (fun e => decide (e.born ≥ since)) = false := by
        obtain ⟨l⟩ := es
        cases l with
        | nil => simp at hes
        | cons a l =>
          have := hb a (by simp)
          simp
          intro h; omega
      simp [this]
  have e2 : ∀ a : Array MapEntry, (∀ e ∈ a.toList, e.born < since) → a.filter (fun e => decide (e.born < since)) = a := fun a ha => by
    apply Array.ext'
    rw [Array.toList_filter]
    exact List.filter_eq_self.2 fun e he => by simpa using ha e he
  have e3 : ∀ a : Array MapEntry, (∀ e ∈ a.toList, e.born < since) → a.filter (fun e => decide (e.born ≥ since)) = #[] := fun a ha => by
    apply Array.ext'
    rw [Array.toList_filter]
    simp only [List.filter_eq_nil_iff]
    intro e he
    have := ha e he
    simp; omega
  have hleft : ∀ e ∈ (es.filter fun e => !seen.contains e.born).toList, e.born < since := fun e he => by
    rw [Array.toList_filter] at he
    exact hb e (List.mem_filter.1 he).1
  have red : (Instr.next (.pointer (some ⟨g, 0, none⟩)) false t).run P w = (do
      let left := es.filter fun e => !seen.contains e.born
      let candidates : Array (Option MapEntry) := (if left.isEmpty then #[none] else #[]) ++ (left ++ #[]).map some
      match candidates[← choose (.mapNext candidates.size)]? with
      | some (some e) => do
        setObj g (.mapIter (some gm) since (seen.push e.born) since)
        pure (.tuple #[.bool true, e.key, e.val])
      | some none => pure (.tuple #[.bool false])
      | none => stuck "Next: no such candidate" : Sem Value).run P w := by
    simp only [Instr.next, Sem.run_bind, run_getObj h1 (by intro a t f e; cases e), Result.andThen_ok, run_getMap h2, e1, Bool.false_eq_true, if_false, e2 _ hleft, e3 _ hleft]
    rfl
  rw [red]
  generalize hl : es.filter (fun e => !seen.contains e.born) = left
  cases hll : left.toList with
  | nil =>
    have hle : left = #[] := Array.ext' hll
    subst hle
    left
    refine ⟨fun e he => ?_, ?_⟩
    · have h3 : e ∉ (es.filter fun e => !seen.contains e.born).toList := by rw [hl]; simp
      rw [Array.toList_filter, List.mem_filter] at h3
      have : (!seen.contains e.born) = false := by
        cases hc : (!seen.contains e.born) with
        | false => rfl
        | true => exact absurd ⟨he, hc⟩ h3
      simpa using this
    · simp [Question.forced]
  | cons a l =>
    right
    have hne : left.isEmpty = false := by
      cases hq : left.isEmpty with
      | false => rfl
      | true => rw [Array.isEmpty_iff] at hq; subst hq; simp at hll
    have hsz : 0 < left.size := by rw [← Array.length_toList, hll]; simp
    have hmem : ∀ i (hi : i < left.size), left[i] ∈ es.toList ∧ left[i].born ∉ seen.toList := fun i hi => by
      have h3 : left[i] ∈ (es.filter fun e => !seen.contains e.born).toList := by rw [hl]; simp
      rw [Array.toList_filter, List.mem_filter] at h3
      refine ⟨h3.1, ?_⟩
      simpa using h3.2
    have hcand : ((if left.isEmpty then #[none] else #[]) ++ (left ++ #[]).map some : Array (Option MapEntry)) = left.map some := by rw [hne]; simp
    simp only [hcand, Sem.run_bind, run_choose, Array.size_map]
    have hgo : ∀ (i : Nat) (w' : World), i < left.size → w'.heap = w.heap → (match (left.map some)[i]? with
        | some (some e) => (do
          setObj g (.mapIter (some gm) since (seen.push e.born) since)
          pure (.tuple #[.bool true, e.key, e.val]) : Sem Value)
        | some none => pure (.tuple #[.bool false])
        | none => stuck "Next: no such candidate").run P w' = .ok (.tuple #[.bool true, (left[i]?.map (·.key)).getD undef, (left[i]?.map (·.val)).getD undef]) { w' with heap := w'.heap.setIfInBounds g (.mapIter (some gm) since (seen.push ((left[i]?.map (·.born)).getD 0)) since) } := fun i w' hi hw' => by
      have h1' : w'.heap[g]? = some (.mapIter (some gm) since seen since) := by rw [hw']; exact h1
      simp [hi, run_setObj h1' (by intro a t f e; cases e)]
    by_cases hf : (Question.mapNext left.size).forced = true
    · rw [if_pos hf]
      simp only [Result.andThen_ok]
      refine ⟨left[0], w.drawn, (hmem 0 hsz).1, (hmem 0 hsz).2, ?_⟩
      refine (hgo 0 w hsz rfl).trans ?_
      simp [hsz]
    · rw [if_neg hf]
      simp only [Result.andThen_ok]
      have hi : (Question.mapNext left.size).cut (w.tape w.drawn (.mapNext left.size)) < left.size := Nat.mod_lt _ hsz
      generalize (Question.mapNext left.size).cut (w.tape w.drawn (.mapNext left.size)) = i at hi
      refine ⟨left[i], w.drawn + 1, (hmem i hi).1, (hmem i hi).2, ?_⟩
      refine (hgo i { w with drawn := w.drawn + 1 } hi rfl).trans ?_
      simp [hi]
theorem namIn_true {i : Nam} : ∀ {l : List Nam}, namIn i l = true → ∃ j, j ∈ l ∧ i.n = j.n
  | [], h => by cases h
  | j :: l, h => by
    have h' : cB (Nat.beq i.n j.n) true (namIn i l) = true := h
    cases c : Nat.beq i.n j.n with
    | true => rw [Nat.beq_eq] at c; exact ⟨j, by simp, c⟩
    | false => rw [c] at h'; obtain ⟨k, h1, h2⟩ := namIn_true (l := l) h'; exact ⟨k, by simp [h1], h2⟩
theorem namIn_of {i j : Nam} (hn : i.n = j.n) : ∀ {l : List Nam}, j ∈ l → namIn i l = true
  | [], h => by cases h
  | k :: l, h => by
    show cB (Nat.beq i.n k.n) true (namIn i l) = true
    rcases List.mem_cons.1 h with rfl | h
    · rw [show Nat.beq i.n j.n = true by rw [Nat.beq_eq]; exact hn]; rfl
    · cases c : Nat.beq i.n k.n with
      | true => rfl
      | false => exact namIn_of hn h
theorem unseen_mem {b m : Nam} {since base sp : Nat} {seen : List Nam} {s : AS} {x : Ent} (hn : namIn x.id seen = false) : ∀ {es : List Ent} {j : Nat}, x ∈ es → ∃ j', (AV.tuple [.bool true, x.key, x.val], atA (putA s b (.iter (some m) since (x.id :: seen) base sp)) base sp j') ∈ unseen b m since base sp seen s es j
  | [], _, h => by cases h
  | y :: es, j, h => by
    have e : unseen b m since base sp seen s (y :: es) j = cB (namIn y.id seen) (unseen b m since base sp seen s es (Nat.add j 1)) ((.tuple [.bool true, y.key, y.val], atA (putA s b (.iter (some m) since (y.id :: seen) base sp)) base sp j) :: unseen b m since base sp seen s es (Nat.add j 1)) := rfl
    rw [e]
    rcases List.mem_cons.1 h with rfl | h
    · rw [hn]; exact ⟨j, by simp [cB]⟩
    · obtain ⟨j', hj⟩ := unseen_mem hn (j := Nat.add j 1) h
      cases namIn y.id seen with
      | true => exact ⟨j', hj⟩
      | false => exact ⟨j', by simp [cB, hj]⟩
theorem atA_at (s : AS) (base sp j : Nat) (p : Pth) : (atA s base sp j).at p = s.at p := by
  unfold atA
  cases Nat.beq sp 0 <;> rfl
theorem atA_tr (s : AS) (base sp j : Nat) : Tr s (atA s base sp j) := by
  unfold atA
  cases Nat.beq sp 0 with
  | false => exact Tr.refl s
  | true => exact Tr.refl s
theorem Sat.same (hs : Sat P ρ S w) {S' : AS} (h : ∀ p, S'.at p = S.at p) : Sat P ρ S' w := by
  refine ⟨fun p => by rw [h]; exact hs.obj p, fun p q g o c o' c' hp hq => ?_, hs.bnd, hs.stp, hs.stinj, hs.glob⟩
  rw [h] at hp hq
  exact hs.inj p q g o c o' c' hp hq
theorem Ext.same {ρ' : Rho} {S' S'' : AS} {w' : World} (he : Ext ρ S w ρ' S' w') (h : ∀ p, S''.at p = S'.at p) (htr : Tr S' S'') : Ext ρ S w ρ' S'' w' :=
  ⟨he.le, he.size, he.old, fun g hg ⟨p, o, c, h1, h2⟩ => he.owns g hg ⟨p, o, c, h1, by rw [← h]; exact h2⟩, he.os, he.tape, he.output, he.tr.trans htr⟩
theorem next_ok (hs : Sat P ρ S w) {it : AV} {ui : Value} {isS : Bool} {t : TypeId} (hi : conc ρ it = some ui) : AN.okV P ρ S w ((Instr.next ui isS t).run P w) ((nextA isS).f it S) := by
  cases isS with
  | true => exact trivial
  | false =>
    refine vPtr_ok trivial fun b o e => ?_
    subst e
    refine cB_ok (fun h0 => ?_) fun _ => trivial
    rw [Nat.beq_eq] at h0
    subst h0
    refine oIter_ok trivial fun m since seen base sp ho => ?_
    rw [getA_eq] at ho
    obtain ⟨g, off, cap, hb, rfl⟩ := conc_ptr hi
    have hobj := hs.obj b.p
    rw [ho] at hobj
    cases m with
    | none =>
      obtain ⟨g', cap', s, c, d, h1, h2, _⟩ := hobj
      rw [look_path hb] at h1
      cases h1
      refine ⟨.tuple #[.bool false], by simp [conc, concs], ?_⟩
      simp [Instr.next, run_getObj h2 (by intro a t f e; cases e)]
    | some m =>
      obtain ⟨g', cap', gm, oo, cc, seen', ks, h1, h2, h3, h4, h5⟩ := hobj
      rw [look_path hb] at h1
      cases h1
      simp only [cO_some]
      refine oMap_ok trivial fun es clk hm => ?_
      rw [getA_eq] at hm
      obtain ⟨l, hl, hr⟩ := map_of hs hm h3
      refine cB_ok (fun hc => ?_) fun _ => trivial
      rw [Nat.beq_eq] at hc
      subst hc
      rw [Nat.add_zero]
      rcases next_run (P := P) (w := w) (t := t) h2 hl hr.below with ⟨n1, n2⟩ | ⟨e, d, n1, n2, n3⟩
      · have hnil : unseen b m since base sp seen S es 0 = [] := by
          cases hu : unseen b m since base sp seen S es 0 with
          | nil => rfl
          | cons y ys =>
            exfalso
            have key : ∀ {es : List Ent} {j : Nat}, (∀ x ∈ es, namIn x.id seen = true) → unseen b m since base sp seen S es j = [] := by
              intro es
              induction es with
              | nil => intro j _; rfl
              | cons x es ih =>
                intro j h
                show cB (namIn x.id seen) (unseen b m since base sp seen S es (Nat.add j 1)) _ = []
                rw [h x (by simp)]
                exact ih fun y hy => h y (by simp [hy])
            rw [key fun x hx => ?_] at hu
            · cases hu
            · obtain ⟨e, he, hxe⟩ := hr.vals hx
              have h6 := n1 e he
              rw [h5, List.mem_reverse] at h6
              obtain ⟨j, hj, hjk⟩ := h4.mem' h6
              have h7 := hs.stinj _ _ _ _ (look_path hxe.id) (look_path hjk)
              exact namIn_of (by rw [look_num hxe.id, look_num hjk, h7]) hj
        rw [hnil, n2]
        refine ⟨ρ, .tuple #[.bool false], w, rfl, (Ext.refl ρ S w).same (fun p => atA_at _ _ _ _ p) (atA_tr _ _ _ _), hs.same fun p => atA_at _ _ _ _ p, by simp [conc, concs]⟩
      · obtain ⟨x, hx, hxe⟩ := hr.ents n1
        have hnot : namIn x.id seen = false := by
          cases hq : namIn x.id seen with
          | false => rfl
          | true =>
            exfalso
            obtain ⟨j, hj, hn⟩ := namIn_true hq
            obtain ⟨k, hk, hjk⟩ := h4.mem hj
            have : x.id = j := nam_eq hxe.id hjk hn
            subst this
            have h6 := hxe.id
            rw [hjk] at h6
            have h7 := (Tgt.stp.inj (Option.some.inj h6)).2
            apply n2
            rw [h5, List.mem_reverse, ← h7]
            exact hk
        obtain ⟨j', hj'⟩ := unseen_mem (b := b) (m := m) (since := since) (base := base) (sp := sp) (s := S) hnot (j := 0) hx
        have hlt : g < w.heap.size := (Array.getElem?_eq_some_iff.1 h2).1
        have hat : ∀ p, (putA S b (.iter (some m) since (x.id :: seen) base sp)).at p = if p = b.p then .iter (some m) since (x.id :: seen) base sp else S.at p := at_putA (by intro e; cases e)
        have hset : (w.heap.setIfInBounds g (.mapIter (some gm) since (seen'.push e.born) since))[g]? = some (.mapIter (some gm) since (seen'.push e.born) since) := by rw [Array.getElem?_setIfInBounds_self_of_lt hlt]
        obtain ⟨c1, c2⟩ := hs.upd (S' := putA S b (.iter (some m) since (x.id :: seen) base sp)) (w' := { w with drawn := d, heap := w.heap.setIfInBounds g (.mapIter (some gm) since (seen'.push e.born) since) }) (look_path hb) (by rw [ho]; exact trivial) (by rw [hat, if_pos rfl]; exact trivial)
          (Le.refl _) (fun p t h => .inl h) (fun p hp => .inl (by rw [hat, if_neg hp])) (Tr.put rfl) (by
            rw [hat, if_pos rfl]
            exact ⟨g, cap, gm, oo, cc, _, e.born :: ks, look_path hb, hset, h3, .cons hxe.id h4, by rw [Array.toList_push, h5, List.reverse_cons]⟩) (by simp) (fun g' hg => Array.getElem?_setIfInBounds_ne (Ne.symm hg)) (fun es c hc => by
            have hset' : ({ w with drawn := d, heap := w.heap.setIfInBounds g (.mapIter (some gm) since (seen'.push e.born) since) } : World).heap[g]? = _ := hset
            rw [hset'] at hc; cases hc) rfl rfl rfl
        cases hu : unseen b m since base sp seen S es 0 with
        | nil => rw [hu] at hj'; cases hj'
        | cons y ys =>
          rw [hu] at hj'
          refine ⟨_, hj', ρ, .tuple #[.bool true, e.key, e.val], _, n3, c2.same (fun p => atA_at _ _ _ _ p) (atA_tr _ _ _ _), c1.same fun p => atA_at _ _ _ _ p, ?_⟩
          simp [conc, concs, hxe.key, hxe.val]
theorem entry_ok (hs : Sat P ρ S w) {it : AV} {ui : Value} (hi : conc ρ it = some ui) : AN.okV P ρ S w ((Instr.entry ui).run P w) (entryA it S) := by
  refine vPtr_ok trivial fun b o e => ?_
  subst e
  refine cB_ok (fun h0 => ?_) fun _ => trivial
  rw [Nat.beq_eq] at h0
  subst h0
  refine oIter_ok trivial fun m since seen base sp ho => ?_
  rw [getA_eq] at ho
  obtain ⟨g, off, cap, hb, rfl⟩ := conc_ptr hi
  have hobj := hs.obj b.p
  rw [ho] at hobj
  cases m with
  | none => exact trivial
  | some m =>
    obtain ⟨g', cap', gm, oo, cc, seen', ks, h1, h2, h3, h4, h5⟩ := hobj
    rw [look_path hb] at h1
    cases h1
    simp only [cO_some]
    refine oMap_ok trivial fun es clk hm => ?_
    rw [getA_eq] at hm
    obtain ⟨l, hl, hr⟩ := map_of hs hm h3
    refine cB_ok (fun hc => ?_) fun _ => trivial
    rw [Nat.beq_eq] at hc
    subst hc
    refine cL_ok (fun _ => trivial) fun i rest hsn => ?_
    subst hsn
    refine cO_ok trivial fun x hx => ?_
    obtain ⟨hxm, hxn⟩ := byId_some hx
    cases h4 with
    | @cons _ k _ ks h6 h7 =>
    obtain ⟨e, he, hxe⟩ := hr.vals hxm
    have hid : x.id = i := nam_eq hxe.id h6 hxn
    have hk : e.born = k := by
      have h8 := hxe.id
      rw [hid, h6] at h8
      exact (Tgt.stp.inj (Option.some.inj h8)).2.symm
    have hback : seen'.back? = some k := by
      rw [← Array.getLast?_toList, h5]; simp
    have hfind : l.find? (fun e => e.born == k) = some e := by
      rw [← Array.find?_toList]
      cases hq : l.toList.find? (fun e => e.born == k) with
      | none =>
        have := List.find?_eq_none.1 hq e he
        simp [hk] at this
      | some e' =>
        have h8 := List.find?_some hq
        have h9 := List.mem_of_find?_eq_some hq
        congr 1
        refine nodup_inj hr.born h9 he ?_
        simp at h8
        rw [h8, hk]
    refine ⟨.tuple #[e.key, e.val], by simp [conc, concs, hxe.key, hxe.val], ?_⟩
    simp [Instr.entry, run_getObj h2 (by intro a t f e; cases e), hback, run_getMap hl, hfind]
end
end Go.Proofs.YthgkdadchfoomabGreat.Ev
