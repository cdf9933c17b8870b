/- A run of a program on abstract memory: new blocks, appending, copying. -/
import Derived.Test.YtfnjojdiiklleaaGreatEvM
import Derived.Laws.MakeOwn
import Derived.Laws.AppendOwn
namespace Go.Proofs.YtfnjojdiiklleaaGreat.Ev
section
variable {P : Program} {ρ : Rho} {S : AS} {w : World}

/-! ### New blocks -/
theorem newA_okQ {β : Type} {Q : β → Prop} {o : AO} {by_ : Nat} {no : β} {k : Nam → AS → β} (hno : Q no)
    (h : ∀ i : Nam, i.n = i.p.num → S.at i.p = .free → Q (k i ⟨hput S.top i.p o, S.lay, logA S i, Nat.add S.next by_⟩)) : Q (newA S o by_ no k) := by
  unfold newA
  refine cB_ok (fun hb => ?_) fun _ => hno
  unfold newI
  rw [getA_eq]
  show Q (oFree (S.at (nam S.next).p) no (k (nam S.next) ⟨hput S.top (nam S.next).p o, S.lay, logA S (nam S.next), Nat.add S.next by_⟩))
  cases e : S.at (nam S.next).p <;> first | exact hno | exact h _ (digs_num (k := S.next) (by simpa using hb)).symm e
/-- A new row of cells. -/
theorem Sat.newCells (hs : Sat P ρ S w) {i : Nam} {m : Md} {t : TypeId} {cs : List AV} {l : List Value} {arr : Array Value} {fz : Nat × Nat} {cap : Nat} {S' : AS} {w' : World} (hf : S.at i.p = .free)
    (hS : ∀ p, S'.at p = if p = i.p then .cells m t cs else S.at p) (htr : Tr S S') (hw : w'.heap = w.heap.push (.cells arr t fz)) (ho : w'.os = w.os) (ht : w'.tape = w.tape) (hout : w'.output = w.output)
    (hcs : concs ρ cs = some l) (hfz : fzFree fz arr.size) (hlies : ∀ (i : Nat) (v : Value), l[i]? = some v → arr[i]? = some v) (hown : m = .own → arr = l.toArray ∧ fz = (0, 0))
    (hrow : m = .row → ∀ z, sizeA P t = some z → cap * z ≤ arr.size ∧ cs.length ≤ cap * z) (_hlib : m ≠ .lib) :
    Sat P (ρ.set i.p (.blk w.heap.size 0 cap)) S' w' ∧ Ext ρ S w (ρ.set i.p (.blk w.heap.size 0 cap)) S' w' := by
  refine hs.new (o := .cells m t cs) hf hS htr hw ho ht hout fun hle => ?_
  exact ⟨w.heap.size, 0, cap, arr, fz, l, Rho.set_same _ _ _, by rw [hw]; simp, hfz, concs_mono hle _ hcs, fun i v h => by rw [Nat.zero_add]; exact hlies i v h,
    fun hm => ⟨rfl, hown hm⟩, fun hm z hz => by rw [Nat.zero_add]; exact hrow hm z hz, trivial⟩
theorem fz0 (n : Nat) : fzFree (0, 0) n := fun _ _ h => absurd h.2 (Nat.not_lt_zero _)
theorem new_own (hs : Sat P ρ S w) {t : TypeId} {cs : List AV} {l : List Value} {by_ : Nat} (hcs : concs ρ cs = some l) {k : Nam → AV} {u : Nat → Value} {r : Result Value}
    (hk : ∀ i ρ' g, look ρ' i = some (.blk g 0 0) → conc ρ' (k i) = some (u g))
    (hr : r = .ok (u w.heap.size) { w with heap := w.heap.push (.cells l.toArray t) }) : AN.okV P ρ S w r (newA S (.cells .own t cs) by_ .no fun i s => .val (k i) s) := by
  refine newA_okQ trivial fun i hi hf => ?_
  obtain ⟨h1, h2⟩ := hs.newCells (m := .own) (t := t) (cap := 0) (w' := { w with heap := w.heap.push (.cells l.toArray t) }) hf (at_put (by intro e; cases e) rfl) (Tr.put rfl) rfl rfl rfl rfl hcs (fz0 _)
    (fun i v h => by rw [List.getElem?_toArray]; exact h) (fun _ => ⟨rfl, rfl⟩) (fun h => by cases h) (fun h => by cases h)
  exact ⟨_, _, _, hr, h2, h1, hk i _ _ (look_set hi _)⟩
theorem newV_ok (hs : Sat P ρ S w) {t : TypeId} {v : AV} {u : Value} (hu : conc ρ v = some u) : AN.okV P ρ S w ((do pure (.pointer (some (← newVar t u))) : Sem Value).run P w) (newV S t (cellsA v)) := by
  refine new_own hs (cellsA_conc hu) (k := fun i => .ptr i 0) (u := fun g => .pointer (some ⟨g, 0, none⟩)) (fun i ρ' g h => by simp [conc, h]) ?_
  simp only [newVar, newRow, Sem.run_bind, run_newObj, Result.andThen_ok, Sem.run_pure, Array.toArray_toList]
theorem alloc_ok (hs : Sat P ρ S w) {t : TypeId} {z : AV} (hz : zeroA P t = some z) : AN.okV P ρ S w ((Instr.alloc t true (.tuple #[])).run P w) (newV S t (cellsA z)) := by
  obtain ⟨u, hr, hc⟩ := zero_run hz (ρ := ρ)
  have := newV_ok hs (t := t) hc
  simpa only [Instr.alloc, Sem.run_bind, hr, Result.andThen_ok] using this
theorem rep_eq {α : Type} (z : List α) : ∀ n, rep z (n + 1) = z ++ rep z n := fun n => by
  have : rep z (n + 1) = app z (rep z n) := rfl
  rw [this, app_eq]
theorem rep_zero {α : Type} (z : List α) : rep z 0 = [] := rfl
theorem rep_get {α : Type} (z : List α) : ∀ (n i : Nat), i < n * z.length → (rep z n)[i]? = z[i % z.length]?
  | 0, i, h => by simp at h
  | n + 1, i, h => by
    rw [rep_eq]
    by_cases c : i < z.length
    · rw [List.getElem?_append_left c, Nat.mod_eq_of_lt c]
    · rw [Nat.succ_mul] at h
      rw [List.getElem?_append_right (by omega), rep_get z n (i - z.length) (by omega)]
      rw [← Nat.mod_eq_sub_mod (by omega)]
theorem concs_rep {z : List AV} {l : List Value} (h : concs ρ z = some l) : ∀ n, concs ρ (rep z n) = some (rep l n)
  | 0 => rfl
  | n + 1 => by rw [rep_eq, rep_eq]; exact concs_append h (concs_rep h n)
/-- Zeros, as the model lays them. -/
theorem zeros_eq (z : Array Value) (n m : Nat) (h : m = n * z.size) : madeCells z m = (rep z.toList n).toArray := by
  subst h
  apply Array.ext_getElem?
  intro i
  by_cases c : i < n * z.size
  · rw [List.getElem?_toArray (xs := rep z.toList n), rep_get _ _ _ (by rw [Array.length_toList]; exact c)]
    have hz : 0 < z.size := by
      rcases Nat.eq_zero_or_pos z.size with e | e
      · rw [e] at c; simp at c
      · exact e
    have hm := Nat.mod_lt i hz
    simp [madeCells, c, hm]
  · rw [Array.getElem?_eq_none (by rw [size_madeCells]; omega), Array.getElem?_eq_none (by rw [List.size_toArray, rep_length, Array.length_toList]; omega)]
theorem makeSlice_ok (hs : Sat P ρ S w) {t : TypeId} {l c : AV} {ul uc : Value} (hl : conc ρ l = some ul) (hc : conc ρ c = some uc) : AN.okV P ρ S w ((Instr.makeSlice t ul uc).run P w) ((makeSliceA P t).f l c S) := by
  unfold makeSliceA
  split
  · rename_i e hu
    split
    · rename_i z zv hz hzv
      split
      · rename_i hlen
        refine vInt_ok trivial fun kl n e1 => ?_
        subst e1; cases conc_int hl
        refine vInt_ok trivial fun kc m e1 => ?_
        subst e1; cases conc_int hc
        refine cI_ok (fun n e1 => ?_) fun _ _ => trivial
        subst e1
        refine cI_ok (fun m e1 => ?_) fun _ _ => trivial
        subst e1
        refine cB_ok (fun hb => ?_) fun _ => trivial
        obtain ⟨hb1, hb2⟩ := bAnd_iff.1 hb
        have hnm : n ≤ m := by simpa using hb1
        have hsm : m * (z + 1 + bytesA P e) ≤ 1000000000 := by simpa [small] using hb2
        obtain ⟨u, hzr, hzc⟩ := zero_run hzv (ρ := ρ)
        have hcz := cellsA_conc hzc
        have hzl : u.cells.size = z := by
          have := concs_length hcz
          rw [Nat.beq_eq, len_eq] at hlen
          simp only [Array.length_toList] at this
          omega
        obtain ⟨ti, hti, htz⟩ := info_run hz
        have hby : bytesA P e = ti.bytes := by simp [bytesA, hti]
        have hm9 : m ≤ 1000000000 := Nat.le_trans (Nat.le_mul_of_pos_right m (by omega)) hsm
        have hbm : m * ti.bytes ≤ 1000000000 := by rw [← hby]; exact Nat.le_trans (Nat.mul_le_mul_left m (by omega)) hsm
        have hbm' : (ti.bytes : Int) * (m : Int) ≤ 281474976710656 := by
          have : (ti.bytes : Int) * (m : Int) = ((m * ti.bytes : Nat) : Int) := by rw [Int.natCast_mul, Int.mul_comm]
          rw [this]; omega
        have hzi : ti.zero = some u := by
          have := hzr w
          simp only [zeroValue, Sem.run_bind, typeInfo, run_program, hti, Result.andThen_ok, Sem.run_pure] at this
          cases hq : ti.zero with
          | none => rw [hq] at this; cases this
          | some y => rw [hq] at this; cases this; rfl
        have hrun := run_make (P := P) w t e ti u hu hti hzi kl kc n m (by omega) (by omega) hbm' (by omega)
        refine new_own hs (concs_rep hcz m) (k := fun i => .slice i 0 n m) (u := fun g => .slice (some ⟨g, 0, none⟩) n m) (fun i ρ' g h => by simp only [conc, h]; rw [if_pos hnm]) ?_
        rw [← zeros_eq u.cells m (m * ti.size) (by rw [htz, hzl])]
        exact hrun
      · exact trivial
    · exact trivial
  · exact trivial
end
end Go.Proofs.YtfnjojdiiklleaaGreat.Ev
namespace Go.Proofs.YtfnjojdiiklleaaGreat.Ev
section
variable {P : Program} {ρ : Rho} {S : AS} {w : World}

/-! ### Sources -/
theorem lenS_run {x : AV} {n : Nat} {u : Value} (h : lenS x = some n) (hu : conc ρ x = some u) : (∀ w, (Builtin.lenOf u).run P w = .ok n w) ∧ ∃ a c, u = .slice a n c := by
  have h' : vSlT x none (some 0) (fun _ _ n _ => some n) (fun _ _ n _ => some n) (fun _ _ _ _ => some 0) = some n := h
  rcases vSlT_some h' with ⟨rfl, h1⟩ | ⟨b, o, m, c, rfl, h1⟩ | ⟨b, o, m, c, rfl, h1⟩ | ⟨b, o, p, c, rfl, h1⟩
  · cases h1; cases conc_nils hu; exact ⟨fun _ => rfl, _, _, rfl⟩
  · cases h1; obtain ⟨_, _, _, _, _, rfl⟩ := conc_slice hu; exact ⟨fun _ => rfl, _, _, rfl⟩
  · cases h1; obtain ⟨_, _, _, _, _, rfl⟩ := conc_row hu; exact ⟨fun _ => rfl, _, _, rfl⟩
  · cases h1; obtain ⟨_, _, _, _, _, rfl⟩ := conc_tail hu; exact ⟨fun _ => rfl, _, _, rfl⟩
theorem firstS_run (hs : Sat P ρ S w) {z n : Nat} {x : AV} {q : List AV} {u : Value} (h : firstS z n x S = some q) (hl : ∃ m, lenS x = some m ∧ n ≤ m) (hu : conc ρ x = some u) :
    ∃ vs, concs ρ q = some vs ∧ vs.length = n * z ∧ ∀ w', w'.heap = w.heap → (Builtin.firstCells z n u).run P w' = .ok vs.toArray w' := by
  have h' : vSlT x none (some []) (fun b o _ _ => oCells (getA S b) none fun _ _ cs => tke (Nat.mul n z) (drp o cs)) (fun b o _ _ => oCells (getA S b) none fun _ _ cs => tke (Nat.mul n z) (drp o cs)) (fun _ _ _ _ => some []) = some q := h
  have key : ∀ (b : Nam) (o : Nat) (g off cap : Nat) (len c : Nat), look ρ b = some (.blk g off cap) → (oCells (getA S b) none fun _ _ cs => tke (Nat.mul n z) (drp o cs)) = some q →
      ∃ vs, concs ρ q = some vs ∧ vs.length = n * z ∧ ∀ w', w'.heap = w.heap → (Builtin.firstCells z n (.slice (some ⟨g, off + o, none⟩) len c)).run P w' = .ok vs.toArray w' := fun b o g off cap len c hb hq => by
    obtain ⟨m, e, cs, ho, h2⟩ := oCells_some hq
    rw [getA_eq] at ho
    obtain ⟨g', off', cap', arr, fz, l, r⟩ := relC_of hs ho
    have := look_path hb
    rw [r.here] at this
    cases this
    obtain ⟨h5, h6⟩ := tke_some _ _ _ h2
    rw [drp_eq] at h5 h6
    subst h5
    rw [List.length_drop] at h6
    have hlen := concs_length r.vals
    have h6 : n * z ≤ cs.length - o := h6
    have hvl : ((l.drop o).take (n * z)).length = n * z := by rw [List.length_take, List.length_drop]; omega
    refine ⟨(l.drop o).take (n * z), concs_take (concs_drop r.vals), hvl, fun w' hw' => ?_⟩
    have hcell : ∀ j v, ((l.drop o).take (n * z))[j]? = some v → w'.cell? ((⟨g, off + o, none⟩ : Addr).add j) = some v := fun j v hj => by
      rw [addr_add, Nat.add_assoc]
      have := r.cell (i := o + j) (v := v) (by
        rw [List.getElem?_take] at hj
        split at hj
        · rw [List.getElem?_drop] at hj; exact hj
        · cases hj)
      simpa only [World.cell?, hw'] using this
    have := run_firstCells_some (P := P) w' z n ⟨g, off + o, none⟩ len c _ hvl hcell
    exact this
  rcases vSlT_some h' with ⟨rfl, h1⟩ | ⟨b, o, m, c, rfl, h1⟩ | ⟨b, o, m, c, rfl, h1⟩ | ⟨b, o, p, c, rfl, h1⟩
  · cases h1; cases conc_nils hu
    obtain ⟨m, hm, hn⟩ := hl
    have hm0 : m = 0 := by cases hm; rfl
    have : n = 0 := by omega
    subst this
    exact ⟨[], rfl, by simp, fun w' _ => by simp [Builtin.firstCells]⟩
  · obtain ⟨g, off, cap, hb, _, rfl⟩ := conc_slice hu; exact key b o g off cap _ _ hb h1
  · obtain ⟨g, off, cap, hb, _, rfl⟩ := conc_row hu; exact key b o g off cap _ _ hb h1
  · cases h1
    obtain ⟨g, off, cap, hb, _, rfl⟩ := conc_tail hu
    obtain ⟨m, hm, hn⟩ := hl
    have hm0 : m = 0 := by cases hm; rfl
    have : n = 0 := by omega
    subst this
    exact ⟨[], rfl, by simp, fun w' _ => by simp [Builtin.firstCells, loadCells, loadCellsFrom]⟩

/-! ### Appending, in the model -/
theorem append_room {ats : Array TypeId} {sT yT ty e e2 : TypeId} {base : Option Addr} {sLen sCap n z : Nat} {x : Value} {news : List Value} (h0 : ats[0]? = some sT) (h1 : ats[1]? = some yT)
    (hu : P.underlying sT = some (.slice e)) (hy : P.underlying yT = some (.slice e2)) (hz : sizeA P e = some z) (hx : (Builtin.lenOf x).run P w = .ok n w) (hf : (Builtin.firstCells z n x).run P w = .ok news.toArray w)
    (hr : sLen + n ≤ sCap) {w' : World} (hst : ∀ a, base = some a → (storeCells (a.add (sLen * z)) news).run P w = .ok () w') (hn : base = none → w' = w) :
    (Builtin.append_ ats ty #[.slice base sLen sCap, x]).run P w = .ok (.slice base (sLen + n) sCap) w' := by
  cases base with
  | none =>
    cases hn rfl
    simp [Builtin.append_, h0, h1, run_underlying hu, run_underlying hy, size_run hz, hx, hr, hf]
  | some a =>
    have := hst a rfl
    simp [Builtin.append_, h0, h1, run_underlying hu, run_underlying hy, size_run hz, hx, hr, hf, this]
theorem append_grow {ats : Array TypeId} {sT yT ty e e2 : TypeId} {base : Option Addr} {sLen sCap n z : Nat} {x zv : Value} {olds news : List Value} (h0 : ats[0]? = some sT) (h1 : ats[1]? = some yT)
    (hu : P.underlying sT = some (.slice e)) (hy : P.underlying yT = some (.slice e2)) (hz : sizeA P e = some z) (hzv : ∀ w, (zeroValue e).run P w = .ok zv w) (hx : (Builtin.lenOf x).run P w = .ok n w)
    (hf : (Builtin.firstCells z n x).run P w.drew = .ok news.toArray w.drew) (ho : (Builtin.firstCells z sLen (.slice base sLen sCap)).run P w.drew = .ok olds.toArray w.drew)
    (hr : sCap < sLen + n) (hfit : (sLen + n) * (bytesA P e + 1) ≤ 1000000000) :
    (Builtin.append_ ats ty #[.slice base sLen sCap, x]).run P w = .ok (.slice (some ⟨w.heap.size, 0, none⟩) (sLen + n) (grownCap w (sLen + n) sCap e))
      (w.drew.alloc (.cells (olds.toArray ++ news.toArray ++ Builtin.zeroCells zv.cells (grownCap w (sLen + n) sCap e - (sLen + n))) e)) := by
  obtain ⟨ti, hti, htz⟩ := info_run hz
  have hby : bytesA P e = ti.bytes := by simp [bytesA, hti]
  have hn : ¬ (sLen + n ≤ sCap) := by omega
  have hb : (sLen + n) * ti.bytes ≤ 1000000000 := by rw [← hby]; exact Nat.le_trans (Nat.mul_le_mul_left _ (by omega)) hfit
  have hl : sLen + n ≤ 1000000000 := Nat.le_trans (Nat.le_mul_of_pos_right _ (by omega)) hfit
  have h63' : ¬ (9223372036854775807 < ((sLen : Int) + (n : Int))) := by omega
  have h48 := growslice_fits (bytes := ti.bytes) hr (by omega)
  have h48' : ¬ (281474976710656 < Builtin.nextslicecap (sLen + n) sCap * ti.bytes) := by omega
  have hz' : ∀ w, (sizeOf e).run P w = .ok z w := fun w => size_run hz
  simp [Builtin.append_, h0, h1, run_underlying hu, run_underlying hy, hz', typeInfo, hti, hzv, hx, hn, h63', h48', Question.forced, hf, ho, newRow, grownCap]
  congr 2
  apply Array.ext'
  simp

/-! ### Appending -/
theorem zeroCells_size (z : Array Value) (n : Nat) : (Builtin.zeroCells z n).size = n * z.size := by simp [Builtin.zeroCells]
/-- A grown row, with a new name. -/
theorem grown_ok (hs : Sat P ρ S w) {i : Nam} {e : TypeId} {old new : List AV} {olds news zl : List Value} {cap z n : Nat} {S' : AS} (hi : i.n = i.p.num) (hf : S.at i.p = .free)
    (hS : ∀ p, S'.at p = if p = i.p then .cells .row e (old ++ new) else S.at p) (htr : Tr S S') (ho : concs ρ old = some olds) (hn : concs ρ new = some news) (hz : sizeA P e = some z)
    (hlen : olds.length + news.length = n * z) (hcap : n ≤ cap) (hzl : zl.length = (cap - n) * z) {r : Result Value}
    (hr : r = .ok (.slice (some ⟨w.heap.size, 0, none⟩) n cap) (w.drew.alloc (.cells (olds.toArray ++ news.toArray ++ zl.toArray) e))) :
    AN.okV P ρ S w r (.val (.row i 0 n 0) S') := by
  have harr : olds.toArray ++ news.toArray ++ zl.toArray = (olds ++ news ++ zl).toArray := by simp
  have hsz : (olds ++ news ++ zl).length = cap * z := by
    simp only [List.length_append, hzl, hlen]
    rw [← Nat.add_mul]; congr 1; omega
  have hol := concs_length ho
  have hnl := concs_length hn
  obtain ⟨h1, h2⟩ := hs.newCells (m := .row) (t := e) (cap := cap) (arr := (olds ++ news ++ zl).toArray) (fz := (0, 0)) (w' := w.drew.alloc (.cells (olds.toArray ++ news.toArray ++ zl.toArray) e)) hf hS htr (by rw [harr]; rfl) rfl rfl rfl
    (concs_append ho hn) (fz0 _) (fun i v h => by rw [List.getElem?_toArray, List.getElem?_append_left (List.getElem?_eq_some_iff.1 h).1]; exact h) (fun h => by cases h)
    (fun _ z' hz' => by
      rw [hz] at hz'; cases hz'
      refine ⟨by rw [List.size_toArray, hsz]; exact Nat.le_refl _, ?_⟩
      rw [List.length_append, ← hol, ← hnl, hlen]
      exact Nat.mul_le_mul_right z hcap) (fun h => by cases h)
  refine ⟨_, .slice (some ⟨w.heap.size, 0, none⟩) n cap, _, hr, h2, h1, ?_⟩
  simp only [conc, look_set hi]
  rw [if_pos (by omega)]; rfl
theorem rowI_okQ {β : Type} {Q : β → Prop} {rs : Nat} {b : Nam} {o : AO} {no : β} {k : Nam → AS → β} (hno : Q no)
    (h : ∀ (i : Nam) (m : Nat), i.n = i.p.num → S.at i.p = .free → Q (k i ⟨hput S.top i.p o, S.lay, logA S i, m⟩)) : Q (rowI rs b o S no k) := by
  unfold rowI
  have hnew : Q (newA S o 1 no k) := newA_okQ hno fun i hi hf => h i _ hi hf
  refine cB_ok (fun hb => ?_) fun _ => hnew
  rw [getA_eq]
  have h1 := (bAnd_iff.1 (bAnd_iff.1 hb).2).2
  have hi : (nam (b.n + 1)).n = (nam (b.n + 1)).p.num := (digs_num (k := b.n + 1) (by simpa using h1)).symm
  cases e : S.at (nam (Nat.add b.n 1)).p with
  | free =>
    show Q (newI S (nam (Nat.add b.n 1)) o 0 no k)
    unfold newI
    rw [getA_eq]
    have e' : S.at (nam (b.n + 1)).p = .free := e
    rw [e]
    exact h _ _ hi e'
  | _ => exact hnew
theorem grow_ok (hs : Sat P ρ S w) {rs e e2 : Nat} {z n : Nat} {x : AV} {ux uv : Value} {new : List AV} {news : List Value} {ats : Array TypeId} {sT yT ty : TypeId} {zv : AV} (h0 : ats[0]? = some sT) (h1 : ats[1]? = some yT)
    (hu : P.underlying sT = some (.slice e)) (hy : P.underlying yT = some (.slice e2)) (hz : sizeA P e = some z) (hz0 : 0 < z) (hzv : zeroA P e = some zv) (hzl : len (cellsA zv) = z) (hx : conc ρ x = some ux)
    (hln : ∀ w, (Builtin.lenOf uv).run P w = .ok n w) (hfn : ∀ w', w'.heap = w.heap → (Builtin.firstCells z n uv).run P w' = .ok news.toArray w') (hnews : concs ρ new = some news) (hnl : news.length = n * z) (hone : ∀ y ∈ news, y.oneCell' = true) :
    AN.okV P ρ S w ((Builtin.append_ ats ty #[ux, uv]).run P w) (growA rs e z (bytesA P e + 1) x n new S) := by
  obtain ⟨uz, hzr, hzc⟩ := zero_run hzv (ρ := ρ)
  have hzs : uz.cells.size = z := by
    have := concs_length (cellsA_conc hzc)
    rw [len_eq] at hzl
    simp only [Array.length_toList] at this
    omega
  have hnewl := concs_length hnews
  -- where there is no room
  have hgrow : ∀ {S1 : AS} (hs1 : Sat P ρ S1 w) (hext : Ext ρ S w ρ S1 w) {base : Option Addr} {l cap : Nat} {old : List AV} {olds : List Value} {i : Nam} {S' : AS} (_ : i.n = i.p.num) (_ : S1.at i.p = .free)
      (_ : ∀ p, S'.at p = if p = i.p then .cells .row e (old ++ new) else S1.at p) (_ : Tr S1 S'), concs ρ old = some olds → olds.length = l * z → (Builtin.firstCells z l (.slice base l cap)).run P w.drew = .ok olds.toArray w.drew → cap < l + n →
      (l + n) * (bytesA P e + 1) ≤ 1000000000 → AN.okV P ρ S w ((Builtin.append_ ats ty #[.slice base l cap, uv]).run P w) (.val (.row i 0 (l + n) 0) S') := by
    intro S1 hs1 hext base l cap old olds i S' hi hf hS htr hold hol hof hc hfit
    have hg := append_grow (ty := ty) (w := w) h0 h1 hu hy hz hzr (hln w) (hfn w.drew rfl) hof hc hfit
    have hcap := grownCap_ge w (l + n) cap e
    obtain ⟨ρ', u, w', a1, a2, a3, a4⟩ := grown_ok hs1 (z := z) (n := l + n) (cap := grownCap w (l + n) cap e) (zl := (Builtin.zeroCells uz.cells (grownCap w (l + n) cap e - (l + n))).toList) (r := (Builtin.append_ ats ty #[.slice base l cap, uv]).run P w) hi hf hS htr hold hnews hz (by rw [hol, hnl, Nat.add_mul]) hcap
      (by rw [Array.length_toList, zeroCells_size, hzs]) (by rw [Array.toArray_toList]; exact hg)
    exact ⟨ρ', u, w', a1, hext.trans a2, a3, a4⟩
  refine vSl_ok trivial (fun q => ?_) (fun b o l c q => ?_) (fun b o l c q => ?_)
  · subst q
    cases conc_nils hx
    refine cB_ok (fun hb => ?_) fun hb => ?_
    · rw [Nat.beq_eq] at hb
      subst hb
      have hr := append_room (ty := ty) (base := none) (sLen := 0) (sCap := 0) (w' := w) h0 h1 hu hy hz (hln w) (hfn w rfl) (Nat.le_refl _) (fun a h => by cases h) fun _ => rfl
      exact ⟨ρ, _, w, hr, Ext.refl _ _ _, hs, by simp only [conc]⟩
    · have hn0 : n ≠ 0 := by intro x; subst x; cases hb
      refine cB_ok (fun hsm => ?_) fun _ => trivial
      refine newA_okQ trivial fun i hi hf => ?_
      have hsm : n * (bytesA P e + 1) ≤ 1000000000 := by simpa [small] using hsm
      have := hgrow hs (Ext.refl _ _ _) (S' := ⟨hput S.top i.p (.cells .row e new), S.lay, logA S i, Nat.add S.next (maxM 1 rs)⟩) (base := none) (l := 0) (cap := 0) (old := []) (olds := []) hi hf (at_put (by intro e; cases e) rfl) (Tr.put rfl) rfl (by simp) (by simp [Builtin.firstCells]) (by omega) (by simpa using hsm)
      rw [Nat.zero_add] at this
      exact this
  · subst q
    obtain ⟨g, off, cap, hb, hlc, rfl⟩ := conc_slice hx
    refine oCells_ok trivial fun m e' cs ho => ?_
    refine cB_ok (fun hroom => ?_) fun hroom => ?_
    · have hroom : l + n ≤ c := by simpa using hroom
      have key : AN.okV P ρ S w ((Builtin.append_ ats ty #[.slice (some ⟨g, off + o, none⟩) l c, uv]).run P w) (cO (put new (Nat.add o (Nat.mul l z)) cs) .no fun cs' => .val (.slice b o (Nat.add l n) c) (putA S b (.cells m e' cs'))) := by
        refine cO_ok trivial fun cs' hp => ?_
        obtain ⟨a1, a2, a3⟩ := hs.write (by rw [← getA_eq]; exact ho) (look_path hb) hp hnews hone
        have hr := append_room (ty := ty) (base := some ⟨g, off + o, none⟩) (sLen := l) (sCap := c) (w' := w.setCells g (off + (o + l * z)) news) h0 h1 hu hy hz (hln w) (hfn w rfl) hroom
          (fun a h => by cases h; rw [addr_add, Nat.add_assoc]; exact a1) fun h => by cases h
        refine ⟨ρ, _, _, hr, a3, a2, ?_⟩
        simp only [conc, hb]
        exact if_pos hroom
      exact cMd_ok (fun _ => key) (fun _ => key) fun _ => trivial
    · have hroom : ¬ l + n ≤ c := by intro x; rw [show Nat.ble (Nat.add l n) c = true from Nat.ble_eq_true_of_le x] at hroom; cases hroom
      refine cB_ok (fun hsm => ?_) fun _ => trivial
      have hsm : (l + n + c) * (bytesA P e + 1) ≤ 1000000000 := by simpa [small] using hsm
      refine cO_ok trivial fun old hold => ?_
      obtain ⟨olds, b1, b2, b3⟩ := firstS_run hs (z := z) (n := l) (x := .slice b o l c) (q := old) (by
        show oCells (getA S b) none (fun _ _ cs => tke (Nat.mul l z) (drp o cs)) = some old
        rw [ho]; exact hold) ⟨l, rfl, Nat.le_refl _⟩ hx
      refine newA_okQ trivial fun i hi hf => ?_
      exact hgrow hs (Ext.refl _ _ _) hi hf (at_put (by intro e; cases e) (by rw [app_eq])) (Tr.put rfl) b1 b2 (b3 w.drew rfl) (by omega) (Nat.le_trans (Nat.mul_le_mul_right _ (by omega)) hsm)
  · subst q
    obtain ⟨g, off, cap, hb, hlc, rfl⟩ := conc_row hx
    refine cB_ok (fun hn0 => ?_) fun hn0 => ?_
    · rw [Nat.beq_eq] at hn0
      subst hn0
      have hnn : news = [] := by cases news with | nil => rfl | cons a t => simp at hnl
      subst hnn
      have hr := append_room (ty := ty) (base := some ⟨g, off + o, none⟩) (sLen := l) (sCap := cap - c) (w' := w) h0 h1 hu hy hz (hln w) (hfn w rfl) (by omega) (fun a h => rfl) fun _ => rfl
      refine ⟨ρ, _, w, hr, Ext.refl _ _ _, hs, ?_⟩
      simp only [conc, hb]; exact if_pos hlc
    · refine cB_ok (fun hsm => ?_) fun _ => trivial
      have hsm : (l + n) * (bytesA P e + 1) ≤ 1000000000 := by simpa [small] using hsm
      refine oCells_ok trivial fun m e' cs ho => ?_
      rw [getA_eq] at ho
      refine cMd_ok (fun _ => trivial) (fun hm => ?_) fun _ => trivial
      subst hm
      refine cB_ok (fun hc => ?_) fun _ => trivial
      obtain ⟨hc1, hc2⟩ := bAnd_iff.1 hc
      rw [Nat.beq_eq] at hc1 hc2
      subst hc1
      have hc2 : c * z = o := hc2
      obtain ⟨g', off', cap', arr, fz, ll, r⟩ := relC_of hs ho
      have := look_path hb
      rw [r.here] at this
      cases this
      obtain ⟨hrow1, hrow2⟩ := r.row rfl z hz
      cases hpt : put new (Nat.add o (Nat.mul l z)) cs with
      | some cs' =>
        simp only [cO_some]
        obtain ⟨a1, a2, a3⟩ := hs.write ho (look_path hb) hpt hnews hone
        obtain ⟨_, hfit⟩ := put_some _ _ _ _ hpt
        have hroom : l + n ≤ cap - c := by
          have hfit : o + l * z + new.length ≤ cs.length := hfit
          have h3 : (c + l + n) * z ≤ cap * z := by
            rw [Nat.add_mul, Nat.add_mul, hc2, ← hnl, hnewl]; omega
          have := Nat.le_of_mul_le_mul_right h3 hz0
          omega
        have hr := append_room (ty := ty) (base := some ⟨g, off + o, none⟩) (sLen := l) (sCap := cap - c) (w' := w.setCells g (off + (o + l * z)) news) h0 h1 hu hy hz (hln w) (hfn w rfl) hroom
          (fun a h => by cases h; rw [addr_add, Nat.add_assoc]; exact a1) fun h => by cases h
        refine ⟨ρ, _, _, hr, a3, a2, ?_⟩
        simp only [conc, hb]
        exact if_pos (by show l + n + c ≤ cap; omega)
      | none =>
        simp only [cO_none]
        refine cO_ok trivial fun old hold => ?_
        obtain ⟨olds, b1, b2, b3⟩ := firstS_run hs (z := z) (n := l) (x := .row b o l c) (q := old) (by
          show oCells (getA S b) none (fun _ _ cs => tke (Nat.mul l z) (drp o cs)) = some old
          rw [getA_eq, ho]; exact hold) ⟨l, rfl, Nat.le_refl _⟩ hx
        have hlive : (S.at b.p).live := by rw [ho]; exact trivial
        have hat1 : ∀ p, (putA S b .dead).at p = if p = b.p then .dead else S.at p := at_putA (by intro e; cases e)
        refine rowI_okQ trivial fun i mm hi hf => ?_
        have hib : i.p ≠ b.p ∧ S.at i.p = .free := by
          rw [hat1] at hf
          split at hf
          · cases hf
          · rename_i h; exact ⟨h, hf⟩
        have hat2 : ∀ p, (AS.at ⟨hput (putA S b .dead).top i.p (.cells .row e (app old new)), (putA S b .dead).lay, logA (putA S b .dead) i, mm⟩ p) = if p = i.p then .cells .row e (old ++ new) else (putA S b .dead).at p := at_put (by intro e; cases e) (by rw [app_eq])
        by_cases hroom : l + n ≤ cap - c
        · -- in place
          obtain ⟨hold1, hold2⟩ := tke_some _ _ _ hold
          rw [drp_eq] at hold1 hold2
          have hll := concs_length r.vals
          have hol : olds = (ll.drop o).take (l * z) := by
            have := concs_take (n := l * z) (concs_drop (n := o) r.vals)
            rw [hold1] at b1
            have h2 : concs ρ (List.take (l * z) (List.drop o cs)) = some olds := b1
            rw [h2] at this
            exact Option.some.inj this
          have hsp : off + o + l * z + news.length ≤ arr.size := by
            have h3 : (c + l + n) * z ≤ cap * z := Nat.mul_le_mul_right z (by omega)
            rw [Nat.add_mul, Nat.add_mul, hc2, ← hnl] at h3
            omega
          have hst := run_storeCells_cells (P := P) g (off + o + l * z) news 0 w (fun j hj => by
              simp only [World.cell?, r.obj, Nat.add_zero, Option.isSome_none, Bool.false_eq_true, if_false]
              rw [Array.getElem?_eq_getElem (by omega)]; rfl)
            (fun j hj => by
              have h2 := r.thaw (off + o + l * z + j) (by omega)
              simp only [World.frozen?, r.obj, Nat.add_zero]
              simpa using h2) hone
          rw [Nat.add_zero] at hst
          obtain ⟨a1, a2, a3, a4, a5, a6⟩ := setCells_facts (g := g) news (off + o + l * z) w arr r.obj
          have hr := append_room (ty := ty) (base := some ⟨g, off + o, none⟩) (sLen := l) (sCap := cap - c) (w' := w.setCells g (off + o + l * z) news) h0 h1 hu hy hz (hln w) (hfn w rfl) hroom
            (fun a h => by cases h; rw [addr_add]; exact hst) fun h => by cases h
          have hrel : Le ρ (ρ.set i.p (.blk g (off + o) (cap - c))) → relO P (ρ.set i.p (.blk g (off + o) (cap - c))) (w.setCells g (off + o + l * z) news).heap i.p (.cells .row e (old ++ new)) := by
            intro hle
            refine ⟨g, off + o, cap - c, _, fz, olds ++ news, Rho.set_same _ _ _, a1, (by rw [writes_size]; exact r.thaw), concs_mono hle _ (concs_append b1 hnews), fun j y hj => ?_, fun h => (by cases h), fun _ z' hz' => ?_, trivial⟩
            · rw [writes_get news _ _ _ (fun _ => hsp)]
              by_cases hj1 : j < l * z
              · rw [if_neg (by omega)]
                rw [List.getElem?_append_left (by omega), hol, List.getElem?_take_of_lt hj1, List.getElem?_drop] at hj
                rw [Nat.add_assoc]
                exact r.lies _ _ hj
              · rw [List.getElem?_append_right (by omega)] at hj
                have hj2 := (List.getElem?_eq_some_iff.1 hj).1
                rw [if_pos (by omega), show off + o + j - (off + o + l * z) = j - olds.length by omega]
                exact hj
            · rw [hz] at hz'; cases hz'
              rw [writes_size]
              have e1 : off + o + (cap - c) * z = off + cap * z := by
                rw [← hc2, Nat.add_assoc, ← Nat.add_mul]; congr 2; omega
              refine ⟨by omega, ?_⟩
              have h3 : (l + n) * z ≤ (cap - c) * z := Nat.mul_le_mul_right z hroom
              have hol' := concs_length b1
              rw [List.length_append, ← hol', ← hnewl, hnl, b2, ← Nat.add_mul]
              exact h3
          obtain ⟨c1, c2⟩ := hs.move (S' := ⟨hput (putA S b .dead).top i.p (.cells .row e (app old new)), (putA S b .dead).lay, logA (putA S b .dead) i, mm⟩) (b := b.p) (i := i) (o := .cells .row e (old ++ new)) (off' := off + o) (cap' := cap - c)
            (w' := w.setCells g (off + o + l * z) news) r.here hlive hib.2 (fun p => by rw [hat2, hat1]) ((Tr.put rfl).trans (Tr.put rfl)) hrel a3 a2 (fun es c h => by rw [a1] at h; cases h) a4 a5 a6
          refine ⟨_, _, _, hr, c2, c1, ?_⟩
          simp only [conc, look_set hi]
          exact if_pos (by show l + n + 0 ≤ cap - c; omega)
        · obtain ⟨k1, k2⟩ := hs.kill hat1 (Tr.put rfl)
          exact hgrow k1 k2 hi hf hat2 (Tr.put rfl) b1 b2 (b3 w.drew rfl) (by omega) hsm
theorem append_ok (hs : Sat P ρ S w) {rs : Nat} {x v : AV} {ux uv : Value} {ats : Array TypeId} {sT yT ty : TypeId} (h0 : ats[0]? = some sT) (h1 : ats[1]? = some yT) (hx : conc ρ x = some ux) (hv : conc ρ v = some uv) :
    AN.okV P ρ S w ((Builtin.append_ ats ty #[ux, uv]).run P w) ((appendA P rs sT yT).f x v S) := by
  unfold appendA
  split
  · rename_i e e2 hu hy
    split
    · rename_i z zv hz hzv
      split
      · rename_i hzl
        refine cO_ok trivial fun n hn => cO_ok trivial fun q hq => ?_
        refine cB_ok (fun hc => ?_) fun _ => trivial
        obtain ⟨h2, _⟩ := lenS_run (P := P) hn hv
        obtain ⟨vs, h3, h4, h5⟩ := firstS_run hs hq ⟨n, hn, Nat.le_refl _⟩ hv
        rw [Nat.beq_eq] at hzl
        exact grow_ok hs h0 h1 hu hy hz (Nat.succ_pos _) hzv hzl hx h2 h5 h3 h4 (allCell1_one hc h3)
      · exact trivial
    · exact trivial
  · exact trivial
end
end Go.Proofs.YtfnjojdiiklleaaGreat.Ev
