/- A run of a program on abstract memory: new blocks, appending, copying. -/
import Derived.Test.YthgkdadchfoomabGreatEvM
import Derived.Laws.MakeOwn
import Derived.Laws.AppendOwn
namespace Go.Proofs.YthgkdadchfoomabGreat.Ev
section
variable {P : Program} {ρ : Rho} {S : AS} {w : World}

/-! ### New blocks -/
theorem newA_okQ {β : Type} {Q : β → Prop} {o : AO} {by_ : Nat} {no : β} {k : Nam → AS → β} (hno : Q no)
    (h : ∀ i : Nam, i.n = i.p.num → S.at i.p = .free → Q (k i ⟨hput S.top i.p o, S.lay, logA S i, Nat.add S.next by_⟩)) : Q (newA S o by_ no k) := by
  unfold newA
  refine cB_ok (fun hb => ?_) fun _ => hno
  unfold newI
  rw [getA_eq]
  show Q (oFree (S.at (nam S.next).p) no (k (nam S.next) ⟨hput S.top (nam S.next).p o, S.lay, logA S (nam S.next), Nat.add S.next by_⟩))
  cases e : S.at (nam S.next).p <;> first | exact hno | exact h _ (digs_num (k := S.next) (by simpa using hb)).symm e
/-- A new row of cells. -/
theorem Sat.newCells (hs : Sat P ρ S w) {i : Nam} {m : Md} {t : TypeId} {cs : List AV} {l : List Value} {arr : Array Value} {fz : Nat × Nat} {cap : Nat} {S' : AS} {w' : World} (hf : S.at i.p = .free)
    (hS : ∀ p, S'.at p = if p = i.p then .cells m t cs else S.at p) (htr : Tr S S') (hw : w'.heap = w.heap.push (.cells arr t fz)) (ho : w'.os = w.os) (ht : w'.tape = w.tape) (hout : w'.output = w.output)
    (hcs : concs ρ cs = some l) (hfz : fzFree fz arr.size) (hlies : ∀ (i : Nat) (v : Value), l[i]? = some v → arr[i]? = some v) (hown : m = .own → arr = l.toArray ∧ fz = (0, 0))
    (hrow : m = .row → ∀ z, sizeA P t = some z → cap * z ≤ arr.size ∧ cs.length ≤ cap * z) (hlib : m ≠ .lib) :
    Sat P (ρ.set i.p (.blk w.heap.size 0 cap)) S' w' ∧ Ext ρ S w (ρ.set i.p (.blk w.heap.size 0 cap)) S' w' := by
  refine hs.new (o := .cells m t cs) hf hS htr hw ho ht hout fun hle => ?_
  exact ⟨w.heap.size, 0, cap, arr, fz, l, Rho.set_same _ _ _, by rw [hw]; simp, hfz, concs_mono hle _ hcs, fun i v h => by rw [Nat.zero_add]; exact hlies i v h,
    fun hm => ⟨rfl, hown hm⟩, fun hm z hz => by rw [Nat.zero_add]; exact hrow hm z hz, hlib⟩
theorem fz0 (n : Nat) : fzFree (0, 0) n := fun _ _ h => absurd h.2 (Nat.not_lt_zero _)
theorem new_own (hs : Sat P ρ S w) {t : TypeId} {cs : List AV} {l : List Value} {by_ : Nat} (hcs : concs ρ cs = some l) {k : Nam → AV} {u : Nat → Value} {r : Result Value}
    (hk : ∀ i ρ' g, look ρ' i = some (.blk g 0 0) → conc ρ' (k i) = some (u g))
    (hr : r = .ok (u w.heap.size) { w with heap := w.heap.push (.cells l.toArray t) }) : AN.okV P ρ S w r (newA S (.cells .own t cs) by_ .no fun i s => .val (k i) s) := by
  refine newA_okQ trivial fun i hi hf => ?_
  obtain ⟨h1, h2⟩ := hs.newCells (m := .own) (t := t) (cap := 0) (w' := { w with heap := w.heap.push (.cells l.toArray t) }) hf (at_put (by intro e; cases e) rfl) (Tr.put rfl) rfl rfl rfl rfl hcs (fz0 _)
    (fun i v h => by rw [List.getElem?_toArray]; exact h) (fun _ => ⟨rfl, rfl⟩) (fun h => by cases h) (fun h => by cases h)
  exact ⟨_, _, _, hr, h2, h1, hk i _ _ (look_set hi _)⟩
theorem newV_ok (hs : Sat P ρ S w) {t : TypeId} {v : AV} {u : Value} (hu : conc ρ v = some u) : AN.okV P ρ S w ((do pure (.pointer (some (← newVar t u))) : Sem Value).run P w) (newV S t (cellsA v)) := by
  refine new_own hs (cellsA_conc hu) (k := fun i => .ptr i 0) (u := fun g => .pointer (some ⟨g, 0, none⟩)) (fun i ρ' g h => by simp [conc, h]) ?_
  simp only [newVar, newRow, Sem.run_bind, run_newObj, Result.andThen_ok, Sem.run_pure, Array.toArray_toList]
theorem alloc_ok (hs : Sat P ρ S w) {t : TypeId} {z : AV} (hz : zeroA P t = some z) : AN.okV P ρ S w ((Instr.alloc t true (.tuple #[])).run P w) (newV S t (cellsA z)) := by
  obtain ⟨u, hr, hc⟩ := zero_run hz (ρ := ρ)
  have := newV_ok hs (t := t) hc
  simpa only [Instr.alloc, Sem.run_bind, hr, Result.andThen_ok] using this
theorem rep_eq {α : Type} (z : List α) : ∀ n, rep z (n + 1) = z ++ rep z n := fun n => by
  have : rep z (n + 1) = app z (rep z n) := rfl
  rw [this, app_eq]
theorem rep_zero {α : Type} (z : List α) : rep z 0 = [] := rfl
theorem rep_get {α : Type} (z : List α) : ∀ (n i : Nat), i < n * z.length → (rep z n)[i]? = z[i % z.length]?
  | 0, i, h => by simp at h
  | n + 1, i, h => by
    rw [rep_eq]
    by_cases c : i < z.length
    · rw [List.getElem?_append_left c, Nat.mod_eq_of_lt c]
    · rw [Nat.succ_mul] at h
      rw [List.getElem?_append_right (by omega), rep_get z n (i - z.length) (by omega)]
      rw [← Nat.mod_eq_sub_mod (by omega)]
theorem concs_rep {z : List AV} {l : List Value} (h : concs ρ z = some l) : ∀ n, concs ρ (rep z n) = some (rep l n)
  | 0 => rfl
  | n + 1 => by rw [rep_eq, rep_eq]; exact concs_append h (concs_rep h n)
/-- Zeros, as the model lays them. -/
theorem zeros_eq (z : Array Value) (n m : Nat) (h : m = n * z.size) : madeCells z m = (rep z.toList n).toArray := by
  subst h
  apply Array.ext_getElem?
  intro i
  by_cases c : i < n * z.size
  · rw [List.getElem?_toArray (xs := rep z.toList n), rep_get _ _ _ (by rw [Array.length_toList]; exact c)]
    have hz : 0 < z.size := by
      rcases Nat.eq_zero_or_pos z.size with e | e
      · rw [e] at c; simp at c
      · exact e
    have hm := Nat.mod_lt i hz
    simp [madeCells, c, hm]
  · rw [Array.getElem?_eq_none (by rw [size_madeCells]; omega), Array.getElem?_eq_none (by rw [List.size_toArray, rep_length, Array.length_toList]; omega)]
theorem makeSlice_ok (hs : Sat P ρ S w) {t : TypeId} {l c : AV} {ul uc : Value} (hl : conc ρ l = some ul) (hc : conc ρ c = some uc) : AN.okV P ρ S w ((Instr.makeSlice t ul uc).run P w) ((makeSliceA P t).f l c S) := by
  unfold makeSliceA
  split
  · rename_i e hu
    split
    · rename_i z zv hz hzv
      split
      · rename_i hlen
        refine vInt_ok trivial fun kl n e1 => ?_
        subst e1; cases conc_int hl
        refine vInt_ok trivial fun kc m e1 => ?_
        subst e1; cases conc_int hc
        refine cI_ok (fun n e1 => ?_) fun _ _ => trivial
        subst e1
        refine cI_ok (fun m e1 => ?_) fun _ _ => trivial
        subst e1
        refine cB_ok (fun hb => ?_) fun _ => trivial
        obtain ⟨hb1, hb2⟩ := bAnd_iff.1 hb
        have hnm : n ≤ m := by simpa using hb1
        have hsm : m * (z + 1 + bytesA P e) ≤ 1000000000 := by simpa [small] using hb2
        obtain ⟨u, hzr, hzc⟩ := zero_run hzv (ρ := ρ)
        have hcz := cellsA_conc hzc
        have hzl : u.cells.size = z := by
          have := concs_length hcz
          rw [Nat.beq_eq, len_eq] at hlen
          simp only [Array.length_toList] at this
          omega
        obtain ⟨ti, hti, htz⟩ := info_run hz
        have hby : bytesA P e = ti.bytes := by simp [bytesA, hti]
        have hm9 : m ≤ 1000000000 := Nat.le_trans (Nat.le_mul_of_pos_right m (by omega)) hsm
        have hbm : m * ti.bytes ≤ 1000000000 := by rw [← hby]; exact Nat.le_trans (Nat.mul_le_mul_left m (by omega)) hsm
        have hbm' : (ti.bytes : Int) * (m : Int) ≤ 281474976710656 := by
          have : (ti.bytes : Int) * (m : Int) = ((m * ti.bytes : Nat) : Int) := by rw [Int.natCast_mul, Int.mul_comm]
          rw [this]; omega
        have hzi : ti.zero = some u := by
          have := hzr w
          simp only [zeroValue, Sem.run_bind, typeInfo, run_program, hti, Result.andThen_ok, Sem.run_pure] at this
          cases hq : ti.zero with
          | none => rw [hq] at this; cases this
          | some y => rw [hq] at this; cases this; rfl
        have hrun := run_make (P := P) w t e ti u hu hti hzi kl kc n m (by omega) (by omega) hbm' (by omega)
        refine new_own hs (concs_rep hcz m) (k := fun i => .slice i 0 n m) (u := fun g => .slice (some ⟨g, 0, none⟩) n m) (fun i ρ' g h => by simp only [conc, h]; rw [if_pos hnm]) ?_
        rw [← zeros_eq u.cells m (m * ti.size) (by rw [htz, hzl])]
        exact hrun
      · exact trivial
    · exact trivial
  · exact trivial
end
end Go.Proofs.YthgkdadchfoomabGreat.Ev
