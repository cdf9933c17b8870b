/- Plain lists of updates: how their bytes are read. Nothing of the program. -/
import Derived.Test.YteafakpipbhioaaDoorCtlN
namespace Go.Proofs.YteafakpipbhioaaDoor
open Go.RowKit Pl

abbrev N3 := Nat × Nat × Nat
def chunk (l : List UInt8) (j : Nat) : List UInt8 := (l.drop (1 + 6 * j)).take 6
/-- The first k updates of bytes. -/
def unl (l : List UInt8) : Nat → Option (List N3)
  | 0 => some []
  | k + 1 => match unl l k, ofU (chunk l k) with
    | some us, some u => some (us ++ [u])
    | _, _ => none
def unlHead (l : List UInt8) : Bool := decide (1 ≤ l.length) && decide ((l.headD 0).toNat ≤ 32) && decide (l.length = 1 + 6 * (l.headD 0).toNat)
/-- The list of bytes. -/
def unlistU (l : List UInt8) : Option (List N3) := if unlHead l = true then unl l (l.headD 0).toNat else none
theorem unl_length {l : List UInt8} : ∀ {k : Nat} {us : List N3}, unl l k = some us → us.length = k
  | 0, us, h => by simp [unl] at h; subst h; rfl
  | k + 1, us, h => by
    unfold unl at h
    split at h
    · rename_i us' u h1 h2
      injection h with h; subst h
      rw [List.length_append, unl_length h1]; rfl
    · cases h
theorem unl_stop {l : List UInt8} {j : Nat} (hj : ofU (chunk l j) = none) : ∀ {k : Nat}, j < k → unl l k = none
  | 0, h => by omega
  | k + 1, h => by
    unfold unl
    by_cases hjk : j = k
    · subst hjk; rw [hj]; split
      · rename_i h2; cases h2
      · rfl
    · rw [unl_stop hj (k := k) (by omega)]
theorem unl_next {l : List UInt8} {j : Nat} {us : List N3} {u : N3} (h1 : unl l j = some us) (h2 : ofU (chunk l j) = some u) : unl l (j + 1) = some (us ++ [u]) := by
  unfold unl; rw [h1, h2]
theorem chunk_length {l : List UInt8} {j : Nat} (h : 1 + 6 * (j + 1) ≤ l.length) : (chunk l j).length = 6 := by unfold chunk; simp; omega
/-- An update as integers. -/
def int3 (u : N3) : U3 := ((u.1 : Int), (u.2.1 : Int), (u.2.2 : Int))
def nat3 (u : U3) : N3 := (u.1.toNat, u.2.1.toNat, u.2.2.toNat)
def cells3 (us : List N3) : List Value := us.flatMap fun u => [.int .u32 (u.1 : Int), .int .i64 (u.2.1 : Int), .int .i64 (u.2.2 : Int)]
theorem cells3_length (us : List N3) : (cells3 us).length = us.length * 3 := by
  induction us with
  | nil => rfl
  | cons u us ih => unfold cells3 at *; rw [List.flatMap_cons, List.length_append, ih, List.length_cons]; simp; omega
theorem cells3_snoc (us : List N3) (u : N3) : cells3 (us ++ [u]) = cells3 us ++ [.int .u32 (u.1 : Int), .int .i64 (u.2.1 : Int), .int .i64 (u.2.2 : Int)] := by
  unfold cells3; rw [List.flatMap_append]; simp
theorem cells3_at (us : List N3) (j : Nat) (u : N3) (h : us[j]? = some u) : (cells3 us)[j * 3]? = some (.int .u32 (u.1 : Int)) ∧ (cells3 us)[j * 3 + 1]? = some (.int .i64 (u.2.1 : Int)) ∧ (cells3 us)[j * 3 + 2]? = some (.int .i64 (u.2.2 : Int)) := by
  induction us generalizing j with
  | nil => simp at h
  | cons x us ih =>
    cases j with
    | zero => simp at h; subst h; simp [cells3]
    | succ j =>
      simp only [List.getElem?_cons_succ] at h
      obtain ⟨h1, h2, h3⟩ := ih j h
      have e : cells3 (x :: us) = [.int .u32 (x.1 : Int), .int .i64 (x.2.1 : Int), .int .i64 (x.2.2 : Int)] ++ cells3 us := by unfold cells3; rw [List.flatMap_cons]
      rw [e]
      refine ⟨?_, ?_, ?_⟩
      · rw [List.getElem?_append_right (by simp; omega)]; simpa [show (j + 1) * 3 - 3 = j * 3 by omega] using h1
      · rw [List.getElem?_append_right (by simp; omega)]; simpa [show (j + 1) * 3 + 1 - 3 = j * 3 + 1 by omega] using h2
      · rw [List.getElem?_append_right (by simp; omega)]; simpa [show (j + 1) * 3 + 2 - 3 = j * 3 + 2 by omega] using h3
/-- What lists were made of is read again. -/
theorem chunk_listB (us : List U3) (j : Nat) (u : U3) (hu : us[j]? = some u) : chunk (listB us) j = bytesV u := by
  unfold chunk listB
  rw [show 1 + 6 * j = (6 * j) + 1 by omega, List.drop_succ_cons]
  induction us generalizing j with
  | nil => simp at hu
  | cons x us ih =>
    cases j with
    | zero => simp at hu; subst hu; rw [List.flatMap_cons]; simp [bytesV_length]
    | succ j =>
      simp only [List.getElem?_cons_succ] at hu
      have e : 6 * (j + 1) = (bytesV x).length + 6 * j := by rw [bytesV_length]; omega
      rw [List.flatMap_cons, e, List.drop_length_add_append]
      exact ih j hu
theorem mayU_cast {u : U3} (h : mayU u.1 u.2.1 u.2.2 = true) (ha : IsAddr u.1) : ofU (bytesV u) = some (nat3 u) ∧ int3 (nat3 u) = u := by
  obtain ⟨a, n, d⟩ := u
  obtain ⟨A, N, D, h1, h2, h3, hA, _, _⟩ := mayU_nat h ha
  simp only at h1 h2 h3
  subst h1 h2 h3
  exact ⟨ofU_bytes A N D hA h, rfl⟩
theorem unl_list {us : List U3} (h : us.all mayB = true) (hA : Addrs us) : ∀ k, k ≤ us.length → unl (listB us) k = some ((us.take k).map nat3)
  | 0, _ => by simp [unl]
  | k + 1, hk => by
    obtain ⟨u, hu⟩ : ∃ u, us[k]? = some u := ⟨_, List.getElem?_eq_getElem (by omega)⟩
    have h1 := unl_list h hA k (by omega)
    have h2 : ofU (chunk (listB us) k) = some (nat3 u) := by rw [chunk_listB us k u hu]; exact (mayU_cast (all_at h hu) (hA.at hu)).1
    rw [unl_next h1 h2, List.take_add_one, hu]; simp
theorem unlist_listB {us : List U3} (h : us.all mayB = true) (hA : Addrs us) (hl : us.length ≤ 32) : unlistU (listB us) = some (us.map nat3) := by
  have hh : ((listB us).headD 0).toNat = us.length := by show (UInt8.ofNat us.length).toNat = _; rw [UInt8.toNat_ofNat']; omega
  have hc : unlHead (listB us) = true := by
    unfold unlHead
    rw [hh, listB_length]; simp; omega
  unfold unlistU
  rw [if_pos hc, hh, unl_list h hA _ (Nat.le_refl _), List.take_length]
theorem int_nat_map {us : List U3} (h : us.all mayB = true) (hA : Addrs us) : (us.map nat3).map int3 = us := by
  rw [List.map_map]
  conv => rhs; rw [← List.map_id us]
  apply List.map_congr_left
  intro u hu
  exact (mayU_cast ((List.all_eq_true.1 h) u hu) (hA u hu)).2

theorem Us.own {w : World} {base : Nat} {v : Value} {us : List N3} (h : w.ownsRow base 77 3 v us.length (cells3 us)) : Us w v (us.map int3) := by
  rcases h.2 with ⟨rfl, h0⟩ | ⟨g, cap, cur, rfl, hg, hh, hnc, _⟩
  · have h0' : us = [] := by
      cases us with
      | nil => rfl
      | cons u us => simp at h0
    subst h0'; exact ⟨none, 0, rfl, Nat.le_refl _, fun _ => rfl, fun h => absurd h (by simp)⟩
  · refine ⟨_, cap, by rw [List.length_map], by rw [List.length_map]; exact hnc, (fun h => by cases h), fun hp => ⟨g, 0, rfl, (h.lt g rfl).2, fun j u hu => ?_⟩⟩
    rw [List.getElem?_map] at hu
    obtain ⟨x, hx, rfl⟩ := Option.map_eq_some_iff.1 hu
    have hc := h.cells (g := g) rfl
    have key : ∀ i u, (cells3 us)[i]? = some u → w.cell? ⟨g, 0 + i, none⟩ = some u := fun i u hu => by
      have := hc i u hu
      rw [show ((⟨g, 0, none⟩ : Addr).add i) = ⟨g, 0 + i, none⟩ from by unfold Addr.add; by_cases hj : i = 0 <;> simp [hj]] at this
      exact this
    obtain ⟨h1, h2, h3⟩ := cells3_at us j x hx
    refine ⟨key _ _ h1, ?_, ?_⟩
    · have := key _ _ h2; rwa [← Nat.add_assoc] at this
    · have := key _ _ h3; rwa [← Nat.add_assoc] at this
theorem info_U : (Tryd.prog.info? 77).map (fun i => (i.zero, i.size, i.bytes)) = some (some (.agg #[.int .u32 0, .int .i64 0, .int .i64 0]), 3, 24) := by kernel_rfl
/-- 'l = append(l, u)', l the call's own. -/
theorem wpList_push3 {ops : Array Oper} {rest : List Oper} {o : Oper} {a : Act} {Q : Exit → Act → World → Prop} {w0 : World} (hgd : o.guard = none) (s x : Operand)
    (ho : o.op = .call { callee := .builtin .append, args := #[s, x], argTypes := #[93, 93] }) (base : Nat)
    (v : Value) (us : List N3) (u : N3) (hs : a.eval s = v) (hown : w0.ownsRow base 77 3 v us.length (cells3 us)) {B : Nat} (hx : a.eval x = .slice (some ⟨B, 0, none⟩) 1 1) (hBB : w0.heap.size = B)
    (hn : us.length ≤ 1000000) (hbase : base ≤ w0.heap.size)
    (h : ∀ v' w', w'.ownsRow base 77 3 v' (us ++ [u]).length (cells3 (us ++ [u])) → w0.grownBy w' v.ownBlock → wpList Tryd.prog ops Q rest (a.put o.dst v') w') :
    wpList Tryd.prog ops Q (o :: rest) a (w0.alloc (.cells #[.int .u32 (u.1 : Int), .int .i64 (u.2.1 : Int), .int .i64 (u.2.2 : Int)] 77)) := by
  subst hBB
  obtain ⟨i0, hi, hz0, hz1, hz2⟩ := info_parts info_U
  refine wpList_append_own _ hgd s x 93 ho base 77 i0 _ 3 24 Tryd.underlying93 hi hz0 hz1 hz2 rfl (by decide) v us.length (cells3 us) hs (hown.alloc _) ⟨w0.heap.size, 0, none⟩ 1 1 [.int .u32 (u.1 : Int), .int .i64 (u.2.1 : Int), .int .i64 (u.2.2 : Int)] hx rfl (World.news_of_block (cs := #[_, _, _]) (t := 77) (fr := (0, 0)) (heap_alloc_new w0 _)) (by simp [Value.oneCell']) (by unfold maxLen; omega) (by omega) (by simp; omega) fun v' w' h1 h2 _ => h v' w' (by rw [cells3_snoc, List.length_append]; exact h1) (grownBy_alloc h2)
end Go.Proofs.YteafakpipbhioaaDoor
