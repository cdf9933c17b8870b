/- Lists of pairs in memory: prefixes, ports. -/
import Derived.Test.YtfbangojgjcbcaaGreatDoorPlainK
import Derived.Test.YtfbangojgjcbcaaGreatDoorBase
namespace Go.Proofs.YtfbangojgjcbcaaGreatDoor
open Go.RowKit Pl

/-- The slice value v reads as the pairs ps in world w: two cells each, the first of kind k. -/
def Rs (k : IntKind) (w : World) (v : Value) (ps : List Pr) : Prop :=
  ∃ (A : Option Addr) (c : Nat), v = .slice A ps.length c ∧ ps.length ≤ c ∧ (A = none → c = 0) ∧
    (0 < ps.length → ∃ b off, A = some ⟨b, off, none⟩ ∧ b < w.heap.size ∧ ∀ j u, ps[j]? = some u →
      w.cell? ⟨b, off + j * 2, none⟩ = some (.int k u.1) ∧ w.cell? ⟨b, off + j * 2 + 1, none⟩ = some (.int .i64 u.2))
theorem Rs.below {k : IntKind} {w w' : World} {v : Value} {ps : List Pr} (h : Rs k w v ps) (hb : Below w.heap.size w w') : Rs k w' v ps := by
  obtain ⟨A, c, rfl, hc, hn, hA⟩ := h
  refine ⟨A, c, rfl, hc, hn, fun hp => ?_⟩
  obtain ⟨b, off, rfl, hlt, hcell⟩ := hA hp
  refine ⟨b, off, rfl, Nat.lt_of_lt_of_le hlt hb.size, fun j u hu => ?_⟩
  obtain ⟨h1, h2⟩ := hcell j u hu
  exact ⟨(hb.cell (show b < _ from hlt)).trans h1, (hb.cell (show b < _ from hlt)).trans h2⟩
theorem Rs.alloc {k : IntKind} {w : World} {v : Value} {ps : List Pr} (h : Rs k w v ps) (o : Obj) : Rs k (w.alloc o) v ps := h.below ((Below.refl _ _).alloc (Nat.le_refl _) o)
theorem Rs.drew {k : IntKind} {w : World} {v : Value} {ps : List Pr} (h : Rs k w v ps) : Rs k w.drew v ps := h
theorem Rs.drewN {k : IntKind} {w : World} {v : Value} {ps : List Pr} (h : Rs k w v ps) (n : Nat) : Rs k (w.drewN n) v ps := h
theorem Rs.nil (k : IntKind) (w : World) : Rs k w (.slice none 0 0) [] := ⟨none, 0, rfl, Nat.le_refl _, fun _ => rfl, fun h => absurd h (by simp)⟩
theorem Rs.len {k : IntKind} {w : World} {A : Option Addr} {n c : Nat} {ps : List Pr} (h : Rs k w (.slice A n c) ps) : n = ps.length ∧ ps.length ≤ c := by
  obtain ⟨A', c', hv, hc, _, _⟩ := h
  injection hv with h1 h2 h3
  exact ⟨h2, by omega⟩
/-- Its cells. -/
theorem Rs.at {k : IntKind} {w : World} {A : Option Addr} {n c : Nat} {ps : List Pr} (h : Rs k w (.slice A n c) ps) {j : Nat} {u : Pr} (hu : ps[j]? = some u) :
    ∃ b off, A = some ⟨b, off, none⟩ ∧ b < w.heap.size ∧ w.cell? ⟨b, off + j * 2, none⟩ = some (.int k u.1) ∧ w.cell? ⟨b, off + j * 2 + 1, none⟩ = some (.int .i64 u.2) := by
  obtain ⟨A', c', hv, hc, _, hA⟩ := h
  injection hv with h1 h2 h3
  subst h1
  obtain ⟨b, off, rfl, hb, hcell⟩ := hA (by have := (List.getElem?_eq_some_iff.1 hu).1; omega)
  obtain ⟨h1, h2⟩ := hcell j u hu
  exact ⟨b, off, rfl, hb, h1, h2⟩
theorem Rs.take {k : IntKind} {w : World} {A : Option Addr} {n c : Nat} {ps : List Pr} (h : Rs k w (.slice A n c) ps) : ∀ {j : Nat} {b off : Nat}, A = some ⟨b, off, none⟩ → ∀ {u}, ps[j]? = some u →
    w.cell? ⟨b, off + j * 2, none⟩ = some (.int k u.1) ∧ w.cell? ⟨b, off + j * 2 + 1, none⟩ = some (.int .i64 u.2) := by
  intro j b off hA u hu
  obtain ⟨b', off', h1, _, h2, h3⟩ := h.at hu
  rw [hA] at h1; cases h1
  exact ⟨h2, h3⟩

def cells2 (k : IntKind) (ps : List Pr) : List Value := ps.flatMap fun p => [.int k p.1, .int .i64 p.2]
theorem cells2_length (k : IntKind) (ps : List Pr) : (cells2 k ps).length = ps.length * 2 := by
  induction ps with
  | nil => rfl
  | cons u us ih => unfold cells2 at *; rw [List.flatMap_cons, List.length_append, ih, List.length_cons]; simp; omega
theorem cells2_snoc (k : IntKind) (ps : List Pr) (u : Pr) : cells2 k (ps ++ [u]) = cells2 k ps ++ [.int k u.1, .int .i64 u.2] := by
  unfold cells2; rw [List.flatMap_append]; simp
theorem cells2_at (k : IntKind) (ps : List Pr) (j : Nat) (u : Pr) (h : ps[j]? = some u) : (cells2 k ps)[j * 2]? = some (.int k u.1) ∧ (cells2 k ps)[j * 2 + 1]? = some (.int .i64 u.2) := by
  induction ps generalizing j with
  | nil => simp at h
  | cons x ps ih =>
    cases j with
    | zero => simp at h; subst h; simp [cells2]
    | succ j =>
      simp only [List.getElem?_cons_succ] at h
      obtain ⟨h1, h2⟩ := ih j h
      have e : cells2 k (x :: ps) = [.int k x.1, .int .i64 x.2] ++ cells2 k ps := by unfold cells2; rw [List.flatMap_cons]
      rw [e]
      refine ⟨?_, ?_⟩
      · rw [List.getElem?_append_right (by simp; omega)]; simpa [show (j + 1) * 2 - 2 = j * 2 by omega] using h1
      · rw [List.getElem?_append_right (by simp; omega)]; simpa [show (j + 1) * 2 + 1 - 2 = j * 2 + 1 by omega] using h2
theorem Rs.own {w : World} {base : Nat} {v : Value} {k : IntKind} {e : TypeId} {n : Nat} {ps : List Pr} (hn : n = ps.length) (h : w.ownsRow base e 2 v n (cells2 k ps)) : Rs k w v ps := by
  subst hn
  rcases h.2 with ⟨rfl, h0⟩ | ⟨g, cap, cur, rfl, hg, hh, hnc, _⟩
  · have h0' : ps = [] := by
      cases ps with
      | nil => rfl
      | cons u us => simp at h0
    subst h0'; exact Rs.nil k w
  · refine ⟨_, cap, rfl, hnc, (fun h => by cases h), fun hp => ⟨g, 0, rfl, (h.lt g rfl).2, fun j u hu => ?_⟩⟩
    have hc := h.cells (g := g) rfl
    have key : ∀ i u, (cells2 k ps)[i]? = some u → w.cell? ⟨g, 0 + i, none⟩ = some u := fun i u hu => by
      have := hc i u hu
      rw [show ((⟨g, 0, none⟩ : Addr).add i) = ⟨g, 0 + i, none⟩ from by unfold Addr.add; by_cases hj : i = 0 <;> simp [hj]] at this
      exact this
    obtain ⟨h1, h2⟩ := cells2_at k ps j u hu
    refine ⟨key _ _ h1, ?_⟩
    have := key _ _ h2; rwa [← Nat.add_assoc] at this
theorem info_P : (Tryz.prog.info? 86).map (fun i => (i.zero, i.size, i.bytes)) = some (some (.agg #[.int .u32 0, .int .i64 0]), 2, 16) := by kernel_rfl
theorem info_O : (Tryz.prog.info? 101).map (fun i => (i.zero, i.size, i.bytes)) = some (some (.agg #[.int .i64 0, .int .i64 0]), 2, 16) := by kernel_rfl
/-- 'l = append(l, p)', l the call's own: prefixes. -/
theorem wpList_pushP {ops : Array Oper} {rest : List Oper} {o : Oper} {a : Act} {Q : Exit → Act → World → Prop} {w0 : World} (hgd : o.guard = none) (s x : Operand)
    (ho : o.op = .call { callee := .builtin .append, args := #[s, x], argTypes := #[25, 25] }) (base : Nat)
    (v : Value) (us : List Pr) (u : Pr) (hs : a.eval s = v) (hown : w0.ownsRow base 86 2 v us.length (cells2 .u32 us)) {B : Nat} (hx : a.eval x = .slice (some ⟨B, 0, none⟩) 1 1) (hBB : w0.heap.size = B)
    (hn : us.length ≤ 1000000) (hbase : base ≤ w0.heap.size)
    (h : ∀ v' w', w'.ownsRow base 86 2 v' (us ++ [u]).length (cells2 .u32 (us ++ [u])) → w0.grownBy w' v.ownBlock → wpList Tryz.prog ops Q rest (a.put o.dst v') w') :
    wpList Tryz.prog ops Q (o :: rest) a (w0.alloc (.cells #[.int .u32 u.1, .int .i64 u.2] 86)) := by
  subst hBB
  obtain ⟨i0, hi, hz0, hz1, hz2⟩ := info_parts info_P
  refine wpList_append_own _ hgd s x 25 ho base 86 i0 _ 2 16 Tryz.underlying25 hi hz0 hz1 hz2 rfl (by decide) v us.length (cells2 .u32 us) hs (hown.alloc _) ⟨w0.heap.size, 0, none⟩ 1 1 [.int .u32 u.1, .int .i64 u.2] hx rfl (World.news_of_block (cs := #[_, _]) (t := 86) (fr := (0, 0)) (heap_alloc_new w0 _)) (by simp [Value.oneCell']) (by unfold maxLen; omega) (by omega) (by simp; omega) fun v' w' h1 h2 _ => h v' w' (by rw [cells2_snoc, List.length_append]; exact h1) (grownBy_alloc h2)
theorem wpList_pushO {ops : Array Oper} {rest : List Oper} {o : Oper} {a : Act} {Q : Exit → Act → World → Prop} {w0 : World} (hgd : o.guard = none) (s x : Operand)
    (ho : o.op = .call { callee := .builtin .append, args := #[s, x], argTypes := #[26, 26] }) (base : Nat)
    (v : Value) (us : List Pr) (u : Pr) (hs : a.eval s = v) (hown : w0.ownsRow base 101 2 v us.length (cells2 .i64 us)) {B : Nat} (hx : a.eval x = .slice (some ⟨B, 0, none⟩) 1 1) (hBB : w0.heap.size = B)
    (hn : us.length ≤ 1000000) (hbase : base ≤ w0.heap.size)
    (h : ∀ v' w', w'.ownsRow base 101 2 v' (us ++ [u]).length (cells2 .i64 (us ++ [u])) → w0.grownBy w' v.ownBlock → wpList Tryz.prog ops Q rest (a.put o.dst v') w') :
    wpList Tryz.prog ops Q (o :: rest) a (w0.alloc (.cells #[.int .i64 u.1, .int .i64 u.2] 101)) := by
  subst hBB
  obtain ⟨i0, hi, hz0, hz1, hz2⟩ := info_parts info_O
  refine wpList_append_own _ hgd s x 26 ho base 101 i0 _ 2 16 Tryz.underlying26 hi hz0 hz1 hz2 rfl (by decide) v us.length (cells2 .i64 us) hs (hown.alloc _) ⟨w0.heap.size, 0, none⟩ 1 1 [.int .i64 u.1, .int .i64 u.2] hx rfl (World.news_of_block (cs := #[_, _]) (t := 101) (fr := (0, 0)) (heap_alloc_new w0 _)) (by simp [Value.oneCell']) (by unfold maxLen; omega) (by omega) (by simp; omega) fun v' w' h1 h2 _ => h v' w' (by rw [cells2_snoc, List.length_append]; exact h1) (grownBy_alloc h2)

/-- A configuration in memory. -/
def cfgV (c : Cfg) (own ports : Value) : Value := .agg #[.int .i64 c.node, .int .u32 c.addr, own, ports, .int .i64 c.hello, .int .i64 c.dead, .int .i64 c.again, .int .i64 c.room, .int .i64 c.queue, .int .i64 c.tokens, .int .i64 c.refill]
structure CfgIs (w : World) (v : Value) (c : Cfg) : Prop where
  is : ∃ own ports, v = cfgV c own ports ∧ Rs .u32 w own c.own ∧ Rs .i64 w ports c.ports
theorem CfgIs.below {w w' : World} {v : Value} {c : Cfg} (h : CfgIs w v c) (hb : Below w.heap.size w w') : CfgIs w' v c := by
  obtain ⟨own, ports, h1, h2, h3⟩ := h.is
  exact ⟨own, ports, h1, h2.below hb, h3.below hb⟩
end Go.Proofs.YtfbangojgjcbcaaGreatDoor
