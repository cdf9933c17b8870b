/- The entries gone over, and the trie's Match: is there a prefix that has the address? -/
import Derived.Test.YtfbangojgjcbcaaGreatDoorTrieG
import Derived.Test.YtfbangojgjcbcaaGreatDoorBlk
import Derived.RangeFuncNested
import Derived.RangeFuncBound
import Derived.RangeFuncCalls
import Derived.RangeFuncLeaves
import Derived.RangeFuncBox
import Derived.Shelf.Abstract
import Derived.OwnWalkIn
import Derived.TacticsInMore
import Derived.LoopNIn
import Derived.LoopIn
namespace Go.Proofs.YtfbangojgjcbcaaGreatDoor
open Go.RowKit Pl Go.Shelf

attribute [local go_sem] Oper.semAt_some

theorem cellsE_at (es : List E3) (j : Nat) (u : E3) (h : es[j]? = some u) : (cellsE es)[j * 3]? = some (.int .u32 u.1) ∧ (cellsE es)[j * 3 + 1]? = some (.int .i64 u.2.1) ∧ (cellsE es)[j * 3 + 2]? = some (.bool u.2.2) := by
  induction es generalizing j with
  | nil => simp at h
  | cons x es ih =>
    cases j with
    | zero => simp at h; subst h; simp [cellsE]
    | succ j =>
      simp only [List.getElem?_cons_succ] at h
      obtain ⟨h1, h2, h3⟩ := ih j h
      have e : cellsE (x :: es) = [.int .u32 x.1, .int .i64 x.2.1, .bool x.2.2] ++ cellsE es := by unfold cellsE; rw [List.flatMap_cons]
      rw [e]
      refine ⟨?_, ?_, ?_⟩
      · rw [List.getElem?_append_right (by simp; omega)]; simpa [show (j + 1) * 3 - 3 = j * 3 by omega] using h1
      · rw [List.getElem?_append_right (by simp; omega)]; simpa [show (j + 1) * 3 + 1 - 3 = j * 3 + 1 by omega] using h2
      · rw [List.getElem?_append_right (by simp; omega)]; simpa [show (j + 1) * 3 + 2 - 3 = j * 3 + 2 by omega] using h3
/-- The blocks from lo on, below hi, lie as they lay. -/
structure Between (lo hi : Nat) (A B : World) : Prop where
  size : A.heap.size ≤ B.heap.size
  at_ : ∀ g, lo ≤ g → g < hi → B.heap[g]? = A.heap[g]?
section
variable {lo hi : Nat} {A B C : World}
theorem Between.refl (A : World) : Between lo hi A A := ⟨Nat.le_refl _, fun _ _ _ => rfl⟩
theorem Between.trans (h : Between lo hi A B) (h' : Between lo hi B C) : Between lo hi A C := ⟨Nat.le_trans h.size h'.size, fun g h1 h2 => (h'.at_ g h1 h2).trans (h.at_ g h1 h2)⟩
theorem Between.alloc (h : Between lo hi A B) (hhi : hi ≤ B.heap.size) (o : Obj) : Between lo hi A (B.alloc o) := h.trans ⟨by simp, fun g _ h2 => Below.heap_alloc B o g (by omega)⟩
theorem Between.set (h : Between lo hi A B) {p : Addr} (hp : p.block < lo) (u : Value) : Between lo hi A (B.setCell p u) := h.trans ⟨by simp [World.setCell], fun g h1 _ => Below.heap_setCell B p u g (by omega)⟩
theorem Between.put {l : Nat} {o' : Obj} (hl : hi ≤ l) : Between lo hi A (A.putObj l o') := ⟨by simp, fun g _ h2 => World.putObj_heap_other (by omega)⟩
theorem Between.of_below (h : Below hi A B) : Between lo hi A B := ⟨h.size, fun g _ h2 => h.block g h2⟩
theorem Between.cell (h : Between lo hi A B) {p : Addr} (h1 : lo ≤ p.block) (h2 : p.block < hi) : B.cell? p = A.cell? p := World.cell?_of_block (h.at_ _ h1 h2)
end
/-- The slice value v holds the entries es, in a block from lo on, below hi; or it is nil and there are none. -/
def Es (lo hi : Nat) (W : World) (v : Value) (es : List E3) : Prop :=
  ∃ (A : Option Addr) (c : Nat), v = .slice A es.length c ∧ (0 < es.length → ∃ b off, A = some ⟨b, off, none⟩ ∧ (lo ≤ b ∧ b < hi) ∧ ∀ j u, es[j]? = some u →
    W.cell? ⟨b, off + j * 3, none⟩ = some (.int .u32 u.1) ∧ W.cell? ⟨b, off + j * 3 + 1, none⟩ = some (.int .i64 u.2.1) ∧ W.cell? ⟨b, off + j * 3 + 2, none⟩ = some (.bool u.2.2))
theorem Es.keep {lo hi : Nat} {A B : World} (hb : Between lo hi A B) {v : Value} {es : List E3} (h : Es lo hi A v es) : Es lo hi B v es := by
  obtain ⟨P, c, rfl, hA⟩ := h
  refine ⟨P, c, rfl, fun hp => ?_⟩
  obtain ⟨b, off, rfl, hlt, hcell⟩ := hA hp
  refine ⟨b, off, rfl, hlt, fun j u hu => ?_⟩
  obtain ⟨h1, h2, h3⟩ := hcell j u hu
  exact ⟨(hb.cell hlt.1 hlt.2).trans h1, (hb.cell hlt.1 hlt.2).trans h2, (hb.cell hlt.1 hlt.2).trans h3⟩
theorem Es.own {w : World} {base : Nat} {e : TypeId} {v : Value} {es : List E3} (h : w.ownsRow base e 3 v es.length (cellsE es)) : Es base w.heap.size w v es := by
  rcases h.2 with ⟨rfl, h0⟩ | ⟨g, cap, cur, rfl, hg, hh, hnc, _⟩
  · have h0' : es = [] := by
      cases es with
      | nil => rfl
      | cons u us => simp at h0
    subst h0'; exact ⟨none, 0, rfl, fun h => absurd h (by simp)⟩
  · refine ⟨_, cap, rfl, fun hp => ⟨g, 0, rfl, ⟨(h.lt g rfl).1, (h.lt g rfl).2⟩, fun j u hu => ?_⟩⟩
    have hc := h.cells (g := g) rfl
    have key : ∀ i u, (cellsE es)[i]? = some u → w.cell? ⟨g, 0 + i, none⟩ = some u := fun i u hu => by
      have := hc i u hu
      rw [show ((⟨g, 0, none⟩ : Addr).add i) = ⟨g, 0 + i, none⟩ from by unfold Addr.add; by_cases hj : i = 0 <;> simp [hj]] at this
      exact this
    obtain ⟨h1, h2, h3⟩ := cellsE_at es j u hu
    exact ⟨key _ _ h1, by have := key _ _ h2; rwa [← Nat.add_assoc] at this, by have := key _ _ h3; rwa [← Nat.add_assoc] at this⟩

set_option maxRecDepth 100000 in
set_option maxHeartbeats 4000000 in
/-- over's closure goes over the entries, for every loop body that keeps what lay there. -/
theorem over1_in (F : Fence) (n : Nat) (hF : F.fn 194) (hro : F.round = none) (hn : 1 ≤ n) (l Bs lo hi : Nat) (v : Value) (es : List E3) (hlen : es.length ≤ 1000000) (J Jx : List E3 → World → Prop)
    (hJa : ∀ pre W o, J pre W → J pre (W.alloc o))
    (hY : ∀ pre x W, J pre W → pre.length < es.length → YieldAt F (n - 1) Tryz.prog l #[.agg #[.int .u32 x.1, .int .i64 x.2.1], .bool x.2.2] W fun e W' =>
      (e = .returned (.bool true) ∧ J (pre ++ [x]) W' ∧ Between lo hi W W') ∨ (e = .returned (.bool false) ∧ Jx (pre ++ [x]) W'))
    (W : World) (hn0 : hi ≤ W.heap.size) (hBs : W.cell? ⟨Bs, 0, none⟩ = some v) (hE : Es lo hi W v es) (h0 : J [] W) :
    CallsIn F n Tryz.prog 194 #[.func (.yield l) #[] #[], .pointer (some ⟨Bs, 0, none⟩)] W fun e W' => (∃ v, e = .returned v) ∧
      ((∃ ys, ys = es ∧ J ys W') ∨ (∃ pre, pre <+: es ∧ Jx pre W')) := by
  have HE := Lib.hid hE
  obtain ⟨A, c, rfl, _⟩ := hE
  refine callsIn_of_wp Tryz.func194 rfl hF ?_ hro
  simp only [Tryz.ntmps194, List.size_toArray, List.length_cons, List.length_nil, Nat.reduceAdd, Nat.reduceSub, Array.replicate_succ, Array.replicate_zero, List.push_toArray, List.append_toArray, List.nil_append, List.cons_append]
  gi_wp2
  gi_loopw [7] (fun i wr => ∃ k : Nat, k ≤ es.length ∧ i = .int .i64 k ∧ J (es.take k) wr ∧ Between lo hi W wr) (fun i _ => es.length - (intOf i).toNat)
  case atStart => exact ⟨0, Nat.zero_le _, rfl, h0, Between.refl _⟩
  case round =>
    obtain ⟨k, hk, rfl, hJs, hnx⟩ := hrel
    by_cases hlt : k < es.length
    · obtain ⟨A', c', hv, hA⟩ := HE.out.keep hnx
      injection hv with hv1 hv2 hv3
      subst hv1 hv3
      obtain ⟨b, off, rfl, hb, hcell⟩ := hA (by omega)
      obtain ⟨u, hu⟩ : ∃ u, es[k]? = some u := ⟨_, List.getElem?_eq_getElem hlt⟩
      obtain ⟨c0, c1, c2⟩ := hcell k u hu
      have HT : Hid (es.take (k + 1) = es.take k ++ [u]) := Lib.hid (by rw [List.take_add_one, hu]; rfl)
      clear hcell hA hu
      obtain ⟨ua, un, ub⟩ := u
      simp only at c0 c1 c2
      have hJ2 := hJa _ _ (.cells #[.int .u32 ua, .int .i64 un, .bool ub] 226) hJs
      have hkl : (es.take k).length < es.length := by rw [List.length_take]; omega
      obtain ⟨fn, tmps, assign, body, hy, hR⟩ := hY (es.take k) (ua, un, ub) _ hJ2 hkl
      dsimp only at hy
      have hbk := hnx.size
      clear hkl
      gi_wp2
      refine hR.mono ?_
      rintro e W3 (⟨rfl, hJ3, hk3⟩ | ⟨rfl, hJx3⟩)
      · gi_wp2
        go_roundw
        case rel => exact ⟨k + 1, by omega, by go_num, by rw [HT.out]; exact hJ3, (hnx.alloc (by omega) _).trans hk3⟩
        case measure => simp [intOf]; omega
      · gi_wp2
        refine bodyPost_ret (results_none rfl _ _ _) rfl ?_
        exact ⟨⟨_, rfl⟩, .inr ⟨es.take k ++ [(ua, un, ub)], by rw [← HT.out]; exact List.take_prefix _ _, hJx3⟩⟩
    · obtain rfl : k = es.length := by omega
      rw [List.take_length] at hJs
      gi_wp2
      go_end0
      exact ⟨⟨_, rfl⟩, .inl ⟨_, rfl, hJs⟩⟩
theorem over1_stops (F : Fence) (n : Nat) (hF : F.fn 194) (hro : F.round = none) (hn : 1 ≤ n) (Bs lo hi : Nat) (v : Value) (es : List E3) (hlen : es.length ≤ 1000000) (w : World) (hBn : Bs < w.heap.size) (hhi : hi ≤ w.heap.size)
    (hc : w.cell? ⟨Bs, 0, none⟩ = some v) (hE : Es lo hi w v es) :
    SeqStopsK F n Tryz.prog 194 #[.pointer (some ⟨Bs, 0, none⟩)] (fun x : E3 => #[.agg #[.int .u32 x.1, .int .i64 x.2.1], .bool x.2.2]) (Between lo hi) (fun ys => ys = es) (fun pre => pre <+: es) es.length w := fun l J Jx W hW hJ _ hY h0 =>
  over1_in F n hF hro hn l Bs lo hi v es hlen J Jx (fun pre X o h => hJ pre X _ none h (World.grownBy_alloc X o none) (fun r e => by cases e)) hY W (Nat.le_trans hhi hW.size) ((hW.cell (p := ⟨Bs, 0, none⟩) hBn).trans hc) (hE.keep (Between.of_below (hW.mono hhi))) h0

def MatchRes (b : Bool) (e : Ending) : Prop := ∃ (pa pn : Int) (v : Bool), e = .returned (.tuple #[.agg #[.int .u32 pa, .int .i64 pn], .bool v, .bool b])
/-- What the three results hold while the entries are gone over. -/
def MatchIn (w : World) (pre : List E3) (W : World) : Prop :=
  ∃ (pa pn : Int) (v : Bool), Whole W w.heap.size 86 #[.int .u32 pa, .int .i64 pn] ∧ Whole W (w.heap.size + 1) 4 #[.bool v] ∧ Whole W (w.heap.size + 2) 4 #[.bool (!pre.isEmpty)]
theorem MatchIn.alloc {w W : World} {pre : List E3} (h : MatchIn w pre W) (o : Obj) : MatchIn w pre (W.alloc o) := by
  obtain ⟨pa, pn, v, h1, h2, h3⟩ := h
  exact ⟨pa, pn, v, h1.alloc o, h2.alloc o, h3.alloc o⟩
theorem MatchIn.own {w : World} : Own (MatchIn w) := fun pre A B row hs hg hr => by
  obtain ⟨pa, pn, v, h1, h2, h3⟩ := hs
  exact ⟨pa, pn, v, whole_own _ _ (fun _ : List E3 => #[Value.int .u32 pa, .int .i64 pn]) pre A B row h1 hg hr, whole_own _ _ (fun _ : List E3 => #[Value.bool v]) pre A B row h2 hg hr, whole_own _ _ (fun pre : List E3 => #[Value.bool (!pre.isEmpty)]) pre A B row h3 hg hr⟩

/-- The three results, stored. -/
theorem match_sets {W w : World} {n : Nat} {t1 t2 : TypeId} {c1 c3 p1 p2 : Value} (a b c d : Value) (h1 : Whole W n t1 #[p1, p2]) (h2 : Whole W (n + 1) t2 #[c1]) (h3 : Whole W (n + 2) t2 #[c3]) (hB : Below n w W) :
    let W' := (((W.setCell ⟨n, 0, none⟩ a).setCell ⟨n, 1, none⟩ b).setCell ⟨n + 1, 0, none⟩ c).setCell ⟨n + 1 + 1, 0, none⟩ d
    Whole W' n t1 #[a, b] ∧ Whole W' (n + 1) t2 #[c] ∧ Whole W' (n + 2) t2 #[d] ∧ Below n w W' ∧ W'.heap.size = W.heap.size :=
  ⟨(((h1.set 0 a).set 1 b).far (p := ⟨n + 1, 0, none⟩) (by simp) c).far (p := ⟨n + 1 + 1, 0, none⟩) (by simp; omega) d,
    (((h2.far (p := ⟨n, 0, none⟩) (by simp) a).far (p := ⟨n, 1, none⟩) (by simp) b).set 0 c).far (p := ⟨n + 1 + 1, 0, none⟩) (by simp) d,
    (((h3.far (p := ⟨n, 0, none⟩) (by simp) a).far (p := ⟨n, 1, none⟩) (by simp) b).far (p := ⟨n + 1, 0, none⟩) (by simp) c).set 0 d,
    (((hB.setCell (p := ⟨n, 0, none⟩) (by simp) a).setCell (p := ⟨n, 1, none⟩) (by simp) b).setCell (p := ⟨n + 1, 0, none⟩) (by simp) c).setCell (p := ⟨n + 1 + 1, 0, none⟩) (by simp; omega) d, by simp [World.setCell]⟩

set_option maxRecDepth 100000 in
set_option maxHeartbeats 4000000 in
theorem match_any (T x base : Nat) (t : Tree) (w : World) (hx : x < 4294967296) (h : TrieAt w base T t) :
    Calls Tryz.prog 68 #[.pointer (some ⟨T, 0, none⟩), .int .u32 (x : Int)] w fun e w' => MatchRes (decide (0 < t.cover (bitsP x 32))) e ∧ Below w.heap.size w w' := by
  obtain ⟨W1, hW1⟩ : ∃ W1, ((w.alloc (.cells #[.int .u32 0, .int .i64 0] 86)).alloc (.cells #[.bool false] 4)).alloc (.cells #[.bool false] 4) = W1 := ⟨_, rfl⟩
  have hb1 : Below w.heap.size w W1 := by rw [← hW1]; exact (((Below.refl _ w).alloc (Nat.le_refl _) _).alloc (by simp) _).alloc (by simp; omega) _
  have hsz : W1.heap.size = w.heap.size + 3 := by rw [← hW1]; simp
  have hin : MatchIn w [] W1 := by
    rw [← hW1]
    exact ⟨0, 0, false, ((Whole.new w _ _).alloc _).alloc _, by have := (Whole.new (w.alloc (.cells #[.int .u32 0, .int .i64 0] 86)) 4 #[.bool false]).alloc (.cells #[.bool false] 4); simpa using this, by have := Whole.new ((w.alloc (.cells #[.int .u32 0, .int .i64 0] 86)).alloc (.cells #[.bool false] 4)) 4 #[.bool false]; simpa using this⟩
  have hcv := Tree.cover_le (x := bitsP x 32) h.inv 0 (fun _ _ => Nat.zero_le _) (by omega)
  have HC := Lib.hid (covers_any T x base t W1 hx (h.below hb1))
  have HW := Lib.hid hW1
  have HSZ := Lib.hid hsz
  have HIN := Lib.hid hin
  have HB1 := Lib.hid hb1
  clear h hW1 hsz hin hb1
  refine (callsIn_wide (n := 3)).1 ?_
  refine callsIn_of_wp_marks Tryz.func68 rfl trivial ?_ rfl
  simp only [Tryz.ntmps68, List.size_toArray, List.length_cons, List.length_nil, Nat.reduceAdd, Nat.reduceSub, Array.replicate_succ, Array.replicate_zero, List.push_toArray, List.append_toArray, List.nil_append, List.cons_append]
  gi_wp2
  rw [HW.out]
  refine ⟨trivial, (callsIn_wide.2 HC.out).mono ?_⟩
  rintro e W2 ⟨⟨es, B, v, hes, rfl, hB1, hB2, hBc, hown⟩, hb2⟩
  have hlen : es.length ≤ 1000000 := by omega
  have HES := Lib.hid hes
  have HE := Lib.hid (Es.own hown)
  have HIN2 : Hid (MatchIn w [] W2) := Lib.hid (by
    obtain ⟨pa, pn, v, h1, h2, h3⟩ := HIN.out
    exact ⟨pa, pn, v, h1.here hb2, h2.here hb2, h3.here hb2⟩)
  have HB2 : Hid (Below w.heap.size w W2) := Lib.hid (HB1.out.trans (hb2.mono HB1.out.size))
  have hs1 : W1.heap.size = w.heap.size + 3 := HSZ.out
  have hs2 := hb2.size
  have hs3 : w.heap.size + 3 ≤ W2.heap.size := by omega
  have HLO := Lib.hid hs1
  clear hes hown hs1 hcv
  gi_wp2
  refine wpIn_rangeFunc_ownH (F := Fence.wide) rfl (by decide) (gf := 194) (lb := #[.pointer (some ⟨B, 0, none⟩)]) rfl trivial (enters_of Tryz.func194 (by kernel_rfl) rfl)
    (over1_stops Fence.wide 2 trivial rfl (by decide) B W1.heap.size W2.heap.size v es hlen W2 hB2 (Nat.le_refl _) hBc HE.out) Between.trans (fun W l o o' hl _ _ _ => Between.put hl) (Below.refl _ _) (fun _ => rfl)
    (fun pre W => (MatchIn w pre W ∧ Below w.heap.size w W) ∧ W2.heap.size ≤ W.heap.size)
    (fun _ _ _ => False)
    (OwnFrom.and (OwnFrom.and (Own.from MatchIn.own _) (ownFrom_below (Nat.le_refl _) (by omega))) (fun _ _ _ _ hs hg _ => Nat.le_trans hs hg.size))
    (fun _ _ _ _ _ hs _ _ => hs)
    ⟨⟨HIN2.out, HB2.out⟩, Nat.le_refl _⟩
    (fun y a' W => ∃ Bx, w.heap.size + 2 < Bx ∧ Whole W Bx 86 #[.int .u32 y.1, .int .i64 y.2.1] ∧ a' = { tmps := #[.pointer (some ⟨T, 0, none⟩), .int .u32 (x : Int), undef, undef, .pointer (some ⟨w.heap.size, 0, none⟩), .pointer (some ⟨w.heap.size + 1, 0, none⟩), .pointer (some ⟨w.heap.size + 1 + 1, 0, none⟩), .pointer (some ⟨Bx, 0, none⟩), .bool y.2.2, .pointer (some ⟨T, 0, none⟩), .int .u32 (x : Int), .func (.func 194) #[] #[.pointer (some ⟨B, 0, none⟩)], .agg #[.int .u32 y.1, .int .i64 y.2.1], .bool y.2.2, undef, undef, undef, undef, undef], defers := [] })
    (fun y a' _ X Y row hs hg hr => by obtain ⟨Bx, h1, h2, h3⟩ := hs; exact ⟨Bx, h1, whole_own Bx _ (fun (_ : Unit) => #[Value.int .u32 y.1, .int .i64 y.2.1]) () X Y row h2 hg (fun r e => (hr r e).2), h3⟩)
    ?assign ?body ?done ?stop
  case assign =>
    rintro l pre ⟨ya, yn, yb⟩ W K ⟨⟨hI, hB⟩, hz⟩ hK
    gi_wp2
    exact hK _ _ ((KeepsOthers.alloc _ _).from _) ((Between.refl W).alloc hz _) ⟨⟨hI.alloc _, hB.alloc hB.size _⟩, by simp; omega⟩ ⟨W.heap.size, by omega, Whole.new W _ _, rfl⟩
  case body =>
    rintro l pre ⟨ya, yn, yb⟩ a' W hl ⟨r, hr⟩ ⟨⟨⟨pa, pn, v0, h1, h2, h3⟩, hB⟩, hz⟩ ⟨Bx, hBx, hX, rfl⟩ hlt
    have c0 := hX.cell 0
    have c1 := hX.cell 1
    have k0 := h1.cell 0
    have k1 := h1.cell 1
    have k2 := h2.cell 0
    have k3 := h3.cell 0
    have f0 := h1.frozen 0
    have f1 := h1.frozen 1
    have f2 := h2.frozen 0
    have f3 := h3.frozen 0
    simp at c0 c1 k0 k1 k2
    rw [show (#[Value.bool (!pre.isEmpty)] : Array Value)[0]? = some (Value.bool (!pre.isEmpty)) from rfl] at k3
    gi_wp2
    have hlo : W1.heap.size = w.heap.size + 3 := HLO.out
    obtain ⟨g1, g2, g3, g4, g5⟩ := match_sets (c1 := .bool v0) (.int .u32 ya) (.int .i64 yn) (.bool yb) (.bool true) h1 h2 h3 hB
    exact ⟨((((KeepsOthers.setCell _ _ _).trans (KeepsOthers.setCell _ _ _)).trans (KeepsOthers.setCell _ _ _)).trans (KeepsOthers.setCell _ _ _)).from _,
      ((((Between.refl W).set (p := ⟨w.heap.size, 0, none⟩) (by simp; omega) _).set (p := ⟨w.heap.size, 1, none⟩) (by simp; omega) _).set (p := ⟨w.heap.size + 1, 0, none⟩) (by simp; omega) _).set (p := ⟨w.heap.size + 1 + 1, 0, none⟩) (by simp; omega) _,
      ⟨⟨ya, yn, yb, g1, g2, by rw [show (!(pre ++ [(ya, yn, yb)]).isEmpty) = true by cases pre <;> rfl]; exact g3⟩, g4⟩, by rw [g5]; exact hz⟩
  case done =>
    rintro D ys W hD rfl ⟨⟨⟨pa, pn, v0, h1, h2, h3⟩, hB⟩, hz⟩ hK
    have k0 := h1.cell 0
    have k1 := h1.cell 1
    have k2 := h2.cell 0
    have k3 := h3.cell 0
    have f0 := h1.frozen 0
    have f1 := h1.frozen 1
    have f2 := h2.frozen 0
    have f3 := h3.frozen 0
    simp at k0 k1 k2
    rw [show (#[Value.bool (!ys.isEmpty)] : Array Value)[0]? = some (Value.bool (!ys.isEmpty)) from rfl] at k3
    gi_wp2
    gi_region
    gi_wp2
    obtain ⟨g1, g2, g3, g4, g5⟩ := match_sets (c1 := .bool v0) (.int .u32 pa) (.int .i64 pn) (.bool v0) (.bool (!ys.isEmpty)) h1 h2 h3 hB
    have hkw := ((((KeepsOthers.setCell W ⟨w.heap.size, 0, none⟩ (.int .u32 pa)).trans (KeepsOthers.setCell _ ⟨w.heap.size, 1, none⟩ (.int .i64 pn))).trans (KeepsOthers.setCell _ ⟨w.heap.size + 1, 0, none⟩ (.bool v0))).trans (KeepsOthers.setCell _ ⟨w.heap.size + 1 + 1, 0, none⟩ (.bool (!ys.isEmpty)))).same D _ hK rfl
    generalize ((((W.setCell ⟨w.heap.size, 0, none⟩ (.int .u32 pa)).setCell ⟨w.heap.size, 1, none⟩ (.int .i64 pn)).setCell ⟨w.heap.size + 1, 0, none⟩ (.bool v0)).setCell ⟨w.heap.size + 1 + 1, 0, none⟩ (.bool (!ys.isEmpty))) = X at *
    have hkd : X.drew.heap[D]? = some (.deferred (some [])) := hkw
    refine ⟨by simp, .inl ⟨_, _, rfl, run_takeDeferred hkd, ?_⟩⟩
    have hput := grownBy_putObj' X.drew D (.deferred none)
    have q1 := g1.drew.kept hput (fun e => by cases e; omega)
    have q2 := g2.drew.kept hput (fun e => by cases e; omega)
    have q3 := g3.drew.kept hput (fun e => by cases e; omega)
    have r0 := q1.cell 0
    have r1 := q1.cell 1
    have r2 := q2.cell 0
    have r3 := q3.cell 0
    simp at r0 r1 r2
    rw [show (#[Value.bool (!ys.isEmpty)] : Array Value)[0]? = some (Value.bool (!ys.isEmpty)) from rfl] at r3
    refine ⟨.tuple #[.agg #[.int .u32 pa, .int .i64 pn], .bool v0, .bool (!ys.isEmpty)], ?_, ⟨pa, pn, v0, ?_⟩, g4.drew.trans (belowK_b (w := w) (Nat.le_refl _) X.drew D _ _ (by omega) hkd rfl rfl)⟩
    · simp [results, Tryz.results68, go_sem, r0, r1, r2, r3]
    · have : (!ys.isEmpty) = decide (0 < Tree.cover (bitsP x 32) t) := by
        rw [← HES.out]; cases ys <;> simp
      rw [this]
  case stop =>
    rintro D c pre W _ _ h _
    exact h.elim
end Go.Proofs.YtfbangojgjcbcaaGreatDoor
