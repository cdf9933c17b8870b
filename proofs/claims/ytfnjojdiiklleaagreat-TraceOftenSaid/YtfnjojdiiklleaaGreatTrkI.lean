/- Contract of trace.Doubles. -/
/- Contracts of slices.IndexFunc over tracks, with trace.Often's closure. -/
/- Maps whose keys are numbers: an entry is looked up, put, counted up. -/
/- Contract of trace.Often: how often each node forwards on a chain. -/
/- A region that draws its order, walked by what holds whichever of its operations have come up. -/
/- Maps from places to rows of places: trace.Chains' children. -/
import Derived.Test.YtfnjojdiiklleaaGreatTrkE
import Derived.Test.YtfnjojdiiklleaaGreatBlk
import Derived.Maps.OwnSet
import Derived.DeepKeys4
import Derived.Deep.Cut
import Derived.OrdersIn
namespace Go.Proofs.YtfnjojdiiklleaaGreat
open Go.RowKit Pl

/-- Is it, or one that it comes of, of that number? -/
def upA (l : List Tk) (root : Int) (k : Nat) : Bool := match l[k]? with
  | some t => decide (t.num = root) || (if 0 ≤ parP l k then upA l root (parP l k).toNat else false)
  | none => false
termination_by k
decreasing_by
  have := parP_lt l k
  omega
theorem upA_hit {l : List Tk} {root : Int} {k : Nat} {t : Tk} (h : l[k]? = some t) (hn : t.num = root) : upA l root k = true := by
  rw [upA, h]; simp [hn]
theorem upA_end {l : List Tk} {root : Int} {k : Nat} {t : Tk} (h : l[k]? = some t) (hn : t.num ≠ root) (hp : parP l k < 0) : upA l root k = false := by
  have : ¬ (0 ≤ parP l k) := by omega
  rw [upA, h]; simp [hn, this]
theorem upA_next {l : List Tk} {root : Int} {k p : Nat} {t : Tk} (h : l[k]? = some t) (hn : t.num ≠ root) (hp : parP l k = p) : upA l root k = upA l root p := by
  have : (0 : Int) ≤ p := by omega
  rw [upA, h]; simp [hn, hp]
def dblAt (l : List Tk) (root : Int) (i : Nat) : Bool := upA l root i && (match l[i]? with | some t => t.dbl | none => false)
/-- How many of the first j were doubled below it. -/
def cntD (l : List Tk) (root : Int) : Nat → Nat
  | 0 => 0
  | j + 1 => cntD l root j + (if dblAt l root j then 1 else 0)
theorem cntD_le (l : List Tk) (root : Int) : ∀ j, cntD l root j ≤ j
  | 0 => Nat.le_refl _
  | j + 1 => by have := cntD_le l root j; unfold cntD; split <;> omega
set_option maxRecDepth 100000 in
set_option maxHeartbeats 8000000 in
theorem doubles_any (v : Value) (l : List Tk) (root : Int) (w : World) (h : Tracks w v l) (hl : l.length ≤ 1000000) :
    Calls Tryz.prog 12 #[v, .int .i64 root] w fun e w' => e = .returned (.int .i64 (cntD l root l.length)) ∧ Below w.heap.size w w' := by
  have HL := Lib.hid h
  have HC := Lib.hid fun (w' : World) (h' : Below w.heap.size w w') (i : Nat) (hi : i < l.length) => tparent_any v l i w' (h.here h') hi hl
  obtain ⟨A, c, rfl, _⟩ := h
  go_enter Tryz.func12, Tryz.ntmps12
  go_wp2
  go_loopw [5, 10] (fun n k wr => ∃ j : Nat, j ≤ l.length ∧ k = .int .i64 j ∧ n = .int .i64 (cntD l root j) ∧ Hid (Below w.heap.size w wr)) (fun _ k _ => l.length - (intOf k).toNat)
  case atStart => exact ⟨0, Nat.zero_le _, rfl, rfl, Lib.hid (Below.refl _ _)⟩
  case round =>
    obtain ⟨j, hj, rfl, rfl, HB⟩ := hrel
    by_cases hlt : j < l.length
    · have HD := Lib.hid (cntD_le l root j)
      have HN : Hid (cntD l root (j + 1) = cntD l root j + (if dblAt l root j then 1 else 0)) := Lib.hid rfl
      obtain ⟨t, ht⟩ : ∃ t, l[j]? = some t := ⟨_, List.getElem?_eq_getElem hlt⟩
      have HT := Lib.hid ht
      clear ht
      go_wp2
      go_loopw [7] (fun k wi => ∃ z : Int, k = .int .i64 z ∧ Hid ((z = -1 ∧ upA l root j = false) ∨ ∃ q : Nat, z = q ∧ q ≤ j ∧ upA l root j = upA l root q) ∧ Hid (Below w.heap.size w wi)) (fun k _ => (intOf k + 1).toNat)
      case atStart => exact ⟨j, rfl, Lib.hid (.inr ⟨j, rfl, Nat.le_refl _, rfl⟩), HB⟩
      case round =>
        obtain ⟨z, rfl, HZ, HBi⟩ := hrel
        rcases HZ.out with ⟨rfl, hup⟩ | ⟨q, rfl, hqj, hup⟩
        · have HX : Hid (cntD l root (j + 1) = cntD l root j) := Lib.hid (by rw [HN.out]; simp [dblAt, hup])
          clear hup HZ
          go_wp2
          go_roundw
          case rel => exact ⟨j + 1, by omega, by go_num, by rw [HX.out], HBi⟩
          case measure => first | (simp [intOf]; done) | (simp [intOf]; omega)
        · obtain ⟨u, hu⟩ : ∃ u, l[q]? = some u := ⟨_, List.getElem?_eq_getElem (by omega)⟩
          have HU := Lib.hid hu
          have hql : q < l.length := by omega
          have HLw := HL.out.here HBi.out
          obtain ⟨b, off, rfl, hb, e0, -⟩ := HLw.at hu
          by_cases hn : u.num = root
          · have hup' : upA l root j = true := by rw [hup]; exact upA_hit hu hn
            have d1 : (u.num != root) = false := by simpa using hn
            obtain ⟨b2, off2, hA, hb2, d0, -, -, -, -, -, -, c7, -⟩ := HLw.at HT.out
            injection hA with hA
            injection hA with hA1 hA2
            subst hA1 hA2
            cases hdb : t.dbl with
            | true =>
              have HX : Hid (cntD l root (j + 1) = cntD l root j + 1) := Lib.hid (by rw [HN.out]; simp [dblAt, hup', HT.out, hdb])
              rw [hdb] at c7
              have hD := HD.out
              clear hup hup' HZ hu HLw hqj d0
              go_wp2
              go_roundw
              case rel => exact ⟨j + 1, by omega, by go_num, by rw [HX.out]; go_num, HBi⟩
              case measure => first | (simp [intOf]; done) | (simp [intOf]; omega)
            | false =>
              have HX : Hid (cntD l root (j + 1) = cntD l root j) := Lib.hid (by rw [HN.out]; simp [dblAt, HT.out, hdb])
              rw [hdb] at c7
              clear hup hup' HZ hu HLw hqj d0
              go_wp2
              go_roundw
              case rel => exact ⟨j + 1, by omega, by go_num, by rw [HX.out], HBi⟩
              case measure => first | (simp [intOf]; done) | (simp [intOf]; omega)
          · have d1 : (u.num != root) = true := by simpa using hn
            obtain ⟨hp1, hp2⟩ := parP_lt l q
            have HZ2 : Hid ((parP l q = -1 ∧ upA l root j = false) ∨ ∃ q' : Nat, parP l q = q' ∧ q' ≤ j ∧ upA l root j = upA l root q') := Lib.hid (by
              by_cases hneg : parP l q < 0
              · exact .inl ⟨by omega, by rw [hup]; exact upA_end hu hn hneg⟩
              · exact .inr ⟨(parP l q).toNat, by omega, by omega, by rw [hup]; exact upA_next hu hn (by omega)⟩)
            have HM : Hid ((parP l q + 1).toNat < q + 1) := Lib.hid (by omega)
            have HK := Lib.hid (HC.out _ HBi.out q (by omega))
            clear hup HZ hu HLw hqj hp1 hp2
            go_wp2_with (go_at_call 38; refine HK.out.mono ?_; rintro e w2 ⟨rfl, hb2⟩; have HB2 := Lib.hid (HBi.out.trans (hb2.mono HBi.out.size)); clear hb2)
            go_roundw
            case rel => exact ⟨_, rfl, HZ2, HB2⟩
            case measure =>
              have := HM.out
              simp only [intOf]
              first | exact this | (simp [intOf]; omega)
    · obtain rfl : j = l.length := by omega
      go_wp2
      go_ret
      exact ⟨rfl, HB.out⟩
end Go.Proofs.YtfnjojdiiklleaaGreat
namespace Go.Proofs.YtfnjojdiiklleaaGreat
open Go.RowKit Pl

/-- The first place of a track of that number; -1: none. -/
def idxA : List Tk → Int → Nat → Int
  | [], _, _ => -1
  | t :: l, p, k => if t.num = p then (k : Int) else idxA l p (k + 1)
def idxP (l : List Tk) (p : Int) : Int := idxA l p 0
theorem drop_at {l : List Tk} {j : Nat} {t : Tk} (h : l[j]? = some t) : l.drop j = t :: l.drop (j + 1) := by
  obtain ⟨h1, h2⟩ := List.getElem?_eq_some_iff.1 h
  rw [List.drop_eq_getElem_cons h1, h2]
theorem idxA_ge : ∀ (l : List Tk) (p : Int) (k : Nat), idxA l p k = -1 ∨ ((k : Int) ≤ idxA l p k ∧ idxA l p k < k + l.length ∧ ∃ t, l[(idxA l p k - k).toNat]? = some t ∧ t.num = p)
  | [], _, _ => .inl rfl
  | t :: l, p, k => by
    unfold idxA
    split
    · rename_i h
      refine .inr ⟨Int.le_refl _, by simp; omega, t, by simp, h⟩
    · rcases idxA_ge l p (k + 1) with h | ⟨h1, h2, u, h3, h4⟩
      · exact .inl h
      · refine .inr ⟨by omega, by simp; omega, u, ?_, h4⟩
        rw [show (idxA l p (k + 1) - k).toNat = (idxA l p (k + 1) - (k + 1 : Nat)).toNat + 1 by omega]
        simpa using h3
theorem idxP_ge (l : List Tk) (p : Int) : idxP l p = -1 ∨ ∃ (i : Nat) (t : Tk), idxP l p = i ∧ i < l.length ∧ l[i]? = some t ∧ t.num = p := by
  rcases idxA_ge l p 0 with h | ⟨h1, h2, u, h3, h4⟩
  · exact .inl h
  · refine .inr ⟨(idxP l p).toNat, u, ?_, ?_, ?_, h4⟩
    · unfold idxP; omega
    · unfold idxP; omega
    · unfold idxP; simpa using h3
abbrev Tk.value (t : Tk) : Value := .agg #[.int .i64 t.num, .int .i64 t.par, .int .i64 t.node, .int .i64 t.to_, .slice t.ba t.bn t.bc, .int .i64 t.act, .bool t.err, .bool t.dbl, .bool t.loc, .int .i64 t.drop]
set_option maxRecDepth 100000 in
theorem often1_any (u t : Tk) (B : Nat) (w : World) (hlt : B < w.heap.size) (hB : trackQ w B 0 t) :
    Calls Tryz.prog 42 #[u.value, .pointer (some ⟨B, 0, none⟩)] w fun e w' => e = .returned (.bool (u.num == t.num)) ∧ Below w.heap.size w w' := by
  obtain ⟨c0, -⟩ := hB
  go_enter Tryz.func42, Tryz.ntmps42
  go_wp2
  go_ret
  exact ⟨rfl, (by repeat (first | exact Below.refl _ _ | apply Below.drew | apply below_drewN | apply bel_alloc | apply Ext.lift | apply bel_set0 | apply bel_set))⟩
set_option maxRecDepth 100000 in
set_option maxHeartbeats 4000000 in
theorem idxF_any (v : Value) (l : List Tk) (t : Tk) (B : Nat) (w : World) (h : Tracks w v l) (hl : l.length ≤ 1000000) (hlt : B < w.heap.size) (hB : trackQ w B 0 t) :
    Calls Tryz.prog 41 #[v, .func (.func 42) #[] #[.pointer (some ⟨B, 0, none⟩)]] w fun e w' => e = .returned (.int .i64 (idxP l t.num)) ∧ Below w.heap.size w w' := by
  have HL := Lib.hid h
  have HC := Lib.hid fun (u : Tk) (w' : World) (h' : Below w.heap.size w w') => often1_any u t B w' (Nat.lt_of_lt_of_le hlt h'.size) (hB.below hlt h')
  obtain ⟨A, c, rfl, _⟩ := h
  clear hB hlt
  go_enter Tryz.func41, Tryz.ntmps41
  go_wp2
  go_loopw [8] (fun i wr => ∃ j : Nat, j ≤ l.length ∧ i = .int .i64 j ∧ Hid (idxP l t.num = idxA (l.drop j) t.num j) ∧ Hid (Below w.heap.size w wr)) (fun i _ => l.length - (intOf i).toNat)
  case atStart => exact ⟨0, Nat.zero_le _, rfl, Lib.hid (by rw [List.drop_zero]; rfl), Lib.hid (Below.refl _ _)⟩
  case round =>
    obtain ⟨j, hj, rfl, HI, HB⟩ := hrel
    by_cases hlt : j < l.length
    · obtain ⟨u, hu⟩ : ∃ u, l[j]? = some u := ⟨_, List.getElem?_eq_getElem hlt⟩
      have HI2 : Hid (idxP l t.num = if u.num = t.num then (j : Int) else idxA (l.drop (j + 1)) t.num (j + 1)) := Lib.hid (by rw [HI.out, drop_at hu]; rfl)
      obtain ⟨b, off, rfl, hb, c0, c1, c2, c3, c4, c5, c6, c7, c8, c9⟩ := (HL.out.here HB.out).at hu
      clear hu
      cases hm : (u.num == t.num) with
      | true =>
        have HX : Hid (idxP l t.num = j) := Lib.hid (by rw [HI2.out, if_pos (by simpa using hm)])
        go_wp2_with (go_at_call 42; refine (HC.out u _ HB.out).mono ?_; rintro e w2 ⟨rfl, hb2⟩; rw [hm]; have HB2 := Lib.hid (HB.out.trans (hb2.mono HB.out.size)); clear hb2)
        go_ret
        exact ⟨by rw [HX.out]; rfl, HB2.out⟩
      | false =>
        have HX : Hid (idxP l t.num = idxA (l.drop (j + 1)) t.num (j + 1)) := Lib.hid (by rw [HI2.out, if_neg (by simpa using hm)])
        go_wp2_with (go_at_call 42; refine (HC.out u _ HB.out).mono ?_; rintro e w2 ⟨rfl, hb2⟩; rw [hm]; have HB2 := Lib.hid (HB.out.trans (hb2.mono HB.out.size)); clear hb2)
        go_roundw
        case rel => exact ⟨j + 1, by omega, by go_num, HX, HB2⟩
        case measure => first | (simp [intOf]; done) | (simp [intOf]; omega)
    · obtain rfl : j = l.length := by omega
      have HX : Hid (idxP l t.num = -1) := Lib.hid (by rw [HI.out, List.drop_length]; rfl)
      go_wp2
      go_ret
      exact ⟨by rw [HX.out]; rfl, HB.out⟩
end Go.Proofs.YtfnjojdiiklleaaGreat
namespace Go.Proofs.YtfnjojdiiklleaaGreat
open Go.RowKit Go.Maps Go.ChangeMaps Go.WideMaps

def In64 (n : Int) : Prop := -9223372036854775808 ≤ n ∧ n ≤ 9223372036854775807
theorem wf64 {a : Int} (h : In64 a) : (Lit.int .i64 a).wf = true := by obtain ⟨h0, h1⟩ := h; simp [Lit.wf, IntKind.min, IntKind.max, IntKind.signed, IntKind.bits]; omega
theorem kInt : Keyed Tryz.prog 3 := int_keyed Tryz.underlying3
theorem key_int {a : Int} (h : In64 a) : ∃ l, keyOf Tryz.prog 3 (.int .i64 a) = some l := ⟨_, keyOf_int_mk Tryz.underlying3 (wf64 h)⟩
theorem zero_int (w : World) : (zeroValue 3).run Tryz.prog w = .ok (.int .i64 0) w := by kernel_rfl
abbrev ekI (a : Int) : Value := .int .i64 a
theorem ekI_inj : ∀ x y : Int, ekI x = ekI y → x = y := fun _ _ h => by injection h
/-- Block b is a map whose keys are numbers: it holds just what f says. -/
structure NMap (P : Program) (k : TypeId) (w : World) (b : Nat) (es : Array MapEntry) (clock : Nat) (f : Int → Option Value) : Prop where
  is : w.heap[b]? = some (.map es clock)
  keys : ∀ e ∈ es.toList, ∃ l, keyOf P k e.key = some l
  holds : ∀ e ∈ es.toList, ∃ a, e.key = ekI a ∧ f a = some e.val
  all : ∀ a v, f a = some v → ∃ e ∈ es.toList, e.key = ekI a
  one : (es.toList.map (·.key)).Nodup
section
variable {P : Program} {k t e : TypeId} {w w' : World} {b clock : Nat} {es : Array MapEntry} {f : Int → Option Value}
theorem NMap.new (w : World) : NMap P k (w.alloc (.map #[] 0)) w.heap.size #[] 0 (fun _ => none) := ⟨heap_alloc_new w _, by simp, by simp, by simp, by simp⟩
theorem NMap.lt (h : NMap P k w b es clock f) : b < w.heap.size := (Array.getElem?_eq_some_iff.1 h.is).1
theorem NMap.block (h : NMap P k w b es clock f) (hb : w'.heap[b]? = w.heap[b]?) : NMap P k w' b es clock f := ⟨hb.trans h.is, h.keys, h.holds, h.all, h.one⟩
theorem NMap.here (h : NMap P k w b es clock f) (hb : Below w.heap.size w w') : NMap P k w' b es clock f := h.block (hb.block b h.lt)
/-- 'm[k]'. -/
theorem NMap.look (h : NMap P k w b es clock f) (K : Keyed P k) (ht : P.underlying t = some (.map k e)) (a : Int) {l : Lit} (hk : keyOf P k (ekI a) = some l) {z : Value} (hz : (zeroValue e).run P w = .ok z w) (c : Bool) :
    (Instr.lookup t (.map (some b)) (ekI a) c).run P w = .ok (if c then .tuple #[(f a).getD z, .bool (f a).isSome] else (f a).getD z) w := by
  rcases K.find w hk es.toList h.keys with ⟨h1, h2⟩ | ⟨j, e0, h1, h2, h3⟩
  · have hfa : f a = none := by
      cases hfa : f a with
      | none => rfl
      | some v =>
        obtain ⟨e1, he1, hk1⟩ := h.all a v hfa
        exact absurd hk1 (h2 e1 he1)
    rw [hfa]
    simp [Instr.lookup, run_underlying ht, MapKept.run_getObj_map h.is, K.check w _ hk, h1, hz, Result.andThen]
  · obtain ⟨a', ha', hv⟩ := h.holds e0 (List.mem_of_getElem? h2)
    rw [ekI_inj a' a (ha'.symm.trans h3)] at hv
    rw [hv]
    simp [Instr.lookup, run_underlying ht, MapKept.run_getObj_map h.is, K.check w _ hk, h1, Result.andThen]
theorem grown_set (w : World) (b : Nat) (o : Obj) : w.grownBy (setBlock w b o) (some b) := by
  refine ⟨rfl, rfl, rfl, by simp [setBlock], fun g hg hne => ?_⟩
  show (w.heap.setIfInBounds b o)[g]? = _
  rw [Array.getElem?_setIfInBounds_ne (fun e => hne (by rw [e]))]
theorem modify_at {α : Type} {g : α → α} : ∀ (l : List α) (j : Nat) (x : α), l[j]? = some x → ∃ A B, l = A ++ x :: B ∧ l.modify j g = A ++ g x :: B
  | [], j, x, h => by simp at h
  | y :: l, 0, x, h => by simp at h; subst h; exact ⟨[], l, rfl, by simp⟩
  | y :: l, j + 1, x, h => by
    obtain ⟨A, B, h1, h2⟩ := modify_at (g := g) l j x (by simpa using h)
    exact ⟨y :: A, B, by rw [h1]; rfl, by simp [h2]⟩
/-- 'm[k] = v'. -/
theorem NMap.upd (h : NMap P k w b es clock f) (K : Keyed P k) (ht : P.underlying t = some (.map k e)) (a : Int) {l : Lit} (hk : keyOf P k (ekI a) = some l) (v : Value) :
    ∃ es' clock', (Instr.mapUpdate t (.map (some b)) (ekI a) v).run P w = .ok () (setBlock w b (.map es' clock')) ∧ NMap P k (setBlock w b (.map es' clock')) b es' clock' (fun x => if x = a then some v else f x) := by
  have hlt := h.lt
  rcases K.find w hk es.toList h.keys with ⟨h1, h2⟩ | ⟨j, e0, h1, h2, h3⟩
  · refine ⟨es.push ⟨ekI a, v, clock⟩, clock + 1, ?_, by simp [setBlock, hlt], ?_, ?_, ?_, ?_⟩
    · simp [Instr.mapUpdate, run_underlying ht, MapKept.run_getObj_map h.is, K.check w false hk, h1, MapKept.run_setObj_map _ h.is, Result.andThen, setBlock]
    · intro x hx
      simp only [Array.toList_push, List.mem_append, List.mem_singleton] at hx
      rcases hx with hx | rfl
      · exact h.keys x hx
      · exact ⟨l, hk⟩
    · intro x hx
      simp only [Array.toList_push, List.mem_append, List.mem_singleton] at hx
      rcases hx with hx | rfl
      · obtain ⟨a', h4, h5⟩ := h.holds x hx
        have hne : a' ≠ a := fun e => by rw [e] at h4; exact h2 x hx h4
        exact ⟨a', h4, by simp only [if_neg hne]; exact h5⟩
      · exact ⟨a, rfl, by simp⟩
    · intro a' v' h4
      simp only [Array.toList_push, List.mem_append, List.mem_singleton]
      by_cases e : a' = a
      · exact ⟨_, .inr rfl, by rw [e]⟩
      · simp only [if_neg e] at h4
        obtain ⟨x, hx, hxk⟩ := h.all a' v' h4
        exact ⟨x, .inl hx, hxk⟩
    · rw [Array.toList_push, List.map_append, List.nodup_append]
      refine ⟨h.one, by simp, fun x hx y hy => ?_⟩
      obtain ⟨e1, he1, rfl⟩ := List.mem_map.1 hx
      simp at hy
      rw [hy]
      exact h2 e1 he1
  · obtain ⟨A, B, q1, q2⟩ := modify_at (g := fun x : MapEntry => { x with key := ekI a, val := v }) es.toList j e0 h2
    have hone := h.one
    rw [q1, List.map_append, List.map_cons, h3] at hone
    have hstay : (Instr.keyThatStays (((es[j]?).map (·.key)).getD (ekI a)) (ekI a)).run P w = .ok (ekI a) w := by
      rw [← Array.getElem?_toList, h2]
      simp only [Option.map_some, Option.getD_some, h3]
      exact K.stays w hk
    refine ⟨es.modify j fun x => { x with key := ekI a, val := v }, clock, ?_, by simp [setBlock, hlt], ?_, ?_, ?_, ?_⟩
    · simp only [Instr.mapUpdate, Sem.run_bind, run_underlying ht, MapKept.run_getObj_map h.is, K.check w false hk, h1, Result.andThen_ok, hstay, MapKept.run_setObj_map _ h.is, setBlock]
    · intro x hx
      rw [Array.toList_modify, q2, List.mem_append, List.mem_cons] at hx
      rcases hx with hx | rfl | hx
      · exact h.keys x (by rw [q1]; simp [hx])
      · exact ⟨l, hk⟩
      · exact h.keys x (by rw [q1]; simp [hx])
    · intro x hx
      rw [Array.toList_modify, q2, List.mem_append, List.mem_cons] at hx
      rw [List.nodup_append, List.nodup_cons] at hone
      have far : x ∈ A ∨ x ∈ B → ∃ a', x.key = ekI a' ∧ (if a' = a then some v else f a') = some x.val := fun hx => by
        obtain ⟨a', h4, h5⟩ := h.holds x (by rw [q1]; rcases hx with hx | hx <;> simp [hx])
        have hne : a' ≠ a := fun e => by
          rw [e] at h4
          rcases hx with hx | hx
          · exact hone.2.2 x.key (List.mem_map.2 ⟨x, hx, rfl⟩) (ekI a) List.mem_cons_self h4
          · exact hone.2.1.1 (List.mem_map.2 ⟨x, hx, h4⟩)
        exact ⟨a', h4, by simp only [if_neg hne]; exact h5⟩
      rcases hx with hx | rfl | hx
      · exact far (.inl hx)
      · exact ⟨a, rfl, by simp⟩
      · exact far (.inr hx)
    · intro a' v' h4
      rw [Array.toList_modify, q2]
      by_cases e : a' = a
      · exact ⟨{ e0 with key := ekI a, val := v }, by simp, by rw [e]⟩
      · simp only [if_neg e] at h4
        obtain ⟨x, hx, hxk⟩ := h.all a' v' h4
        rw [q1, List.mem_append, List.mem_cons] at hx
        rcases hx with hx | rfl | hx
        · exact ⟨x, by simp [hx], hxk⟩
        · exact absurd (ekI_inj _ _ (hxk.symm.trans h3)) e
        · exact ⟨x, by simp [hx], hxk⟩
    · rw [Array.toList_modify, q2, List.map_append, List.map_cons]; exact hone
end
end Go.Proofs.YtfnjojdiiklleaaGreat
namespace Go.Proofs.YtfnjojdiiklleaaGreat
open Go.RowKit Pl

def countsAt (l : List Tk) (t : Tk) (n : Int) : Bool := decide (0 ≤ idxP l t.num) && (fwdP l (idxP l t.num).toNat && (match l[(idxP l t.num).toNat]? with | some u => decide (u.node = n) | none => false))
def cntO (l c : List Tk) (n : Int) : Nat := c.countP fun t => countsAt l t n
def fO (l c : List Tk) (n : Int) : Option Value := if cntO l c n = 0 then none else some (.int .i64 (cntO l c n))
theorem fO_get (l c : List Tk) (n : Int) : (fO l c n).getD (.int .i64 0) = .int .i64 (cntO l c n) := by
  unfold fO
  split
  · rename_i h; rw [h]; rfl
  · rfl
theorem cntO_snoc (l c : List Tk) (t : Tk) (n : Int) : cntO l (c ++ [t]) n = cntO l c n + (if countsAt l t n then 1 else 0) := by
  unfold cntO; rw [List.countP_append, List.countP_singleton]
theorem fO_nil (l : List Tk) : fO l [] = fun _ => none := by funext n; simp [fO, cntO]
theorem fO_same {l c : List Tk} {t : Tk} (h : ∀ n, countsAt l t n = false) : fO l (c ++ [t]) = fO l c := by
  funext n
  simp [fO, cntO_snoc, h n]
theorem fO_more {l c : List Tk} {t : Tk} {a : Int} (h : ∀ n, countsAt l t n = decide (n = a)) : fO l (c ++ [t]) = fun x => if x = a then some (.int .i64 ((cntO l c a : Int) + 1)) else fO l c x := by
  funext n
  by_cases e : n = a
  · subst e
    simp only [fO, cntO_snoc, h n, decide_true, if_true]
    rw [if_neg (by omega)]
    congr 1
  · simp [fO, cntO_snoc, h n, e]
theorem cntO_le (l c : List Tk) (n : Int) : cntO l c n ≤ c.length := List.countP_le_length
/-- A track's numbers are numbers. -/
def TkIn (t : Tk) : Prop := In64 t.node
set_option maxRecDepth 100000 in
set_option maxHeartbeats 8000000 in
theorem often_any (vc vl : Value) (c l : List Tk) (w : World) (hc : Tracks w vc c) (h : Tracks w vl l) (hlc : c.length ≤ 1000000) (hl : l.length ≤ 1000000) (hin : ∀ t ∈ l, TkIn t) :
    Calls Tryz.prog 9 #[vc, vl] w fun e w' => (∃ M es clk, e = .returned (.map (some M)) ∧ NMap Tryz.prog 3 w' M es clk (fO l c)) ∧ Below w.heap.size w w' := by
  have HL := Lib.hid h
  have HC := Lib.hid hc
  have HIN := Lib.hid hin
  have hmm := run_makeMap (P := Tryz.prog)
  obtain ⟨W0, hW0⟩ : ∃ W0, w.alloc (.map #[] 0) = W0 := ⟨_, rfl⟩
  have HB0 : Hid (Below w.heap.size w W0) := Lib.hid (by rw [← hW0]; exact (Below.refl _ _).alloc (Nat.le_refl _) _)
  have HM0 : Hid (NMap Tryz.prog 3 W0 w.heap.size #[] 0 (fO l [])) := Lib.hid (by rw [← hW0, fO_nil]; exact NMap.new w)
  have HW0 := Lib.hid hW0
  obtain ⟨A, k1, rfl, _⟩ := h
  obtain ⟨A2, k2, rfl, _⟩ := hc
  clear hin hW0
  go_enter Tryz.func9, Tryz.ntmps9
  go_upto_region 2 with fail
  rw [HW0.out]
  clear hmm
  go_wp2
  go_loopw [12] (fun i wr => ∃ (j : Nat) (es : Array MapEntry) (clk : Nat), j ≤ c.length ∧ i = .int .i64 j ∧ Hid (NMap Tryz.prog 3 wr w.heap.size es clk (fO l (c.take j))) ∧ Hid (Below w.heap.size w wr)) (fun i _ => c.length - (intOf i).toNat)
  case atStart => exact ⟨0, #[], 0, Nat.zero_le _, rfl, by rw [List.take_zero]; exact HM0, HB0⟩
  case round =>
    obtain ⟨j, es, clk, hj, rfl, HM, HB⟩ := hrel
    by_cases hlt : j < c.length
    · obtain ⟨t, ht⟩ : ∃ t, c[j]? = some t := ⟨_, List.getElem?_eq_getElem hlt⟩
      obtain ⟨b, off, rfl, hb, c0, c1, c2, c3, c4, c5, c6, c7, c8, c9⟩ := (HC.out.here HB.out).at ht
      obtain ⟨W1, hW1⟩ : ∃ W1, wr.alloc (.cells #[.int .i64 t.num, .int .i64 t.par, .int .i64 t.node, .int .i64 t.to_, .slice t.ba t.bn t.bc, .int .i64 t.act, .bool t.err, .bool t.dbl, .bool t.loc, .int .i64 t.drop] 27) = W1 := ⟨_, rfl⟩
      have hbel : Below wr.heap.size wr W1 := by rw [← hW1]; exact (Below.refl _ _).alloc (Nat.le_refl _) _
      have hX : Whole W1 wr.heap.size 27 #[.int .i64 t.num, .int .i64 t.par, .int .i64 t.node, .int .i64 t.to_, .slice t.ba t.bn t.bc, .int .i64 t.act, .bool t.err, .bool t.dbl, .bool t.loc, .int .i64 t.drop] := by rw [← hW1]; exact Whole.new wr _ _
      have hQ : trackQ W1 wr.heap.size 0 t := ⟨hX.cell 0, hX.cell 1, hX.cell 2, hX.cell 3, hX.cell 4, hX.cell 5, hX.cell 6, hX.cell 7, hX.cell 8, hX.cell 9⟩
      have HBW := Lib.hid (HB.out.trans (hbel.mono HB.out.size))
      have HI := Lib.hid (idxF_any _ l t wr.heap.size W1 (HL.out.here HBW.out) hl hX.lt hQ)
      have HM1 := Lib.hid (HM.out.here hbel)
      have HW1 := Lib.hid hW1
      have HTK : Hid (c.take (j + 1) = c.take j ++ [t]) := Lib.hid (by rw [List.take_add_one, ht]; rfl)
      have HCL := Lib.hid (cntO_le l (c.take j))
      clear hW1 hbel hX hQ ht
      go_upto_region 5 with fail
      rw [HW1.out]
      rcases idxP_ge l t.num with hx | ⟨i, u, hx, hil, hu, hnum⟩
      · have HX := Lib.hid hx
        have HS : Hid (fO l (c.take (j + 1)) = fO l (c.take j)) := Lib.hid (by rw [HTK.out]; exact fO_same fun n => by simp [countsAt, hx])
        have HF := Lib.hid fun (w' : World) (h' : Below w.heap.size w w') => forwarded_out _ l (-1) w' (HL.out.here h') (.inl (by decide))
        clear hx
        go_wp2_with (first
          | (go_at_call 41; refine HI.out.mono ?_; rintro e w2 ⟨rfl, hb2⟩; rw [HX.out]; have HM2 := Lib.hid (HM1.out.here hb2); have HB2 := Lib.hid (HBW.out.trans (hb2.mono HBW.out.size)); clear hb2)
          | (go_at_call 10; refine (HF.out _ HB2.out).mono ?_; rintro e w3 ⟨rfl, hb3⟩; have HM3 := Lib.hid (HM2.out.here hb3); have HB3 := Lib.hid (HB2.out.trans (hb3.mono HB2.out.size)); clear hb3))
        go_roundw
        case rel => exact ⟨j + 1, es, clk, by omega, by go_num, by rw [HS.out]; exact HM3, HB3⟩
        case measure => first | (simp [intOf]; done) | (simp [intOf]; omega)
      · have HX := Lib.hid hx
        have HF := Lib.hid fun (w' : World) (h' : Below w.heap.size w w') => forwarded_any _ l i w' (HL.out.here h') hil hl
        cases hf : fwdP l i with
        | false =>
          have HS : Hid (fO l (c.take (j + 1)) = fO l (c.take j)) := Lib.hid (by rw [HTK.out]; exact fO_same fun n => by simp [countsAt, hx, hf])
          rw [hf] at HF
          clear hx hu hf
          go_wp2_with (first
            | (go_at_call 41; refine HI.out.mono ?_; rintro e w2 ⟨rfl, hb2⟩; rw [HX.out]; have HM2 := Lib.hid (HM1.out.here hb2); have HB2 := Lib.hid (HBW.out.trans (hb2.mono HBW.out.size)); clear hb2)
            | (go_at_call 10; refine (HF.out _ HB2.out).mono ?_; rintro e w3 ⟨rfl, hb3⟩; have HM3 := Lib.hid (HM2.out.here hb3); have HB3 := Lib.hid (HB2.out.trans (hb3.mono HB2.out.size)); clear hb3))
          go_roundw
          case rel => exact ⟨j + 1, es, clk, by omega, by go_num, by rw [HS.out]; exact HM3, HB3⟩
          case measure => first | (simp [intOf]; done) | (simp [intOf]; omega)
        | true =>
          have HS : Hid (fO l (c.take (j + 1)) = fun x => if x = u.node then some (.int .i64 ((cntO l (c.take j) u.node : Int) + 1)) else fO l (c.take j) x) := Lib.hid (by
            rw [HTK.out]
            exact fO_more fun n => by
              have : (u.node = n) ↔ (n = u.node) := ⟨Eq.symm, Eq.symm⟩
              simp [countsAt, hx, hf, hu, this])
          have HUI := Lib.hid (HIN.out u (List.mem_of_getElem? hu))
          have HU := Lib.hid hu
          have hcl : (cntO l (c.take j) u.node : Int) ≤ 1000000 := by
            have := HCL.out u.node
            rw [List.length_take] at this
            omega
          rw [hf] at HF
          clear hx hu hf
          go_wp2_with (first
            | (go_at_call 41; refine HI.out.mono ?_; rintro e w2 ⟨rfl, hb2⟩; rw [HX.out]; have HM2 := Lib.hid (HM1.out.here hb2); have HB2 := Lib.hid (HBW.out.trans (hb2.mono HBW.out.size)); clear hb2)
            | (go_at_call 10; refine (HF.out _ HB2.out).mono ?_; rintro e w3 ⟨rfl, hb3⟩; have HM3 := Lib.hid (HM2.out.here hb3); have HB3 := Lib.hid (HB2.out.trans (hb3.mono HB2.out.size)); clear hb3; obtain ⟨b3, o3, rfl, hb3, e0, e1, e2, -⟩ := (HL.out.here HB3.out).at HU.out; obtain ⟨kl, hkl⟩ := key_int HUI.out; have hlk := HM3.out.look kInt Tryz.underlying31 u.node hkl (zero_int _) false; rw [fO_get] at hlk; simp only [Bool.false_eq_true, if_false] at hlk; obtain ⟨es', clk', hput, hm'⟩ := HM3.out.upd kInt Tryz.underlying31 u.node hkl (.int .i64 ((cntO l (c.take j) u.node : Int) + 1)); have HM' := Lib.hid hm'; clear hm' hkl))
          go_roundw
          case rel => exact ⟨j + 1, es', clk', by omega, by go_num, by rw [HS.out]; exact HM', Lib.hid (HB3.out.grown (grown_set _ _ _) HB3.out.size fun g hg => by injection hg with hg; omega)⟩
          case measure => first | (simp [intOf]; done) | (simp [intOf]; omega)
    · obtain rfl : j = c.length := by omega
      go_wp2
      go_ret
      exact ⟨⟨_, _, _, rfl, by have := HM.out; rwa [List.take_length] at this⟩, HB.out⟩
end Go.Proofs.YtfnjojdiiklleaaGreat
namespace Go.Proofs.YtfnjojdiiklleaaGreat
open Go.RowKit

namespace RegI
def unl (L : Array Bool) : Nat := L.toList.countP (fun b => !b)
theorem countP_set : ∀ (l : List Bool) (j : Nat), l[j]? = some false → (l.set j true).countP (fun b => !b) + 1 = l.countP (fun b => !b)
  | [], _, h => by simp at h
  | b :: l, 0, h => by simp at h; subst h; simp
  | b :: l, j + 1, h => by
    simp at h
    have := countP_set l j h
    simp only [List.set_cons_succ, List.countP_cons]
    omega
theorem unl_set {L : Array Bool} {j : Nat} (h : L.getD j true = false) : unl (L.setIfInBounds j true) + 1 = unl L := by
  unfold unl
  rw [Array.toList_setIfInBounds]
  apply countP_set
  rw [Array.getElem?_toList]
  rw [Array.getD_eq_getD_getElem?] at h
  cases hj : L[j]? with
  | none => rw [hj] at h; cases h
  | some b => rw [hj] at h; simp at h; rw [h]
theorem unl_pos {L : Array Bool} {j : Nat} (h : L.getD j true = false) : 0 < unl L := by have := unl_set h; omega
end RegI
/-- Each operation waits for earlier ones alone. -/
def fwdB (ops : Array Oper) : Bool := (List.range ops.size).all fun i => match ops[i]? with
  | some o => o.after.all fun e => !(Region.binds .any e) || decide (e.on < i)
  | none => true
theorem all_listed {ops : Array Oper} (hf : fwdB ops = true) {L : Array Bool} (hs : L.size = ops.size) (hr : Region.ready .any ops L = []) : ∀ i, i < ops.size → L.getD i true = true := by
  intro i
  induction i using Nat.strongRecOn with
  | ind i ih =>
    intro hi
    cases hL : L.getD i true with
    | true => rfl
    | false =>
      exfalso
      obtain ⟨o, ho⟩ : ∃ o, ops[i]? = some o := ⟨_, Array.getElem?_eq_getElem hi⟩
      have hm : i ∈ Region.ready .any ops L := mem_ready.2 ⟨hL, o, ho, fun e he hb => ?_⟩
      · rw [hr] at hm; cases hm
      · have h1 := List.all_eq_true.1 hf i (List.mem_range.2 hi)
        simp only [ho] at h1
        have h2 := Array.all_eq_true_iff_forall_mem.1 h1 e he
        rw [hb] at h2
        have h3 : e.on < i := by simpa using h2
        have := ih e.on h3 (Nat.lt_trans h3 hi)
        rw [Array.getD_eq_getD_getElem?] at this ⊢
        rw [Array.getElem?_eq_getElem (by omega)] at this ⊢
        exact this
section
variable {P : Program} {ops : Array Oper} {Q : Exit → Act → World → Prop}
theorem wpAny_inv {I : Array Bool → Act → World → Prop} (hf : fwdB ops = true)
    (hstep : ∀ L a w i o, L.size = ops.size → I L a w → L.getD i true = false → ops[i]? = some o → (∀ e ∈ o.after, Region.binds .any e = true → L.getD e.on false = true) → wpOp P ops Q i (I (L.setIfInBounds i true)) a w)
    (hend : ∀ L a w, L.size = ops.size → (∀ i, i < ops.size → L.getD i true = true) → I L a w → Q .normal a w) :
    ∀ (fuel : Nat) (L : Array Bool) (a : Act) (w : World), L.size = ops.size → RegI.unl L ≤ fuel → I L a w → wpAny P .any ops Q fuel L a w
  | 0, L, a, w, hs, hu, hi => by
    have hr : Region.ready .any ops L = [] := by
      cases hr : Region.ready .any ops L with
      | nil => rfl
      | cons i r =>
        have := RegI.unl_pos (mem_ready.1 (show i ∈ Region.ready .any ops L by rw [hr]; exact List.mem_cons_self)).1
        omega
    exact ⟨hr, hend L a w hs (all_listed hf hs hr) hi⟩
  | fuel + 1, L, a, w, hs, hu, hi => by
    refine ⟨fun hr => hend L a w hs (all_listed hf hs hr) hi, fun i hm => ?_⟩
    obtain ⟨h1, o, h2, h3⟩ := mem_ready.1 hm
    refine wpOp_mono (fun a' w' h => wpAny_inv hf hstep hend fuel _ a' w' (by simpa using hs) ?_ h) (hstep L a w i o hs hi h1 h2 h3)
    have := RegI.unl_set h1
    omega
theorem wp_region_inv {id : Nat} {a : Act} {w : World} {I : Array Bool → Act → World → Prop} (hm : P.follows .mixedOrders = true) (hf : fwdB ops = true) (h0 : I (Array.replicate ops.size false) a w.drew)
    (hstep : ∀ L a w i o, L.size = ops.size → I L a w → L.getD i true = false → ops[i]? = some o → (∀ e ∈ o.after, Region.binds .any e = true → L.getD e.on false = true) → wpOp P ops Q i (I (L.setIfInBounds i true)) a w)
    (hend : ∀ L a w, L.size = ops.size → (∀ i, i < ops.size → L.getD i true = true) → I L a w → Q .normal a w) : (Code.region id ops true).wp P Q a w :=
  wp_region_any hm (wpAny_inv hf hstep hend _ _ _ _ (by simp) (Nat.le_trans List.countP_le_length (by simp)) h0)
theorem op_val {i : Nat} {o : Oper} {v : Value} {a : Act} {w w' : World} {K : Act → World → Prop} (h0 : ops[i]? = some o) (hg : o.guard = none) (hr : (execOp a.eval o).run P w = .ok (.value v) w') (hk : K (a.put o.dst v) w') : wpOp P ops Q i K a w := by
  unfold wpOp
  simp only [h0]
  rw [if_pos (by unfold Region.wanted; rw [hg])]
  exact .inl (by unfold Oper.wp; rw [hr]; exact hk)
theorem op_skip {i : Nat} {o : Oper} {a : Act} {w w' : World} {K : Act → World → Prop} (h0 : ops[i]? = some o) (hg : o.guard = none) (hr : (execOp a.eval o).run P w = .ok .skip w') (hk : K (a.put o.dst undef) w') : wpOp P ops Q i K a w := by
  unfold wpOp
  simp only [h0]
  rw [if_pos (by unfold Region.wanted; rw [hg])]
  exact .inl (by unfold Oper.wp; rw [hr]; exact hk)
theorem getD_on (L : Array Bool) (i k : Nat) : (L.setIfInBounds i true).getD k true = if k = i then true else L.getD k true := by
  rw [Array.getD_eq_getD_getElem?, Array.getD_eq_getD_getElem?]
  by_cases h : k = i
  · subst h
    rw [if_pos rfl]
    by_cases hk : k < L.size
    · rw [Array.getElem?_setIfInBounds_self_of_lt hk]; rfl
    · rw [Array.getElem?_eq_none (by simp; omega)]; rfl
  · rw [if_neg h, Array.getElem?_setIfInBounds_ne (fun e => h e.symm)]
/-- Has it come up? -/
def lst (L : Array Bool) (k : Nat) : Bool := L.getD k true
theorem lst_on (L : Array Bool) (i k : Nat) : lst (L.setIfInBounds i true) k = if k = i then true else lst L k := getD_on L i k
theorem lst_none {n k : Nat} (h : k < n) : lst (Array.replicate n false) k = false := by unfold lst; simp [h]
theorem getD_tt {L : Array Bool} {k : Nat} (h : L.getD k false = true) : L.getD k true = true := by
  rw [Array.getD_eq_getD_getElem?] at h ⊢
  cases hk : L[k]? with
  | none => rw [hk] at h; cases h
  | some b => rw [hk] at h; simpa using h
variable {F : Fence} {n : Nat}
theorem wpAnyIn_inv {I : Array Bool → Act → World → Prop} (hf : fwdB ops = true)
    (hstep : ∀ L a w i o, L.size = ops.size → I L a w → L.getD i true = false → ops[i]? = some o → (∀ e ∈ o.after, Region.binds .any e = true → L.getD e.on false = true) → wpOpIn F n P ops Q i (I (L.setIfInBounds i true)) a w)
    (hend : ∀ L a w, L.size = ops.size → (∀ i, i < ops.size → L.getD i true = true) → I L a w → Q .normal a w) :
    ∀ (fuel : Nat) (L : Array Bool) (a : Act) (w : World), L.size = ops.size → RegI.unl L ≤ fuel → I L a w → wpAnyIn F n P .any ops Q fuel L a w
  | 0, L, a, w, hs, hu, hi => by
    have hr : Region.ready .any ops L = [] := by
      cases hr : Region.ready .any ops L with
      | nil => rfl
      | cons i r =>
        have := RegI.unl_pos (mem_ready.1 (show i ∈ Region.ready .any ops L by rw [hr]; exact List.mem_cons_self)).1
        omega
    exact ⟨hr, hend L a w hs (all_listed hf hs hr) hi⟩
  | fuel + 1, L, a, w, hs, hu, hi => by
    refine ⟨fun hr => hend L a w hs (all_listed hf hs hr) hi, fun i hm => ?_⟩
    obtain ⟨h1, o, h2, h3⟩ := mem_ready.1 hm
    refine wpOpIn_mono (fun a' w' h => wpAnyIn_inv hf hstep hend fuel _ a' w' (by simpa using hs) ?_ h) (hstep L a w i o hs hi h1 h2 h3)
    have := RegI.unl_set h1
    omega
theorem wpIn_region_inv {id : Nat} {a : Act} {w : World} {I : Array Bool → Act → World → Prop} (hm : P.follows .mixedOrders = true) (hf : fwdB ops = true) (h0 : I (Array.replicate ops.size false) a w.drew)
    (hstep : ∀ L a w i o, L.size = ops.size → I L a w → L.getD i true = false → ops[i]? = some o → (∀ e ∈ o.after, Region.binds .any e = true → L.getD e.on false = true) → wpOpIn F n P ops Q i (I (L.setIfInBounds i true)) a w)
    (hend : ∀ L a w, L.size = ops.size → (∀ i, i < ops.size → L.getD i true = true) → I L a w → Q .normal a w) : (Code.region id ops true).wpIn F n P Q a w :=
  wpIn_region_any hm (wpAnyIn_inv hf hstep hend _ _ _ _ (by simp) (Nat.le_trans List.countP_le_length (by simp)) h0)
end
end Go.Proofs.YtfnjojdiiklleaaGreat
namespace Go.Proofs.YtfnjojdiiklleaaGreat
open Go.RowKit Go.Maps Go.ChangeMaps Go.WideMaps Pl

def intsV (l : List Int) : List Value := l.map (Value.int .i64)
theorem intsV_len (l : List Int) : (intsV l).length = l.length := by simp [intsV]
/-- Rows of cells of unlike types lie apart. -/
theorem rows_apart {w : World} {b1 b2 : Nat} {e1 e2 : TypeId} {s1 s2 n1 n2 : Nat} {v1 v2 : Value} {x1 x2 : List Value} (h1 : w.ownsRow b1 e1 s1 v1 n1 x1) (h2 : w.ownsRow b2 e2 s2 v2 n2 x2) (hne : e1 ≠ e2) : v1.ownBlock = none ∨ v1.ownBlock ≠ v2.ownBlock := by
  rcases h1.2 with ⟨rfl, _⟩ | ⟨g1, cap1, cur1, rfl, _, hh1, _⟩
  · exact .inl rfl
  · refine .inr fun e => ?_
    rcases h2.2 with ⟨rfl, _⟩ | ⟨g2, cap2, cur2, rfl, _, hh2, _⟩
    · cases e
    · have e : g1 = g2 := Option.some.inj e
      subst e
      rw [hh1] at hh2
      injection hh2 with hh2
      injection hh2 with _ h3
      exact hne h3
/-- Block M is a map of rows of places: those of a key are greater than it, and less than n. -/
structure ChMap (w : World) (base M n : Nat) (es : Array MapEntry) (clk : Nat) (V : Int → Option Value) (g : Int → List Int) : Prop where
  map : NMap Tryz.prog 3 w M es clk V
  row : ∀ a v, V a = some v → w.ownsRow base 3 1 v (g a).length (intsV (g a)) ∧ 0 < (g a).length ∧ (g a).length ≤ n
  lack : ∀ a, V a = none → g a = []
  apart : ∀ a b u v, V a = some u → V b = some v → a ≠ b → u.ownBlock ≠ v.ownBlock
  in_ : ∀ a, ∀ z ∈ g a, a < z ∧ z < n
section
variable {w w' : World} {base M n clk : Nat} {es : Array MapEntry} {V : Int → Option Value} {g : Int → List Int}
theorem ChMap.here (h : ChMap w base M n es clk V g) (hb : Below w.heap.size w w') : ChMap w' base M n es clk V g :=
  ⟨h.map.here hb, fun a v hv => ⟨own_below (h.row a v hv).1 hb, (h.row a v hv).2⟩, h.lack, h.apart, h.in_⟩
/-- What is found there: a row, or none. -/
theorem ChMap.found (h : ChMap w base M n es clk V g) (a : Int) : w.ownsRow base 3 1 ((V a).getD (.slice none 0 0)) (g a).length (intsV (g a)) := by
  cases hv : V a with
  | none => rw [h.lack a hv]; exact World.ownsRow_nil _ _ _ _
  | some v => exact (h.row a v hv).1
theorem row_block {w : World} {b n : Nat} {v : Value} {xs : List Value} {e : TypeId} (h : w.ownsRow b e 1 v n xs) (hn : 0 < n) : ∃ g, v.ownBlock = some g ∧ ∃ cs, w.heap[g]? = some (.cells cs e (0, 0)) := by
  rcases h.2 with ⟨rfl, h0⟩ | ⟨g1, cap1, cur1, rfl, _, hh1, _⟩
  · omega
  · exact ⟨g1, rfl, _, hh1⟩
/-- 'm[a] = v', v being the row that was found there with z appended. -/
theorem ChMap.upd (h : ChMap w base M n es clk V g) {w1 w2 : World} (hb1 : Below w.heap.size w w1) {a z : Int} {v' : Value} (hg : w1.grownBy w2 ((V a).getD (.slice none 0 0)).ownBlock) (hown : w2.ownsRow base 3 1 v' ((g a).length + 1) (intsV (g a) ++ [.int .i64 z]))
    (hfresh : ∀ k, v'.ownBlock = some k → ((V a).getD (.slice none 0 0)).ownBlock = some k ∨ w1.heap.size ≤ k) (ha : In64 a) (hz : a < z ∧ z < n) (hlen : (g a).length < n) :
    NMap Tryz.prog 3 w2 M es clk V ∧ ∃ es' clk', (Instr.mapUpdate 77 (.map (some M)) (ekI a) v').run Tryz.prog w2 = .ok () (setBlock w2 M (.map es' clk')) ∧
      ChMap (setBlock w2 M (.map es' clk')) base M n es' clk' (fun x => if x = a then some v' else V x) (fun x => if x = a then g a ++ [z] else g x) ∧ w2.grownBy (setBlock w2 M (.map es' clk')) (some M) := by
  have h1 := h.here hb1
  have hMne : ((V a).getD (.slice none 0 0)).ownBlock ≠ some M := by
    intro e
    cases hv : V a with
    | none => rw [hv] at e; cases e
    | some v =>
      rw [hv] at e
      obtain ⟨k, hk, cs, hc⟩ := row_block (h1.row a v hv).1 (h1.row a v hv).2.1
      have : k = M := Option.some.inj (hk.symm.trans e)
      subst this
      rw [h1.map.is] at hc; cases hc
  have hm2 : NMap Tryz.prog 3 w2 M es clk V := h1.map.block (hg.block M h1.map.lt (Ne.symm hMne))
  refine ⟨hm2, ?_⟩
  obtain ⟨kl, hkl⟩ := key_int ha
  obtain ⟨es', clk', hput, hm3⟩ := hm2.upd kInt Tryz.underlying77 a hkl v'
  have hgs := grown_set w2 M (.map es' clk')
  have hv'M : v'.ownBlock = none ∨ v'.ownBlock ≠ some M := by
    obtain ⟨k, hk, cs, hc⟩ := row_block hown (by omega)
    refine .inr fun e => ?_
    have : k = M := Option.some.inj (hk.symm.trans e)
    subst this
    rw [hm2.is] at hc; cases hc
  have far : ∀ b u, V b = some u → b ≠ a → u.ownBlock ≠ ((V a).getD (.slice none 0 0)).ownBlock := fun b u hu hne e => by
    cases hv : V a with
    | none =>
      rw [hv] at e
      obtain ⟨k, hk, _⟩ := row_block (h.row b u hu).1 (h.row b u hu).2.1
      rw [hk] at e; cases e
    | some v =>
      rw [hv] at e
      exact h.apart b a u v hu hv hne e
  have notM : ∀ b u, V b = some u → u.ownBlock ≠ some M := fun b u hu e => by
    obtain ⟨k, hk, cs, hc⟩ := row_block (h1.row b u hu).1 (h1.row b u hu).2.1
    have : k = M := Option.some.inj (hk.symm.trans e)
    subst this
    rw [h1.map.is] at hc; cases hc
  refine ⟨es', clk', hput, ⟨hm3, ?_, ?_, ?_, ?_⟩, hgs⟩
  · intro b u hu
    by_cases e : b = a
    · subst e
      simp only [if_true] at hu ⊢
      cases hu
      refine ⟨?_, by simp, by simp; omega⟩
      have := hown.kept hgs hv'M
      simpa [intsV] using this
    · simp only [if_neg e] at hu ⊢
      obtain ⟨r1, r2, r3⟩ := h1.row b u hu
      exact ⟨(r1.kept hg (.inr (far b u hu e))).kept hgs (.inr (notM b u hu)), r2, r3⟩
  · intro b hb
    by_cases e : b = a
    · subst e; simp at hb
    · simp only [if_neg e] at hb ⊢; exact h.lack b hb
  · intro b c u v hu hv hne he
    by_cases eb : b = a
    · subst eb
      simp only [if_true] at hu
      cases hu
      rw [if_neg (Ne.symm hne)] at hv
      obtain ⟨k, hk, cs, hc⟩ := row_block (h1.row c v hv).1 (h1.row c v hv).2.1
      have hk' : v'.ownBlock = some k := he.trans hk
      rcases hfresh k hk' with h3 | h3
      · exact far c v hv (Ne.symm hne) (hk.trans h3.symm)
      · have := (Array.getElem?_eq_some_iff.1 hc).1
        omega
    · rw [if_neg eb] at hu
      by_cases ec : c = a
      · subst ec
        simp only [if_true] at hv
        cases hv
        obtain ⟨k, hk, cs, hc⟩ := row_block (h1.row b u hu).1 (h1.row b u hu).2.1
        have hk' : v'.ownBlock = some k := he.symm.trans hk
        rcases hfresh k hk' with h3 | h3
        · exact far b u hu eb (hk.trans h3.symm)
        · have := (Array.getElem?_eq_some_iff.1 hc).1
          omega
      · rw [if_neg ec] at hv
        exact h.apart b c u v hu hv hne he
  · intro b y hy
    by_cases e : b = a
    · subst e
      simp only [if_true, List.mem_append, List.mem_singleton] at hy
      rcases hy with hy | rfl
      · exact h.in_ b y hy
      · exact hz
    · simp only [if_neg e] at hy
      exact h.in_ b y hy
end
end Go.Proofs.YtfnjojdiiklleaaGreat
