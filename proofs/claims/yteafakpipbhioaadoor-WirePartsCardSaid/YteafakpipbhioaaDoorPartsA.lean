/- Lists of bytes in memory; appends of whatever bytes; ref01.Much, ref01.Join, slices.Grow, slices.Concat, wire.Join. -/
import Derived.Test.YteafakpipbhioaaDoorKnown
import Derived.Deep.Slices
namespace Go.Proofs.YteafakpipbhioaaDoor
open Go.RowKit Pl

/-- 'append(s, x...)' where x is empty: s itself, nothing turned. -/
theorem run_append_empty {P : Program} (w : World) (t ty e : TypeId) {i : TypeInfo} (ht : P.underlying t = some (.slice e)) (hi : P.info? e = some i) (base : Option Addr) (n cap : Nat) (hn : n ≤ cap) (A : Option Addr) (c : Nat) :
    (Builtin.append_ #[t, t] ty #[.slice base n cap, .slice A 0 c]).run P w = .ok (.slice base n cap) w := by
  cases A with
  | none => cases base with
    | none => simp [Builtin.append_, run_underlying ht, sizeOf, typeInfo, hi, Builtin.lenOf, Builtin.firstCells, hn]
    | some a => simp [Builtin.append_, run_underlying ht, sizeOf, typeInfo, hi, Builtin.lenOf, Builtin.firstCells, hn, storeCells]
  | some x => cases base with
    | none => simp [Builtin.append_, run_underlying ht, sizeOf, typeInfo, hi, Builtin.lenOf, Builtin.firstCells, loadCells, loadCellsFrom, hn]
    | some a => simp [Builtin.append_, run_underlying ht, sizeOf, typeInfo, hi, Builtin.lenOf, Builtin.firstCells, loadCells, loadCellsFrom, hn, storeCells]

theorem grownBy_refl (w : World) (row : Option Nat) : w.grownBy w row := ⟨rfl, rfl, rfl, Nat.le_refl _, fun _ _ _ => rfl⟩
theorem own_slice {w : World} {base : Nat} {e : TypeId} {size n : Nat} {v : Value} {xs : List Value} (h : w.ownsRow base e size v n xs) : ∃ b c, v = .slice b n c ∧ n ≤ c := by
  rcases h.2 with ⟨rfl, rfl⟩ | ⟨g, cap, cur, rfl, _, _, hnc, _⟩
  · exact ⟨_, _, rfl, Nat.le_refl _⟩
  · exact ⟨_, _, rfl, hnc⟩
/-- 'out = append(out, x...)', out the call's own, x whatever bytes. -/
theorem wpList_cat {ops : Array Oper} {rest : List Oper} {o : Oper} {a : Act} {Q : Exit → Act → World → Prop} {w0 : World} (hgd : o.guard = none) (s x : Operand)
    (ho : o.op = .call { callee := .builtin .append, args := #[s, x], argTypes := #[23, 23] }) (base : Nat)
    (v : Value) (n : Nat) (l : List UInt8) (hs : a.eval s = v) (hown : w0.ownsRow base 5 1 v n (cellsB l)) (xv : Value) (m : List UInt8) (hx : a.eval x = xv) (hB : Bs w0 xv m)
    (hn : n + m.length ≤ 1000000000) (hbase : base ≤ w0.heap.size)
    (h : ∀ v' w', w'.ownsRow base 5 1 v' (n + m.length) (cellsB (l ++ m)) → w0.grownBy w' v.ownBlock → wpList Tryd.prog ops Q rest (a.put o.dst v') w') : wpList Tryd.prog ops Q (o :: rest) a w0 := by
  obtain ⟨i0, hi, hz0, hz1, hz2⟩ := info_parts info_u8
  obtain ⟨A, c, rfl, _, _, hA⟩ := hB
  by_cases hm : 0 < m.length
  · obtain ⟨b, off, rfl, _, hcell⟩ := hA hm
    refine wpList_append_own _ hgd s x 23 ho base 5 i0 _ 1 1 Tryd.underlying23 hi hz0 hz1 hz2 rfl (by decide) v n (cellsB l) hs hown ⟨b, off, none⟩ m.length c (cellsB m) hx (by rw [cellsB_length]; omega) ?_ (cellsB_one m) (by unfold maxLen; omega) (by omega) hbase fun v' w' h1 h2 _ => h v' w' (by rw [cellsB_append]; exact h1) h2
    intro j u hu
    rw [show ((⟨b, off, none⟩ : Addr).add j) = ⟨b, off + j, none⟩ from by unfold Addr.add; by_cases hj : j = 0 <;> simp [hj]]
    exact hcell j u hu
  · have h0 : m = [] := List.eq_nil_of_length_eq_zero (by omega)
    subst h0
    obtain ⟨bb, cc, hv, hnc⟩ := own_slice hown
    refine wpList_plain hgd fun K hK => ?_
    unfold Oper.wp execOp
    have hr := run_append_empty (P := Tryd.prog) w0 23 o.type 5 Tryd.underlying23 hi bb n cc hnc A c
    rw [← hv] at hr
    simp only [ho, resolve, invoke, builtin, Sem.run_bind, Sem.run_pure, Result.andThen_ok, List.map_toArray, List.map_cons, List.map_nil, hs, hx, List.length_nil, hr]
    exact hK _ _ (h v w0 (by simpa using hown) (grownBy_refl _ _))

/-- The slice value v reads as the lists ls in world w. -/
def Ls (w : World) (v : Value) (ls : List (List UInt8)) : Prop :=
  ∃ (A : Option Addr) (c : Nat), v = .slice A ls.length c ∧ ls.length ≤ c ∧ (A = none → c = 0) ∧
    (0 < ls.length → ∃ b off, A = some ⟨b, off, none⟩ ∧ b < w.heap.size ∧ ∀ j l, ls[j]? = some l → ∃ h, w.cell? ⟨b, off + j, none⟩ = some h ∧ Bs w h l)
theorem Ls.below {w w' : World} {v : Value} {ls : List (List UInt8)} (h : Ls w v ls) (hb : Below w.heap.size w w') : Ls w' v ls := by
  obtain ⟨A, c, rfl, hc, hn, hA⟩ := h
  refine ⟨A, c, rfl, hc, hn, fun hp => ?_⟩
  obtain ⟨b, off, rfl, hlt, hcell⟩ := hA hp
  refine ⟨b, off, rfl, Nat.lt_of_lt_of_le hlt hb.size, fun j l hl => ?_⟩
  obtain ⟨x, h1, h2⟩ := hcell j l hl
  exact ⟨x, (hb.cell (show b < _ from hlt)).trans h1, h2.below hb⟩
/-- How many bytes lists have. -/
def total : List (List UInt8) → Nat
  | [] => 0
  | l :: ls => l.length + total ls
theorem total_append (a b : List (List UInt8)) : total (a ++ b) = total a + total b := by
  induction a with
  | nil => simp [total]
  | cons x a ih => simp [total, ih]; omega
theorem total_take {ls : List (List UInt8)} {j : Nat} {l : List UInt8} (h : ls[j]? = some l) : total (ls.take (j + 1)) = total (ls.take j) + l.length := by
  rw [List.take_add_one, h, Option.toList_some, total_append]; simp [total]
theorem total_take_le (ls : List (List UInt8)) (j : Nat) : total (ls.take j) ≤ total ls := by
  have := total_append (ls.take j) (ls.drop j)
  rw [List.take_append_drop] at this; omega
theorem total_flatten (ls : List (List UInt8)) : ls.flatten.length = total ls := by
  induction ls with
  | nil => rfl
  | cons l ls ih => rw [List.flatten_cons, List.length_append, ih]; rfl

set_option maxRecDepth 100000 in
set_option maxHeartbeats 1000000 in
theorem much_any (v : Value) (ls : List (List UInt8)) (w : World) (h : Ls w v ls) :
    Calls Tryd.prog 43 #[v, .int .i64 9000] w fun e w' => (∃ r, e = .returned (.bool r) ∧ (r = false → ls.length + total ls ≤ 9000)) ∧ Below w.heap.size w w' := by
  have HU := Lib.hid h
  obtain ⟨A, c, rfl, hc, _, _⟩ := h
  go_enter Tryd.func43, Tryd.ntmps43
  go_wp2
  go_loopw [5, 6] (fun n i wr => ∃ (N j : Nat), j ≤ ls.length ∧ n = .int .i64 N ∧ i = .int .i64 j ∧ Hid (N ≤ 9000 → N = ls.length + total (ls.take j)) ∧ Below w.heap.size w wr) (fun _ i _ => ls.length - (intOf i).toNat)
  case atStart => exact ⟨ls.length, 0, Nat.zero_le _, rfl, rfl, Lib.hid (fun _ => by simp [total]), Below.refl _ _⟩
  case round =>
    obtain ⟨N, j, hj, rfl, rfl, HI, hb⟩ := hrel
    by_cases hlt : j < ls.length
    · by_cases hN : N ≤ 9000
      · have hN' : (N : Int) ≤ 9000 := by omega
        obtain ⟨A1, c1, hv, _, _, hB⟩ := HU.out.below hb
        injection hv with hv1 hv2 hv3
        subst hv1 hv3
        obtain ⟨b, off, rfl, hbs, hcell⟩ := hB (by omega)
        obtain ⟨l, hl⟩ : ∃ l, ls[j]? = some l := ⟨_, List.getElem?_eq_getElem hlt⟩
        obtain ⟨x, hx, hxl⟩ := hcell j l hl
        obtain ⟨A2, c2, rfl, _, _, _⟩ := hxl
        have HT := Lib.hid (total_take hl)
        clear hcell hB hl hv2
        have hN9 := HI.out hN
        have hj9 : (j : Int) ≤ 9000 := by omega
        clear hN9
        go_wp2
        go_roundw
        case rel =>
          refine ⟨N + min l.length 9001, j + 1, by omega, by congr 1; omega, by go_num, Lib.hid (fun h => ?_), hb⟩
          have := HI.out hN
          rw [HT.out]; omega
        case measure => simp [intOf]; omega
      · have hN' : 9000 < (N : Int) := by omega
        go_wp2
        go_ret
        exact ⟨⟨_, rfl, fun h => by simp at h; try omega⟩, hb⟩
    · obtain rfl : j = ls.length := by omega
      go_wp2
      go_ret
      exact ⟨⟨_, rfl, fun h => by
        have h9 : N ≤ 9000 := by simp at h; first | omega | exact h
        have := HI.out h9
        rw [List.take_length] at this; omega⟩, hb⟩

set_option maxRecDepth 100000 in
set_option maxHeartbeats 1000000 in
theorem rjoin_any (v : Value) (ls : List (List UInt8)) (w : World) (h : Ls w v ls) (hl : ls.length + total ls ≤ 9000) :
    Calls Tryd.prog 45 #[v] w fun e w' => (∃ x, e = .returned x ∧ w'.ownsRow w.heap.size 5 1 x (total ls) (cellsB ls.flatten)) ∧ Below w.heap.size w w' := by
  have HU := Lib.hid h
  obtain ⟨A, c, rfl, hc, _, _⟩ := h
  go_enter Tryd.func45, Tryd.ntmps45
  go_wp2
  go_loopw [3, 4] (fun o i wr => ∃ (j : Nat), j ≤ ls.length ∧ i = .int .i64 j ∧ wr.ownsRow w.heap.size 5 1 o (total (ls.take j)) (cellsB (ls.take j).flatten) ∧ Below w.heap.size w wr) (fun _ i _ => ls.length - (intOf i).toNat)
  case atStart => exact ⟨0, Nat.zero_le _, rfl, World.ownsRow_nil _ _ _ _, Below.refl _ _⟩
  case round =>
    obtain ⟨j, hj, rfl, hown, hb⟩ := hrel
    by_cases hlt : j < ls.length
    · obtain ⟨A1, c1, hv, _, _, hB⟩ := HU.out.below hb
      injection hv with hv1 hv2 hv3
      subst hv1 hv3
      obtain ⟨b, off, rfl, hbs, hcell⟩ := hB (by omega)
      obtain ⟨l, hll⟩ : ∃ l, ls[j]? = some l := ⟨_, List.getElem?_eq_getElem hlt⟩
      obtain ⟨x, hx, hxl⟩ := hcell j l hll
      have HX := Lib.hid hxl
      have HT := Lib.hid (total_take hll)
      have HF : Hid ((ls.take (j + 1)).flatten = (ls.take j).flatten ++ l) := Lib.hid (by rw [List.take_add_one, hll]; simp)
      have hle := total_take_le ls (j + 1)
      rw [HT.out] at hle
      clear hcell hB hll hv2 hxl
      go_wp2_with (at_builtin; refine wpList_cat rfl (.tmp 11) (.tmp 15) rfl w.heap.size u3 _ _ rfl hown x l rfl HX.out (by omega) hb.size ?_)
      intro v' w2 hown2 hg
      rw [← HT.out, ← HF.out] at hown2
      have HR := Lib.hid hown2
      have hb3 := Lib.hid (hb.grown hg hb.size fun g hg => (hown.lt g hg).1)
      clear hown hown2 hg
      go_wp2
      go_roundw
      case rel => exact ⟨j + 1, by omega, by go_num, HR.out, hb3.out⟩
      case measure => simp [intOf]; omega
    · obtain rfl : j = ls.length := by omega
      rw [List.take_length] at hown
      go_wp2
      go_ret
      exact ⟨⟨_, rfl, hown⟩, hb⟩
end Go.Proofs.YteafakpipbhioaaDoor
