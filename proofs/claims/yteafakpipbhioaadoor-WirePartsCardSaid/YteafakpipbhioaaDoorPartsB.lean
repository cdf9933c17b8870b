/- slices.Grow of nothing, slices.Concat, wire.Join. -/
import Derived.Test.YteafakpipbhioaaDoorPartsA
namespace Go.Proofs.YteafakpipbhioaaDoor
open Go.RowKit Pl

theorem own_down {w : World} {B B' : Nat} {e : TypeId} {size n : Nat} {v : Value} {xs : List Value} (hB : B' ≤ B) (h : w.ownsRow B e size v n xs) : w.ownsRow B' e size v n xs := by
  refine ⟨h.1, ?_⟩
  rcases h.2 with h | ⟨g, cap, cur, h1, h2, h3⟩
  · exact .inl h
  · exact .inr ⟨g, cap, cur, h1, Nat.le_trans hB h2, h3⟩
/-- 'append([]byte(nil), make([]byte, k)...)'. -/
theorem run_append_zeros (w : World) (ty : TypeId) (k : Nat) (hk : 0 < k) (hk9 : k ≤ 1000000) :
    ∃ C cs, k ≤ C ∧ C ≤ maxLen ∧ cs.size = C ∧ (Builtin.append_ #[23, 3] ty #[.slice none 0 0, .int .i64 (k : Int)]).run Tryd.prog w =
      .ok (.slice (some ⟨w.heap.size, 0, none⟩) k C) (w.drew.alloc (.cells cs 5)) := by
  obtain ⟨i0, hi, hz0, hz1, hz2⟩ := info_parts info_u8
  have hge := grownCap_ge w k 0 5
  have hle := grownCap_le_maxLen w k 0 5 (by unfold maxLen; omega)
  refine ⟨grownCap w k 0 5, Builtin.zeroCells (Value.int .u8 0).cells k ++ Builtin.zeroCells (Value.int .u8 0).cells (grownCap w k 0 5 - k), hge, hle, ?_, ?_⟩
  · simp only [Array.size_append, size_zeroCells]
    show k * 1 + (_ - k) * 1 = _
    omega
  · have hw : IntKind.i64.wrap (k : Int) = k := by rw [IntKind.wrap_i64]; omega
    have hneg : ¬ (k : Int) < 0 := by omega
    have h48 : ¬ (281474976710656 < (k : Int)) := by omega
    have h63 : ¬ (9223372036854775807 < (k : Int)) := by omega
    have hns : ¬ (281474976710656 < Builtin.nextslicecap k 0) := by unfold Builtin.nextslicecap; rw [if_pos (by omega)]; omega
    have hk0 : ¬ k = 0 := by omega
    have hai : ∀ w, Sem.run Tryd.prog (asInt (Value.int .i64 (k : Int))) w = .ok (k : Int) w := fun _ => rfl
    simp [Builtin.append_, run_underlying Tryd.underlying23, run_underlying Tryd.underlying3, sizeOf, typeInfo, zeroValue, hi, hz0, hz1, hz2, hai, hw, hneg, h48, h63, hns, hk0, Question.forced, newRow, grownCap, Builtin.firstCells]
theorem wpList_appz {ops : Array Oper} {rest : List Oper} {o : Oper} {a : Act} {Q : Exit → Act → World → Prop} {w0 : World} (hgd : o.guard = none) (s x : Operand)
    (ho : o.op = .call { callee := .builtin .append, args := #[s, x], argTypes := #[23, 3] }) (k : Nat) (hk : 0 < k) (hk9 : k ≤ 1000000)
    (hs : a.eval s = .slice none 0 0) (hx : a.eval x = .int .i64 (k : Int))
    (h : ∀ (C : Nat) (cs : Array Value), k ≤ C → C ≤ maxLen → cs.size = C → wpList Tryd.prog ops Q rest (a.put o.dst (.slice (some ⟨w0.heap.size, 0, none⟩) k C)) (w0.drew.alloc (.cells cs 5))) :
    wpList Tryd.prog ops Q (o :: rest) a w0 := by
  obtain ⟨C, cs, h1, h2, h3, hr⟩ := run_append_zeros w0 o.type k hk hk9
  refine wpList_plain hgd fun K hK => ?_
  unfold Oper.wp execOp
  simp only [ho, resolve, invoke, builtin, Sem.run_bind, Sem.run_pure, Result.andThen_ok, List.map_toArray, List.map_cons, List.map_nil, hs, hx, hr]
  exact hK _ _ (h C cs h1 h2 h3)

set_option maxRecDepth 100000 in
theorem grow_any (k : Nat) (w : World) (hk : k ≤ 1000000) :
    Calls Tryd.prog 101 #[.slice none 0 0, .int .i64 (k : Int)] w fun e w' => (∃ x, e = .returned x ∧ w'.ownsRow w.heap.size 5 1 x 0 []) ∧ Below w.heap.size w w' := by
  by_cases h0 : k = 0
  · subst h0
    go_enter Tryd.func101, Tryd.ntmps101
    go_wp2
    go_ret
    exact ⟨⟨_, rfl, World.ownsRow_nil _ _ _ _⟩, Below.refl _ _⟩
  · have hk0 : 0 < (k : Int) := by omega
    go_enter Tryd.func101, Tryd.ntmps101
    go_wp2_with (at_builtin; refine wpList_appz rfl (.tmp 20) (.tmp 21) rfl k (by omega) hk rfl rfl ?_)
    intro C cs h1 h2 h3
    go_wp2
    go_ret
    exact ⟨⟨_, rfl, ⟨rfl, .inr ⟨w.heap.size, C, cs, rfl, Nat.le_refl _, heap_alloc_new _ _, by omega, h2, by omega, by simp⟩⟩⟩, (by repeat (first | exact Below.refl _ _ | apply Below.drew | apply below_drewN | apply bel_alloc | apply Ext.lift | apply bel_set0 | apply bel_set))⟩

set_option maxRecDepth 100000 in
set_option maxHeartbeats 1000000 in
theorem concat_any (v : Value) (ls : List (List UInt8)) (w : World) (h : Ls w v ls) (hl : ls.length + total ls ≤ 9000) :
    Calls Tryd.prog 83 #[v] w fun e w' => (∃ x, e = .returned x ∧ w'.ownsRow w.heap.size 5 1 x (total ls) (cellsB ls.flatten)) ∧ Below w.heap.size w w' := by
  have HU := Lib.hid h
  obtain ⟨A, c, rfl, hc, _, _⟩ := h
  go_enter Tryd.func83, Tryd.ntmps83
  go_wp2
  go_loopw [3, 11] (fun n i wr => ∃ (N j : Nat), j ≤ ls.length ∧ n = .int .i64 N ∧ i = .int .i64 j ∧ Hid (N = total (ls.take j)) ∧ N ≤ 9000 ∧ Below w.heap.size w wr) (fun _ i _ => ls.length - (intOf i).toNat)
  case atStart => exact ⟨0, 0, Nat.zero_le _, rfl, rfl, Lib.hid rfl, by omega, Below.refl _ _⟩
  case round =>
    obtain ⟨N, j, hj, rfl, rfl, HI, hN, hb⟩ := hrel
    by_cases hlt : j < ls.length
    · obtain ⟨A1, c1, hv, _, _, hB⟩ := HU.out.below hb
      injection hv with hv1 hv2 hv3
      subst hv1 hv3
      obtain ⟨b, off, rfl, hbs, hcell⟩ := hB (by omega)
      obtain ⟨l, hll⟩ : ∃ l, ls[j]? = some l := ⟨_, List.getElem?_eq_getElem hlt⟩
      obtain ⟨x, hx, hxl⟩ := hcell j l hll
      obtain ⟨A2, c2, rfl, _, _, _⟩ := hxl
      have HT := Lib.hid (total_take hll)
      have hle := total_take_le ls (j + 1)
      have hsum : N + l.length ≤ 9000 := by rw [HT.out, ← HI.out] at hle; omega
      have hneg : decide ((N : Int) + (l.length : Int) < 0) = false := by simp; omega
      clear hcell hB hll hv2 hle
      go_wp2
      go_roundw
      case rel => exact ⟨N + l.length, j + 1, by omega, by go_num, by go_num, Lib.hid (by rw [HT.out, HI.out]), hsum, hb⟩
      case measure => simp [intOf]; omega
    · obtain rfl : j = ls.length := by omega
      have hNt : N = total ls := by have := HI.out; rwa [List.take_length] at this
      have HNT := Lib.hid hNt
      clear hNt HI
      go_wp2_with (go_at_call 101; refine (grow_any N _ (by omega)).mono ?_; rintro e w1 ⟨⟨x0, rfl, hown0⟩, hb1⟩)
      have hb1' : Below w.heap.size w w1 := hb.trans (hb1.mono hb.size)
      have hown1 := own_down hb.size hown0
      clear hown0 hb1
      go_loopw [6, 27] (fun o i wr => ∃ (j : Nat), j ≤ ls.length ∧ i = .int .i64 j ∧ wr.ownsRow w.heap.size 5 1 o (total (ls.take j)) (cellsB (ls.take j).flatten) ∧ Below w.heap.size w wr) (fun _ i _ => ls.length - (intOf i).toNat)
      case atStart => exact ⟨0, Nat.zero_le _, rfl, hown1, hb1'⟩
      case round =>
        clear hown1 hb1' hb
        obtain ⟨j, hj, rfl, hown, hb⟩ := hrel
        by_cases hlt : j < ls.length
        · obtain ⟨A1, c1, hv, _, _, hB⟩ := HU.out.below hb
          injection hv with hv1 hv2 hv3
          subst hv1 hv3
          obtain ⟨b, off, rfl, hbs, hcell⟩ := hB (by omega)
          obtain ⟨l, hll⟩ : ∃ l, ls[j]? = some l := ⟨_, List.getElem?_eq_getElem hlt⟩
          obtain ⟨x, hx, hxl⟩ := hcell j l hll
          have HX := Lib.hid hxl
          have HT := Lib.hid (total_take hll)
          have HF : Hid ((ls.take (j + 1)).flatten = (ls.take j).flatten ++ l) := Lib.hid (by rw [List.take_add_one, hll]; simp)
          have hle := total_take_le ls (j + 1)
          rw [HT.out] at hle
          clear hcell hB hll hv2 hxl
          go_wp2_with (at_builtin; refine wpList_cat rfl (.tmp 31) (.tmp 32) rfl w.heap.size u6 _ _ rfl hown x l rfl HX.out (by omega) hb.size ?_)
          intro v' w2 hown2 hg
          rw [← HT.out, ← HF.out] at hown2
          have HR := Lib.hid hown2
          have hb3 := Lib.hid (hb.grown hg hb.size fun g hg => (hown.lt g hg).1)
          clear hown hown2 hg
          go_wp2
          go_roundw
          case rel => exact ⟨j + 1, by omega, by go_num, HR.out, hb3.out⟩
          case measure => simp [intOf]; omega
        · obtain rfl : j = ls.length := by omega
          rw [List.take_length] at hown
          go_wp2
          go_ret
          exact ⟨⟨_, rfl, hown⟩, hb⟩
set_option maxRecDepth 100000 in
theorem wjoin_any (v : Value) (ls : List (List UInt8)) (w : World) (h : Ls w v ls) (hl : ls.length + total ls ≤ 9000) :
    Calls Tryd.prog 44 #[v] w fun e w' => (∃ x, e = .returned x ∧ w'.ownsRow w.heap.size 5 1 x (total ls) (cellsB ls.flatten)) ∧ Below w.heap.size w w' := by
  have HC := Lib.hid (concat_any v ls w h hl)
  go_enter Tryd.func44, Tryd.ntmps44
  go_wp2_with (go_at_call 83; refine HC.out.mono ?_; rintro e w1 ⟨⟨x0, rfl, hown0⟩, hb1⟩)
  go_ret
  exact ⟨⟨_, rfl, hown0⟩, hb1⟩
end Go.Proofs.YteafakpipbhioaaDoor
