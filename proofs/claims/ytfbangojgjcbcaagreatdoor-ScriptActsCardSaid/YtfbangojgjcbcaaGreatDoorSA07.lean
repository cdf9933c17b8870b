/- Part 7 of the proof: ActL, ActM, ActN, ActO, ActQ, ActR, UnhexR. -/
import Derived.Test.YtfbangojgjcbcaaGreatDoorSA02
import Derived.Test.YtfbangojgjcbcaaGreatDoorSA03
import Derived.Test.YtfbangojgjcbcaaGreatDoorSA04
import Derived.Test.YtfbangojgjcbcaaGreatDoorSA06
namespace Go.Proofs.YtfbangojgjcbcaaGreatDoor
open Go.RowKit Pl
/-- A long piece of a walk, cut. -/
theorem wpList_cut {P : Program} {ops : Array Oper} {Q : Exit → Act → World → Prop} (R : Act → World → Prop) : ∀ (n : Nat) (l : List Oper) (a : Act) (w : World),
    wpList P ops (Exit.then R Q) (l.take n) a w → (∀ a' w', R a' w' → wpList P ops Q (l.drop n) a' w') → wpList P ops Q l a w
  | 0, _, a, w, h, h2 => h2 a w h
  | _ + 1, [], a, w, h, h2 => h2 a w h
  | n + 1, o :: l, a, w, h, h2 => by
    rw [List.take_succ_cons] at h
    unfold wpList at h ⊢
    split
    · rename_i hw
      rw [if_pos hw] at h
      rcases h with h | h
      · exact .inl (Oper.wp_mono (fun a' w' ha' => wpList_cut R n l a' w' ha' h2) (wp_then h))
      · exact .inr h
    · rename_i hw
      rw [if_neg hw] at h
      exact wpList_cut R n l _ w h h2
theorem frame_open {t : Array Value} (n : Nat) (h : t.size = n) : ∃ u : Nat → Value, (∀ i v, t[i]? = some v → u i = v) ∧ t = ((List.range n).map u).toArray := by
  refine ⟨fun i => t.getD i undef, fun i v hv => by simp [hv], ?_⟩
  subst h
  apply Array.ext (by simp)
  intro i h1 h2
  simp [Array.getD, h1]
/-- What stands between two pieces of the walk. -/
def MidM (x y s : Value) (k : Nat) (v : Bool) (w1 : World) (a' : Act) (w' : World) : Prop :=
  ∃ b : Bool, Hid (b = v) ∧ a'.defers = [] ∧ a'.tmps.size = 86 ∧ a'.tmps[0]? = some x ∧ a'.tmps[1]? = some y ∧ a'.tmps[3]? = some s ∧ a'.tmps[k]? = some (.bool b) ∧ w' = w1
theorem has_part {k : Nat} (h1 : 1 ≤ k) (h9 : k ≤ 9) (q : Pt) : hasB (lettersA k) (letter q) = (partsA k).contains q := by
  rcases (by omega : k = 1 ∨ k = 2 ∨ k = 3 ∨ k = 4 ∨ k = 5 ∨ k = 6 ∨ k = 7 ∨ k = 8 ∨ k = 9) with rfl | rfl | rfl | rfl | rfl | rfl | rfl | rfl | rfl <;> cases q <;> decide
def accA0 (a : ActP) (ps : List UInt8) : Bool := (decide (a.node = 0) || hasB ps 110)
def accA1 (a : ActP) (ps : List UInt8) : Bool := accA0 a ps && (decide (a.port = 0) || hasB ps 112)
def accA2 (a : ActP) (ps : List UInt8) : Bool := accA1 a ps && (decide (a.cost = 0) || hasB ps 99)
def accA3 (a : ActP) (ps : List UInt8) : Bool := accA2 a ps && (decide (a.n = 0) || hasB ps 105)
def accA4 (a : ActP) (ps : List UInt8) : Bool := accA3 a ps && (!a.up || hasB ps 117)
def accA5 (a : ActP) (ps : List UInt8) : Bool := accA4 a ps && (decide (a.by_ = 0) || hasB ps 98)
def accA6 (a : ActP) (ps : List UInt8) : Bool := accA5 a ps && (!a.unread || hasB ps 114)
def accA7 (a : ActP) (ps : List UInt8) : Bool := accA6 a ps && (decide (a.bytes = []) || hasB ps 120)
theorem acc_bare {a : ActP} (hk : K9 a) : accA7 a (lettersA a.kind.toNat) = bareOk a := by
  have h1 : 1 ≤ a.kind.toNat := by have := hk.1; omega
  have h9 : a.kind.toNat ≤ 9 := by have := hk.2; omega
  have e := fun q => has_part h1 h9 q
  unfold accA7 accA6 accA5 accA4 accA3 accA2 accA1 accA0 bareOk
  dsimp only
  rw [← e .n, ← e .p, ← e .c, ← e .i, ← e .u, ← e .b, ← e .r, ← e .x]
  rfl
set_option maxRecDepth 100000 in
set_option maxHeartbeats 8000000 in
theorem rmayAct_in (a : ActP) (bv : Value) (w : World) (hk : K9 a) (h : Bs w bv a.bytes) (hl : a.bytes.length ≤ 2048) :
    Calls Tryz.prog 32 #[actV a bv] w fun e w' => e = .returned (.bool (bareOk a)) ∧ Below w.heap.size w w' := by
  obtain ⟨A, c, rfl, -⟩ := h
  have HP := Lib.hid (fun W => rparts_in a.kind W hk.1 hk.2)
  have HAB := Lib.hid (acc_bare hk)
  obtain ⟨W0, hW0⟩ : ∃ W0, w.alloc (.cells #[.int .i64 a.kind, .int .i64 a.node, .int .i64 a.port, .int .i64 a.cost, .int .i64 a.n, .bool a.up, .int .u8 (a.by_.toNat : Int), .bool a.unread, .slice A a.bytes.length c] 51) = W0 := ⟨_, rfl⟩
  have HB0 : Hid (Below w.heap.size w W0) := Lib.hid (by rw [← hW0]; exact (Below.refl _ _).alloc (Nat.le_refl _) _)
  have HX : Whole W0 w.heap.size 51 #[.int .i64 a.kind, .int .i64 a.node, .int .i64 a.port, .int .i64 a.cost, .int .i64 a.n, .bool a.up, .int .u8 (a.by_.toNat : Int), .bool a.unread, .slice A a.bytes.length c] := by rw [← hW0]; exact Whole.new w _ _
  have hlt1 := HX.lt
  have y0 : W0.cell? ⟨w.heap.size, 0, none⟩ = some (.int .i64 a.kind) := HX.cell 0
  have HXX := Lib.hid HX
  have HW0 := Lib.hid hW0
  have hps : lettersA a.kind.toNat ≠ [63] := by
    rcases hk.cases with e | e | e | e | e | e | e | e | e <;> rw [e] <;> decide
  have hpl : (lettersA a.kind.toNat).length ≤ 10 := by
    rcases hk.cases with e | e | e | e | e | e | e | e | e <;> rw [e] <;> decide
  obtain ⟨ps, hp⟩ : ∃ ps, lettersA a.kind.toNat = ps := ⟨_, rfl⟩
  rw [hp] at HP hps hpl HAB
  have d1 : ((str ps).toList == [63]) = false := by rw [str_toList]; exact beq_eq_false_iff_ne.2 hps
  have d2 : ¬ (str ps).toList = [63] := by rw [str_toList]; exact hps
  have d3 : decide ((2048 : Int) < (a.bytes.length : Int)) = false := decide_eq_false (by omega)
  clear hW0 HX hp hps hk
  go_enter Tryz.func32, Tryz.ntmps32
  go_upto_region 1 with fail
  rw [HW0.out]
  go_wp2_with fail
  refine (HP.out W0).mono ?_
  rintro e w1 ⟨rfl, hb1⟩
  have y8 : w1.cell? ⟨w.heap.size, 8, none⟩ = some (.slice A a.bytes.length c) := (HXX.out.here hb1).cell 8
  have y1 : w1.cell? ⟨w.heap.size, 1, none⟩ = some (.int .i64 a.node) := (HXX.out.here hb1).cell 1
  have y2 : w1.cell? ⟨w.heap.size, 2, none⟩ = some (.int .i64 a.port) := (HXX.out.here hb1).cell 2
  have y3 : w1.cell? ⟨w.heap.size, 3, none⟩ = some (.int .i64 a.cost) := (HXX.out.here hb1).cell 3
  have y4 : w1.cell? ⟨w.heap.size, 4, none⟩ = some (.int .i64 a.n) := (HXX.out.here hb1).cell 4
  have y5 : w1.cell? ⟨w.heap.size, 5, none⟩ = some (.bool a.up) := (HXX.out.here hb1).cell 5
  have y6 : w1.cell? ⟨w.heap.size, 6, none⟩ = some (.int .u8 (a.by_.toNat : Int)) := (HXX.out.here hb1).cell 6
  have y7 : w1.cell? ⟨w.heap.size, 7, none⟩ = some (.bool a.unread) := (HXX.out.here hb1).cell 7
  have HB1 := Lib.hid (HB0.out.trans (hb1.mono HB0.out.size))
  clear hb1 y0
  go_upto_region 4 with fail
  refine wp_region_lit ?_
  simp only [List.append_eq, List.cons_append, List.nil_append]
  refine wpList_cut (MidM (actV a (.slice A a.bytes.length c)) (.pointer (some ⟨w.heap.size, 0, none⟩)) (.string (str ps)) 21 (accA0 a ps) w1) 7 _ _ _ ?_ ?_
  · simp only [List.take_succ_cons, List.take_zero]
    by_cases hf : a.node = 0
    · have q : (a.node == 0) = true := by rw [beq_iff_eq]; exact hf
      have HF := Lib.hid hf
      clear hf
      go_wp2
      exact ⟨true, Lib.hid (by unfold accA0; rw [decide_eq_true HF.out]; rfl), rfl, rfl, rfl, rfl, rfl, rfl, rfl⟩
    · have q : (a.node == 0) = false := by rw [beq_eq_false_iff_ne]; exact hf
      have HF := Lib.hid hf
      clear hf
      have HH : Hid (Calls Tryz.prog 79 #[.string (str ps), .int .u8 110] w1 fun e w' => e = .returned (.bool (hasB ps 110)) ∧ w1 = w') := Lib.hid (rhas25 ps 110 w1 (by omega))
      cases hh : hasB ps 110 with
      | false =>
        rw [hh] at HH
        go_wp2_with (go_at_call 79; with_reducible refine HH.out.mono ?_; rintro e w' ⟨rfl, rfl⟩)
        exact ⟨false, Lib.hid (by unfold accA0; rw [decide_eq_false HF.out]; rw [hh]; rfl), rfl, rfl, rfl, rfl, rfl, rfl, rfl⟩
      | true =>
        rw [hh] at HH
        go_wp2_with (go_at_call 79; with_reducible refine HH.out.mono ?_; rintro e w' ⟨rfl, rfl⟩)
        exact ⟨true, Lib.hid (by unfold accA0; rw [decide_eq_false HF.out]; rw [hh]; rfl), rfl, rfl, rfl, rfl, rfl, rfl, rfl⟩
  rintro ⟨t, ds⟩ w1 ⟨b, HA, q1, q2, q3, q4, q5, q6, rfl⟩
  dsimp only at q1 q2 q3 q4 q5 q6
  subst q1
  obtain ⟨u, hu, rfl⟩ := frame_open 86 q2
  replace q3 := hu _ _ q3
  replace q4 := hu _ _ q4
  replace q5 := hu _ _ q5
  replace q6 := hu _ _ q6
  simp only [List.drop_succ_cons, List.drop_zero, List.range, List.range.loop, List.map_cons, List.map_nil, q3, q4, q5, q6]
  clear q2 q3 q4 q5 q6 hu
  refine wpList_cut (MidM (actV a (.slice A a.bytes.length c)) (.pointer (some ⟨w.heap.size, 0, none⟩)) (.string (str ps)) 30 (accA1 a ps) w1) 9 _ _ _ ?_ ?_
  · simp only [List.take_succ_cons, List.take_zero]
    cases b with
    | false =>
      go_wp2
      exact ⟨false, Lib.hid (by unfold accA1; rw [← HA.out]; rfl), rfl, rfl, rfl, rfl, rfl, rfl, rfl⟩
    | true =>
      by_cases hf : a.port = 0
      · have q : (a.port == 0) = true := by rw [beq_iff_eq]; exact hf
        have HF := Lib.hid hf
        clear hf
        go_wp2
        exact ⟨true, Lib.hid (by unfold accA1; rw [← HA.out]; rw [decide_eq_true HF.out]; rfl), rfl, rfl, rfl, rfl, rfl, rfl, rfl⟩
      · have q : (a.port == 0) = false := by rw [beq_eq_false_iff_ne]; exact hf
        have HF := Lib.hid hf
        clear hf
        have HH : Hid (Calls Tryz.prog 79 #[.string (str ps), .int .u8 112] w1 fun e w' => e = .returned (.bool (hasB ps 112)) ∧ w1 = w') := Lib.hid (rhas25 ps 112 w1 (by omega))
        cases hh : hasB ps 112 with
        | false =>
          rw [hh] at HH
          go_wp2_with (go_at_call 79; with_reducible refine HH.out.mono ?_; rintro e w' ⟨rfl, rfl⟩)
          exact ⟨false, Lib.hid (by unfold accA1; rw [← HA.out]; rw [decide_eq_false HF.out]; rw [hh]; rfl), rfl, rfl, rfl, rfl, rfl, rfl, rfl⟩
        | true =>
          rw [hh] at HH
          go_wp2_with (go_at_call 79; with_reducible refine HH.out.mono ?_; rintro e w' ⟨rfl, rfl⟩)
          exact ⟨true, Lib.hid (by unfold accA1; rw [← HA.out]; rw [decide_eq_false HF.out]; rw [hh]; rfl), rfl, rfl, rfl, rfl, rfl, rfl, rfl⟩
  rintro ⟨t, ds⟩ w1 ⟨b, HA, q1, q2, q3, q4, q5, q6, rfl⟩
  dsimp only at q1 q2 q3 q4 q5 q6
  subst q1
  obtain ⟨u, hu, rfl⟩ := frame_open 86 q2
  replace q3 := hu _ _ q3
  replace q4 := hu _ _ q4
  replace q5 := hu _ _ q5
  replace q6 := hu _ _ q6
  simp only [List.drop_succ_cons, List.drop_zero, List.range, List.range.loop, List.map_cons, List.map_nil, q3, q4, q5, q6]
  clear q2 q3 q4 q5 q6 hu
  refine wpList_cut (MidM (actV a (.slice A a.bytes.length c)) (.pointer (some ⟨w.heap.size, 0, none⟩)) (.string (str ps)) 39 (accA2 a ps) w1) 9 _ _ _ ?_ ?_
  · simp only [List.take_succ_cons, List.take_zero]
    cases b with
    | false =>
      go_wp2
      exact ⟨false, Lib.hid (by unfold accA2; rw [← HA.out]; rfl), rfl, rfl, rfl, rfl, rfl, rfl, rfl⟩
    | true =>
      by_cases hf : a.cost = 0
      · have q : (a.cost == 0) = true := by rw [beq_iff_eq]; exact hf
        have HF := Lib.hid hf
        clear hf
        go_wp2
        exact ⟨true, Lib.hid (by unfold accA2; rw [← HA.out]; rw [decide_eq_true HF.out]; rfl), rfl, rfl, rfl, rfl, rfl, rfl, rfl⟩
      · have q : (a.cost == 0) = false := by rw [beq_eq_false_iff_ne]; exact hf
        have HF := Lib.hid hf
        clear hf
        have HH : Hid (Calls Tryz.prog 79 #[.string (str ps), .int .u8 99] w1 fun e w' => e = .returned (.bool (hasB ps 99)) ∧ w1 = w') := Lib.hid (rhas25 ps 99 w1 (by omega))
        cases hh : hasB ps 99 with
        | false =>
          rw [hh] at HH
          go_wp2_with (go_at_call 79; with_reducible refine HH.out.mono ?_; rintro e w' ⟨rfl, rfl⟩)
          exact ⟨false, Lib.hid (by unfold accA2; rw [← HA.out]; rw [decide_eq_false HF.out]; rw [hh]; rfl), rfl, rfl, rfl, rfl, rfl, rfl, rfl⟩
        | true =>
          rw [hh] at HH
          go_wp2_with (go_at_call 79; with_reducible refine HH.out.mono ?_; rintro e w' ⟨rfl, rfl⟩)
          exact ⟨true, Lib.hid (by unfold accA2; rw [← HA.out]; rw [decide_eq_false HF.out]; rw [hh]; rfl), rfl, rfl, rfl, rfl, rfl, rfl, rfl⟩
  rintro ⟨t, ds⟩ w1 ⟨b, HA, q1, q2, q3, q4, q5, q6, rfl⟩
  dsimp only at q1 q2 q3 q4 q5 q6
  subst q1
  obtain ⟨u, hu, rfl⟩ := frame_open 86 q2
  replace q3 := hu _ _ q3
  replace q4 := hu _ _ q4
  replace q5 := hu _ _ q5
  replace q6 := hu _ _ q6
  simp only [List.drop_succ_cons, List.drop_zero, List.range, List.range.loop, List.map_cons, List.map_nil, q3, q4, q5, q6]
  clear q2 q3 q4 q5 q6 hu
  refine wpList_cut (MidM (actV a (.slice A a.bytes.length c)) (.pointer (some ⟨w.heap.size, 0, none⟩)) (.string (str ps)) 48 (accA3 a ps) w1) 9 _ _ _ ?_ ?_
  · simp only [List.take_succ_cons, List.take_zero]
    cases b with
    | false =>
      go_wp2
      exact ⟨false, Lib.hid (by unfold accA3; rw [← HA.out]; rfl), rfl, rfl, rfl, rfl, rfl, rfl, rfl⟩
    | true =>
      by_cases hf : a.n = 0
      · have q : (a.n == 0) = true := by rw [beq_iff_eq]; exact hf
        have HF := Lib.hid hf
        clear hf
        go_wp2
        exact ⟨true, Lib.hid (by unfold accA3; rw [← HA.out]; rw [decide_eq_true HF.out]; rfl), rfl, rfl, rfl, rfl, rfl, rfl, rfl⟩
      · have q : (a.n == 0) = false := by rw [beq_eq_false_iff_ne]; exact hf
        have HF := Lib.hid hf
        clear hf
        have HH : Hid (Calls Tryz.prog 79 #[.string (str ps), .int .u8 105] w1 fun e w' => e = .returned (.bool (hasB ps 105)) ∧ w1 = w') := Lib.hid (rhas25 ps 105 w1 (by omega))
        cases hh : hasB ps 105 with
        | false =>
          rw [hh] at HH
          go_wp2_with (go_at_call 79; with_reducible refine HH.out.mono ?_; rintro e w' ⟨rfl, rfl⟩)
          exact ⟨false, Lib.hid (by unfold accA3; rw [← HA.out]; rw [decide_eq_false HF.out]; rw [hh]; rfl), rfl, rfl, rfl, rfl, rfl, rfl, rfl⟩
        | true =>
          rw [hh] at HH
          go_wp2_with (go_at_call 79; with_reducible refine HH.out.mono ?_; rintro e w' ⟨rfl, rfl⟩)
          exact ⟨true, Lib.hid (by unfold accA3; rw [← HA.out]; rw [decide_eq_false HF.out]; rw [hh]; rfl), rfl, rfl, rfl, rfl, rfl, rfl, rfl⟩
  rintro ⟨t, ds⟩ w1 ⟨b, HA, q1, q2, q3, q4, q5, q6, rfl⟩
  dsimp only at q1 q2 q3 q4 q5 q6
  subst q1
  obtain ⟨u, hu, rfl⟩ := frame_open 86 q2
  replace q3 := hu _ _ q3
  replace q4 := hu _ _ q4
  replace q5 := hu _ _ q5
  replace q6 := hu _ _ q6
  simp only [List.drop_succ_cons, List.drop_zero, List.range, List.range.loop, List.map_cons, List.map_nil, q3, q4, q5, q6]
  clear q2 q3 q4 q5 q6 hu
  refine wpList_cut (MidM (actV a (.slice A a.bytes.length c)) (.pointer (some ⟨w.heap.size, 0, none⟩)) (.string (str ps)) 57 (accA4 a ps) w1) 9 _ _ _ ?_ ?_
  · simp only [List.take_succ_cons, List.take_zero]
    cases b with
    | false =>
      go_wp2
      exact ⟨false, Lib.hid (by unfold accA4; rw [← HA.out]; rfl), rfl, rfl, rfl, rfl, rfl, rfl, rfl⟩
    | true =>
      cases hf : a.up with
      | false =>
        rw [hf] at y5
        go_wp2
        exact ⟨true, Lib.hid (by unfold accA4; rw [← HA.out]; rw [hf]; rfl), rfl, rfl, rfl, rfl, rfl, rfl, rfl⟩
      | true =>
        rw [hf] at y5
        have HH : Hid (Calls Tryz.prog 79 #[.string (str ps), .int .u8 117] w1 fun e w' => e = .returned (.bool (hasB ps 117)) ∧ w1 = w') := Lib.hid (rhas25 ps 117 w1 (by omega))
        cases hh : hasB ps 117 with
        | false =>
          rw [hh] at HH
          go_wp2_with (go_at_call 79; with_reducible refine HH.out.mono ?_; rintro e w' ⟨rfl, rfl⟩)
          exact ⟨false, Lib.hid (by unfold accA4; rw [← HA.out]; rw [hf]; rw [hh]; rfl), rfl, rfl, rfl, rfl, rfl, rfl, rfl⟩
        | true =>
          rw [hh] at HH
          go_wp2_with (go_at_call 79; with_reducible refine HH.out.mono ?_; rintro e w' ⟨rfl, rfl⟩)
          exact ⟨true, Lib.hid (by unfold accA4; rw [← HA.out]; rw [hf]; rw [hh]; rfl), rfl, rfl, rfl, rfl, rfl, rfl, rfl⟩
  rintro ⟨t, ds⟩ w1 ⟨b, HA, q1, q2, q3, q4, q5, q6, rfl⟩
  dsimp only at q1 q2 q3 q4 q5 q6
  subst q1
  obtain ⟨u, hu, rfl⟩ := frame_open 86 q2
  replace q3 := hu _ _ q3
  replace q4 := hu _ _ q4
  replace q5 := hu _ _ q5
  replace q6 := hu _ _ q6
  simp only [List.drop_succ_cons, List.drop_zero, List.range, List.range.loop, List.map_cons, List.map_nil, q3, q4, q5, q6]
  clear q2 q3 q4 q5 q6 hu
  refine wpList_cut (MidM (actV a (.slice A a.bytes.length c)) (.pointer (some ⟨w.heap.size, 0, none⟩)) (.string (str ps)) 66 (accA5 a ps) w1) 9 _ _ _ ?_ ?_
  · simp only [List.take_succ_cons, List.take_zero]
    cases b with
    | false =>
      go_wp2
      exact ⟨false, Lib.hid (by unfold accA5; rw [← HA.out]; rfl), rfl, rfl, rfl, rfl, rfl, rfl, rfl⟩
    | true =>
      by_cases hf : a.by_ = 0
      · have q : ((a.by_.toNat : Int) == 0) = true := by rw [beq_iff_eq]; rw [hf]; rfl
        have HF := Lib.hid hf
        clear hf
        go_wp2
        exact ⟨true, Lib.hid (by unfold accA5; rw [← HA.out]; rw [decide_eq_true HF.out]; rfl), rfl, rfl, rfl, rfl, rfl, rfl, rfl⟩
      · have q : ((a.by_.toNat : Int) == 0) = false := by rw [beq_eq_false_iff_ne]; intro h; exact hf (UInt8.toNat_inj.1 (by simpa using (by omega : a.by_.toNat = 0)))
        have HF := Lib.hid hf
        clear hf
        have HH : Hid (Calls Tryz.prog 79 #[.string (str ps), .int .u8 98] w1 fun e w' => e = .returned (.bool (hasB ps 98)) ∧ w1 = w') := Lib.hid (rhas25 ps 98 w1 (by omega))
        cases hh : hasB ps 98 with
        | false =>
          rw [hh] at HH
          go_wp2_with (go_at_call 79; with_reducible refine HH.out.mono ?_; rintro e w' ⟨rfl, rfl⟩)
          exact ⟨false, Lib.hid (by unfold accA5; rw [← HA.out]; rw [decide_eq_false HF.out]; rw [hh]; rfl), rfl, rfl, rfl, rfl, rfl, rfl, rfl⟩
        | true =>
          rw [hh] at HH
          go_wp2_with (go_at_call 79; with_reducible refine HH.out.mono ?_; rintro e w' ⟨rfl, rfl⟩)
          exact ⟨true, Lib.hid (by unfold accA5; rw [← HA.out]; rw [decide_eq_false HF.out]; rw [hh]; rfl), rfl, rfl, rfl, rfl, rfl, rfl, rfl⟩
  rintro ⟨t, ds⟩ w1 ⟨b, HA, q1, q2, q3, q4, q5, q6, rfl⟩
  dsimp only at q1 q2 q3 q4 q5 q6
  subst q1
  obtain ⟨u, hu, rfl⟩ := frame_open 86 q2
  replace q3 := hu _ _ q3
  replace q4 := hu _ _ q4
  replace q5 := hu _ _ q5
  replace q6 := hu _ _ q6
  simp only [List.drop_succ_cons, List.drop_zero, List.range, List.range.loop, List.map_cons, List.map_nil, q3, q4, q5, q6]
  clear q2 q3 q4 q5 q6 hu
  refine wpList_cut (MidM (actV a (.slice A a.bytes.length c)) (.pointer (some ⟨w.heap.size, 0, none⟩)) (.string (str ps)) 75 (accA6 a ps) w1) 9 _ _ _ ?_ ?_
  · simp only [List.take_succ_cons, List.take_zero]
    cases b with
    | false =>
      go_wp2
      exact ⟨false, Lib.hid (by unfold accA6; rw [← HA.out]; rfl), rfl, rfl, rfl, rfl, rfl, rfl, rfl⟩
    | true =>
      cases hf : a.unread with
      | false =>
        rw [hf] at y7
        go_wp2
        exact ⟨true, Lib.hid (by unfold accA6; rw [← HA.out]; rw [hf]; rfl), rfl, rfl, rfl, rfl, rfl, rfl, rfl⟩
      | true =>
        rw [hf] at y7
        have HH : Hid (Calls Tryz.prog 79 #[.string (str ps), .int .u8 114] w1 fun e w' => e = .returned (.bool (hasB ps 114)) ∧ w1 = w') := Lib.hid (rhas25 ps 114 w1 (by omega))
        cases hh : hasB ps 114 with
        | false =>
          rw [hh] at HH
          go_wp2_with (go_at_call 79; with_reducible refine HH.out.mono ?_; rintro e w' ⟨rfl, rfl⟩)
          exact ⟨false, Lib.hid (by unfold accA6; rw [← HA.out]; rw [hf]; rw [hh]; rfl), rfl, rfl, rfl, rfl, rfl, rfl, rfl⟩
        | true =>
          rw [hh] at HH
          go_wp2_with (go_at_call 79; with_reducible refine HH.out.mono ?_; rintro e w' ⟨rfl, rfl⟩)
          exact ⟨true, Lib.hid (by unfold accA6; rw [← HA.out]; rw [hf]; rw [hh]; rfl), rfl, rfl, rfl, rfl, rfl, rfl, rfl⟩
  rintro ⟨t, ds⟩ w1 ⟨b, HA, q1, q2, q3, q4, q5, q6, rfl⟩
  dsimp only at q1 q2 q3 q4 q5 q6
  subst q1
  obtain ⟨u, hu, rfl⟩ := frame_open 86 q2
  replace q3 := hu _ _ q3
  replace q4 := hu _ _ q4
  replace q5 := hu _ _ q5
  replace q6 := hu _ _ q6
  simp only [List.drop_succ_cons, List.drop_zero, List.range, List.range.loop, List.map_cons, List.map_nil, q3, q4, q5, q6]
  clear q2 q3 q4 q5 q6 hu
  refine wpList_cut (MidM (actV a (.slice A a.bytes.length c)) (.pointer (some ⟨w.heap.size, 0, none⟩)) (.string (str ps)) 85 (accA7 a ps) w1) 10 _ _ _ ?_ ?_
  · simp only [List.take_succ_cons, List.take_zero]
    cases b with
    | false =>
      go_wp2
      exact ⟨false, Lib.hid (by unfold accA7; rw [← HA.out]; rfl), rfl, rfl, rfl, rfl, rfl, rfl, rfl⟩
    | true =>
      by_cases hf : a.bytes = []
      · have q : ((a.bytes.length : Int) == 0) = true := by rw [beq_iff_eq]; rw [hf]; rfl
        have HF := Lib.hid hf
        clear hf
        go_wp2
        exact ⟨true, Lib.hid (by unfold accA7; rw [← HA.out]; rw [decide_eq_true HF.out]; rfl), rfl, rfl, rfl, rfl, rfl, rfl, rfl⟩
      · have q : ((a.bytes.length : Int) == 0) = false := by rw [beq_eq_false_iff_ne]; intro h; exact hf (List.eq_nil_of_length_eq_zero (by omega))
        have HF := Lib.hid hf
        clear hf
        have HH : Hid (Calls Tryz.prog 79 #[.string (str ps), .int .u8 120] w1 fun e w' => e = .returned (.bool (hasB ps 120)) ∧ w1 = w') := Lib.hid (rhas25 ps 120 w1 (by omega))
        cases hh : hasB ps 120 with
        | false =>
          rw [hh] at HH
          go_wp2_with (go_at_call 79; with_reducible refine HH.out.mono ?_; rintro e w' ⟨rfl, rfl⟩)
          exact ⟨false, Lib.hid (by unfold accA7; rw [← HA.out]; rw [decide_eq_false HF.out]; rw [hh]; rfl), rfl, rfl, rfl, rfl, rfl, rfl, rfl⟩
        | true =>
          rw [hh] at HH
          go_wp2_with (go_at_call 79; with_reducible refine HH.out.mono ?_; rintro e w' ⟨rfl, rfl⟩)
          exact ⟨true, Lib.hid (by unfold accA7; rw [← HA.out]; rw [decide_eq_false HF.out]; rw [hh]; rfl), rfl, rfl, rfl, rfl, rfl, rfl, rfl⟩
  rintro ⟨t, ds⟩ w1 ⟨b, HA, q1, q2, q3, q4, q5, q6, rfl⟩
  dsimp only at q1 q2 q3 q4 q5 q6
  subst q1
  obtain ⟨u, hu, rfl⟩ := frame_open 86 q2
  replace q3 := hu _ _ q3
  replace q4 := hu _ _ q4
  replace q5 := hu _ _ q5
  replace q6 := hu _ _ q6
  simp only [List.drop_succ_cons, List.drop_zero, List.range, List.range.loop, List.map_cons, List.map_nil, q3, q4, q5, q6]
  clear q2 q3 q4 q5 q6 hu
  go_wp2
  go_ret
  exact ⟨by rw [← HAB.out, ← HA.out]; rfl, HB1.out⟩
end Go.Proofs.YtfbangojgjcbcaaGreatDoor
namespace Go.Proofs.YtfbangojgjcbcaaGreatDoor
open Go.RowKit Pl
set_option maxRecDepth 100000 in
set_option maxHeartbeats 8000000 in
theorem rmayAct_off (a : ActP) (bv : Value) (w : World) (h : Bs w bv a.bytes) (hk : (a.kind < 1 ∨ 9 < a.kind) ∨ (1 ≤ a.kind ∧ a.kind ≤ 9 ∧ 2048 < a.bytes.length)) :
    Calls Tryz.prog 32 #[actV a bv] w fun e w' => e = .returned (.bool false) ∧ Below w.heap.size w w' := by
  obtain ⟨A, c, rfl, -⟩ := h
  obtain ⟨W0, hW0⟩ : ∃ W0, w.alloc (.cells #[.int .i64 a.kind, .int .i64 a.node, .int .i64 a.port, .int .i64 a.cost, .int .i64 a.n, .bool a.up, .int .u8 (a.by_.toNat : Int), .bool a.unread, .slice A a.bytes.length c] 51) = W0 := ⟨_, rfl⟩
  have HB0 : Hid (Below w.heap.size w W0) := Lib.hid (by rw [← hW0]; exact (Below.refl _ _).alloc (Nat.le_refl _) _)
  have HX : Whole W0 w.heap.size 51 #[.int .i64 a.kind, .int .i64 a.node, .int .i64 a.port, .int .i64 a.cost, .int .i64 a.n, .bool a.up, .int .u8 (a.by_.toNat : Int), .bool a.unread, .slice A a.bytes.length c] := by rw [← hW0]; exact Whole.new w _ _
  have hlt1 := HX.lt
  have y0 : W0.cell? ⟨w.heap.size, 0, none⟩ = some (.int .i64 a.kind) := HX.cell 0
  have HXX := Lib.hid HX
  have HW0 := Lib.hid hW0
  rcases hk with hk | ⟨h1, h9, hl⟩
  · have HP := Lib.hid (fun W => rparts_out a.kind W hk)
    have d1 : ((str [63]).toList == [63]) = true := by rw [str_toList]; rfl
    have d2 : (str [63]).toList = [63] := str_toList _
    clear hW0 HX hk
    go_enter Tryz.func32, Tryz.ntmps32
    go_upto_region 1 with fail
    rw [HW0.out]
    go_wp2_with fail
    refine (HP.out W0).mono ?_
    rintro e w1 ⟨rfl, hb1⟩
    have HB1 := Lib.hid (HB0.out.trans (hb1.mono HB0.out.size))
    clear hb1 y0
    go_wp2
    go_ret
    exact ⟨rfl, HB1.out⟩
  · have HP := Lib.hid (fun W => rparts_in a.kind W h1 h9)
    have hps : lettersA a.kind.toNat ≠ [63] := by
      rcases K9.cases (a := a) ⟨h1, h9⟩ with e | e | e | e | e | e | e | e | e <;> rw [e] <;> decide
    obtain ⟨ps, hp⟩ : ∃ ps, lettersA a.kind.toNat = ps := ⟨_, rfl⟩
    rw [hp] at HP hps
    have d1 : ((str ps).toList == [63]) = false := by rw [str_toList]; exact beq_eq_false_iff_ne.2 hps
    have d2 : ¬ (str ps).toList = [63] := by rw [str_toList]; exact hps
    have d3 : decide ((2048 : Int) < (a.bytes.length : Int)) = true := decide_eq_true (by omega)
    clear hW0 HX hp hps
    go_enter Tryz.func32, Tryz.ntmps32
    go_upto_region 1 with fail
    rw [HW0.out]
    go_wp2_with fail
    refine (HP.out W0).mono ?_
    rintro e w1 ⟨rfl, hb1⟩
    have y8 : w1.cell? ⟨w.heap.size, 8, none⟩ = some (.slice A a.bytes.length c) := (HXX.out.here hb1).cell 8
    have HB1 := Lib.hid (HB0.out.trans (hb1.mono HB0.out.size))
    clear hb1 y0
    go_wp2
    go_ret
    exact ⟨rfl, HB1.out⟩
theorem rmayAct_any (a : ActP) (bv : Value) (w : World) (h : Bs w bv a.bytes) :
    Calls Tryz.prog 32 #[actV a bv] w fun e w' => e = .returned (.bool (mayA a)) ∧ Below w.heap.size w w' := by
  by_cases h1 : 1 ≤ a.kind
  · by_cases h9 : a.kind ≤ 9
    · by_cases hl : a.bytes.length ≤ 2048
      · have e : mayA a = bareOk a := by
          unfold mayA; rw [decide_eq_true h1, decide_eq_true h9, decide_eq_true hl]; simp
        rw [e]; exact rmayAct_in a bv w ⟨h1, h9⟩ h hl
      · have e : mayA a = false := by
          unfold mayA; rw [decide_eq_false hl]; simp
        rw [e]; exact rmayAct_off a bv w h (.inr ⟨h1, h9, by omega⟩)
    · have e : mayA a = false := by
        unfold mayA; rw [decide_eq_false h9]; simp
      rw [e]; exact rmayAct_off a bv w h (.inl (.inr (by omega)))
  · have e : mayA a = false := by
      unfold mayA; rw [decide_eq_false h1]; simp
    rw [e]; exact rmayAct_off a bv w h (.inl (.inl (by omega)))
end Go.Proofs.YtfbangojgjcbcaaGreatDoor
namespace Go.Proofs.YtfbangojgjcbcaaGreatDoor
open Go.RowKit Pl
theorem beqd (a b : List UInt8) : (a == b) = decide (a = b) := by
  by_cases h : a = b
  · rw [decide_eq_true h]; exact beq_iff_eq.2 h
  · rw [decide_eq_false h]; exact beq_eq_false_iff_ne.2 h
set_option maxRecDepth 100000 in
set_option maxHeartbeats 4000000 in
theorem rsameAct_any (a b : ActP) (va vb : Value) (w : World) (h : Bs w va a.bytes) (h' : Bs w vb b.bytes) :
    Calls Tryz.prog 38 #[actV a va, actV b vb] w fun e w' => e = .returned (.bool (sameA a b)) ∧ Below w.heap.size w w' := by
  have HA := Lib.hid h
  have HB := Lib.hid h'
  obtain ⟨A, c, rfl, -⟩ := h
  obtain ⟨B, c', rfl, -⟩ := h'
  obtain ⟨k, node, port, cost, n, up, by_, unread, bytes⟩ := a
  obtain ⟨k', node', port', cost', n', up', by_', unread', bytes'⟩ := b
  simp only at HA HB ⊢
  obtain ⟨W0, hW0⟩ : ∃ W0, (w.alloc (.cells #[.int .i64 k, .int .i64 node, .int .i64 port, .int .i64 cost, .int .i64 n, .bool up, .int .u8 (by_.toNat : Int), .bool unread, .slice A bytes.length c] 51)).alloc (.cells #[.int .i64 k', .int .i64 node', .int .i64 port', .int .i64 cost', .int .i64 n', .bool up', .int .u8 (by_'.toNat : Int), .bool unread', .slice B bytes'.length c'] 51) = W0 := ⟨_, rfl⟩
  have HB0 : Hid (Below w.heap.size w W0) := Lib.hid (by rw [← hW0]; exact ((Below.refl _ _).alloc (Nat.le_refl _) _).alloc (by simp) _)
  have HX1 : Whole W0 w.heap.size 51 #[.int .i64 k, .int .i64 node, .int .i64 port, .int .i64 cost, .int .i64 n, .bool up, .int .u8 (by_.toNat : Int), .bool unread, .slice A bytes.length c] := by rw [← hW0]; exact (Whole.new w _ _).alloc _
  have HX2 : Whole W0 (w.heap.size + 1) 51 #[.int .i64 k', .int .i64 node', .int .i64 port', .int .i64 cost', .int .i64 n', .bool up', .int .u8 (by_'.toNat : Int), .bool unread', .slice B bytes'.length c'] := by
    rw [← hW0]
    have := Whole.new (w.alloc (.cells #[.int .i64 k, .int .i64 node, .int .i64 port, .int .i64 cost, .int .i64 n, .bool up, .int .u8 (by_.toNat : Int), .bool unread, .slice A bytes.length c] 51)) 51 #[.int .i64 k', .int .i64 node', .int .i64 port', .int .i64 cost', .int .i64 n', .bool up', .int .u8 (by_'.toNat : Int), .bool unread', .slice B bytes'.length c']
    simpa using this
  have hlt1 := HX1.lt
  have hlt2 := HX2.lt
  have y0 : W0.cell? ⟨w.heap.size, 0, none⟩ = some (.int .i64 k) := HX1.cell 0
  have z0 : W0.cell? ⟨w.heap.size + 1, 0, none⟩ = some (.int .i64 k') := HX2.cell 0
  have y1 : W0.cell? ⟨w.heap.size, 1, none⟩ = some (.int .i64 node) := HX1.cell 1
  have z1 : W0.cell? ⟨w.heap.size + 1, 1, none⟩ = some (.int .i64 node') := HX2.cell 1
  have y2 : W0.cell? ⟨w.heap.size, 2, none⟩ = some (.int .i64 port) := HX1.cell 2
  have z2 : W0.cell? ⟨w.heap.size + 1, 2, none⟩ = some (.int .i64 port') := HX2.cell 2
  have y3 : W0.cell? ⟨w.heap.size, 3, none⟩ = some (.int .i64 cost) := HX1.cell 3
  have z3 : W0.cell? ⟨w.heap.size + 1, 3, none⟩ = some (.int .i64 cost') := HX2.cell 3
  have y4 : W0.cell? ⟨w.heap.size, 4, none⟩ = some (.int .i64 n) := HX1.cell 4
  have z4 : W0.cell? ⟨w.heap.size + 1, 4, none⟩ = some (.int .i64 n') := HX2.cell 4
  have y5 : W0.cell? ⟨w.heap.size, 5, none⟩ = some (.bool up) := HX1.cell 5
  have z5 : W0.cell? ⟨w.heap.size + 1, 5, none⟩ = some (.bool up') := HX2.cell 5
  have y6 : W0.cell? ⟨w.heap.size, 6, none⟩ = some (.int .u8 (by_.toNat : Int)) := HX1.cell 6
  have z6 : W0.cell? ⟨w.heap.size + 1, 6, none⟩ = some (.int .u8 (by_'.toNat : Int)) := HX2.cell 6
  have y7 : W0.cell? ⟨w.heap.size, 7, none⟩ = some (.bool unread) := HX1.cell 7
  have z7 : W0.cell? ⟨w.heap.size + 1, 7, none⟩ = some (.bool unread') := HX2.cell 7
  have y8 : W0.cell? ⟨w.heap.size, 8, none⟩ = some (.slice A bytes.length c) := HX1.cell 8
  have z8 : W0.cell? ⟨w.heap.size + 1, 8, none⟩ = some (.slice B bytes'.length c') := HX2.cell 8
  have hcv1 := (HA.out.below HB0.out).conv
  have hcv2 := (HB.out.below HB0.out).conv
  have HW0 := Lib.hid hW0
  clear hW0 HX1 HX2
  by_cases e0 : k = k'
  · subst e0
    by_cases e1 : node = node'
    · subst e1
      by_cases e2 : port = port'
      · subst e2
        by_cases e3 : cost = cost'
        · subst e3
          by_cases e4 : n = n'
          · subst e4
            by_cases e5 : up = up'
            · subst e5
              by_cases e6 : by_ = by_'
              · subst e6
                by_cases e7 : unread = unread'
                · subst e7
                  go_enter Tryz.func38, Tryz.ntmps38
                  go_upto_region 1 with fail
                  rw [HW0.out]
                  have HS : Hid (sameA ⟨k, node, port, cost, n, up, by_, unread, bytes⟩ ⟨k, node, port, cost, n, up, by_, unread, bytes'⟩ = decide (bytes = bytes')) := Lib.hid (by simp [sameA])
                  go_wp2
                  go_ret
                  have dq := beqd bytes bytes'
                  exact ⟨by rw [HS.out]; exact congrArg (fun b => Ending.returned (Value.bool b)) dq, HB0.out⟩
                · have d : (unread == unread') = false := by simpa using e7
                  have HS : Hid (sameA ⟨k, node, port, cost, n, up, by_, unread, bytes⟩ ⟨k, node, port, cost, n, up, by_, unread', bytes'⟩ = false) := Lib.hid (by simp [sameA, e7])
                  clear e7
                  go_enter Tryz.func38, Tryz.ntmps38
                  go_upto_region 1 with fail
                  rw [HW0.out]
                  go_wp2
                  go_ret
                  exact ⟨by rw [HS.out]; rfl, HB0.out⟩
              · have d : ((by_.toNat : Int) == (by_'.toNat : Int)) = false := by
                  rw [beq_eq_false_iff_ne]
                  intro h
                  exact e6 (UInt8.toNat_inj.1 (by omega))
                have HS : Hid (sameA ⟨k, node, port, cost, n, up, by_, unread, bytes⟩ ⟨k, node, port, cost, n, up, by_', unread', bytes'⟩ = false) := Lib.hid (by simp [sameA, e6])
                clear e6
                go_enter Tryz.func38, Tryz.ntmps38
                go_upto_region 1 with fail
                rw [HW0.out]
                go_wp2
                go_ret
                exact ⟨by rw [HS.out]; rfl, HB0.out⟩
            · have d : (up == up') = false := by simpa using e5
              have HS : Hid (sameA ⟨k, node, port, cost, n, up, by_, unread, bytes⟩ ⟨k, node, port, cost, n, up', by_', unread', bytes'⟩ = false) := Lib.hid (by simp [sameA, e5])
              clear e5
              go_enter Tryz.func38, Tryz.ntmps38
              go_upto_region 1 with fail
              rw [HW0.out]
              go_wp2
              go_ret
              exact ⟨by rw [HS.out]; rfl, HB0.out⟩
          · have d : (n == n') = false := by simpa using e4
            have HS : Hid (sameA ⟨k, node, port, cost, n, up, by_, unread, bytes⟩ ⟨k, node, port, cost, n', up', by_', unread', bytes'⟩ = false) := Lib.hid (by simp [sameA, e4])
            clear e4
            go_enter Tryz.func38, Tryz.ntmps38
            go_upto_region 1 with fail
            rw [HW0.out]
            go_wp2
            go_ret
            exact ⟨by rw [HS.out]; rfl, HB0.out⟩
        · have d : (cost == cost') = false := by simpa using e3
          have HS : Hid (sameA ⟨k, node, port, cost, n, up, by_, unread, bytes⟩ ⟨k, node, port, cost', n', up', by_', unread', bytes'⟩ = false) := Lib.hid (by simp [sameA, e3])
          clear e3
          go_enter Tryz.func38, Tryz.ntmps38
          go_upto_region 1 with fail
          rw [HW0.out]
          go_wp2
          go_ret
          exact ⟨by rw [HS.out]; rfl, HB0.out⟩
      · have d : (port == port') = false := by simpa using e2
        have HS : Hid (sameA ⟨k, node, port, cost, n, up, by_, unread, bytes⟩ ⟨k, node, port', cost', n', up', by_', unread', bytes'⟩ = false) := Lib.hid (by simp [sameA, e2])
        clear e2
        go_enter Tryz.func38, Tryz.ntmps38
        go_upto_region 1 with fail
        rw [HW0.out]
        go_wp2
        go_ret
        exact ⟨by rw [HS.out]; rfl, HB0.out⟩
    · have d : (node == node') = false := by simpa using e1
      have HS : Hid (sameA ⟨k, node, port, cost, n, up, by_, unread, bytes⟩ ⟨k, node', port', cost', n', up', by_', unread', bytes'⟩ = false) := Lib.hid (by simp [sameA, e1])
      clear e1
      go_enter Tryz.func38, Tryz.ntmps38
      go_upto_region 1 with fail
      rw [HW0.out]
      go_wp2
      go_ret
      exact ⟨by rw [HS.out]; rfl, HB0.out⟩
  · have d : (k == k') = false := by simpa using e0
    have HS : Hid (sameA ⟨k, node, port, cost, n, up, by_, unread, bytes⟩ ⟨k', node', port', cost', n', up', by_', unread', bytes'⟩ = false) := Lib.hid (by simp [sameA, e0])
    clear e0
    go_enter Tryz.func38, Tryz.ntmps38
    go_upto_region 1 with fail
    rw [HW0.out]
    go_wp2
    go_ret
    exact ⟨by rw [HS.out]; rfl, HB0.out⟩
end Go.Proofs.YtfbangojgjcbcaaGreatDoor
namespace Go.Proofs.YtfbangojgjcbcaaGreatDoor
open Go.RowKit Pl
set_option maxRecDepth 100000 in
theorem rtold_n (a : ActP) (bv : Value) (w : World) (h : Bs w bv a.bytes) (hi : InA a) (_hl : a.bytes.length ≤ 1000000) (E : Env w) :
    Calls Tryz.prog 82 #[actV a bv, .int .u8 110] w fun e w' => e = .returned (.string (str (told a .n))) ∧ Below w.heap.size w w' := by
  have HV := Lib.hid h
  obtain ⟨A, c, rfl, -⟩ := h
  obtain ⟨W0, hW0⟩ : ∃ W0, w.alloc (.cells #[.int .i64 a.kind, .int .i64 a.node, .int .i64 a.port, .int .i64 a.cost, .int .i64 a.n, .bool a.up, .int .u8 (a.by_.toNat : Int), .bool a.unread, .slice A a.bytes.length c] 51) = W0 := ⟨_, rfl⟩
  have HB0 : Hid (Below w.heap.size w W0) := Lib.hid (by rw [← hW0]; exact (Below.refl _ _).alloc (Nat.le_refl _) _)
  have HX : Whole W0 w.heap.size 51 #[.int .i64 a.kind, .int .i64 a.node, .int .i64 a.port, .int .i64 a.cost, .int .i64 a.n, .bool a.up, .int .u8 (a.by_.toNat : Int), .bool a.unread, .slice A a.bytes.length c] := by rw [← hW0]; exact Whole.new w _ _
  have hlt1 := HX.lt
  have y1 : W0.cell? ⟨w.heap.size, 1, none⟩ = some (.int .i64 a.node) := HX.cell 1
  have E0 : Env W0 := by rw [← hW0]; exact E.alloc _
  have EE := Lib.hid E0
  have HW0 := Lib.hid hW0
  clear hW0 HX E0
  have HI : Hid (In64 a.node) := Lib.hid (hi.2.1)
  go_enter Tryz.func82, Tryz.ntmps82
  go_upto_region 1 with fail
  rw [HW0.out]
  go_wp2_with (go_at_call 58; refine (itoa_all a.node _ HI.out.1 HI.out.2 EE.out).mono ?_; rintro e w1 ⟨rfl, hb1⟩)
  have HB1 := Lib.hid (HB0.out.trans (hb1.mono HB0.out.size))
  go_ret
  exact ⟨rfl, HB1.out⟩
set_option maxRecDepth 100000 in
theorem rtold_p (a : ActP) (bv : Value) (w : World) (h : Bs w bv a.bytes) (hi : InA a) (_hl : a.bytes.length ≤ 1000000) (E : Env w) :
    Calls Tryz.prog 82 #[actV a bv, .int .u8 112] w fun e w' => e = .returned (.string (str (told a .p))) ∧ Below w.heap.size w w' := by
  have HV := Lib.hid h
  obtain ⟨A, c, rfl, -⟩ := h
  obtain ⟨W0, hW0⟩ : ∃ W0, w.alloc (.cells #[.int .i64 a.kind, .int .i64 a.node, .int .i64 a.port, .int .i64 a.cost, .int .i64 a.n, .bool a.up, .int .u8 (a.by_.toNat : Int), .bool a.unread, .slice A a.bytes.length c] 51) = W0 := ⟨_, rfl⟩
  have HB0 : Hid (Below w.heap.size w W0) := Lib.hid (by rw [← hW0]; exact (Below.refl _ _).alloc (Nat.le_refl _) _)
  have HX : Whole W0 w.heap.size 51 #[.int .i64 a.kind, .int .i64 a.node, .int .i64 a.port, .int .i64 a.cost, .int .i64 a.n, .bool a.up, .int .u8 (a.by_.toNat : Int), .bool a.unread, .slice A a.bytes.length c] := by rw [← hW0]; exact Whole.new w _ _
  have hlt1 := HX.lt
  have y2 : W0.cell? ⟨w.heap.size, 2, none⟩ = some (.int .i64 a.port) := HX.cell 2
  have E0 : Env W0 := by rw [← hW0]; exact E.alloc _
  have EE := Lib.hid E0
  have HW0 := Lib.hid hW0
  clear hW0 HX E0
  have HI : Hid (In64 a.port) := Lib.hid (hi.2.2.1)
  go_enter Tryz.func82, Tryz.ntmps82
  go_upto_region 1 with fail
  rw [HW0.out]
  go_wp2_with (go_at_call 58; refine (itoa_all a.port _ HI.out.1 HI.out.2 EE.out).mono ?_; rintro e w1 ⟨rfl, hb1⟩)
  have HB1 := Lib.hid (HB0.out.trans (hb1.mono HB0.out.size))
  go_ret
  exact ⟨rfl, HB1.out⟩
set_option maxRecDepth 100000 in
theorem rtold_c (a : ActP) (bv : Value) (w : World) (h : Bs w bv a.bytes) (hi : InA a) (_hl : a.bytes.length ≤ 1000000) (E : Env w) :
    Calls Tryz.prog 82 #[actV a bv, .int .u8 99] w fun e w' => e = .returned (.string (str (told a .c))) ∧ Below w.heap.size w w' := by
  have HV := Lib.hid h
  obtain ⟨A, c, rfl, -⟩ := h
  obtain ⟨W0, hW0⟩ : ∃ W0, w.alloc (.cells #[.int .i64 a.kind, .int .i64 a.node, .int .i64 a.port, .int .i64 a.cost, .int .i64 a.n, .bool a.up, .int .u8 (a.by_.toNat : Int), .bool a.unread, .slice A a.bytes.length c] 51) = W0 := ⟨_, rfl⟩
  have HB0 : Hid (Below w.heap.size w W0) := Lib.hid (by rw [← hW0]; exact (Below.refl _ _).alloc (Nat.le_refl _) _)
  have HX : Whole W0 w.heap.size 51 #[.int .i64 a.kind, .int .i64 a.node, .int .i64 a.port, .int .i64 a.cost, .int .i64 a.n, .bool a.up, .int .u8 (a.by_.toNat : Int), .bool a.unread, .slice A a.bytes.length c] := by rw [← hW0]; exact Whole.new w _ _
  have hlt1 := HX.lt
  have y3 : W0.cell? ⟨w.heap.size, 3, none⟩ = some (.int .i64 a.cost) := HX.cell 3
  have E0 : Env W0 := by rw [← hW0]; exact E.alloc _
  have EE := Lib.hid E0
  have HW0 := Lib.hid hW0
  clear hW0 HX E0
  have HI : Hid (In64 a.cost) := Lib.hid (hi.2.2.2.1)
  go_enter Tryz.func82, Tryz.ntmps82
  go_upto_region 1 with fail
  rw [HW0.out]
  go_wp2_with (go_at_call 58; refine (itoa_all a.cost _ HI.out.1 HI.out.2 EE.out).mono ?_; rintro e w1 ⟨rfl, hb1⟩)
  have HB1 := Lib.hid (HB0.out.trans (hb1.mono HB0.out.size))
  go_ret
  exact ⟨rfl, HB1.out⟩
set_option maxRecDepth 100000 in
theorem rtold_i (a : ActP) (bv : Value) (w : World) (h : Bs w bv a.bytes) (hi : InA a) (_hl : a.bytes.length ≤ 1000000) (E : Env w) :
    Calls Tryz.prog 82 #[actV a bv, .int .u8 105] w fun e w' => e = .returned (.string (str (told a .i))) ∧ Below w.heap.size w w' := by
  have HV := Lib.hid h
  obtain ⟨A, c, rfl, -⟩ := h
  obtain ⟨W0, hW0⟩ : ∃ W0, w.alloc (.cells #[.int .i64 a.kind, .int .i64 a.node, .int .i64 a.port, .int .i64 a.cost, .int .i64 a.n, .bool a.up, .int .u8 (a.by_.toNat : Int), .bool a.unread, .slice A a.bytes.length c] 51) = W0 := ⟨_, rfl⟩
  have HB0 : Hid (Below w.heap.size w W0) := Lib.hid (by rw [← hW0]; exact (Below.refl _ _).alloc (Nat.le_refl _) _)
  have HX : Whole W0 w.heap.size 51 #[.int .i64 a.kind, .int .i64 a.node, .int .i64 a.port, .int .i64 a.cost, .int .i64 a.n, .bool a.up, .int .u8 (a.by_.toNat : Int), .bool a.unread, .slice A a.bytes.length c] := by rw [← hW0]; exact Whole.new w _ _
  have hlt1 := HX.lt
  have y4 : W0.cell? ⟨w.heap.size, 4, none⟩ = some (.int .i64 a.n) := HX.cell 4
  have E0 : Env W0 := by rw [← hW0]; exact E.alloc _
  have EE := Lib.hid E0
  have HW0 := Lib.hid hW0
  clear hW0 HX E0
  have HI : Hid (In64 a.n) := Lib.hid (hi.2.2.2.2)
  go_enter Tryz.func82, Tryz.ntmps82
  go_upto_region 1 with fail
  rw [HW0.out]
  go_wp2_with (go_at_call 58; refine (itoa_all a.n _ HI.out.1 HI.out.2 EE.out).mono ?_; rintro e w1 ⟨rfl, hb1⟩)
  have HB1 := Lib.hid (HB0.out.trans (hb1.mono HB0.out.size))
  go_ret
  exact ⟨rfl, HB1.out⟩
set_option maxRecDepth 100000 in
theorem rtold_b (a : ActP) (bv : Value) (w : World) (h : Bs w bv a.bytes) (_hi : InA a) (_hl : a.bytes.length ≤ 1000000) (E : Env w) :
    Calls Tryz.prog 82 #[actV a bv, .int .u8 98] w fun e w' => e = .returned (.string (str (told a .b))) ∧ Below w.heap.size w w' := by
  have HV := Lib.hid h
  obtain ⟨A, c, rfl, -⟩ := h
  obtain ⟨W0, hW0⟩ : ∃ W0, w.alloc (.cells #[.int .i64 a.kind, .int .i64 a.node, .int .i64 a.port, .int .i64 a.cost, .int .i64 a.n, .bool a.up, .int .u8 (a.by_.toNat : Int), .bool a.unread, .slice A a.bytes.length c] 51) = W0 := ⟨_, rfl⟩
  have HB0 : Hid (Below w.heap.size w W0) := Lib.hid (by rw [← hW0]; exact (Below.refl _ _).alloc (Nat.le_refl _) _)
  have HX : Whole W0 w.heap.size 51 #[.int .i64 a.kind, .int .i64 a.node, .int .i64 a.port, .int .i64 a.cost, .int .i64 a.n, .bool a.up, .int .u8 (a.by_.toNat : Int), .bool a.unread, .slice A a.bytes.length c] := by rw [← hW0]; exact Whole.new w _ _
  have hlt1 := HX.lt
  have y6 : W0.cell? ⟨w.heap.size, 6, none⟩ = some (.int .u8 (a.by_.toNat : Int)) := HX.cell 6
  have E0 : Env W0 := by rw [← hW0]; exact E.alloc _
  have EE := Lib.hid E0
  have HW0 := Lib.hid hW0
  clear hW0 HX E0
  have HI : Hid (In64 (a.by_.toNat : Int)) := Lib.hid (in_byte a.by_)
  have hwr : wrap64 (a.by_.toNat : Int) = (a.by_.toNat : Int) := by have h1 := HI.out.1; have h2 := HI.out.2; unfold wrap64; omega
  go_enter Tryz.func82, Tryz.ntmps82
  go_upto_region 1 with fail
  rw [HW0.out]
  go_wp2_with (go_at_call 58; rw [hwr]; refine (itoa_all (a.by_.toNat : Int) _ HI.out.1 HI.out.2 EE.out).mono ?_; rintro e w1 ⟨rfl, hb1⟩)
  have HB1 := Lib.hid (HB0.out.trans (hb1.mono HB0.out.size))
  go_ret
  exact ⟨rfl, HB1.out⟩
set_option maxRecDepth 100000 in
theorem rtold_u (a : ActP) (bv : Value) (w : World) (h : Bs w bv a.bytes) (_hi : InA a) (_hl : a.bytes.length ≤ 1000000) (E : Env w) :
    Calls Tryz.prog 82 #[actV a bv, .int .u8 117] w fun e w' => e = .returned (.string (str (told a .u))) ∧ Below w.heap.size w w' := by
  have HV := Lib.hid h
  obtain ⟨A, c, rfl, -⟩ := h
  obtain ⟨W0, hW0⟩ : ∃ W0, w.alloc (.cells #[.int .i64 a.kind, .int .i64 a.node, .int .i64 a.port, .int .i64 a.cost, .int .i64 a.n, .bool a.up, .int .u8 (a.by_.toNat : Int), .bool a.unread, .slice A a.bytes.length c] 51) = W0 := ⟨_, rfl⟩
  have HB0 : Hid (Below w.heap.size w W0) := Lib.hid (by rw [← hW0]; exact (Below.refl _ _).alloc (Nat.le_refl _) _)
  have HX : Whole W0 w.heap.size 51 #[.int .i64 a.kind, .int .i64 a.node, .int .i64 a.port, .int .i64 a.cost, .int .i64 a.n, .bool a.up, .int .u8 (a.by_.toNat : Int), .bool a.unread, .slice A a.bytes.length c] := by rw [← hW0]; exact Whole.new w _ _
  have hlt1 := HX.lt
  have y5 : W0.cell? ⟨w.heap.size, 5, none⟩ = some (.bool a.up) := HX.cell 5
  have E0 : Env W0 := by rw [← hW0]; exact E.alloc _
  have EE := Lib.hid E0
  have HW0 := Lib.hid hW0
  clear hW0 HX E0
  cases hf : a.up
  all_goals
    rw [hf] at y5
    have HF := Lib.hid hf
    clear hf
    go_enter Tryz.func82, Tryz.ntmps82
    go_upto_region 1 with fail
    rw [HW0.out]
    go_wp2
    go_ret
    exact ⟨by unfold told; rw [HF.out]; rfl, HB0.out⟩
set_option maxRecDepth 100000 in
theorem rtold_r (a : ActP) (bv : Value) (w : World) (h : Bs w bv a.bytes) (_hi : InA a) (_hl : a.bytes.length ≤ 1000000) (E : Env w) :
    Calls Tryz.prog 82 #[actV a bv, .int .u8 114] w fun e w' => e = .returned (.string (str (told a .r))) ∧ Below w.heap.size w w' := by
  have HV := Lib.hid h
  obtain ⟨A, c, rfl, -⟩ := h
  obtain ⟨W0, hW0⟩ : ∃ W0, w.alloc (.cells #[.int .i64 a.kind, .int .i64 a.node, .int .i64 a.port, .int .i64 a.cost, .int .i64 a.n, .bool a.up, .int .u8 (a.by_.toNat : Int), .bool a.unread, .slice A a.bytes.length c] 51) = W0 := ⟨_, rfl⟩
  have HB0 : Hid (Below w.heap.size w W0) := Lib.hid (by rw [← hW0]; exact (Below.refl _ _).alloc (Nat.le_refl _) _)
  have HX : Whole W0 w.heap.size 51 #[.int .i64 a.kind, .int .i64 a.node, .int .i64 a.port, .int .i64 a.cost, .int .i64 a.n, .bool a.up, .int .u8 (a.by_.toNat : Int), .bool a.unread, .slice A a.bytes.length c] := by rw [← hW0]; exact Whole.new w _ _
  have hlt1 := HX.lt
  have y7 : W0.cell? ⟨w.heap.size, 7, none⟩ = some (.bool a.unread) := HX.cell 7
  have E0 : Env W0 := by rw [← hW0]; exact E.alloc _
  have EE := Lib.hid E0
  have HW0 := Lib.hid hW0
  clear hW0 HX E0
  cases hf : a.unread
  all_goals
    rw [hf] at y7
    have HF := Lib.hid hf
    clear hf
    go_enter Tryz.func82, Tryz.ntmps82
    go_upto_region 1 with fail
    rw [HW0.out]
    go_wp2
    go_ret
    exact ⟨by unfold told; rw [HF.out]; rfl, HB0.out⟩
set_option maxRecDepth 100000 in
theorem rtold_x (a : ActP) (bv : Value) (w : World) (h : Bs w bv a.bytes) (_hi : InA a) (hl : a.bytes.length ≤ 1000000) (E : Env w) :
    Calls Tryz.prog 82 #[actV a bv, .int .u8 120] w fun e w' => e = .returned (.string (str (told a .x))) ∧ Below w.heap.size w w' := by
  have HV := Lib.hid h
  obtain ⟨A, c, rfl, -⟩ := h
  obtain ⟨W0, hW0⟩ : ∃ W0, w.alloc (.cells #[.int .i64 a.kind, .int .i64 a.node, .int .i64 a.port, .int .i64 a.cost, .int .i64 a.n, .bool a.up, .int .u8 (a.by_.toNat : Int), .bool a.unread, .slice A a.bytes.length c] 51) = W0 := ⟨_, rfl⟩
  have HB0 : Hid (Below w.heap.size w W0) := Lib.hid (by rw [← hW0]; exact (Below.refl _ _).alloc (Nat.le_refl _) _)
  have HX : Whole W0 w.heap.size 51 #[.int .i64 a.kind, .int .i64 a.node, .int .i64 a.port, .int .i64 a.cost, .int .i64 a.n, .bool a.up, .int .u8 (a.by_.toNat : Int), .bool a.unread, .slice A a.bytes.length c] := by rw [← hW0]; exact Whole.new w _ _
  have hlt1 := HX.lt
  have y8 : W0.cell? ⟨w.heap.size, 8, none⟩ = some (.slice A a.bytes.length c) := HX.cell 8
  have E0 : Env W0 := by rw [← hW0]; exact E.alloc _
  have EE := Lib.hid E0
  have HW0 := Lib.hid hW0
  clear hW0 HX E0
  by_cases h0 : a.bytes = []
  · have d1 : ((a.bytes.length : Int) == 0) = true := by rw [h0]; rfl
    have HF := Lib.hid h0
    clear h0
    go_enter Tryz.func82, Tryz.ntmps82
    go_upto_region 1 with fail
    rw [HW0.out]
    go_wp2
    go_ret
    exact ⟨by unfold told hexD; rw [if_pos HF.out]; rfl, HB0.out⟩
  · have d1 : ((a.bytes.length : Int) == 0) = false := by
      rw [beq_eq_false_iff_ne]; intro h; exact h0 (List.eq_nil_of_length_eq_zero (by omega))
    have HF := Lib.hid h0
    clear h0
    go_enter Tryz.func82, Tryz.ntmps82
    go_upto_region 1 with fail
    rw [HW0.out]
    go_wp2_with (go_at_call 142; refine (rhex _ a.bytes _ (HV.out.below HB0.out) (by omega)).mono ?_; rintro e w1 ⟨rfl, hb1⟩)
    have HB1 := Lib.hid (HB0.out.trans (hb1.mono HB0.out.size))
    go_ret
    exact ⟨by unfold told hexD; rw [if_neg HF.out]; rfl, HB1.out⟩
theorem rtold_any (a : ActP) (bv : Value) (q : Pt) (w : World) (h : Bs w bv a.bytes) (hi : InA a) (hl : a.bytes.length ≤ 1000000) (E : Env w) :
    Calls Tryz.prog 82 #[actV a bv, .int .u8 ((letter q).toNat : Int)] w fun e w' => e = .returned (.string (str (told a q))) ∧ Below w.heap.size w w' := by
  cases q
  · exact rtold_n a bv w h hi hl E
  · exact rtold_p a bv w h hi hl E
  · exact rtold_c a bv w h hi hl E
  · exact rtold_i a bv w h hi hl E
  · exact rtold_u a bv w h hi hl E
  · exact rtold_b a bv w h hi hl E
  · exact rtold_r a bv w h hi hl E
  · exact rtold_x a bv w h hi hl E
end Go.Proofs.YtfbangojgjcbcaaGreatDoor
namespace Go.Proofs.YtfbangojgjcbcaaGreatDoor
open Go.RowKit Pl
theorem join_snoc (c : UInt8) (z : List UInt8) : ∀ l : List (List UInt8), l ≠ [] → Lib.join (l ++ [z]) [c] = Lib.join l [c] ++ c :: z
  | [], h => absurd rfl h
  | [x], _ => by simp [Lib.join]
  | x :: y :: r, _ => by
    rw [List.cons_append, List.cons_append, join_two, join_two, ← List.cons_append, join_snoc c z (y :: r) (by simp)]
    simp
/-- The first words of an act's text. -/
def firstA (a : ActP) (j : Nat) : List UInt8 := Lib.join (nameA a.kind.toNat :: ((partsA a.kind.toNat).take j).map (told a)) [32]
theorem firstA_next {a : ActP} {j : Nat} {q : Pt} (h : (partsA a.kind.toNat)[j]? = some q) : firstA a (j + 1) = firstA a j ++ 32 :: told a q := by
  unfold firstA
  rw [List.take_add_one, h]
  rw [List.map_append, ← List.cons_append]
  exact join_snoc 32 _ _ (by simp)
theorem firstA_all (a : ActP) : firstA a (partsA a.kind.toNat).length = actText a := by
  unfold firstA actText actWords
  rw [List.take_length]
theorem told_len {a : ActP} (hi : InA a) (hl : a.bytes.length ≤ 2048) (q : Pt) : (told a q).length ≤ 4100 := by
  have e := fun n (h : In64 n) => itoa_len20 h
  cases q
  · have := e _ hi.2.1; unfold told; simp only; omega
  · have := e _ hi.2.2.1; unfold told; simp only; omega
  · have := e _ hi.2.2.2.1; unfold told; simp only; omega
  · have := e _ hi.2.2.2.2; unfold told; simp only; omega
  · unfold told; simp only; split <;> decide
  · have := e _ (in_byte a.by_); unfold told; simp only; omega
  · unfold told; simp only; split <;> decide
  · have := hexD_len a.bytes; unfold told; simp only; omega
theorem firstA_len {a : ActP} (hi : InA a) (hl : a.bytes.length ≤ 2048) (j : Nat) : (firstA a j).length ≤ 4101 * (1 + (partsA a.kind.toNat).length) := by
  have h := join_len 32 4100 (nameA a.kind.toNat :: ((partsA a.kind.toNat).take j).map (told a)) (by
    intro l hl'
    rcases List.mem_cons.1 hl' with rfl | h
    · have := name_len a.kind.toNat; omega
    · obtain ⟨q, _, rfl⟩ := List.mem_map.1 h
      exact told_len hi hl q)
  have h2 : (nameA a.kind.toNat :: ((partsA a.kind.toNat).take j).map (told a)).length ≤ 1 + (partsA a.kind.toNat).length := by
    simp only [List.length_cons, List.length_map, List.length_take]; omega
  exact Nat.le_trans h (Nat.mul_le_mul_left _ h2)
theorem partsA_len : ∀ k : Nat, (partsA k).length ≤ 4
  | 0 | 1 | 2 | 3 | 4 | 5 | 6 | 7 | 8 | 9 => by decide
  | _ + 10 => by simp [partsA]
set_option maxRecDepth 100000 in
set_option maxHeartbeats 4000000 in
theorem ractText_any (a : ActP) (bv : Value) (w : World) (hk : K9 a) (h : Bs w bv a.bytes) (hi : InA a) (hl : a.bytes.length ≤ 2048) (E : Env w) :
    Calls Tryz.prog 34 #[actV a bv] w fun e w' => e = .returned (.string (str (actText a))) ∧ Below w.heap.size w w' := by
  have HV := Lib.hid h
  have HTL := fun q => told_len hi hl q
  have HFL := fun j => Nat.le_trans (firstA_len hi hl j) (Nat.mul_le_mul_left 4101 (Nat.add_le_add_left (partsA_len a.kind.toNat) 1))
  obtain ⟨A, c, rfl, -⟩ := h
  obtain ⟨W0, hW0⟩ : ∃ W0, w.alloc (.cells #[.int .i64 a.kind, .int .i64 a.node, .int .i64 a.port, .int .i64 a.cost, .int .i64 a.n, .bool a.up, .int .u8 (a.by_.toNat : Int), .bool a.unread, .slice A a.bytes.length c] 51) = W0 := ⟨_, rfl⟩
  have HB0 : Hid (Below w.heap.size w W0) := Lib.hid (by rw [← hW0]; exact (Below.refl _ _).alloc (Nat.le_refl _) _)
  have HX : Whole W0 w.heap.size 51 #[.int .i64 a.kind, .int .i64 a.node, .int .i64 a.port, .int .i64 a.cost, .int .i64 a.n, .bool a.up, .int .u8 (a.by_.toNat : Int), .bool a.unread, .slice A a.bytes.length c] := by rw [← hW0]; exact Whole.new w _ _
  have hlt1 := HX.lt
  have y0 : W0.cell? ⟨w.heap.size, 0, none⟩ = some (.int .i64 a.kind) := HX.cell 0
  have HXX := Lib.hid HX
  have EE := Lib.hid (E.here HB0.out)
  have HW0 := Lib.hid hW0
  have HN := Lib.hid (fun W => rname_in a.kind W hk.1 hk.2)
  have HP := Lib.hid (fun W => rparts_in a.kind W hk.1 hk.2)
  have hsp := str_size (lettersA a.kind.toNat)
  have hpl : (lettersA a.kind.toNat).length = (partsA a.kind.toNat).length := by unfold lettersA; simp
  have hp4 := partsA_len a.kind.toNat
  have HIA := Lib.hid hi
  clear hW0 HX
  go_enter Tryz.func34, Tryz.ntmps34
  go_upto_region 1 with fail
  rw [HW0.out]
  refine wp_region_ext (by kernel_rfl) (by kernel_rfl) ?_
  repeat (go_big_quiet_step (first | (go_at_call 81; exact Ext.call (HN.out _)) | (go_at_call 78; exact Ext.call (HP.out _))))
  refine wpQuiet_nil ?_
  rintro _ ⟨y, rfl⟩
  have HBy := Lib.hid (HB0.out.trans (y.below.mono HB0.out.size))
  go_wp2
  go_loopw [3, 5] (fun o i wr => ∃ j : Nat, j ≤ (partsA a.kind.toNat).length ∧ i = .int .i64 j ∧ o = .string (str (firstA a j)) ∧ Hid (Below W0.heap.size W0 wr)) (fun _ i _ => (partsA a.kind.toNat).length - (intOf i).toNat)
  case atStart => exact ⟨0, Nat.zero_le _, rfl, by unfold firstA; simp [Lib.join], Lib.hid y.below⟩
  case round =>
    obtain ⟨j, hj, rfl, rfl, HB⟩ := hrel
    by_cases hlt : j < (partsA a.kind.toNat).length
    · obtain ⟨q, hq⟩ : ∃ q, (partsA a.kind.toNat)[j]? = some q := ⟨_, List.getElem?_eq_getElem hlt⟩
      have hltL : j < (lettersA a.kind.toNat).length := by omega
      have hlt' := str_lt hltL
      have ej : (str (lettersA a.kind.toNat))[j]'hlt' = letter q := by
        rw [str_at _ j hltL]
        have : (lettersA a.kind.toNat)[j]? = some (letter q) := by unfold lettersA; rw [List.getElem?_map, hq]; rfl
        rw [List.getElem?_eq_getElem hltL] at this
        injection this
      have s1 := str_size (firstA a j)
      have s2 := HFL j
      have s3 := str_size (told a q)
      have s4 := HTL q
      have HNX := Lib.hid (firstA_next hq)
      have HWR := HXX.out.here HB.out
      have v0 : wr.cell? ⟨w.heap.size, 0, none⟩ = some (.int .i64 a.kind) := HWR.cell 0
      have v1 : wr.cell? ⟨w.heap.size, 1, none⟩ = some (.int .i64 a.node) := HWR.cell 1
      have v2 : wr.cell? ⟨w.heap.size, 2, none⟩ = some (.int .i64 a.port) := HWR.cell 2
      have v3 : wr.cell? ⟨w.heap.size, 3, none⟩ = some (.int .i64 a.cost) := HWR.cell 3
      have v4 : wr.cell? ⟨w.heap.size, 4, none⟩ = some (.int .i64 a.n) := HWR.cell 4
      have v5 : wr.cell? ⟨w.heap.size, 5, none⟩ = some (.bool a.up) := HWR.cell 5
      have v6 : wr.cell? ⟨w.heap.size, 6, none⟩ = some (.int .u8 (a.by_.toNat : Int)) := HWR.cell 6
      have v7 : wr.cell? ⟨w.heap.size, 7, none⟩ = some (.bool a.unread) := HWR.cell 7
      have v8 : wr.cell? ⟨w.heap.size, 8, none⟩ = some (.slice A a.bytes.length c) := HWR.cell 8
      have hltw := HWR.lt
      have HTO : Hid (∀ z : Ext wr, Calls Tryz.prog 82 #[.agg #[.int .i64 a.kind, .int .i64 a.node, .int .i64 a.port, .int .i64 a.cost, .int .i64 a.n, .bool a.up, .int .u8 (a.by_.toNat : Int), .bool a.unread, .slice A a.bytes.length c], .int .u8 (((str (lettersA a.kind.toNat))[j]'hlt').toNat : Int)] z.w fun e w' => e = .returned (.string (str (told a q))) ∧ Below z.w.heap.size z.w w') := Lib.hid (fun z => by
        rw [ej]
        exact rtold_any a _ q z.w (HV.out.below (HB0.out.trans ((HB.out.trans (z.below.mono HB.out.size)).mono HB0.out.size))) HIA.out (by omega) ((EE.out.here HB.out).here z.below))
      clear HWR ej hq
      go_wp2
      refine wp_region_ext (by kernel_rfl) (by kernel_rfl) ?_
      repeat (go_big_quiet_step (first | (go_at_call 82; exact Ext.call (HTO.out _))))
      refine wpQuiet_nil ?_
      rintro _ ⟨z, rfl⟩
      go_wp2
      go_roundw
      case rel => exact ⟨j + 1, by omega, by go_num, by rw [HNX.out]; show Value.string (str (firstA a j) ++ str [32] ++ str (told a q)) = _; rw [str_append, str_append, List.append_assoc]; rfl, Lib.hid (HB.out.trans (z.below.mono HB.out.size))⟩
      case measure => simp [intOf]; omega
    · obtain rfl : j = (partsA a.kind.toNat).length := by omega
      go_wp2
      go_ret
      exact ⟨by rw [firstA_all]; rfl, HB0.out.trans (HB.out.mono HB0.out.size)⟩
end Go.Proofs.YtfbangojgjcbcaaGreatDoor
namespace Go.Proofs.YtfbangojgjcbcaaGreatDoor
open Go.RowKit Pl
def setA (f : List UInt8 → Int) (w : List UInt8) (a : ActP) : Pt → ActP
  | .n => { a with node := f w }
  | .p => { a with port := f w }
  | .c => { a with cost := f w }
  | .i => { a with n := f w }
  | .b => { a with by_ := byteI (f w) }
  | .u => { a with up := decide (w = wUp) }
  | .r => { a with unread := decide (w = wUnread) }
  | .x => { a with bytes := unhexD w }
def buildA (f : List UInt8 → Int) (k : Int) (ws : List (List UInt8)) : Nat → ActP
  | 0 => { kind := k }
  | j + 1 => match (partsA k.toNat)[j]? with
    | some q => setA f (wd ws (1 + j)) (buildA f k ws j) q
    | none => buildA f k ws j
theorem buildA_next {f : List UInt8 → Int} {k : Int} {ws : List (List UInt8)} {j : Nat} {q : Pt} (h : (partsA k.toNat)[j]? = some q) : buildA f k ws (j + 1) = setA f (wd ws (1 + j)) (buildA f k ws j) q := by
  show (match (partsA k.toNat)[j]? with | some q => setA f (wd ws (1 + j)) (buildA f k ws j) q | none => buildA f k ws j) = _
  rw [h]
theorem buildA_all (f : List UInt8 → Int) {k : Int} (ws : List (List UInt8)) (h1 : 1 ≤ k) (h9 : k ≤ 9) : buildA f k ws (partsA k.toNat).length = guessA f k.toNat ws := by
  rcases (by omega : k = 1 ∨ k = 2 ∨ k = 3 ∨ k = 4 ∨ k = 5 ∨ k = 6 ∨ k = 7 ∨ k = 8 ∨ k = 9) with rfl | rfl | rfl | rfl | rfl | rfl | rfl | rfl | rfl <;> rfl
/-- Box b holds the act a, its bytes behind the box. -/
def BoxA (b : Nat) (a : ActP) (W : World) : Prop := ∃ bv, Whole W b 51 #[.int .i64 a.kind, .int .i64 a.node, .int .i64 a.port, .int .i64 a.cost, .int .i64 a.n, .bool a.up, .int .u8 (a.by_.toNat : Int), .bool a.unread, bv] ∧ Bs W bv a.bytes ∧ BlkFrom (b + 1) bv
theorem BoxA.lt {b : Nat} {a : ActP} {W : World} (h : BoxA b a W) : b < W.heap.size := by obtain ⟨_, h, _⟩ := h; exact h.lt
theorem BoxA.here {b : Nat} {a : ActP} {W W' : World} (h : BoxA b a W) (hb : Below W.heap.size W W') : BoxA b a W' := by
  obtain ⟨bv, h1, h2, h3⟩ := h
  exact ⟨bv, h1.here hb, h2.below hb, h3⟩
theorem BoxA.node {b : Nat} {a : ActP} {W : World} (h : BoxA b a W) (x : Int) : BoxA b { a with node := x } (W.setCell ⟨b, 1, none⟩ (.int .i64 x)) := by
  obtain ⟨bv, h1, h2, h3⟩ := h
  exact ⟨bv, by simpa using h1.set 1 (.int .i64 x), h2.far h3 (Nat.lt_succ_self _) _ _, h3⟩
theorem BoxA.port {b : Nat} {a : ActP} {W : World} (h : BoxA b a W) (x : Int) : BoxA b { a with port := x } (W.setCell ⟨b, 2, none⟩ (.int .i64 x)) := by
  obtain ⟨bv, h1, h2, h3⟩ := h
  exact ⟨bv, by simpa using h1.set 2 (.int .i64 x), h2.far h3 (Nat.lt_succ_self _) _ _, h3⟩
theorem BoxA.cost {b : Nat} {a : ActP} {W : World} (h : BoxA b a W) (x : Int) : BoxA b { a with cost := x } (W.setCell ⟨b, 3, none⟩ (.int .i64 x)) := by
  obtain ⟨bv, h1, h2, h3⟩ := h
  exact ⟨bv, by simpa using h1.set 3 (.int .i64 x), h2.far h3 (Nat.lt_succ_self _) _ _, h3⟩
theorem BoxA.n {b : Nat} {a : ActP} {W : World} (h : BoxA b a W) (x : Int) : BoxA b { a with n := x } (W.setCell ⟨b, 4, none⟩ (.int .i64 x)) := by
  obtain ⟨bv, h1, h2, h3⟩ := h
  exact ⟨bv, by simpa using h1.set 4 (.int .i64 x), h2.far h3 (Nat.lt_succ_self _) _ _, h3⟩
theorem BoxA.up {b : Nat} {a : ActP} {W : World} (h : BoxA b a W) (x : Bool) : BoxA b { a with up := x } (W.setCell ⟨b, 5, none⟩ (.bool x)) := by
  obtain ⟨bv, h1, h2, h3⟩ := h
  exact ⟨bv, by simpa using h1.set 5 (.bool x), h2.far h3 (Nat.lt_succ_self _) _ _, h3⟩
theorem BoxA.by_ {b : Nat} {a : ActP} {W : World} (h : BoxA b a W) (x : UInt8) : BoxA b { a with by_ := x } (W.setCell ⟨b, 6, none⟩ (.int .u8 (x.toNat : Int))) := by
  obtain ⟨bv, h1, h2, h3⟩ := h
  exact ⟨bv, by simpa using h1.set 6 (.int .u8 (x.toNat : Int)), h2.far h3 (Nat.lt_succ_self _) _ _, h3⟩
theorem BoxA.unread {b : Nat} {a : ActP} {W : World} (h : BoxA b a W) (x : Bool) : BoxA b { a with unread := x } (W.setCell ⟨b, 7, none⟩ (.bool x)) := by
  obtain ⟨bv, h1, h2, h3⟩ := h
  exact ⟨bv, by simpa using h1.set 7 (.bool x), h2.far h3 (Nat.lt_succ_self _) _ _, h3⟩
theorem BoxA.bytes {b : Nat} {a : ActP} {W : World} (h : BoxA b a W) (x : List UInt8) (v : Value) (hv : Bs W v x) (hf : BlkFrom (b + 1) v) : BoxA b { a with bytes := x } (W.setCell ⟨b, 8, none⟩ v) := by
  obtain ⟨bv, h1, h2, h3⟩ := h
  exact ⟨v, by simpa using h1.set 8 v, hv.far hf (Nat.lt_succ_self _) _ _, hf⟩
theorem BoxA.new (w : World) (k : Int) : BoxA w.heap.size { kind := k } (w.alloc (.cells #[.int .i64 k, .int .i64 0, .int .i64 0, .int .i64 0, .int .i64 0, .bool false, .int .u8 0, .bool false, .slice none 0 0] 51)) :=
  ⟨.slice none 0 0, by simpa using Whole.new w 51 _, Bs.nil _, BlkFrom.nil _⟩
end Go.Proofs.YtfbangojgjcbcaaGreatDoor
namespace Go.Proofs.YtfbangojgjcbcaaGreatDoor
open Go.RowKit Pl
/-- The inner loop: t digits read. -/
def UnPart (a b : UInt8) (t X : Nat) : Prop := (t = 0 ∧ X = 0) ∨ (t = 1 ∧ dig a = some X) ∨ (t = 2 ∧ ∃ p q, dig a = some p ∧ dig b = some q ∧ X = 16 * p + q)
theorem UnPart.small {a b : UInt8} {t X : Nat} (h : UnPart a b t X) (ht : t < 2) : X < 16 := by
  rcases h with ⟨_, h⟩ | ⟨_, h⟩ | ⟨h, _⟩
  · omega
  · exact dig_lt h
  · omega
theorem UnPart.le {a b : UInt8} {t X : Nat} (h : UnPart a b t X) : X < 256 := by
  rcases h with ⟨_, h⟩ | ⟨_, h⟩ | ⟨_, p, q, h1, h2, h⟩
  · omega
  · have := dig_lt h; omega
  · have := dig_lt h1; have := dig_lt h2; omega
theorem UnPart.step {a b c : UInt8} {t X d : Nat} (h : UnPart a b t X) (ht : t < 2) (hc : c = if t = 0 then a else b) (hd : dig c = some d) : UnPart a b (t + 1) (16 * X + d) := by
  rcases h with ⟨h0, h⟩ | ⟨h0, h⟩ | ⟨h0, _⟩
  · subst h0 h; simp at hc; subst hc; exact .inr (.inl ⟨rfl, by simpa using hd⟩)
  · subst h0; simp at hc; subst hc; exact .inr (.inr ⟨rfl, X, d, h, hd, rfl⟩)
  · omega
theorem dig_num {c : UInt8} (h0 : 48 ≤ c.toNat) (h1 : c.toNat ≤ 57) : dig c = some (c.toNat - 48) := by simp [dig, h0, h1]
theorem dig_let {c : UInt8} (h0 : 97 ≤ c.toNat) (h1 : c.toNat ≤ 102) : dig c = some (c.toNat - 87) := by
  unfold dig; rw [if_neg (by omega), if_pos ⟨h0, h1⟩]
theorem dig_not {c : UInt8} (h0 : ¬ (48 ≤ c.toNat ∧ c.toNat ≤ 57)) (h1 : ¬ (97 ≤ c.toNat ∧ c.toNat ≤ 102)) : dig c = none := by
  unfold dig; rw [if_neg h0, if_neg h1]
def RUnRes (l : List UInt8) (base : Nat) (e : Ending) (w' : World) : Prop :=
  (∃ m v, unhex l = some m ∧ e = .returned (.tuple #[v, .bool true]) ∧ w'.ownsRow base 5 1 v m.length (cellsB m)) ∨
  (unhex l = none ∧ e = .returned (.tuple #[.slice none 0 0, .bool false]))
set_option maxRecDepth 100000 in
set_option maxHeartbeats 1000000 in
theorem runhex_any (l : List UInt8) (w : World) (hl : l.length ≤ 1000000) :
    Calls Tryz.prog 86 #[.string (str l)] w fun e w' => RUnRes l w.heap.size e w' ∧ Below w.heap.size w w' := by
  have hsz : (str l).size = l.length := str_size l
  by_cases hev : l.length % 2 = 0
  · have dev : (((l.length : Int) % 2) != 0) = false := by simp; omega
    go_enter Tryz.func86, Tryz.ntmps86
    go_wp2
    go_loopw [4, 5] (fun v i wr => ∃ (j : Nat) (acc : List UInt8), 2 * j ≤ l.length ∧ acc.length = j ∧ Hid (UnInv l (2 * j) acc) ∧ i = .int .i64 ((2 * j : Nat) : Int) ∧ wr.ownsRow w.heap.size 5 1 v acc.length (cellsB acc) ∧ Below w.heap.size w wr) (fun _ i _ => l.length - (intOf i).toNat)
    case atStart => exact ⟨0, [], by omega, rfl, Lib.hid (UnInv.start l), rfl, World.ownsRow_nil _ _ _ _, Below.refl _ _⟩
    case round =>
      obtain ⟨j, acc, hj, hacc, HI, rfl, hown, hb⟩ := hrel
      have hbs := hb.size
      obtain ⟨i, hi⟩ : ∃ i, i = 2 * j := ⟨_, rfl⟩
      rw [← hi] at hj HI ⊢
      by_cases hlt : i < l.length
      · have hlt1 : i + 1 < l.length := by omega
        obtain ⟨a, ha⟩ : ∃ a, l[i]'hlt = a := ⟨_, rfl⟩
        obtain ⟨b, hb1⟩ : ∃ b, l[i + 1]'hlt1 = b := ⟨_, rfl⟩
        have HG := Lib.hid (fun p q => UnInv.good HI.out hlt1 ha hb1 (p := p) (q := q))
        have HN := Lib.hid (UnInv.bad HI.out hlt1 ha hb1)
        have HC : Hid (∀ t, t < 2 → ∃ (s : i + t < (str l).size), (str l)[i + t]'s = if t = 0 then a else b) := Lib.hid (by
          intro t ht
          have : t = 0 ∨ t = 1 := by omega
          rcases this with rfl | rfl
          · exact ⟨str_lt hlt, ha⟩
          · exact ⟨str_lt hlt1, hb1⟩)
        have d0 : (i : Int) < (l.length : Int) := by omega
        have hjl : acc.length ≤ 1000000 := by omega
        have HJ := Lib.hid hi
        clear ha hb1 HI hi
        go_wp2
        go_loop [6, 7] (fun x k => ∃ t X : Nat, t ≤ 2 ∧ k = .int .i64 ((i + t : Nat) : Int) ∧ x = .int .i64 (X : Int) ∧ UnPart a b t X) (fun _ k => i + 2 - (intOf k).toNat)
        case atStart => exact ⟨0, 0, by omega, rfl, rfl, .inl ⟨rfl, rfl⟩⟩
        case round =>
          obtain ⟨t, X, ht, rfl, rfl, HP⟩ := hrel
          by_cases ht2 : t < 2
          · obtain ⟨s, ec⟩ := HC.out t ht2
            obtain ⟨c, hc⟩ : ∃ c : UInt8, c = if t = 0 then a else b := ⟨_, rfl⟩
            rw [← hc] at ec
            have hX := HP.small ht2
            have hlt2 : ((i : Int) + (t : Int)) < (l.length : Int) := by omega
            have hcl : (c.toNat : Int) < 256 := by have := c.toNat_lt; omega
            by_cases hn : 48 ≤ c.toNat ∧ c.toNat ≤ 57
            · have HS := Lib.hid (HP.step ht2 hc (dig_num hn.1 hn.2))
              have e1 : (48 : Int) ≤ (c.toNat : Int) := by omega
              have e2 : (c.toNat : Int) ≤ 57 := by omega
              clear HP hc hn
              go_wp2
              exact ⟨⟨t + 1, 16 * X + (c.toNat - 48), by omega, by go_num, congrArg (Value.int .i64) (by omega), HS.out⟩, by simp [intOf]; omega⟩
            · by_cases hn2 : 97 ≤ c.toNat ∧ c.toNat ≤ 102
              · have HS := Lib.hid (HP.step ht2 hc (dig_let hn2.1 hn2.2))
                have e1 : (48 : Int) ≤ (c.toNat : Int) := by omega
                have e2 : decide ((c.toNat : Int) ≤ 57) = false := by simp; omega
                have e3 : (97 : Int) ≤ (c.toNat : Int) := by omega
                have e4 : (c.toNat : Int) ≤ 102 := by omega
                clear HP hc hn hn2
                go_wp2
                exact ⟨⟨t + 1, 16 * X + (c.toNat - 87), by omega, by go_num, congrArg (Value.int .i64) (by omega), HS.out⟩, by simp [intOf]; omega⟩
              · have HZ : Hid (unhex l = none) := Lib.hid (HN.out (by
                  have hd := dig_not hn hn2
                  rw [hc] at hd
                  by_cases h0 : t = 0
                  · rw [if_pos h0] at hd; exact .inl hd
                  · rw [if_neg h0] at hd; exact .inr hd))
                clear HP hc
                by_cases k1 : c.toNat < 48
                · have e1 : decide ((48 : Int) ≤ (c.toNat : Int)) = false := by simp; omega
                  have e3 : decide ((97 : Int) ≤ (c.toNat : Int)) = false := by simp; omega
                  clear hn hn2 k1
                  go_wp2
                  go_ret2
                  exact ⟨.inr ⟨HZ.out, rfl⟩, hb⟩
                · have e1 : (48 : Int) ≤ (c.toNat : Int) := by omega
                  have e2 : decide ((c.toNat : Int) ≤ 57) = false := by simp; omega
                  by_cases k2 : c.toNat < 97
                  · have e3 : decide ((97 : Int) ≤ (c.toNat : Int)) = false := by simp; omega
                    clear hn hn2 k1 k2
                    go_wp2
                    go_ret2
                    exact ⟨.inr ⟨HZ.out, rfl⟩, hb⟩
                  · have e3 : (97 : Int) ≤ (c.toNat : Int) := by omega
                    have e4 : decide ((c.toNat : Int) ≤ 102) = false := by simp; omega
                    clear hn hn2 k1 k2
                    go_wp2
                    go_ret2
                    exact ⟨.inr ⟨HZ.out, rfl⟩, hb⟩
          · obtain rfl : t = 2 := by omega
            have hX := HP.le
            obtain ⟨p, q, hp, hq, rfl⟩ : ∃ p q, dig a = some p ∧ dig b = some q ∧ X = 16 * p + q := by
              rcases HP with ⟨h, _⟩ | ⟨h, _⟩ | ⟨_, h⟩
              · omega
              · omega
              · exact h
            have HI2 := Lib.hid (HG.out p q hp hq)
            have hp1 := dig_lt hp
            have hq1 := dig_lt hq
            have e0 : decide (((i + 2 : Nat) : Int) < (i : Int) + 2) = false := by simp
            clear HP HG HN HC hp hq
            go_wp2_with (at_builtin; refine wpList_push rfl _ _ 37 rfl w.heap.size 5 info_u8 rfl (by decide) Tryz.underlying37 _ _ _ rfl hown rfl rfl (by omega) hbs ?_)
            intro v' w1 hown' hg
            rw [← hacc, show (16 * (p : Int) + (q : Int)) = ((UInt8.ofNat (16 * p + q)).toNat : Int) from by simp; omega] at hown'
            have R := unhex_rel hb hown hown' hg
            have HR := Lib.hid R.1
            have HR2 := Lib.hid R.2
            clear hown hown' hg hb R
            go_wp2
            go_roundw
            case rel => exact ⟨j + 1, _, by have := HJ.out; omega, by simp [hacc], Lib.hid (by have := HI2.out; rw [HJ.out] at this; exact this), by have := HJ.out; go_num, HR.out, HR2.out⟩
            case measure => simp [intOf]; omega
      · have hi' : i = l.length := by omega
        have HZ : Hid (unhex l = some acc) := Lib.hid (by have := HI.out; rw [hi'] at this; exact this.done)
        have d0 : decide ((i : Int) < (l.length : Int)) = false := by simp; omega
        clear HI hi
        go_wp2
        go_ret2
        exact ⟨.inl ⟨acc, _, HZ.out, rfl, hown⟩, hb⟩
  · have dev : (((l.length : Int) % 2) != 0) = true := by simp; omega
    have HZ := Lib.hid (unhex_odd l (by omega))
    go_enter Tryz.func86, Tryz.ntmps86
    go_wp2
    go_ret2
    exact ⟨.inr ⟨HZ.out, rfl⟩, Below.refl _ _⟩
end Go.Proofs.YtfbangojgjcbcaaGreatDoor
