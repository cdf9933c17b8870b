/- slices.Clone, slices.ContainsFunc over sizes, wire.Cut. -/
import Derived.Test.YteafakpipbhioaaDoorPartsB
import Derived.Test.YteafakpipbhioaaDoorHexR
namespace Go.Proofs.YteafakpipbhioaaDoor
open Go.RowKit Pl

/-- The slice value v reads as the numbers zs in world w. -/
def Ns (w : World) (v : Value) (zs : List Int) : Prop :=
  ∃ (A : Option Addr) (c : Nat), v = .slice A zs.length c ∧ zs.length ≤ c ∧ (A = none → c = 0) ∧
    (0 < zs.length → ∃ b off, A = some ⟨b, off, none⟩ ∧ b < w.heap.size ∧ ∀ j z, zs[j]? = some z → w.cell? ⟨b, off + j, none⟩ = some (.int .i64 z))
theorem Ns.below {w w' : World} {v : Value} {zs : List Int} (h : Ns w v zs) (hb : Below w.heap.size w w') : Ns w' v zs := by
  obtain ⟨A, c, rfl, hc, hn, hA⟩ := h
  refine ⟨A, c, rfl, hc, hn, fun hp => ?_⟩
  obtain ⟨b, off, rfl, hlt, hcell⟩ := hA hp
  exact ⟨b, off, rfl, Nat.lt_of_lt_of_le hlt hb.size, fun j z hz => (hb.cell (show b < _ from hlt)).trans (hcell j z hz)⟩

set_option maxRecDepth 100000 in
theorem clone_any (v : Value) (l : List UInt8) (w : World) (h : Bs w v l) (hl : l.length ≤ 1000000) :
    Calls Tryd.prog 86 #[v] w fun e w' => (∃ x, e = .returned x ∧ w'.ownsRow w.heap.size 5 1 x l.length (cellsB l)) ∧ Below w.heap.size w w' := by
  have HB := Lib.hid h
  obtain ⟨A, c, rfl, hc, hn, hA⟩ := h
  have heq := fun (w : World) (a : Option Addr) (n c : Nat) => Lib.run_eql_slice_nil (P := Tryd.prog) w 23 5 a n c 0 0 Tryd.underlying23
  cases A with
  | none =>
    have h0 : l = [] := List.eq_nil_of_length_eq_zero (by have := hn rfl; omega)
    subst h0
    go_enter Tryd.func86, Tryd.ntmps86
    go_wp2
    go_ret
    exact ⟨⟨_, rfl, World.ownsRow_nil _ _ _ _⟩, Below.refl _ _⟩
  | some a =>
    have HO : Hid ((w.alloc (.cells #[] 5)).ownsRow w.heap.size 5 1 (.slice (some ⟨w.heap.size, 0, none⟩) 0 0) 0 (cellsB [])) := Lib.hid ⟨rfl, .inr ⟨w.heap.size, 0, #[], rfl, Nat.le_refl _, heap_alloc_new _ _, Nat.le_refl _, by unfold maxLen; omega, rfl, rfl⟩⟩
    go_enter Tryd.func86, Tryd.ntmps86
    go_wp2_with (at_builtin; refine wpList_cat rfl (.tmp 5) (.tmp 6) rfl w.heap.size _ 0 [] rfl HO.out _ l rfl (HB.out.alloc _) (by omega) (by simp) ?_)
    intro v' w2 hown2 hg
    have hb2 := (bel_alloc (Below.refl _ w) (.cells #[] 5)).grown hg (by simp) fun g hg => (HO.out.lt g hg).1
    go_wp2
    go_ret
    exact ⟨⟨_, rfl, by simpa using hown2⟩, hb2⟩

/-! ### Sizes -/
def neg (zs : List Int) : Bool := zs.any fun z => decide (z < 0)
theorem neg_false {zs : List Int} (h : neg zs = false) {j : Nat} {z : Int} (hz : zs[j]? = some z) : 0 ≤ z := by
  rcases Int.lt_or_le z 0 with h0 | h0
  · exfalso
    have : neg zs = true := List.any_eq_true.2 ⟨z, List.mem_of_getElem? hz, by simpa using h0⟩
    rw [h] at this; cases this
  · exact h0
set_option maxRecDepth 100000 in
theorem cut1_any (z : Int) (w : World) : Calls Tryd.prog 85 #[.int .i64 z] w fun e w' => e = .returned (.bool (decide (z < 0))) ∧ w = w' := by
  go_enter Tryd.func85, Tryd.ntmps85
  go_wp2
  go_ret
  exact ⟨rfl, rfl⟩
set_option maxRecDepth 100000 in
set_option maxHeartbeats 1000000 in
theorem idxN_any (v : Value) (zs : List Int) (w : World) (h : Ns w v zs) (hl : zs.length ≤ 1000000) :
    Calls Tryd.prog 102 #[v, .func (.func 85) #[] #[]] w fun e w' => (∃ r : Int, e = .returned (.int .i64 r) ∧ decide (0 ≤ r) = neg zs) ∧ Below w.heap.size w w' := by
  have HU := Lib.hid h
  obtain ⟨A, c, rfl, hc, _, _⟩ := h
  go_enter Tryd.func102, Tryd.ntmps102
  go_wp2
  go_loopw [8] (fun i wr => ∃ j : Nat, j ≤ zs.length ∧ i = .int .i64 j ∧ Hid (neg (zs.take j) = false) ∧ Below w.heap.size w wr) (fun i _ => zs.length - (intOf i).toNat)
  case atStart => exact ⟨0, Nat.zero_le _, rfl, Lib.hid rfl, Below.refl _ _⟩
  case round =>
    obtain ⟨j, hj, rfl, HI, hb⟩ := hrel
    by_cases hlt : j < zs.length
    · obtain ⟨A', c', hv, _, _, hB⟩ := HU.out.below hb
      injection hv with hv1 hv2 hv3
      subst hv1 hv3
      obtain ⟨b, off, rfl, hbs, hcell⟩ := hB (by omega)
      obtain ⟨z, hz⟩ : ∃ z, zs[j]? = some z := ⟨_, List.getElem?_eq_getElem hlt⟩
      have c0 := hcell j z hz
      clear hcell hB hv2
      have HT : Hid (neg (zs.take (j + 1)) = (neg (zs.take j) || decide (z < 0))) := Lib.hid (by
        unfold neg; rw [List.take_add_one, hz]; simp)
      have HX : Hid (z < 0 → neg zs = true) := Lib.hid (fun hf => List.any_eq_true.2 ⟨z, List.mem_of_getElem? hz, by simpa using hf⟩)
      clear hz
      by_cases hm : z < 0
      · have HZ : Hid (neg zs = true) := Lib.hid (HX.out hm)
        go_wp2_with (go_at_call 85; refine (cut1_any _ _).mono ?_; rintro e w' ⟨rfl, rfl⟩)
        go_ret
        exact ⟨⟨_, rfl, by rw [HZ.out]; simp⟩, hb⟩
      · have hm' : decide (z < 0) = false := by simpa using hm
        have HT2 : Hid (neg (zs.take (j + 1)) = false) := Lib.hid (by rw [HT.out, HI.out, hm']; rfl)
        go_wp2_with (go_at_call 85; refine (cut1_any _ _).mono ?_; rintro e w' ⟨rfl, rfl⟩)
        go_roundw
        case rel => exact ⟨j + 1, by omega, by go_num, HT2, hb⟩
        case measure => simp [intOf]; omega
    · obtain rfl : j = zs.length := by omega
      have HZ : Hid (neg zs = false) := Lib.hid (by have := HI.out; rwa [List.take_length] at this)
      go_wp2
      go_ret
      exact ⟨⟨_, rfl, by rw [HZ.out]; rfl⟩, hb⟩
set_option maxRecDepth 100000 in
theorem containsN_any (v : Value) (zs : List Int) (w : World) (h : Ns w v zs) (hl : zs.length ≤ 1000000) :
    Calls Tryd.prog 84 #[v, .func (.func 85) #[] #[]] w fun e w' => e = .returned (.bool (neg zs)) ∧ Below w.heap.size w w' := by
  have HI := Lib.hid (idxN_any v zs w h hl)
  go_enter Tryd.func84, Tryd.ntmps84
  go_wp2_with (go_at_call 102; refine HI.out.mono ?_; rintro e w' ⟨⟨r, rfl, hr⟩, hb⟩; have HR := Lib.hid hr; clear hr)
  go_ret
  exact ⟨by rw [← HR.out]; rfl, hb⟩

theorem run_slice3 (A : Option Addr) (r c n : Nat) (h : n ≤ c) (w : World) :
    (Instr.slice 23 (.slice A r c) none (some (.int .i64 (n : Int))) (some (.int .i64 (n : Int)))).run Tryd.prog w = .ok (.slice A n n) w := by
  have h1 : (0 : Int) ≤ n := by omega
  have h2 : (n : Int) ≤ c := by omega
  have h3 : A.map (fun a : Addr => a.add 0) = A := by cases A <;> simp [Addr.add]
  have ha : ∀ w, Sem.run Tryd.prog (asIntOf (Value.int .i64 (n : Int))) w = .ok (.i64, (n : Int)) w := fun _ => rfl
  simp [Instr.slice, Instr.sliceBounds, Instr.sliceBound, run_underlying Tryd.underlying23, ha, h2, h3, sizeOf]
theorem run_sliceLow (A : Option Addr) (r c n : Nat) (h : n ≤ r) (w : World) :
    (Instr.slice 23 (.slice A r c) (some (.int .i64 (n : Int))) none none).run Tryd.prog w = .ok (.slice (if c = n then A else A.map (·.add n)) (r - n) (c - n)) w := by
  have h2 : (n : Int) ≤ r := by omega
  have ha : ∀ w, Sem.run Tryd.prog (asIntOf (Value.int .i64 (n : Int))) w = .ok (.i64, (n : Int)) w := fun _ => rfl
  obtain ⟨i0, hi, hz0, hz1, hz2⟩ := info_parts info_u8
  simp [Instr.slice, Instr.sliceBounds, Instr.sliceBound, run_underlying Tryd.underlying23, ha, h2, sizeOf, typeInfo, hi, hz1]
end Go.Proofs.YteafakpipbhioaaDoor
