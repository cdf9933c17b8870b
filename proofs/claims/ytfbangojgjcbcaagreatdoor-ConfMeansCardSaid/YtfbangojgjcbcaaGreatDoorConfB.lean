/- Contracts of conf: within, mayPort, the tests over lists of ports and prefixes. -/
import Derived.Test.YtfbangojgjcbcaaGreatDoorPlainG
import Derived.Test.YtfbangojgjcbcaaGreatDoorConfA
import Derived.Test.YtfbangojgjcbcaaGreatDoorCmp
import Derived.WalkMore
import Derived.Deep.LoopGhost
namespace Go.Proofs.YtfbangojgjcbcaaGreatDoor
open Go.RowKit Pl

set_option maxRecDepth 100000 in
theorem cwithin_any (n lo hi : Int) (w : World) : Calls Tryz.prog 69 #[.int .i64 n, .int .i64 lo, .int .i64 hi] w fun e w' => e = .returned (.bool (inI n lo hi)) ∧ w = w' := by
  by_cases h1 : lo ≤ n
  · by_cases h2 : n ≤ hi
    · have H : Hid (inI n lo hi = true) := Lib.hid (inI_iff.2 ⟨h1, h2⟩)
      go_enter Tryz.func69, Tryz.ntmps69
      go_wp2
      go_ret
      exact ⟨by rw [H.out]; rfl, rfl⟩
    · have H : Hid (inI n lo hi = false) := Lib.hid (Bool.eq_false_iff.2 fun h => h2 (inI_iff.1 h).2)
      have d : decide (n ≤ hi) = false := decide_eq_false h2
      clear h2
      go_enter Tryz.func69, Tryz.ntmps69
      go_wp2
      go_ret
      exact ⟨by rw [H.out]; rfl, rfl⟩
  · have H : Hid (inI n lo hi = false) := Lib.hid (Bool.eq_false_iff.2 fun h => h1 (inI_iff.1 h).1)
    have d : decide (lo ≤ n) = false := decide_eq_false h1
    clear h1
    go_enter Tryz.func69, Tryz.ntmps69
    go_wp2
    go_ret
    exact ⟨by rw [H.out]; rfl, rfl⟩
theorem cwithin_is {n lo hi : Int} {b : Bool} (h : inI n lo hi = b) (w : World) : Calls Tryz.prog 69 #[.int .i64 n, .int .i64 lo, .int .i64 hi] w fun e w' => e = .returned (.bool b) ∧ w = w' := by
  rw [← h]; exact cwithin_any n lo hi w

set_option maxRecDepth 100000 in
theorem mayPort_any (a b : Int) (w : World) : Calls Tryz.prog 67 #[.agg #[.int .i64 a, .int .i64 b]] w fun e w' => e = .returned (.bool (portOk (a, b))) ∧ Below w.heap.size w w' := by
  have H : Hid (portOk (a, b) = (inI a 1 50 && inI b 68 1500)) := Lib.hid rfl
  cases h1 : inI a 1 50 with
  | true =>
    rw [h1] at H
    go_enter Tryz.func67, Tryz.ntmps67
    go_wp2_with (go_at_call 69; refine (cwithin_any _ _ _ _).mono ?_; rintro e w' ⟨rfl, rfl⟩)
    go_ret
    exact ⟨by rw [H.out]; rfl, (Below.refl _ _).alloc (Nat.le_refl _) _⟩
  | false =>
    rw [h1] at H
    go_enter Tryz.func67, Tryz.ntmps67
    go_wp2_with (go_at_call 69; refine (cwithin_any _ _ _ _).mono ?_; rintro e w' ⟨rfl, rfl⟩)
    go_ret
    exact ⟨by rw [H.out]; rfl, (Below.refl _ _).alloc (Nat.le_refl _) _⟩

set_option maxRecDepth 100000 in
theorem may1_any (a b : Int) (w : World) :
    Calls Tryz.prog 66 #[.agg #[.int .i64 a, .int .i64 b]] w fun e w' => e = .returned (.bool (!portOk (a, b))) ∧ Below w.heap.size w w' := by
  go_enter Tryz.func66, Tryz.ntmps66
  go_wp2_with (go_at_call 67; refine (ext_of (mayPort_any _ _ _)).mono ?_; rintro e w' ⟨rfl, y, rfl⟩)
  go_ret
  exact ⟨rfl, (by repeat (first | exact Below.refl _ _ | apply Below.drew | apply below_drewN | apply bel_alloc | apply Ext.lift | apply bel_set0 | apply bel_set))⟩

set_option maxRecDepth 100000 in
set_option maxHeartbeats 1000000 in
/-- slices.IndexFunc over ports: is there one that f says yes to? -/
theorem idxO_any (f : Value) (b : Pr → Bool) (v : Value) (ps : List Pr) (w : World) (h : Rs .i64 w v ps) (hl : ps.length ≤ 1000000)
    (hf : ∃ g lb, f = .func (.func g) #[] lb ∧ (∀ args W, (callFunc g args).run Tryz.prog W = .ok (.enter g args) W) ∧ ∀ u : Pr, u ∈ ps → ∀ W, Below w.heap.size w W → Calls Tryz.prog g (#[.agg #[.int .i64 u.1, .int .i64 u.2]] ++ lb) W fun e W' => e = .returned (.bool (b u)) ∧ Below W.heap.size W W') :
    Calls Tryz.prog 131 #[v, f] w fun e w' => (∃ r : Int, e = .returned (.int .i64 r) ∧ decide (0 ≤ r) = ps.any b) ∧ Below w.heap.size w w' := by
  obtain ⟨g, lb, rfl, he, hf⟩ := hf
  have HE := Lib.hid he
  have HF := Lib.hid hf
  have HU := Lib.hid h
  obtain ⟨A, c, rfl, hc, _, _⟩ := h
  clear hf he
  go_enter Tryz.func131, Tryz.ntmps131
  go_wp2
  go_loopw [8] (fun i wr => ∃ j : Nat, j ≤ ps.length ∧ i = .int .i64 j ∧ Hid ((ps.take j).any b = false) ∧ Below w.heap.size w wr) (fun i _ => ps.length - (intOf i).toNat)
  case atStart => exact ⟨0, Nat.zero_le _, rfl, Lib.hid rfl, Below.refl _ _⟩
  case round =>
    obtain ⟨j, hj, rfl, HI, hb⟩ := hrel
    by_cases hlt : j < ps.length
    · obtain ⟨⟨ua, ub⟩, hu⟩ : ∃ u, ps[j]? = some u := ⟨_, List.getElem?_eq_getElem hlt⟩
      obtain ⟨bb, off, rfl, hbs, c0, c1⟩ := (HU.out.below hb).at hu
      simp only at c0 c1
      have HT : Hid ((ps.take (j + 1)).any b = ((ps.take j).any b || b (ua, ub))) := Lib.hid (by
        rw [List.take_add_one, hu]; simp)
      have HX : Hid (b (ua, ub) = true → ps.any b = true) := Lib.hid (fun hf => List.any_eq_true.2 ⟨_, List.mem_of_getElem? hu, hf⟩)
      have HC := Lib.hid (HF.out (ua, ub) (List.mem_of_getElem? hu) wr hb)
      clear hu
      cases hm : b (ua, ub) with
      | false =>
        have HT2 : Hid ((ps.take (j + 1)).any b = false) := Lib.hid (by rw [HT.out, HI.out]; exact hm)
        go_wp2_with (rw [HE.out]; show Calls _ _ _ _ _; refine (ext_of HC.out).mono ?_; rintro e w' ⟨rfl, y, rfl⟩)
        go_roundw
        case rel => exact ⟨j + 1, by omega, by go_num, HT2, Ext.lift y hb⟩
        case measure => simp [intOf]; omega
      | true =>
        have HZ : Hid (ps.any b = true) := Lib.hid (HX.out hm)
        go_wp2_with (rw [HE.out]; show Calls _ _ _ _ _; refine (ext_of HC.out).mono ?_; rintro e w' ⟨rfl, y, rfl⟩)
        go_ret
        exact ⟨⟨_, rfl, by rw [HZ.out]; simp⟩, Ext.lift y hb⟩
    · obtain rfl : j = ps.length := by omega
      have HZ : Hid (ps.any b = false) := Lib.hid (by have := HI.out; rwa [List.take_length] at this)
      go_wp2
      go_ret
      exact ⟨⟨_, rfl, by rw [HZ.out]; rfl⟩, hb⟩

set_option maxRecDepth 100000 in
theorem containsO_any (f : Value) (b : Pr → Bool) (v : Value) (ps : List Pr) (w : World) (h : Rs .i64 w v ps) (hl : ps.length ≤ 1000000)
    (hf : ∃ g lb, f = .func (.func g) #[] lb ∧ (∀ args W, (callFunc g args).run Tryz.prog W = .ok (.enter g args) W) ∧ ∀ u : Pr, u ∈ ps → ∀ W, Below w.heap.size w W → Calls Tryz.prog g (#[.agg #[.int .i64 u.1, .int .i64 u.2]] ++ lb) W fun e W' => e = .returned (.bool (b u)) ∧ Below W.heap.size W W') :
    Calls Tryz.prog 65 #[v, f] w fun e w' => e = .returned (.bool (ps.any b)) ∧ Below w.heap.size w w' := by
  have HI := Lib.hid (idxO_any f b v ps w h hl hf)
  go_enter Tryz.func65, Tryz.ntmps65
  go_wp2_with (go_at_call 131; refine HI.out.mono ?_; rintro e w' ⟨⟨r, rfl, hr⟩, hb⟩; have HR := Lib.hid hr; clear hr)
  go_ret
  exact ⟨by rw [← HR.out]; rfl, hb⟩
set_option maxRecDepth 100000 in
set_option maxHeartbeats 1000000 in
/-- slices.IndexFunc over prefixes: is there one that f says yes to? -/
theorem idxP_any (f : Value) (b : Pr → Bool) (v : Value) (ps : List Pr) (w : World) (h : Rs .u32 w v ps) (hl : ps.length ≤ 1000000)
    (hf : ∃ g lb, f = .func (.func g) #[] lb ∧ (∀ args W, (callFunc g args).run Tryz.prog W = .ok (.enter g args) W) ∧ ∀ u : Pr, u ∈ ps → ∀ W, Below w.heap.size w W → Calls Tryz.prog g (#[.agg #[.int .u32 u.1, .int .i64 u.2]] ++ lb) W fun e W' => e = .returned (.bool (b u)) ∧ Below W.heap.size W W') :
    Calls Tryz.prog 133 #[v, f] w fun e w' => (∃ r : Int, e = .returned (.int .i64 r) ∧ decide (0 ≤ r) = ps.any b) ∧ Below w.heap.size w w' := by
  obtain ⟨g, lb, rfl, he, hf⟩ := hf
  have HE := Lib.hid he
  have HF := Lib.hid hf
  have HU := Lib.hid h
  obtain ⟨A, c, rfl, hc, _, _⟩ := h
  clear hf he
  go_enter Tryz.func133, Tryz.ntmps133
  go_wp2
  go_loopw [8] (fun i wr => ∃ j : Nat, j ≤ ps.length ∧ i = .int .i64 j ∧ Hid ((ps.take j).any b = false) ∧ Below w.heap.size w wr) (fun i _ => ps.length - (intOf i).toNat)
  case atStart => exact ⟨0, Nat.zero_le _, rfl, Lib.hid rfl, Below.refl _ _⟩
  case round =>
    obtain ⟨j, hj, rfl, HI, hb⟩ := hrel
    by_cases hlt : j < ps.length
    · obtain ⟨⟨ua, ub⟩, hu⟩ : ∃ u, ps[j]? = some u := ⟨_, List.getElem?_eq_getElem hlt⟩
      obtain ⟨bb, off, rfl, hbs, c0, c1⟩ := (HU.out.below hb).at hu
      simp only at c0 c1
      have HT : Hid ((ps.take (j + 1)).any b = ((ps.take j).any b || b (ua, ub))) := Lib.hid (by
        rw [List.take_add_one, hu]; simp)
      have HX : Hid (b (ua, ub) = true → ps.any b = true) := Lib.hid (fun hf => List.any_eq_true.2 ⟨_, List.mem_of_getElem? hu, hf⟩)
      have HC := Lib.hid (HF.out (ua, ub) (List.mem_of_getElem? hu) wr hb)
      clear hu
      cases hm : b (ua, ub) with
      | false =>
        have HT2 : Hid ((ps.take (j + 1)).any b = false) := Lib.hid (by rw [HT.out, HI.out]; exact hm)
        go_wp2_with (rw [HE.out]; show Calls _ _ _ _ _; refine (ext_of HC.out).mono ?_; rintro e w' ⟨rfl, y, rfl⟩)
        go_roundw
        case rel => exact ⟨j + 1, by omega, by go_num, HT2, Ext.lift y hb⟩
        case measure => simp [intOf]; omega
      | true =>
        have HZ : Hid (ps.any b = true) := Lib.hid (HX.out hm)
        go_wp2_with (rw [HE.out]; show Calls _ _ _ _ _; refine (ext_of HC.out).mono ?_; rintro e w' ⟨rfl, y, rfl⟩)
        go_ret
        exact ⟨⟨_, rfl, by rw [HZ.out]; simp⟩, Ext.lift y hb⟩
    · obtain rfl : j = ps.length := by omega
      have HZ : Hid (ps.any b = false) := Lib.hid (by have := HI.out; rwa [List.take_length] at this)
      go_wp2
      go_ret
      exact ⟨⟨_, rfl, by rw [HZ.out]; rfl⟩, hb⟩

set_option maxRecDepth 100000 in
theorem containsP_any (f : Value) (b : Pr → Bool) (v : Value) (ps : List Pr) (w : World) (h : Rs .u32 w v ps) (hl : ps.length ≤ 1000000)
    (hf : ∃ g lb, f = .func (.func g) #[] lb ∧ (∀ args W, (callFunc g args).run Tryz.prog W = .ok (.enter g args) W) ∧ ∀ u : Pr, u ∈ ps → ∀ W, Below w.heap.size w W → Calls Tryz.prog g (#[.agg #[.int .u32 u.1, .int .i64 u.2]] ++ lb) W fun e W' => e = .returned (.bool (b u)) ∧ Below W.heap.size W W') :
    Calls Tryz.prog 70 #[v, f] w fun e w' => e = .returned (.bool (ps.any b)) ∧ Below w.heap.size w w' := by
  have HI := Lib.hid (idxP_any f b v ps w h hl hf)
  go_enter Tryz.func70, Tryz.ntmps70
  go_wp2_with (go_at_call 133; refine HI.out.mono ?_; rintro e w' ⟨⟨r, rfl, hr⟩, hb⟩; have HR := Lib.hid hr; clear hr)
  go_ret
  exact ⟨by rw [← HR.out]; rfl, hb⟩

set_option maxRecDepth 100000 in
theorem owns1_any (a n x : Int) (B : Nat) (w : World) (ha : IsAddr a) (hx : IsAddr x) (hc : w.cell? ⟨B, 0, none⟩ = some (.int .u32 x)) (hB : B < w.heap.size) :
    Calls Tryz.prog 71 #[.agg #[.int .u32 a, .int .i64 n], .pointer (some ⟨B, 0, none⟩)] w fun e w' => e = .returned (.bool (hasP a n x)) ∧ Below w.heap.size w w' := by
  have hc2 : (w.alloc (.cells #[.int .u32 a, .int .i64 n] 86)).cell? ⟨B, 0, none⟩ = some (.int .u32 x) := (World.cell?_alloc_lt _ _ _ hB).trans hc
  clear hc
  go_enter Tryz.func71, Tryz.ntmps71
  go_wp2_with (go_at_call 72; refine (ext_of (has_any _ _ _ _ ha hx)).mono ?_; rintro e w' ⟨rfl, y, rfl⟩)
  go_ret
  exact ⟨rfl, (by repeat (first | exact Below.refl _ _ | apply Below.drew | apply below_drewN | apply bel_alloc | apply Ext.lift | apply bel_set0 | apply bel_set))⟩
end Go.Proofs.YtfbangojgjcbcaaGreatDoor
