/- Contracts: wire.Put, wire.Get, the references' Put, Room, Get, and num. -/
import Derived.Test.YteafakpipbhioaaDoorPlainN
import Derived.Test.YteafakpipbhioaaDoorBase
namespace Go.Proofs.YteafakpipbhioaaDoor
open Go.RowKit Go.Deep Pl

theorem num_any (n : Int) (w : World) : Calls Tryd.prog 20 #[.int .i64 n] w fun e w' => e = .returned (.int .i64 n) ∧ w = w' := by
  go_enter Tryd.func20, Tryd.ntmps20
  go_wp2
  go_ret
  exact ⟨rfl, rfl⟩

theorem put_rel {w wr w1 : World} {n k j : Nat} {v v' : Value} (hj : j < k) (hb : Below w.heap.size w wr) (hown : wr.ownsRow w.heap.size 5 1 v j (cellsB ((putB n k).take j)))
    (hown' : w1.ownsRow w.heap.size 5 1 v' (j + 1) (cellsB ((putB n k).take j) ++ [.int .u8 ((n : Int) / 2 ^ (8 * (k - 1 - j)) % 256)])) (hg : wr.grownBy w1 v.ownBlock) :
    w1.ownsRow w.heap.size 5 1 v' (j + 1) (cellsB ((putB n k).take (j + 1))) ∧ Below w.heap.size w w1 := by
  constructor
  · rw [putB_take n k j hj, cellsB_append]
    have : cellsB [UInt8.ofNat (n / 2 ^ (8 * (k - 1 - j)))] = [.int .u8 ((n : Int) / 2 ^ (8 * (k - 1 - j)) % 256)] := by
      simp [cellsB]
    rw [this]; exact hown'
  · exact hb.grown hg hb.size fun g hg => (hown.lt g hg).1

set_option maxRecDepth 100000 in
set_option maxHeartbeats 400000 in
theorem put_ok (n k : Nat) (w : World) (h0 : 1 ≤ k) (h1 : k ≤ 8) (hr : n / 2 ^ (8 * k) = 0) :
    Calls Tryd.prog 17 #[.int .u64 n, .int .i64 k] w fun e w' => ∃ v, e = .returned (.tuple #[v, .int .i64 0]) ∧ w'.ownsRow w.heap.size 5 1 v k (cellsB (putB n k)) ∧ Below w.heap.size w w' := by
  have d1 : decide ((k : Int) < 1) = false := by simp; omega
  have d2 : decide (8 < (k : Int)) = false := by simp; omega
  have d3 : k < 8 → ((n : Int) / 2 ^ (8 * k) != 0) = false := by
    intro _; simp only [bne_eq_false_iff_eq]; exact_mod_cast hr
  clear hr
  by_cases hk : k < 8
  · have d4 := d3 hk
    clear d3
    go_enter Tryd.func17, Tryd.ntmps17
    go_wp2
    go_loopw [6, 26] (fun v i wr => ∃ j : Nat, j ≤ k ∧ i = .int .i64 j ∧ wr.ownsRow w.heap.size 5 1 v j (cellsB ((putB n k).take j)) ∧ Below w.heap.size w wr) (fun _ i _ => k - (intOf i).toNat)
    case atStart => exact ⟨0, Nat.zero_le _, rfl, by simpa [cellsB] using World.ownsRow_nil _ _ _ _, Below.refl _ _⟩
    case round =>
      obtain ⟨j, hj, rfl, hown, hb⟩ := hrel
      by_cases hlt : j < k
      · have hbs := hb.size
        go_wp2_with (at_builtin; refine wpList_push rfl _ _ 23 rfl w.heap.size 5 info_u8 rfl (by decide) Tryd.underlying23 _ _ _ rfl hown rfl rfl (by omega) hbs ?_; intro v' w1 hown' hg)
        have R := put_rel hlt hb hown hown' hg
        clear hown hown' hg hb
        go_wp2
        go_roundw
        case rel => exact ⟨j + 1, by omega, by go_num, R.1, R.2⟩
        case measure => simp [intOf]; omega
      · obtain rfl : j = k := by omega
        rw [List.take_of_length_le (by rw [putB_length]; exact Nat.le_refl _)] at hown
        go_wp2
        go_ret2
        exact ⟨_, rfl, hown, hb⟩
  · have d4 : decide ((k : Int) < 8) = false := by simp; omega
    clear d3
    go_enter Tryd.func17, Tryd.ntmps17
    go_wp2
    go_loopw [6, 26] (fun v i wr => ∃ j : Nat, j ≤ k ∧ i = .int .i64 j ∧ wr.ownsRow w.heap.size 5 1 v j (cellsB ((putB n k).take j)) ∧ Below w.heap.size w wr) (fun _ i _ => k - (intOf i).toNat)
    case atStart => exact ⟨0, Nat.zero_le _, rfl, by simpa [cellsB] using World.ownsRow_nil _ _ _ _, Below.refl _ _⟩
    case round =>
      obtain ⟨j, hj, rfl, hown, hb⟩ := hrel
      by_cases hlt : j < k
      · have hbs := hb.size
        go_wp2_with (at_builtin; refine wpList_push rfl _ _ 23 rfl w.heap.size 5 info_u8 rfl (by decide) Tryd.underlying23 _ _ _ rfl hown rfl rfl (by omega) hbs ?_; intro v' w1 hown' hg)
        have R := put_rel hlt hb hown hown' hg
        clear hown hown' hg hb
        go_wp2
        go_roundw
        case rel => exact ⟨j + 1, by omega, by go_num, R.1, R.2⟩
        case measure => simp [intOf]; omega
      · obtain rfl : j = k := by omega
        rw [List.take_of_length_le (by rw [putB_length]; exact Nat.le_refl _)] at hown
        go_wp2
        go_ret2
        exact ⟨_, rfl, hown, hb⟩

set_option maxRecDepth 100000 in
theorem put_err (n : Nat) (k : Int) (w : World) (hn : n < 18446744073709551616) (h : roomB n k = false) :
    Calls Tryd.prog 17 #[.int .u64 n, .int .i64 k] w fun e w' => e = .returned (.tuple #[.slice none 0 0, .int .i64 2]) ∧ w = w' := by
  by_cases h1 : k < 1
  · clear h hn
    go_enter Tryd.func17, Tryd.ntmps17
    go_wp2
    go_ret2
    exact ⟨rfl, rfl⟩
  by_cases h2 : 8 < k
  · clear h hn
    go_enter Tryd.func17, Tryd.ntmps17
    go_wp2
    go_ret2
    exact ⟨rfl, rfl⟩
  obtain ⟨m, rfl⟩ := Int.eq_ofNat_of_zero_le (show 0 ≤ k by omega)
  have h3 : ¬ n / 2 ^ (8 * m) = 0 := by
    intro h3
    have : roomB n (m : Int) = true := by simp [roomB, fits, h3]; omega
    rw [this] at h; cases h
  clear h
  have hm8 : m < 8 ∨ m = 8 := by omega
  have d1 : decide ((m : Int) < 1) = false := by simp; omega
  have d2 : decide (8 < (m : Int)) = false := by simp; omega
  have h4 : m < 8 := by
    rcases hm8 with h | h
    · exact h
    · subst h; exfalso; exact h3 (Nat.div_eq_of_lt (by simpa using hn))
  have d3 : ((n : Int) / 2 ^ (8 * m) != 0) = true := by
    simp only [bne_iff_ne]; exact_mod_cast h3
  clear h3 hm8 h1 h2 hn
  go_enter Tryd.func17, Tryd.ntmps17
  go_wp2
  go_ret2
  exact ⟨rfl, rfl⟩

theorem or_u64 (a : Nat) (b : UInt8) (ha : a < 72057594037927936) : bits .or .u64 ((a : Int) * 256) (b.toNat : Int) = ((a * 256 + b.toNat : Nat) : Int) := by
  have hb := b.toNat_lt
  have := u64_or_nat (a * 256) b.toNat (by omega) (by omega)
  rw [or_low a b.toNat (by omega)] at this
  rw [← this]
  simp

theorem getB_take (l : List UInt8) (j : Nat) (hj : j < l.length) (h8 : l.length ≤ 8) : getB (l.take j) < 72057594037927936 ∧ getB (l.take (j + 1)) = getB (l.take j) * 256 + l[j].toNat := by
  constructor
  · have h := getB_lt (l.take j)
    have h2 : 256 ^ (l.take j).length ≤ 256 ^ 7 := Nat.pow_le_pow_right (by decide) (by simp; omega)
    have h3 : (256 : Nat) ^ 7 = 72057594037927936 := by decide
    omega
  · rw [List.take_succ_eq_append_getElem hj, getB_snoc]

set_option maxRecDepth 100000 in
set_option maxHeartbeats 400000 in
theorem get_ok (l : List UInt8) (v : Value) (w : World) (h : Bs w v l) (h0 : 1 ≤ l.length) (h1 : l.length ≤ 8) :
    Calls Tryd.prog 21 #[v] w fun e w' => e = .returned (.tuple #[.int .u64 (getB l), .int .i64 0]) ∧ w = w' := by
  have d1 : decide ((l.length : Int) < 1) = false := by simp; omega
  have d2 : decide (8 < (l.length : Int)) = false := by simp; omega
  obtain ⟨A, c, rfl, hc, _, hA⟩ := h
  obtain ⟨b, off, rfl, hbs, hcell⟩ := hA (by omega)
  clear hA
  have HC := Lib.hid hcell; clear hcell
  go_enter Tryd.func21, Tryd.ntmps21
  go_wp2
  go_loop [4, 17] (fun n i => ∃ j : Nat, j ≤ l.length ∧ i = .int .i64 j ∧ n = .int .u64 (getB (l.take j))) (fun _ i => l.length - (intOf i).toNat)
  case atStart => exact ⟨0, Nat.zero_le _, rfl, rfl⟩
  case round =>
    obtain ⟨j, hj, rfl, rfl⟩ := hrel
    by_cases hlt : j < l.length
    · have hcj : w.cell? ⟨b, off + j, none⟩ = some (.int .u8 (l[j].toNat : Int)) := HC.out j _ (by simp [cellsB, hlt])
      have hg := getB_take l j hlt h1
      have hlb := hg.1
      have HG := Lib.hid hg.2; clear hg
      have hx : (l[j].toNat : Int) < 256 := by have := l[j].toNat_lt; omega
      go_wp2
      go_round
      case rel => exact ⟨j + 1, by omega, by go_num, by rw [HG.out, or_u64 _ _ hlb]⟩
      case measure => simp [intOf]; omega
    · obtain rfl : j = l.length := by omega
      rw [List.take_length]
      go_wp2
      go_ret2
      exact ⟨rfl, rfl⟩

theorem get_err (v : Value) (l : List UInt8) (w : World) (h : Bs w v l) (h0 : l.length < 1 ∨ 8 < l.length) :
    Calls Tryd.prog 21 #[v] w fun e w' => e = .returned (.tuple #[.int .u64 0, .int .i64 2]) ∧ w = w' := by
  obtain ⟨A, c, rfl, hc, _, hA⟩ := h
  clear hA
  rcases h0 with h0 | h0
  · have h0' : (l.length : Int) < 1 := by omega
    clear h0
    go_enter Tryd.func21, Tryd.ntmps21
    go_wp2
    go_ret2
    exact ⟨rfl, rfl⟩
  · have h0' : 8 < (l.length : Int) := by omega
    have d1 : decide ((l.length : Int) < 1) = false := by simp; omega
    clear h0
    go_enter Tryd.func21, Tryd.ntmps21
    go_wp2
    go_ret2
    exact ⟨rfl, rfl⟩

set_option maxRecDepth 100000 in
set_option maxHeartbeats 400000 in
theorem rget (l : List UInt8) (v : Value) (w : World) (h : Bs w v l) (h0 : 1 ≤ l.length) (h1 : l.length ≤ 8) :
    Calls Tryd.prog 22 #[v] w fun e w' => e = .returned (.int .u64 (getB l)) ∧ w = w' := by
  obtain ⟨A, c, rfl, hc, _, hA⟩ := h
  obtain ⟨b, off, rfl, hbs, hcell⟩ := hA (by omega)
  clear hA
  have HC := Lib.hid hcell; clear hcell
  go_enter Tryd.func22, Tryd.ntmps22
  go_wp2
  go_loop [3, 4] (fun n i => ∃ j : Nat, j ≤ l.length ∧ i = .int .i64 j ∧ n = .int .u64 (getB (l.take j))) (fun _ i => l.length - (intOf i).toNat)
  case atStart => exact ⟨0, Nat.zero_le _, rfl, rfl⟩
  case round =>
    obtain ⟨j, hj, rfl, rfl⟩ := hrel
    by_cases hlt : j < l.length
    · have hcj : w.cell? ⟨b, off + j, none⟩ = some (.int .u8 (l[j].toNat : Int)) := HC.out j _ (by simp [cellsB, hlt])
      have hg := getB_take l j hlt h1
      have hlb := hg.1
      have HG := Lib.hid hg.2; clear hg
      have hx : (l[j].toNat : Int) < 256 := by have := l[j].toNat_lt; omega
      go_wp2
      go_round
      case rel => exact ⟨j + 1, by omega, by go_num, by rw [HG.out]; rfl⟩
      case measure => simp [intOf]; omega
    · obtain rfl : j = l.length := by omega
      rw [List.take_length]
      go_wp2
      go_ret
      exact ⟨rfl, rfl⟩

theorem rput_step {w wr : World} {n k m q : Nat} (hlt : m < k) (hq : q = n / 2 ^ (8 * m)) (hown : wr.ownsRow w.heap.size 5 1 (.slice (some ⟨w.heap.size, 0, none⟩) k k) k (cellsB (List.replicate (k - m) 0 ++ (putB n k).drop (k - m)))) (hb : Below w.heap.size w wr) :
    (wr.setCell ⟨w.heap.size, k - 1 - m, none⟩ (.int .u8 ((q : Int) % 256))).ownsRow w.heap.size 5 1 (.slice (some ⟨w.heap.size, 0, none⟩) k k) k (cellsB (List.replicate (k - (m + 1)) 0 ++ (putB n k).drop (k - (m + 1)))) ∧
    Below w.heap.size w (wr.setCell ⟨w.heap.size, k - 1 - m, none⟩ (.int .u8 ((q : Int) % 256))) := by
  refine ⟨?_, hb.setCell (Nat.le_refl _) _⟩
  have h := (hown.stored (k - 1 - m) (.int .u8 ((q : Int) % 256))).1
  have e : (cellsB (List.replicate (k - m) 0 ++ (putB n k).drop (k - m))).set (k - 1 - m) (.int .u8 ((q : Int) % 256)) = cellsB (List.replicate (k - (m + 1)) 0 ++ (putB n k).drop (k - (m + 1))) := by
    have e1 : k - m = (k - (m + 1)) + 1 := by omega
    have e2 : k - 1 - m = k - (m + 1) := by omega
    rw [putB_drop n k (k - (m + 1)) (by omega), e1, e2]
    generalize hz : k - (m + 1) = z
    have e3 : k - 1 - z = m := by omega
    rw [e3, ← hq, List.replicate_succ']
    simp only [cellsB, List.map_append, List.map_cons, List.append_assoc, List.singleton_append]
    rw [List.set_append_right _ _ (by simp)]
    simp
  rw [e] at h
  exact h

set_option maxRecDepth 100000 in
set_option maxHeartbeats 400000 in
theorem rput (n k : Nat) (w : World) (hn : n < 18446744073709551616) (h0 : 1 ≤ k) (h1 : k ≤ 8) :
    Calls Tryd.prog 19 #[.int .u64 n, .int .i64 k] w fun e w' => ∃ v, e = .returned v ∧ w'.ownsRow w.heap.size 5 1 v k (cellsB (putB n k)) ∧ Below w.heap.size w w' := by
  have HN := Lib.hid hn; clear hn
  have hmk := fun W => run_make_row' (P := Tryd.prog) 23 5 (.int .u8 0) 1 Tryd.underlying23 info_u8 rfl .i64 .i64 k (by omega) (by omega) W
  go_enter Tryd.func19, Tryd.ntmps19
  go_wp2
  go_loopw [0, 6] (fun x i wr => ∃ m q : Nat, m ≤ k ∧ i = .int .i64 ((k : Int) - 1 - m) ∧ x = .int .u64 (q : Int) ∧ Hid (q = n / 2 ^ (8 * m)) ∧ wr.ownsRow w.heap.size 5 1 (.slice (some ⟨w.heap.size, 0, none⟩) k k) k (cellsB (List.replicate (k - m) 0 ++ (putB n k).drop (k - m))) ∧ Below w.heap.size w wr) (fun _ i _ => (intOf i + 1).toNat)
  case atStart =>
    refine ⟨0, n, Nat.zero_le _, by simp, rfl, Lib.hid (by simp), ?_, (Below.refl _ _).alloc (Nat.le_refl _) _⟩
    have := World.ownsRow_lit (base := w.heap.size) (e := 5) (size := 1) w (madeCells #[.int .u8 0] k) k (Nat.le_refl _) (by unfold maxLen; omega) (by simp [madeCells])
    rw [toList_madeCells_one] at this
    rw [Nat.sub_zero, List.drop_of_length_le (by rw [putB_length]; exact Nat.le_refl _), List.append_nil]
    simpa [cellsB] using this
  case round =>
    obtain ⟨m, q, hm, rfl, rfl, HQ, hown, hb⟩ := hrel
    by_cases hlt : m < k
    · have hcell : wr.cell? ⟨w.heap.size, k - 1 - m, none⟩ = some (.int .u8 0) := by
        rw [hown.cellAt _ (by omega)]; simp only [cellsB, List.map_append]; rw [List.getElem?_append_left (by simp; omega), List.getElem?_map, List.getElem?_replicate, if_pos (by omega)]; rfl
      have hfr : wr.frozen? ⟨w.heap.size, k - 1 - m, none⟩ = false := hown.frozenAt _
      have R := rput_step hlt HQ.out hown hb
      have hz : q / 256 < 18446744073709551616 := by have := HQ.out; have := HN.out; have := Nat.div_le_self n (2 ^ (8 * m)); omega
      have HZ := Lib.hid hz; clear hz
      go_wp2
      go_roundw
      case rel =>
        refine ⟨m + 1, q / 256, by omega, by go_num, ?_, Lib.hid ?_, R.1, R.2⟩
        · have := HZ.out
          rw [IntKind.wrap_u64, show ((q : Int) / 256 % 18446744073709551616) = ((q / 256 : Nat) : Int) by omega]
        · rw [HQ.out, Nat.div_div_eq_div_mul, show 8 * (m + 1) = 8 * m + 8 by omega, Nat.pow_add]
      case measure => simp [intOf]; omega
    · obtain rfl : m = k := by omega
      have hge : decide (0 ≤ (m : Int) - 1 - m) = false := by simp; omega
      simp only [Nat.sub_self, List.replicate_zero, List.drop_zero, List.nil_append] at hown
      go_wp2
      go_ret
      exact ⟨_, rfl, hown, hb⟩

theorem rroom_no (n : Nat) (k : Int) (w : World) (h : k < 1 ∨ 8 < k) :
    Calls Tryd.prog 18 #[.int .u64 n, .int .i64 k] w fun e w' => e = .returned (.bool false) ∧ w = w' := by
  rcases h with h | h
  · go_enter Tryd.func18, Tryd.ntmps18
    go_wp2
    go_ret
    exact ⟨rfl, rfl⟩
  · have h' : decide (k < 1) = false := by simp; omega
    go_enter Tryd.func18, Tryd.ntmps18
    go_wp2
    go_ret
    exact ⟨rfl, rfl⟩
set_option maxRecDepth 100000 in
set_option maxHeartbeats 400000 in
theorem rroom (n k : Nat) (w : World) (hn : n < 18446744073709551616) (h0 : 1 ≤ k) (h1 : k ≤ 8) :
    Calls Tryd.prog 18 #[.int .u64 n, .int .i64 k] w fun e w' => e = .returned (.bool (fits n k)) ∧ w = w' := by
  have HN := Lib.hid hn; clear hn
  have d1 : decide ((k : Int) < 1) = false := by simp; omega
  have d2 : decide (8 < (k : Int)) = false := by simp; omega
  go_enter Tryd.func18, Tryd.ntmps18
  go_wp2
  go_loop [0, 5] (fun x i => ∃ m q : Nat, m ≤ k ∧ i = .int .i64 m ∧ x = .int .u64 (q : Int) ∧ Hid (q = n / 2 ^ (8 * m))) (fun _ i => k - (intOf i).toNat)
  case atStart => exact ⟨0, n, Nat.zero_le _, rfl, rfl, Lib.hid (by simp)⟩
  case round =>
    obtain ⟨m, q, hm, rfl, rfl, HQ⟩ := hrel
    by_cases hlt : m < k
    · have hz : q / 256 < 18446744073709551616 := by have := HQ.out; have := HN.out; have := Nat.div_le_self n (2 ^ (8 * m)); omega
      have HZ := Lib.hid hz; clear hz
      go_wp2
      go_round
      case rel =>
        refine ⟨m + 1, q / 256, by omega, by go_num, ?_, Lib.hid ?_⟩
        · have := HZ.out
          rw [IntKind.wrap_u64, show ((q : Int) / 256 % 18446744073709551616) = ((q / 256 : Nat) : Int) by omega]
        · rw [HQ.out, Nat.div_div_eq_div_mul, show 8 * (m + 1) = 8 * m + 8 by omega, Nat.pow_add]
      case measure => simp [intOf]; omega
    · obtain rfl : m = k := by omega
      go_wp2
      go_ret
      refine ⟨?_, rfl⟩
      have hq := HQ.out
      show Ending.returned (.bool ((q : Int) == 0)) = _
      have : ((q : Int) == 0) = fits n m := by
        rw [fits, ← hq, Bool.eq_iff_iff]; simp
      rw [this]
end Go.Proofs.YteafakpipbhioaaDoor
