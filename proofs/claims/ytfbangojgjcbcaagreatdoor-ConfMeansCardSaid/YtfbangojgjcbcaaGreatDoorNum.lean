/- Contracts: wire.Put, wire.Get, the references' Put, Room, Get, and num. -/
import Derived.Test.YtfbangojgjcbcaaGreatDoorPlainN
import Derived.Test.YtfbangojgjcbcaaGreatDoorBase
namespace Go.Proofs.YtfbangojgjcbcaaGreatDoor
open Go.RowKit Go.Deep Pl

theorem put_rel {w wr w1 : World} {n k j : Nat} {v v' : Value} (hj : j < k) (hb : Below w.heap.size w wr) (hown : wr.ownsRow w.heap.size 5 1 v j (cellsB ((putB n k).take j)))
    (hown' : w1.ownsRow w.heap.size 5 1 v' (j + 1) (cellsB ((putB n k).take j) ++ [.int .u8 ((n : Int) / 2 ^ (8 * (k - 1 - j)) % 256)])) (hg : wr.grownBy w1 v.ownBlock) :
    w1.ownsRow w.heap.size 5 1 v' (j + 1) (cellsB ((putB n k).take (j + 1))) ∧ Below w.heap.size w w1 := by
  constructor
  · rw [putB_take n k j hj, cellsB_append]
    have : cellsB [UInt8.ofNat (n / 2 ^ (8 * (k - 1 - j)))] = [.int .u8 ((n : Int) / 2 ^ (8 * (k - 1 - j)) % 256)] := by
      simp [cellsB]
    rw [this]; exact hown'
  · exact hb.grown hg hb.size fun g hg => (hown.lt g hg).1

theorem or_u64 (a : Nat) (b : UInt8) (ha : a < 72057594037927936) : bits .or .u64 ((a : Int) * 256) (b.toNat : Int) = ((a * 256 + b.toNat : Nat) : Int) := by
  have hb := b.toNat_lt
  have := u64_or_nat (a * 256) b.toNat (by omega) (by omega)
  rw [or_low a b.toNat (by omega)] at this
  rw [← this]
  simp

theorem getB_take (l : List UInt8) (j : Nat) (hj : j < l.length) (h8 : l.length ≤ 8) : getB (l.take j) < 72057594037927936 ∧ getB (l.take (j + 1)) = getB (l.take j) * 256 + l[j].toNat := by
  constructor
  · have h := getB_lt (l.take j)
    have h2 : 256 ^ (l.take j).length ≤ 256 ^ 7 := Nat.pow_le_pow_right (by decide) (by simp; omega)
    have h3 : (256 : Nat) ^ 7 = 72057594037927936 := by decide
    omega
  · rw [List.take_succ_eq_append_getElem hj, getB_snoc]

theorem rput_step {w wr : World} {n k m q : Nat} (hlt : m < k) (hq : q = n / 2 ^ (8 * m)) (hown : wr.ownsRow w.heap.size 5 1 (.slice (some ⟨w.heap.size, 0, none⟩) k k) k (cellsB (List.replicate (k - m) 0 ++ (putB n k).drop (k - m)))) (hb : Below w.heap.size w wr) :
    (wr.setCell ⟨w.heap.size, k - 1 - m, none⟩ (.int .u8 ((q : Int) % 256))).ownsRow w.heap.size 5 1 (.slice (some ⟨w.heap.size, 0, none⟩) k k) k (cellsB (List.replicate (k - (m + 1)) 0 ++ (putB n k).drop (k - (m + 1)))) ∧
    Below w.heap.size w (wr.setCell ⟨w.heap.size, k - 1 - m, none⟩ (.int .u8 ((q : Int) % 256))) := by
  refine ⟨?_, hb.setCell (Nat.le_refl _) _⟩
  have h := (hown.stored (k - 1 - m) (.int .u8 ((q : Int) % 256))).1
  have e : (cellsB (List.replicate (k - m) 0 ++ (putB n k).drop (k - m))).set (k - 1 - m) (.int .u8 ((q : Int) % 256)) = cellsB (List.replicate (k - (m + 1)) 0 ++ (putB n k).drop (k - (m + 1))) := by
    have e1 : k - m = (k - (m + 1)) + 1 := by omega
    have e2 : k - 1 - m = k - (m + 1) := by omega
    rw [putB_drop n k (k - (m + 1)) (by omega), e1, e2]
    generalize hz : k - (m + 1) = z
    have e3 : k - 1 - z = m := by omega
    rw [e3, ← hq, List.replicate_succ']
    simp only [cellsB, List.map_append, List.map_cons, List.append_assoc, List.singleton_append]
    rw [List.set_append_right _ _ (by simp)]
    simp
  rw [e] at h
  exact h

set_option maxRecDepth 100000 in
set_option maxHeartbeats 400000 in
theorem rput (n k : Nat) (w : World) (hn : n < 18446744073709551616) (h0 : 1 ≤ k) (h1 : k ≤ 8) :
    Calls Tryz.prog 122 #[.int .u64 n, .int .i64 k] w fun e w' => ∃ v, e = .returned v ∧ w'.ownsRow w.heap.size 5 1 v k (cellsB (putB n k)) ∧ Below w.heap.size w w' := by
  have HN := Lib.hid hn; clear hn
  have hmk := fun W => run_make_row' (P := Tryz.prog) 37 5 (.int .u8 0) 1 Tryz.underlying37 info_u8 rfl .i64 .i64 k (by omega) (by omega) W
  go_enter Tryz.func122, Tryz.ntmps122
  go_wp2
  go_loopw [0, 6] (fun x i wr => ∃ m q : Nat, m ≤ k ∧ i = .int .i64 ((k : Int) - 1 - m) ∧ x = .int .u64 (q : Int) ∧ Hid (q = n / 2 ^ (8 * m)) ∧ wr.ownsRow w.heap.size 5 1 (.slice (some ⟨w.heap.size, 0, none⟩) k k) k (cellsB (List.replicate (k - m) 0 ++ (putB n k).drop (k - m))) ∧ Below w.heap.size w wr) (fun _ i _ => (intOf i + 1).toNat)
  case atStart =>
    refine ⟨0, n, Nat.zero_le _, by simp, rfl, Lib.hid (by simp), ?_, (Below.refl _ _).alloc (Nat.le_refl _) _⟩
    have := World.ownsRow_lit (base := w.heap.size) (e := 5) (size := 1) w (madeCells #[.int .u8 0] k) k (Nat.le_refl _) (by unfold maxLen; omega) (by simp [madeCells])
    rw [toList_madeCells_one] at this
    rw [Nat.sub_zero, List.drop_of_length_le (by rw [putB_length]; exact Nat.le_refl _), List.append_nil]
    simpa [cellsB] using this
  case round =>
    obtain ⟨m, q, hm, rfl, rfl, HQ, hown, hb⟩ := hrel
    by_cases hlt : m < k
    · have hcell : wr.cell? ⟨w.heap.size, k - 1 - m, none⟩ = some (.int .u8 0) := by
        rw [hown.cellAt _ (by omega)]; simp only [cellsB, List.map_append]; rw [List.getElem?_append_left (by simp; omega), List.getElem?_map, List.getElem?_replicate, if_pos (by omega)]; rfl
      have hfr : wr.frozen? ⟨w.heap.size, k - 1 - m, none⟩ = false := hown.frozenAt _
      have R := rput_step hlt HQ.out hown hb
      have hz : q / 256 < 18446744073709551616 := by have := HQ.out; have := HN.out; have := Nat.div_le_self n (2 ^ (8 * m)); omega
      have HZ := Lib.hid hz; clear hz
      go_wp2
      go_roundw
      case rel =>
        refine ⟨m + 1, q / 256, by omega, by go_num, ?_, Lib.hid ?_, R.1, R.2⟩
        · have := HZ.out
          rw [IntKind.wrap_u64, show ((q : Int) / 256 % 18446744073709551616) = ((q / 256 : Nat) : Int) by omega]
        · rw [HQ.out, Nat.div_div_eq_div_mul, show 8 * (m + 1) = 8 * m + 8 by omega, Nat.pow_add]
      case measure => simp [intOf]; omega
    · obtain rfl : m = k := by omega
      have hge : decide (0 ≤ (m : Int) - 1 - m) = false := by simp; omega
      simp only [Nat.sub_self, List.replicate_zero, List.drop_zero, List.nil_append] at hown
      go_wp2
      go_ret
      exact ⟨_, rfl, hown, hb⟩

end Go.Proofs.YtfbangojgjcbcaaGreatDoor
