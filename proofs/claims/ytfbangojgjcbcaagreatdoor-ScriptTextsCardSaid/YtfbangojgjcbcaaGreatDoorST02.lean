/- Part 2 of the proof: PlainZ, Num, PreR, LoadF, Cmp, Text, Addr, Blk, Atoi, AddrR. -/
import Derived.StillTail
import Derived.OrdersHeld
import Derived.Test.YtfbangojgjcbcaaGreatDoorShelf
import Derived.Lib.AppendIntMem
import Derived.RangeFuncNested
import Derived.RangeFuncBox
import Derived.Test.YtfbangojgjcbcaaGreatDoorST01
namespace Go.Proofs.YtfbangojgjcbcaaGreatDoor.Pl
open Go.Lib (decDigits itoa join)
structure ActP where
  kind : Int
  node : Int := 0
  port : Int := 0
  cost : Int := 0
  n : Int := 0
  up : Bool := false
  by_ : UInt8 := 0
  unread : Bool := false
  bytes : List UInt8 := []
  deriving DecidableEq
/-- What a kind names. -/
inductive Pt where
  | n | p | c | i | u | b | r | x
  deriving DecidableEq
def nameA : Nat → List UInt8
  | 1 => [116, 105, 99, 107]
  | 2 => [104, 101, 97, 114]
  | 3 => [108, 111, 115, 101]
  | 4 => [100, 111, 117, 98, 108, 101]
  | 5 => [99, 111, 115, 116]
  | 6 => [108, 105, 110, 107]
  | 7 => [99, 114, 97, 115, 104]
  | 8 => [115, 116, 97, 114, 116]
  | 9 => [112, 97, 99, 107, 101, 116]
  | _ => []
def partsA : Nat → List Pt
  | 1 => [.n]
  | 2 => [.i]
  | 3 => [.i]
  | 4 => [.i]
  | 5 => [.n, .p, .c]
  | 6 => [.i, .u]
  | 7 => [.n]
  | 8 => [.n, .i, .b, .r]
  | 9 => [.n, .x]
  | _ => []
def wUp : List UInt8 := [117, 112]
def wDown : List UInt8 := [100, 111, 119, 110]
def wUnread : List UInt8 := [117, 110, 114, 101, 97, 100]
def wRead : List UInt8 := [114, 101, 97, 100]
def hexD (l : List UInt8) : List UInt8 := if l = [] then [45] else hexText l
def unhexD (l : List UInt8) : List UInt8 := (unhex l).getD []
def told (a : ActP) : Pt → List UInt8
  | .n => itoa a.node
  | .p => itoa a.port
  | .c => itoa a.cost
  | .i => itoa a.n
  | .b => itoa (a.by_.toNat : Int)
  | .u => if a.up then wUp else wDown
  | .r => if a.unread then wUnread else wRead
  | .x => hexD a.bytes
def actWords (a : ActP) : List (List UInt8) := nameA a.kind.toNat :: (partsA a.kind.toNat).map (told a)
def actText (a : ActP) : List UInt8 := join (actWords a) [32]
/-- What its kind does not name is nothing. -/
def bareOk (a : ActP) : Bool :=
  let p := partsA a.kind.toNat
  (decide (a.node = 0) || p.contains .n) && (decide (a.port = 0) || p.contains .p) && (decide (a.cost = 0) || p.contains .c) && (decide (a.n = 0) || p.contains .i) &&
    (!a.up || p.contains .u) && (decide (a.by_ = 0) || p.contains .b) && (!a.unread || p.contains .r) && (decide (a.bytes = []) || p.contains .x)
def mayA (a : ActP) : Bool := decide (1 ≤ a.kind) && decide (a.kind ≤ 9) && bareOk a && decide (a.bytes.length ≤ 2048)
def InA (a : ActP) : Prop := In64 a.kind ∧ In64 a.node ∧ In64 a.port ∧ In64 a.cost ∧ In64 a.n
def byteI (n : Int) : UInt8 := UInt8.ofNat (n % 256).toNat
def wd (w : List (List UInt8)) (i : Nat) : List UInt8 := w.getD i []
def guessA (f : List UInt8 → Int) (k : Nat) (w : List (List UInt8)) : ActP := match k with
  | 1 => { kind := 1, node := f (wd w 1) }
  | 2 => { kind := 2, n := f (wd w 1) }
  | 3 => { kind := 3, n := f (wd w 1) }
  | 4 => { kind := 4, n := f (wd w 1) }
  | 5 => { kind := 5, node := f (wd w 1), port := f (wd w 2), cost := f (wd w 3) }
  | 6 => { kind := 6, n := f (wd w 1), up := decide (wd w 2 = wUp) }
  | 7 => { kind := 7, node := f (wd w 1) }
  | 8 => { kind := 8, node := f (wd w 1), n := f (wd w 2), by_ := byteI (f (wd w 3)), unread := decide (wd w 4 = wUnread) }
  | 9 => { kind := 9, node := f (wd w 1), bytes := unhexD (wd w 2) }
  | k => { kind := (k : Int) }
def kindA (w : List UInt8) : Option Nat :=
  if w = nameA 1 then some 1 else if w = nameA 2 then some 2 else if w = nameA 3 then some 3 else if w = nameA 4 then some 4 else if w = nameA 5 then some 5 else
  if w = nameA 6 then some 6 else if w = nameA 7 then some 7 else if w = nameA 8 then some 8 else if w = nameA 9 then some 9 else none
def isA (a : ActP) (s : List UInt8) : Bool := mayA a && decide (actText a = s)
def actW (f : List UInt8 → Int) (s : List UInt8) : Option ActP := match kindA (wd (splitOn 32 s) 0) with
  | some k => if isA (guessA f k (splitOn 32 s)) s then some (guessA f k (splitOn 32 s)) else none
  | none => none
def actC (s : List UInt8) : Option ActP := actW numC s
theorem join_two (x y : List UInt8) (r : List (List UInt8)) (c : UInt8) : join (x :: y :: r) [c] = x ++ c :: join (y :: r) [c] := by simp [join]
theorem guess_kind (f : List UInt8 → Int) {k : Nat} (w : List (List UInt8)) : (guessA f k w).kind = (k : Int) := by
  unfold guessA
  split <;> rfl
theorem guess_in {f : List UInt8 → Int} (hf : ∀ s, In64 (f s)) (k : Nat) (hk : k ≤ 9) (w : List (List UInt8)) : InA (guessA f k w) := by
  have h0 : In64 0 := ⟨by decide, by decide⟩
  have hk' : In64 (guessA f k w).kind := by rw [guess_kind]; exact ⟨by omega, by omega⟩
  refine ⟨hk', ?_⟩
  clear hk'
  unfold guessA
  split <;> exact ⟨by first | exact hf _ | exact h0, by first | exact hf _ | exact h0, by first | exact hf _ | exact h0, by first | exact hf _ | exact h0⟩
theorem kindA_le {w : List UInt8} {k : Nat} (h : kindA w = some k) : 1 ≤ k ∧ k ≤ 9 ∧ w = nameA k := by
  unfold kindA at h
  repeat (split at h; (rename_i he; injection h with h; subst h; exact ⟨by decide, by decide, he⟩))
  cases h
end Go.Proofs.YtfbangojgjcbcaaGreatDoor.Pl
namespace Go.Proofs.YtfbangojgjcbcaaGreatDoor
open Go.RowKit Go.Deep Pl
theorem rput_step {w wr : World} {n k m q : Nat} (hlt : m < k) (hq : q = n / 2 ^ (8 * m)) (hown : wr.ownsRow w.heap.size 5 1 (.slice (some ⟨w.heap.size, 0, none⟩) k k) k (cellsB (List.replicate (k - m) 0 ++ (putB n k).drop (k - m)))) (hb : Below w.heap.size w wr) :
    (wr.setCell ⟨w.heap.size, k - 1 - m, none⟩ (.int .u8 ((q : Int) % 256))).ownsRow w.heap.size 5 1 (.slice (some ⟨w.heap.size, 0, none⟩) k k) k (cellsB (List.replicate (k - (m + 1)) 0 ++ (putB n k).drop (k - (m + 1)))) ∧
    Below w.heap.size w (wr.setCell ⟨w.heap.size, k - 1 - m, none⟩ (.int .u8 ((q : Int) % 256))) := by
  refine ⟨?_, hb.setCell (Nat.le_refl _) _⟩
  have h := (hown.stored (k - 1 - m) (.int .u8 ((q : Int) % 256))).1
  have e : (cellsB (List.replicate (k - m) 0 ++ (putB n k).drop (k - m))).set (k - 1 - m) (.int .u8 ((q : Int) % 256)) = cellsB (List.replicate (k - (m + 1)) 0 ++ (putB n k).drop (k - (m + 1))) := by
    have e1 : k - m = (k - (m + 1)) + 1 := by omega
    have e2 : k - 1 - m = k - (m + 1) := by omega
    rw [putB_drop n k (k - (m + 1)) (by omega), e1, e2]
    generalize hz : k - (m + 1) = z
    have e3 : k - 1 - z = m := by omega
    rw [e3, ← hq, List.replicate_succ']
    simp only [cellsB, List.map_append, List.map_cons, List.append_assoc, List.singleton_append]
    rw [List.set_append_right _ _ (by simp)]
    simp
  rw [e] at h
  exact h
set_option maxRecDepth 100000 in
set_option maxHeartbeats 400000 in
theorem rput (n k : Nat) (w : World) (hn : n < 18446744073709551616) (h0 : 1 ≤ k) (h1 : k ≤ 8) :
    Calls Tryz.prog 122 #[.int .u64 n, .int .i64 k] w fun e w' => ∃ v, e = .returned v ∧ w'.ownsRow w.heap.size 5 1 v k (cellsB (putB n k)) ∧ Below w.heap.size w w' := by
  have HN := Lib.hid hn; clear hn
  have hmk := fun W => run_make_row' (P := Tryz.prog) 37 5 (.int .u8 0) 1 Tryz.underlying37 info_u8 rfl .i64 .i64 k (by omega) (by omega) W
  go_enter Tryz.func122, Tryz.ntmps122
  go_wp2
  go_loopw [0, 6] (fun x i wr => ∃ m q : Nat, m ≤ k ∧ i = .int .i64 ((k : Int) - 1 - m) ∧ x = .int .u64 (q : Int) ∧ Hid (q = n / 2 ^ (8 * m)) ∧ wr.ownsRow w.heap.size 5 1 (.slice (some ⟨w.heap.size, 0, none⟩) k k) k (cellsB (List.replicate (k - m) 0 ++ (putB n k).drop (k - m))) ∧ Below w.heap.size w wr) (fun _ i _ => (intOf i + 1).toNat)
  case atStart =>
    refine ⟨0, n, Nat.zero_le _, by simp, rfl, Lib.hid (by simp), ?_, (Below.refl _ _).alloc (Nat.le_refl _) _⟩
    have := World.ownsRow_lit (base := w.heap.size) (e := 5) (size := 1) w (madeCells #[.int .u8 0] k) k (Nat.le_refl _) (by unfold maxLen; omega) (by simp [madeCells])
    rw [toList_madeCells_one] at this
    rw [Nat.sub_zero, List.drop_of_length_le (by rw [putB_length]; exact Nat.le_refl _), List.append_nil]
    simpa [cellsB] using this
  case round =>
    obtain ⟨m, q, hm, rfl, rfl, HQ, hown, hb⟩ := hrel
    by_cases hlt : m < k
    · have hcell : wr.cell? ⟨w.heap.size, k - 1 - m, none⟩ = some (.int .u8 0) := by
        rw [hown.cellAt _ (by omega)]; simp only [cellsB, List.map_append]; rw [List.getElem?_append_left (by simp; omega), List.getElem?_map, List.getElem?_replicate, if_pos (by omega)]; rfl
      have hfr : wr.frozen? ⟨w.heap.size, k - 1 - m, none⟩ = false := hown.frozenAt _
      have R := rput_step hlt HQ.out hown hb
      have hz : q / 256 < 18446744073709551616 := by have := HQ.out; have := HN.out; have := Nat.div_le_self n (2 ^ (8 * m)); omega
      have HZ := Lib.hid hz; clear hz
      go_wp2
      go_roundw
      case rel =>
        refine ⟨m + 1, q / 256, by omega, by go_num, ?_, Lib.hid ?_, R.1, R.2⟩
        · have := HZ.out
          rw [IntKind.wrap_u64, show ((q : Int) / 256 % 18446744073709551616) = ((q / 256 : Nat) : Int) by omega]
        · rw [HQ.out, Nat.div_div_eq_div_mul, show 8 * (m + 1) = 8 * m + 8 by omega, Nat.pow_add]
      case measure => simp [intOf]; omega
    · obtain rfl : m = k := by omega
      have hge : decide (0 ≤ (m : Int) - 1 - m) = false := by simp; omega
      simp only [Nat.sub_self, List.replicate_zero, List.drop_zero, List.nil_append] at hown
      go_wp2
      go_ret
      exact ⟨_, rfl, hown, hb⟩
end Go.Proofs.YtfbangojgjcbcaaGreatDoor
namespace Go.Proofs.YtfbangojgjcbcaaGreatDoor
open Go.RowKit Pl
theorem quiet_sym {P : Program} {f : FuncId} {args : Array Value} {w : World} {v : Value} (h : Calls P f args w fun e w' => e = .returned v ∧ w = w') : Calls P f args w fun e w' => e = .returned v ∧ w' = w :=
  h.mono fun _ _ ⟨a, b⟩ => ⟨a, b.symm⟩
theorem mask_num (n : Int) (h0 : 0 ≤ n) (h1 : n ≤ 32) : IntKind.u64.wrap (18446744073709551615 * 2 ^ (32 - n).toNat) % 4294967296 = 4294967296 - blk n := by
  have hle := blk_le n
  have hpos := blk_pos n
  have e : ((2 : Int) ^ (32 - n).toNat) = blk n := by
    unfold blk; rw [show (32 - n).toNat = 32 - n.toNat by omega]; simp
  rw [e, IntKind.wrap_u64]
  omega
set_option maxHeartbeats 400000 in
theorem mask_any (n : Int) (w : World) (h0 : 0 ≤ n) (h1 : n ≤ 32) :
    Calls Tryz.prog 135 #[.int .i64 n] w fun e w' => e = .returned (.int .u32 (4294967296 - blk n)) ∧ w = w' := by
  have H := Lib.hid (mask_num n h0 h1)
  go_enter Tryz.func135, Tryz.ntmps135
  go_wp2
  go_ret
  exact ⟨ret_int H.out, rfl⟩
theorem andNot_mask (a n : Int) (ha : 0 ≤ a) (ha' : a < 4294967296) : bits .andNot .u32 a (4294967296 - blk n) = a % blk n := by
  have hle := blk_le n
  have hpos := blk_pos n
  rw [u32_andNot a _ ha ha' (by omega) (by omega)]
  obtain ⟨A, rfl⟩ := Int.eq_ofNat_of_zero_le ha
  have e : blk n = ((2 ^ (32 - n.toNat) : Nat) : Int) := rfl
  rw [e]
  have hb := Nat.pow_pos (n := 32 - n.toNat) (show 0 < 2 by decide)
  rw [e] at hle hpos
  rw [show (4294967295 - (4294967296 - ((2 ^ (32 - n.toNat) : Nat) : Int)).toNat) = 2 ^ (32 - n.toNat) - 1 by omega, Int.toNat_natCast, and_low]
  exact Int.natCast_emod _ _
theorem and_maskI (a n : Int) (ha : 0 ≤ a) (ha' : a < 4294967296) : bits .and .u32 a (4294967296 - blk n) = firstP a n := by
  have hle := blk_le n
  have hpos := blk_pos n
  rw [u32_and a _ ha ha' (by omega) (by omega)]
  obtain ⟨A, rfl⟩ := Int.eq_ofNat_of_zero_le ha
  have e : blk n = ((2 ^ (32 - n.toNat) : Nat) : Int) := rfl
  unfold firstP
  rw [e]
  rw [e] at hle hpos
  rw [show (4294967296 - ((2 ^ (32 - n.toNat) : Nat) : Int)).toNat = 4294967296 - 2 ^ (32 - n.toNat) by omega, Int.toNat_natCast, and_mask A _ (by omega) (by omega)]
  simp
/-- An address. -/
def IsAddr (a : Int) : Prop := 0 ≤ a ∧ a < 4294967296
theorem mayP_out (a n : Int) (h : n < 0 ∨ 32 < n) : mayP a n = false := by
  unfold mayP; rcases h with h | h
  · simp [show ¬ 0 ≤ n by omega]
  · simp [show ¬ n ≤ 32 by omega]
theorem mayP_in (a n : Int) (h0 : 0 ≤ n) (h1 : n ≤ 32) : mayP a n = (a % blk n == 0) := by
  unfold mayP; simp [h0, h1]; rfl
set_option maxHeartbeats 400000 in
theorem may_any (a n : Int) (w : World) (ha : IsAddr a) :
    Calls Tryz.prog 134 #[.agg #[.int .u32 a, .int .i64 n]] w fun e w' => e = .returned (.bool (mayP a n)) ∧ Below w.heap.size w w' := by
  obtain ⟨ha0, ha1⟩ := ha
  by_cases h0 : 0 ≤ n
  · by_cases h1 : n ≤ 32
    · have HM := Lib.hid (mayP_in a n h0 h1)
      have hbn := andNot_mask a n ha0 ha1
      go_enter Tryz.func134, Tryz.ntmps134
      go_wp2
      go_quiet ((go_at_call 135; exact Calls.quiet_of_same (quiet_sym (mask_any n _ h0 h1))))
      go_wp2
      go_ret
      exact ⟨by rw [HM.out]; rfl, Go.below_drewN ((Below.refl _ _).alloc (Nat.le_refl _) _) _⟩
    · have HM := Lib.hid (mayP_out a n (by omega))
      have d : decide (n ≤ 32) = false := by simpa using h1
      go_enter Tryz.func134, Tryz.ntmps134
      go_wp2
      go_quiet (fail)
      go_wp2
      go_ret
      exact ⟨by rw [HM.out]; rfl, Go.below_drewN ((Below.refl _ _).alloc (Nat.le_refl _) _) _⟩
  · have HM := Lib.hid (mayP_out a n (by omega))
    have d : decide (0 ≤ n) = false := by simpa using h0
    go_enter Tryz.func134, Tryz.ntmps134
    go_wp2
    go_quiet (fail)
    go_wp2
    go_ret
    exact ⟨by rw [HM.out]; rfl, Go.below_drewN ((Below.refl _ _).alloc (Nat.le_refl _) _) _⟩
theorem may_true (a n : Int) (w : World) (ha : IsAddr a) (h : mayP a n = true) :
    Calls Tryz.prog 134 #[.agg #[.int .u32 a, .int .i64 n]] w fun e w' => e = .returned (.bool true) ∧ Below w.heap.size w w' :=
  (may_any a n w ha).mono fun _ _ ⟨h1, h2⟩ => ⟨by rw [h1, h], h2⟩
theorem mayP_len {a n : Int} (h : mayP a n = true) : 0 ≤ n ∧ n ≤ 32 := by
  unfold mayP at h; simp at h; exact ⟨h.1, h.2.1⟩
end Go.Proofs.YtfbangojgjcbcaaGreatDoor
namespace Go.Proofs.YtfbangojgjcbcaaGreatDoor
open Go.RowKit Pl
theorem first_le (a k j : Nat) (ha : a < 4294967296) (hj : j < k) : a / 2 ^ k * 2 ^ j * 2 ≤ 4294967295 := by
  have h1 : 2 ^ j * 2 ≤ 2 ^ k := by rw [← Nat.pow_succ]; exact Nat.pow_le_pow_right (by decide) hj
  have h2 := Nat.mul_le_mul_left (a / 2 ^ k) h1
  have h3 := Nat.div_mul_le_self a (2 ^ k)
  rw [Nat.mul_assoc]
  omega
set_option maxRecDepth 100000 in
set_option maxHeartbeats 400000 in
theorem rfirst (a n : Int) (w : World) (ha : IsAddr a) (h0 : 0 ≤ n) (h1 : n ≤ 32) :
    Calls Tryz.prog 158 #[.int .u32 a, .int .i64 n] w fun e w' => e = .returned (.int .u32 (firstP a n)) ∧ w = w' := by
  obtain ⟨ha0, ha1⟩ := ha
  obtain ⟨A, rfl⟩ := Int.eq_ofNat_of_zero_le ha0
  obtain ⟨m, rfl⟩ := Int.eq_ofNat_of_zero_le h0
  have HA : Hid (A < 4294967296) := Lib.hid (by omega)
  clear ha0 ha1 h0
  obtain ⟨k, hk⟩ : ∃ k, k = 32 - m := ⟨_, rfl⟩
  have HF : Hid (firstP A m = ((A / 2 ^ k * 2 ^ k : Nat) : Int)) := Lib.hid (by unfold firstP blk; rw [hk]; simp)
  have HK : Hid (k = 32 - m) := Lib.hid hk
  have hk1 : (k : Int) = 32 - m := by omega
  have hk2 : (32 : Int) - m ≤ k := by omega
  have hk3 : (k : Int) ≤ 32 - m := by omega
  clear hk hk1
  go_enter Tryz.func158, Tryz.ntmps158
  go_wp2
  go_loop [0, 5] (fun x i => ∃ j q : Nat, j ≤ k ∧ i = .int .i64 j ∧ x = .int .u32 (q : Int) ∧ Hid (q = A / 2 ^ j)) (fun _ i => k - (intOf i).toNat)
  case atStart => exact ⟨0, A, Nat.zero_le _, rfl, rfl, Lib.hid (by simp)⟩
  case round =>
    obtain ⟨j, q, hj, rfl, rfl, HQ⟩ := hrel
    by_cases hlt : j < k
    · have hq : q ≤ 4294967295 := by have := HQ.out; have := HA.out; have := Nat.div_le_self A (2 ^ j); omega
      go_wp2
      go_round
      case rel => exact ⟨j + 1, q / 2, by omega, by go_num, by go_num, Lib.hid (by rw [HQ.out, Nat.pow_succ, Nat.div_div_eq_div_mul])⟩
      case measure => simp [intOf]; omega
    · obtain rfl : j = k := by omega
      go_wp2
      go_loop [0, 6] (fun x i => ∃ i0 q : Nat, i0 ≤ j ∧ i = .int .i64 i0 ∧ x = .int .u32 (q : Int) ∧ Hid (q = A / 2 ^ j * 2 ^ i0)) (fun _ i => j - (intOf i).toNat)
      case atStart => exact ⟨0, q, Nat.zero_le _, rfl, rfl, Lib.hid (by rw [HQ.out]; simp)⟩
      case round =>
        obtain ⟨i0, q2, hj2, rfl, rfl, HQ2⟩ := hrel
        by_cases hlt2 : i0 < j
        · have hq2 : q2 * 2 ≤ 4294967295 := by rw [HQ2.out]; exact first_le A j i0 HA.out hlt2
          go_wp2
          go_round
          case rel => exact ⟨i0 + 1, q2 * 2, by omega, by go_num, by go_num, Lib.hid (by rw [HQ2.out, Nat.pow_succ, Nat.mul_assoc])⟩
          case measure => simp [intOf]; omega
        · obtain rfl : i0 = j := by omega
          go_wp2
          go_ret
          exact ⟨ret_int (by rw [HF.out, HQ2.out]), rfl⟩
theorem firstP_eq (a n : Int) : (firstP a n == a) = (a % blk n == 0) := by
  have hb := blk_pos n
  have := Int.mul_ediv_add_emod a (blk n)
  unfold firstP
  rw [Int.mul_comm, Bool.eq_iff_iff]; simp; omega
set_option maxHeartbeats 400000 in
theorem rmay (a n : Int) (w : World) (ha : IsAddr a) :
    Calls Tryz.prog 118 #[.agg #[.int .u32 a, .int .i64 n]] w fun e w' => e = .returned (.bool (mayP a n)) ∧ Below w.heap.size w w' := by
  by_cases h0 : 0 ≤ n
  · by_cases h1 : n ≤ 32
    · have HM : Hid (mayP a n = (firstP a n == a)) := Lib.hid (by rw [mayP_in a n h0 h1, firstP_eq])
      go_enter Tryz.func118, Tryz.ntmps118
      go_wp2
      refine wp_region_ext (by kernel_rfl) (by kernel_rfl) ?_
      repeat (go_big_quiet_step (first | (go_at_call 158; exact Ext.callq (rfirst a n _ ha h0 h1))))
      refine wpQuiet_nil ?_
      rintro _ ⟨y, rfl⟩
      go_wp2
      go_ret
      exact ⟨by rw [HM.out]; rfl, (by repeat (first | exact Below.refl _ _ | apply Below.drew | apply Go.below_drewN | apply bel_alloc | apply Ext.lift | apply bel_set0 | apply bel_set))⟩
    · have HM := Lib.hid (mayP_out a n (by omega))
      have d : decide (n ≤ 32) = false := by simpa using h1
      go_enter Tryz.func118, Tryz.ntmps118
      go_wp2
      go_quiet (fail)
      go_wp2
      go_ret
      exact ⟨by rw [HM.out]; rfl, (by repeat (first | exact Below.refl _ _ | apply Below.drew | apply Go.below_drewN | apply bel_alloc | apply Ext.lift | apply bel_set0 | apply bel_set))⟩
  · have HM := Lib.hid (mayP_out a n (by omega))
    have d : decide (0 ≤ n) = false := by simpa using h0
    go_enter Tryz.func118, Tryz.ntmps118
    go_wp2
    go_quiet (fail)
    go_wp2
    go_ret
    exact ⟨by rw [HM.out]; rfl, (by repeat (first | exact Below.refl _ _ | apply Below.drew | apply Go.below_drewN | apply bel_alloc | apply Ext.lift | apply bel_set0 | apply bel_set))⟩
theorem rmay_at (a n : Int) (b : Bool) (w : World) (ha : IsAddr a) (h : mayP a n = b) :
    Calls Tryz.prog 118 #[.agg #[.int .u32 a, .int .i64 n]] w fun e w' => e = .returned (.bool b) ∧ Below w.heap.size w w' := by
  rw [← h]; exact rmay a n w ha
end Go.Proofs.YtfbangojgjcbcaaGreatDoor
namespace Go.Proofs.YtfbangojgjcbcaaGreatDoor
open Go.RowKit Pl
section
variable {P : Program} {ops : Array Oper} {md : Region.Mode} {C : World → Prop}
def headQ (P : Program) (md : Region.Mode) (ops : Array Oper) (C : World → Prop) (n : Nat) (L : Array Bool → Act → Prop) : Nat → Array Bool → Act → Prop
  | 0, listed, a => L listed a
  | f + 1, listed, a =>
    Region.ready md ops listed ≠ [] ∧ ∀ i ∈ Region.ready md ops listed, i < n ∧ qOp P ops C i (headQ P md ops C n L f (listed.setIfInBounds i true)) a
theorem wpAny_of_headQ {n g : Nat} {L : Array Bool → Act → Prop} {Q' : Exit → Act → World → Prop} (hL : ∀ listed a w, C w → L listed a → wpAny P md ops Q' g listed a w) :
    ∀ (f : Nat) (listed : Array Bool) (a : Act) (w : World), C w → headQ P md ops C n L f listed a → wpAny P md ops Q' (f + g) listed a w
  | 0, listed, a, w, hw, h => by rw [Nat.zero_add]; exact hL _ _ _ hw h
  | f + 1, listed, a, w, hw, h => by
    rw [show f + 1 + g = (f + g) + 1 by omega]
    exact ⟨fun h0 => absurd h0 h.1, fun i hi => wpOp_of_qOp hw (fun a' w' hw' h' => wpAny_of_headQ hL f _ a' w' hw' h') (h.2 i hi).2⟩
theorem headQ_first {n i : Nat} {oi : Oper} {v : Value} {L : Array Bool → Act → Prop} (hi : ops[i]? = some oi) (hsel : ∀ (j : Nat) (o : Oper) cs b, ops[j]? = some o → o.op ≠ .select cs b)
    (hs : Region.sinkB md ops n = true) (hc : Region.chainB md ops n = true) (hn : n < ops.size) (hin : i < n)
    (hdone : ∀ listed a, L listed a → ∀ j ∈ Region.ready md ops listed, n ≤ j) :
    ∀ (f : Nat) (listed : Array Bool) (a : Act), HeadInv md ops n listed →
      (∀ j oj, ops[j]? = some oj → j ≠ i → listed.getD j true = false → (∀ e ∈ oj.after, Region.binds md e = true → e.on ≠ i) → oi.apart ops oj = true) →
      i ∈ Region.ready md ops listed → YieldsIn P ops C oi v a →
      headQ P md ops C n L f (listed.setIfInBounds i true) (a.put oi.dst v) → headQ P md ops C n L (f + 1) listed a := by
  intro f
  induction f with
  | zero =>
    intro listed a inv _ hr hy H
    have hun := (mem_ready.1 hr).1
    refine ⟨fun h => (by rw [h] at hr; cases hr), fun j hj => ?_⟩
    have hjn : j < n := by
      rcases Nat.lt_or_ge j n with h | h
      · exact h
      · exact absurd hj (tail_waits hs hc hn inv _ i rfl hin hun j h)
    refine ⟨hjn, ?_⟩
    by_cases hji : j = i
    · subst hji; exact hy.qOp hi H
    · have := hdone _ _ H j (ready_mono hj hji)
      omega
  | succ f ih =>
    intro listed a inv hfree hr hy H
    have hun := (mem_ready.1 hr).1
    refine ⟨fun h => (by rw [h] at hr; cases hr), fun j hj => ?_⟩
    have hjn : j < n := by
      rcases Nat.lt_or_ge j n with h | h
      · exact h
      · exact absurd hj (tail_waits hs hc hn inv _ i rfl hin hun j h)
    refine ⟨hjn, ?_⟩
    by_cases hji : j = i
    · subst hji; exact hy.qOp hi H
    · have h1 := (H.2 j (ready_mono hj hji)).2
      obtain ⟨hjun, oj, hoj, hall⟩ := mem_ready.1 hj
      have hnot : ∀ e ∈ oj.after, Region.binds md e = true → e.on ≠ i := fun e he hb heq => by
        have h1 := hall e he hb
        rw [heq, getD_both hun] at h1
        cases h1
      have h2 := qOp_put hoj (hfree j oj hoj hji hjun hnot) (fun cs b => hsel i oi cs b hi) (fun cs b => hsel j oj cs b hoj) hy h1
      have hfree' : ∀ k ok, ops[k]? = some ok → k ≠ i → (listed.setIfInBounds j true).getD k true = false →
          (∀ e ∈ ok.after, Region.binds md e = true → e.on ≠ i) → oi.apart ops ok = true := fun k ok hk hki hun hno => by
        refine hfree k ok hk hki ?_ hno
        by_cases hjk : j = k
        · subst hjk; exact hjun
        · rw [getD_set_ne true hjk] at hun; exact hun
      refine qOp_mono (fun a' h3 => ih (listed.setIfInBounds j true) a' (inv.set hj hjn) hfree' (ready_mono hr (Ne.symm hji)) h3.1 ?_) h2
      rw [Array.setIfInBounds_comm _ _ hji]
      exact h3.2
theorem headQ_lex {n g : Nat} {Lq : Act → Prop} (hsel : Region.noSelect ops = true) (hs : Region.sinkB md ops n = true) (hc : Region.chainB md ops n = true) (hn : n < ops.size) :
    ∀ (l : List Oper) (k : Nat) (listed : Array Bool) (a : Act), (∀ j, j < l.length → l[j]? = ops[k + j]?) → k + l.length = n → HeadInv md ops n listed →
    Region.lexHead md ops g l.length k listed = true → wpQuiet P ops C Lq l a →
    headQ P md ops C n (fun listed' a' => Region.seqB md ops g n listed' = true ∧ Lq a') l.length listed a
  | [], k, listed, a, _, hk, _, hB, h => by
    have : k = n := by simpa using hk
    subst this
    exact ⟨by simpa [Region.lexHead] using hB, h⟩
  | o :: l, k, listed, a, hl, hk, inv, hB, h => by
    have h0 : ops[k]? = some o := by simpa using (hl 0 (by simp)).symm
    simp only [List.length_cons, Region.lexHead, Bool.and_eq_true] at hB
    obtain ⟨⟨hr, hf⟩, hB'⟩ := hB
    have hkn : k < n := by simp only [List.length_cons] at hk; omega
    have hr' : k ∈ Region.ready md ops listed := by simpa using hr
    have hst : qOp P ops C k (wpQuiet P ops C Lq l) a := by unfold qOp; simp only [h0]; exact h
    obtain ⟨v, hy, hK⟩ := yieldsIn_of_qOp h0 hst
    exact headQ_first h0 (Region.noSelect_spec hsel) hs hc hn hkn (fun listed' a' hL => seqB_ready hL.1) l.length listed a inv (Region.free_spec h0 hf) hr' hy
      (headQ_lex hsel hs hc hn l (k + 1) _ _ (fun j hj => by have := hl (j + 1) (by simp; omega); simpa [Nat.add_assoc, Nat.add_comm 1 j] using this) (by simp only [List.length_cons] at hk; omega) (inv.set hr' hkn) hB' hK)
theorem wp_region_quiet_tail {id : Nat} {Q : Exit → Act → World → Prop} {a : Act} {w : World} {l : List Oper} (n : Nat) (hm : P.follows .mixedOrders = true) (hB : Region.lexTailB .any l.toArray n = true) (hC : C { w with drawn := w.drawn + 1 })
    (h : wpQuiet P l.toArray C (fun a' => ∀ w', C w' → wpList P l.toArray Q (l.drop n) a' w') (l.take n) a) : (Code.region id l.toArray true).wp P Q a w := by
  simp only [Region.lexTailB, Bool.and_eq_true, decide_eq_true_eq] at hB
  obtain ⟨⟨⟨⟨hsel, hn⟩, hs⟩, hc⟩, hlex⟩ := hB
  have hn' : n < l.length := by simpa using hn
  have htl : (l.take n).length = n := by simp; omega
  have hdl : (l.drop n).length = l.toArray.size - n := by simp
  have inv0 : HeadInv .any l.toArray n (Array.replicate l.toArray.size false) :=
    ⟨by simp, fun j oj _ hl => (by rw [getD_replicate_false] at hl; cases hl), fun t _ ht => getD_in (by simpa using ht) (getD_replicate_false _ _)⟩
  have H := headQ_lex (md := .any) (g := l.toArray.size - n) hsel hs hc hn (l.take n) 0 _ a (fun j hj => by
    have hj' : j < n := by rw [htl] at hj; exact hj
    simp [hj']) (by simpa using htl) inv0 (by rw [htl]; exact hlex) h
  refine wp_region_any hm ?_
  have := wpAny_of_headQ (Q' := Q) (g := l.toArray.size - n) (fun listed a' w' hw' hL => by
    have := wpAny_of_seq (md := .any) (Q' := Q) (l.drop n) n listed a' w' (fun j => by simp [List.getElem?_drop]) (by rw [hdl]; exact hL.1) (hL.2 w' hw')
    rwa [hdl] at this) _ _ _ _ hC H
  rw [htl, show n + (l.toArray.size - n) = l.toArray.size by omega] at this
  exact this
theorem wp_region_ext_tail {id : Nat} {Q : Exit → Act → World → Prop} {a : Act} {W : World} {l : List Oper} (n : Nat) (hm : P.follows .mixedOrders = true) (hB : Region.lexTailB .any l.toArray n = true)
    (h : wpQuiet P l.toArray (fun w' => ∃ x : Ext W, w' = x.w) (fun a' => ∀ w', (∃ x : Ext W, w' = x.w) → wpList P l.toArray Q (l.drop n) a' w') (l.take n) a) : (Code.region id l.toArray true).wp P Q a W :=
  wp_region_quiet_tail (C := fun w' => ∃ x : Ext W, w' = x.w) n hm hB ⟨⟨_, (Below.refl _ W).drew⟩, rfl⟩ h
end
end Go.Proofs.YtfbangojgjcbcaaGreatDoor
namespace Go.Proofs.YtfbangojgjcbcaaGreatDoor
open Go.RowKit Pl
section
variable {P : Program} {ops : Array Oper} {md : Region.Mode} {C : World → Prop}
def hangB (md : Region.Mode) (ops : Array Oper) (n : Nat) : Bool :=
  (List.range ops.size).all fun t => decide (t ≤ n) || (List.range t).any fun j => decide (n ≤ j) && Region.waitsFor md ops t j
theorem hang_waits {n : Nat} {listed : Array Bool} (hs : Region.sinkB md ops n = true) (hc : hangB md ops n = true) (inv : HeadInv md ops n listed) :
    ∀ (d i : Nat), n - i = d → i < n → listed.getD i true = false → ∀ t, n ≤ t → t ∉ Region.ready md ops listed := by
  intro d
  induction d using Nat.strongRecOn with
  | _ d ih =>
    intro i hd hi hun t ht hr
    obtain ⟨_, ot, hot, hall⟩ := mem_ready.1 hr
    have htlt : t < ops.size := (Array.getElem?_eq_some_iff.1 hot).1
    by_cases htn : t = n
    · subst htn
      have h1 := List.all_eq_true.1 hs i (List.mem_range.2 hi)
      obtain ⟨j, hj, hj2⟩ := List.any_eq_true.1 h1
      simp only [Bool.and_eq_true, decide_eq_true_eq] at hj2
      obtain ⟨oj, hoj, e, he, hb, hon⟩ := Region.waitsFor_spec hj2.2
      have hjle : j ≤ t := by have := List.mem_range.1 hj; omega
      by_cases hjt : j = t
      · subst hjt
        have : oj = ot := Option.some.inj (hoj.symm.trans hot)
        subst this
        have h2 := hall e he hb
        rw [hon, getD_both hun] at h2
        cases h2
      · cases hl : listed.getD j false with
        | true =>
          have h2 := inv.closed j oj hoj hl e he hb
          rw [hon, getD_both hun] at h2
          cases h2
        | false =>
          have hjs : j < listed.size := by rw [inv.size]; omega
          exact ih (t - j) (by omega) j rfl (by omega) (getD_in hjs hl) t (Nat.le_refl _) hr
    · have h1 := List.all_eq_true.1 hc t (List.mem_range.2 htlt)
      simp only [Bool.or_eq_true, decide_eq_true_eq] at h1
      rcases h1 with h1 | h1
      · omega
      · obtain ⟨j, hj, hj2⟩ := List.any_eq_true.1 h1
        simp only [Bool.and_eq_true, decide_eq_true_eq] at hj2
        obtain ⟨o', ho', e, he, hb, hon⟩ := Region.waitsFor_spec hj2.2
        have : o' = ot := Option.some.inj (ho'.symm.trans hot)
        subst this
        have h2 := hall e he hb
        have hjt := List.mem_range.1 hj
        rw [hon, getD_both (inv.tail j hj2.1 (by omega))] at h2
        cases h2
theorem headQ_first' {n i : Nat} {oi : Oper} {v : Value} {L : Array Bool → Act → Prop} (hi : ops[i]? = some oi) (hsel : ∀ (j : Nat) (o : Oper) cs b, ops[j]? = some o → o.op ≠ .select cs b)
    (hs : Region.sinkB md ops n = true) (hc : hangB md ops n = true) (hin : i < n)
    (hdone : ∀ listed a, L listed a → ∀ j ∈ Region.ready md ops listed, n ≤ j) :
    ∀ (f : Nat) (listed : Array Bool) (a : Act), HeadInv md ops n listed →
      (∀ j oj, ops[j]? = some oj → j ≠ i → listed.getD j true = false → (∀ e ∈ oj.after, Region.binds md e = true → e.on ≠ i) → oi.apart ops oj = true) →
      i ∈ Region.ready md ops listed → YieldsIn P ops C oi v a →
      headQ P md ops C n L f (listed.setIfInBounds i true) (a.put oi.dst v) → headQ P md ops C n L (f + 1) listed a := by
  intro f
  induction f with
  | zero =>
    intro listed a inv _ hr hy H
    have hun := (mem_ready.1 hr).1
    refine ⟨fun h => (by rw [h] at hr; cases hr), fun j hj => ?_⟩
    have hjn : j < n := by
      rcases Nat.lt_or_ge j n with h | h
      · exact h
      · exact absurd hj (hang_waits hs hc inv _ i rfl hin hun j h)
    refine ⟨hjn, ?_⟩
    by_cases hji : j = i
    · subst hji; exact hy.qOp hi H
    · have := hdone _ _ H j (ready_mono hj hji)
      omega
  | succ f ih =>
    intro listed a inv hfree hr hy H
    have hun := (mem_ready.1 hr).1
    refine ⟨fun h => (by rw [h] at hr; cases hr), fun j hj => ?_⟩
    have hjn : j < n := by
      rcases Nat.lt_or_ge j n with h | h
      · exact h
      · exact absurd hj (hang_waits hs hc inv _ i rfl hin hun j h)
    refine ⟨hjn, ?_⟩
    by_cases hji : j = i
    · subst hji; exact hy.qOp hi H
    · have h1 := (H.2 j (ready_mono hj hji)).2
      obtain ⟨hjun, oj, hoj, hall⟩ := mem_ready.1 hj
      have hnot : ∀ e ∈ oj.after, Region.binds md e = true → e.on ≠ i := fun e he hb heq => by
        have h1 := hall e he hb
        rw [heq, getD_both hun] at h1
        cases h1
      have h2 := qOp_put hoj (hfree j oj hoj hji hjun hnot) (fun cs b => hsel i oi cs b hi) (fun cs b => hsel j oj cs b hoj) hy h1
      have hfree' : ∀ k ok, ops[k]? = some ok → k ≠ i → (listed.setIfInBounds j true).getD k true = false →
          (∀ e ∈ ok.after, Region.binds md e = true → e.on ≠ i) → oi.apart ops ok = true := fun k ok hk hki hun hno => by
        refine hfree k ok hk hki ?_ hno
        by_cases hjk : j = k
        · subst hjk; exact hjun
        · rw [getD_set_ne true hjk] at hun; exact hun
      refine qOp_mono (fun a' h3 => ih (listed.setIfInBounds j true) a' (inv.set hj hjn) hfree' (ready_mono hr (Ne.symm hji)) h3.1 ?_) h2
      rw [Array.setIfInBounds_comm _ _ hji]
      exact h3.2
def midEnd (md : Region.Mode) (ops : Array Oper) (k : Nat) (listed : Array Bool) : Bool :=
  decide (Region.ready md ops listed = [k]) && Region.lexFrom md ops (ops.size - (k + 1)) (k + 1) (listed.setIfInBounds k true)
def lexMid (md : Region.Mode) (ops : Array Oper) : Nat → Nat → Array Bool → Bool
  | 0, k, listed => midEnd md ops k listed
  | f + 1, k, listed => (Region.ready md ops listed).contains k && Region.free md ops listed k && lexMid md ops f (k + 1) (listed.setIfInBounds k true)
def midB (md : Region.Mode) (ops : Array Oper) (n : Nat) : Bool :=
  Region.noSelect ops && decide (n < ops.size) && Region.sinkB md ops n && hangB md ops n && lexMid md ops n 0 (Array.replicate ops.size false)
theorem headQ_mid {n : Nat} {Lq : Act → Prop} (hsel : Region.noSelect ops = true) (hs : Region.sinkB md ops n = true) (hc : hangB md ops n = true) :
    ∀ (l : List Oper) (k : Nat) (listed : Array Bool) (a : Act), (∀ j, j < l.length → l[j]? = ops[k + j]?) → k + l.length = n → HeadInv md ops n listed →
    lexMid md ops l.length k listed = true → wpQuiet P ops C Lq l a →
    headQ P md ops C n (fun listed' a' => midEnd md ops n listed' = true ∧ Lq a') l.length listed a
  | [], k, listed, a, _, hk, _, hB, h => by
    have : k = n := by simpa using hk
    subst this
    exact ⟨by simpa [lexMid] using hB, h⟩
  | o :: l, k, listed, a, hl, hk, inv, hB, h => by
    have h0 : ops[k]? = some o := by simpa using (hl 0 (by simp)).symm
    simp only [List.length_cons, lexMid, Bool.and_eq_true] at hB
    obtain ⟨⟨hr, hf⟩, hB'⟩ := hB
    have hkn : k < n := by simp only [List.length_cons] at hk; omega
    have hr' : k ∈ Region.ready md ops listed := by simpa using hr
    have hst : qOp P ops C k (wpQuiet P ops C Lq l) a := by unfold qOp; simp only [h0]; exact h
    obtain ⟨v, hy, hK⟩ := yieldsIn_of_qOp h0 hst
    refine headQ_first' h0 (Region.noSelect_spec hsel) hs hc hkn (fun listed' a' hL => ?_) l.length listed a inv (Region.free_spec h0 hf) hr' hy
      (headQ_mid hsel hs hc l (k + 1) _ _ (fun j hj => by have := hl (j + 1) (by simp; omega); simpa [Nat.add_assoc, Nat.add_comm 1 j] using this) (by simp only [List.length_cons] at hk; omega) (inv.set hr' hkn) hB' hK)
    intro j hj
    have h1 := hL.1
    simp only [midEnd, Bool.and_eq_true, decide_eq_true_eq] at h1
    rw [h1.1] at hj
    have : j = n := by simpa using hj
    omega
/-- The head is quiet in C; then operation n; then the rest is quiet in whatever class holds behind it. -/
theorem wp_region_mid {id : Nat} {Q : Exit → Act → World → Prop} {a : Act} {w : World} {l : List Oper} (n : Nat) (o : Oper) (ho : l[n]? = some o) (hm : P.follows .mixedOrders = true) (hB : midB .any l.toArray n = true) (hC : C { w with drawn := w.drawn + 1 })
    (h : wpQuiet P l.toArray C (fun a' => ∀ w', C w' → ∀ K : Act → World → Prop, (∀ (C2 : World → Prop) a2 w2, C2 w2 → wpQuiet P l.toArray C2 (fun a3 => ∀ w3, C2 w3 → Q .normal a3 w3) (l.drop (n + 1)) a2 → K a2 w2) →
      if Region.wanted o (yielded l.toArray a'.tmps) = true then o.wp P a' w' K Q else K (a'.put o.dst undef) w') (l.take n) a) : (Code.region id l.toArray true).wp P Q a w := by
  simp only [midB, Bool.and_eq_true, decide_eq_true_eq] at hB
  obtain ⟨⟨⟨⟨hsel, hn⟩, hs⟩, hc⟩, hlex⟩ := hB
  have hn' : n < l.length := by simpa using hn
  have htl : (l.take n).length = n := by simp; omega
  have inv0 : HeadInv .any l.toArray n (Array.replicate l.toArray.size false) :=
    ⟨by simp, fun j oj _ hl => (by rw [getD_replicate_false] at hl; cases hl), fun t _ ht => getD_in (by simpa using ht) (getD_replicate_false _ _)⟩
  have H := headQ_mid (md := .any) hsel hs hc (l.take n) 0 _ a (fun j hj => by
    have hj' : j < n := by rw [htl] at hj; exact hj
    simp [hj']) (by simpa using htl) inv0 (by rw [htl]; exact hlex) h
  refine wp_region_any hm ?_
  have hg : l.toArray.size - n = (l.toArray.size - (n + 1)) + 1 := by omega
  have := wpAny_of_headQ (Q' := Q) (g := l.toArray.size - n) (fun listed a' w' hw' hL => by
    obtain ⟨hm1, hL⟩ := hL
    simp only [midEnd, Bool.and_eq_true, decide_eq_true_eq] at hm1
    rw [hg]
    refine ⟨fun h1 => (by rw [hm1.1] at h1; cases h1), fun i hi => ?_⟩
    rw [hm1.1] at hi
    obtain rfl : i = n := by simpa using hi
    have hk := hL w' hw' (wpAny P .any l.toArray Q (l.toArray.size - (i + 1)) (listed.setIfInBounds i true)) (fun C2 a2 w2 hC2 hq => by
      have hx := wpAnyQ_lex (C := C2) (md := .any) hsel (l.drop (i + 1)) (i + 1) (listed.setIfInBounds i true) a2 (fun j => by simp [List.getElem?_drop]) (by
        have : (l.drop (i + 1)).length = l.toArray.size - (i + 1) := by simp
        rw [this]; exact hm1.2) hq
      have : (l.drop (i + 1)).length = l.toArray.size - (i + 1) := by simp
      rw [this] at hx
      exact wpAny_of_quiet (Q := fun a' => ∀ w', C2 w' → Q .normal a' w') (fun _ w' hw' h => h w' hw') _ _ _ _ hC2 hx)
    unfold wpOp
    have ho' : l.toArray[i]? = some o := by simpa using ho
    simp only [ho']
    split
    · rename_i hw; rw [if_pos hw] at hk; exact .inl hk
    · rename_i hw; rw [if_neg hw] at hk; exact hk) _ _ _ _ hC H
  rw [htl, show n + (l.toArray.size - n) = l.toArray.size by omega] at this
  exact this
end
end Go.Proofs.YtfbangojgjcbcaaGreatDoor
namespace Go.Proofs.YtfbangojgjcbcaaGreatDoor
open Go.RowKit Pl
section
variable {P : Program} {ops : Array Oper} {md : Region.Mode}
theorem wp_then {o : Oper} {a : Act} {w : World} {K K' : Act → World → Prop} {Q : Exit → Act → World → Prop} (hh : o.wp P a w K (Exit.then K' Q)) : o.wp P a w K Q := by
  unfold Oper.wp at *
  generalize (execOp a.eval o).run P w = r at *
  cases r with
  | ok n w' =>
    cases n <;> simp only [Oper.upon] at hh ⊢ <;>
      first
        | exact hh
        | exact Calls.mono hh (fun e w'' he => by cases e <;> exact he)
  | halt x w' => cases x <;> simp only [Oper.upon] at hh ⊢ <;> exact hh
end
end Go.Proofs.YtfbangojgjcbcaaGreatDoor
namespace Go.Proofs.YtfbangojgjcbcaaGreatDoor
open Go.RowKit Pl
section
variable {P : Program} {ops : Array Oper} {md : Region.Mode} {C : World → Prop}
/-- Each operation of the head, but for the first f0, is waited for by a later one of the head, or by the tail's first. -/
def sinkF (md : Region.Mode) (ops : Array Oper) (f0 n : Nat) : Bool :=
  (List.range n).all fun i => decide (i < f0) || (List.range (n + 1)).any fun j => decide (i < j) && Region.waitsFor md ops j i
/-- Where an operation of the tail may come up, all of the head but its first f0 have come up. -/
theorem head_done {f0 n t : Nat} {listed : Array Bool} (hs : sinkF md ops f0 n = true) (hc : Region.chainB md ops n = true) (inv : HeadInv md ops n listed) (ht : n ≤ t) (hr : t ∈ Region.ready md ops listed) :
    ∀ (d i : Nat), n ≤ i + d → f0 ≤ i → i < n → listed.getD i false = true := by
  obtain ⟨-, ot, hot, hall⟩ := mem_ready.1 hr
  have hlt : t < ops.size := (Array.getElem?_eq_some_iff.1 hot).1
  have waits : ∀ {i : Nat}, Region.waitsFor md ops t i = true → listed.getD i false = true := fun h => by
    obtain ⟨o', ho', e, he, hb, rfl⟩ := Region.waitsFor_spec h
    rw [hot] at ho'
    cases ho'
    exact hall e he hb
  have htn : t = n := by
    have h1 := List.all_eq_true.1 hc t (List.mem_range.2 hlt)
    rcases (Bool.or_eq_true _ _).mp h1 with h1 | h1
    · have := of_decide_eq_true h1; omega
    · rcases Nat.lt_or_ge n t with h | h
      · have h2 := inv.tail (t - 1) (by omega) (by omega)
        have h3 := waits h1
        rw [getD_both h2] at h3
        cases h3
      · omega
  subst htn
  intro d
  induction d with
  | zero => intro i h1 _ h2; omega
  | succ d ih =>
    intro i hd hf hi
    have h1 := List.all_eq_true.1 hs i (List.mem_range.2 hi)
    rcases (Bool.or_eq_true _ _).mp h1 with h1 | h1
    · have := of_decide_eq_true h1; omega
    · obtain ⟨j, hj, h2⟩ := List.any_eq_true.1 h1
      obtain ⟨h3, h4⟩ := (Bool.and_eq_true _ _).mp h2
      have h3 := of_decide_eq_true h3
      have h5 := List.mem_range.1 hj
      rcases Nat.lt_or_ge j t with h6 | h6
      · have h7 := ih j (by omega) (by omega) h6
        obtain ⟨oj, hoj, e, he, hb, rfl⟩ := Region.waitsFor_spec h4
        exact inv.closed j oj hoj h7 e he hb
      · obtain rfl : j = t := by omega
        exact waits h4
theorem tail_waitsF {f0 n i : Nat} {listed : Array Bool} (hs : sinkF md ops f0 n = true) (hc : Region.chainB md ops n = true) (inv : HeadInv md ops n listed) (hi : i < n) (hfi : f0 ≤ i) (hun : listed.getD i true = false) :
    ∀ t, n ≤ t → t ∉ Region.ready md ops listed := fun t ht hr => by
  have := head_done hs hc inv ht hr n i (by omega) hfi hi
  rw [getD_both hun] at this
  cases this
theorem headF_first {f0 n i : Nat} {oi : Oper} {v : Value} {L : Array Bool → Act → Prop} (hi : ops[i]? = some oi) (hsel : ∀ (j : Nat) (o : Oper) cs b, ops[j]? = some o → o.op ≠ .select cs b)
    (hs : sinkF md ops f0 n = true) (hc : Region.chainB md ops n = true) (_hn : n < ops.size) (hin : i < n) (hfi : f0 ≤ i)
    (hdone : ∀ listed a, L listed a → ∀ j ∈ Region.ready md ops listed, n ≤ j) :
    ∀ (f : Nat) (listed : Array Bool) (a : Act), HeadInv md ops n listed →
      (∀ j oj, ops[j]? = some oj → j ≠ i → listed.getD j true = false → (∀ e ∈ oj.after, Region.binds md e = true → e.on ≠ i) → oi.apart ops oj = true) →
      i ∈ Region.ready md ops listed → YieldsIn P ops C oi v a →
      headQ P md ops C n L f (listed.setIfInBounds i true) (a.put oi.dst v) → headQ P md ops C n L (f + 1) listed a := by
  intro f
  induction f with
  | zero =>
    intro listed a inv _ hr hy H
    have hun := (mem_ready.1 hr).1
    refine ⟨fun h => (by rw [h] at hr; cases hr), fun j hj => ?_⟩
    have hjn : j < n := by
      rcases Nat.lt_or_ge j n with h | h
      · exact h
      · exact absurd hj (tail_waitsF hs hc inv hin hfi hun j h)
    refine ⟨hjn, ?_⟩
    by_cases hji : j = i
    · subst hji; exact hy.qOp hi H
    · have := hdone _ _ H j (ready_mono hj hji)
      omega
  | succ f ih =>
    intro listed a inv hfree hr hy H
    have hun := (mem_ready.1 hr).1
    refine ⟨fun h => (by rw [h] at hr; cases hr), fun j hj => ?_⟩
    have hjn : j < n := by
      rcases Nat.lt_or_ge j n with h | h
      · exact h
      · exact absurd hj (tail_waitsF hs hc inv hin hfi hun j h)
    refine ⟨hjn, ?_⟩
    by_cases hji : j = i
    · subst hji; exact hy.qOp hi H
    · have h1 := (H.2 j (ready_mono hj hji)).2
      obtain ⟨hjun, oj, hoj, hall⟩ := mem_ready.1 hj
      have hnot : ∀ e ∈ oj.after, Region.binds md e = true → e.on ≠ i := fun e he hb heq => by
        have h1 := hall e he hb
        rw [heq, getD_both hun] at h1
        cases h1
      have h2 := qOp_put hoj (hfree j oj hoj hji hjun hnot) (fun cs b => hsel i oi cs b hi) (fun cs b => hsel j oj cs b hoj) hy h1
      have hfree' : ∀ k ok, ops[k]? = some ok → k ≠ i → (listed.setIfInBounds j true).getD k true = false →
          (∀ e ∈ ok.after, Region.binds md e = true → e.on ≠ i) → oi.apart ops ok = true := fun k ok hk hki hun hno => by
        refine hfree k ok hk hki ?_ hno
        by_cases hjk : j = k
        · subst hjk; exact hjun
        · rw [getD_set_ne true hjk] at hun; exact hun
      refine qOp_mono (fun a' h3 => ih (listed.setIfInBounds j true) a' (inv.set hj hjn) hfree' (ready_mono hr (Ne.symm hji)) h3.1 ?_) h2
      rw [Array.setIfInBounds_comm _ _ hji]
      exact h3.2
theorem headF_lex {f0 n g : Nat} {Lq : Act → Prop} (hsel : Region.noSelect ops = true) (hs : sinkF md ops f0 n = true) (hc : Region.chainB md ops n = true) (hn : n < ops.size) :
    ∀ (l : List Oper) (k : Nat) (listed : Array Bool) (a : Act), (∀ j, j < l.length → l[j]? = ops[k + j]?) → k + l.length = n → f0 ≤ k → HeadInv md ops n listed →
    Region.lexHead md ops g l.length k listed = true → wpQuiet P ops C Lq l a →
    headQ P md ops C n (fun listed' a' => Region.seqB md ops g n listed' = true ∧ Lq a') l.length listed a
  | [], k, listed, a, _, hk, _, _, hB, h => by
    have : k = n := by simpa using hk
    subst this
    exact ⟨by simpa [Region.lexHead] using hB, h⟩
  | o :: l, k, listed, a, hl, hk, hfk, inv, hB, h => by
    have h0 : ops[k]? = some o := by simpa using (hl 0 (by simp)).symm
    simp only [List.length_cons, Region.lexHead, Bool.and_eq_true] at hB
    obtain ⟨⟨hr, hf⟩, hB'⟩ := hB
    have hkn : k < n := by simp only [List.length_cons] at hk; omega
    have hr' : k ∈ Region.ready md ops listed := by simpa using hr
    have hst : qOp P ops C k (wpQuiet P ops C Lq l) a := by unfold qOp; simp only [h0]; exact h
    obtain ⟨v, hy, hK⟩ := yieldsIn_of_qOp h0 hst
    exact headF_first h0 (Region.noSelect_spec hsel) hs hc hn hkn hfk (fun listed' a' hL => seqB_ready hL.1) l.length listed a inv (Region.free_spec h0 hf) hr' hy
      (headF_lex hsel hs hc hn l (k + 1) _ _ (fun j hj => by have := hl (j + 1) (by simp; omega); simpa [Nat.add_assoc, Nat.add_comm 1 j] using this) (by simp only [List.length_cons] at hk; omega) (by omega) (inv.set hr' hkn) hB' hK)
def floatB (md : Region.Mode) (ops : Array Oper) (n : Nat) : Bool :=
  Region.noSelect ops && decide (n < ops.size) && decide (0 < n) && sinkF md ops 1 n && Region.chainB md ops n && ((Region.ready md ops (Array.replicate ops.size false)).contains 0 && Region.free md ops (Array.replicate ops.size false) 0) && Region.lexHead md ops (ops.size - n) (n - 1) 1 ((Array.replicate ops.size false).setIfInBounds 0 true)
theorem wp_region_ext_float {id : Nat} {Q : Exit → Act → World → Prop} {a : Act} {W : World} {l : List Oper} {o0 : Oper} {v : Value} {l' : List Oper} (n : Nat) (hm : P.follows .mixedOrders = true) (hB : floatB .any l.toArray n = true) (hl : l = o0 :: l')
    (hy : Yields P l.toArray o0 v a) (hQ : ∀ c a w, Q (.panic c) (a.put o0.dst v) w → Q (.panic c) a w)
    (h : wpQuiet P l.toArray (fun w' => ∃ x : Ext W, w' = x.w) (fun a' => ∀ w', (∃ x : Ext W, w' = x.w) → wpList P l.toArray Q (l.drop n) a' w') (l.take n) a) : (Code.region id l.toArray true).wp P Q a W := by
  have h0 : l.toArray[0]? = some o0 := by rw [hl]; simp
  simp only [floatB, Bool.and_eq_true, decide_eq_true_eq] at hB
  obtain ⟨⟨⟨⟨⟨⟨hsel, hn⟩, hn0⟩, hs⟩, hc⟩, hr, hf⟩, hlex⟩ := hB
  have hn' : n < l.length := by simpa using hn
  have htl : ((l.take n).drop 1).length = n - 1 := by simp; omega
  have hdl : (l.drop n).length = l.toArray.size - n := by simp
  have inv0 : HeadInv .any l.toArray n (Array.replicate l.toArray.size false) :=
    ⟨by simp, fun j oj _ hl => (by rw [getD_replicate_false] at hl; cases hl), fun t _ ht => getD_in (by simpa using ht) (getD_replicate_false _ _)⟩
  have hr0 : 0 ∈ Region.ready .any l.toArray (Array.replicate l.toArray.size false) := by simpa using hr
  have inv1 := inv0.set hr0 hn0
  have h : wpQuiet P l.toArray (fun w' => ∃ x : Ext W, w' = x.w) (fun a' => ∀ w', (∃ x : Ext W, w' = x.w) → wpList P l.toArray Q (l.drop n) a' w') ((l.take n).drop 1) (a.put o0.dst v) := by
    have e : l.take n = o0 :: (l.take n).drop 1 := by
      obtain ⟨m, rfl⟩ : ∃ m, n = m + 1 := ⟨n - 1, by omega⟩
      rw [hl]; simp
    rw [e] at h
    unfold wpQuiet at h
    rcases hy with ⟨hw, hv⟩ | ⟨hw, rfl⟩
    · rw [if_pos hw] at h
      obtain ⟨v', h1, h2⟩ := h
      have h3 := h1 W ⟨⟨W, Below.refl _ _⟩, rfl⟩
      unfold Oper.quietAt at h3
      rw [hv W] at h3
      have : v = v' := h3.2
      rw [this]; exact h2
    · rw [hw, if_neg (by simp)] at h
      exact h
  have H := headF_lex (md := .any) (f0 := 1) (g := l.toArray.size - n) hsel hs hc hn ((l.take n).drop 1) 1 _ (a.put o0.dst v) (fun j hj => by
    have hj' : j < n - 1 := by rw [htl] at hj; exact hj
    rw [List.getElem?_drop, List.getElem?_take, if_pos (by omega)]
    simp) (by rw [htl]; omega) (Nat.le_refl _) inv1 (by rw [htl]; exact hlex) h
  refine wp_region_any hm ?_
  have := wpAny_of_headQ (Q' := Q) (g := l.toArray.size - n) (fun listed a' w' hw' hL => by
    have := wpAny_of_seq (md := .any) (Q' := Q) (l.drop n) n listed a' w' (fun j => by simp [List.getElem?_drop]) (by rw [hdl]; exact hL.1) (hL.2 w' hw')
    rwa [hdl] at this) _ _ _ ({ W with drawn := W.drawn + 1 }) ⟨⟨_, (Below.refl _ W).drew⟩, rfl⟩ H
  have h2 := wpAny_take (fuel := n - 1 + (l.toArray.size - n)) h0 hsel hf hr hQ hy (by rw [htl] at this; exact this)
  rw [show n - 1 + (l.toArray.size - n) + 1 = l.toArray.size by omega] at h2
  exact h2
end
end Go.Proofs.YtfbangojgjcbcaaGreatDoor
namespace Go.Proofs.YtfbangojgjcbcaaGreatDoor
open Go.RowKit Pl
section
variable {P : Program} {ops : Array Oper} {md : Region.Mode} {C S : World → Prop} {Q : Exit → Act → World → Prop}
/-- 'wpAny', and S holds behind each operation that D does not let off. -/
def wpAnyD (P : Program) (md : Region.Mode) (ops : Array Oper) (Q : Exit → Act → World → Prop) (S : World → Prop) (D : Nat → Bool) : Nat → Array Bool → Act → World → Prop
  | 0, listed, a, w => Region.ready md ops listed = [] ∧ Q .normal a w
  | fuel + 1, listed, a, w =>
    (Region.ready md ops listed = [] → Q .normal a w) ∧
    ∀ i ∈ Region.ready md ops listed, wpOp P ops Q i (fun a' w' => (D i = false → S w') ∧ wpAnyD P md ops Q S D fuel (listed.setIfInBounds i true) a' w') a w
theorem wpAny_of_D {D : Nat → Bool} : ∀ (fuel : Nat) (listed : Array Bool) (a : Act) (w : World), wpAnyD P md ops Q S D fuel listed a w → wpAny P md ops Q fuel listed a w
  | 0, _, _, _, h => h
  | fuel + 1, _, _, _, h => ⟨h.1, fun i hi => wpOp_mono (fun a' w' h' => wpAny_of_D fuel _ a' w' h'.2) (h.2 i hi)⟩
/-- What a listed operation waits for is listed. -/
def Closed (md : Region.Mode) (ops : Array Oper) (listed : Array Bool) : Prop :=
  ∀ j oj, ops[j]? = some oj → listed.getD j false = true → ∀ e ∈ oj.after, Region.binds md e = true → listed.getD e.on false = true
theorem Closed.set {i : Nat} {listed : Array Bool} (h : Closed md ops listed) (hi : i ∈ Region.ready md ops listed) : Closed md ops (listed.setIfInBounds i true) := by
  obtain ⟨_, oi, hoi, hall⟩ := mem_ready.1 hi
  intro j oj hj hl e he hb
  by_cases hij : i = j
  · subst hij
    have : oj = oi := Option.some.inj (hj.symm.trans hoi)
    subst this
    exact getD_set_true (hall e he hb)
  · rw [getD_set_ne false hij] at hl
    exact getD_set_true (h j oj hj hl e he hb)
theorem wpAnyD_first {D : Nat → Bool} {i : Nat} {oi : Oper} {v : Value} (hi : ops[i]? = some oi) (hsel : ∀ (j : Nat) (o : Oper) cs b, ops[j]? = some o → o.op ≠ .select cs b)
    (hQ : ∀ c a w, Q (.panic c) (a.put oi.dst v) w → Q (.panic c) a w)
    (hD : ∀ (listed : Array Bool) (j : Nat), Closed md ops listed → listed.getD i true = false → j ∈ Region.ready md ops listed → j ≠ i → D j = false) :
    ∀ (fuel : Nat) (listed : Array Bool) (a : Act) (w : World), Closed md ops listed →
      (∀ j oj, ops[j]? = some oj → j ≠ i → listed.getD j true = false → (∀ e ∈ oj.after, Region.binds md e = true → e.on ≠ i) → oi.apart ops oj = true) →
      i ∈ Region.ready md ops listed → YieldsIf P ops S oi v a → S w →
      wpAnyD P md ops Q S D fuel (listed.setIfInBounds i true) (a.put oi.dst v) w → wpAny P md ops Q (fuel + 1) listed a w := by
  intro fuel
  induction fuel with
  | zero =>
    intro listed a w _ _ hr hy hS H
    refine ⟨fun h => (by rw [h] at hr; cases hr), fun j hj => ?_⟩
    by_cases hji : j = i
    · subst hji; exact hy.wpOp hi hS H
    · have := ready_mono hj hji
      rw [H.1] at this
      cases this
  | succ fuel ih =>
    intro listed a w hcl hfree hr hy hS H
    refine ⟨fun h => (by rw [h] at hr; cases hr), fun j hj => ?_⟩
    by_cases hji : j = i
    · subst hji; exact hy.wpOp hi hS (wpAny_of_D _ _ _ _ H)
    · have h1 := H.2 j (ready_mono hj hji)
      have hun := (mem_ready.1 hr).1
      have hDj := hD listed j hcl hun hj hji
      obtain ⟨hjun, oj, hoj, hall⟩ := mem_ready.1 hj
      have hnot : ∀ e ∈ oj.after, Region.binds md e = true → e.on ≠ i := fun e he hb heq => by
        have h1 := hall e he hb
        rw [heq, getD_both hun] at h1
        cases h1
      have h2 := wpOp_putIf hoj (hfree j oj hoj hji hjun hnot) (fun cs b => hsel i oi cs b hi) (fun cs b => hsel j oj cs b hoj) hQ hy h1
      have hfree' : ∀ k ok, ops[k]? = some ok → k ≠ i → (listed.setIfInBounds j true).getD k true = false →
          (∀ e ∈ ok.after, Region.binds md e = true → e.on ≠ i) → oi.apart ops ok = true := fun k ok hk hki hun hno => by
        refine hfree k ok hk hki ?_ hno
        by_cases hjk : j = k
        · subst hjk; exact hjun
        · rw [getD_set_ne true hjk] at hun; exact hun
      refine wpOp_mono (fun a' w' h3 => ih (listed.setIfInBounds j true) a' w' (hcl.set hj) hfree' (ready_mono hr (Ne.symm hji)) h3.1 (h3.2.1 hDj) ?_) h2
      rw [Array.setIfInBounds_comm _ _ hji]
      exact h3.2.2
/-- No operation behind number n + 1 comes up ahead of number 0. -/
theorem late_waits {n : Nat} (hc : Region.chainB md ops n = true) (h0 : Region.waitsFor md ops (n + 1) 0 = true) (listed : Array Bool) (j : Nat) (hcl : Closed md ops listed) (hun : listed.getD 0 true = false)
    (hj : j ∈ Region.ready md ops listed) (_ : j ≠ 0) : decide (n < j) = false := by
  have step : ∀ k, n < k → k < ops.size → Region.waitsFor md ops k (if k = n + 1 then 0 else k - 1) = true := fun k hk hlt => by
    by_cases hk1 : k = n + 1
    · subst hk1; rw [if_pos rfl]; exact h0
    · rw [if_neg hk1]
      have h1 := List.all_eq_true.1 hc k (List.mem_range.2 hlt)
      rcases (Bool.or_eq_true _ _).mp h1 with h1 | h1
      · have := of_decide_eq_true h1; omega
      · exact h1
  have claim : ∀ k, n < k → k < ops.size → listed.getD k false = true → False := by
    intro k
    induction k using Nat.strongRecOn with
    | _ k ih =>
      intro hk hlt hl
      obtain ⟨o, ho, e, he, hb, hon⟩ := Region.waitsFor_spec (step k hk hlt)
      have h2 := hcl k o ho hl e he hb
      rw [hon] at h2
      by_cases hk1 : k = n + 1
      · rw [if_pos hk1, getD_both hun] at h2; cases h2
      · rw [if_neg hk1] at h2
        exact ih (k - 1) (by omega) (by omega) (by omega) h2
  refine decide_eq_false fun hnj => ?_
  obtain ⟨_, oj, hoj, hall⟩ := mem_ready.1 hj
  have hlt : j < ops.size := (Array.getElem?_eq_some_iff.1 hoj).1
  obtain ⟨o, ho, e, he, hb, hon⟩ := Region.waitsFor_spec (step j hnj hlt)
  have : o = oj := Option.some.inj (ho.symm.trans hoj)
  subst this
  have h2 := hall e he hb
  rw [hon] at h2
  by_cases hk1 : j = n + 1
  · rw [if_pos hk1, getD_both hun] at h2; cases h2
  · rw [if_neg hk1] at h2
    exact claim (j - 1) (by omega) (by omega) h2
theorem wpAnyD_of_headQ {D : Nat → Bool} {n g : Nat} {L : Array Bool → Act → Prop} (hL : ∀ listed a w, C w → L listed a → wpAnyD P md ops Q C D g listed a w) :
    ∀ (f : Nat) (listed : Array Bool) (a : Act) (w : World), C w → headQ P md ops C n L f listed a → wpAnyD P md ops Q C D (f + g) listed a w
  | 0, listed, a, w, hw, h => by rw [Nat.zero_add]; exact hL _ _ _ hw h
  | f + 1, listed, a, w, hw, h => by
    rw [show f + 1 + g = (f + g) + 1 by omega]
    exact ⟨fun h0 => absurd h0 h.1, fun i hi => wpOp_of_qOp hw (fun a' w' hw' h' => ⟨fun _ => hw', wpAnyD_of_headQ hL f _ a' w' hw' h'⟩) (h.2 i hi).2⟩
/-- A tail in one forced order, all of whose operations are let off. -/
theorem wpAnyD_of_seq {D : Nat → Bool} : ∀ (l : List Oper) (k : Nat) (listed : Array Bool) (a : Act) (w : World), (∀ j, l[j]? = ops[k + j]?) → (∀ j, k ≤ j → D j = true) →
    Region.seqB md ops l.length k listed = true → wpList P ops Q l a w → wpAnyD P md ops Q S D l.length listed a w
  | [], _, _, _, _, _, _, hB, h => ⟨by simpa [Region.seqB] using hB, h⟩
  | o :: l, k, listed, a, w, hl, hD, hB, h => by
    have h0 : ops[k]? = some o := by simpa using (hl 0).symm
    simp only [List.length_cons, Region.seqB, Bool.and_eq_true, decide_eq_true_eq] at hB
    refine ⟨fun h1 => (by rw [hB.1] at h1; cases h1), fun i hi => ?_⟩
    rw [hB.1] at hi
    have hik : i = k := by simpa using hi
    subst hik
    have hw : wpOp P ops Q i (wpList P ops Q l) a w := by unfold wpOp; simp only [h0]; exact h
    exact wpOp_mono (fun a' w' h' => ⟨fun h => (by rw [hD i (Nat.le_refl _)] at h; cases h), wpAnyD_of_seq l (i + 1) _ a' w' (fun j => by have := hl (j + 1); simpa [Nat.add_assoc, Nat.add_comm 1 j] using this) (fun j hj => hD j (by omega)) hB.2 h'⟩) hw
theorem wpList_one {o : Oper} {K : Act → World → Prop} {k : Nat} {a : Act} {w : World} (h0 : ops[k]? = some o) (h : wpList P ops (Exit.then K Q) [o] a w) : wpOp P ops Q k K a w := by
  unfold wpOp
  simp only [h0]
  unfold wpList at h
  have hn : ∀ a w, wpList P ops (Exit.then K Q) [] a w = K a w := fun _ _ => rfl
  split
  · rename_i hw
    rw [if_pos hw] at h
    rcases h with h | h
    · refine .inl ?_
      unfold Oper.wp at *
      generalize (execOp a.eval o).run P w = r at *
      cases r with
      | ok n w' =>
        cases n <;> simp only [Oper.upon] at h ⊢
        case value => exact h
        case skip => exact h
        case defer => exact h
        case enter f args =>
          refine Calls.mono h fun e w'' he => ?_
          cases e with
          | returned u => exact he
          | panicked c => exact he
          | outgrown => obtain ⟨a, w, he⟩ := he; exact ⟨a, w, he⟩
        case row => exact h
      | halt x w' =>
        cases x <;> simp only [Oper.upon] at h ⊢
        case panic => exact h
    · exact .inr ⟨h.1, by obtain ⟨a, w, he⟩ := h.2; exact ⟨a, w, he⟩⟩
  · rename_i hw
    rw [if_neg hw] at h
    exact h
def loadB (md : Region.Mode) (ops : Array Oper) (n : Nat) : Bool := floatB md ops n && Region.waitsFor md ops (n + 1) 0
theorem wp_region_ext_load {id : Nat} {Q : Exit → Act → World → Prop} {a : Act} {W : World} {l : List Oper} {o0 on : Oper} {v : Value} {l' : List Oper} (n : Nat) (hm : P.follows .mixedOrders = true) (hB : loadB .any l.toArray n = true) (hl : l = o0 :: l')
    (hon : l.drop n = on :: l.drop (n + 1)) (hy : YieldsIf P l.toArray (fun w' => ∃ x : Ext W, w' = x.w) o0 v a) (hQ : ∀ c a w, Q (.panic c) (a.put o0.dst v) w → Q (.panic c) a w)
    (h : wpQuiet P l.toArray (fun w' => ∃ x : Ext W, w' = x.w)
      (fun a' => ∀ w', (∃ x : Ext W, w' = x.w) → wpList P l.toArray (Exit.then (fun a2 w2 => (∃ x : Ext W, w2 = x.w) ∧ wpList P l.toArray Q (l.drop (n + 1)) a2 w2) Q) [on] a' w')
      ((l.take n).drop 1) (a.put o0.dst v)) : (Code.region id l.toArray true).wp P Q a W := by
  have h0 : l.toArray[0]? = some o0 := by rw [hl]; simp
  simp only [loadB, floatB, Bool.and_eq_true, decide_eq_true_eq] at hB
  obtain ⟨⟨⟨⟨⟨⟨⟨hsel, hn⟩, hn0⟩, hs⟩, hc⟩, hr, hf⟩, hlex⟩, hw0⟩ := hB
  have hn' : n < l.length := by simpa using hn
  have htl : ((l.take n).drop 1).length = n - 1 := by simp; omega
  have hdl : (l.drop n).length = l.toArray.size - n := by simp
  have hln : l.toArray[n]? = some on := by
    have := congrArg (fun m => m[0]?) hon
    simpa using this
  have inv0 : HeadInv .any l.toArray n (Array.replicate l.toArray.size false) :=
    ⟨by simp, fun j oj _ hl => (by rw [getD_replicate_false] at hl; cases hl), fun t _ ht => getD_in (by simpa using ht) (getD_replicate_false _ _)⟩
  have hr0 : 0 ∈ Region.ready .any l.toArray (Array.replicate l.toArray.size false) := by simpa using hr
  have inv1 := inv0.set hr0 hn0
  have H := headF_lex (md := .any) (f0 := 1) (g := l.toArray.size - n) hsel hs hc hn ((l.take n).drop 1) 1 _ (a.put o0.dst v) (fun j hj => by
    have hj' : j < n - 1 := by rw [htl] at hj; exact hj
    rw [List.getElem?_drop, List.getElem?_take, if_pos (by omega)]
    simp) (by rw [htl]; omega) (Nat.le_refl _) inv1 (by rw [htl]; exact hlex) h
  refine wp_region_any hm ?_
  have key := wpAnyD_of_headQ (Q := Q) (D := fun j => decide (n < j)) (g := l.toArray.size - n) (fun listed a' w' hw' hL => by
    have hseq := hL.1
    have h1 := wpList_one hln (hL.2 w' hw')
    rw [← hdl, hon, List.length_cons] at hseq ⊢
    simp only [Region.seqB, Bool.and_eq_true, decide_eq_true_eq] at hseq
    refine ⟨fun h1 => (by rw [hseq.1] at h1; cases h1), fun i hi => ?_⟩
    rw [hseq.1] at hi
    have hik : i = n := by simpa using hi
    subst hik
    exact wpOp_mono (fun a2 w2 h2 => ⟨fun _ => h2.1, wpAnyD_of_seq (l.drop (i + 1)) (i + 1) _ a2 w2 (fun j => by simp [List.getElem?_drop]) (fun j hj => decide_eq_true (by omega)) hseq.2 h2.2⟩) h1)
    _ _ _ ({ W with drawn := W.drawn + 1 }) ⟨⟨_, (Below.refl _ W).drew⟩, rfl⟩ H
  have h2 := wpAnyD_first (md := .any) (Q := Q) h0 (Region.noSelect_spec hsel) hQ (fun listed j hcl hun hj hji => late_waits hc hw0 listed j hcl hun hj hji) (n - 1 + (l.toArray.size - n)) _ a
    ({ W with drawn := W.drawn + 1 }) (fun j oj _ hl => (by rw [getD_replicate_false] at hl; cases hl)) (Region.free_spec h0 hf) hr0 hy ⟨⟨_, (Below.refl _ W).drew⟩, rfl⟩ (by rw [htl] at key; exact key)
  rw [show n - 1 + (l.toArray.size - n) + 1 = l.toArray.size by omega] at h2
  exact h2
end
end Go.Proofs.YtfbangojgjcbcaaGreatDoor
namespace Go.Proofs.YtfbangojgjcbcaaGreatDoor
open Go.RowKit Pl
set_option maxHeartbeats 400000 in
theorem rhas (a n x : Int) (w : World) (ha : IsAddr a) (hx : IsAddr x) :
    Calls Tryz.prog 120 #[.agg #[.int .u32 a, .int .i64 n], .int .u32 x] w fun e w' => e = .returned (.bool (hasP a n x)) ∧ Below w.heap.size w w' := by
  by_cases hm : mayP a n = true
  · obtain ⟨h0, h1⟩ := mayP_len hm
    have HH : Hid (hasP a n x = (firstP x n == a)) := by unfold hasP; rw [hm]; exact Lib.hid (by simp; rfl)
    have HM := Lib.hid hm; clear hm
    go_enter Tryz.func120, Tryz.ntmps120
    go_wp2
    refine wp_region_ext (by kernel_rfl) (by kernel_rfl) ?_
    repeat (go_big_quiet_step (first | (go_at_call 118; exact Ext.call (rmay_at a n true _ ha HM.out)) | (go_at_call 158; exact Ext.callq (rfirst x n _ hx h0 h1))))
    refine wpQuiet_nil ?_
    rintro _ ⟨y, rfl⟩
    go_wp2
    go_ret
    exact ⟨by rw [HH.out]; rfl, (by repeat (first | exact Below.refl _ _ | apply Below.drew | apply Go.below_drewN | apply bel_alloc | apply Ext.lift | apply bel_set0 | apply bel_set))⟩
  · have HH : Hid (hasP a n x = false) := by unfold hasP; simp only [Bool.not_eq_true] at hm; rw [hm]; exact Lib.hid rfl
    have HM := Lib.hid (show mayP a n = false by simpa using hm); clear hm
    go_enter Tryz.func120, Tryz.ntmps120
    go_wp2
    refine wp_region_ext (by kernel_rfl) (by kernel_rfl) ?_
    repeat (go_big_quiet_step (first | (go_at_call 118; exact Ext.call (rmay_at a n false _ ha HM.out))))
    refine wpQuiet_nil ?_
    rintro _ ⟨y, rfl⟩
    go_wp2
    go_ret
    exact ⟨by rw [HH.out]; rfl, (by repeat (first | exact Below.refl _ _ | apply Below.drew | apply Go.below_drewN | apply bel_alloc | apply Ext.lift | apply bel_set0 | apply bel_set))⟩
theorem cmpA (x y : Int) (w : World) : Calls Tryz.prog 168 #[.int .u32 x, .int .u32 y] w fun e w' => e = .returned (.int .i64 (cmpI x y)) ∧ w = w' := by
  unfold cmpI
  by_cases h : x < y
  · rw [if_pos h]
    go_enter Tryz.func168, Tryz.ntmps168
    go_wp2
    go_ret
    exact ⟨rfl, rfl⟩
  · rw [if_neg h]
    by_cases h2 : y < x
    · rw [if_pos h2]
      go_enter Tryz.func168, Tryz.ntmps168
      go_wp2
      go_ret
      exact ⟨rfl, rfl⟩
    · rw [if_neg h2]
      go_enter Tryz.func168, Tryz.ntmps168
      go_wp2
      go_ret
      exact ⟨rfl, rfl⟩
theorem cmpL (x y : Int) (w : World) : Calls Tryz.prog 169 #[.int .i64 x, .int .i64 y] w fun e w' => e = .returned (.int .i64 (cmpI x y)) ∧ w = w' := by
  unfold cmpI
  by_cases h : x < y
  · rw [if_pos h]
    go_enter Tryz.func169, Tryz.ntmps169
    go_wp2
    go_ret
    exact ⟨rfl, rfl⟩
  · rw [if_neg h]
    by_cases h2 : y < x
    · rw [if_pos h2]
      go_enter Tryz.func169, Tryz.ntmps169
      go_wp2
      go_ret
      exact ⟨rfl, rfl⟩
    · rw [if_neg h2]
      go_enter Tryz.func169, Tryz.ntmps169
      go_wp2
      go_ret
      exact ⟨rfl, rfl⟩
def orI (x y : Int) : Int := if x = 0 then y else x
def OrRel (x y : Int) (j : Nat) : Prop := (1 ≤ j → x = 0) ∧ (2 ≤ j → y = 0)
theorem orI_zero (y : Int) : orI 0 y = y := by simp [orI]
theorem orI_ne (x y : Int) (h : ¬ x = 0) : orI x y = x := by simp [orI, h]
set_option maxHeartbeats 400000 in
theorem or2 (x y : Int) (b : Nat) (w : World) (h0 : w.cell? ⟨b, 0, none⟩ = some (.int .i64 x)) (h1 : w.cell? ⟨b, 1, none⟩ = some (.int .i64 y)) :
    Calls Tryz.prog 167 #[.slice (some ⟨b, 0, none⟩) 2 2] w fun e w' => e = .returned (.int .i64 (orI x y)) ∧ w = w' := by
  go_enter Tryz.func167, Tryz.ntmps167
  go_wp2
  go_loop [8] (fun i => ∃ j : Nat, j ≤ 2 ∧ i = .int .i64 j ∧ OrRel x y j) (fun i => 2 - (intOf i).toNat)
  case atStart => exact ⟨0, by omega, rfl, (fun h => by omega), (fun h => by omega)⟩
  case round =>
    obtain ⟨j, hj, rfl, HR⟩ := hrel
    obtain rfl | rfl | rfl : j = 0 ∨ j = 1 ∨ j = 2 := by omega
    · by_cases hx : x = 0
      · subst hx
        go_wp2
        go_round
        case rel => exact ⟨1, by omega, rfl, (fun _ => rfl), (fun h => by omega)⟩
        case measure => simp [intOf]
      · have d : (x != 0) = true := by simpa using hx
        go_wp2
        go_ret
        exact ⟨ret_int (orI_ne x y hx).symm, rfl⟩
    · have hx := HR.1 (Nat.le_refl _)
      subst hx
      by_cases hy : y = 0
      · subst hy
        go_wp2
        go_round
        case rel => exact ⟨2, by omega, rfl, (fun _ => rfl), (fun _ => rfl)⟩
        case measure => simp [intOf]
      · have d : (y != 0) = true := by simpa using hy
        go_wp2
        go_ret
        exact ⟨ret_int (orI_zero _).symm, rfl⟩
    · have hx := HR.1 (by omega)
      have hy := HR.2 (by omega)
      subst hx; subst hy
      go_wp2
      go_ret
      exact ⟨ret_int (orI_zero _).symm, rfl⟩
theorem cmpP_eq (a n b m : Int) : cmpP a n b m = orI (cmpI a b) (cmpI n m) := rfl
set_option maxRecDepth 100000 in
set_option maxHeartbeats 400000 in
theorem compare_any (a n b m : Int) (w : World) :
    Calls Tryz.prog 130 #[.agg #[.int .u32 a, .int .i64 n], .agg #[.int .u32 b, .int .i64 m]] w fun e w' => e = .returned (.int .i64 (cmpP a n b m)) ∧ Below w.heap.size w w' := by
  rw [cmpP_eq]
  go_enter Tryz.func130, Tryz.ntmps130
  go_wp2
  refine wp_region_ext_tail 10 (by kernel_rfl) (by kernel_rfl) ?_
  simp only [List.take_succ_cons, List.take_zero, List.drop_succ_cons, List.drop_zero]
  repeat (go_big_quiet_step (first | (go_at_call 168; exact Ext.callq (cmpA a b _)) | (go_at_call 169; exact Ext.callq (cmpL n m _))))
  refine wpQuiet_nil ?_
  rintro _ ⟨y, rfl⟩
  go_wp2_with (go_at_call 167; refine (or2 (cmpI a b) (cmpI n m) _ _ (by simp) (by simp)).mono ?_; rintro e w' ⟨rfl, rfl⟩)
  go_ret
  exact ⟨rfl, (by repeat (first | exact Below.refl _ _ | apply Below.drew | apply Go.below_drewN | apply bel_alloc | apply Ext.lift | apply bel_set0 | apply bel_set))⟩
set_option maxHeartbeats 400000 in
theorem rcompare (a n b m : Int) (w : World) :
    Calls Tryz.prog 119 #[.agg #[.int .u32 a, .int .i64 n], .agg #[.int .u32 b, .int .i64 m]] w fun e w' => e = .returned (.int .i64 (cmpP a n b m)) ∧ Below w.heap.size w w' := by
  by_cases h1 : a < b
  · have HC : Hid (cmpP a n b m = -1) := Lib.hid (by unfold cmpP cmpI; simp [h1])
    have d1 : (a == b) = false := by simp; omega
    go_enter Tryz.func119, Tryz.ntmps119
    go_wp2
    go_ret
    exact ⟨ret_int (by rw [HC.out]), (by repeat (first | exact Below.refl _ _ | apply Below.drew | apply Go.below_drewN | apply bel_alloc | apply Ext.lift | apply bel_set0 | apply bel_set))⟩
  by_cases h2 : b < a
  · have HC : Hid (cmpP a n b m = 1) := Lib.hid (by unfold cmpP cmpI; simp [h1, h2])
    have d1 : (a == b) = false := by simp; omega
    have d2 : decide (a < b) = false := by simpa using h1
    go_enter Tryz.func119, Tryz.ntmps119
    go_wp2
    go_ret
    exact ⟨ret_int (by rw [HC.out]), (by repeat (first | exact Below.refl _ _ | apply Below.drew | apply Go.below_drewN | apply bel_alloc | apply Ext.lift | apply bel_set0 | apply bel_set))⟩
  obtain rfl : a = b := by omega
  clear h1 h2
  by_cases h3 : n < m
  · have HC : Hid (cmpP a n a m = -1) := Lib.hid (by unfold cmpP cmpI; simp [h3])
    have d1 : (n == m) = false := by simp; omega
    go_enter Tryz.func119, Tryz.ntmps119
    go_wp2
    go_ret
    exact ⟨ret_int (by rw [HC.out]), (by repeat (first | exact Below.refl _ _ | apply Below.drew | apply Go.below_drewN | apply bel_alloc | apply Ext.lift | apply bel_set0 | apply bel_set))⟩
  by_cases h4 : m < n
  · have HC : Hid (cmpP a n a m = 1) := Lib.hid (by unfold cmpP cmpI; simp [h3, h4])
    have d1 : (n == m) = false := by simp; omega
    have d2 : decide (n < m) = false := by simpa using h3
    go_enter Tryz.func119, Tryz.ntmps119
    go_wp2
    go_ret
    exact ⟨ret_int (by rw [HC.out]), (by repeat (first | exact Below.refl _ _ | apply Below.drew | apply Go.below_drewN | apply bel_alloc | apply Ext.lift | apply bel_set0 | apply bel_set))⟩
  obtain rfl : n = m := by omega
  clear h3 h4
  have HC : Hid (cmpP a n a n = 0) := Lib.hid (by unfold cmpP cmpI; simp)
  go_enter Tryz.func119, Tryz.ntmps119
  go_wp2
  go_ret
  exact ⟨ret_int (by rw [HC.out]), (by repeat (first | exact Below.refl _ _ | apply Below.drew | apply Go.below_drewN | apply bel_alloc | apply Ext.lift | apply bel_set0 | apply bel_set))⟩
end Go.Proofs.YtfbangojgjcbcaaGreatDoor
namespace Go.Proofs.YtfbangojgjcbcaaGreatDoor
open Go.RowKit Pl
theorem str_data (l : List UInt8) : (str l).data.toList = l := by simp [str]
theorem str_size (l : List UInt8) : (str l).size = l.length := by simp [str, ByteArray.size]
theorem itoa_any (n : Int) (w : World) (h0 : -1000000000 ≤ n) (h1 : n ≤ 1000000000) (E : Env w) :
    Calls Tryz.prog 58 #[.int .i64 n] w fun e w' => e = .returned (.string (str (Lib.itoa n))) ∧ Below w.heap.size w w' :=
  (Tryz.strconv_Itoa n (by omega) (by omega) w E.pow).mono fun _ _ ⟨he, k, os, hw⟩ => ⟨he, by rw [hw]; exact Lib.below_grow _ _ (Nat.le_refl _) _ _⟩
theorem and255 (x : Nat) (h : x < 4294967296) : bits .and .u32 (x : Int) 255 = ((x % 256 : Nat) : Int) := by
  have := u32_and_nat x 255 h (by decide)
  rw [show (255 : Nat) = 2 ^ 8 - 1 from rfl, and_low] at this
  simpa using this
theorem text_rel {w wr w1 : World} {a j : Nat} {v v' : Value} (hj : j < 4) (hb : Below w.heap.size w wr) (hown : wr.ownsRow w.heap.size 9 1 v j (((octs a).take j).map fun l => .string (str l)))
    (hown' : w1.ownsRow w.heap.size 9 1 v' (j + 1) ((((octs a).take j).map fun l => .string (str l)) ++ [.string (str (Lib.itoa ((oct a j : Nat) : Int)))])) (hg : wr.grownBy w1 v.ownBlock) :
    w1.ownsRow w.heap.size 9 1 v' (j + 1) (((octs a).take (j + 1)).map fun l => .string (str l)) ∧ Below w.heap.size w w1 := by
  constructor
  · rw [octs_take a j hj, List.map_append]
    rw [itoa_nat] at hown'
    exact hown'
  · exact hb.grown hg hb.size fun g hg => (hown.lt g hg).1
theorem join_own {base n : Nat} {v : Value} {ls : List (List UInt8)} {sep : List UInt8} (w : World) (h : w.ownsRow base 9 1 v n (ls.map fun l => .string (str l))) (h0 : 0 < n) (hn : n ≤ 100000) (hlen : (Lib.join ls sep).length ≤ 1000000) :
    Calls Tryz.prog 139 #[v, .string (str sep)] w fun e w' => e = .returned (.string (str (Lib.join ls sep))) ∧ Below w.heap.size w w' := by
  obtain ⟨g, cap, hv, _, hlt⟩ := h.form h0
  subst hv
  have hl : ls.length = n := by have := h.1; simpa using this
  have hcap : n ≤ cap := by
    rcases h.2 with ⟨h', _⟩ | ⟨g', cap', cur, h', _, _, hnc, _⟩
    · cases h'
    · injection h' with _ _ h'; omega
  have e1 : (ls.map str).map (·.data.toList) = ls := by rw [List.map_map]; exact (List.map_congr_left (fun l _ => str_data l)).trans (List.map_id _)
  have key := Tryz.strings_Join g 0 cap (ls.map str) (str sep) w (fun j x hx => by
      have hx' : (ls.map fun l => Value.string (str l))[j]? = some (.string x) := by
        simp only [List.getElem?_map, Option.map_eq_some_iff] at hx ⊢
        obtain ⟨l, h1, h2⟩ := hx
        exact ⟨l, h1, by rw [h2]⟩
      have := h.cells (g := g) rfl j _ hx'
      rw [show ((⟨g, 0, none⟩ : Addr).add j) = ⟨g, 0 + j, none⟩ from by unfold Addr.add; by_cases hj : j = 0 <;> simp [hj]] at this
      exact this) hlt (by simp; omega) (by simp; omega) (by rw [e1, str_data]; omega)
  rw [e1, str_data] at key
  rw [List.length_map, hl] at key
  exact key
set_option maxRecDepth 100000 in
set_option maxHeartbeats 400000 in
theorem addrText_any (a : Nat) (w : World) (ha : a < 4294967296) (E : Env w) :
    Calls Tryz.prog 124 #[.int .u32 a] w fun e w' => e = .returned (.string (str (addrText a))) ∧ Below w.heap.size w w' := by
  go_enter Tryz.func124, Tryz.ntmps124
  go_wp2
  go_loopw [3, 5] (fun v i wr => ∃ j : Nat, j ≤ 4 ∧ i = .int .i64 j ∧ wr.ownsRow w.heap.size 9 1 v j (((octs a).take j).map fun l => .string (str l)) ∧ Below w.heap.size w wr) (fun _ i _ => 4 - (intOf i).toNat)
  case atStart => exact ⟨0, Nat.zero_le _, rfl, by simpa using World.ownsRow_nil _ _ _ _, Below.refl _ _⟩
  case round =>
    obtain ⟨j, hj, rfl, hown, hb⟩ := hrel
    by_cases hlt : j < 4
    · have hbs := hb.size
      have hq : a / 2 ^ (8 * (3 - j)) < 4294967296 := Nat.lt_of_le_of_lt (Nat.div_le_self _ _) ha
      have hand : bits .and .u32 ((a : Int) / 2 ^ (8 * (3 - j))) 255 = (oct a j : Int) := by
        have := and255 _ hq
        simpa [oct] using this
      have ho : oct a j < 256 := oct_lt a j
      have E1 := E.here hb
      clear hq
      go_wp2_with (first | (go_at_call 58; refine (ext_of (itoa_any _ _ (by omega) (by omega) E1)).mono ?_; rintro e w' ⟨rfl, y, rfl⟩; have hown1 := own_below hown y.below; have hb1 := Ext.lift y hb; have hbs1 := hb1.size) | (at_builtin; refine wpList_push rfl _ _ 40 rfl w.heap.size 9 info_str rfl (by decide) Tryz.underlying40 _ _ _ rfl hown1 rfl rfl (by omega) hbs1 ?_; intro v' w1 hown' hg))
      have R := text_rel hlt hb1 hown1 hown' hg
      clear hown hown1 hown' hg hb hb1 hand
      go_wp2
      go_roundw
      case rel => exact ⟨j + 1, by omega, by go_num, R.1, R.2⟩
      case measure => simp [intOf]; omega
    · obtain rfl : j = 4 := by omega
      rw [List.take_of_length_le (by rw [octs_length]; exact Nat.le_refl _)] at hown
      have hl := addrText_len a
      have HJ := Lib.hid (join_own (sep := [46]) wr hown (by omega) (by omega) (by unfold addrText at hl; omega))
      go_wp2_with (go_at_call 139; refine HJ.out.mono ?_; rintro e w' ⟨rfl, hb1⟩)
      go_ret
      exact ⟨rfl, hb.trans (hb1.mono hb.size)⟩
theorem str_append (l m : List UInt8) : str l ++ str m = str (l ++ m) := by
  apply ByteArray.ext
  simp [str]
theorem itoa_size (n : Int) (h0 : 0 ≤ n) (h1 : n < 1000) : (str (Lib.itoa n)).size ≤ 3 := by
  obtain ⟨m, rfl⟩ := Int.eq_ofNat_of_zero_le h0
  rw [str_size, itoa_nat]; exact dec_len m (by omega)
set_option maxRecDepth 100000 in
set_option maxHeartbeats 400000 in
theorem prefixText_ok (a n : Nat) (w : World) (ha : a < 4294967296) (hm : mayP a n = true) (E : Env w) :
    Calls Tryz.prog 125 #[.agg #[.int .u32 a, .int .i64 n]] w fun e w' => e = .returned (.tuple #[.string (str (prefixText a n)), .int .i64 0]) ∧ Below w.heap.size w w' := by
  obtain ⟨h0, h1⟩ := mayP_len hm
  have HT : Hid (str (prefixText a n) = str (addrText a) ++ str [47] ++ str (Lib.itoa n)) := Lib.hid (by simp only [str_append, itoa_nat, prefixText]; congr 1; simp)
  have HM := Lib.hid hm; clear hm
  have hs1 : (str (addrText a)).size ≤ 15 := by rw [str_size]; exact addrText_len a
  have hs2 : (str (Lib.itoa n)).size ≤ 3 := itoa_size n h0 (by omega)
  have E1 := E.alloc (.cells #[.int .u32 a, .int .i64 n] 86)
  go_enter Tryz.func125, Tryz.ntmps125
  go_wp2_with (go_at_call 134; refine (ext_of (may_true a n _ ⟨by omega, by omega⟩ HM.out)).mono ?_; rintro e w' ⟨rfl, y, rfl⟩)
  have E2 := y.env E1
  have hz : w.heap.size < y.w.heap.size := by have := y.below.size; simp only [World.size_alloc] at this; omega
  refine wp_region_ext (by kernel_rfl) (by kernel_rfl) ?_
  repeat (go_big_quiet_step (first | (go_at_call 124; exact Ext.call (addrText_any a _ ha (Ext.env _ E2))) | (go_at_call 58; exact Ext.call (itoa_any n _ (by omega) (by omega) (Ext.env _ E2)))))
  refine wpQuiet_nil ?_
  rintro _ ⟨z, rfl⟩
  go_wp2
  go_ret2
  exact ⟨by rw [HT.out]; rfl, (by repeat (first | exact Below.refl _ _ | apply Below.drew | apply Go.below_drewN | apply bel_alloc | apply Ext.lift | apply bel_set0 | apply bel_set))⟩
theorem putB4 (a : Nat) : putB a 4 = [UInt8.ofNat (a / 2 ^ 24), UInt8.ofNat (a / 2 ^ 16), UInt8.ofNat (a / 2 ^ 8), UInt8.ofNat a] := by
  simp [putB, List.range_succ]
theorem oct_val (a : Nat) : ((UInt8.ofNat (a / 2 ^ 24)).toNat = oct a 0 ∧ (UInt8.ofNat (a / 2 ^ 16)).toNat = oct a 1) ∧ (UInt8.ofNat (a / 2 ^ 8)).toNat = oct a 2 ∧ (UInt8.ofNat a).toNat = oct a 3 := by
  simp [oct]
set_option maxRecDepth 100000 in
set_option maxHeartbeats 1000000 in
theorem raddrText (a : Nat) (w : World) (ha : a < 4294967296) (E : Env w) :
    Calls Tryz.prog 59 #[.int .u32 a] w fun e w' => e = .returned (.string (str (addrText a))) ∧ Below w.heap.size w w' := by
  have HT : Hid (str (Lib.itoa (oct a 0 : Int)) ++ str [46] ++ str (Lib.itoa (oct a 1 : Int)) ++ str [46] ++ str (Lib.itoa (oct a 2 : Int)) ++ str [46] ++ str (Lib.itoa (oct a 3 : Int)) = str (addrText a)) := Lib.hid (by
    rw [addrText_eq]; simp only [str_append, itoa_nat]; congr 1; simp)
  have o0 := oct_lt a 0
  have o1 := oct_lt a 1
  have o2 := oct_lt a 2
  have o3 := oct_lt a 3
  have s0 := itoa_size (oct a 0) (by omega) (by omega)
  have s1 := itoa_size (oct a 1) (by omega) (by omega)
  have s2 := itoa_size (oct a 2) (by omega) (by omega)
  have s3 := itoa_size (oct a 3) (by omega) (by omega)
  have HP := Lib.hid (rput a 4 w (by omega) (by omega) (by omega))
  go_enter Tryz.func59, Tryz.ntmps59
  go_wp2_with (go_at_call 122; refine HP.out.mono ?_; rintro e w' ⟨v, rfl, hown, hb⟩)
  obtain ⟨g, cap, hv, hg1, hg2⟩ := hown.form (by omega)
  subst hv
  rw [putB4] at hown
  obtain ⟨⟨v0, v1⟩, v2, v3⟩ := oct_val a
  have c0 : w'.cell? ⟨g, 0, none⟩ = some (.int .u8 (oct a 0 : Int)) := by rw [hown.cellAt 0 (by omega), ← v0]; rfl
  have c1 : w'.cell? ⟨g, 1, none⟩ = some (.int .u8 (oct a 1 : Int)) := by rw [hown.cellAt 1 (by omega), ← v1]; rfl
  have c2 : w'.cell? ⟨g, 2, none⟩ = some (.int .u8 (oct a 2 : Int)) := by rw [hown.cellAt 2 (by omega), ← v2]; rfl
  have c3 : w'.cell? ⟨g, 3, none⟩ = some (.int .u8 (oct a 3 : Int)) := by rw [hown.cellAt 3 (by omega), ← v3]; rfl
  have E2 := E.here hb
  clear hown v0 v1 v2 v3
  refine wp_region_ext (by kernel_rfl) (by kernel_rfl) ?_
  repeat (go_big_quiet_step (first | (go_at_call 58; exact Ext.call (itoa_any _ _ (by omega) (by omega) (Ext.env _ E2)))))
  refine wpQuiet_nil ?_
  rintro _ ⟨z, rfl⟩
  go_wp2
  go_ret
  exact ⟨by rw [← HT.out]; rfl, hb.trans (z.below.mono hb.size)⟩
set_option maxRecDepth 100000 in
set_option maxHeartbeats 400000 in
theorem rprefixText (a n : Nat) (w : World) (ha : a < 4294967296) (hn : n ≤ 32) (E : Env w) :
    Calls Tryz.prog 60 #[.agg #[.int .u32 a, .int .i64 n]] w fun e w' => e = .returned (.string (str (prefixText a n))) ∧ Below w.heap.size w w' := by
  have HT : Hid (str (prefixText a n) = str (addrText a) ++ str [47] ++ str (Lib.itoa n)) := Lib.hid (by simp only [str_append, itoa_nat, prefixText]; congr 1; simp)
  have hs1 : (str (addrText a)).size ≤ 15 := by rw [str_size]; exact addrText_len a
  have hs2 : (str (Lib.itoa n)).size ≤ 3 := itoa_size n (by omega) (by omega)
  have E2 := E.alloc (.cells #[.int .u32 a, .int .i64 n] 86)
  go_enter Tryz.func60, Tryz.ntmps60
  go_wp2
  refine wp_region_ext (by kernel_rfl) (by kernel_rfl) ?_
  repeat (go_big_quiet_step (first | (go_at_call 59; exact Ext.call (raddrText a _ ha (Ext.env _ E2))) | (go_at_call 58; exact Ext.call (itoa_any n _ (by omega) (by omega) (Ext.env _ E2)))))
  refine wpQuiet_nil ?_
  rintro _ ⟨z, rfl⟩
  go_wp2
  go_ret
  exact ⟨by rw [HT.out]; rfl, (by repeat (first | exact Below.refl _ _ | apply Below.drew | apply Go.below_drewN | apply bel_alloc | apply Ext.lift | apply bel_set0 | apply bel_set))⟩
end Go.Proofs.YtfbangojgjcbcaaGreatDoor
namespace Go.Proofs.YtfbangojgjcbcaaGreatDoor
open Go.RowKit Pl
theorem splitB_str (c : UInt8) (l : List UInt8) : Lib.splitB (str [c]) 0 (Lib.countB (str l) (str [c])) (str l) = (splitOn c l).map str := by
  have h := Lib.splitB_data (str [c]) 0 (Lib.countB (str l) (str [c])) (str l)
  rw [str_data, str_data] at h
  have e : Lib.countB (str l) (str [c]) = Lib.count l [c] := by show Lib.count _ _ = _; rw [str_data, str_data]
  rw [e, split_eq] at h
  rw [e, ← h, List.map_map]
  have : (str ∘ fun x : ByteArray => x.data.toList) = id := by funext x; simp [str]
  rw [this, List.map_id]
/-- What strings.Split leaves: a row of the parts. -/
def Parts (w : World) (v : Value) (ws : List (List UInt8)) : Prop :=
  ∃ b, v = .slice (some ⟨b, 0, none⟩) ws.length ws.length ∧ b < w.heap.size ∧ ∀ j x, ws[j]? = some x → w.cell? ⟨b, j, none⟩ = some (.string (str x))
theorem Parts.below {w w' : World} {v : Value} {ws : List (List UInt8)} (h : Parts w v ws) (hb : Below w.heap.size w w') : Parts w' v ws := by
  obtain ⟨b, rfl, hlt, hc⟩ := h
  exact ⟨b, rfl, Nat.lt_of_lt_of_le hlt hb.size, fun j x hx => (hb.cell hlt).trans (hc j x hx)⟩
theorem split_any (c : UInt8) (l : List UInt8) (w : World) (hl : l.length ≤ 1000000) (E : Env w) :
    Calls Tryz.prog 83 #[.string (str l), .string (str [c])] w fun e w' => ∃ v, e = .returned v ∧ Parts w' v (splitOn c l) ∧ Below w.heap.size w w' := by
  obtain ⟨m, hm⟩ := E.maxlen
  refine (Tryz.strings_Split (str l) (str [c]) m w (by rw [str_size]; omega) hm (by rw [str_size]; simp)).mono fun e w' ⟨he, hw⟩ => ?_
  rw [splitB_str] at hw
  have hlen : Lib.countB (str l) (str [c]) + 1 = (splitOn c l).length := by
    have h := Lib.splitB_all (str [c]) (by rw [str_size]; simp) 0 _ (str l) rfl
    rw [splitB_str, List.length_map] at h; omega
  rw [hlen] at he
  refine ⟨_, he, ⟨w.heap.size, rfl, by rw [hw]; simp, fun j x hx => ?_⟩, by rw [hw]; exact (Below.refl _ _).alloc (Nat.le_refl _) _⟩
  rw [hw, cell_of_row _ w.heap.size j _ _ (0, 0) (heap_alloc_new w _)]
  simp [hx]
theorem below_bytes (w : World) (t : TypeId) (s : ByteArray) : Below w.heap.size w (Lib.bytesWorld w t s) :=
  ⟨rfl, rfl, rfl, by rw [Lib.bytesWorld_size]; omega, fun k hk => Lib.bytesWorld_at_old w t s k hk⟩
theorem str_toList (l : List UInt8) : (str l).toList = l := by rw [Lib.toList_data, str_data]
theorem str_eq_true {l m : List UInt8} (h : l = m) : ((str l).toList == (str m).toList) = true := by rw [h]; simp
theorem str_eq_false {l m : List UInt8} (h : ¬ l = m) : ((str l).toList == (str m).toList) = false := by rw [str_toList, str_toList]; simpa using h
theorem cut_any (c : UInt8) (l : List UInt8) (w : World) (hl : l.length ≤ 1000000) (E : Env w) :
    Calls Tryz.prog 52 #[.string (str l), .string (str [c])] w fun e w' => (∃ f, e = .returned (.tuple #[.string (str (cutA c l)), .string (str (cutB c l)), .bool f])) ∧ Below w.heap.size w w' := by
  obtain ⟨m, hm⟩ := E.maxlen
  refine (Tryz.strings_Cut (str l) (str [c]) m w (by rw [str_size]; omega) hm).mono fun e w' ⟨he, n, hw⟩ => ⟨⟨(Lib.cut l [c]).2.2, ?_⟩, by rw [hw]; exact Go.below_drewN (Below.refl _ _) n⟩
  rw [str_data, str_data] at he
  exact he
end Go.Proofs.YtfbangojgjcbcaaGreatDoor
namespace Go.Proofs.YtfbangojgjcbcaaGreatDoor
open Go.RowKit Pl
/-- Block g holds just the cells cs, of element type t, none of them frozen. -/
structure Whole (w : World) (g : Nat) (t : TypeId) (cs : Array Value) : Prop where
  is : w.heap[g]? = some (.cells cs t (0, 0))
section
variable {w w' : World} {g : Nat} {t : TypeId} {cs : Array Value}
theorem Whole.lt (h : Whole w g t cs) : g < w.heap.size := (Array.getElem?_eq_some_iff.1 h.is).1
theorem Whole.cell (h : Whole w g t cs) (i : Nat) : w.cell? ⟨g, i, none⟩ = cs[i]? := cell_of_row w g i cs t (0, 0) h.is
theorem Whole.frozen (h : Whole w g t cs) (i : Nat) : w.frozen? ⟨g, i, none⟩ = false := by simp [World.frozen?, h.is]
theorem Whole.new (w : World) (t : TypeId) (cs : Array Value) : Whole (w.alloc (.cells cs t)) w.heap.size t cs := ⟨heap_alloc_new w _⟩
theorem Whole.kept {row : Option Nat} (h : Whole w g t cs) (hg : w.grownBy w' row) (hne : some g ≠ row) : Whole w' g t cs := ⟨(hg.block g h.lt hne).trans h.is⟩
theorem Whole.below {B : Nat} (h : Whole w g t cs) (hb : Below B w w') (hg : g < B) : Whole w' g t cs := ⟨(hb.block g hg).trans h.is⟩
theorem Whole.here (h : Whole w g t cs) (hb : Below w.heap.size w w') : Whole w' g t cs := h.below hb h.lt
theorem Whole.drew (h : Whole w g t cs) : Whole w.drew g t cs := ⟨h.is⟩
theorem Whole.drewN (h : Whole w g t cs) (n : Nat) : Whole (w.drewN n) g t cs := ⟨h.is⟩
theorem Whole.alloc (h : Whole w g t cs) (o : Obj) : Whole (w.alloc o) g t cs := h.here ((Below.refl _ _).alloc (Nat.le_refl _) o)
theorem Whole.set (h : Whole w g t cs) (i : Nat) (u : Value) : Whole (w.setCell ⟨g, i, none⟩ u) g t (cs.setIfInBounds i u) := by
  have h1 := h.is
  exact ⟨by simp [World.setCell, Array.getElem?_modify, h1]⟩
theorem Whole.far (h : Whole w g t cs) {p : Addr} (hp : g ≠ p.block) (u : Value) : Whole (w.setCell p u) g t cs := ⟨(Below.heap_setCell w p u g hp).trans h.is⟩
theorem Whole.apart {g' : Nat} {t' : TypeId} {cs' : Array Value} (h : Whole w g t cs) (h' : Whole w g' t' cs') (hne : t ≠ t') : g ≠ g' := by
  rintro rfl
  have h1 := h.is
  rw [h'.is] at h1
  injection h1 with h1
  injection h1 with _ ht
  exact hne ht.symm
/-- A row of another element type lies elsewhere. -/
theorem Whole.notRow {base size n : Nat} {e : TypeId} {v : Value} {xs : List Value} (hg : Whole w g t cs) (h : w.ownsRow base e size v n xs) (hne : t ≠ e) : v.ownBlock ≠ some g := by
  rcases h.2 with ⟨rfl, _⟩ | ⟨g', cap, cur, rfl, _, hh, _⟩
  · simp [Value.ownBlock]
  · intro he
    have : g' = g := by simpa [Value.ownBlock] using he
    subst this
    exact hg.apart (g' := g') ⟨hh⟩ hne rfl
end
theorem whole_own {β : Type} (B : Nat) (t : TypeId) (f : β → Array Value) : Own (fun s W => Whole W B t (f s)) := fun s X Y row hs hg hrow =>
  hs.kept hg (fun e => by
    obtain ⟨o, ho, hc⟩ := hrow _ e.symm
    rw [hs.is] at ho
    injection ho with ho
    subst ho
    simp [Obj.isCells] at hc)
end Go.Proofs.YtfbangojgjcbcaaGreatDoor
namespace Go.Proofs.YtfbangojgjcbcaaGreatDoor
open Go.RowKit Pl
theorem atoi_ok (x : List UInt8) (v : Int) (w : World) (hx : x.length ≤ 1000000) (h : Lib.atoiAll x = .ok v) :
    Calls Tryz.prog 146 #[.string (str x)] w fun e w' => e = .returned (.tuple #[.int .i64 v, .nilIface]) ∧ Below w.heap.size w w' :=
  (Tryz.strconv_Atoi_ok (str x) (by rw [str_size]; omega) v (by rw [str_data]; exact h) w).mono fun e w' ⟨he, hw⟩ => ⟨he, by
    rcases hw with rfl | ⟨t, rfl⟩
    · exact Below.refl _ _
    · exact below_bytes _ _ _⟩
def AtErr (e : Ending) : Prop := ∃ (n : Int) (t : TypeId) (p : Value), e = .returned (.tuple #[.int .i64 n, .iface t p])
theorem atoi_err (x : List UInt8) (w : World) (hx : x.length ≤ 1000000) (h : ∀ u, Lib.atoiAll x ≠ .ok u) (E : Env w) :
    Calls Tryz.prog 146 #[.string (str x)] w fun e w' => AtErr e ∧ Below w.heap.size w w' := by
  obtain ⟨t1, p1, h1⟩ := E.syn
  obtain ⟨t2, p2, h2⟩ := E.rng
  cases hp : Lib.atoiAll x
  · exact absurd hp (h _)
  · exact (Any.strconv_Atoi_syntax Tryz.laysC172 (str x) (by rw [str_size]; omega) (by rw [str_data]; exact hp) _ w h1 (.inr ⟨_, _, rfl⟩)).mono fun e w' ⟨N, he, _, _, hb⟩ => ⟨⟨_, _, _, he⟩, hb⟩
  · exact (Any.strconv_Atoi_range Tryz.laysC172 (str x) (by rw [str_size]; omega) (by rw [str_data]; exact hp) _ w h2 (.inr ⟨_, _, rfl⟩)).mono fun e w' ⟨N, he, _, _, hb⟩ => ⟨⟨_, _, _, he⟩, hb⟩
theorem itoa_all (n : Int) (w : World) (h0 : -9223372036854775808 ≤ n) (h1 : n ≤ 9223372036854775807) (E : Env w) :
    Calls Tryz.prog 58 #[.int .i64 n] w fun e w' => e = .returned (.string (str (Lib.itoa n))) ∧ Below w.heap.size w w' :=
  (Tryz.strconv_Itoa n h0 h1 w E.pow).mono fun _ _ ⟨he, k, os, hw⟩ => ⟨he, by rw [hw]; exact Lib.below_grow _ _ (Nat.le_refl _) _ _⟩
end Go.Proofs.YtfbangojgjcbcaaGreatDoor
namespace Go.Proofs.YtfbangojgjcbcaaGreatDoor
open Go.RowKit Pl
theorem str_lt {l : List UInt8} {i : Nat} (h : i < l.length) : i < (str l).size := by rw [str_size]; exact h
theorem str_at (l : List UInt8) (i : Nat) (h : i < l.length) (h' : i < (str l).size) : (str l)[i]'h' = l[i]'h := by
  rfl
/-! ### Number -/
end Go.Proofs.YtfbangojgjcbcaaGreatDoor
