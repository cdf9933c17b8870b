/- Contracts: strconv.Atoi, strconv.Itoa at every number, strings.Cut with its word, and conf.number. -/
import Derived.Test.YtfbangojgjcbcaaGreatDoorPlainX
import Derived.Test.YtfbangojgjcbcaaGreatDoorAddr
import Derived.Test.YtfbangojgjcbcaaGreatDoorBlk
namespace Go.Proofs.YtfbangojgjcbcaaGreatDoor
open Go.RowKit Pl

theorem atoi_ok (x : List UInt8) (v : Int) (w : World) (hx : x.length ≤ 1000000) (h : Lib.atoiAll x = .ok v) :
    Calls Tryz.prog 146 #[.string (str x)] w fun e w' => e = .returned (.tuple #[.int .i64 v, .nilIface]) ∧ Below w.heap.size w w' :=
  (Tryz.strconv_Atoi_ok (str x) (by rw [str_size]; omega) v (by rw [str_data]; exact h) w).mono fun e w' ⟨he, hw⟩ => ⟨he, by
    rcases hw with rfl | ⟨t, rfl⟩
    · exact Below.refl _ _
    · exact below_bytes _ _ _⟩
def AtErr (e : Ending) : Prop := ∃ (n : Int) (t : TypeId) (p : Value), e = .returned (.tuple #[.int .i64 n, .iface t p])
theorem atoi_err (x : List UInt8) (w : World) (hx : x.length ≤ 1000000) (h : ∀ u, Lib.atoiAll x ≠ .ok u) (E : Env w) :
    Calls Tryz.prog 146 #[.string (str x)] w fun e w' => AtErr e ∧ Below w.heap.size w w' := by
  obtain ⟨t1, p1, h1⟩ := E.syn
  obtain ⟨t2, p2, h2⟩ := E.rng
  cases hp : Lib.atoiAll x
  · exact absurd hp (h _)
  · exact (Any.strconv_Atoi_syntax Tryz.laysC172 (str x) (by rw [str_size]; omega) (by rw [str_data]; exact hp) _ w h1 (.inr ⟨_, _, rfl⟩)).mono fun e w' ⟨N, he, _, _, hb⟩ => ⟨⟨_, _, _, he⟩, hb⟩
  · exact (Any.strconv_Atoi_range Tryz.laysC172 (str x) (by rw [str_size]; omega) (by rw [str_data]; exact hp) _ w h2 (.inr ⟨_, _, rfl⟩)).mono fun e w' ⟨N, he, _, _, hb⟩ => ⟨⟨_, _, _, he⟩, hb⟩
theorem itoa_all (n : Int) (w : World) (h0 : -9223372036854775808 ≤ n) (h1 : n ≤ 9223372036854775807) (E : Env w) :
    Calls Tryz.prog 58 #[.int .i64 n] w fun e w' => e = .returned (.string (str (Lib.itoa n))) ∧ Below w.heap.size w w' :=
  (Tryz.strconv_Itoa n h0 h1 w E.pow).mono fun _ _ ⟨he, k, os, hw⟩ => ⟨he, by rw [hw]; exact Lib.below_grow _ _ (Nat.le_refl _) _ _⟩
/-- strings.Cut, its third answer too. -/
theorem cut_full (c : UInt8) (l : List UInt8) (w : World) (hl : l.length ≤ 1000000) (E : Env w) :
    Calls Tryz.prog 52 #[.string (str l), .string (str [c])] w fun e w' => e = .returned (.tuple #[.string (str (cutA c l)), .string (str (cutB c l)), .bool (Lib.cut l [c]).2.2]) ∧ Below w.heap.size w w' := by
  obtain ⟨m, hm⟩ := E.maxlen
  refine (Tryz.strings_Cut (str l) (str [c]) m w (by rw [str_size]; omega) hm).mono fun e w' ⟨he, n, hw⟩ => ⟨?_, by rw [hw]; exact below_drewN (Below.refl _ _) n⟩
  rw [str_data, str_data] at he
  exact he
end Go.Proofs.YtfbangojgjcbcaaGreatDoor
