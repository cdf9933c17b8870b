/- Hexadecimal texts: plain. -/
import Derived.Test.YteafakpipbhioaaDoorPlainT
import Derived.Lib.Bytealg
namespace Go.Proofs.YteafakpipbhioaaDoor.Pl

def digitsB : List UInt8 := [48, 49, 50, 51, 52, 53, 54, 55, 56, 57, 97, 98, 99, 100, 101, 102]
def hx (n : Nat) : UInt8 := digitsB.getD n 0
def hex1 (b : UInt8) : List UInt8 := [hx (b.toNat / 16), hx (b.toNat % 16)]
def hexText (l : List UInt8) : List UInt8 := l.flatMap hex1
def dig (b : UInt8) : Option Nat :=
  if 48 ≤ b.toNat ∧ b.toNat ≤ 57 then some (b.toNat - 48) else if 97 ≤ b.toNat ∧ b.toNat ≤ 102 then some (b.toNat - 87) else none
def unhex : List UInt8 → Option (List UInt8)
  | [] => some []
  | [_] => none
  | a :: b :: t => match dig a, dig b with
    | some x, some y => (unhex t).map fun r => UInt8.ofNat (16 * x + y) :: r
    | _, _ => none

theorem hexText_length (l : List UInt8) : (hexText l).length = 2 * l.length := by
  induction l with
  | nil => rfl
  | cons a t ih => simp only [hexText, List.flatMap_cons, List.length_append, List.length_cons] at ih ⊢; rw [ih]; simp [hex1]; omega
theorem hexText_take (l : List UInt8) (j : Nat) (h : j < l.length) : hexText (l.take (j + 1)) = hexText (l.take j) ++ hex1 l[j] := by
  unfold hexText; rw [List.take_succ_eq_append_getElem h, List.flatMap_append, List.flatMap_cons, List.flatMap_nil, List.append_nil]
theorem dig_hx (n : Nat) (h : n < 16) : dig (hx n) = some n := by
  have : ∀ m < 16, dig (hx m) = some m := by decide
  exact this n h
theorem dig_lt {b : UInt8} {x : Nat} (h : dig b = some x) : x < 16 := by
  unfold dig at h
  split at h
  · injection h with h; omega
  · split at h
    · injection h with h; omega
    · cases h
theorem unhex_hex (l : List UInt8) : unhex (hexText l) = some l := by
  induction l with
  | nil => rfl
  | cons a t ih =>
    have ha := a.toNat_lt
    show unhex (hx (a.toNat / 16) :: hx (a.toNat % 16) :: hexText t) = _
    rw [unhex, dig_hx _ (by omega), dig_hx _ (by omega)]
    show (unhex (hexText t)).map _ = _
    rw [ih]
    simp only [Option.map_some]
    rw [show 16 * (a.toNat / 16) + a.toNat % 16 = a.toNat from by omega]
    simp
theorem unhex_odd : ∀ l : List UInt8, l.length % 2 = 1 → unhex l = none
  | [], h => by simp at h
  | [_], _ => rfl
  | a :: b :: t, h => by
    have ih := unhex_odd t (by simp at h; omega)
    rw [unhex, ih]
    cases dig a <;> cases dig b <;> rfl
theorem indexByte_dig (c : UInt8) : Lib.indexByte digitsB c = match dig c with | some n => (n : Int) | none => -1 := by
  have h : ∀ n : Fin 256, Lib.indexByte digitsB (UInt8.ofNat n.1) = match dig (UInt8.ofNat n.1) with | some n => (n : Int) | none => -1 := by decide +kernel
  have := h ⟨c.toNat, c.toNat_lt⟩
  simpa using this
/-- One round. -/
theorem unhex_step (l : List UInt8) (j : Nat) (h : j + 1 < l.length) :
    unhex (l.drop j) = match dig l[j], dig l[j + 1] with
      | some x, some y => (unhex (l.drop (j + 2))).map fun r => UInt8.ofNat (16 * x + y) :: r
      | _, _ => none := by
  rw [List.drop_eq_getElem_cons (show j < l.length by omega), List.drop_eq_getElem_cons h, unhex]
end Go.Proofs.YteafakpipbhioaaDoor.Pl
