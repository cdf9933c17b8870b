/- Unhex's loop: plain. -/
import Derived.Test.YteafakpipbhioaaDoorPlainH
namespace Go.Proofs.YteafakpipbhioaaDoor.Pl

/-- Ahead of the byte i, acc read. -/
def UnInv (l : List UInt8) (i : Nat) (acc : List UInt8) : Prop := unhex l = (unhex (l.drop i)).map fun r => acc ++ r
theorem UnInv.start (l : List UInt8) : UnInv l 0 [] := by simp [UnInv]
theorem UnInv.done {l : List UInt8} {acc : List UInt8} (h : UnInv l l.length acc) : unhex l = some acc := by
  unfold UnInv at h; rw [h, List.drop_length]; simp [unhex]
theorem UnInv.good {l : List UInt8} {i : Nat} {acc : List UInt8} (h : UnInv l i acc) (hi : i + 1 < l.length) {a b : UInt8} (ha : l[i] = a) (hb : l[i + 1] = b) {p q : Nat} (hp : dig a = some p) (hq : dig b = some q) :
    UnInv l (i + 2) (acc ++ [UInt8.ofNat (16 * p + q)]) := by
  unfold UnInv at h ⊢
  rw [h, unhex_step l i hi, ha, hb, hp, hq]
  cases unhex (l.drop (i + 2)) <;> simp
theorem UnInv.bad {l : List UInt8} {i : Nat} {acc : List UInt8} (h : UnInv l i acc) (hi : i + 1 < l.length) {a b : UInt8} (ha : l[i] = a) (hb : l[i + 1] = b) (hn : dig a = none ∨ dig b = none) : unhex l = none := by
  unfold UnInv at h
  rw [h, unhex_step l i hi, ha, hb]
  rcases hn with hn | hn
  · rw [hn]; rfl
  · rw [hn]; cases dig a <;> rfl
end Go.Proofs.YteafakpipbhioaaDoor.Pl
