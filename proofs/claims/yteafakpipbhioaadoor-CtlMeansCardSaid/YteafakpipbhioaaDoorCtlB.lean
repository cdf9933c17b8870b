/- Contracts of ctl and ref05: Far (reference), Bytes. -/
import Derived.Test.YteafakpipbhioaaDoorCtlF
import Derived.Test.YteafakpipbhioaaDoorLBack
namespace Go.Proofs.YteafakpipbhioaaDoor
open Go.RowKit Pl

set_option maxRecDepth 100000 in
set_option maxHeartbeats 1000000 in
theorem rfar_any (d c : Int) (w : World) : Calls Tryd.prog 61 #[.int .i64 d, .int .i64 c] w fun e w' => e = .returned (.int .i64 (farP d c)) ∧ w = w' := by
  by_cases h0 : d < 0
  · have HF : Hid (farP d c = 255) := Lib.hid (by unfold farP; rw [if_pos (.inl h0)])
    go_enter Tryd.func61, Tryd.ntmps61
    go_wp2
    go_ret
    exact ⟨by rw [HF.out]; rfl, rfl⟩
  have k0 : decide (d < 0) = false := by simpa using h0
  by_cases h1 : 255 ≤ d
  · have HF : Hid (farP d c = 255) := Lib.hid (by
      unfold farP
      by_cases hh : d < 0 ∨ 255 < d ∨ c < 1 ∨ 50 < c
      · rw [if_pos hh]
      · rw [if_neg hh, if_neg (by omega)])
    clear h0
    go_enter Tryd.func61, Tryd.ntmps61
    go_wp2
    go_ret
    exact ⟨by rw [HF.out]; rfl, rfl⟩
  have k1 : decide (255 ≤ d) = false := by simpa using h1
  by_cases h2 : c < 1
  · have HF : Hid (farP d c = 255) := Lib.hid (by unfold farP; rw [if_pos (.inr (.inr (.inl h2)))])
    clear h0 h1
    go_enter Tryd.func61, Tryd.ntmps61
    go_wp2
    go_ret
    exact ⟨by rw [HF.out]; rfl, rfl⟩
  have k2 : decide (c < 1) = false := by simpa using h2
  by_cases h3 : 50 < c
  · have HF : Hid (farP d c = 255) := Lib.hid (by unfold farP; rw [if_pos (.inr (.inr (.inr h3)))])
    clear h0 h1 h2
    go_enter Tryd.func61, Tryd.ntmps61
    go_wp2
    go_ret
    exact ⟨by rw [HF.out]; rfl, rfl⟩
  have k3 : decide (50 < c) = false := by simpa using h3
  have HF : Hid (farP d c = if d + c ≤ 255 then d + c else 255) := Lib.hid (by unfold farP; rw [if_neg (by omega)])
  have b1 : 0 ≤ d := by omega
  have b2 : d ≤ 255 := by omega
  have b3 : 1 ≤ c := by omega
  have b4 : c ≤ 50 := by omega
  clear h0 h1 h2 h3
  by_cases h4 : d + c ≤ 255
  · have HF2 : Hid (farP d c = d + c) := Lib.hid (by rw [HF.out, if_pos h4])
    have k4 : decide (255 < d + c) = false := by simp; omega
    go_enter Tryd.func61, Tryd.ntmps61
    go_wp2
    go_ret
    exact ⟨ret_int (by rw [HF2.out]), rfl⟩
  · have HF2 : Hid (farP d c = 255) := Lib.hid (by rw [HF.out, if_neg h4])
    have k4 : 255 < d + c := by omega
    go_enter Tryd.func61, Tryd.ntmps61
    go_wp2
    go_ret
    exact ⟨by rw [HF2.out]; rfl, rfl⟩

/-- 'out = append(out, x, y)', out the call's own, one cell an element. -/
theorem wpList_push2 {P : Program} {ops : Array Oper} {rest : List Oper} {o : Oper} {a : Act} {Q : Exit → Act → World → Prop} {w0 : World} {e0 : TypeId} {u u2 : Value} (hgd : o.guard = none) (s x : Operand) (t : TypeId)
    (ho : o.op = .call { callee := .builtin .append, args := #[s, x], argTypes := #[t, t] })
    (base : Nat) (e : TypeId) {z : Value} {bytes : Nat} (hinfo : (P.info? e).map (fun i => (i.zero, i.size, i.bytes)) = some (some z, 1, bytes)) (hzs : z.cells.size = 1) (hby : bytes ≤ 1000) (ht : P.underlying t = some (.slice e))
    (v : Value) (n : Nat) (xs : List Value) (hs : a.eval s = v) (hown : w0.ownsRow base e 1 v n xs) (hx : a.eval x = .slice (some ⟨w0.heap.size, 0, none⟩) 2 2) (hu : u.oneCell' = true) (hu2 : u2.oneCell' = true)
    (hn : n ≤ 1000000000) (hbase : base ≤ w0.heap.size)
    (h : ∀ v' w', w'.ownsRow base e 1 v' (n + 2) (xs ++ [u, u2]) → w0.grownBy w' v.ownBlock → wpList P ops Q rest (a.put o.dst v') w') : wpList P ops Q (o :: rest) a (w0.alloc (.cells #[u, u2] e0)) := by
  obtain ⟨i0, hi, hz0, hz1, hz2⟩ := info_parts hinfo
  refine wpList_append_own _ hgd s x t ho base e i0 z 1 bytes ht hi hz0 hz1 hz2 hzs (by decide) v n xs hs (hown.alloc _) ⟨w0.heap.size, 0, none⟩ 2 2 [u, u2] hx rfl (cell_two_new _ _ _ _) (by intro y hy; simp at hy; rcases hy with rfl | rfl <;> assumption) (by unfold maxLen; omega) ?_ (by simp; omega) fun v' w' h1 h2 _ => h v' w' h1 (grownBy_alloc h2)
  have : (n + 2) * bytes ≤ (n + 2) * 1000 := Nat.mul_le_mul_left _ hby
  omega

theorem own_base {w : World} {B B' : Nat} {e : TypeId} {size n : Nat} {v : Value} {xs : List Value} (hB : B' ≤ B) (h : w.ownsRow B e size v n xs) : w.ownsRow B' e size v n xs := by
  refine ⟨h.1, ?_⟩
  rcases h.2 with h | ⟨g, cap, cur, h1, h2, h3⟩
  · exact .inl h
  · exact .inr ⟨g, cap, cur, h1, Nat.le_trans hB h2, h3⟩

/-- An update's bytes. -/
def bytesU (a n d : Nat) : List UInt8 := putB a 4 ++ [UInt8.ofNat n, UInt8.ofNat d]

set_option maxRecDepth 100000 in
set_option maxHeartbeats 1000000 in
theorem cbytes_no (a n d : Int) (w : World) (ha : IsAddr a) (hm : mayU a n d = false) :
    Calls Tryd.prog 50 #[upd a n d] w fun e w' => e = .returned (.tuple #[.slice none 0 0, .int .i64 2]) ∧ Below w.heap.size w w' := by
  go_enter Tryd.func50, Tryd.ntmps50
  go_wp2_with (go_at_call 53; refine (ext_of (cmay_any _ _ _ _ (by assumption))).mono ?_; rintro e w' ⟨rfl, z2, rfl⟩)
  go_ret2
  exact ⟨rfl, (by repeat (first | exact Below.refl _ _ | apply Below.drew | apply below_drewN | apply bel_alloc | apply Ext.lift | apply bel_set0 | apply bel_set))⟩

theorem mayU_nat {a n d : Int} (h : mayU a n d = true) (ha : IsAddr a) : ∃ A N D : Nat, a = A ∧ n = N ∧ d = D ∧ A < 4294967296 ∧ N ≤ 32 ∧ D ≤ 255 := by
  simp only [mayU, Bool.and_eq_true, decide_eq_true_eq] at h
  have := mayP_len h.1.1
  exact ⟨a.toNat, n.toNat, d.toNat, by have := ha.1; omega, by omega, by omega, by have := ha.1; have := ha.2; omega, by omega, by omega⟩

set_option maxRecDepth 100000 in
set_option maxHeartbeats 1000000 in
theorem cbytes_ok (a n d : Nat) (w : World) (ha : IsAddr a) (hn : n ≤ 32) (hd : d ≤ 255) (hm : mayU a n d = true) :
    Calls Tryd.prog 50 #[upd a n d] w fun e w' => ∃ v, e = .returned (.tuple #[v, .int .i64 0]) ∧ w'.ownsRow w.heap.size 5 1 v 6 (cellsB (bytesU a n d)) ∧ Below w.heap.size w w' := by
  have hA : a < 4294967296 := by have := ha.2; omega
  have HA : Hid (a / 2 ^ (8 * 4) = 0) := Lib.hid (Nat.div_eq_of_lt (by omega))
  go_enter Tryd.func50, Tryd.ntmps50
  go_wp2_with (first
    | (go_at_call 53; refine (ext_of (cmay_any _ _ _ _ (by assumption))).mono ?_; rintro e w' ⟨rfl, z, rfl⟩)
    | (go_at_call 17; refine (put_ok a 4 _ (by decide) (by decide) HA.out).mono ?_; rintro e w1 ⟨u, rfl, hown, hb1⟩; obtain ⟨z1, rfl⟩ := Ext.of z hb1; have hzs := hb1.size; clear hb1)
    | (at_builtin; refine wpList_push2 rfl _ _ 23 rfl z.w.heap.size 5 info_u8 rfl (by decide) Tryd.underlying23 _ _ _ rfl hown rfl rfl rfl (by omega) hzs ?_))
  intro v' w2 hown' hg
  have hzw := z.below.size
  have HB : Hid (Below w.heap.size w w2) := Lib.hid ((Ext.lift z1 (bel_alloc (Below.refl _ _) _)).grown hg (by simp only [World.size_alloc] at hzw; omega) fun g hg => by have := (hown.lt g hg).1; simp only [World.size_alloc] at hzw; omega)
  have HO : Hid (w2.ownsRow w.heap.size 5 1 v' 6 (cellsB (bytesU a n d))) := Lib.hid (own_base (B := z.w.heap.size) (by simp only [World.size_alloc] at hzw; omega) (by
    have e : cellsB (putB a 4) ++ [Value.int .u8 (n : Int), Value.int .u8 (d : Int)] = cellsB (bytesU a n d) := by
      rw [bytesU, cellsB_append]; simp [cellsB]; omega
    rw [← e]; exact hown'))
  clear hown hown' hg
  go_wp2
  go_ret2
  exact ⟨_, rfl, HO.out, HB.out⟩
end Go.Proofs.YteafakpipbhioaaDoor
