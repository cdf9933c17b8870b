/- Contract of ctl.List. -/
import Derived.Test.YteafakpipbhioaaDoorCtlL
namespace Go.Proofs.YteafakpipbhioaaDoor
open Go.RowKit Pl

theorem wpList_catB {ops : Array Oper} {rest : List Oper} {o : Oper} {a : Act} {Q : Exit → Act → World → Prop} {w0 : World} (hgd : o.guard = none) (s x : Operand)
    (ho : o.op = .call { callee := .builtin .append, args := #[s, x], argTypes := #[23, 23] }) (base : Nat)
    (v : Value) (n : Nat) (l : List UInt8) (hs : a.eval s = v) (hown : w0.ownsRow base 5 1 v n (cellsB l)) (xv : Value) (m : List UInt8) (hx : a.eval x = xv) (hB : Bs w0 xv m) (hm : 0 < m.length)
    (hn : n + m.length ≤ 1000000000) (hbase : base ≤ w0.heap.size)
    (h : ∀ v' w', w'.ownsRow base 5 1 v' (n + m.length) (cellsB (l ++ m)) → w0.grownBy w' v.ownBlock → wpList Tryd.prog ops Q rest (a.put o.dst v') w') : wpList Tryd.prog ops Q (o :: rest) a w0 := by
  obtain ⟨i0, hi, hz0, hz1, hz2⟩ := info_parts info_u8
  obtain ⟨A, c, rfl, _, _, hA⟩ := hB
  obtain ⟨b, off, rfl, _, hcell⟩ := hA hm
  refine wpList_append_own _ hgd s x 23 ho base 5 i0 _ 1 1 Tryd.underlying23 hi hz0 hz1 hz2 rfl (by decide) v n (cellsB l) hs hown ⟨b, off, none⟩ m.length c (cellsB m) hx (by rw [cellsB_length]; omega) ?_ (cellsB_one m) (by unfold maxLen; omega) (by omega) hbase fun v' w' h1 h2 _ => h v' w' (by rw [cellsB_append]; exact h1) h2
  intro j u hu
  rw [show ((⟨b, off, none⟩ : Addr).add j) = ⟨b, off + j, none⟩ from by unfold Addr.add; by_cases hj : j = 0 <;> simp [hj]]
  exact hcell j u hu

/-- An update's bytes, a list's. -/
def bytesV (u : U3) : List UInt8 := bytesU u.1.toNat u.2.1.toNat u.2.2.toNat
theorem bytesV_length (u : U3) : (bytesV u).length = 6 := bytesU_length _ _ _
def preB (us : List U3) (j : Nat) : List UInt8 := UInt8.ofNat us.length :: (us.take j).flatMap bytesV
def listB (us : List U3) : List UInt8 := UInt8.ofNat us.length :: us.flatMap bytesV
theorem preB_all (us : List U3) : preB us us.length = listB us := by unfold preB listB; rw [List.take_length]
theorem preB_next {us : List U3} {j : Nat} {u : U3} (hu : us[j]? = some u) : preB us (j + 1) = preB us j ++ bytesV u := by
  unfold preB; rw [List.take_add_one, hu]; simp
theorem flat_length (us : List U3) : (us.flatMap bytesV).length = 6 * us.length := by
  induction us with
  | nil => rfl
  | cons u us ih => rw [List.flatMap_cons, List.length_append, bytesV_length, ih, List.length_cons]; omega
theorem listB_length (us : List U3) : (listB us).length = 1 + 6 * us.length := by unfold listB; rw [List.length_cons, flat_length]; omega

theorem all_at {us : List U3} (h : us.all mayB = true) {j : Nat} {u : U3} (hu : us[j]? = some u) : mayU u.1 u.2.1 u.2.2 = true := (List.all_eq_true.1 h) u (List.mem_of_getElem? hu)

set_option maxRecDepth 100000 in
theorem clist_arg (v : Value) (us : List U3) (w : World) (h : Us w v us) (hl : us.length ≤ 1000000) (hA : Addrs us) (hm : us.all mayB = false) :
    Calls Tryd.prog 63 #[v] w fun e w' => e = .returned (.tuple #[.slice none 0 0, .int .i64 2]) ∧ Below w.heap.size w w' := by
  have HC := Lib.hid (containsU_any v us w h hl hA)
  rw [hm] at HC
  go_enter Tryd.func63, Tryd.ntmps63
  go_wp2_with (go_at_call 88; refine (ext_of HC.out).mono ?_; rintro e w' ⟨rfl, y, rfl⟩)
  go_ret2
  exact ⟨rfl, y.below⟩
set_option maxRecDepth 100000 in
theorem clist_long (v : Value) (us : List U3) (w : World) (h : Us w v us) (hl : us.length ≤ 1000000) (hA : Addrs us) (hm : us.all mayB = true) (h32 : 32 < us.length) :
    Calls Tryd.prog 63 #[v] w fun e w' => e = .returned (.tuple #[.slice none 0 0, .int .i64 3]) ∧ Below w.heap.size w w' := by
  have HC := Lib.hid (containsU_any v us w h hl hA)
  rw [hm] at HC
  obtain ⟨A, c, rfl, hc, _, _⟩ := h
  have d : 32 < (us.length : Int) := by omega
  go_enter Tryd.func63, Tryd.ntmps63
  go_wp2_with (go_at_call 88; refine (ext_of HC.out).mono ?_; rintro e w' ⟨rfl, y, rfl⟩)
  go_ret2
  exact ⟨rfl, y.below⟩

set_option maxRecDepth 100000 in
set_option maxHeartbeats 1000000 in
theorem clist_ok (v : Value) (us : List U3) (w : World) (h : Us w v us) (hA : Addrs us) (hm : us.all mayB = true) (h32 : us.length ≤ 32) :
    Calls Tryd.prog 63 #[v] w fun e w' => ∃ v', e = .returned (.tuple #[v', .int .i64 0]) ∧ w'.ownsRow w.heap.size 5 1 v' (1 + 6 * us.length) (cellsB (listB us)) ∧ Below w.heap.size w w' := by
  have HC := Lib.hid (containsU_any v us w h (by omega) hA)
  rw [hm] at HC
  have HM := Lib.hid hm
  clear hm
  have HU := Lib.hid h
  obtain ⟨A, c, rfl, hc, _, _⟩ := h
  have d : decide (32 < (us.length : Int)) = false := by simp; omega
  go_enter Tryd.func63, Tryd.ntmps63
  go_wp2_with (go_at_call 88; refine (ext_of HC.out).mono ?_; rintro e w' ⟨rfl, y, rfl⟩)
  have hys := y.below.size
  have HO0 : Hid ((y.w.alloc (.cells #[.int .u8 (us.length : Int)] 5)).ownsRow w.heap.size 5 1 (.slice (some ⟨y.w.heap.size, 0, none⟩) 1 1) 1 (cellsB (preB us 0))) := Lib.hid (by
    have := World.ownsRow_lit (base := w.heap.size) (e := 5) (size := 1) y.w #[.int .u8 (us.length : Int)] 1 hys (by unfold maxLen; omega) (by simp)
    have e : (#[Value.int .u8 (us.length : Int)] : Array Value).toList = cellsB (preB us 0) := by
      simp [preB, cellsB]; omega
    rw [e] at this; exact this)
  go_loopw [4, 22] (fun o i wr => ∃ j : Nat, j ≤ us.length ∧ i = .int .i64 j ∧ wr.ownsRow w.heap.size 5 1 o (1 + 6 * j) (cellsB (preB us j)) ∧ Below w.heap.size w wr) (fun _ i _ => us.length - (intOf i).toNat)
  case atStart => exact ⟨0, Nat.zero_le _, rfl, HO0.out, (by repeat (first | exact Below.refl _ _ | apply Below.drew | apply below_drewN | apply bel_alloc | apply Ext.lift | apply bel_set0 | apply bel_set))⟩
  case round =>
    obtain ⟨j, hj, rfl, hown, hb⟩ := hrel
    by_cases hlt : j < us.length
    · obtain ⟨A', c', hv, _, _, hB⟩ := HU.out.below hb
      injection hv with hv1 hv2 hv3
      subst hv1 hv3
      obtain ⟨b, off, rfl, hbs, hcell⟩ := hB (by omega)
      obtain ⟨u, hu⟩ : ∃ u, us[j]? = some u := ⟨_, List.getElem?_eq_getElem hlt⟩
      obtain ⟨c0, c1, c2⟩ := hcell j u hu
      have hua := hA.at hu
      have HT := Lib.hid (preB_next hu)
      have hmu := all_at HM.out hu
      clear hcell hB hu
      obtain ⟨ua, un, ud⟩ := u
      obtain ⟨A, N, D, rfl, rfl, rfl, hA1, hN, hD⟩ := mayU_nat hmu hua
      have hmu' : mayU A N D = true := hmu
      have HMU := Lib.hid hmu'
      clear hmu hmu'
      have hbz := hb.size
      have hown0 := hown.alloc (.cells #[.int .u32 (A : Int), .int .i64 (N : Int), .int .i64 (D : Int)] 77)
      go_wp2_with (first
        | (go_at_call 50; refine (cbytes_ok A N D _ hua hN hD HMU.out).mono ?_; rintro e w1 ⟨x, rfl, hownx, hb1⟩; have hown1 := own_below hown0 hb1; have HX := Lib.hid (Bs.own hownx); have hbs1 := hb1.size; clear hownx)
        | (at_builtin; refine wpList_catB rfl _ _ rfl w.heap.size _ _ _ rfl hown1 _ _ rfl HX.out (by rw [bytesU_length]; decide) (by rw [bytesU_length]; omega) (by simp only [World.size_alloc] at hbs1; omega) ?_))
      intro v' w2 hown2 hg
      rw [bytesU_length, show 1 + 6 * j + 6 = 1 + 6 * (j + 1) by omega, show preB us j ++ bytesU A N D = preB us (j + 1) from HT.out.symm] at hown2
      have HR := Lib.hid hown2
      have hb2 : Below w.heap.size w w1 := (bel_alloc hb _).trans (hb1.mono (by simp only [World.size_alloc]; omega))
      have hb3 := Lib.hid (hb2.grown hg hb2.size fun g hg => (hown1.lt g hg).1)
      clear hown hown0 hown1 hown2 hg hb1 hb2 HX
      go_wp2
      go_roundw
      case rel => exact ⟨j + 1, by omega, by go_num, HR.out, hb3.out⟩
      case measure => simp [intOf]; omega
    · obtain rfl : j = us.length := by omega
      rw [preB_all] at hown
      go_wp2
      go_ret2
      exact ⟨_, rfl, hown, hb⟩
end Go.Proofs.YteafakpipbhioaaDoor
