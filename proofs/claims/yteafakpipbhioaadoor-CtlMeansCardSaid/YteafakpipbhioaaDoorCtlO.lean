/- Contracts of ctl and ref05: Of of both, the reference's Bytes. -/
import Derived.Test.YteafakpipbhioaaDoorPlainC
namespace Go.Proofs.YteafakpipbhioaaDoor
open Go.RowKit Pl

/-- What Of answers. -/
def ofRes (l : List UInt8) : Value := match ofU l with
  | some (a, n, d) => .tuple #[upd a n d, .int .i64 0]
  | none => .tuple #[upd 0 0 0, .int .i64 4]
def rofRes (l : List UInt8) : Value := match ofU l with
  | some (a, n, d) => .tuple #[upd a n d, .bool true]
  | none => .tuple #[upd 0 0 0, .bool false]

theorem Bs.take {w : World} {b off c : Nat} {l : List UInt8} (k : Nat) (hkl : k ≤ l.length) (hlc : k ≤ c) (hb : b < w.heap.size) (hcell : ∀ j u, (cellsB l)[j]? = some u → w.cell? ⟨b, off + j, none⟩ = some u) :
    Bs w (.slice (some ⟨b, off, none⟩) k c) (l.take k) := by
  refine ⟨some ⟨b, off, none⟩, c, by simp; omega, by simp; omega, (fun h => by cases h), fun _ => ⟨b, off, rfl, hb, fun j u hu => hcell j u ?_⟩⟩
  simp only [cellsB, List.getElem?_map, List.getElem?_take] at hu ⊢
  split at hu
  · exact hu
  · simp at hu

set_option maxRecDepth 100000 in
set_option maxHeartbeats 1000000 in
theorem cof_any (l : List UInt8) (v : Value) (w : World) (h : Bs w v l) :
    Calls Tryd.prog 51 #[v] w fun e w' => e = .returned (ofRes l) ∧ Below w.heap.size w w' := by
  obtain ⟨A, c, rfl, hc, _, hA⟩ := h
  by_cases h6 : l.length = 6
  · obtain ⟨b, off, rfl, hbs, hcell⟩ := hA (by omega)
    clear hA
    have d6 : ((l.length : Int) != 6) = false := by simp; omega
    have hbs1 : b < w.heap.size + 1 := by omega
    have hs2 : w.heap.size < w.heap.size + 1 + 1 := by omega
    have hc4 : (4 : Int) ≤ (c : Int) := by omega
    have HT : Hid (Bs w (.slice (some ⟨b, off, none⟩) 4 c) (l.take 4)) := Lib.hid (Bs.take 4 (by omega) (by omega) hbs hcell)
    have c4 : w.cell? ⟨b, off + 4, none⟩ = some (.int .u8 ((l.getD 4 0).toNat : Int)) := hcell 4 _ (by simp [cellsB, List.getD_eq_getElem?_getD, show 4 < l.length by omega])
    have c5 : w.cell? ⟨b, off + 5, none⟩ = some (.int .u8 ((l.getD 5 0).toNat : Int)) := hcell 5 _ (by simp [cellsB, List.getD_eq_getElem?_getD, show 5 < l.length by omega])
    have hlt : getB (l.take 4) < 4294967296 := by
      have := getB_lt (l.take 4)
      have h4 : (l.take 4).length = 4 := by simp; omega
      rw [h4] at this; exact this
    have HL : Hid ((l.take 4).length = 4) := Lib.hid (by simp; omega)
    have HR : Hid (ofRes l = if mayU (getB (l.take 4) : Nat) ((l.getD 4 0).toNat : Nat) ((l.getD 5 0).toNat : Nat) = true then .tuple #[upd (getB (l.take 4) : Nat) ((l.getD 4 0).toNat : Nat) ((l.getD 5 0).toNat : Nat), .int .i64 0] else .tuple #[upd 0 0 0, .int .i64 4]) := Lib.hid (by
      unfold ofRes ofU
      by_cases hm : mayU (getB (l.take 4) : Nat) ((l.getD 4 0).toNat : Nat) ((l.getD 5 0).toNat : Nat) = true
      · rw [if_pos ⟨h6, hm⟩, if_pos hm]
      · rw [if_neg (fun h => hm h.2), if_neg hm])
    have HG : Hid (∀ o (x : Ext (w.alloc o)), Calls Tryd.prog 21 #[.slice (some ⟨b, off, none⟩) 4 c] x.w fun e w' => e = .returned (.tuple #[.int .u64 (getB (l.take 4)), .int .i64 0]) ∧ x.w = w') :=
      Lib.hid (fun o x => get_ok (l.take 4) _ _ ((HT.out.alloc o).ext x) (by rw [HL.out]; decide) (by rw [HL.out]; decide))
    have HG : Hid (∀ o, Calls Tryd.prog 21 #[.slice (some ⟨b, off, none⟩) 4 c] (w.alloc o) fun e w' => e = .returned (.tuple #[.int .u64 (getB (l.take 4)), .int .i64 0]) ∧ w.alloc o = w') :=
      Lib.hid (fun o => HG.out o ⟨_, Below.refl _ _⟩)
    clear hcell HT HL
    have hn := (l.getD 4 0).toNat_lt
    have hd := (l.getD 5 0).toNat_lt
    generalize (l.getD 4 0).toNat = n at *
    generalize (l.getD 5 0).toNat = d at *
    generalize getB (l.take 4) = a at *
    have hia : IsAddr (a : Int) := ⟨by omega, by omega⟩
    cases hm : mayU a n d with
    | true =>
      have HZ : Hid (ofRes l = .tuple #[upd a n d, .int .i64 0]) := Lib.hid (by rw [HR.out, if_pos hm])
      go_enter Tryd.func51, Tryd.ntmps51
      go_wp2_with (go_at_call 21; refine (HG.out _).mono ?_; rintro e w' ⟨rfl, rfl⟩)
      go_region_held3 (fun w' => w'.cell? ⟨b, off + 4, none⟩ = some (.int .u8 (n : Int)) ∧ w'.cell? ⟨b, off + 5, none⟩ = some (.int .u8 (d : Int))) (go_keep) (fail)
      go_wp2_with (go_at_call 53; refine (ext_of (cmay_any _ _ _ _ (by assumption))).mono ?_; rintro e w' ⟨rfl, z, rfl⟩; have hz1 : w.heap.size < z.w.heap.size := (by have := z.below.size; simp at this; omega); have hz2 : w.heap.size + 1 < z.w.heap.size := (by have := z.below.size; simp at this; omega))
      exact bodyPost_ret (v := .tuple #[upd a n d, .int .i64 0]) (by simp [results, Tryd.results51, go_sem, hs2]) rfl ⟨by rw [HZ.out], (by repeat (first | exact Below.refl _ _ | apply Below.drew | apply below_drewN | apply bel_alloc | apply Ext.lift | apply bel_set0 | apply bel_set))⟩
    | false =>
      have HZ : Hid (ofRes l = .tuple #[upd 0 0 0, .int .i64 4]) := Lib.hid (by rw [HR.out, if_neg (by rw [hm]; decide)])
      go_enter Tryd.func51, Tryd.ntmps51
      go_wp2_with (go_at_call 21; refine (HG.out _).mono ?_; rintro e w' ⟨rfl, rfl⟩)
      go_region_held3 (fun w' => w'.cell? ⟨b, off + 4, none⟩ = some (.int .u8 (n : Int)) ∧ w'.cell? ⟨b, off + 5, none⟩ = some (.int .u8 (d : Int))) (go_keep) (fail)
      go_wp2_with (go_at_call 53; refine (ext_of (cmay_any _ _ _ _ (by assumption))).mono ?_; rintro e w' ⟨rfl, z, rfl⟩; have hz1 : w.heap.size < z.w.heap.size := (by have := z.below.size; simp at this; omega); have hz2 : w.heap.size + 1 < z.w.heap.size := (by have := z.below.size; simp at this; omega))
      exact bodyPost_ret (v := .tuple #[upd 0 0 0, .int .i64 4]) (by simp [results, Tryd.results51, go_sem, hs2]) rfl ⟨by rw [HZ.out], (by repeat (first | exact Below.refl _ _ | apply Below.drew | apply below_drewN | apply bel_alloc | apply Ext.lift | apply bel_set0 | apply bel_set))⟩
  · have d6 : ((l.length : Int) != 6) = true := by simp; omega
    have HZ : Hid (ofRes l = .tuple #[upd 0 0 0, .int .i64 4]) := Lib.hid (by unfold ofRes ofU; rw [if_neg (fun h => h6 h.1)])
    clear hA
    go_enter Tryd.func51, Tryd.ntmps51
    go_wp2
    exact bodyPost_ret (v := .tuple #[upd 0 0 0, .int .i64 4]) (by simp [results, Tryd.results51, go_sem]) rfl ⟨by rw [HZ.out], (by repeat (first | exact Below.refl _ _ | apply Below.drew | apply below_drewN | apply bel_alloc | apply Ext.lift | apply bel_set0 | apply bel_set))⟩

set_option maxRecDepth 100000 in
set_option maxHeartbeats 1000000 in
theorem rof_any (l : List UInt8) (v : Value) (w : World) (h : Bs w v l) :
    Calls Tryd.prog 52 #[v] w fun e w' => e = .returned (rofRes l) ∧ Below w.heap.size w w' := by
  obtain ⟨A, c, rfl, hc, _, hA⟩ := h
  by_cases h6 : l.length = 6
  · obtain ⟨b, off, rfl, hbs, hcell⟩ := hA (by omega)
    clear hA
    have d6 : ((l.length : Int) != 6) = false := by simp; omega
    have hbs1 : b < w.heap.size + 1 := by omega
    have hs2 : w.heap.size < w.heap.size + 1 + 1 := by omega
    have hc4 : (4 : Int) ≤ (c : Int) := by omega
    have HT : Hid (Bs w (.slice (some ⟨b, off, none⟩) 4 c) (l.take 4)) := Lib.hid (Bs.take 4 (by omega) (by omega) hbs hcell)
    have c4 : w.cell? ⟨b, off + 4, none⟩ = some (.int .u8 ((l.getD 4 0).toNat : Int)) := hcell 4 _ (by simp [cellsB, List.getD_eq_getElem?_getD, show 4 < l.length by omega])
    have c5 : w.cell? ⟨b, off + 5, none⟩ = some (.int .u8 ((l.getD 5 0).toNat : Int)) := hcell 5 _ (by simp [cellsB, List.getD_eq_getElem?_getD, show 5 < l.length by omega])
    have hlt : getB (l.take 4) < 4294967296 := by
      have := getB_lt (l.take 4)
      have h4 : (l.take 4).length = 4 := by simp; omega
      rw [h4] at this; exact this
    have HL : Hid ((l.take 4).length = 4) := Lib.hid (by simp; omega)
    have HR : Hid (rofRes l = if mayU (getB (l.take 4) : Nat) ((l.getD 4 0).toNat : Nat) ((l.getD 5 0).toNat : Nat) = true then .tuple #[upd (getB (l.take 4) : Nat) ((l.getD 4 0).toNat : Nat) ((l.getD 5 0).toNat : Nat), .bool true] else .tuple #[upd 0 0 0, .bool false]) := Lib.hid (by
      unfold rofRes ofU
      by_cases hm : mayU (getB (l.take 4) : Nat) ((l.getD 4 0).toNat : Nat) ((l.getD 5 0).toNat : Nat) = true
      · rw [if_pos ⟨h6, hm⟩, if_pos hm]
      · rw [if_neg (fun h => hm h.2), if_neg hm])
    have HG : Hid (∀ W, Below w.heap.size w W → Calls Tryd.prog 22 #[.slice (some ⟨b, off, none⟩) 4 c] W fun e w' => e = .returned (.int .u64 (getB (l.take 4))) ∧ W = w') :=
      Lib.hid (fun W h => rget (l.take 4) _ _ (HT.out.below h) (by rw [HL.out]; decide) (by rw [HL.out]; decide))
    clear hcell HT HL
    have hn := (l.getD 4 0).toNat_lt
    have hd := (l.getD 5 0).toNat_lt
    generalize (l.getD 4 0).toNat = n at *
    generalize (l.getD 5 0).toNat = d at *
    generalize getB (l.take 4) = a at *
    have hia : IsAddr (a : Int) := ⟨by omega, by omega⟩
    cases hm : mayU a n d with
    | true =>
      have HZ : Hid (rofRes l = .tuple #[upd a n d, .bool true]) := Lib.hid (by rw [HR.out, if_pos hm])
      go_enter Tryd.func52, Tryd.ntmps52
      go_wp2
      go_region_held3 (fun w' => w'.cell? ⟨b, off + 4, none⟩ = some (.int .u8 (n : Int)) ∧ w'.cell? ⟨b, off + 5, none⟩ = some (.int .u8 (d : Int))) (go_keep) ((go_at_call 22; refine (HG.out _ (by repeat (first | exact Below.refl _ _ | apply Below.drew | apply below_drewN | apply bel_alloc | apply Ext.lift | apply bel_set0 | apply bel_set))).mono ?_; rintro e w' ⟨rfl, rfl⟩))
      go_wp2_with (go_at_call 54; refine (ext_of (rmayU_any _ _ _ _ (by assumption))).mono ?_; rintro e w' ⟨rfl, z, rfl⟩; have hz1 : w.heap.size < z.w.heap.size := (by have := z.below.size; simp at this; omega); have hz2 : w.heap.size + 1 < z.w.heap.size := (by have := z.below.size; simp at this; omega))
      all_goals exact bodyPost_ret (v := .tuple #[upd a n d, .bool true]) (by simp [results, Tryd.results52, go_sem, hs2]) rfl ⟨by rw [HZ.out], (by repeat (first | exact Below.refl _ _ | apply Below.drew | apply below_drewN | apply bel_alloc | apply Ext.lift | apply bel_set0 | apply bel_set))⟩
    | false =>
      have HZ : Hid (rofRes l = .tuple #[upd 0 0 0, .bool false]) := Lib.hid (by rw [HR.out, if_neg (by rw [hm]; decide)])
      go_enter Tryd.func52, Tryd.ntmps52
      go_wp2
      go_region_held3 (fun w' => w'.cell? ⟨b, off + 4, none⟩ = some (.int .u8 (n : Int)) ∧ w'.cell? ⟨b, off + 5, none⟩ = some (.int .u8 (d : Int))) (go_keep) ((go_at_call 22; refine (HG.out _ (by repeat (first | exact Below.refl _ _ | apply Below.drew | apply below_drewN | apply bel_alloc | apply Ext.lift | apply bel_set0 | apply bel_set))).mono ?_; rintro e w' ⟨rfl, rfl⟩))
      go_wp2_with (go_at_call 54; refine (ext_of (rmayU_any _ _ _ _ (by assumption))).mono ?_; rintro e w' ⟨rfl, z, rfl⟩; have hz1 : w.heap.size < z.w.heap.size := (by have := z.below.size; simp at this; omega); have hz2 : w.heap.size + 1 < z.w.heap.size := (by have := z.below.size; simp at this; omega))
      all_goals exact bodyPost_ret (v := .tuple #[upd 0 0 0, .bool false]) (by simp [results, Tryd.results52, go_sem, hs2]) rfl ⟨by rw [HZ.out], (by repeat (first | exact Below.refl _ _ | apply Below.drew | apply below_drewN | apply bel_alloc | apply Ext.lift | apply bel_set0 | apply bel_set))⟩
  · have d6 : ((l.length : Int) != 6) = true := by simp; omega
    have HZ : Hid (rofRes l = .tuple #[upd 0 0 0, .bool false]) := Lib.hid (by unfold rofRes ofU; rw [if_neg (fun h => h6 h.1)])
    clear hA
    go_enter Tryd.func52, Tryd.ntmps52
    go_wp2
    exact bodyPost_ret (v := .tuple #[upd 0 0 0, .bool false]) (by simp [results, Tryd.results52, go_sem]) rfl ⟨by rw [HZ.out], (by repeat (first | exact Below.refl _ _ | apply Below.drew | apply below_drewN | apply bel_alloc | apply Ext.lift | apply bel_set0 | apply bel_set))⟩
end Go.Proofs.YteafakpipbhioaaDoor
