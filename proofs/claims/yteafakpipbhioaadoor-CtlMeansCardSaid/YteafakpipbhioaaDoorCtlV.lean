/- Contract of ctl.Unlist. -/
import Derived.Test.YteafakpipbhioaaDoorPlainL
import Derived.WalkMore
namespace Go.Proofs.YteafakpipbhioaaDoor
open Go.RowKit Pl

def UnlRes (l : List UInt8) (base : Nat) (e : Ending) (w' : World) : Prop :=
  (∃ us v, unlistU l = some us ∧ e = .returned (.tuple #[v, .int .i64 0]) ∧ w'.ownsRow base 77 3 v us.length (cells3 us)) ∨
  (unlistU l = none ∧ e = .returned (.tuple #[.slice none 0 0, .int .i64 4]))
theorem unlHead_no1 {l : List UInt8} (h : ¬ 1 ≤ l.length) : unlistU l = none := by unfold unlistU unlHead; rw [if_neg]; simp; omega
theorem unlHead_no2 {l : List UInt8} (h : ¬ (l.headD 0).toNat ≤ 32) : unlistU l = none := by unfold unlistU unlHead; rw [if_neg]; simp only [Bool.and_eq_true, decide_eq_true_eq]; exact fun hh => h hh.1.2
theorem unlHead_no3 {l : List UInt8} (h : ¬ l.length = 1 + 6 * (l.headD 0).toNat) : unlistU l = none := by unfold unlistU unlHead; rw [if_neg]; simp only [Bool.and_eq_true, decide_eq_true_eq]; exact fun hh => h hh.2
theorem unlHead_yes {l : List UInt8} (h1 : 1 ≤ l.length) (h2 : (l.headD 0).toNat ≤ 32) (h3 : l.length = 1 + 6 * (l.headD 0).toNat) : unlistU l = unl l (l.headD 0).toNat := by
  unfold unlistU; rw [if_pos]; unfold unlHead; simp only [Bool.and_eq_true, decide_eq_true_eq]; exact ⟨⟨h1, h2⟩, h3⟩
theorem Bs.chunk {w : World} {b off : Nat} {l : List UInt8} {j : Nat} (hj : 1 + 6 * (j + 1) ≤ l.length) (c : Nat) (hc : 6 ≤ c) (hb : b < w.heap.size) (hcell : ∀ j u, (cellsB l)[j]? = some u → w.cell? ⟨b, off + j, none⟩ = some u) :
    Bs w (.slice (some ⟨b, off + (1 + 6 * j), none⟩) 6 c) (chunk l j) := by
  refine ⟨_, c, by rw [chunk_length hj], by rw [chunk_length hj]; exact hc, (fun h => by cases h), fun _ => ⟨b, off + (1 + 6 * j), rfl, hb, fun i u hu => ?_⟩⟩
  rw [Nat.add_assoc]
  refine hcell _ u ?_
  unfold Go.Proofs.YteafakpipbhioaaDoor.chunk at hu
  simp only [cellsB, List.getElem?_map, List.getElem?_take, List.getElem?_drop] at hu ⊢
  split at hu
  · exact hu
  · simp at hu

set_option maxRecDepth 100000 in
set_option maxHeartbeats 1000000 in
theorem cunlist_any (v : Value) (l : List UInt8) (w : World) (h : Bs w v l) (hl : l.length ≤ 1000000) :
    Calls Tryd.prog 65 #[v] w fun e w' => UnlRes l w.heap.size e w' ∧ Below w.heap.size w w' := by
  have HB := Lib.hid h
  obtain ⟨A, c, rfl, hc, _, hA⟩ := h
  by_cases h1 : 1 ≤ l.length
  · obtain ⟨b, off, rfl, hbs, hcell⟩ := hA (by omega)
    have d1 : decide ((l.length : Int) < 1) = false := by simp; omega
    obtain ⟨k, hk⟩ : ∃ k, (l.headD 0).toNat = k := ⟨_, rfl⟩
    have c0 : w.cell? ⟨b, off, none⟩ = some (.int .u8 (k : Int)) := by
      have := hcell 0 (.int .u8 (k : Int)) (by
        cases l with
        | nil => simp at h1
        | cons x l => simp [cellsB] at hk ⊢; omega)
      simpa using this
    have hk256 : k < 256 := by have := (l.headD 0).toNat_lt; omega
    have hb0 : (0 : Int) < (l.length : Int) := by omega
    by_cases h2 : k ≤ 32
    · have d2 : decide (32 < (k : Int)) = false := by simp; omega
      by_cases h3 : l.length = 1 + 6 * k
      · have d3 : ((l.length : Int) != 1 + 6 * (k : Int)) = false := by simp; omega
        have HU : Hid (unlistU l = unl l k) := Lib.hid (by rw [unlHead_yes h1 (by omega) (by rw [hk]; exact h3), hk])
        have HC := Lib.hid hcell
        clear hA hk hcell
        go_enter Tryd.func65, Tryd.ntmps65
        go_wp2
        go_step3
        go_wp2
        go_step3
        go_wp2
        go_loopw [4, 5, 34] (fun o g i wr => ∃ (j : Nat) (acc : List N3), j ≤ k ∧ g = .bool true ∧ i = .int .i64 (j : Int) ∧ Hid (unl l j = some acc) ∧ acc.length = j ∧ wr.ownsRow w.heap.size 77 3 o acc.length (cells3 acc) ∧ Below w.heap.size w wr) (fun _ _ i _ => k - (intOf i).toNat)
        case atStart => exact ⟨0, [], by omega, rfl, rfl, Lib.hid rfl, rfl, World.ownsRow_nil _ _ _ _, Below.refl _ _⟩
        case round =>
          obtain ⟨j, acc, hj, rfl, rfl, HI, hacc, hown, hb⟩ := hrel
          have hbz := hb.size
          by_cases hlt : j < k
          · have HK := Lib.hid (Bs.chunk (j := j) (by omega) 6 (Nat.le_refl _) (Nat.lt_of_lt_of_le hbs hb.size) (fun i u hu => (hb.cell (show b < _ from hbs)).trans (HC.out i u hu)))
            have hbnd : (1 : Int) + 6 * (j : Int) + 6 ≤ (c : Int) := by omega
            have hbnd2 : (1 : Int) + 6 * (j : Int) + 6 ≤ (l.length : Int) := by omega
            have hc0 : wr.cell? ⟨b, off, none⟩ = some (.int .u8 (k : Int)) := (hb.cell (show b < _ from hbs)).trans c0
            cases hu : ofU (Go.Proofs.YteafakpipbhioaaDoor.chunk l j) with
            | none =>
              have HZ : Hid (unlistU l = none) := Lib.hid (by rw [HU.out, unl_stop hu hlt])
              have HOF : Hid (Calls Tryd.prog 51 #[.slice (some ⟨b, off + (1 + 6 * j), none⟩) 6 6] wr fun e w' => e = .returned (.tuple #[upd 0 0 0, .int .i64 4]) ∧ Below wr.heap.size wr w') := Lib.hid (by
                have := cof_any _ _ wr HK.out
                unfold ofRes at this; rw [hu] at this; exact this)
              clear hu HK HI HB
              go_wp2_with (go_at_call 51; refine (ext_of HOF.out).mono ?_; rintro e w' ⟨rfl, y, rfl⟩)
              try rw [Exit.noGoto_ret]
              go_ret2
              exact ⟨.inr ⟨HZ.out, rfl⟩, bel_alloc (Ext.lift y hb) _⟩
            | some u =>
              obtain ⟨ua, un, ud⟩ := u
              have HN := Lib.hid (unl_next HI.out hu)
              have HOF : Hid (Calls Tryd.prog 51 #[.slice (some ⟨b, off + (1 + 6 * j), none⟩) 6 6] wr fun e w' => e = .returned (.tuple #[upd ua un ud, .int .i64 0]) ∧ Below wr.heap.size wr w') := Lib.hid (by
                have := cof_any _ _ wr HK.out
                unfold ofRes at this; rw [hu] at this; exact this)
              clear hu HK HI HB
              go_wp2_with (first
                | (go_at_call 51; refine (ext_of HOF.out).mono ?_; rintro e w' ⟨rfl, y, rfl⟩; have hys := y.below.size; have hown1 := (own_below hown y.below).alloc (.cells #[.int .u32 (ua : Int), .int .i64 (un : Int), .int .i64 (ud : Int)] 77))
                | (at_builtin; refine wpList_push3 rfl (.tmp 55) (.tmp 57) rfl w.heap.size u4 acc (ua, un, ud) rfl hown1 rfl (World.size_alloc _ _) (by omega) (by simp only [World.size_alloc]; omega) ?_))
              intro v' w2 hown2 hg
              have HR := Lib.hid hown2
              have hb2 : Below w.heap.size w (y.w.alloc (.cells #[.int .u32 (ua : Int), .int .i64 (un : Int), .int .i64 (ud : Int)] 77)) := bel_alloc (Ext.lift y hb) _
              have hb3 := Lib.hid (hb2.grown hg hb2.size fun g hg => (hown1.lt g hg).1)
              clear hown hown1 hown2 hg hb2
              go_wp2
              go_roundw
              case rel => exact ⟨j + 1, acc ++ [(ua, un, ud)], by omega, rfl, by go_num, HN, by rw [List.length_append, hacc]; rfl, by first | exact HR.out | (rw [List.length_append, hacc]; exact HR.out), hb3.out⟩
              case measure => simp [intOf]; omega
          · obtain rfl : j = k := by omega
            have HZ : Hid (unlistU l = some acc) := Lib.hid (by rw [HU.out, HI.out])
            go_wp2
            try rw [Exit.noGoto_ret]
            go_ret2
            exact ⟨.inl ⟨acc, _, HZ.out, rfl, hown⟩, hb⟩
      · have HZ : Hid (unlistU l = none) := Lib.hid (unlHead_no3 (by rw [hk]; exact h3))
        have d3 : ((l.length : Int) != 1 + 6 * (k : Int)) = true := by simp; omega
        clear hA hk hcell
        go_enter Tryd.func65, Tryd.ntmps65
        go_wp2
        go_step3
        go_wp2
        try rw [Exit.noGoto_ret]
        go_ret2
        exact ⟨.inr ⟨HZ.out, rfl⟩, Below.refl _ _⟩
    · have HZ : Hid (unlistU l = none) := Lib.hid (unlHead_no2 (by rw [hk]; exact h2))
      have d2 : decide (32 < (k : Int)) = true := by simp; omega
      clear hA hk hcell
      go_enter Tryd.func65, Tryd.ntmps65
      go_wp2
      go_step3
      go_wp2
      try rw [Exit.noGoto_ret]
      go_ret2
      exact ⟨.inr ⟨HZ.out, rfl⟩, Below.refl _ _⟩
  · have HZ : Hid (unlistU l = none) := Lib.hid (unlHead_no1 h1)
    have d1 : decide ((l.length : Int) < 1) = true := by simp; omega
    clear hA
    go_enter Tryd.func65, Tryd.ntmps65
    go_wp2
    go_step3
    go_wp2
    try rw [Exit.noGoto_ret]
    go_ret2
    exact ⟨.inr ⟨HZ.out, rfl⟩, Below.refl _ _⟩
end Go.Proofs.YteafakpipbhioaaDoor
