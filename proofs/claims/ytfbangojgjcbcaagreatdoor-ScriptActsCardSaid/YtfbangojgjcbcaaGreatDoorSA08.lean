/- Part 8 of the proof: ActS, ActT. -/
import Derived.Test.YtfbangojgjcbcaaGreatDoorSA04
import Derived.Test.YtfbangojgjcbcaaGreatDoorSA06
import Derived.Test.YtfbangojgjcbcaaGreatDoorSA07
namespace Go.Proofs.YtfbangojgjcbcaaGreatDoor
open Go.RowKit Pl
/-- No kind under k answers. -/
def NoR (s : List UInt8) (k : Int) : Prop := ∀ x : Nat, 1 ≤ x → (x : Int) < k → ¬ (wd (splitOn 32 s) 0 = nameA x ∧ isA (guessA numR x (splitOn 32 s)) s = true)
theorem NoR.start (s : List UInt8) : NoR s 1 := fun x h1 h2 => by omega
theorem NoR.next {s : List UInt8} {k : Int} (h : NoR s k) (hk : 1 ≤ k) (hn : ¬ (wd (splitOn 32 s) 0 = nameA k.toNat ∧ isA (guessA numR k.toNat (splitOn 32 s)) s = true)) : NoR s (k + 1) := fun x h1 h2 => by
  by_cases e : (x : Int) < k
  · exact h x h1 e
  · have : x = k.toNat := by omega
    subst this
    exact hn
theorem NoR.none {s : List UInt8} (h : NoR s 10) : actW numR s = none := by
  unfold actW
  cases hk : kindA (wd (splitOn 32 s) 0) with
  | none => rfl
  | some k =>
    obtain ⟨h1, h9, hn⟩ := kindA_le hk
    have := h k h1 (by omega)
    simp only
    rw [if_neg (fun e => this ⟨hn, e⟩)]
theorem actR_of {s : List UInt8} {k : Int} (h1 : 1 ≤ k) (h9 : k ≤ 9) (hn : wd (splitOn 32 s) 0 = nameA k.toNat) (h : isA (guessA numR k.toNat (splitOn 32 s)) s = true) : actW numR s = some (guessA numR k.toNat (splitOn 32 s)) := by
  unfold actW
  rw [hn, kindA_name (by omega) (by omega)]
  simp only
  rw [if_pos h]
theorem RUnRes.one {l : List UInt8} {base : Nat} {e : Ending} {w' : World} (h : RUnRes l base e w') : ∃ A c, e = .returned (.tuple #[.slice A (unhexD l).length c, .bool (unhex l).isSome]) ∧ Bs w' (.slice A (unhexD l).length c) (unhexD l) ∧ BlkFrom base (.slice A (unhexD l).length c) := by
  rcases h with ⟨m, v, hu, rfl, hv⟩ | ⟨hu, rfl⟩
  · have hm : unhexD l = m := by unfold unhexD; rw [hu]; rfl
    have hb := Bs.own hv
    obtain ⟨A, c, rfl, -, -, -⟩ := id hb
    rw [hm, hu]
    exact ⟨A, c, rfl, hb, BlkFrom.own hv (Nat.le_refl _)⟩
  · have hm : unhexD l = [] := by unfold unhexD; rw [hu]; rfl
    rw [hm, hu]
    exact ⟨none, 0, rfl, Bs.nil _, BlkFrom.nil _⟩
theorem BlkFrom.mono {a b : Nat} {v : Value} (h : BlkFrom b v) (hab : a ≤ b) : BlkFrom a v := fun g o n c e => Nat.le_trans hab (h g o n c e)
theorem guessF_bytes (f : List UInt8 → Int) (k : Nat) (ws : List (List UInt8)) (h : ∀ x ∈ ws, x.length ≤ 100000) : (guessA f k ws).bytes.length ≤ 100000 := by
  have hw : (wd ws 2).length ≤ 100000 := by
    unfold wd
    rw [List.getD_eq_getElem?_getD]
    cases hx : ws[2]? with
    | none => simp
    | some y => exact h y (List.mem_of_getElem? hx)
  have hu : (unhexD (wd ws 2)).length ≤ (wd ws 2).length := unhexD_len _
  unfold guessA
  split <;> simp <;> omega
theorem byteI_mod (n : Int) : n % 256 = ((byteI n).toNat : Int) := by
  unfold byteI
  rw [UInt8.toNat_ofNat']
  omega
def ActOfR (s : List UInt8) (e : Ending) (w' : World) : Prop := match actW numR s with
  | some a => ∃ bv, e = .returned (.tuple #[actV a bv, .bool true]) ∧ Bs w' bv a.bytes
  | none => e = .returned (.tuple #[actV { kind := 0 } (.slice none 0 0), .bool false])
set_option maxRecDepth 100000 in
set_option maxHeartbeats 16000000 in
theorem ractOf_any (s : List UInt8) (w : World) (hl : s.length ≤ 100000) (E : Env w) :
    Calls Tryz.prog 37 #[.string (str s)] w fun e w' => ActOfR s e w' ∧ Below w.heap.size w w' := by
  have HS := Lib.hid (fun W => rsplit 32 s W (by omega))
  have EE := Lib.hid E
  have HN := Lib.hid (fun (k : Int) (h : 1 ≤ k ∧ k ≤ 9) W => rname_in k W h.1 h.2)
  have HP := Lib.hid (fun (k : Int) (h : 1 ≤ k ∧ k ≤ 9) W => rparts_in k W h.1 h.2)
  have HLW : Hid (∀ x ∈ splitOn 32 s, x.length ≤ 100000) := Lib.hid (fun x hx => Nat.le_trans ((splitOn_len 32 s).2 x hx) hl)
  go_enter Tryz.func37, Tryz.ntmps37
  go_wp2_with fail
  refine (HS.out _).mono ?_
  rintro e w1 ⟨v, rfl, hown, hb1⟩
  have hne := splitOn_ne 32 s
  have hwn := (splitOn_len 32 s).1
  have hns : (∀ x ∈ splitOn 32 s, x.length ≤ 100000) := HLW.out
  obtain ⟨g, cap, rfl, hcap, hg⟩ := hown.form (List.length_pos_iff.2 hne)
  have HW1 : Hid (g < w1.heap.size ∧ ∀ j, j < (splitOn 32 s).length → w1.cell? ⟨g, j, none⟩ = some (.string (str (wd (splitOn 32 s) j)))) := Lib.hid ⟨hg, fun j hj => parts_at hown j hj⟩
  have HX1 : Hid (Whole w1 w.heap.size 51 #[.int .i64 0, .int .i64 0, .int .i64 0, .int .i64 0, .int .i64 0, .bool false, .int .u8 0, .bool false, .slice none 0 0]) := Lib.hid ((Whole.new w 51 _).here hb1)
  have HB1 : Hid (Below w.heap.size w w1) := Lib.hid (((Below.refl _ _).alloc (Nat.le_refl _) _).trans (hb1.mono (by simp)))
  have E1 := Lib.hid (EE.out.here HB1.out)
  have hlt1 := HX1.out.lt
  obtain ⟨ws, hws⟩ : ∃ ws, splitOn 32 s = ws := ⟨_, rfl⟩
  have HWS := Lib.hid hws
  rw [hws] at HW1 HLW hne hwn ⊢
  have hn0 : 0 < ws.length := List.length_pos_iff.2 hne
  clear hown hb1 hws hne hg hcap
  go_wp2
  go_loopw [5, 6, 7, 8, 9] (fun k _ _ _ _ wr => ∃ i : Int, 1 ≤ i ∧ i ≤ 10 ∧ k = .int .i64 i ∧ Hid (NoR s i) ∧ Hid (Below w1.heap.size w1 wr)) (fun k _ _ _ _ _ => 10 - (intOf k).toNat)
  case atStart => exact ⟨1, by omega, by omega, rfl, Lib.hid (NoR.start s), Lib.hid (Below.refl _ _)⟩
  case round =>
    obtain ⟨i, hi1, hi10, rfl, HNO, HB⟩ := hrel
    by_cases h9 : i ≤ 9
    · have HPI := Lib.hid (fun W => HP.out i ⟨hi1, h9⟩ W)
      have HNI := Lib.hid (fun W => HN.out i ⟨hi1, h9⟩ W)
      have HG : Hid (g < wr.heap.size) := Lib.hid (Nat.lt_of_lt_of_le HW1.out.1 HB.out.size)
      have c0 : wr.cell? ⟨g, 0, none⟩ = some (.string (str (wd ws 0))) := (HB.out.cell HW1.out.1).trans (HW1.out.2 0 hn0)
      have hgw := HG.out
      have hpl : (lettersA i.toNat).length = (partsA i.toNat).length := by unfold lettersA; simp
      have hp4 := partsA_len i.toNat
      have hsp := str_size (lettersA i.toNat)
      by_cases hnm : wd ws 0 = nameA i.toNat
      · have l1 := str_eq_true hnm
        have l2 : (!(str (wd ws 0)).toList == (str (nameA i.toNat)).toList) = false := by rw [l1]; rfl
        by_cases hwl : ws.length = 1 + (partsA i.toNat).length
        · have HNM := Lib.hid hnm
          have HWL := Lib.hid hwl
          have l3 : ((ws.length : Int) != 1 + ((lettersA i.toNat).length : Int)) = false := by rw [hpl]; simp; omega
          clear hnm hwl l1
          go_wp2_with (go_at_call 78; refine (HPI.out _).mono ?_; rintro e w2 ⟨rfl, hb2⟩)
          have c2 : w2.cell? ⟨g, 0, none⟩ = some (.string (str (wd ws 0))) := (hb2.cell hgw).trans c0
          have hgw2 : g < w2.heap.size := Nat.lt_of_lt_of_le hgw hb2.size
          have HB2 := Lib.hid (HB.out.trans (hb2.mono HB.out.size))
          clear hb2 c0
          refine wp_region_ext (by kernel_rfl) (by kernel_rfl) ?_
          repeat (go_big_quiet_step (first | (go_at_call 81; exact Ext.call (HNI.out _))))
          refine wpQuiet_nil ?_
          rintro _ ⟨y, rfl⟩
          have HBy := Lib.hid (HB2.out.trans (y.below.mono HB2.out.size))
          clear c2 hgw2
          obtain ⟨W3, hW3⟩ : ∃ W3, y.w = W3 := ⟨_, rfl⟩
          rw [hW3] at HBy ⊢
          clear hW3 y
          go_wp2
          obtain ⟨W4, hW4⟩ : ∃ W4, W3.alloc (.cells #[.int .i64 i, .int .i64 0, .int .i64 0, .int .i64 0, .int .i64 0, .bool false, .int .u8 0, .bool false, .slice none 0 0] 51) = W4 := ⟨_, rfl⟩
          have HX4 : Hid (BoxA W3.heap.size { kind := i } W4) := Lib.hid (by rw [← hW4]; exact BoxA.new W3 i)
          have HB4 : Hid (Below W3.heap.size W3 W4) := Lib.hid (by rw [← hW4]; exact (Below.refl _ _).alloc (Nat.le_refl _) _)
          rw [hW4]
          clear hW4
          obtain ⟨b, hb⟩ : ∃ b, W3.heap.size = b := ⟨_, rfl⟩
          have hgb : g < b := by rw [← hb]; exact Nat.lt_of_lt_of_le HW1.out.1 HBy.out.size
          have HBS := Lib.hid hb
          rw [hb] at HX4 ⊢
          clear hb
          have l3' : ((ws.length : Int) != 1 + ((partsA i.toNat).length : Int)) = false := by have := HWL.out; simp; omega
          rw [l3']
          clear l3'
          go_loopw [8, 9] (fun jv _ wx => ∃ j : Nat, j ≤ (partsA i.toNat).length ∧ jv = .int .i64 j ∧ Hid (BoxA b (buildA numR i ws j) wx) ∧ Hid (Below W3.heap.size W3 wx)) (fun jv _ _ => (partsA i.toNat).length - (intOf jv).toNat)
          case atStart => exact ⟨0, Nat.zero_le _, rfl, HX4, HB4⟩
          case round =>
            obtain ⟨j, hj, rfl, HX, HBx⟩ := hrel
            by_cases hlt : j < (partsA i.toNat).length
            · obtain ⟨q, hq⟩ : ∃ q, (partsA i.toNat)[j]? = some q := ⟨_, List.getElem?_eq_getElem hlt⟩
              have hltL : j < (lettersA i.toNat).length := by omega
              have hlt' := str_lt hltL
              have ej : (str (lettersA i.toNat))[j]'hlt' = letter q := by
                rw [str_at _ j hltL]
                have : (lettersA i.toNat)[j]? = some (letter q) := by unfold lettersA; rw [List.getElem?_map, hq]; rfl
                rw [List.getElem?_eq_getElem hltL] at this
                injection this
              have HNX := Lib.hid (buildA_next (f := numR) (ws := ws) hq)
              have hj1 : 1 + j < ws.length := by have := HWL.out; omega
              have HBW := Lib.hid (HBy.out.trans (HBx.out.mono HBy.out.size))
              have c1 : wr.cell? ⟨g, 1 + j, none⟩ = some (.string (str (wd ws (1 + j)))) := (HBW.out.cell HW1.out.1).trans (HW1.out.2 _ hj1)
              have hgx : g < wr.heap.size := Nat.lt_of_lt_of_le HW1.out.1 HBW.out.size
              have hwl1 : (wd ws (1 + j)).length ≤ 1000000 := by
                unfold wd
                rw [List.getD_eq_getElem?_getD, List.getElem?_eq_getElem hj1]
                exact Nat.le_trans (HLW.out _ (List.getElem_mem hj1)) (by omega)
              obtain ⟨bv, hwb, -, -⟩ := HX.out
              have hbx := hwb.lt
              clear hq
              cases q with
              | n =>
                have d : (((str (lettersA i.toNat))[j]'hlt').toNat : Int) = 110 := by rw [ej]; rfl
                clear ej
                have ob := hwb.cell 1
                simp only [List.getElem?_toArray, List.getElem?_cons_succ, List.getElem?_cons_zero] at ob
                have fz := hwb.frozen 1
                clear hwb
                go_wp2_with (go_at_call 85; refine (rnum_any _ _ hwl1).mono ?_; rintro e w' ⟨rfl, rfl⟩)
                go_roundw
                case rel => exact ⟨j + 1, by omega, by go_num, Lib.hid (by rw [HNX.out]; exact HX.out.node _), Lib.hid (HBx.out.setCell (p := ⟨b, 1, none⟩) (Nat.le_of_eq HBS.out) _)⟩
                case measure => simp [intOf]; omega
              | p =>
                have d : (((str (lettersA i.toNat))[j]'hlt').toNat : Int) = 112 := by rw [ej]; rfl
                clear ej
                have ob := hwb.cell 2
                simp only [List.getElem?_toArray, List.getElem?_cons_succ, List.getElem?_cons_zero] at ob
                have fz := hwb.frozen 2
                clear hwb
                go_wp2_with (go_at_call 85; refine (rnum_any _ _ hwl1).mono ?_; rintro e w' ⟨rfl, rfl⟩)
                go_roundw
                case rel => exact ⟨j + 1, by omega, by go_num, Lib.hid (by rw [HNX.out]; exact HX.out.port _), Lib.hid (HBx.out.setCell (p := ⟨b, 2, none⟩) (Nat.le_of_eq HBS.out) _)⟩
                case measure => simp [intOf]; omega
              | c =>
                have d : (((str (lettersA i.toNat))[j]'hlt').toNat : Int) = 99 := by rw [ej]; rfl
                clear ej
                have ob := hwb.cell 3
                simp only [List.getElem?_toArray, List.getElem?_cons_succ, List.getElem?_cons_zero] at ob
                have fz := hwb.frozen 3
                clear hwb
                go_wp2_with (go_at_call 85; refine (rnum_any _ _ hwl1).mono ?_; rintro e w' ⟨rfl, rfl⟩)
                go_roundw
                case rel => exact ⟨j + 1, by omega, by go_num, Lib.hid (by rw [HNX.out]; exact HX.out.cost _), Lib.hid (HBx.out.setCell (p := ⟨b, 3, none⟩) (Nat.le_of_eq HBS.out) _)⟩
                case measure => simp [intOf]; omega
              | i =>
                have d : (((str (lettersA i.toNat))[j]'hlt').toNat : Int) = 105 := by rw [ej]; rfl
                clear ej
                have ob := hwb.cell 4
                simp only [List.getElem?_toArray, List.getElem?_cons_succ, List.getElem?_cons_zero] at ob
                have fz := hwb.frozen 4
                clear hwb
                go_wp2_with (go_at_call 85; refine (rnum_any _ _ hwl1).mono ?_; rintro e w' ⟨rfl, rfl⟩)
                go_roundw
                case rel => exact ⟨j + 1, by omega, by go_num, Lib.hid (by rw [HNX.out]; exact HX.out.n _), Lib.hid (HBx.out.setCell (p := ⟨b, 4, none⟩) (Nat.le_of_eq HBS.out) _)⟩
                case measure => simp [intOf]; omega
              | b =>
                have d : (((str (lettersA i.toNat))[j]'hlt').toNat : Int) = 98 := by rw [ej]; rfl
                clear ej
                have ob := hwb.cell 6
                simp only [List.getElem?_toArray, List.getElem?_cons_succ, List.getElem?_cons_zero] at ob
                have fz := hwb.frozen 6
                clear hwb
                go_wp2_with (go_at_call 85; refine (rnum_any _ _ hwl1).mono ?_; rintro e w' ⟨rfl, rfl⟩)
                go_roundw
                case rel => exact ⟨j + 1, by omega, by go_num, Lib.hid (by rw [HNX.out]; rw [byteI_mod]; exact HX.out.by_ _), Lib.hid (HBx.out.setCell (p := ⟨b, 6, none⟩) (Nat.le_of_eq HBS.out) _)⟩
                case measure => simp [intOf]; omega
              | u =>
                have d : (((str (lettersA i.toNat))[j]'hlt').toNat : Int) = 117 := by rw [ej]; rfl
                clear ej
                have ob := hwb.cell 5
                simp only [List.getElem?_toArray, List.getElem?_cons_succ, List.getElem?_cons_zero] at ob
                have fz := hwb.frozen 5
                clear hwb
                go_wp2_with (go_at_call 85; refine (rnum_any _ _ hwl1).mono ?_; rintro e w' ⟨rfl, rfl⟩)
                go_roundw
                case rel => exact ⟨j + 1, by omega, by go_num, Lib.hid (by rw [HNX.out]; rw [show ((str (wd ws (1 + j))).toList == [117, 112]) = decide (wd ws (1 + j) = wUp) from by rw [str_toList]; exact beqd _ _]; exact HX.out.up _), Lib.hid (HBx.out.setCell (p := ⟨b, 5, none⟩) (Nat.le_of_eq HBS.out) _)⟩
                case measure => simp [intOf]; omega
              | r =>
                have d : (((str (lettersA i.toNat))[j]'hlt').toNat : Int) = 114 := by rw [ej]; rfl
                clear ej
                have ob := hwb.cell 7
                simp only [List.getElem?_toArray, List.getElem?_cons_succ, List.getElem?_cons_zero] at ob
                have fz := hwb.frozen 7
                clear hwb
                go_wp2_with (go_at_call 85; refine (rnum_any _ _ hwl1).mono ?_; rintro e w' ⟨rfl, rfl⟩)
                go_roundw
                case rel => exact ⟨j + 1, by omega, by go_num, Lib.hid (by rw [HNX.out]; rw [show ((str (wd ws (1 + j))).toList == [117, 110, 114, 101, 97, 100]) = decide (wd ws (1 + j) = wUnread) from by rw [str_toList]; exact beqd _ _]; exact HX.out.unread _), Lib.hid (HBx.out.setCell (p := ⟨b, 7, none⟩) (Nat.le_of_eq HBS.out) _)⟩
                case measure => simp [intOf]; omega
              | x =>
                have d : (((str (lettersA i.toNat))[j]'hlt').toNat : Int) = 120 := by rw [ej]; rfl
                clear ej
                have HWB := Lib.hid hwb
                clear hwb
                go_wp2_with (go_at_call 85; refine (rnum_any _ _ hwl1).mono ?_; rintro e w' ⟨rfl, rfl⟩)
                refine (runhex_any _ _ hwl1).mono ?_
                rintro e wu ⟨hu, hbu⟩
                obtain ⟨A, c, rfl, hbs, hbf⟩ := hu.one
                have HXU := Lib.hid ((HX.out.here hbu).bytes (unhexD (wd ws (1 + j))) _ hbs (hbf.mono hbx))
                have HBU := Lib.hid ((HBx.out.trans (hbu.mono HBx.out.size)).setCell (p := ⟨b, 8, none⟩) (Nat.le_of_eq HBS.out) (.slice A (unhexD (wd ws (1 + j))).length c))
                have hwu := HWB.out.here hbu
                have ob := hwu.cell 8
                simp only [List.getElem?_toArray, List.getElem?_cons_succ, List.getElem?_cons_zero] at ob
                have fz := hwu.frozen 8
                have hbx := hwu.lt
                clear hwu hu hbs hbf hbu
                go_wp2
                go_roundw
                case rel => exact ⟨j + 1, by omega, by go_num, Lib.hid (by rw [HNX.out]; exact HXU.out), HBU⟩
                case measure => simp [intOf]; omega
            · obtain rfl : j = (partsA i.toNat).length := by omega
              have hx := HX.out
              rw [buildA_all numR ws hi1 h9] at hx
              have hin := guess_in (f := numR) numR_in i.toNat (by omega) ws
              have hgk := guess_kind numR (k := i.toNat) ws
              have hgb := guessF_bytes numR i.toNat ws (fun x hx => HLW.out x hx)
              have HIS : Hid (isA (guessA numR i.toNat ws) s = (mayA (guessA numR i.toNat ws) && decide (actText (guessA numR i.toNat ws) = s))) := Lib.hid rfl
              have HOF := Lib.hid (fun (h : isA (guessA numR i.toNat ws) s = true) => actR_of (s := s) hi1 h9 (by rw [HWS.out]; exact HNM.out) (by rw [HWS.out]; exact h))
              rw [HWS.out] at HOF
              obtain ⟨a, ha⟩ : ∃ a, guessA numR i.toNat ws = a := ⟨_, rfl⟩
              rw [ha] at hx hin hgk hgb HIS HOF
              have HNI : Hid (isA a s = false → NoR s (i + 1)) := Lib.hid (fun h => HNO.out.next hi1 (fun e => by rw [HWS.out, ha, h] at e; exact absurd e.2 (by simp)))
              clear ha
              obtain ⟨bv, hwb, hbs, hbf⟩ := hx
              obtain ⟨A, c, rfl, -, -, -⟩ := id hbs
              have v0 : wr.cell? ⟨b, 0, none⟩ = some (.int .i64 a.kind) := hwb.cell 0
              have v1 : wr.cell? ⟨b, 1, none⟩ = some (.int .i64 a.node) := hwb.cell 1
              have v2 : wr.cell? ⟨b, 2, none⟩ = some (.int .i64 a.port) := hwb.cell 2
              have v3 : wr.cell? ⟨b, 3, none⟩ = some (.int .i64 a.cost) := hwb.cell 3
              have v4 : wr.cell? ⟨b, 4, none⟩ = some (.int .i64 a.n) := hwb.cell 4
              have v5 : wr.cell? ⟨b, 5, none⟩ = some (.bool a.up) := hwb.cell 5
              have v6 : wr.cell? ⟨b, 6, none⟩ = some (.int .u8 (a.by_.toNat : Int)) := hwb.cell 6
              have v7 : wr.cell? ⟨b, 7, none⟩ = some (.bool a.unread) := hwb.cell 7
              have v8 : wr.cell? ⟨b, 8, none⟩ = some (.slice A a.bytes.length c) := hwb.cell 8
              have hbw := hwb.lt
              have HIA := Lib.hid hin
              have HBS8 := Lib.hid hbs
              have HBF := Lib.hid hbf
              have HWB := Lib.hid hwb
              have HK9 : Hid (K9 a) := Lib.hid (by unfold K9; omega)
              have HMY : Hid (Calls Tryz.prog 32 #[.agg #[.int .i64 a.kind, .int .i64 a.node, .int .i64 a.port, .int .i64 a.cost, .int .i64 a.n, .bool a.up, .int .u8 (a.by_.toNat : Int), .bool a.unread, .slice A a.bytes.length c]] wr fun e w' => e = .returned (.bool (mayA a)) ∧ Below wr.heap.size wr w') := Lib.hid (rmayAct_any a _ wr hbs)
              have HB7 := Lib.hid (HBy.out.trans (HBx.out.mono HBy.out.size))
              clear hwb hbs hbf hin hgk hgb
              go_wp2_with fail
              refine HMY.out.mono ?_
              rintro e wm ⟨rfl, hbm⟩
              have HBM := Lib.hid (HB7.out.trans (hbm.mono HB7.out.size))
              have hwm := HWB.out.here hbm
              have HBS9 := Lib.hid (HBS8.out.below hbm)
              clear v0 v1 v2 v3 v4 v5 v6 v7 v8 hbw HMY
              have v0 : wm.cell? ⟨b, 0, none⟩ = some (.int .i64 a.kind) := hwm.cell 0
              have v1 : wm.cell? ⟨b, 1, none⟩ = some (.int .i64 a.node) := hwm.cell 1
              have v2 : wm.cell? ⟨b, 2, none⟩ = some (.int .i64 a.port) := hwm.cell 2
              have v3 : wm.cell? ⟨b, 3, none⟩ = some (.int .i64 a.cost) := hwm.cell 3
              have v4 : wm.cell? ⟨b, 4, none⟩ = some (.int .i64 a.n) := hwm.cell 4
              have v5 : wm.cell? ⟨b, 5, none⟩ = some (.bool a.up) := hwm.cell 5
              have v6 : wm.cell? ⟨b, 6, none⟩ = some (.int .u8 (a.by_.toNat : Int)) := hwm.cell 6
              have v7 : wm.cell? ⟨b, 7, none⟩ = some (.bool a.unread) := hwm.cell 7
              have v8 : wm.cell? ⟨b, 8, none⟩ = some (.slice A a.bytes.length c) := hwm.cell 8
              have hbw := hwm.lt
              have hgm := HBM.out.size
              clear hwm hbm
              cases hm : mayA a with
              | false =>
                rw [hm] at HIS
                go_wp2
                go_roundw
                case rel => exact ⟨i + 1, by omega, by omega, by go_num, Lib.hid (HNI.out (by rw [HIS.out]; rfl)), HBM⟩
                case measure => simp [intOf]; omega
              | true =>
                rw [hm] at HIS
                have HTX : Hid (Calls Tryz.prog 34 #[.agg #[.int .i64 a.kind, .int .i64 a.node, .int .i64 a.port, .int .i64 a.cost, .int .i64 a.n, .bool a.up, .int .u8 (a.by_.toNat : Int), .bool a.unread, .slice A a.bytes.length c]] wm fun e w' => e = .returned (.string (str (actText a))) ∧ Below wm.heap.size wm w') := Lib.hid (ractText_any a _ wm HK9.out HBS9.out HIA.out (by unfold mayA at hm; simp at hm; exact hm.2) ((EE.out.here HB1.out).here HBM.out))
                clear hm
                go_wp2_with fail
                refine HTX.out.mono ?_
                rintro e wt ⟨rfl, hbt⟩
                have HBT9 := Lib.hid (HBM.out.trans (hbt.mono HBM.out.size))
                have HBT := Lib.hid (HBS9.out.below hbt)
                have hra := HX1.out.here HBT9.out
                have z0 : wt.cell? ⟨w.heap.size, 0, none⟩ = some (.int .i64 0) := hra.cell 0
                have fz0 : wt.frozen? ⟨w.heap.size, 0, none⟩ = false := hra.frozen 0
                have z1 : wt.cell? ⟨w.heap.size, 1, none⟩ = some (.int .i64 0) := hra.cell 1
                have fz1 : wt.frozen? ⟨w.heap.size, 1, none⟩ = false := hra.frozen 1
                have z2 : wt.cell? ⟨w.heap.size, 2, none⟩ = some (.int .i64 0) := hra.cell 2
                have fz2 : wt.frozen? ⟨w.heap.size, 2, none⟩ = false := hra.frozen 2
                have z3 : wt.cell? ⟨w.heap.size, 3, none⟩ = some (.int .i64 0) := hra.cell 3
                have fz3 : wt.frozen? ⟨w.heap.size, 3, none⟩ = false := hra.frozen 3
                have z4 : wt.cell? ⟨w.heap.size, 4, none⟩ = some (.int .i64 0) := hra.cell 4
                have fz4 : wt.frozen? ⟨w.heap.size, 4, none⟩ = false := hra.frozen 4
                have z5 : wt.cell? ⟨w.heap.size, 5, none⟩ = some (.bool false) := hra.cell 5
                have fz5 : wt.frozen? ⟨w.heap.size, 5, none⟩ = false := hra.frozen 5
                have z6 : wt.cell? ⟨w.heap.size, 6, none⟩ = some (.int .u8 0) := hra.cell 6
                have fz6 : wt.frozen? ⟨w.heap.size, 6, none⟩ = false := hra.frozen 6
                have z7 : wt.cell? ⟨w.heap.size, 7, none⟩ = some (.bool false) := hra.cell 7
                have fz7 : wt.frozen? ⟨w.heap.size, 7, none⟩ = false := hra.frozen 7
                have z8 : wt.cell? ⟨w.heap.size, 8, none⟩ = some (.slice none 0 0) := hra.cell 8
                have fz8 : wt.frozen? ⟨w.heap.size, 8, none⟩ = false := hra.frozen 8
                have hltz := hra.lt
                have hvb := fun k v (h : wm.cell? ⟨b, k, none⟩ = some v) => (hbt.cell (p := ⟨b, k, none⟩) hbw).trans h
                have u0 : wt.cell? ⟨b, 0, none⟩ = some (.int .i64 a.kind) := hvb 0 _ v0
                have u1 : wt.cell? ⟨b, 1, none⟩ = some (.int .i64 a.node) := hvb 1 _ v1
                have u2 : wt.cell? ⟨b, 2, none⟩ = some (.int .i64 a.port) := hvb 2 _ v2
                have u3 : wt.cell? ⟨b, 3, none⟩ = some (.int .i64 a.cost) := hvb 3 _ v3
                have u4 : wt.cell? ⟨b, 4, none⟩ = some (.int .i64 a.n) := hvb 4 _ v4
                have u5 : wt.cell? ⟨b, 5, none⟩ = some (.bool a.up) := hvb 5 _ v5
                have u6 : wt.cell? ⟨b, 6, none⟩ = some (.int .u8 (a.by_.toNat : Int)) := hvb 6 _ v6
                have u7 : wt.cell? ⟨b, 7, none⟩ = some (.bool a.unread) := hvb 7 _ v7
                have u8 : wt.cell? ⟨b, 8, none⟩ = some (.slice A a.bytes.length c) := hvb 8 _ v8
                have hbu : b < wt.heap.size := Nat.lt_of_lt_of_le hbw hbt.size
                clear hra hvb HTX hbt v0 v1 v2 v3 v4 v5 v6 v7 v8
                by_cases ht : actText a = s
                · have q1 := str_eq_true ht
                  have HT : Hid (isA a s = true) := Lib.hid (by rw [HIS.out, decide_eq_true ht]; rfl)
                  clear ht
                  go_wp2
                  have hw1 : w.heap.size < b + 1 := by have := HBS.out; have := HBy.out.size; have := HB1.out.size; omega
                  exact bodyPost_ret (v := .tuple #[actV a (.slice A a.bytes.length c), .bool true]) (by simp [results, Tryz.results37, go_sem, z0, z1, z2, z3, z4, z5, z6, z7, z8]) rfl ⟨by unfold ActOfR; rw [HOF.out HT.out]; exact ⟨_, rfl, (((((((((HBT.out).far HBF.out hw1 _ _).far HBF.out hw1 _ _).far HBF.out hw1 _ _).far HBF.out hw1 _ _).far HBF.out hw1 _ _).far HBF.out hw1 _ _).far HBF.out hw1 _ _).far HBF.out hw1 _ _).far HBF.out hw1 _ _⟩, set9 (HB1.out.trans (HBT9.out.mono HB1.out.size)) (Nat.le_refl _) _ _ _ _ _ _ _ _ _⟩
                · have q1 := str_eq_false ht
                  have HT : Hid (isA a s = false) := Lib.hid (by rw [HIS.out, decide_eq_false ht]; rfl)
                  clear ht
                  go_wp2
                  go_roundw
                  case rel => exact ⟨i + 1, by omega, by omega, by go_num, Lib.hid (HNI.out HT.out), HBT9⟩
                  case measure => simp [intOf]; omega
        · have l3 : ((ws.length : Int) != 1 + ((lettersA i.toNat).length : Int)) = true := by rw [hpl]; simp; omega
          have HNO2 := Lib.hid (HNO.out.next hi1 (fun e => hwl (by have := is_len e.2; rw [HWS.out] at this; exact this)))
          clear hnm hwl l1
          go_wp2_with (go_at_call 78; refine (HPI.out _).mono ?_; rintro e w2 ⟨rfl, hb2⟩)
          have c2 : w2.cell? ⟨g, 0, none⟩ = some (.string (str (wd ws 0))) := (hb2.cell hgw).trans c0
          have hgw2 : g < w2.heap.size := Nat.lt_of_lt_of_le hgw hb2.size
          have HB2 := Lib.hid (HB.out.trans (hb2.mono HB.out.size))
          clear hb2 c0
          refine wp_region_ext (by kernel_rfl) (by kernel_rfl) ?_
          repeat (go_big_quiet_step (first | (go_at_call 81; exact Ext.call (HNI.out _))))
          refine wpQuiet_nil ?_
          rintro _ ⟨y, rfl⟩
          have HBy := Lib.hid (HB2.out.trans (y.below.mono HB2.out.size))
          go_wp2
          go_roundw
          case rel => exact ⟨i + 1, by omega, by omega, by go_num, HNO2, HBy⟩
          case measure => simp [intOf]; omega
      · have l1 := str_eq_false hnm
        have l2 : (!(str (wd ws 0)).toList == (str (nameA i.toNat)).toList) = true := by rw [l1]; rfl
        have HNO2 := Lib.hid (HNO.out.next hi1 (fun e => hnm (by have := e.1; rw [HWS.out] at this; exact this)))
        clear hnm l1
        go_wp2_with (go_at_call 78; refine (HPI.out _).mono ?_; rintro e w2 ⟨rfl, hb2⟩)
        have c2 : w2.cell? ⟨g, 0, none⟩ = some (.string (str (wd ws 0))) := (hb2.cell hgw).trans c0
        have hgw2 : g < w2.heap.size := Nat.lt_of_lt_of_le hgw hb2.size
        have HB2 := Lib.hid (HB.out.trans (hb2.mono HB.out.size))
        clear hb2 c0
        refine wp_region_ext (by kernel_rfl) (by kernel_rfl) ?_
        repeat (go_big_quiet_step (first | (go_at_call 81; exact Ext.call (HNI.out _))))
        refine wpQuiet_nil ?_
        rintro _ ⟨y, rfl⟩
        have HBy := Lib.hid (HB2.out.trans (y.below.mono HB2.out.size))
        go_wp2
        go_roundw
        case rel => exact ⟨i + 1, by omega, by omega, by go_num, HNO2, HBy⟩
        case measure => simp [intOf]; omega
    · obtain rfl : i = 10 := by omega
      have HN0 := Lib.hid HNO.out.none
      have hra := HX1.out.here HB.out
      have HBB := Lib.hid (HB1.out.trans (HB.out.mono HB1.out.size))
      have z0 : wr.cell? ⟨w.heap.size, 0, none⟩ = some (.int .i64 0) := hra.cell 0
      have fz0 : wr.frozen? ⟨w.heap.size, 0, none⟩ = false := hra.frozen 0
      have z1 : wr.cell? ⟨w.heap.size, 1, none⟩ = some (.int .i64 0) := hra.cell 1
      have fz1 : wr.frozen? ⟨w.heap.size, 1, none⟩ = false := hra.frozen 1
      have z2 : wr.cell? ⟨w.heap.size, 2, none⟩ = some (.int .i64 0) := hra.cell 2
      have fz2 : wr.frozen? ⟨w.heap.size, 2, none⟩ = false := hra.frozen 2
      have z3 : wr.cell? ⟨w.heap.size, 3, none⟩ = some (.int .i64 0) := hra.cell 3
      have fz3 : wr.frozen? ⟨w.heap.size, 3, none⟩ = false := hra.frozen 3
      have z4 : wr.cell? ⟨w.heap.size, 4, none⟩ = some (.int .i64 0) := hra.cell 4
      have fz4 : wr.frozen? ⟨w.heap.size, 4, none⟩ = false := hra.frozen 4
      have z5 : wr.cell? ⟨w.heap.size, 5, none⟩ = some (.bool false) := hra.cell 5
      have fz5 : wr.frozen? ⟨w.heap.size, 5, none⟩ = false := hra.frozen 5
      have z6 : wr.cell? ⟨w.heap.size, 6, none⟩ = some (.int .u8 0) := hra.cell 6
      have fz6 : wr.frozen? ⟨w.heap.size, 6, none⟩ = false := hra.frozen 6
      have z7 : wr.cell? ⟨w.heap.size, 7, none⟩ = some (.bool false) := hra.cell 7
      have fz7 : wr.frozen? ⟨w.heap.size, 7, none⟩ = false := hra.frozen 7
      have z8 : wr.cell? ⟨w.heap.size, 8, none⟩ = some (.slice none 0 0) := hra.cell 8
      have fz8 : wr.frozen? ⟨w.heap.size, 8, none⟩ = false := hra.frozen 8
      have hltz := hra.lt
      clear hra
      go_wp2
      exact bodyPost_ret (v := .tuple #[actV { kind := 0 } (.slice none 0 0), .bool false]) (by simp [results, Tryz.results37, go_sem, z0, z1, z2, z3, z4, z5, z6, z7, z8]) rfl ⟨by unfold ActOfR; rw [HN0.out], set9 HBB.out (Nat.le_refl _) _ _ _ _ _ _ _ _ _⟩
end Go.Proofs.YtfbangojgjcbcaaGreatDoor
namespace Go.Proofs.YtfbangojgjcbcaaGreatDoor
open Go.RowKit Pl Go.Shelf
theorem eqlI_fun2 (d f : Nat) (lb : Array Value) (W : World) : (Op.equalIn (d + 1) 136 (.func (.func f) #[] lb) .nilFunc).run Tryz.prog W = .ok false W := by
  simp [Op.equalIn, run_underlying Tryz.underlying136, Result.andThen]
theorem eql_fun2 (f : Nat) (lb : Array Value) (W : World) : (binOp BinOp.eql 136 (.func (.func f) #[] lb) .nilFunc).run Tryz.prog W = .ok (.bool false) W := by
  have h : (Op.equal 136 (.func (.func f) #[] lb) .nilFunc).run Tryz.prog W = .ok false W := eqlI_fun2 _ f lb W
  simp [binOp, h, Result.andThen]
/-- What the pass holds behind so many words. -/
def PassIn (b : Nat) (most : Int) (pre : List Nat) (W : World) : Prop :=
  Whole W (b + 2) 3 #[.int .i64 (pre.length : Int)] ∧ Whole W (b + 1) 4 #[.bool false] ∧ Whole W b 3 #[.int .i64 most]
theorem PassIn.own (b : Nat) (most : Int) : Own (PassIn b most) := fun pre X Y row hs hg hr =>
  ⟨whole_own (b + 2) _ (fun pre : List Nat => #[Value.int .i64 (pre.length : Int)]) pre X Y row hs.1 hg hr, whole_own (b + 1) _ (fun _ : List Nat => #[Value.bool false]) pre X Y row hs.2.1 hg hr,
    whole_own b _ (fun _ : List Nat => #[Value.int .i64 most]) pre X Y row hs.2.2 hg hr⟩
/-- .. and where it is left early. -/
def PassOut (b : Nat) (w : World) (c : Code) (pre : List Nat) (W : World) : Prop :=
  c = .ret ∧ (∃ r, Whole W (b + 1) 4 #[.bool r] ∧ (pre <+: kinds9 → r = true)) ∧ Below w.heap.size w W
theorem kinds_at {pre : List Nat} {x : Nat} (h : pre ++ [x] <+: kinds9) : (x : Int) = (pre.length : Int) + 1 := by
  obtain ⟨t, ht⟩ := h
  have h1 : kinds9[pre.length]? = some x := by rw [← ht]; simp
  have h2 : pre.length < 9 := by have := (List.getElem?_eq_some_iff.1 h1).1; exact this
  rcases (by omega : pre.length = 0 ∨ pre.length = 1 ∨ pre.length = 2 ∨ pre.length = 3 ∨ pre.length = 4 ∨ pre.length = 5 ∨ pre.length = 6 ∨ pre.length = 7 ∨ pre.length = 8) with e | e | e | e | e | e | e | e | e <;> rw [e] at h1 ⊢ <;> simp [kinds9] at h1 <;> omega
attribute [local go_sem] Oper.semAt_some
set_option maxRecDepth 100000 in
set_option maxHeartbeats 4000000 in
theorem pass_any (most : Int) (w : World) (E : Env w) :
    Calls Tryz.prog 33 #[.int .i64 most] w fun e w' => e = .returned (.bool true) ∧ Below w.heap.size w w' := by
  obtain ⟨W0, hW0⟩ : ∃ W0, ((w.alloc (.cells #[.int .i64 most] 3)).alloc (.cells #[.bool false] 4)).alloc (.cells #[.int .i64 0] 3) = W0 := ⟨_, rfl⟩
  have HB0 : Hid (Below w.heap.size w W0) := Lib.hid (by rw [← hW0]; exact (((Below.refl _ _).alloc (Nat.le_refl _) _).alloc (by simp) _).alloc (by simp; omega) _)
  have HM0 : Hid (Whole W0 w.heap.size 3 #[.int .i64 most]) := Lib.hid (by rw [← hW0]; exact ((Whole.new w _ _).alloc _).alloc _)
  have HR0 : Hid (Whole W0 (w.heap.size + 1) 4 #[.bool false]) := Lib.hid (by
    rw [← hW0]
    have := (Whole.new (w.alloc (.cells #[.int .i64 most] 3)) 4 #[.bool false]).alloc (.cells #[.int .i64 0] 3)
    simpa using this)
  have HN0 : Hid (Whole W0 (w.heap.size + 2) 3 #[.int .i64 0]) := Lib.hid (by
    rw [← hW0]
    have := Whole.new ((w.alloc (.cells #[.int .i64 most] 3)).alloc (.cells #[.bool false] 4)) 3 #[.int .i64 0]
    simpa using this)
  have hs0 : W0.heap.size = w.heap.size + 3 := by rw [← hW0]; simp
  have HW0 := Lib.hid hW0
  have E0 := Lib.hid (E.here HB0.out)
  clear hW0 E
  refine (callsIn_wide (n := 3)).1 ?_
  refine callsIn_of_wp_marks Tryz.func33 rfl trivial ?_ rfl
  simp only [Tryz.ntmps33, List.size_toArray, List.length_cons, List.length_nil, Nat.reduceAdd, Nat.reduceSub, Array.replicate_succ, Array.replicate_zero, List.push_toArray, List.append_toArray, List.nil_append, List.cons_append]
  gi_wp2
  rw [HW0.out]
  refine ⟨trivial, (callsIn_wide.2 (names_any W0)).mono ?_⟩
  rintro e W3 ⟨⟨Bq, vs, rfl, ⟨hlo, hBq⟩, hc, hS⟩, hb3⟩
  have HB3 := Lib.hid hb3
  have HS := Lib.hid hS
  have HP3 : Hid (PassIn w.heap.size most [] W3) := Lib.hid ⟨HN0.out.here hb3, HR0.out.here hb3, HM0.out.here hb3⟩
  have hs3 := hb3.size
  have HB03 := Lib.hid (HB0.out.trans (hb3.mono HB0.out.size))
  have hef := eql_fun2 141 #[.pointer (some ⟨Bq, 0, none⟩)]
  clear hb3 hS
  gi_wp2
  refine wpIn_rangeFunc_ownH (F := Fence.wide) rfl (by decide) (gf := 141) (lb := #[.pointer (some ⟨Bq, 0, none⟩)]) rfl trivial (enters_of Tryz.func141 (by kernel_rfl) rfl)
    (names1_stops Fence.wide 2 trivial rfl (by decide) Bq W0.heap.size W3.heap.size vs W3 hBq (Nat.le_refl _) hc HS.out) Between.trans (fun W l o o' hl _ _ _ => Between.put hl) (Below.refl _ _) (fun _ => rfl)
    (fun pre W => (PassIn w.heap.size most pre W ∧ Below w.heap.size w W) ∧ W3.heap.size ≤ W.heap.size)
    (fun c' pre W => PassOut w.heap.size w c' pre W)
    (OwnFrom.and (OwnFrom.and (Own.from (PassIn.own _ _) _) (ownFrom_below (Nat.le_refl _) (by omega))) (fun _ _ _ _ hs hg _ => Nat.le_trans hs hg.size))
    (fun c' pre X Y row hs hg hr => by
      obtain ⟨h1, ⟨r, h2, h3⟩, h4⟩ := hs
      exact ⟨h1, ⟨r, whole_own _ _ (fun _ : Unit => #[Value.bool r]) () X Y row h2 hg (fun r' e => (hr r' e).2), h3⟩, ownFrom_below (β := Unit) (Nat.le_refl _) (by omega) () X Y row h4 hg hr⟩)
    ⟨⟨HP3.out, HB03.out⟩, Nat.le_refl _⟩
    (fun x a' _ => a' = { tmps := #[.int .i64 most, .pointer (some ⟨w.heap.size, 0, none⟩), .pointer (some ⟨w.heap.size + 1, 0, none⟩), .pointer (some ⟨w.heap.size + 1 + 1, 0, none⟩), .func (.func 141) #[] #[.pointer (some ⟨Bq, 0, none⟩)], .int .i64 (x : Int), .string (str (nameA x)), .func (.func 141) #[] #[.pointer (some ⟨Bq, 0, none⟩)], .func (.func 141) #[] #[.pointer (some ⟨Bq, 0, none⟩)], .bool false, .func (.func 141) #[] #[.pointer (some ⟨Bq, 0, none⟩)], .int .i64 (x : Int), .string (str (nameA x)), undef, undef, undef, undef, undef, undef, undef, undef, undef, undef, undef, undef, undef, undef, undef, undef], defers := [] })
    (fun x a' _ X Y row hs hg hr => hs)
    ?assign ?body ?done ?stop
  case assign =>
    rintro l pre x W K hI hK
    gi_wp2
    exact hK _ _ ((KeepsOthers.refl _).from _) (Between.refl W) hI rfl
  case body =>
    rintro l pre x a' W hl _ ⟨⟨⟨hn, hr, hm⟩, hB⟩, hz⟩ rfl hlt
    have k0 : W.cell? ⟨w.heap.size + 1 + 1, 0, none⟩ = some (.int .i64 (pre.length : Int)) := hn.cell 0
    have k1 : W.cell? ⟨w.heap.size + 1, 0, none⟩ = some (.bool false) := hr.cell 0
    have f0 : W.frozen? ⟨w.heap.size + 1 + 1, 0, none⟩ = false := hn.frozen 0
    have f1 : W.frozen? ⟨w.heap.size + 1, 0, none⟩ = false := hr.frozen 0
    have hlt9 : pre.length < 9 := hlt
    by_cases hx : (x : Int) = (pre.length : Int) + 1
    · have d1 : ((x : Int) != (pre.length : Int) + 1) = false := by simp [hx]
      obtain ⟨W1, hW1⟩ : ∃ W1, W.setCell ⟨w.heap.size + 1 + 1, 0, none⟩ (.int .i64 ((pre.length : Int) + 1)) = W1 := ⟨_, rfl⟩
      have HN1 : Hid (Whole W1 (w.heap.size + 2) 3 #[.int .i64 ((pre.length : Int) + 1)]) := Lib.hid (by rw [← hW1]; exact hn.set 0 _)
      have HR1 : Hid (Whole W1 (w.heap.size + 1) 4 #[.bool false]) := Lib.hid (by rw [← hW1]; exact hr.far (p := ⟨w.heap.size + 1 + 1, 0, none⟩) (by simp) _)
      have HM1 : Hid (Whole W1 w.heap.size 3 #[.int .i64 most]) := Lib.hid (by rw [← hW1]; exact hm.far (p := ⟨w.heap.size + 1 + 1, 0, none⟩) (by simp; omega) _)
      have HBB : Hid (Below w.heap.size w W1) := Lib.hid (by rw [← hW1]; exact hB.setCell (p := ⟨w.heap.size + 1 + 1, 0, none⟩) (by simp; omega) _)
      have HK1 : Hid (KeepsOthers W W1) := Lib.hid (by rw [← hW1]; exact KeepsOthers.setCell _ _ _)
      have HT1 : Hid (Between W0.heap.size W3.heap.size W W1) := Lib.hid (by rw [← hW1]; exact (Between.refl W).set (p := ⟨w.heap.size + 1 + 1, 0, none⟩) (by simp; omega) _)
      have hsz : W1.heap.size = W.heap.size := by rw [← hW1]; simp
      have c0 : W1.cell? ⟨w.heap.size + 1 + 1, 0, none⟩ = some (.int .i64 ((pre.length : Int) + 1)) := HN1.out.cell 0
      have HNM : Hid (Calls Tryz.prog 81 #[.int .i64 (x : Int)] W1 fun e w' => e = .returned (.string (str (nameA x))) ∧ Below W1.heap.size W1 w') := Lib.hid (by
        have := rname_in (x : Int) W1 (by omega) (by omega)
        rwa [Int.toNat_natCast] at this)
      have HW1 := Lib.hid hW1
      have HX := Lib.hid hx
      clear hn hr hm hB hW1 hx
      gi_wp2
      rw [HW1.out]
      refine ⟨trivial, CallsIn.inRound l ((callsIn_wide.2 HNM.out).mono ?_)⟩
      rintro e W2 ⟨rfl, hb2⟩
      have HN2 := Lib.hid (HN1.out.here hb2)
      have HR2 := Lib.hid (HR1.out.here hb2)
      have HM2 := Lib.hid (HM1.out.here hb2)
      have HBB2 := Lib.hid (HBB.out.trans (hb2.mono HBB.out.size))
      have HK2 := Lib.hid (HK1.out.trans (keeps_below hb2))
      have HT2 := Lib.hid (HT1.out.trans (Between.of_below (hb2.mono (by omega))))
      have hs2 : W.heap.size ≤ W2.heap.size := by have := hb2.size; omega
      clear hb2 c0 k0 k1 f0 f1
      have k0 : W2.cell? ⟨w.heap.size + 1 + 1, 0, none⟩ = some (.int .i64 ((pre.length : Int) + 1)) := HN2.out.cell 0
      have k1 : W2.cell? ⟨w.heap.size + 1, 0, none⟩ = some (.bool false) := HR2.out.cell 0
      have k2 : W2.cell? ⟨w.heap.size, 0, none⟩ = some (.int .i64 most) := HM2.out.cell 0
      have f1 : W2.frozen? ⟨w.heap.size + 1, 0, none⟩ = false := HR2.out.frozen 0
      by_cases hq : (pre.length : Int) + 1 = most
      · have hq2 : (((pre.length : Int) + 1) == most) = true := beq_iff_eq.2 hq
        clear hq
        gi_wp2
        exact ⟨(HK2.out.trans (KeepsOthers.setCell _ _ _)).from _, rfl, ⟨true, HR2.out.set 0 (.bool true), fun _ => rfl⟩, HBB2.out.setCell (p := ⟨w.heap.size + 1, 0, none⟩) (by simp) _⟩
      · have hq2 : (((pre.length : Int) + 1) == most) = false := beq_eq_false_iff_ne.2 hq
        clear hq
        gi_wp2
        refine ⟨HK2.out.from _, HT2.out, ⟨⟨⟨?_, HR2.out, HM2.out⟩, HBB2.out⟩, by omega⟩⟩
        rw [show (((pre ++ [x]).length : Nat) : Int) = (pre.length : Int) + 1 by simp]
        exact HN2.out
    · have d1 : ((x : Int) != (pre.length : Int) + 1) = true := by simp [hx]
      have HX := Lib.hid hx
      clear hx
      gi_wp2
      refine ⟨trivial, ?_⟩
      gi_wp2
      exact ⟨((KeepsOthers.setCell _ _ _).trans (KeepsOthers.setCell _ _ _)).from _, rfl, ⟨false, (hr.far (p := ⟨w.heap.size + 1 + 1, 0, none⟩) (by simp) _).set 0 (.bool false), fun h => absurd (kinds_at h) HX.out⟩, (hB.setCell (p := ⟨w.heap.size + 1 + 1, 0, none⟩) (by simp; omega) _).setCell (p := ⟨w.heap.size + 1, 0, none⟩) (by simp) _⟩
  case done =>
    rintro D ys W hD rfl ⟨⟨⟨hn, hr, hm⟩, hB⟩, hz⟩ hK
    have k0 : W.cell? ⟨w.heap.size + 1 + 1, 0, none⟩ = some (.int .i64 9) := hn.cell 0
    have k1 : W.cell? ⟨w.heap.size + 1, 0, none⟩ = some (.bool false) := hr.cell 0
    have f1 : W.frozen? ⟨w.heap.size + 1, 0, none⟩ = false := hr.frozen 0
    gi_wp2
    have hkd := (KeepsOthers.setCell W ⟨w.heap.size + 1, 0, none⟩ (.bool true)).same D _ hK rfl
    have hr2 := hr.set 0 (.bool true)
    have hB2 := hB.setCell (p := ⟨w.heap.size + 1, 0, none⟩) (by simp) (.bool true)
    generalize W.setCell ⟨w.heap.size + 1, 0, none⟩ (.bool true) = X at *
    have hkx : X.heap[D]? = some (.deferred (some [])) := hkd
    refine ⟨by simp, .inl ⟨_, _, rfl, run_takeDeferred hkx, ?_⟩⟩
    have q1 := (hr2.kept (grownBy_putObj' X D (.deferred none)) (fun e => by cases e; omega)).cell 0
    refine ⟨.bool true, ?_, rfl, hB2.trans (belowK_b (w := w) (Nat.le_refl _) X D _ _ (by omega) hkx rfl rfl)⟩
    simp at q1
    simp [results, Tryz.results33, go_sem, q1]
  case stop =>
    rintro D c' pre W hD hpre ⟨rfl, ⟨r, hr, himp⟩, hB⟩ hK
    obtain rfl : r = true := himp hpre
    gi_wp2
    refine ⟨by simp, .inl ⟨_, _, rfl, run_takeDeferred hK, ?_⟩⟩
    have q1 := (hr.kept (grownBy_putObj' W D (.deferred none)) (fun e => by cases e; omega)).cell 0
    refine ⟨.bool true, ?_, rfl, hB.trans (belowK_b (w := w) (Nat.le_refl _) W D _ _ (by omega) hK rfl rfl)⟩
    simp at q1
    simp [results, Tryz.results33, go_sem, q1]
end Go.Proofs.YtfbangojgjcbcaaGreatDoor
