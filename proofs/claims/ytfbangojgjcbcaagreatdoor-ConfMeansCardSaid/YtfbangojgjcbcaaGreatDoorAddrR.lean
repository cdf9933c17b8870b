/- Contracts of the reference's reading of texts: Split, Number, AddrOf, PrefixOf. -/
import Derived.Test.YtfbangojgjcbcaaGreatDoorPlainS
import Derived.Test.YtfbangojgjcbcaaGreatDoorAddr
namespace Go.Proofs.YtfbangojgjcbcaaGreatDoor
open Go.RowKit Pl

theorem str_lt {l : List UInt8} {i : Nat} (h : i < l.length) : i < (str l).size := by rw [str_size]; exact h
theorem str_at (l : List UInt8) (i : Nat) (h : i < l.length) (h' : i < (str l).size) : (str l)[i]'h' = l[i]'h := by
  rfl
theorem str_cut (l : List UInt8) (a b : Nat) : (str l).extract a b = str ((l.drop a).take (b - a)) := by
  apply ByteArray.ext
  simp [str, List.extract_eq_take_drop]
theorem split_rel {w wr w1 : World} {v v' : Value} {done : List (List UInt8)} {x : List UInt8} (hb : Below w.heap.size w wr) (hown : wr.ownsRow w.heap.size 9 1 v done.length (done.map fun x => .string (str x)))
    (hown' : w1.ownsRow w.heap.size 9 1 v' (done.length + 1) ((done.map fun x => .string (str x)) ++ [.string (str x)])) (hg : wr.grownBy w1 v.ownBlock) :
    w1.ownsRow w.heap.size 9 1 v' (done ++ [x]).length ((done ++ [x]).map fun x => .string (str x)) ∧ Below w.heap.size w w1 := by
  refine ⟨by simpa using hown', hb.grown hg hb.size fun g hg => (hown.lt g hg).1⟩
set_option maxRecDepth 100000 in
set_option maxHeartbeats 1000000 in
theorem rsplit (c : UInt8) (l : List UInt8) (w : World) (hl : l.length ≤ 1000000) :
    Calls Tryz.prog 53 #[.string (str l), .int .u8 (c.toNat : Int)] w fun e w' => ∃ v, e = .returned v ∧ w'.ownsRow w.heap.size 9 1 v (splitOn c l).length ((splitOn c l).map fun x => .string (str x)) ∧ Below w.heap.size w w' := by
  have hsz : (str l).size = l.length := str_size l
  have hex := fun a b => str_cut l a b
  go_enter Tryz.func53, Tryz.ntmps53
  go_wp2
  go_loopw [5, 6, 7] (fun v f i wr => ∃ (i0 f0 : Nat) (done : List (List UInt8)), i0 ≤ l.length + 1 ∧ f0 ≤ i0 ∧ SpInv c l i0 f0 done ∧ i = .int .i64 i0 ∧ f = .int .i64 f0 ∧ wr.ownsRow w.heap.size 9 1 v done.length (done.map fun x => .string (str x)) ∧ Below w.heap.size w wr) (fun _ _ i _ => l.length + 1 - (intOf i).toNat)
  case atStart => exact ⟨0, 0, [], by omega, Nat.le_refl _, SpInv.start c l, rfl, rfl, by simpa using World.ownsRow_nil _ _ _ _, Below.refl _ _⟩
  case round =>
    obtain ⟨i, f, done, hi, hf, HI, rfl, rfl, hown, hb⟩ := hrel
    have hdl : done.length ≤ 1000001 := by have := HI.len; omega
    have hbs := hb.size
    by_cases hlt : i < l.length
    · have d1 : ((i : Int) == (l.length : Int)) = false := by simp; omega
      obtain ⟨b, hbj⟩ : ∃ b, l[i]'hlt = b := ⟨_, rfl⟩
      have HI1 := fun h : b = c => HI.hit hlt (hbj.trans h)
      have HI0 := fun h : ¬ b = c => HI.miss hlt (by rw [hbj]; exact h)
      have hlt' := str_lt hlt
      have ej : (str l)[i]'hlt' = b := hbj
      clear hbj HI
      by_cases hc : b = c
      · have d2 : (((str l)[i].toNat : Int) == (c.toNat : Int)) = true := by rw [ej, hc]; simp
        go_wp2_with (at_builtin; refine wpList_push rfl _ _ 40 rfl w.heap.size 9 info_str rfl (by decide) Tryz.underlying40 _ _ _ rfl hown rfl rfl (by omega) hbs ?_; intro v' w1 hown' hg)
        have R := split_rel hb hown hown' hg
        have HI2 := HI1 hc
        clear hown hown' hg hb d2 HI1 HI0 ej
        go_wp2
        go_roundw
        case rel => exact ⟨i + 1, i + 1, _, by omega, Nat.le_refl _, HI2, by go_num, by go_num, R.1, R.2⟩
        case measure => simp [intOf]; omega
      · have d2 : (((str l)[i].toNat : Int) == (c.toNat : Int)) = false := by
          rw [ej, beq_eq_false_iff_ne]
          intro h; exact hc (UInt8.toNat_inj.1 (by omega))
        have HI2 := HI0 hc
        clear HI1 HI0 ej
        go_wp2
        go_roundw
        case rel => exact ⟨i + 1, f, done, by omega, by omega, HI2, by go_num, rfl, hown, hb⟩
        case measure => simp [intOf]; omega
    · by_cases he : i = l.length
      · subst he
        go_wp2_with (at_builtin; refine wpList_push rfl _ _ 40 rfl w.heap.size 9 info_str rfl (by decide) Tryz.underlying40 _ _ _ rfl hown rfl rfl (by omega) hbs ?_; intro v' w1 hown' hg)
        have R := split_rel hb hown hown' hg
        have HI2 := HI.last
        clear hown hown' hg hb HI
        go_wp2
        go_roundw
        case rel => exact ⟨l.length + 1, l.length + 1, _, by omega, Nat.le_refl _, HI2, by go_num, by go_num, R.1, R.2⟩
        case measure => simp [intOf]
      · obtain rfl : i = l.length + 1 := by omega
        rw [← HI.out] at hown
        have d3 : decide ((l.length : Int) + 1 ≤ (l.length : Int)) = false := by simp; omega
        go_wp2
        go_ret
        exact ⟨_, rfl, hown, hb⟩

/-! ### Number -/
def numTo (l : List UInt8) (j : Nat) : Nat := numVal (l.take j)
theorem numTo_succ (l : List UInt8) (j : Nat) (h : j < l.length) : numTo l (j + 1) = numTo l j * 10 + (l[j].toNat - 48) := by
  unfold numTo; rw [List.take_succ_eq_append_getElem h, numVal_snoc]
theorem numTo_lt (l : List UInt8) (j : Nat) (hd : (l.take j).all isDig = true) : numTo l j < 10 ^ j := by
  have key : ∀ m : List UInt8, m.all isDig = true → numVal m < 10 ^ m.length := by
    intro m
    induction hk : m.length generalizing m with
    | zero => intro _; have : m = [] := List.eq_nil_of_length_eq_zero hk; subst this; simp [numVal]
    | succ k ih =>
      intro hd
      rcases List.eq_nil_or_concat m with rfl | ⟨m', c, rfl⟩
      · simp at hk
      rw [List.concat_eq_append] at *
      have hm : m'.length = k := by simpa using hk
      rw [List.all_append] at hd
      simp only [List.all_cons, List.all_nil, Bool.and_true, Bool.and_eq_true, isDig, decide_eq_true_eq] at hd
      have h1 := ih m' hm hd.1
      rw [numVal_snoc, Nat.pow_succ]
      omega
  have h1 := key (l.take j) hd
  have h2 : (l.take j).length ≤ j := List.length_take_le _ _
  have h3 := Nat.pow_le_pow_right (show 0 < 10 by decide) h2
  unfold numTo
  omega
/-- What Number answers: some number, and whether the text is that of a number at most so great. -/
def RNumRes (l : List UInt8) (most : Nat) (e : Ending) : Prop := ∃ n : Nat, n ≤ 999999999 ∧ e = .returned (.tuple #[.int .i64 n, .bool (numOk l most)]) ∧ (isNum l = true → n = numVal l)
set_option maxRecDepth 100000 in
set_option maxHeartbeats 1000000 in
theorem rnumber (l : List UInt8) (most : Nat) (w : World) (hl : l.length ≤ 1000000) :
    Calls Tryz.prog 114 #[.string (str l), .int .i64 most] w fun e w' => RNumRes l most e ∧ w = w' := by
  have hsz : (str l).size = l.length := str_size l
  have bad : isNum l = false → RNumRes l most (.returned (.tuple #[.int .i64 0, .bool false])) := fun h => ⟨0, by decide, by unfold numOk; rw [h]; rfl, fun h' => by rw [h] at h'; cases h'⟩
  have HBAD := Lib.hid bad; clear bad
  by_cases h1 : l.length < 1
  · have h1' : (l.length : Int) < 1 := by omega
    have HN := Lib.hid (HBAD.out (by unfold isNum; simp [show ¬ 1 ≤ l.length by omega]))
    go_enter Tryz.func114, Tryz.ntmps114
    go_wp2
    go_ret2
    exact ⟨HN.out, rfl⟩
  have d1 : decide ((l.length : Int) < 1) = false := by simp; omega
  by_cases h2 : 9 < l.length
  · have h2' : 9 < (l.length : Int) := by omega
    have HN := Lib.hid (HBAD.out (by unfold isNum; simp [show ¬ l.length ≤ 9 by omega]))
    go_enter Tryz.func114, Tryz.ntmps114
    go_wp2
    go_ret2
    exact ⟨HN.out, rfl⟩
  have d2 : decide (9 < (l.length : Int)) = false := by simp; omega
  have hlt0 : 0 < l.length := by omega
  obtain ⟨b0, hb0⟩ : ∃ b, l[0]'hlt0 = b := ⟨_, rfl⟩
  have hh : l.head? = some b0 := by rw [← hb0]; cases l with | nil => simp at hlt0 | cons x r => rfl
  have hlt0' := str_lt hlt0
  have e0 : (str l)[0]'hlt0' = b0 := hb0
  clear hb0
  by_cases h3 : 1 < l.length ∧ b0 = 48
  · have d3 : 1 < (l.length : Int) := by omega
    have d4 : (((str l)[0].toNat : Int) == 48) = true := by rw [e0, h3.2]; rfl
    have HN := Lib.hid (HBAD.out (by unfold isNum; rw [hh, h3.2]; simp [h3.1]))
    clear hh e0 h3
    go_enter Tryz.func114, Tryz.ntmps114
    go_wp2
    go_ret2
    exact ⟨HN.out, rfl⟩
  have HH : Hid (isNum l = l.all isDig) := Lib.hid (by
    unfold isNum
    rw [hh]
    have a1 : decide (1 ≤ l.length) = true := by simp; omega
    have a2 : decide (l.length ≤ 9) = true := by simp; omega
    have a3 : (decide (1 < l.length) && decide (some b0 = some (48 : UInt8))) = false := by
      simp only [Bool.and_eq_false_iff, decide_eq_false_iff_not]
      by_cases h : 1 < l.length
      · right; intro h'; exact h3 ⟨h, by simpa using h'⟩
      · left; exact h
    rw [a1, a2, a3]; simp)
  have hcase : decide (1 < (l.length : Int)) = false ∨ (decide (1 < (l.length : Int)) = true ∧ (((str l)[0].toNat : Int) == 48) = false) := by
    by_cases h : 1 < l.length
    · right
      refine ⟨by simp; omega, ?_⟩
      rw [e0, beq_eq_false_iff_ne]
      intro h'
      exact h3 ⟨h, UInt8.toNat_inj.1 (by simpa using (by omega : b0.toNat = 48))⟩
    · left; simp; omega
  clear h3 hh e0
  rcases hcase with d3 | ⟨d3, d4⟩
  all_goals
    go_enter Tryz.func114, Tryz.ntmps114
    go_wp2
    go_loop [6, 7] (fun n i => ∃ j q : Nat, j ≤ l.length ∧ q ≤ 999999999 ∧ i = .int .i64 j ∧ n = .int .i64 q ∧ Hid (q = numTo l j) ∧ Hid ((l.take j).all isDig = true)) (fun _ i => l.length - (intOf i).toNat)
    case atStart => exact ⟨0, 0, Nat.zero_le _, by omega, rfl, rfl, Lib.hid rfl, Lib.hid (by simp)⟩
    case round =>
      obtain ⟨j, q, hj, hq, rfl, rfl, HQ, HD⟩ := hrel
      by_cases hlt : j < l.length
      · obtain ⟨b, hbj⟩ : ∃ b, l[j]'hlt = b := ⟨_, rfl⟩
        have hs := numTo_succ l j hlt
        have hall : (l.take (j + 1)).all isDig = (decide (48 ≤ b.toNat) && decide (b.toNat ≤ 57)) := by
          rw [List.take_succ_eq_append_getElem hlt, List.all_append, HD.out, hbj]; simp [isDig]
        rw [hbj] at hs
        have hlt' := str_lt hlt
        have ej : (str l)[j]'hlt' = b := hbj
        clear hbj
        have hb := b.toNat_lt
        by_cases hlo : b.toNat < 48
        · have HN := Lib.hid (HBAD.out (by
            rw [HH.out, ← List.take_append_drop (j + 1) l, List.all_append, hall]; simp [show ¬ 48 ≤ b.toNat by omega]))
          have d5 : ((str l)[j].toNat : Int) < 48 := by rw [ej]; omega
          clear hall ej hs
          go_wp2
          go_ret2
          exact ⟨HN.out, rfl⟩
        · have d5 : decide (((str l)[j].toNat : Int) < 48) = false := by rw [ej]; simp; omega
          by_cases hhi : 57 < b.toNat
          · have HN := Lib.hid (HBAD.out (by
              rw [HH.out, ← List.take_append_drop (j + 1) l, List.all_append, hall]; simp [show ¬ b.toNat ≤ 57 by omega]))
            have d6 : 57 < ((str l)[j].toNat : Int) := by rw [ej]; omega
            clear hall ej hs
            go_wp2
            go_ret2
            exact ⟨HN.out, rfl⟩
          · have d6 : decide (57 < ((str l)[j].toNat : Int)) = false := by rw [ej]; simp; omega
            have HA : Hid ((l.take (j + 1)).all isDig = true) := Lib.hid (by rw [hall]; simp; omega)
            have hn1 := numTo_lt l (j + 1) HA.out
            have hp : 10 ^ (j + 1) ≤ 10 ^ 9 := Nat.pow_le_pow_right (by decide) (by omega)
            have e9 : (10 : Nat) ^ 9 = 1000000000 := by decide
            have hq2 : q * 10 + (b.toNat - 48) ≤ 999999999 := by rw [HQ.out]; omega
            have HS : Hid (q * 10 + (b.toNat - 48) = numTo l (j + 1)) := Lib.hid (by rw [hs, HQ.out])
            have d7 : ((str l)[j].toNat : Int) = (b.toNat : Int) := by rw [ej]
            clear hall ej hn1 hp hs e9
            have g1 : 48 ≤ b.toNat := by omega
            have g2 : b.toNat ≤ 57 := by omega
            go_wp2
            go_round
            case rel =>
              exact ⟨j + 1, q * 10 + (b.toNat - 48), by omega, hq2, by go_num, by rw [show ((q * 10 + (b.toNat - 48) : Nat) : Int) = 10 * (q : Int) + ((b.toNat : Int) - 48) by omega], HS, HA⟩
            case measure => simp [intOf]; omega
      · obtain rfl : j = l.length := by omega
        have HV : Hid (q = numVal l) := Lib.hid (by rw [HQ.out, numTo, List.take_length])
        have HI : Hid (isNum l = true) := Lib.hid (by rw [HH.out]; have := HD.out; rwa [List.take_length] at this)
        have d8 : decide ((q : Int) ≤ (most : Int)) = numOk l most := by
          unfold numOk; rw [HI.out, ← HV.out]; simp
        have D8 := Lib.hid d8; clear d8
        go_wp2
        go_ret2
        exact ⟨⟨q, hq, by rw [← D8.out]; simp, fun _ => HV.out⟩, rfl⟩

/-- A row of strings that the call owns, element by element. -/
theorem parts_at {w : World} {base n g cap : Nat} {ps : List (List UInt8)} (h : w.ownsRow base 9 1 (.slice (some ⟨g, 0, none⟩) n cap) n (ps.map fun x => .string (str x))) (j : Nat) (hj : j < n) :
    w.cell? ⟨g, j, none⟩ = some (.string (str (ps.getD j []))) := by
  have hl : ps.length = n := by have := h.1; simpa using this
  rw [h.cellAt j (by omega)]
  simp [List.getD_eq_getElem?_getD, List.getElem?_eq_getElem (show j < ps.length by omega)]
theorem getD_len (c : UInt8) (l : List UInt8) (j : Nat) : ((splitOn c l).getD j []).length ≤ l.length := by
  rw [List.getD_eq_getElem?_getD]
  cases h : (splitOn c l)[j]? with
  | none => simp
  | some x => exact (splitOn_len c l).2 x (List.mem_of_getElem? h)
def raddrRes (l : List UInt8) : Value := match addrOf l with
  | some a => .tuple #[.int .u32 a, .bool true]
  | none => .tuple #[.int .u32 0, .bool false]
set_option maxRecDepth 100000 in
set_option maxHeartbeats 1000000 in
theorem raddrOf (l : List UInt8) (w : World) (hl : l.length ≤ 1000000) :
    Calls Tryz.prog 115 #[.string (str l)] w fun e w' => e = .returned (raddrRes l) ∧ Below w.heap.size w w' := by
  have HR : Hid (raddrRes l = match (if (splitOn 46 l).length = 4 then refPart (splitOn 46 l) 4 else none) with
      | some a => .tuple #[.int .u32 a, .bool true] | none => .tuple #[.int .u32 0, .bool false]) := Lib.hid (by rw [refAddr_eq]; rfl)
  have HS := Lib.hid (rsplit 46 l w hl)
  have HL := Lib.hid (getD_len 46 l)
  have hn1 := (splitOn_len 46 l).1
  obtain ⟨ps, hps⟩ : ∃ ps, ps = splitOn 46 l := ⟨_, rfl⟩
  have HP := Lib.hid hps
  rw [← hps] at hn1
  clear hps
  by_cases h4 : ps.length = 4
  · have HS : Hid (Calls Tryz.prog 53 #[.string (str l), .int .u8 46] w fun e w' => ∃ v, e = .returned v ∧ w'.ownsRow w.heap.size 9 1 v 4 (ps.map fun x => .string (str x)) ∧ Below w.heap.size w w') := Lib.hid (by
      have := HS.out; rw [← HP.out, h4] at this; exact this)
    have HR : Hid (raddrRes l = match refPart ps 4 with | some a => .tuple #[.int .u32 a, .bool true] | none => .tuple #[.int .u32 0, .bool false]) := Lib.hid (by rw [HR.out, ← HP.out, if_pos h4])
    have HL : Hid (∀ j, (ps.getD j []).length ≤ 1000000) := Lib.hid (fun j => by rw [HP.out]; exact Nat.le_trans (HL.out j) hl)
    clear hn1 HP
    go_enter Tryz.func115, Tryz.ntmps115
    go_wp2_with (go_at_call 53; refine HS.out.mono ?_; rintro e w1 ⟨v, rfl, hown, hb⟩; obtain ⟨g, cap, hv, _, hlt⟩ := hown.form (by omega); subst hv; have HO := Lib.hid hown; clear hown)
    go_loop [5, 6] (fun x i => ∃ j a : Nat, j ≤ 4 ∧ i = .int .i64 j ∧ x = .int .u32 a ∧ Hid (refPart ps j = some a)) (fun _ i => 4 - (intOf i).toNat)
    case atStart => exact ⟨0, 0, Nat.zero_le _, rfl, rfl, Lib.hid rfl⟩
    case round =>
      obtain ⟨j, a, hj, rfl, rfl, HA⟩ := hrel
      by_cases hlt4 : j < 4
      · have hcj := parts_at HO.out j hlt4
        have HN := Lib.hid (rnumber (ps.getD j []) 255 w1 (HL.out j))
        have hstep : refPart ps (j + 1) = if numOk (ps.getD j []) 255 = true then some (a * 256 + numVal (ps.getD j [])) else none := by rw [refPart, HA.out]
        have halt := refPart_lt ps j a HA.out
        have hp : 256 ^ j ≤ 256 ^ 3 := Nat.pow_le_pow_right (by decide) (by omega)
        have e3 : (256 : Nat) ^ 3 = 16777216 := by decide
        have ha : a ≤ 16777215 := by omega
        clear halt hp e3
        obtain ⟨x, hx⟩ : ∃ x, x = ps.getD j [] := ⟨_, rfl⟩
        rw [← hx] at hcj hstep
        have HN : Hid (Calls Tryz.prog 114 #[.string (str x), .int .i64 255] w1 fun e w' => RNumRes x 255 e ∧ w1 = w') := Lib.hid (by rw [hx]; exact HN.out)
        clear hx
        by_cases hok : numOk x 255 = true
        · rw [if_pos hok] at hstep
          have hle := (numOk_dec _ _ hok).2.1
          have HI := Lib.hid (numOk_dec _ _ hok).2.2
          have HT := Lib.hid hstep
          clear hstep
          go_wp2_with (go_at_call 114; refine HN.out.mono ?_; rintro e w' ⟨⟨n, hn, rfl, hv⟩, rfl⟩; obtain rfl := hv HI.out; clear hv hn)
          go_round
          case rel => exact ⟨j + 1, a * 256 + numVal x, by omega, by go_num, by go_num, HT⟩
          case measure => simp [intOf]; omega
        · rw [if_neg hok] at hstep
          have hok' : numOk x 255 = false := by simpa using hok
          have HZ : Hid (raddrRes l = .tuple #[.int .u32 0, .bool false]) := Lib.hid (by rw [HR.out, refPart_none ps (j + 1) 4 (by omega) hstep])
          clear hstep hok
          go_wp2_with (go_at_call 114; refine HN.out.mono ?_; rintro e w' ⟨⟨n, hn, rfl, hv⟩, rfl⟩; clear hv)
          go_ret2
          exact ⟨by rw [HZ.out]; rfl, hb⟩
      · obtain rfl : j = 4 := by omega
        have HZ : Hid (raddrRes l = .tuple #[.int .u32 a, .bool true]) := Lib.hid (by rw [HR.out, HA.out])
        go_wp2
        go_ret2
        exact ⟨by rw [HZ.out]; rfl, hb⟩
  · have HS : Hid (Calls Tryz.prog 53 #[.string (str l), .int .u8 46] w fun e w' => ∃ v, e = .returned v ∧ w'.ownsRow w.heap.size 9 1 v ps.length (ps.map fun x => .string (str x)) ∧ Below w.heap.size w w') := Lib.hid (by
      have := HS.out; rw [← HP.out] at this; exact this)
    have HZ : Hid (raddrRes l = .tuple #[.int .u32 0, .bool false]) := Lib.hid (by rw [HR.out, ← HP.out, if_neg h4])
    have d4 : ((ps.length : Int) != 4) = true := by simp; omega
    have hne : 0 < ps.length := by rw [HP.out]; exact List.length_pos_iff.2 (splitOn_ne 46 l)
    clear HP HR
    go_enter Tryz.func115, Tryz.ntmps115
    go_wp2_with (go_at_call 53; refine HS.out.mono ?_; rintro e w1 ⟨v, rfl, hown, hb⟩; obtain ⟨g, cap, hv, _, hlt⟩ := hown.form hne; subst hv; clear hown)
    go_ret2
    exact ⟨by rw [HZ.out]; rfl, hb⟩

theorem raddr_ok (l : List UInt8) (a : Nat) (w : World) (hl : l.length ≤ 1000000) (h : addrOf l = some a) :
    Calls Tryz.prog 115 #[.string (str l)] w fun e w' => e = .returned (.tuple #[.int .u32 a, .bool true]) ∧ Below w.heap.size w w' := by
  have := raddrOf l w hl
  unfold raddrRes at this; rw [h] at this; exact this
theorem raddr_no (l : List UInt8) (w : World) (hl : l.length ≤ 1000000) (h : addrOf l = none) :
    Calls Tryz.prog 115 #[.string (str l)] w fun e w' => e = .returned (.tuple #[.int .u32 0, .bool false]) ∧ Below w.heap.size w w' := by
  have := raddrOf l w hl
  unfold raddrRes at this; rw [h] at this; exact this
def rprefixRes (l : List UInt8) : Value := match prefixOf l with
  | some (a, n) => .tuple #[.agg #[.int .u32 a, .int .i64 n], .bool true]
  | none => .tuple #[.agg #[.int .u32 0, .int .i64 0], .bool false]
/-- Split at a byte, as the walks of PrefixOf take it. -/
theorem rsplit_two (c : UInt8) (l x y : List UInt8) (w : World) (hl : l.length ≤ 1000000) (h : splitOn c l = [x, y]) :
    Calls Tryz.prog 53 #[.string (str l), .int .u8 (c.toNat : Int)] w fun e w' => (∃ g cap, e = .returned (.slice (some ⟨g, 0, none⟩) 2 cap) ∧ g < w'.heap.size ∧ 2 ≤ cap ∧ w'.cell? ⟨g, 0, none⟩ = some (.string (str x)) ∧ w'.cell? ⟨g, 1, none⟩ = some (.string (str y))) ∧ Below w.heap.size w w' := by
  have := rsplit c l w hl
  rw [h] at this
  refine this.mono fun e w' ⟨v, he, hown, hb⟩ => ⟨?_, hb⟩
  obtain ⟨g, cap, hv, _, hlt⟩ := hown.form (by simp)
  subst hv
  have hcap : 2 ≤ cap := by
    rcases hown.2 with ⟨h', _⟩ | ⟨g', cap', cur, h', _, _, hnc, _⟩
    · cases h'
    · injection h' with _ _ h'; subst h'; exact hnc
  exact ⟨g, cap, he, hlt, hcap, parts_at hown 0 (by simp), parts_at hown 1 (by simp)⟩
theorem rsplit_other (c : UInt8) (l : List UInt8) (w : World) (hl : l.length ≤ 1000000) :
    Calls Tryz.prog 53 #[.string (str l), .int .u8 (c.toNat : Int)] w fun e w' => (∃ g cap, e = .returned (.slice (some ⟨g, 0, none⟩) (splitOn c l).length cap)) ∧ Below w.heap.size w w' := by
  refine (rsplit c l w hl).mono fun e w' ⟨v, he, hown, hb⟩ => ⟨?_, hb⟩
  obtain ⟨g, cap, hv, _, _⟩ := hown.form (List.length_pos_iff.2 (splitOn_ne c l))
  subst hv
  exact ⟨g, cap, he⟩
set_option maxRecDepth 100000 in
set_option maxHeartbeats 1000000 in
theorem rprefix_noaddr (l x y : List UInt8) (w : World) (hl : l.length ≤ 1000000) (hs : splitOn 47 l = [x, y]) (hr : addrOf x = none) :
    Calls Tryz.prog 116 #[.string (str l)] w fun e w' => e = .returned (.tuple #[.agg #[.int .u32 0, .int .i64 0], .bool false]) ∧ Below w.heap.size w w' := by
  have hlx : x.length ≤ 1000000 := Nat.le_trans ((splitOn_len 47 l).2 x (by rw [hs]; simp)) hl
  have hly : y.length ≤ 1000000 := Nat.le_trans ((splitOn_len 47 l).2 y (by rw [hs]; simp)) hl
  have HS := Lib.hid hs
  clear hs
  have HR := Lib.hid hr
  clear hr
  go_enter Tryz.func116, Tryz.ntmps116
  go_wp2_with (first
    | (go_at_call 53; refine (rsplit_two 47 l x y _ hl HS.out).mono ?_; rintro e w1 ⟨⟨g, cap, rfl, hg, hcap, c0, c1⟩, hb1⟩; obtain ⟨y1, rfl⟩ : ∃ y : Ext _, w1 = y.w := ⟨⟨_, hb1⟩, rfl⟩; have hz1 : w.heap.size < y1.w.heap.size := (by have := hb1.size; simp only [World.size_alloc] at this; omega); clear hb1)
    | (go_at_call 115; refine (ext_of (raddr_no x _ hlx HR.out)).mono ?_; rintro e w2 ⟨rfl, y2, rfl⟩; have hz2 : w.heap.size < y2.w.heap.size := Nat.lt_of_lt_of_le hz1 y2.below.size)
    | (go_at_call 114; refine (rnumber y 32 _ hly).mono ?_; rintro e w3 ⟨⟨n, hn, rfl, hv⟩, rfl⟩; clear hv; obtain ⟨y3, hy3⟩ : ∃ y3 : Ext y2.w, y3.w = y2.w := ⟨⟨y2.w, Below.refl _ _⟩, rfl⟩; have hz3 : w.heap.size < y2.w.heap.size + 1 := (by omega)))
  exact bodyPost_ret (v := .tuple #[.agg #[.int .u32 0, .int .i64 0], .bool false]) (by simp [results, Tryz.results116, go_sem, hz1, hz2]) rfl ⟨rfl, (by repeat (first | exact Below.refl _ _ | apply Below.drew | apply below_drewN | apply bel_alloc | apply Ext.lift | apply bel_set0 | apply bel_set))⟩
set_option maxRecDepth 100000 in
set_option maxHeartbeats 1000000 in
theorem rprefix_nonum (l x y : List UInt8) (a : Nat) (w : World) (hl : l.length ≤ 1000000) (hs : splitOn 47 l = [x, y]) (hr : addrOf x = some a) (hk : numOk y 32 = false) :
    Calls Tryz.prog 116 #[.string (str l)] w fun e w' => e = .returned (.tuple #[.agg #[.int .u32 0, .int .i64 0], .bool false]) ∧ Below w.heap.size w w' := by
  have hlx : x.length ≤ 1000000 := Nat.le_trans ((splitOn_len 47 l).2 x (by rw [hs]; simp)) hl
  have hly : y.length ≤ 1000000 := Nat.le_trans ((splitOn_len 47 l).2 y (by rw [hs]; simp)) hl
  have HS := Lib.hid hs
  clear hs
  have ha : a < 4294967296 := (addrOf_some _ a hr).2
  have HR := Lib.hid hr
  clear hr
  go_enter Tryz.func116, Tryz.ntmps116
  go_wp2_with (first
    | (go_at_call 53; refine (rsplit_two 47 l x y _ hl HS.out).mono ?_; rintro e w1 ⟨⟨g, cap, rfl, hg, hcap, c0, c1⟩, hb1⟩; obtain ⟨y1, rfl⟩ : ∃ y : Ext _, w1 = y.w := ⟨⟨_, hb1⟩, rfl⟩; have hz1 : w.heap.size < y1.w.heap.size := (by have := hb1.size; simp only [World.size_alloc] at this; omega); clear hb1)
    | (go_at_call 115; refine (ext_of (raddr_ok x a _ hlx HR.out)).mono ?_; rintro e w2 ⟨rfl, y2, rfl⟩; have hz2 : w.heap.size < y2.w.heap.size := Nat.lt_of_lt_of_le hz1 y2.below.size)
    | (go_at_call 114; refine (rnumber y 32 _ hly).mono ?_; rintro e w3 ⟨⟨n, hn, rfl, hv⟩, rfl⟩; clear hv; obtain ⟨y3, hy3⟩ : ∃ y3 : Ext y2.w, y3.w = y2.w := ⟨⟨y2.w, Below.refl _ _⟩, rfl⟩; have hz3 : w.heap.size < y2.w.heap.size + 1 := (by omega)))
  exact bodyPost_ret (v := .tuple #[.agg #[.int .u32 0, .int .i64 0], .bool false]) (by simp [results, Tryz.results116, go_sem, hz1, hz2]) rfl ⟨rfl, (by repeat (first | exact Below.refl _ _ | apply Below.drew | apply below_drewN | apply bel_alloc | apply Ext.lift | apply bel_set0 | apply bel_set))⟩
set_option maxRecDepth 100000 in
set_option maxHeartbeats 1000000 in
theorem rprefix_nomay (l x y : List UInt8) (a : Nat) (w : World) (hl : l.length ≤ 1000000) (hs : splitOn 47 l = [x, y]) (hr : addrOf x = some a) (hk : numOk y 32 = true) (hm : mayP a (numVal y) = false) :
    Calls Tryz.prog 116 #[.string (str l)] w fun e w' => e = .returned (.tuple #[.agg #[.int .u32 0, .int .i64 0], .bool false]) ∧ Below w.heap.size w w' := by
  have hlx : x.length ≤ 1000000 := Nat.le_trans ((splitOn_len 47 l).2 x (by rw [hs]; simp)) hl
  have hly : y.length ≤ 1000000 := Nat.le_trans ((splitOn_len 47 l).2 y (by rw [hs]; simp)) hl
  have HS := Lib.hid hs
  clear hs
  have ha : a < 4294967296 := (addrOf_some _ a hr).2
  have HR := Lib.hid hr
  clear hr
  have HI := Lib.hid (numOk_dec _ _ hk).2.2
  have hle := (numOk_dec _ _ hk).2.1
  have HM := Lib.hid hm
  clear hm
  go_enter Tryz.func116, Tryz.ntmps116
  go_wp2_with (first
    | (go_at_call 53; refine (rsplit_two 47 l x y _ hl HS.out).mono ?_; rintro e w1 ⟨⟨g, cap, rfl, hg, hcap, c0, c1⟩, hb1⟩; obtain ⟨y1, rfl⟩ : ∃ y : Ext _, w1 = y.w := ⟨⟨_, hb1⟩, rfl⟩; have hz1 : w.heap.size < y1.w.heap.size := (by have := hb1.size; simp only [World.size_alloc] at this; omega); clear hb1)
    | (go_at_call 115; refine (ext_of (raddr_ok x a _ hlx HR.out)).mono ?_; rintro e w2 ⟨rfl, y2, rfl⟩; have hz2 : w.heap.size < y2.w.heap.size := Nat.lt_of_lt_of_le hz1 y2.below.size)
    | (go_at_call 114; refine (rnumber y 32 _ hly).mono ?_; rintro e w3 ⟨⟨n, hn, rfl, hv⟩, rfl⟩; obtain rfl := hv HI.out; clear hv hn; obtain ⟨y3, hy3⟩ : ∃ y3 : Ext y2.w, y3.w = y2.w := ⟨⟨y2.w, Below.refl _ _⟩, rfl⟩; have hz3 : w.heap.size < y2.w.heap.size + 1 := (by omega))
    | (go_at_call 118; refine (ext_of (rmay_at a (numVal y : Int) false _ ⟨by omega, by omega⟩ HM.out)).mono ?_; rintro e w4 ⟨rfl, y4, rfl⟩; have hz4 : w.heap.size < y2.w.heap.size + 1 := (by omega)))
  exact bodyPost_ret (v := .tuple #[.agg #[.int .u32 0, .int .i64 0], .bool false]) (by simp [results, Tryz.results116, go_sem, hz1, hz2, hz3]) rfl ⟨rfl, (by repeat (first | exact Below.refl _ _ | apply Below.drew | apply below_drewN | apply bel_alloc | apply Ext.lift | apply bel_set0 | apply bel_set))⟩
set_option maxRecDepth 100000 in
set_option maxHeartbeats 1000000 in
theorem rprefix_ok (l x y : List UInt8) (a : Nat) (w : World) (hl : l.length ≤ 1000000) (hs : splitOn 47 l = [x, y]) (hr : addrOf x = some a) (hk : numOk y 32 = true) (hm : mayP a (numVal y) = true) :
    Calls Tryz.prog 116 #[.string (str l)] w fun e w' => e = .returned (.tuple #[.agg #[.int .u32 a, .int .i64 (numVal y)], .bool true]) ∧ Below w.heap.size w w' := by
  have hlx : x.length ≤ 1000000 := Nat.le_trans ((splitOn_len 47 l).2 x (by rw [hs]; simp)) hl
  have hly : y.length ≤ 1000000 := Nat.le_trans ((splitOn_len 47 l).2 y (by rw [hs]; simp)) hl
  have HS := Lib.hid hs
  clear hs
  have ha : a < 4294967296 := (addrOf_some _ a hr).2
  have HR := Lib.hid hr
  clear hr
  have HI := Lib.hid (numOk_dec _ _ hk).2.2
  have hle := (numOk_dec _ _ hk).2.1
  have HM := Lib.hid hm
  clear hm
  go_enter Tryz.func116, Tryz.ntmps116
  go_wp2_with (first
    | (go_at_call 53; refine (rsplit_two 47 l x y _ hl HS.out).mono ?_; rintro e w1 ⟨⟨g, cap, rfl, hg, hcap, c0, c1⟩, hb1⟩; obtain ⟨y1, rfl⟩ : ∃ y : Ext _, w1 = y.w := ⟨⟨_, hb1⟩, rfl⟩; have hz1 : w.heap.size < y1.w.heap.size := (by have := hb1.size; simp only [World.size_alloc] at this; omega); clear hb1)
    | (go_at_call 115; refine (ext_of (raddr_ok x a _ hlx HR.out)).mono ?_; rintro e w2 ⟨rfl, y2, rfl⟩; have hz2 : w.heap.size < y2.w.heap.size := Nat.lt_of_lt_of_le hz1 y2.below.size)
    | (go_at_call 114; refine (rnumber y 32 _ hly).mono ?_; rintro e w3 ⟨⟨n, hn, rfl, hv⟩, rfl⟩; obtain rfl := hv HI.out; clear hv hn; obtain ⟨y3, hy3⟩ : ∃ y3 : Ext y2.w, y3.w = y2.w := ⟨⟨y2.w, Below.refl _ _⟩, rfl⟩; have hz3 : w.heap.size < y2.w.heap.size + 1 := (by omega))
    | (go_at_call 118; refine (ext_of (rmay_at a (numVal y : Int) true _ ⟨by omega, by omega⟩ HM.out)).mono ?_; rintro e w4 ⟨rfl, y4, rfl⟩; have hz4 : w.heap.size < y2.w.heap.size + 1 := (by omega)))
  exact bodyPost_ret (v := .tuple #[.agg #[.int .u32 a, .int .i64 (numVal y)], .bool true]) (by simp [results, Tryz.results116, go_sem, hz1, hz2, hz3]) rfl ⟨rfl, (by repeat (first | exact Below.refl _ _ | apply Below.drew | apply below_drewN | apply bel_alloc | apply Ext.lift | apply bel_set0 | apply bel_set))⟩
set_option maxRecDepth 100000 in
set_option maxHeartbeats 1000000 in
theorem rprefix_len (l : List UInt8) (w : World) (hl : l.length ≤ 1000000) (hs : (splitOn 47 l).length ≠ 2) :
    Calls Tryz.prog 116 #[.string (str l)] w fun e w' => e = .returned (.tuple #[.agg #[.int .u32 0, .int .i64 0], .bool false]) ∧ Below w.heap.size w w' := by
  obtain ⟨k, hk⟩ : ∃ k, k = (splitOn 47 l).length := ⟨_, rfl⟩
  have HS : Hid (∀ w, Calls Tryz.prog 53 #[.string (str l), .int .u8 47] w fun e w' => (∃ g cap, e = .returned (.slice (some ⟨g, 0, none⟩) k cap)) ∧ Below w.heap.size w w') := Lib.hid (fun w => by rw [hk]; exact rsplit_other 47 l w hl)
  have hk1 := (splitOn_len 47 l).1
  rw [← hk] at hs hk1
  clear hk
  have d : ((k : Int) != 2) = true := by simp; omega
  go_enter Tryz.func116, Tryz.ntmps116
  go_wp2_with (go_at_call 53; refine (HS.out _).mono ?_; rintro e w1 ⟨⟨g, cap, rfl⟩, hb1⟩; obtain ⟨y1, rfl⟩ : ∃ y : Ext _, w1 = y.w := ⟨⟨_, hb1⟩, rfl⟩; clear hb1)
  exact bodyPost_ret (v := .tuple #[.agg #[.int .u32 0, .int .i64 0], .bool false]) (by simp [results, Tryz.results116, go_sem]) rfl ⟨rfl, (by repeat (first | exact Below.refl _ _ | apply Below.drew | apply below_drewN | apply bel_alloc | apply Ext.lift | apply bel_set0 | apply bel_set))⟩
theorem rprefixOf (l : List UInt8) (w : World) (hl : l.length ≤ 1000000) :
    Calls Tryz.prog 116 #[.string (str l)] w fun e w' => e = .returned (rprefixRes l) ∧ Below w.heap.size w w' := by
  unfold rprefixRes
  rw [← refPrefix_eq l]
  by_cases h2 : (splitOn 47 l).length = 2
  · match hs : splitOn 47 l, h2 with
    | [x, y], _ =>
      cases hr : addrOf x with
      | none => simp only [hr]; exact rprefix_noaddr l x y w hl hs hr
      | some a =>
        simp only [hr]
        by_cases hk : numOk y 32 = true
        · by_cases hm : mayP a (numVal y) = true
          · rw [if_pos ⟨hk, hm⟩]; exact rprefix_ok l x y a w hl hs hr hk hm
          · rw [if_neg (fun h => hm h.2)]; exact rprefix_nomay l x y a w hl hs hr hk (by simpa using hm)
        · rw [if_neg (fun h => hk h.1)]; exact rprefix_nonum l x y a w hl hs hr (by simpa using hk)
  · split
    · rename_i a n hsome
      exfalso
      split at hsome
      · rename_i x y hs; rw [hs] at h2; simp at h2
      · cases hsome
    · exact rprefix_len l w hl h2
end Go.Proofs.YtfbangojgjcbcaaGreatDoor
