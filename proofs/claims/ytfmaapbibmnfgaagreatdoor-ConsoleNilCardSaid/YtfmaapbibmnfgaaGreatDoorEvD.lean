/- A run of a program on abstract memory: what abstract values and memory stand for. -/
import Derived.Test.YtfmaapbibmnfgaaGreatDoorEvC
set_option linter.unusedSectionVars false
namespace Go.Proofs.YtfmaapbibmnfgaaGreatDoor.Ev

/-! ### Names -/
theorem Pth.num_eq (p : Pth) : p.num = ((p.p4.num * 16 + p.p3.num) * 16 + p.p2.num) * 16 + p.p1.num := rfl
theorem Dg.num_lt (d : Dg) : d.num < 16 := by cases d <;> decide
theorem Dg.num_inj {d e : Dg} (h : d.num = e.num) : d = e := by cases d <;> cases e <;> first | rfl | exact absurd h (by decide)
theorem Pth.num_inj {p q : Pth} (h : p.num = q.num) : p = q := by
  obtain ⟨a4, a3, a2, a1⟩ := p
  obtain ⟨b4, b3, b2, b1⟩ := q
  simp only [Pth.num_eq] at h
  have := Dg.num_lt a1; have := Dg.num_lt a2; have := Dg.num_lt a3; have := Dg.num_lt a4
  have := Dg.num_lt b1; have := Dg.num_lt b2; have := Dg.num_lt b3; have := Dg.num_lt b4
  have h1 : a1.num = b1.num := by omega
  have h2 : a2.num = b2.num := by omega
  have h3 : a3.num = b3.num := by omega
  have h4 : a4.num = b4.num := by omega
  rw [Dg.num_inj h1, Dg.num_inj h2, Dg.num_inj h3, Dg.num_inj h4]
theorem digit_num (k : Nat) : (digit k).num = k % 16 := by
  have key : ∀ r : Fin 16, ∀ q : Nat, (digit (16 * q + r.val)).num = r.val := by
    intro r q
    have h0 : Nat.land (16 * q + r.val) 8 = Nat.land r.val 8 := by
      apply Nat.eq_of_testBit_eq
      intro i
      show (16 * q + r.val &&& 8).testBit i = (r.val &&& 8).testBit i
      have h : (16 * q + r.val).testBit 3 = r.val.testBit 3 := by
        rw [show 16 * q + r.val = 2 ^ 4 * q + r.val from rfl, Nat.testBit_two_pow_mul_add q r.isLt]; simp
      rw [Nat.testBit_and, Nat.testBit_and, show (8 : Nat) = 2 ^ 3 from rfl, Nat.testBit_two_pow]
      by_cases hi : 3 = i
      · subst hi; rw [h]
      · simp [hi]
    have h1 : Nat.land (16 * q + r.val) 4 = Nat.land r.val 4 := by
      apply Nat.eq_of_testBit_eq
      intro i
      show (16 * q + r.val &&& 4).testBit i = (r.val &&& 4).testBit i
      have h : (16 * q + r.val).testBit 2 = r.val.testBit 2 := by
        rw [show 16 * q + r.val = 2 ^ 4 * q + r.val from rfl, Nat.testBit_two_pow_mul_add q r.isLt]; simp
      rw [Nat.testBit_and, Nat.testBit_and, show (4 : Nat) = 2 ^ 2 from rfl, Nat.testBit_two_pow]
      by_cases hi : 2 = i
      · subst hi; rw [h]
      · simp [hi]
    have h2 : Nat.land (16 * q + r.val) 2 = Nat.land r.val 2 := by
      apply Nat.eq_of_testBit_eq
      intro i
      show (16 * q + r.val &&& 2).testBit i = (r.val &&& 2).testBit i
      have h : (16 * q + r.val).testBit 1 = r.val.testBit 1 := by
        rw [show 16 * q + r.val = 2 ^ 4 * q + r.val from rfl, Nat.testBit_two_pow_mul_add q r.isLt]; simp
      rw [Nat.testBit_and, Nat.testBit_and, show (2 : Nat) = 2 ^ 1 from rfl, Nat.testBit_two_pow]
      by_cases hi : 1 = i
      · subst hi; rw [h]
      · simp [hi]
    have h3 : Nat.land (16 * q + r.val) 1 = Nat.land r.val 1 := by
      apply Nat.eq_of_testBit_eq
      intro i
      show (16 * q + r.val &&& 1).testBit i = (r.val &&& 1).testBit i
      have h : (16 * q + r.val).testBit 0 = r.val.testBit 0 := by
        rw [show 16 * q + r.val = 2 ^ 4 * q + r.val from rfl, Nat.testBit_two_pow_mul_add q r.isLt]; simp
      rw [Nat.testBit_and, Nat.testBit_and, show (1 : Nat) = 2 ^ 0 from rfl, Nat.testBit_two_pow]
      by_cases hi : 0 = i
      · subst hi; rw [h]
      · simp [hi]
    unfold digit
    rw [h0, h1, h2, h3]
    clear h0 h1 h2 h3
    revert r
    decide
  have := key ⟨k % 16, Nat.mod_lt _ (by decide)⟩ (k / 16)
  simp only [Nat.div_add_mod] at this
  exact this
theorem digs_num {k : Nat} (h : k < 65536) : (digs k).num = k := by
  simp only [Pth.num_eq, digs, digit_num]
  have e : ∀ n, Nat.shiftRight k n = k / 2 ^ n := fun n => Nat.shiftRight_eq_div_pow k n
  simp only [e]
  omega

/-! ### Memory's tree -/
theorem sel4_same (d : Dg) (t : H4) (x : H3) : sel4 d (upd4 d t x) = x := by cases t; cases d <;> rfl
theorem sel4_ne {d e : Dg} (h : d ≠ e) (t : H4) (x : H3) : sel4 d (upd4 e t x) = sel4 d t := by cases t; cases d <;> cases e <;> first | rfl | exact absurd rfl h
theorem sel3_same (d : Dg) (t : H3) (x : H2) : sel3 d (upd3 d t x) = x := by cases t; cases d <;> rfl
theorem sel3_ne {d e : Dg} (h : d ≠ e) (t : H3) (x : H2) : sel3 d (upd3 e t x) = sel3 d t := by cases t; cases d <;> cases e <;> first | rfl | exact absurd rfl h
theorem sel2_same (d : Dg) (t : H2) (x : H1) : sel2 d (upd2 d t x) = x := by cases t; cases d <;> rfl
theorem sel2_ne {d e : Dg} (h : d ≠ e) (t : H2) (x : H1) : sel2 d (upd2 e t x) = sel2 d t := by cases t; cases d <;> cases e <;> first | rfl | exact absurd rfl h
theorem sel1_same (d : Dg) (t : H1) (x : H0) : sel1 d (upd1 d t x) = x := by cases t; cases d <;> rfl
theorem sel1_ne {d e : Dg} (h : d ≠ e) (t : H1) (x : H0) : sel1 d (upd1 e t x) = sel1 d t := by cases t; cases d <;> cases e <;> first | rfl | exact absurd rfl h
theorem hget_same (h : H6) (p : Pth) (x : AO) : hget (hput h p x) p = x := by
  simp only [hget, hput, sel4_same, sel3_same, sel2_same, sel1_same]
theorem hget_other (h : H6) (p q : Pth) (x : AO) (hn : q ≠ p) : hget (hput h p x) q = hget h q := by
  simp only [hget, hput]
  by_cases h4 : q.p4 = p.p4
  · rw [h4, sel4_same]
    by_cases h3 : q.p3 = p.p3
    · rw [h3, sel3_same]
      by_cases h2 : q.p2 = p.p2
      · rw [h2, sel2_same]
        by_cases h1 : q.p1 = p.p1
        · exact absurd (by cases p; cases q; simp_all) hn
        · rw [sel1_ne h1]
      · rw [sel2_ne h2]
    · rw [sel3_ne h3]
  · rw [sel4_ne h4]
noncomputable instance : DecidableEq Pth := fun a b => Classical.propDecidable (a = b)
theorem hget_E6 (p : Pth) : hget E6 p = .free := by
  have h4 : ∀ d, sel4 d E4 = E3 := fun d => by cases d <;> rfl
  have h3 : ∀ d, sel3 d E3 = E2 := fun d => by cases d <;> rfl
  have h2 : ∀ d, sel2 d E2 = E1 := fun d => by cases d <;> rfl
  have h1 : ∀ d, sel1 d E1 = E0 := fun d => by cases d <;> rfl
  show sel1 p.p1 (sel2 p.p2 (sel3 p.p3 (sel4 p.p4 E4))) = .free
  simp only [h4, h3, h2, h1, E0]

/-! ### Temporaries -/
section
variable (v : AV)
theorem tg1_same (i j : Nat) (t : T1) (h : ∀ b, b < 1 → i.testBit b = j.testBit b) : (tg1 i).f ((ts1 j).f t v) = v := by
  cases t with | mk x y =>
  have hb := h 0 (by omega)
  cases hj : j.testBit 0
  · rw [hj] at hb; simp only [tg1, ts1, hb, hj]; rfl
  · rw [hj] at hb; simp only [tg1, ts1, hb, hj]; rfl
theorem tg1_ne (i j : Nat) (t : T1) (h : ∃ b, b < 1 ∧ i.testBit b ≠ j.testBit b) : (tg1 i).f ((ts1 j).f t v) = (tg1 i).f t := by
  cases t with | mk x y =>
  obtain ⟨b, hb, hn⟩ := h
  have : b = 0 := by omega
  subst this
  cases hi : i.testBit 0 <;> cases hj : j.testBit 0
  · exact absurd (hi.trans hj.symm) hn
  · simp only [tg1, ts1, hi, hj]
  · simp only [tg1, ts1, hi, hj]
  · exact absurd (hi.trans hj.symm) hn
theorem tg2_same (i j : Nat) (t : T2) (h : ∀ b, b < 2 → i.testBit b = j.testBit b) : (tg2 i).f ((ts2 j).f t v) = v := by
  cases t with | mk x y =>
  have hb := h 1 (by omega)
  cases hj : j.testBit 1
  · rw [hj] at hb; simp only [tg2, ts2, hb, hj]; exact tg1_same v i j _ (fun b hb => h b (by omega))
  · rw [hj] at hb; simp only [tg2, ts2, hb, hj]; exact tg1_same v i j _ (fun b hb => h b (by omega))
theorem tg2_ne (i j : Nat) (t : T2) (h : ∃ b, b < 2 ∧ i.testBit b ≠ j.testBit b) : (tg2 i).f ((ts2 j).f t v) = (tg2 i).f t := by
  cases t with | mk x y =>
  obtain ⟨b, hb, hn⟩ := h
  cases hi : i.testBit 1 <;> cases hj : j.testBit 1
  · simp only [tg2, ts2, hi, hj]; exact tg1_ne v i j _ ⟨b, by have : b ≠ 1 := fun e => hn (by subst e; rw [hi, hj]); omega, hn⟩
  · simp only [tg2, ts2, hi, hj]
  · simp only [tg2, ts2, hi, hj]
  · simp only [tg2, ts2, hi, hj]; exact tg1_ne v i j _ ⟨b, by have : b ≠ 1 := fun e => hn (by subst e; rw [hi, hj]); omega, hn⟩
theorem tg3_same (i j : Nat) (t : T3) (h : ∀ b, b < 3 → i.testBit b = j.testBit b) : (tg3 i).f ((ts3 j).f t v) = v := by
  cases t with | mk x y =>
  have hb := h 2 (by omega)
  cases hj : j.testBit 2
  · rw [hj] at hb; simp only [tg3, ts3, hb, hj]; exact tg2_same v i j _ (fun b hb => h b (by omega))
  · rw [hj] at hb; simp only [tg3, ts3, hb, hj]; exact tg2_same v i j _ (fun b hb => h b (by omega))
theorem tg3_ne (i j : Nat) (t : T3) (h : ∃ b, b < 3 ∧ i.testBit b ≠ j.testBit b) : (tg3 i).f ((ts3 j).f t v) = (tg3 i).f t := by
  cases t with | mk x y =>
  obtain ⟨b, hb, hn⟩ := h
  cases hi : i.testBit 2 <;> cases hj : j.testBit 2
  · simp only [tg3, ts3, hi, hj]; exact tg2_ne v i j _ ⟨b, by have : b ≠ 2 := fun e => hn (by subst e; rw [hi, hj]); omega, hn⟩
  · simp only [tg3, ts3, hi, hj]
  · simp only [tg3, ts3, hi, hj]
  · simp only [tg3, ts3, hi, hj]; exact tg2_ne v i j _ ⟨b, by have : b ≠ 2 := fun e => hn (by subst e; rw [hi, hj]); omega, hn⟩
theorem tg4_same (i j : Nat) (t : T4) (h : ∀ b, b < 4 → i.testBit b = j.testBit b) : (tg4 i).f ((ts4 j).f t v) = v := by
  cases t with | mk x y =>
  have hb := h 3 (by omega)
  cases hj : j.testBit 3
  · rw [hj] at hb; simp only [tg4, ts4, hb, hj]; exact tg3_same v i j _ (fun b hb => h b (by omega))
  · rw [hj] at hb; simp only [tg4, ts4, hb, hj]; exact tg3_same v i j _ (fun b hb => h b (by omega))
theorem tg4_ne (i j : Nat) (t : T4) (h : ∃ b, b < 4 ∧ i.testBit b ≠ j.testBit b) : (tg4 i).f ((ts4 j).f t v) = (tg4 i).f t := by
  cases t with | mk x y =>
  obtain ⟨b, hb, hn⟩ := h
  cases hi : i.testBit 3 <;> cases hj : j.testBit 3
  · simp only [tg4, ts4, hi, hj]; exact tg3_ne v i j _ ⟨b, by have : b ≠ 3 := fun e => hn (by subst e; rw [hi, hj]); omega, hn⟩
  · simp only [tg4, ts4, hi, hj]
  · simp only [tg4, ts4, hi, hj]
  · simp only [tg4, ts4, hi, hj]; exact tg3_ne v i j _ ⟨b, by have : b ≠ 3 := fun e => hn (by subst e; rw [hi, hj]); omega, hn⟩
theorem tg5_same (i j : Nat) (t : T5) (h : ∀ b, b < 5 → i.testBit b = j.testBit b) : (tg5 i).f ((ts5 j).f t v) = v := by
  cases t with | mk x y =>
  have hb := h 4 (by omega)
  cases hj : j.testBit 4
  · rw [hj] at hb; simp only [tg5, ts5, hb, hj]; exact tg4_same v i j _ (fun b hb => h b (by omega))
  · rw [hj] at hb; simp only [tg5, ts5, hb, hj]; exact tg4_same v i j _ (fun b hb => h b (by omega))
theorem tg5_ne (i j : Nat) (t : T5) (h : ∃ b, b < 5 ∧ i.testBit b ≠ j.testBit b) : (tg5 i).f ((ts5 j).f t v) = (tg5 i).f t := by
  cases t with | mk x y =>
  obtain ⟨b, hb, hn⟩ := h
  cases hi : i.testBit 4 <;> cases hj : j.testBit 4
  · simp only [tg5, ts5, hi, hj]; exact tg4_ne v i j _ ⟨b, by have : b ≠ 4 := fun e => hn (by subst e; rw [hi, hj]); omega, hn⟩
  · simp only [tg5, ts5, hi, hj]
  · simp only [tg5, ts5, hi, hj]
  · simp only [tg5, ts5, hi, hj]; exact tg4_ne v i j _ ⟨b, by have : b ≠ 4 := fun e => hn (by subst e; rw [hi, hj]); omega, hn⟩
theorem tg6_same (i j : Nat) (t : T6) (h : ∀ b, b < 6 → i.testBit b = j.testBit b) : (tg6 i).f ((ts6 j).f t v) = v := by
  cases t with | mk x y =>
  have hb := h 5 (by omega)
  cases hj : j.testBit 5
  · rw [hj] at hb; simp only [tg6, ts6, hb, hj]; exact tg5_same v i j _ (fun b hb => h b (by omega))
  · rw [hj] at hb; simp only [tg6, ts6, hb, hj]; exact tg5_same v i j _ (fun b hb => h b (by omega))
theorem tg6_ne (i j : Nat) (t : T6) (h : ∃ b, b < 6 ∧ i.testBit b ≠ j.testBit b) : (tg6 i).f ((ts6 j).f t v) = (tg6 i).f t := by
  cases t with | mk x y =>
  obtain ⟨b, hb, hn⟩ := h
  cases hi : i.testBit 5 <;> cases hj : j.testBit 5
  · simp only [tg6, ts6, hi, hj]; exact tg5_ne v i j _ ⟨b, by have : b ≠ 5 := fun e => hn (by subst e; rw [hi, hj]); omega, hn⟩
  · simp only [tg6, ts6, hi, hj]
  · simp only [tg6, ts6, hi, hj]
  · simp only [tg6, ts6, hi, hj]; exact tg5_ne v i j _ ⟨b, by have : b ≠ 5 := fun e => hn (by subst e; rw [hi, hj]); omega, hn⟩
theorem tg7_same (i j : Nat) (t : T7) (h : ∀ b, b < 7 → i.testBit b = j.testBit b) : (tg7 i).f ((ts7 j).f t v) = v := by
  cases t with | mk x y =>
  have hb := h 6 (by omega)
  cases hj : j.testBit 6
  · rw [hj] at hb; simp only [tg7, ts7, hb, hj]; exact tg6_same v i j _ (fun b hb => h b (by omega))
  · rw [hj] at hb; simp only [tg7, ts7, hb, hj]; exact tg6_same v i j _ (fun b hb => h b (by omega))
theorem tg7_ne (i j : Nat) (t : T7) (h : ∃ b, b < 7 ∧ i.testBit b ≠ j.testBit b) : (tg7 i).f ((ts7 j).f t v) = (tg7 i).f t := by
  cases t with | mk x y =>
  obtain ⟨b, hb, hn⟩ := h
  cases hi : i.testBit 6 <;> cases hj : j.testBit 6
  · simp only [tg7, ts7, hi, hj]; exact tg6_ne v i j _ ⟨b, by have : b ≠ 6 := fun e => hn (by subst e; rw [hi, hj]); omega, hn⟩
  · simp only [tg7, ts7, hi, hj]
  · simp only [tg7, ts7, hi, hj]
  · simp only [tg7, ts7, hi, hj]; exact tg6_ne v i j _ ⟨b, by have : b ≠ 6 := fun e => hn (by subst e; rw [hi, hj]); omega, hn⟩
theorem tg8_same (i j : Nat) (t : T8) (h : ∀ b, b < 8 → i.testBit b = j.testBit b) : (tg8 i).f ((ts8 j).f t v) = v := by
  cases t with | mk x y =>
  have hb := h 7 (by omega)
  cases hj : j.testBit 7
  · rw [hj] at hb; simp only [tg8, ts8, hb, hj]; exact tg7_same v i j _ (fun b hb => h b (by omega))
  · rw [hj] at hb; simp only [tg8, ts8, hb, hj]; exact tg7_same v i j _ (fun b hb => h b (by omega))
theorem tg8_ne (i j : Nat) (t : T8) (h : ∃ b, b < 8 ∧ i.testBit b ≠ j.testBit b) : (tg8 i).f ((ts8 j).f t v) = (tg8 i).f t := by
  cases t with | mk x y =>
  obtain ⟨b, hb, hn⟩ := h
  cases hi : i.testBit 7 <;> cases hj : j.testBit 7
  · simp only [tg8, ts8, hi, hj]; exact tg7_ne v i j _ ⟨b, by have : b ≠ 7 := fun e => hn (by subst e; rw [hi, hj]); omega, hn⟩
  · simp only [tg8, ts8, hi, hj]
  · simp only [tg8, ts8, hi, hj]
  · simp only [tg8, ts8, hi, hj]; exact tg7_ne v i j _ ⟨b, by have : b ≠ 7 := fun e => hn (by subst e; rw [hi, hj]); omega, hn⟩
theorem tg8_same' (i : Nat) (t : T8) : (tg8 i).f ((ts8 i).f t v) = v := tg8_same v i i t fun _ _ => rfl
theorem tg8_ne' {i j : Nat} (hi : i < 256) (hj : j < 256) (h : i ≠ j) (t : T8) : (tg8 i).f ((ts8 j).f t v) = (tg8 i).f t := by
  refine tg8_ne v i j t (Classical.byContradiction fun hn => h (Nat.eq_of_testBit_eq fun b => ?_))
  by_cases hb8 : b < 8
  · exact Classical.byContradiction fun hb => hn ⟨b, hb8, hb⟩
  · have h2 : 2 ^ 8 ≤ 2 ^ b := Nat.pow_le_pow_right (by decide) (by omega)
    rw [Nat.testBit_lt_two_pow (by omega), Nat.testBit_lt_two_pow (by omega)]
theorem tg8_U (i : Nat) : (tg8 i).f U8 = .tuple [] := by
  have h1 : (tg1 i).f U1 = .tuple [] := by cases h : i.testBit 0 <;> simp [tg1, h, U1, U0, tg0]
  have h2 : (tg2 i).f U2 = .tuple [] := by cases h : i.testBit 1 <;> simp [tg2, h, U2, h1]
  have h3 : (tg3 i).f U3 = .tuple [] := by cases h : i.testBit 2 <;> simp [tg3, h, U3, h2]
  have h4 : (tg4 i).f U4 = .tuple [] := by cases h : i.testBit 3 <;> simp [tg4, h, U4, h3]
  have h5 : (tg5 i).f U5 = .tuple [] := by cases h : i.testBit 4 <;> simp [tg5, h, U5, h4]
  have h6 : (tg6 i).f U6 = .tuple [] := by cases h : i.testBit 5 <;> simp [tg6, h, U6, h5]
  have h7 : (tg7 i).f U7 = .tuple [] := by cases h : i.testBit 6 <;> simp [tg7, h, U7, h6]
  cases h : i.testBit 7 <;> simp [tg8, h, U8, h7]
theorem f8_same {i j : Nat} (t : F8) (h : i % 8 = j % 8) : (f8g i).f ((f8s j).f t v) = v := by
  have hj : j % 8 < 8 := Nat.mod_lt _ (by decide)
  unfold f8g f8s
  rw [h]
  generalize j % 8 = b at hj
  cases t
  obtain rfl | rfl | rfl | rfl | rfl | rfl | rfl | rfl : b = 0 ∨ b = 1 ∨ b = 2 ∨ b = 3 ∨ b = 4 ∨ b = 5 ∨ b = 6 ∨ b = 7 := by omega
  all_goals rfl
theorem f8_ne {i j : Nat} (t : F8) (h : i % 8 ≠ j % 8) : (f8g i).f ((f8s j).f t v) = (f8g i).f t := by
  have hi : i % 8 < 8 := Nat.mod_lt _ (by decide)
  have hj : j % 8 < 8 := Nat.mod_lt _ (by decide)
  unfold f8g f8s
  generalize i % 8 = a at hi h
  generalize j % 8 = b at hj h
  cases t
  obtain rfl | rfl | rfl | rfl | rfl | rfl | rfl | rfl : a = 0 ∨ a = 1 ∨ a = 2 ∨ a = 3 ∨ a = 4 ∨ a = 5 ∨ a = 6 ∨ a = 7 := by omega
  all_goals
    obtain rfl | rfl | rfl | rfl | rfl | rfl | rfl | rfl : b = 0 ∨ b = 1 ∨ b = 2 ∨ b = 3 ∨ b = 4 ∨ b = 5 ∨ b = 6 ∨ b = 7 := by omega
    all_goals first | rfl | exact absurd rfl h
theorem f8_U (i : Nat) : (f8g i).f V0 = .tuple [] := by
  have hi : i % 8 < 8 := Nat.mod_lt _ (by decide)
  unfold f8g
  generalize i % 8 = a at hi
  obtain rfl | rfl | rfl | rfl | rfl | rfl | rfl | rfl : a = 0 ∨ a = 1 ∨ a = 2 ∨ a = 3 ∨ a = 4 ∨ a = 5 ∨ a = 6 ∨ a = 7 := by omega
  all_goals rfl
theorem idxT_some : ∀ {l : List Tmp} {k j m : Nat}, idxT l k j = some m → ∃ i, m = j + i ∧ l[i]? = some k
  | [], _, _, _, h => by cases h
  | x :: l, k, j, m, h => by
    unfold idxT at h
    cases hb : Nat.beq x k with
    | true => rw [hb] at h; cases h; exact ⟨0, rfl, by rw [Nat.eq_of_beq_eq_true hb]; rfl⟩
    | false =>
      rw [hb] at h
      obtain ⟨i, h1, h2⟩ := idxT_some (l := l) h
      exact ⟨i + 1, by omega, h2⟩
theorem vIdx_some {vm : Vm} {k j : Nat} (h : vIdx vm k = some j) : vm[j]? = some k ∧ j < 32 := by
  unfold vIdx at h
  cases hi : idxT vm k 0 with
  | none => rw [hi] at h; cases h
  | some m =>
    rw [hi] at h
    simp only at h
    cases hb : Nat.blt m 32 with
    | false => rw [hb] at h; cases h
    | true =>
      rw [hb] at h
      have h : m = j := Option.some.inj h
      subst h
      obtain ⟨i, h1, h2⟩ := idxT_some hi
      have : i = m := by omega
      subst this
      exact ⟨h2, by simpa using hb⟩
theorem vIdx_inj {vm : Vm} {i j a : Nat} (h : vIdx vm i = some a) (h' : vIdx vm j = some a) : i = j := by
  have h1 := (vIdx_some h).1
  rw [(vIdx_some h').1] at h1
  cases h1; rfl
theorem div8 {a : Nat} (h : a < 32) : a / 8 = 0 ∨ a / 8 = 1 ∨ a / 8 = 2 ∨ a / 8 = 3 := by omega
theorem b4_same {i : Nat} (h : i < 32) (b : B4) : (b4g i).f ((b4s i).f b v) = v := by
  obtain ⟨v0, v1, v2, v3⟩ := b
  unfold b4g b4s
  rcases div8 h with h | h | h | h <;> simp only [h] <;> exact f8_same v _ rfl
theorem b4_ne {i j : Nat} (hi : i < 32) (hj : j < 32) (h : i ≠ j) (b : B4) : (b4g i).f ((b4s j).f b v) = (b4g i).f b := by
  obtain ⟨v0, v1, v2, v3⟩ := b
  unfold b4g b4s
  have key : ∀ t : F8, i / 8 = j / 8 → (f8g i).f ((f8s j).f t v) = (f8g i).f t := fun t e => f8_ne v t (by omega)
  rcases div8 hi with h1 | h1 | h1 | h1 <;> rcases div8 hj with h2 | h2 | h2 | h2 <;> simp only [h1, h2] <;> exact key _ (by rw [h1, h2])
theorem tget_same (vm : Vm) (i : Nat) (t : TF) : (tgF vm i).f ((tsF vm i).f t v) = v := by
  unfold tgF tsF
  cases hi : vIdx vm i with
  | none => exact tg8_same' v i t.g
  | some a => exact b4_same v (vIdx_some hi).2 t.b
theorem tget_ne {vm : Vm} {i j : Nat} (hi : i < 256) (hj : j < 256) (h : i ≠ j) (t : TF) : (tgF vm i).f ((tsF vm j).f t v) = (tgF vm i).f t := by
  unfold tgF tsF
  cases ei : vIdx vm i with
  | none =>
    cases ej : vIdx vm j with
    | none => exact tg8_ne' v hi hj h t.g
    | some b => rfl
  | some a =>
    cases ej : vIdx vm j with
    | none => rfl
    | some b => exact b4_ne v (vIdx_some ei).2 (vIdx_some ej).2 (fun e => by subst e; exact h (vIdx_inj ei ej)) t.b
theorem tget_U (vm : Vm) (i : Nat) : (tgF vm i).f UF = .tuple [] := by
  unfold tgF UF
  cases ei : vIdx vm i with
  | none => exact tg8_U i
  | some a =>
    show (b4g a).f ⟨V0, V0, V0, V0⟩ = _
    unfold b4g
    rcases div8 (vIdx_some ei).2 with h1 | h1 | h1 | h1 <;> simp only [h1] <;> exact f8_U a
end

/-! ### Values -/
/-- What a name stands for: a place in a block, with how much room there is from it on; an entry of a map, by its stamp. -/
inductive Tgt where
  | blk (g off cap : Nat)
  | stp (g k : Nat)
  | ifc (t : TypeId) (v : Value)
abbrev Rho := Pth → Option Tgt
noncomputable def look (ρ : Rho) (i : Nam) : Option Tgt := if i.n = i.p.num then ρ i.p else none
noncomputable def textOf (l : List Nat) : Option ByteArray := if l.all (fun n => decide (n < 256)) then some ⟨(l.map Nat.toUInt8).toArray⟩ else none
mutual
noncomputable def conc (ρ : Rho) : AV → Option Value
  | .bool b => some (.bool b)
  | .int k n => some (.int k n)
  | .str l => match textOf l with
    | some b => some (.string b)
    | none => none
  | .rstr n c => if c < 256 then some (.string ⟨Array.replicate n c.toUInt8⟩) else none
  | .ifo i => match look ρ i with
    | some (.ifc t v) => some (.iface t v)
    | _ => none
  | .ptr b o => match look ρ b with
    | some (.blk g off _) => some (.pointer (some ⟨g, off + o, none⟩))
    | _ => none
  | .nilp => some (.pointer none)
  | .slice b o n c => match look ρ b with
    | some (.blk g off _) => if n ≤ c then some (.slice (some ⟨g, off + o, none⟩) n c) else none
    | _ => none
  | .row b o n c => match look ρ b with
    | some (.blk g off cap) => if n + c ≤ cap then some (.slice (some ⟨g, off + o, none⟩) n (cap - c)) else none
    | _ => none
  | .tail b o p c => match look ρ b with
    | some (.blk g off cap) => if c ≤ cap then some (.slice (some ⟨g, off + (if cap = c then o else p), none⟩) 0 (cap - c)) else none
    | _ => none
  | .nils => some (.slice none 0 0)
  | .map b => match look ρ b with
    | some (.blk g _ _) => some (.map (some g))
    | _ => none
  | .nilm => some (.map none)
  | .func f a b => match concs ρ a, concs ρ b with
    | some x, some y => some (.func (.func f) x.toArray y.toArray)
    | _, _ => none
  | .yld l => match look ρ l with
    | some (.blk g _ _) => some (.func (.yield g) #[] #[])
    | _ => none
  | .nilf => some .nilFunc
  | .iface t v => match conc ρ v with
    | some u => some (.iface t u)
    | none => none
  | .nili => some .nilIface
  | .agg l => match concs ρ l with
    | some x => some (.agg x.toArray)
    | none => none
  | .tuple l => match concs ρ l with
    | some x => some (.tuple x.toArray)
    | none => none
  | .stamp i => match look ρ i with
    | some (.stp _ k) => some (.int .i64 k)
    | _ => none
noncomputable def concs (ρ : Rho) : List AV → Option (List Value)
  | [] => some []
  | v :: l => match conc ρ v, concs ρ l with
    | some u, some r => some (u :: r)
    | _, _ => none
end
noncomputable def Le (ρ ρ' : Rho) : Prop := ∀ p t, ρ p = some t → ρ' p = some t
theorem Le.refl (ρ : Rho) : Le ρ ρ := fun _ _ h => h
theorem Le.trans {a b c : Rho} (h : Le a b) (h' : Le b c) : Le a c := fun p t x => h' p t (h p t x)
theorem Le.look {ρ ρ' : Rho} (h : Le ρ ρ') {i : Nam} {t : Tgt} (hi : Ev.look ρ i = some t) : Ev.look ρ' i = some t := by
  unfold Ev.look at hi ⊢
  split at hi
  · rename_i hn; rw [if_pos hn]; exact h _ _ hi
  · cases hi
mutual
theorem conc_mono {ρ ρ' : Rho} (h : Le ρ ρ') : ∀ (v : AV) {u : Value}, conc ρ v = some u → conc ρ' v = some u
  | .bool _, _, hu => by simpa only [conc] using hu
  | .int _ _, _, hu => by simpa only [conc] using hu
  | .str _, _, hu => by simpa only [conc] using hu
  | .rstr _ _, _, hu => by simpa only [conc] using hu
  | .ifo i, u, hu => by
    simp only [conc] at hu ⊢
    split at hu
    · rename_i e; rw [h.look e]; exact hu
    · cases hu
  | .ptr b o, u, hu => by
    simp only [conc] at hu ⊢
    split at hu
    · rename_i e; rw [h.look e]; exact hu
    · cases hu
  | .nilp , _, hu => by simpa only [conc] using hu
  | .slice b o n c, u, hu => by
    simp only [conc] at hu ⊢
    split at hu
    · rename_i e; rw [h.look e]; exact hu
    · cases hu
  | .row b o n c, u, hu => by
    simp only [conc] at hu ⊢
    split at hu
    · rename_i e; rw [h.look e]; exact hu
    · cases hu
  | .tail b o p c, u, hu => by
    simp only [conc] at hu ⊢
    split at hu
    · rename_i e; rw [h.look e]; exact hu
    · cases hu
  | .nils , _, hu => by simpa only [conc] using hu
  | .map b, u, hu => by
    simp only [conc] at hu ⊢
    split at hu
    · rename_i e; rw [h.look e]; exact hu
    · cases hu
  | .nilm , _, hu => by simpa only [conc] using hu
  | .func f a b, u, hu => by
    simp only [conc] at hu ⊢
    split at hu
    · rename_i e1 e2; rw [concs_mono h a e1, concs_mono h b e2]; exact hu
    · cases hu
  | .yld l, u, hu => by
    simp only [conc] at hu ⊢
    split at hu
    · rename_i e; rw [h.look e]; exact hu
    · cases hu
  | .nilf , _, hu => by simpa only [conc] using hu
  | .iface t v, u, hu => by
    simp only [conc] at hu ⊢
    split at hu
    · rename_i e; rw [conc_mono h v e]; exact hu
    · cases hu
  | .nili , _, hu => by simpa only [conc] using hu
  | .agg l, u, hu => by
    simp only [conc] at hu ⊢
    split at hu
    · rename_i e; rw [concs_mono h l e]; exact hu
    · cases hu
  | .tuple l, u, hu => by
    simp only [conc] at hu ⊢
    split at hu
    · rename_i e; rw [concs_mono h l e]; exact hu
    · cases hu
  | .stamp i, u, hu => by
    simp only [conc] at hu ⊢
    split at hu
    · rename_i e; rw [h.look e]; exact hu
    · cases hu
theorem concs_mono {ρ ρ' : Rho} (h : Le ρ ρ') : ∀ (l : List AV) {r : List Value}, concs ρ l = some r → concs ρ' l = some r
  | [], _, hu => by simpa only [concs] using hu
  | v :: l, r, hu => by
    simp only [concs] at hu ⊢
    split at hu
    · rename_i e1 e2; rw [conc_mono h v e1, concs_mono h l e2]; exact hu
    · cases hu
end

/-! ### Lists of values -/
theorem concs_cons {ρ : Rho} {v : AV} {l : List AV} {r : List Value} (h : concs ρ (v :: l) = some r) : ∃ u q, r = u :: q ∧ conc ρ v = some u ∧ concs ρ l = some q := by
  simp only [concs] at h
  split at h
  · rename_i u q e1 e2; cases h; exact ⟨u, q, rfl, e1, e2⟩
  · cases h
theorem concs_cons' {ρ : Rho} {v : AV} {l : List AV} {u : Value} {q : List Value} (h1 : conc ρ v = some u) (h2 : concs ρ l = some q) : concs ρ (v :: l) = some (u :: q) := by
  simp only [concs, h1, h2]
theorem concs_nil {ρ : Rho} {r : List Value} (h : concs ρ [] = some r) : r = [] := by simp only [concs] at h; cases h; rfl
theorem concs_length {ρ : Rho} : ∀ {l : List AV} {r : List Value}, concs ρ l = some r → r.length = l.length
  | [], _, h => by cases concs_nil h; rfl
  | v :: l, r, h => by
    obtain ⟨u, q, rfl, _, h2⟩ := concs_cons h
    simp [concs_length h2]
theorem concs_get {ρ : Rho} : ∀ {l : List AV} {r : List Value} {i : Nat} {v : AV}, concs ρ l = some r → l[i]? = some v → ∃ u, r[i]? = some u ∧ conc ρ v = some u
  | [], _, i, _, _, hi => by simp at hi
  | v :: l, r, 0, x, h, hi => by
    obtain ⟨u, q, rfl, h1, _⟩ := concs_cons h
    simp at hi; subst hi; exact ⟨u, rfl, h1⟩
  | v :: l, r, i + 1, x, h, hi => by
    obtain ⟨u, q, rfl, _, h2⟩ := concs_cons h
    simp at hi ⊢; exact concs_get h2 hi
theorem concs_append {ρ : Rho} : ∀ {l m : List AV} {a b : List Value}, concs ρ l = some a → concs ρ m = some b → concs ρ (l ++ m) = some (a ++ b)
  | [], _, _, _, h, h' => by cases concs_nil h; exact h'
  | v :: l, m, a, b, h, h' => by
    obtain ⟨u, q, rfl, h1, h2⟩ := concs_cons h
    exact concs_cons' h1 (concs_append h2 h')
theorem concs_drop {ρ : Rho} : ∀ {n : Nat} {l : List AV} {r : List Value}, concs ρ l = some r → concs ρ (l.drop n) = some (r.drop n)
  | 0, _, _, h => h
  | n + 1, [], _, h => by cases concs_nil h; exact h
  | n + 1, v :: l, r, h => by
    obtain ⟨u, q, rfl, _, h2⟩ := concs_cons h
    simpa using concs_drop (n := n) h2
theorem concs_take {ρ : Rho} : ∀ {n : Nat} {l : List AV} {r : List Value}, concs ρ l = some r → concs ρ (l.take n) = some (r.take n)
  | 0, _, _, h => by simp [concs]
  | n + 1, [], _, h => by cases concs_nil h; simpa using h
  | n + 1, v :: l, r, h => by
    obtain ⟨u, q, rfl, h1, h2⟩ := concs_cons h
    simpa using concs_cons' h1 (concs_take (n := n) h2)
theorem conc_agg {ρ : Rho} {l : List AV} {u : Value} (h : conc ρ (.agg l) = some u) : ∃ r, u = .agg r.toArray ∧ concs ρ l = some r := by
  simp only [conc] at h
  split at h
  · rename_i x e; cases h; exact ⟨x, rfl, e⟩
  · cases h
theorem conc_tuple {ρ : Rho} {l : List AV} {u : Value} (h : conc ρ (.tuple l) = some u) : ∃ r, u = .tuple r.toArray ∧ concs ρ l = some r := by
  simp only [conc] at h
  split at h
  · rename_i x e; cases h; exact ⟨x, rfl, e⟩
  · cases h

/-! ### Memory -/
noncomputable def AS.at (S : AS) (p : Pth) : AO := getA S ⟨0, p⟩
theorem getA_eq (S : AS) (i : Nam) : getA S i = S.at i.p := rfl
noncomputable def AO.live : AO → Prop
  | .free => False
  | .dead => False
  | _ => True
/-- No cell of the first n is frozen. -/
noncomputable def fzFree (fz : Nat × Nat) (n : Nat) : Prop := ∀ i, i < n → ¬ (fz.1 ≤ i ∧ i < fz.2)
/-- Two lists, element by element. -/
inductive All2 {α β : Type} (R : α → β → Prop) : List α → List β → Prop where
  | nil : All2 R [] []
  | cons {a : α} {b : β} {l : List α} {m : List β} (h : R a b) (t : All2 R l m) : All2 R (a :: l) (b :: m)
structure relE (ρ : Rho) (g : Nat) (x : Ent) (e : MapEntry) : Prop where
  key : conc ρ x.key = some e.key
  val : conc ρ x.val = some e.val
  id : look ρ x.id = some (.stp g e.born)
structure relM (ρ : Rho) (g : Nat) (es : List Ent) (clk : Nat) (l : List MapEntry) : Prop where
  perm : ∃ m, All2 (relE ρ g) es m ∧ m.Perm l
  born : (l.map (·.born)).Nodup
  below : ∀ e ∈ l, e.born < clk
  keys : (l.map (·.key)).Nodup
structure relC (P : Program) (ρ : Rho) (heap : Array Obj) (p : Pth) (m : Md) (t : TypeId) (cs : List AV) (g off cap : Nat) (arr : Array Value) (fz : Nat × Nat) (l : List Value) : Prop where
  here : ρ p = some (.blk g off cap)
  obj : heap[g]? = some (.cells arr t fz)
  thaw : fzFree fz arr.size
  vals : concs ρ cs = some l
  lies : ∀ i v, l[i]? = some v → arr[off + i]? = some v
  own : m = .own → off = 0 ∧ arr = l.toArray ∧ fz = (0, 0)
  row : m = .row → ∀ z, sizeA P t = some z → off + cap * z ≤ arr.size ∧ cs.length ≤ cap * z
  lib : True
structure relL (ρ : Rho) (l : ALoop) (r : Loop) : Prop where
  state : r.state = l.state
  pending : r.pending = l.pending
  size : r.tmps.size = l.st.n
  tmps : ∀ i, i < 256 → conc ρ ((tgF l.st.vm i).f l.st.tmps) = some (r.tmps.getD i undef)
  params : r.params = l.st.params
  assign : r.assign = l.st.assign
  body : r.body = l.st.body
  defers : ∃ o c, look ρ l.st.defers = some (.blk r.defers o c)
/-- How an object of the abstract memory lies. -/
noncomputable def relO (P : Program) (ρ : Rho) (heap : Array Obj) (p : Pth) : AO → Prop
  | .free => ρ p = none
  | .dead => True
  | .cells m t cs => ∃ g off cap arr fz l, relC P ρ heap p m t cs g off cap arr fz l
  | .map es clk => ∃ g off cap l, ρ p = some (.blk g off cap) ∧ heap[g]? = some (.map l clk) ∧ relM ρ g es clk l.toList
  | .iter none _ seen _ _ => ∃ g cap s c d, ρ p = some (.blk g 0 cap) ∧ heap[g]? = some (.mapIter none s c d) ∧ seen = []
  | .iter (some m) since seen _ _ => ∃ g cap gm o c seen' ks, ρ p = some (.blk g 0 cap) ∧ heap[g]? = some (.mapIter (some gm) since seen' since) ∧ look ρ m = some (.blk gm o c) ∧
      All2 (fun i k => look ρ i = some (.stp gm k)) seen ks ∧ seen'.toList = ks.reverse
  | .fill n c => ∃ g cap e, ρ p = some (.blk g 0 cap) ∧ heap[g]? = some (.cells (Array.replicate n (.int .u8 (.ofNat c))) e (0, 0)) ∧ c < 256
  | .loop l => ∃ g off cap r, ρ p = some (.blk g off cap) ∧ heap[g]? = some (.loop r) ∧ relL ρ l r
  | .defr => ∃ g off cap, ρ p = some (.blk g off cap) ∧ heap[g]? = some (.deferred (some []))
/-- What the library's variables hold. -/
class Vr where
  H : Nat → Option Obj
variable [Vr]
/-- A world that the abstract memory stands for. -/
structure Sat (P : Program) (ρ : Rho) (S : AS) (w : World) : Prop where
  obj : ∀ p, relO P ρ w.heap p (S.at p)
  inj : ∀ p q g o c o' c', (S.at p).live → (S.at q).live → ρ p = some (.blk g o c) → ρ q = some (.blk g o' c') → p = q
  bnd : ∀ p g o c, ρ p = some (.blk g o c) → g < w.heap.size
  stp : ∀ p g k, ρ p = some (.stp g k) → g < w.heap.size ∧ ∀ es c, w.heap[g]? = some (.map es c) → k < c
  stinj : ∀ p q g k, ρ p = some (.stp g k) → ρ q = some (.stp g k) → p = q
  glob : ∀ g, g < P.globals.size → ∃ c, look ρ (nam g) = some (.blk g 0 c)
  vars : ∀ g, g < P.globals.size → w.heap[g]? = Vr.H g ∧ ∀ p o c, (S.at p).live → ρ p ≠ some (.blk g o c)
/-- Is a block one that the abstract memory may write? -/
noncomputable def Owns (ρ : Rho) (S : AS) (g : Nat) : Prop := ∃ p o c, ρ p = some (.blk g o c) ∧ (S.at p).live
/-- Which names are told since: those that have got something. -/
noncomputable def Tr (S S' : AS) : Prop := S'.lay = S.lay ∧ (S.lay ≠ [] → (∀ i ∈ S.log, i ∈ S'.log) ∧ ∀ p, hget S'.top p = .free ∨ hget S.top p ≠ .free ∨ ∃ i ∈ S'.log, i.p = p)
theorem Tr.refl (S : AS) : Tr S S := ⟨rfl, fun _ => ⟨fun _ h => h, fun p => (Classical.em (hget S.top p = .free)).imp_right .inl⟩⟩
theorem Tr.trans {S S' S'' : AS} (h : Tr S S') (h' : Tr S' S'') : Tr S S'' := by
  refine ⟨h'.1.trans h.1, fun hl => ?_⟩
  obtain ⟨a1, a2⟩ := h.2 hl
  obtain ⟨b1, b2⟩ := h'.2 (by rw [h.1]; exact hl)
  refine ⟨fun i hi => b1 i (a1 i hi), fun p => ?_⟩
  rcases b2 p with k | k | k
  · exact .inl k
  · rcases a2 p with q | q | ⟨i, q1, q2⟩
    · exact absurd q k
    · exact .inr (.inl q)
    · exact .inr (.inr ⟨i, b1 i q1, q2⟩)
  · exact .inr (.inr k)
/-- What lies between two worlds of a run. -/
structure Ext (ρ : Rho) (S : AS) (w : World) (ρ' : Rho) (S' : AS) (w' : World) : Prop where
  le : Le ρ ρ'
  size : w.heap.size ≤ w'.heap.size
  old : ∀ g, g < w.heap.size → ¬ Owns ρ S g → w'.heap[g]? = w.heap[g]?
  owns : ∀ g, g < w.heap.size → Owns ρ' S' g → Owns ρ S g
  os : w'.os = w.os
  tape : w'.tape = w.tape
  output : w'.output = w.output
  tr : Tr S S'
theorem Ext.refl (ρ : Rho) (S : AS) (w : World) : Ext ρ S w ρ S w := ⟨Le.refl _, Nat.le_refl _, fun _ _ _ => rfl, fun _ _ h => h, rfl, rfl, rfl, Tr.refl _⟩
theorem Ext.trans {ρ ρ' ρ'' : Rho} {S S' S'' : AS} {w w' w'' : World} (h : Ext ρ S w ρ' S' w') (h' : Ext ρ' S' w' ρ'' S'' w'') : Ext ρ S w ρ'' S'' w'' where
  le := h.le.trans h'.le
  size := Nat.le_trans h.size h'.size
  old := fun g hg hn => by rw [h'.old g (Nat.lt_of_lt_of_le hg h.size) (fun x => hn (h.owns g hg x)), h.old g hg hn]
  owns := fun g hg x => h.owns g hg (h'.owns g (Nat.lt_of_lt_of_le hg h.size) x)
  os := h'.os.trans h.os
  tape := h'.tape.trans h.tape
  output := h'.output.trans h.output
  tr := h.tr.trans h'.tr
end Go.Proofs.YtfmaapbibmnfgaaGreatDoor.Ev
