/- The walk of the law ConfParses: it answers true. -/
import Derived.Test.YtfbangojgjcbcaaGreatDoorConfX
namespace Go.Proofs.YtfbangojgjcbcaaGreatDoor
open Go.RowKit Pl

theorem rparse_at (text : List UInt8) (c : Cfg) (n : Nat) (e : Int) (w : World) (hl : text.length ≤ 1000000000) (E : Env w) (h : parseC text = (c, n, e)) :
    Calls Tryz.prog 15 #[.string (str text)] w fun en w' => ParseAt n e c en w' ∧ Below w.heap.size w w' := by
  refine (rparse19 text w hl E).mono fun en w' ⟨⟨v, he, hc⟩, hb⟩ => ⟨?_, hb⟩
  rw [← parse_same, h] at he hc
  obtain ⟨own, ports, rfl, hO, hP⟩ := hc.is
  have hO' := hO
  have hP' := hP
  obtain ⟨A1, k1, rfl, _⟩ := hO
  obtain ⟨A2, k2, rfl, _⟩ := hP
  exact ⟨A1, k1, A2, k2, he, hO', hP'⟩
theorem runC_wrong : ∀ (ls : List (List UInt8)) (c : Cfg) (st n : Nat) (d : Cfg) (m : Nat) (e : Int), runC ls c st n = (d, m, e) → ¬ e = 0 → d = {}
  | [], c, st, n, d, m, e, h, _ => by
    unfold runC at h
    injection h with h _; exact h.symm
  | [l], c, st, n, d, m, e, h, he => by
    unfold runC at h
    by_cases hc : l = [] ∧ st = 10
    · rw [if_pos hc] at h
      injection h with h1 h2
      injection h2 with _ h3
      exact absurd h3.symm he
    · rw [if_neg hc] at h
      injection h with h _; exact h.symm
  | l :: l' :: ls, c, st, n, d, m, e, h, he => by
    unfold runC at h
    by_cases hc : 32 ∈ l
    · rw [if_pos hc] at h
      cases hs : stepC c st (cutA 32 l) (cutB 32 l) with
      | none => rw [hs] at h; injection h with h _; exact h.symm
      | some p =>
        obtain ⟨c', st'⟩ := p
        rw [hs] at h
        exact runC_wrong (l' :: ls) c' st' (n + 1) d m e h he
    · rw [if_neg hc] at h
      injection h with h _; exact h.symm
theorem parse_wrong {text : List UInt8} {c : Cfg} {n : Nat} {e : Int} (h : parseC text = (c, n, e)) (he : ¬ e = 0) : c = {} := by
  unfold parseC at h
  by_cases h4 : 4096 < text.length
  · rw [if_pos h4] at h
    injection h with h _; exact h.symm
  · rw [if_neg h4] at h
    exact runC_wrong _ _ _ _ _ _ _ h he
theorem parse_small (text : List UInt8) : (parseC text).1.own.length ≤ 1000000 ∧ (parseC text).1.ports.length ≤ 1000000 := by
  obtain ⟨q, hq⟩ : ∃ q, parseC text = q := ⟨_, rfl⟩
  obtain ⟨c, n, e⟩ := q
  rw [hq]
  by_cases he : e = 0
  · subst he
    obtain ⟨_, hm, _⟩ := parse_sound hq
    obtain ⟨h1, h2, _⟩ := mayC_parts hm
    have := ownOk_le h1
    exact ⟨by simp only; omega, by simp only; omega⟩
  · have := parse_wrong hq he
    subst this
    exact ⟨by simp, by simp⟩

set_option maxRecDepth 100000 in
set_option maxHeartbeats 4000000 in
theorem confParses_walk (text : List UInt8) (w : World) (_hl : text.length ≤ maxLen) (E : Env w) :
    Calls Tryz.prog 3 #[.string (str text)] w fun e w' => e = .returned (.bool true) ∧ Below w.heap.size w w' := by
  have hsz : (str text).size = text.length := str_size text
  by_cases h2 : 20000 < text.length
  · have h2' : decide ((20000 : Int) < ((str text).size : Int)) = true := decide_eq_true (by rw [hsz]; omega)
    have HSZ := Lib.hid hsz
    clear hsz
    go_enter Tryz.func3, Tryz.ntmps3
    go_wp2_with (go_at_call 13; refine (known19_any _ E).mono ?_; rintro e w' ⟨rfl, hb⟩)
    go_ret
    exact ⟨by rfl, hb⟩
  · have h2' : decide ((20000 : Int) < ((str text).size : Int)) = false := decide_eq_false (by rw [hsz]; omega)
    have HSZ := Lib.hid hsz
    obtain ⟨c, n, e, hp⟩ : ∃ c n e, parseC text = (c, n, e) := ⟨_, _, _, rfl⟩
    have hsm := parse_small text
    rw [hp] at hsm
    have HSM := Lib.hid hsm
    have HP := Lib.hid (parse_at text c n e w (by omega) E hp)
    have HQ : Hid (∀ W, Env W → Calls Tryz.prog 15 #[.string (str text)] W fun en w' => ParseAt n e c en w' ∧ Below W.heap.size W w') := Lib.hid (fun W EW => rparse_at text c n e W (by omega) EW hp)
    clear hsz hp hsm
    go_enter Tryz.func3, Tryz.ntmps3
    go_wp2_with fail
    refine HP.out.mono ?_
    rintro en w1 ⟨⟨A1, k1, A2, k2, he, hO, hP⟩, hb1⟩
    have HB1 := Lib.hid hb1
    have HO1 := Lib.hid hO
    have HP1 := Lib.hid hP
    unfold cfgV at he
    subst he
    clear hb1 hO hP
    go_wp2_with fail
    refine (HQ.out _ ((E.here HB1.out).alloc _)).mono ?_
    rintro en w2 ⟨⟨B1, l1, B2, l2, he, hO, hP⟩, hb2⟩
    have HB2 := Lib.hid hb2
    have HO2 := Lib.hid hO
    have HP2 := Lib.hid hP
    unfold cfgV at he
    subst he
    clear hb2 hO hP
    have HWC : Hid (Whole w2 w1.heap.size 28 #[.int .i64 c.node, .int .u32 c.addr, .slice A1 c.own.length k1, .slice A2 c.ports.length k2, .int .i64 c.hello, .int .i64 c.dead, .int .i64 c.again, .int .i64 c.room, .int .i64 c.queue, .int .i64 c.tokens, .int .i64 c.refill]) := Lib.hid ((Whole.new w1 _ _).here HB2.out)
    have hlt2 : w1.heap.size < w2.heap.size := HWC.out.lt
    have c0 : w2.cell? ⟨w1.heap.size, 0, none⟩ = some (.int .i64 c.node) := HWC.out.cell 0
    have c1 : w2.cell? ⟨w1.heap.size, 1, none⟩ = some (.int .u32 c.addr) := HWC.out.cell 1
    have c2 : w2.cell? ⟨w1.heap.size, 2, none⟩ = some (.slice A1 c.own.length k1) := HWC.out.cell 2
    have c3 : w2.cell? ⟨w1.heap.size, 3, none⟩ = some (.slice A2 c.ports.length k2) := HWC.out.cell 3
    have c4 : w2.cell? ⟨w1.heap.size, 4, none⟩ = some (.int .i64 c.hello) := HWC.out.cell 4
    have c5 : w2.cell? ⟨w1.heap.size, 5, none⟩ = some (.int .i64 c.dead) := HWC.out.cell 5
    have c6 : w2.cell? ⟨w1.heap.size, 6, none⟩ = some (.int .i64 c.again) := HWC.out.cell 6
    have c7 : w2.cell? ⟨w1.heap.size, 7, none⟩ = some (.int .i64 c.room) := HWC.out.cell 7
    have c8 : w2.cell? ⟨w1.heap.size, 8, none⟩ = some (.int .i64 c.queue) := HWC.out.cell 8
    have c9 : w2.cell? ⟨w1.heap.size, 9, none⟩ = some (.int .i64 c.tokens) := HWC.out.cell 9
    have c10 : w2.cell? ⟨w1.heap.size, 10, none⟩ = some (.int .i64 c.refill) := HWC.out.cell 10
    have HB12 : Hid (Below w1.heap.size w1 w2) := Lib.hid (((Below.refl _ w1).alloc (Nat.le_refl _) _).trans (HB2.out.mono (by simp)))
    have HSAME := Lib.hid (fun W (hb : Below w2.heap.size w2 W) => rsame_true (cfgV c (.slice A1 c.own.length k1) (.slice A2 c.ports.length k2)) (cfgV c (.slice B1 c.own.length l1) (.slice B2 c.ports.length l2)) c W ⟨⟨_, _, rfl, (HO1.out.below HB12.out).below hb, (HP1.out.below HB12.out).below hb⟩⟩ ⟨⟨_, _, rfl, HO2.out.below hb, HP2.out.below hb⟩⟩ HSM.out.1 HSM.out.2)
    unfold cfgV at HSAME
    go_wp2_with fail
    refine (HSAME.out _ ((Below.refl _ _).alloc (Nat.le_refl _) _)).mono ?_
    rintro e3 w3 ⟨rfl, hb3⟩
    have HB3 : Hid (Below w.heap.size w w3) := Lib.hid (by
      have h1 := HB1.out.trans (HB12.out.mono HB1.out.size)
      exact h1.trans ((((Below.refl _ w2).alloc (Nat.le_refl _) _).trans (hb3.mono (by simp))).mono h1.size))
    clear hb3 HSAME
    go_wp2_with (first
      | (go_at_call 17; refine (num19_any _ _).mono ?_; rintro e w' ⟨rfl, rfl⟩)
      | (go_at_call 13; refine (known19_any _ (E.here HB3.out)).mono ?_; rintro e w4 ⟨rfl, hb4⟩; have HB4 := Lib.hid hb4; clear hb4))
    go_ret
    exact ⟨by rfl, HB3.out.trans (HB4.out.mono HB3.out.size)⟩
end Go.Proofs.YtfbangojgjcbcaaGreatDoor
