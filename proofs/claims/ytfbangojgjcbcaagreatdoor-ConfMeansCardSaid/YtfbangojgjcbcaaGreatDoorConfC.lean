/- Contract of conf.May. -/
import Derived.Test.YtfbangojgjcbcaaGreatDoorConfB
import Derived.Test.YtfbangojgjcbcaaGreatDoorTrieH
import Derived.Deep.DeepCutAuto
namespace Go.Proofs.YtfbangojgjcbcaaGreatDoor
open Go.RowKit Pl

def timesB (c : Cfg) : Bool := inI c.hello 1 100 && inI c.dead (c.hello + 1) 100 && inI c.again 1 100
def linesB (c : Cfg) : Bool := inI c.room 0 64 && inI c.queue 1 64 && inI c.tokens 0 64
theorem mayC_eq (c : Cfg) : mayC c = (ownOk c.own && decide (c.ports.length ≤ 8) && c.ports.all portOk && (hasAny c.own c.addr && inI c.node 1 16 && timesB c && linesB c && inI c.refill 1 100)) := by
  unfold mayC timesB linesB
  cases ownOk c.own <;> cases decide (c.ports.length ≤ 8) <;> cases c.ports.all portOk <;> cases hasAny c.own c.addr <;> cases inI c.node 1 16 <;> cases inI c.hello 1 100 <;> cases inI c.dead (c.hello + 1) 100 <;> cases inI c.again 1 100 <;> cases inI c.room 0 64 <;> cases inI c.queue 1 64 <;> rfl

theorem match_own (T base : Nat) (x : Int) (l : List Pr) (t : Tree) (w : World) (hx : IsAddr x) (h : TrieAt w base T t) (hI : OwnInv l l.length t) (hA : AddrsOk l) :
    Calls Tryz.prog 68 #[.pointer (some ⟨T, 0, none⟩), .int .u32 x] w fun e w' => MatchRes (hasAny l x) e ∧ Below w.heap.size w w' := by
  obtain ⟨a, rfl⟩ := Int.eq_ofNat_of_zero_le hx.1
  have ha : a < 4294967296 := by have := hx.2; omega
  refine (match_any T a base t w ha h).mono fun e w' ⟨he, hb⟩ => ⟨?_, hb⟩
  rw [← hI.any hA h.inv a ha]; exact he
theorem any_not (l : List Pr) : (l.any fun p => !portOk p) = !l.all portOk := by
  induction l with
  | nil => rfl
  | cons x l ih => simp only [List.any_cons, List.all_cons, ih]; cases portOk x <;> rfl

set_option maxRecDepth 100000 in
set_option maxHeartbeats 4000000 in
theorem may_any' (v : Value) (c : Cfg) (w : World) (h : CfgIs w v c) (hA : Addrs4 c) (hl : c.own.length ≤ 1000000) (hp : c.ports.length ≤ 1000000) :
    Calls Tryz.prog 23 #[v] w fun e w' => e = .returned (.bool (mayC c)) ∧ Below w.heap.size w w' := by
  obtain ⟨own, ports, rfl, hown, hports⟩ := h.is
  clear h
  have hb1 : Below w.heap.size w (w.alloc (.cells #[.int .i64 c.node, .int .u32 c.addr, own, ports, .int .i64 c.hello, .int .i64 c.dead, .int .i64 c.again, .int .i64 c.room, .int .i64 c.queue, .int .i64 c.tokens, .int .i64 c.refill] 28)) := (Below.refl _ _).alloc (Nat.le_refl _) _
  have HC := Lib.hid (owned_any own c.own _ (hown.below hb1) hl hA.2)
  have HP := Lib.hid hports
  have HA := Lib.hid hA
  obtain ⟨A, k, hov, _⟩ := hown
  subst hov
  obtain ⟨A2, k2, hpv, _⟩ := id hports
  subst hpv
  have HM := Lib.hid (mayC_eq c)
  clear hports hA
  cases hok : ownOk c.own with
  | false =>
    have HF : Hid (mayC c = false) := Lib.hid (by rw [HM.out, hok]; try rfl)
    have HO := Lib.hid hok
    clear hok
    unfold cfgV
    go_enter Tryz.func23, Tryz.ntmps23
    go_wp2_with fail
    refine HC.out.mono ?_
    rintro e w' ⟨hres, hb⟩
    obtain ⟨q, rfl⟩ : ∃ q, e = .returned (.tuple #[.pointer q, .bool false]) := by
      rcases hres with ⟨_, h⟩ | ⟨h, _⟩
      · exact h
      · rw [HO.out] at h; cases h
    clear hres
    go_wp2
    go_ret
    exact ⟨by rw [HF.out]; try rfl, hb1.trans (hb.mono hb1.size)⟩
  | true =>
    have HO := Lib.hid hok
    rw [hok] at HM
    clear hok
    have HPC : Hid (∀ W, Below w.heap.size w W → Calls Tryz.prog 65 #[.slice A2 c.ports.length k2, .func (.func 66) #[] #[]] W fun e w' => e = .returned (.bool (!c.ports.all portOk)) ∧ Below W.heap.size W w') := Lib.hid (fun W hb => by
      have := containsO_any (.func (.func 66) #[] #[]) (fun p => !portOk p) _ c.ports W (HP.out.below hb) hp ⟨_, _, rfl, enters_of Tryz.func66 (by kernel_rfl) rfl, fun u _ W' _ => may1_any u.1 u.2 W'⟩
      rw [any_not] at this; exact this)
    by_cases h8 : c.ports.length ≤ 8
    · rw [decide_eq_true h8] at HM
      have d8 : decide ((8 : Int) < (c.ports.length : Int)) = false := decide_eq_false (by omega)
      unfold cfgV
      go_enter Tryz.func23, Tryz.ntmps23
      go_wp2_with fail
      refine HC.out.mono ?_
      rintro e w1 ⟨hres, hb⟩
      obtain ⟨T, t, rfl, htr, hinv⟩ : ∃ T t, e = .returned (.tuple #[.pointer (some ⟨T, 0, none⟩), .bool true]) ∧ TrieAt w1 (w.heap.size + 1) T t ∧ OwnInv c.own c.own.length t := by
        rcases hres with ⟨h, _⟩ | ⟨_, h⟩
        · rw [HO.out] at h; cases h
        · simpa using h
      have HT := Lib.hid htr
      have HI := Lib.hid hinv
      clear hres htr hinv
      obtain ⟨y, rfl⟩ : ∃ y : Ext _, w1 = y.w := ⟨⟨_, hb⟩, rfl⟩
      clear hb
      have hyb := Ext.lift y hb1
      have hz1 : w.heap.size < y.w.heap.size := by have := y.below.size; simp only [World.size_alloc] at this; omega
      cases hall : c.ports.all portOk with
      | false =>
        have HF : Hid (mayC c = false) := Lib.hid (by rw [HM.out, hall]; try rfl)
        go_wp2_with (go_at_call 65; refine (ext_of (HPC.out _ hyb)).mono ?_; rintro e w' ⟨rfl, y2, rfl⟩)
        go_ret
        exact ⟨by rw [HF.out]; try rfl, Ext.lift y2 hyb⟩
      | true =>
        rw [hall] at HM
        go_wp2_with (first
          | (go_at_call 65; refine (ext_of (HPC.out _ hyb)).mono ?_; rintro e w' ⟨rfl, y2, rfl⟩; have hz2 : w.heap.size < y2.w.heap.size := Nat.lt_of_lt_of_le hz1 y2.below.size)
          | fail)
        have hy2 := Ext.lift y2 hyb
        have HT2 := Lib.hid (HT.out.below y2.below)
        refine (match_own T _ _ c.own t _ HA.out.1 HT2.out HI.out HA.out.2).mono ?_
        rintro e w3 ⟨⟨pa, pn, pv, rfl⟩, hb3⟩
        obtain ⟨y3, rfl⟩ : ∃ y : Ext _, w3 = y.w := ⟨⟨_, hb3⟩, rfl⟩
        clear hb3
        have hz3 : w.heap.size < y3.w.heap.size := Nat.lt_of_lt_of_le hz2 y3.below.size
        have hy3 := Ext.lift y3 hy2
        clear hall
        go_upto_region 5 with fail
        go_cut [8] (fun s wx => s = .bool (timesB c) ∧ wx = y3.w.alloc (.cells #[.int .u32 pa, .int .i64 pn] 86))
        case first =>
          cases t1 : inI c.hello 1 100 with
          | false =>
            have HB : Hid (timesB c = false) := Lib.hid (by unfold timesB; rw [t1]; try rfl)
            go_wp2_with (go_at_call 69; refine (cwithin_any _ _ _ _).mono ?_; rintro e w' ⟨rfl, rfl⟩)
            go_meet
            exact ⟨by rw [HB.out]; try rfl, rfl⟩
          | true =>
            have hlo := (inI_iff.1 t1).1
            have hhi := (inI_iff.1 t1).2
            cases t2 : inI c.dead (c.hello + 1) 100 with
            | false =>
              have HB : Hid (timesB c = false) := Lib.hid (by unfold timesB; rw [t1, t2]; try rfl)
              go_wp2_with (go_at_call 69; refine (cwithin_any _ _ _ _).mono ?_; rintro e w' ⟨rfl, rfl⟩)
              go_meet
              exact ⟨by rw [HB.out]; try rfl, rfl⟩
            | true =>
              have HB : Hid (timesB c = inI c.again 1 100) := Lib.hid (by unfold timesB; rw [t1, t2]; try rfl)
              go_wp2_with (go_at_call 69; refine (cwithin_any _ _ _ _).mono ?_; rintro e w' ⟨rfl, rfl⟩)
              go_meet
              exact ⟨by rw [HB.out]; try rfl, rfl⟩
        case rest =>
          obtain ⟨rfl, rfl⟩ := hcut
          go_upto_region 6 with fail
          go_cut [9] (fun s wx => s = .bool (linesB c) ∧ wx = y3.w.alloc (.cells #[.int .u32 pa, .int .i64 pn] 86))
          case first =>
            cases t1 : inI c.room 0 64 with
            | false =>
              have HB : Hid (linesB c = false) := Lib.hid (by unfold linesB; rw [t1]; try rfl)
              go_wp2_with (go_at_call 69; refine (cwithin_any _ _ _ _).mono ?_; rintro e w' ⟨rfl, rfl⟩)
              go_meet
              exact ⟨by rw [HB.out]; try rfl, rfl⟩
            | true =>
              cases t2 : inI c.queue 1 64 with
              | false =>
                have HB : Hid (linesB c = false) := Lib.hid (by unfold linesB; rw [t1, t2]; try rfl)
                go_wp2_with (go_at_call 69; refine (cwithin_any _ _ _ _).mono ?_; rintro e w' ⟨rfl, rfl⟩)
                go_meet
                exact ⟨by rw [HB.out]; try rfl, rfl⟩
              | true =>
                have HB : Hid (linesB c = inI c.tokens 0 64) := Lib.hid (by unfold linesB; rw [t1, t2]; try rfl)
                go_wp2_with (go_at_call 69; refine (cwithin_any _ _ _ _).mono ?_; rintro e w' ⟨rfl, rfl⟩)
                go_meet
                exact ⟨by rw [HB.out]; try rfl, rfl⟩
          case rest =>
            obtain ⟨rfl, rfl⟩ := hcut
            cases g0 : hasAny c.own c.addr with
            | false =>
              have HF : Hid (mayC c = false) := Lib.hid (by rw [HM.out, g0]; try rfl)
              go_wp2_with (go_at_call 69; refine (cwithin_any _ _ _ _).mono ?_; rintro e w' ⟨rfl, rfl⟩)
              go_ret
              exact ⟨by rw [HF.out]; try rfl, bel_alloc hy3 _⟩
            | true =>
              cases g1 : inI c.node 1 16 with
              | false =>
                have HF : Hid (mayC c = false) := Lib.hid (by rw [HM.out, g0, g1]; try rfl)
                go_wp2_with (go_at_call 69; refine (cwithin_any _ _ _ _).mono ?_; rintro e w' ⟨rfl, rfl⟩)
                go_ret
                exact ⟨by rw [HF.out]; try rfl, bel_alloc hy3 _⟩
              | true =>
                cases g2 : timesB c with
                | false =>
                  have HF : Hid (mayC c = false) := Lib.hid (by rw [HM.out, g0, g1, g2]; try rfl)
                  go_wp2_with (go_at_call 69; refine (cwithin_any _ _ _ _).mono ?_; rintro e w' ⟨rfl, rfl⟩)
                  go_ret
                  exact ⟨by rw [HF.out]; try rfl, bel_alloc hy3 _⟩
                | true =>
                  cases g3 : linesB c with
                  | false =>
                    have HF : Hid (mayC c = false) := Lib.hid (by rw [HM.out, g0, g1, g2, g3]; try rfl)
                    go_wp2_with (go_at_call 69; refine (cwithin_any _ _ _ _).mono ?_; rintro e w' ⟨rfl, rfl⟩)
                    go_ret
                    exact ⟨by rw [HF.out]; try rfl, bel_alloc hy3 _⟩
                  | true =>
                    have HF : Hid (mayC c = inI c.refill 1 100) := Lib.hid (by rw [HM.out, g0, g1, g2, g3]; try rfl)
                    go_wp2_with (go_at_call 69; refine (cwithin_any _ _ _ _).mono ?_; rintro e w' ⟨rfl, rfl⟩)
                    go_ret
                    exact ⟨by rw [HF.out]; try rfl, bel_alloc hy3 _⟩
    · have HF : Hid (mayC c = false) := Lib.hid (by rw [HM.out, decide_eq_false h8]; try rfl)
      have d8 : decide ((8 : Int) < (c.ports.length : Int)) = true := decide_eq_true (by omega)
      unfold cfgV
      go_enter Tryz.func23, Tryz.ntmps23
      go_wp2_with fail
      refine HC.out.mono ?_
      rintro e w1 ⟨hres, hb⟩
      obtain ⟨T, rfl⟩ : ∃ T, e = .returned (.tuple #[.pointer (some ⟨T, 0, none⟩), .bool true]) := by
        rcases hres with ⟨h, _⟩ | ⟨_, T, _, h, _⟩
        · rw [HO.out] at h; cases h
        · exact ⟨T, h⟩
      clear hres
      obtain ⟨y, rfl⟩ : ∃ y : Ext _, w1 = y.w := ⟨⟨_, hb⟩, rfl⟩
      go_wp2
      go_ret
      exact ⟨by rw [HF.out]; try rfl, Ext.lift y hb1⟩
end Go.Proofs.YtfbangojgjcbcaaGreatDoor
