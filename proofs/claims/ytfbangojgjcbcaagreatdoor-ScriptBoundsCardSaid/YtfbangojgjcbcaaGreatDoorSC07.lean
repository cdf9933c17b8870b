/- Part 7 of the proof: ConfH, ConfK. -/
import Derived.Deep.RegionLaw
import Derived.MapKept
import Derived.Test.YtfbangojgjcbcaaGreatDoorSC01
import Derived.Test.YtfbangojgjcbcaaGreatDoorSC02
import Derived.Test.YtfbangojgjcbcaaGreatDoorSC06
namespace Go.Proofs.YtfbangojgjcbcaaGreatDoor
open Go.RowKit Pl
/-- The cells of a reader: a configuration, and a number behind it. -/
def rdCells (c : Cfg) (own ports : Value) (st : Int) : Array Value := #[.int .i64 c.node, .int .u32 c.addr, own, ports, .int .i64 c.hello, .int .i64 c.dead, .int .i64 c.again, .int .i64 c.room, .int .i64 c.queue, .int .i64 c.tokens, .int .i64 c.refill, .int .i64 st]
structure Rd (t : TypeId) (w : World) (B R : Nat) (c : Cfg) (st : Int) : Prop where
  ge : 8 ≤ R
  is : ∃ own ports, Whole w R t (rdCells c own ports st) ∧ w.ownsRow B 86 2 own c.own.length (cells2 .u32 c.own) ∧ w.ownsRow B 101 2 ports c.ports.length (cells2 .i64 c.ports)
theorem own_apart {w : World} {g : Nat} {t e : TypeId} {cs : Array Value} {base size n : Nat} {v : Value} {xs : List Value} (hg : Whole w g t cs) (h : w.ownsRow base e size v n xs) (hne : t ≠ e) : v.ownBlock = none ∨ v.ownBlock ≠ some g := .inr (hg.notRow h hne)
theorem own_grown {w w' : World} {g : Nat} {t e : TypeId} {cs : Array Value} {base size n : Nat} {v : Value} {xs : List Value} (hg : Whole w g t cs) (h : w.ownsRow base e size v n xs) (hne : t ≠ e) (hw : w.grownBy w' (some g)) : w'.ownsRow base e size v n xs :=
  h.kept hw (own_apart hg h hne)
theorem grown_set (w : World) (g i : Nat) (u : Value) : w.grownBy (w.setCell ⟨g, i, none⟩ u) (some g) :=
  ⟨rfl, rfl, rfl, by simp [World.setCell], fun k _ hk => Below.heap_setCell w ⟨g, i, none⟩ u k (fun e => hk (by rw [e]))⟩
theorem grown_below {w w' : World} (row : Option Nat) (h : Below w.heap.size w w') : w.grownBy w' row := ⟨h.os, h.tape, h.output, h.size, fun i hi _ => h.block i hi⟩
theorem grown_trans {a b c : World} {row : Option Nat} (h : a.grownBy b row) (h' : b.grownBy c row) : a.grownBy c row :=
  ⟨h'.os.trans h.os, h'.tape.trans h.tape, h'.output.trans h.output, Nat.le_trans h.size h'.size, fun i hi hne => (h'.block i (Nat.lt_of_lt_of_le hi h.size) hne).trans (h.block i hi hne)⟩
theorem below_grown {w w' : World} {B g : Nat} (h : w.grownBy w' (some g)) (hB : B ≤ w.heap.size) (hg : B ≤ g) : Below B w w' := (Below.refl _ _).grown h hB fun k e => by cases e; exact hg
/-- What lay below B is as it was, but for block R. -/
structure Kb (B R : Nat) (w w' : World) : Prop where
  os : w'.os = w.os
  tape : w'.tape = w.tape
  output : w'.output = w.output
  size : w.heap.size ≤ w'.heap.size
  block : ∀ g, g < B → g ≠ R → w'.heap[g]? = w.heap[g]?
theorem Kb.refl (B R : Nat) (w : World) : Kb B R w w := ⟨rfl, rfl, rfl, Nat.le_refl _, fun _ _ _ => rfl⟩
theorem Kb.trans {B R : Nat} {a b c : World} (h : Kb B R a b) (h' : Kb B R b c) : Kb B R a c :=
  ⟨h'.os.trans h.os, h'.tape.trans h.tape, h'.output.trans h.output, Nat.le_trans h.size h'.size, fun g h1 h2 => (h'.block g h1 h2).trans (h.block g h1 h2)⟩
theorem Kb.of_below {B R : Nat} {w w' : World} (h : Below B w w') : Kb B R w w' := ⟨h.os, h.tape, h.output, h.size, fun g h1 _ => h.block g h1⟩
theorem Kb.below {N B R : Nat} {w w' : World} (h : Kb B R w w') (hB : N ≤ B) (hR : N ≤ R) : Below N w w' := ⟨h.os, h.tape, h.output, h.size, fun g hg => h.block g (by omega) (by omega)⟩
theorem kb_grown {B R : Nat} {w w' : World} (h : w.grownBy w' (some R)) (hB : B ≤ w.heap.size) : Kb B R w w' := ⟨h.os, h.tape, h.output, h.size, fun g h1 h2 => h.block g (by omega) (by simpa using h2)⟩
theorem Kb.set {B R : Nat} {w w' : World} (h : Kb B R w w') (i : Nat) (u : Value) (hB : B ≤ w'.heap.size) : Kb B R w (w'.setCell ⟨R, i, none⟩ u) := h.trans (kb_grown (grown_set w' R i u) hB)
set_option maxRecDepth 100000 in
theorem next_yes (R : Nat) (k : Int) (c : Cfg) (own ports : Value) (w : World) (h : Whole w R 89 (rdCells c own ports k)) (hk : 0 ≤ k ∧ k ≤ 100) :
    Calls Tryz.prog 152 #[.pointer (some ⟨R, 0, none⟩), .int .i64 k] w fun e w' => e = .returned (.bool true) ∧ Whole w' R 89 (rdCells c own ports (k + 1)) ∧ w.grownBy w' (some R) := by
  have c0 : w.cell? ⟨R, 11, none⟩ = some (.int .i64 k) := h.cell 11
  have f0 := h.frozen 11
  obtain ⟨hk0, hk1⟩ := hk
  have HW := Lib.hid h
  clear h
  go_enter Tryz.func152, Tryz.ntmps152
  go_wp2
  go_ret
  exact ⟨rfl, HW.out.set 11 _, grown_set _ _ _ _⟩
set_option maxRecDepth 100000 in
theorem next_no (R : Nat) (k st : Int) (c : Cfg) (own ports : Value) (w : World) (h : Whole w R 89 (rdCells c own ports st)) (hk : ¬ st = k) :
    Calls Tryz.prog 152 #[.pointer (some ⟨R, 0, none⟩), .int .i64 k] w fun e w' => e = .returned (.bool false) ∧ w = w' := by
  have c0 : w.cell? ⟨R, 11, none⟩ = some (.int .i64 st) := h.cell 11
  have hd : (st == k) = false := beq_eq_false_iff_ne.2 hk
  clear h hk
  go_enter Tryz.func152, Tryz.ntmps152
  go_wp2
  go_ret
  exact ⟨rfl, rfl⟩
/-- What number does to a cell: a line's number if it is one. -/
def NumRes (w : World) (s : List UInt8) (lo hi : Nat) (R i : Nat) (t : TypeId) (cs : Array Value) (e : Ending) (w' : World) : Prop :=
  e = .returned (.bool (numIn s lo hi).isSome) ∧ ∃ n : Int, (∀ v, numIn s lo hi = some v → n = v) ∧ Whole w' R t (cs.setIfInBounds i (.int .i64 n)) ∧ w.grownBy w' (some R)
set_option maxRecDepth 100000 in
set_option maxHeartbeats 1000000 in
theorem number_any (s : List UInt8) (lo hi : Nat) (R i : Nat) (t : TypeId) (cs : Array Value) (old : Value) (w : World) (hs : s.length ≤ 1000000) (hh : hi < 1000000000) (E : Env w) (h : Whole w R t cs) (ho : cs[i]? = some old) (hNG : 8 ≤ R) :
    Calls Tryz.prog 153 #[.string (str s), .int .i64 (lo : Int), .int .i64 (hi : Int), .pointer (some ⟨R, i, none⟩)] w fun e w' => NumRes w s lo hi R i t cs e w' := by
  have HW := Lib.hid h
  have HO := Lib.hid ho
  clear h ho
  by_cases hok : ∃ v, Lib.atoiAll s = .ok v
  · obtain ⟨v, hv⟩ := hok
    have HV := Lib.hid hv
    have HN := Lib.hid (numIn_of_atoi (lo := lo) (hi := hi) hv hh)
    obtain ⟨b0, b1⟩ := atoi_bd hv
    clear hv
    go_enter Tryz.func153, Tryz.ntmps153
    go_wp2_with fail
    refine (atoi_ok s v _ hs HV.out).mono ?_
    rintro e w1 ⟨rfl, hb1⟩
    have h1 := HW.out.here hb1
    have c1 : w1.cell? ⟨R, i, none⟩ = some old := (h1.cell i).trans HO.out
    have f1 := h1.frozen i
    have hw2 := Lib.hid (h1.set i (.int .i64 v))
    have hg2 := Lib.hid (grown_trans (grown_below (some R) hb1) (grown_set w1 R i (.int .i64 v)))
    have E2 : Hid (Env (w1.setCell ⟨R, i, none⟩ (.int .i64 v))) := Lib.hid (E.below (Nat.le_refl _) (below_grown hg2.out E.size hNG))
    clear h1
    by_cases hi2 : Lib.itoa v = s
    · have hd := str_eq_true hi2
      have HN2 : Hid (inI v lo hi = (numIn s lo hi).isSome) := Lib.hid (by
        rw [HN.out]; unfold inI
        by_cases hc : (lo : Int) ≤ v ∧ v ≤ hi
        · rw [if_pos ⟨hi2, hc⟩, decide_eq_true hc.1, decide_eq_true hc.2]; rfl
        · rw [if_neg (fun k => hc k.2)]
          by_cases h1 : (lo : Int) ≤ v
          · rw [decide_eq_false (fun k => hc ⟨h1, k⟩)]; simp
          · rw [decide_eq_false h1]; rfl)
      have HI := Lib.hid hi2
      clear hi2
      go_wp2_with (first
        | (go_at_call 58; refine (itoa_all v _ b0 b1 E2.out).mono ?_; rintro e w3 ⟨rfl, hb3⟩; have HB3 := Lib.hid hb3; clear hb3)
        | (go_at_call 69; refine (cwithin_any _ _ _ _).mono ?_; rintro e w' ⟨rfl, rfl⟩))
      go_ret
      refine ⟨by rw [← HN2.out]; rfl, v, fun u hu => ?_, hw2.out.here HB3.out, grown_trans hg2.out (grown_below _ HB3.out)⟩
      rw [HN.out] at hu
      split at hu
      · injection hu
      · cases hu
    · have hd := str_eq_false hi2
      have HN2 : Hid (numIn s lo hi = none) := Lib.hid (by rw [HN.out, if_neg (fun k => hi2 k.1)])
      clear hi2
      go_wp2_with (go_at_call 58; refine (itoa_all v _ b0 b1 E2.out).mono ?_; rintro e w3 ⟨rfl, hb3⟩; have HB3 := Lib.hid hb3; clear hb3)
      go_ret
      exact ⟨by rw [HN2.out]; rfl, v, fun u hu => (by rw [HN2.out] at hu; cases hu), hw2.out.here HB3.out, grown_trans hg2.out (grown_below _ HB3.out)⟩
  · have HN2 : Hid (numIn s lo hi = none) := Lib.hid (numIn_no_atoi (fun u hu => hok ⟨u, hu⟩) (by omega))
    have HE := Lib.hid (fun u hu => hok ⟨u, hu⟩ : ∀ u, Lib.atoiAll s ≠ .ok u)
    clear hok
    go_enter Tryz.func153, Tryz.ntmps153
    go_wp2_with fail
    refine (atoi_err s _ hs HE.out E).mono ?_
    rintro e w1 ⟨⟨v, ty, p, rfl⟩, hb1⟩
    have h1 := HW.out.here hb1
    have c1 : w1.cell? ⟨R, i, none⟩ = some old := (h1.cell i).trans HO.out
    have f1 := h1.frozen i
    have hw2 := Lib.hid (h1.set i (.int .i64 v))
    have hg2 := Lib.hid (grown_trans (grown_below (some R) hb1) (grown_set w1 R i (.int .i64 v)))
    clear h1
    go_wp2
    go_ret
    exact ⟨by rw [HN2.out]; rfl, v, fun u hu => (by rw [HN2.out] at hu; cases hu), hw2.out, hg2.out⟩
end Go.Proofs.YtfbangojgjcbcaaGreatDoor
namespace Go.Proofs.YtfbangojgjcbcaaGreatDoor
open Go.RowKit Pl
/-- What a line does to the reader. -/
def RdRes (w : World) (B R : Nat) (o : Option (Cfg × Nat)) (e : Ending) (w' : World) : Prop :=
  (match o with
    | some (c', st') => e = .returned (.bool true) ∧ Rd 89 w' B R c' (st' : Int)
    | none => e = .returned (.bool false)) ∧ Kb B R w w'
theorem RdRes.no {w w' : World} {B R : Nat} {o : Option (Cfg × Nat)} {e : Ending} (h : o = none) (he : e = .returned (.bool false)) (hb : Kb B R w w') : RdRes w B R o e w' := by
  subst h; exact ⟨he, hb⟩
theorem RdRes.yes {w w' : World} {B R : Nat} {o : Option (Cfg × Nat)} {e : Ending} (c : Cfg) (st : Nat) (h : o = some (c, st)) (he : e = .returned (.bool true)) (hr : Rd 89 w' B R c (st : Int)) (hb : Kb B R w w') : RdRes w B R o e w' := by
  subst h; exact ⟨⟨he, hr⟩, hb⟩
theorem rd_num {c : Cfg} {own ports : Value} {st : Int} {w w' : World} {B R : Nat} {cs : Array Value} {c' : Cfg} (h : Whole w R 89 (rdCells c own ports st)) (hO : w.ownsRow B 86 2 own c.own.length (cells2 .u32 c.own)) (hP : w.ownsRow B 101 2 ports c.ports.length (cells2 .i64 c.ports))
    (hg : w.grownBy w' (some R)) (h' : Whole w' R 89 cs) (hB : 8 ≤ R) {st' : Int} (hcs : cs = rdCells c' own ports st') (h1 : c'.own = c.own) (h2 : c'.ports = c.ports) : Rd 89 w' B R c' st' :=
  ⟨hB, own, ports, by rw [← hcs]; exact h', by rw [h1]; exact own_grown h hO (by decide) hg, by rw [h2]; exact own_grown h hP (by decide) hg⟩
set_option maxRecDepth 100000 in
set_option maxHeartbeats 1000000 in
theorem mnode_any (s : List UInt8) (c : Cfg) (st : Nat) (B R : Nat) (w : World) (h : Rd 89 w B R c (st : Int)) (E : Env w) (_hNG : 8 ≤ B) (hBw : B ≤ w.heap.size) (hs : s.length ≤ 1000000) :
    Calls Tryz.prog 102 #[.pointer (some ⟨R, 0, none⟩), .string (str s)] w fun e w' => RdRes w B R (if st = 0 then (numIn s 1 16).map fun n => ({ c with node := n }, 1) else none) e w' := by
  obtain ⟨own, ports, hW, hO, hP⟩ := h.is
  have hBR := h.ge
  obtain ⟨o, ho⟩ : ∃ o, (if st = 0 then (numIn s 1 16).map fun n => ({ c with node := n }, 1) else none : Option (Cfg × Nat)) = o := ⟨_, rfl⟩
  rw [ho]
  have HOO := Lib.hid ho
  clear h ho
  by_cases hk : st = 0
  · subst hk
    have HWH := Lib.hid hW
    have HO := Lib.hid hO
    have HP := Lib.hid hP
    clear hO hP
    go_enter Tryz.func102, Tryz.ntmps102
    go_wp2_with fail
    refine (next_yes R 0 c own ports w hW ⟨by decide, by decide⟩).mono ?_
    rintro e w1 ⟨rfl, h1, hg1⟩
    have E1 := E.below (Nat.le_refl _) (below_grown hg1 E.size hBR)
    have HG1 := Lib.hid hg1
    have H1 := Lib.hid h1
    clear hg1 h1 hW
    go_wp2_with fail
    refine (number_any s 1 16 R 0 89 _ (.int .i64 c.node) w1 hs (by decide) E1 H1.out rfl hBR).mono ?_
    rintro e w2 ⟨rfl, n, hn, h2, hg2⟩
    have HG2 := Lib.hid (grown_trans HG1.out hg2)
    have H2 := Lib.hid h2
    have HN := Lib.hid hn
    clear h2 hg2 hn
    go_wp2
    go_ret
    have hb := kb_grown HG2.out hBw
    cases hnum : numIn s 1 16 with
    | none => exact RdRes.no (by rw [← HOO.out]; simp [hnum]) rfl hb
    | some v =>
      obtain rfl : n = v := HN.out v hnum
      exact RdRes.yes { c with node := n } 1 (by rw [← HOO.out]; simp [hnum]) rfl (rd_num HWH.out HO.out HP.out HG2.out H2.out hBR rfl rfl rfl) hb
  · have hk' : ¬ (st : Int) = 0 := by omega
    go_enter Tryz.func102, Tryz.ntmps102
    go_wp2_with (go_at_call 152; refine (next_no R 0 (st : Int) c own ports w hW hk').mono ?_; rintro e w' ⟨rfl, rfl⟩)
    go_ret
    exact RdRes.no (by rw [← HOO.out]; simp [hk]) rfl (Kb.refl _ _ _)
set_option maxRecDepth 100000 in
set_option maxHeartbeats 1000000 in
theorem magain_any (s : List UInt8) (c : Cfg) (st : Nat) (B R : Nat) (w : World) (h : Rd 89 w B R c (st : Int)) (E : Env w) (_hNG : 8 ≤ B) (hBw : B ≤ w.heap.size) (hs : s.length ≤ 1000000) :
    Calls Tryz.prog 108 #[.pointer (some ⟨R, 0, none⟩), .string (str s)] w fun e w' => RdRes w B R (if st = 5 then (numIn s 1 100).map fun n => ({ c with again := n }, 6) else none) e w' := by
  obtain ⟨own, ports, hW, hO, hP⟩ := h.is
  have hBR := h.ge
  obtain ⟨o, ho⟩ : ∃ o, (if st = 5 then (numIn s 1 100).map fun n => ({ c with again := n }, 6) else none : Option (Cfg × Nat)) = o := ⟨_, rfl⟩
  rw [ho]
  have HOO := Lib.hid ho
  clear h ho
  by_cases hk : st = 5
  · subst hk
    have HWH := Lib.hid hW
    have HO := Lib.hid hO
    have HP := Lib.hid hP
    clear hO hP
    go_enter Tryz.func108, Tryz.ntmps108
    go_wp2_with fail
    refine (next_yes R 5 c own ports w hW ⟨by decide, by decide⟩).mono ?_
    rintro e w1 ⟨rfl, h1, hg1⟩
    have E1 := E.below (Nat.le_refl _) (below_grown hg1 E.size hBR)
    have HG1 := Lib.hid hg1
    have H1 := Lib.hid h1
    clear hg1 h1 hW
    go_wp2_with fail
    refine (number_any s 1 100 R 6 89 _ (.int .i64 c.again) w1 hs (by decide) E1 H1.out rfl hBR).mono ?_
    rintro e w2 ⟨rfl, n, hn, h2, hg2⟩
    have HG2 := Lib.hid (grown_trans HG1.out hg2)
    have H2 := Lib.hid h2
    have HN := Lib.hid hn
    clear h2 hg2 hn
    go_wp2
    go_ret
    have hb := kb_grown HG2.out hBw
    cases hnum : numIn s 1 100 with
    | none => exact RdRes.no (by rw [← HOO.out]; simp [hnum]) rfl hb
    | some v =>
      obtain rfl : n = v := HN.out v hnum
      exact RdRes.yes { c with again := n } 6 (by rw [← HOO.out]; simp [hnum]) rfl (rd_num HWH.out HO.out HP.out HG2.out H2.out hBR rfl rfl rfl) hb
  · have hk' : ¬ (st : Int) = 5 := by omega
    go_enter Tryz.func108, Tryz.ntmps108
    go_wp2_with (go_at_call 152; refine (next_no R 5 (st : Int) c own ports w hW hk').mono ?_; rintro e w' ⟨rfl, rfl⟩)
    go_ret
    exact RdRes.no (by rw [← HOO.out]; simp [hk]) rfl (Kb.refl _ _ _)
set_option maxRecDepth 100000 in
set_option maxHeartbeats 1000000 in
theorem mroom_any (s : List UInt8) (c : Cfg) (st : Nat) (B R : Nat) (w : World) (h : Rd 89 w B R c (st : Int)) (E : Env w) (_hNG : 8 ≤ B) (hBw : B ≤ w.heap.size) (hs : s.length ≤ 1000000) :
    Calls Tryz.prog 109 #[.pointer (some ⟨R, 0, none⟩), .string (str s)] w fun e w' => RdRes w B R (if st = 6 then (numIn s 0 64).map fun n => ({ c with room := n }, 7) else none) e w' := by
  obtain ⟨own, ports, hW, hO, hP⟩ := h.is
  have hBR := h.ge
  obtain ⟨o, ho⟩ : ∃ o, (if st = 6 then (numIn s 0 64).map fun n => ({ c with room := n }, 7) else none : Option (Cfg × Nat)) = o := ⟨_, rfl⟩
  rw [ho]
  have HOO := Lib.hid ho
  clear h ho
  by_cases hk : st = 6
  · subst hk
    have HWH := Lib.hid hW
    have HO := Lib.hid hO
    have HP := Lib.hid hP
    clear hO hP
    go_enter Tryz.func109, Tryz.ntmps109
    go_wp2_with fail
    refine (next_yes R 6 c own ports w hW ⟨by decide, by decide⟩).mono ?_
    rintro e w1 ⟨rfl, h1, hg1⟩
    have E1 := E.below (Nat.le_refl _) (below_grown hg1 E.size hBR)
    have HG1 := Lib.hid hg1
    have H1 := Lib.hid h1
    clear hg1 h1 hW
    go_wp2_with fail
    refine (number_any s 0 64 R 7 89 _ (.int .i64 c.room) w1 hs (by decide) E1 H1.out rfl hBR).mono ?_
    rintro e w2 ⟨rfl, n, hn, h2, hg2⟩
    have HG2 := Lib.hid (grown_trans HG1.out hg2)
    have H2 := Lib.hid h2
    have HN := Lib.hid hn
    clear h2 hg2 hn
    go_wp2
    go_ret
    have hb := kb_grown HG2.out hBw
    cases hnum : numIn s 0 64 with
    | none => exact RdRes.no (by rw [← HOO.out]; simp [hnum]) rfl hb
    | some v =>
      obtain rfl : n = v := HN.out v hnum
      exact RdRes.yes { c with room := n } 7 (by rw [← HOO.out]; simp [hnum]) rfl (rd_num HWH.out HO.out HP.out HG2.out H2.out hBR rfl rfl rfl) hb
  · have hk' : ¬ (st : Int) = 6 := by omega
    go_enter Tryz.func109, Tryz.ntmps109
    go_wp2_with (go_at_call 152; refine (next_no R 6 (st : Int) c own ports w hW hk').mono ?_; rintro e w' ⟨rfl, rfl⟩)
    go_ret
    exact RdRes.no (by rw [← HOO.out]; simp [hk]) rfl (Kb.refl _ _ _)
set_option maxRecDepth 100000 in
set_option maxHeartbeats 1000000 in
theorem mqueue_any (s : List UInt8) (c : Cfg) (st : Nat) (B R : Nat) (w : World) (h : Rd 89 w B R c (st : Int)) (E : Env w) (_hNG : 8 ≤ B) (hBw : B ≤ w.heap.size) (hs : s.length ≤ 1000000) :
    Calls Tryz.prog 110 #[.pointer (some ⟨R, 0, none⟩), .string (str s)] w fun e w' => RdRes w B R (if st = 7 then (numIn s 1 64).map fun n => ({ c with queue := n }, 8) else none) e w' := by
  obtain ⟨own, ports, hW, hO, hP⟩ := h.is
  have hBR := h.ge
  obtain ⟨o, ho⟩ : ∃ o, (if st = 7 then (numIn s 1 64).map fun n => ({ c with queue := n }, 8) else none : Option (Cfg × Nat)) = o := ⟨_, rfl⟩
  rw [ho]
  have HOO := Lib.hid ho
  clear h ho
  by_cases hk : st = 7
  · subst hk
    have HWH := Lib.hid hW
    have HO := Lib.hid hO
    have HP := Lib.hid hP
    clear hO hP
    go_enter Tryz.func110, Tryz.ntmps110
    go_wp2_with fail
    refine (next_yes R 7 c own ports w hW ⟨by decide, by decide⟩).mono ?_
    rintro e w1 ⟨rfl, h1, hg1⟩
    have E1 := E.below (Nat.le_refl _) (below_grown hg1 E.size hBR)
    have HG1 := Lib.hid hg1
    have H1 := Lib.hid h1
    clear hg1 h1 hW
    go_wp2_with fail
    refine (number_any s 1 64 R 8 89 _ (.int .i64 c.queue) w1 hs (by decide) E1 H1.out rfl hBR).mono ?_
    rintro e w2 ⟨rfl, n, hn, h2, hg2⟩
    have HG2 := Lib.hid (grown_trans HG1.out hg2)
    have H2 := Lib.hid h2
    have HN := Lib.hid hn
    clear h2 hg2 hn
    go_wp2
    go_ret
    have hb := kb_grown HG2.out hBw
    cases hnum : numIn s 1 64 with
    | none => exact RdRes.no (by rw [← HOO.out]; simp [hnum]) rfl hb
    | some v =>
      obtain rfl : n = v := HN.out v hnum
      exact RdRes.yes { c with queue := n } 8 (by rw [← HOO.out]; simp [hnum]) rfl (rd_num HWH.out HO.out HP.out HG2.out H2.out hBR rfl rfl rfl) hb
  · have hk' : ¬ (st : Int) = 7 := by omega
    go_enter Tryz.func110, Tryz.ntmps110
    go_wp2_with (go_at_call 152; refine (next_no R 7 (st : Int) c own ports w hW hk').mono ?_; rintro e w' ⟨rfl, rfl⟩)
    go_ret
    exact RdRes.no (by rw [← HOO.out]; simp [hk]) rfl (Kb.refl _ _ _)
set_option maxRecDepth 100000 in
set_option maxHeartbeats 1000000 in
theorem mtokens_any (s : List UInt8) (c : Cfg) (st : Nat) (B R : Nat) (w : World) (h : Rd 89 w B R c (st : Int)) (E : Env w) (_hNG : 8 ≤ B) (hBw : B ≤ w.heap.size) (hs : s.length ≤ 1000000) :
    Calls Tryz.prog 111 #[.pointer (some ⟨R, 0, none⟩), .string (str s)] w fun e w' => RdRes w B R (if st = 8 then (numIn s 0 64).map fun n => ({ c with tokens := n }, 9) else none) e w' := by
  obtain ⟨own, ports, hW, hO, hP⟩ := h.is
  have hBR := h.ge
  obtain ⟨o, ho⟩ : ∃ o, (if st = 8 then (numIn s 0 64).map fun n => ({ c with tokens := n }, 9) else none : Option (Cfg × Nat)) = o := ⟨_, rfl⟩
  rw [ho]
  have HOO := Lib.hid ho
  clear h ho
  by_cases hk : st = 8
  · subst hk
    have HWH := Lib.hid hW
    have HO := Lib.hid hO
    have HP := Lib.hid hP
    clear hO hP
    go_enter Tryz.func111, Tryz.ntmps111
    go_wp2_with fail
    refine (next_yes R 8 c own ports w hW ⟨by decide, by decide⟩).mono ?_
    rintro e w1 ⟨rfl, h1, hg1⟩
    have E1 := E.below (Nat.le_refl _) (below_grown hg1 E.size hBR)
    have HG1 := Lib.hid hg1
    have H1 := Lib.hid h1
    clear hg1 h1 hW
    go_wp2_with fail
    refine (number_any s 0 64 R 9 89 _ (.int .i64 c.tokens) w1 hs (by decide) E1 H1.out rfl hBR).mono ?_
    rintro e w2 ⟨rfl, n, hn, h2, hg2⟩
    have HG2 := Lib.hid (grown_trans HG1.out hg2)
    have H2 := Lib.hid h2
    have HN := Lib.hid hn
    clear h2 hg2 hn
    go_wp2
    go_ret
    have hb := kb_grown HG2.out hBw
    cases hnum : numIn s 0 64 with
    | none => exact RdRes.no (by rw [← HOO.out]; simp [hnum]) rfl hb
    | some v =>
      obtain rfl : n = v := HN.out v hnum
      exact RdRes.yes { c with tokens := n } 9 (by rw [← HOO.out]; simp [hnum]) rfl (rd_num HWH.out HO.out HP.out HG2.out H2.out hBR rfl rfl rfl) hb
  · have hk' : ¬ (st : Int) = 8 := by omega
    go_enter Tryz.func111, Tryz.ntmps111
    go_wp2_with (go_at_call 152; refine (next_no R 8 (st : Int) c own ports w hW hk').mono ?_; rintro e w' ⟨rfl, rfl⟩)
    go_ret
    exact RdRes.no (by rw [← HOO.out]; simp [hk]) rfl (Kb.refl _ _ _)
set_option maxRecDepth 100000 in
set_option maxHeartbeats 1000000 in
theorem mrefill_any (s : List UInt8) (c : Cfg) (st : Nat) (B R : Nat) (w : World) (h : Rd 89 w B R c (st : Int)) (E : Env w) (_hNG : 8 ≤ B) (hBw : B ≤ w.heap.size) (hs : s.length ≤ 1000000) :
    Calls Tryz.prog 112 #[.pointer (some ⟨R, 0, none⟩), .string (str s)] w fun e w' => RdRes w B R (if st = 9 then (numIn s 1 100).map fun n => ({ c with refill := n }, 10) else none) e w' := by
  obtain ⟨own, ports, hW, hO, hP⟩ := h.is
  have hBR := h.ge
  obtain ⟨o, ho⟩ : ∃ o, (if st = 9 then (numIn s 1 100).map fun n => ({ c with refill := n }, 10) else none : Option (Cfg × Nat)) = o := ⟨_, rfl⟩
  rw [ho]
  have HOO := Lib.hid ho
  clear h ho
  by_cases hk : st = 9
  · subst hk
    have HWH := Lib.hid hW
    have HO := Lib.hid hO
    have HP := Lib.hid hP
    clear hO hP
    go_enter Tryz.func112, Tryz.ntmps112
    go_wp2_with fail
    refine (next_yes R 9 c own ports w hW ⟨by decide, by decide⟩).mono ?_
    rintro e w1 ⟨rfl, h1, hg1⟩
    have E1 := E.below (Nat.le_refl _) (below_grown hg1 E.size hBR)
    have HG1 := Lib.hid hg1
    have H1 := Lib.hid h1
    clear hg1 h1 hW
    go_wp2_with fail
    refine (number_any s 1 100 R 10 89 _ (.int .i64 c.refill) w1 hs (by decide) E1 H1.out rfl hBR).mono ?_
    rintro e w2 ⟨rfl, n, hn, h2, hg2⟩
    have HG2 := Lib.hid (grown_trans HG1.out hg2)
    have H2 := Lib.hid h2
    have HN := Lib.hid hn
    clear h2 hg2 hn
    go_wp2
    go_ret
    have hb := kb_grown HG2.out hBw
    cases hnum : numIn s 1 100 with
    | none => exact RdRes.no (by rw [← HOO.out]; simp [hnum]) rfl hb
    | some v =>
      obtain rfl : n = v := HN.out v hnum
      exact RdRes.yes { c with refill := n } 10 (by rw [← HOO.out]; simp [hnum]) rfl (rd_num HWH.out HO.out HP.out HG2.out H2.out hBR rfl rfl rfl) hb
  · have hk' : ¬ (st : Int) = 9 := by omega
    go_enter Tryz.func112, Tryz.ntmps112
    go_wp2_with (go_at_call 152; refine (next_no R 9 (st : Int) c own ports w hW hk').mono ?_; rintro e w' ⟨rfl, rfl⟩)
    go_ret
    exact RdRes.no (by rw [← HOO.out]; simp [hk]) rfl (Kb.refl _ _ _)
end Go.Proofs.YtfbangojgjcbcaaGreatDoor
namespace Go.Proofs.YtfbangojgjcbcaaGreatDoor
open Go.RowKit Pl
set_option maxRecDepth 100000 in
set_option maxHeartbeats 1000000 in
theorem closed1_any (a n x : Int) (Bx R : Nat) (w : World) (ha : IsAddr a) (hx : IsAddr x) (hb : w.cell? ⟨Bx, 0, none⟩ = some (.pointer (some ⟨R, 0, none⟩))) (hBx : Bx < w.heap.size) (hc : w.cell? ⟨R, 1, none⟩ = some (.int .u32 x)) (hR : R < w.heap.size) :
    Calls Tryz.prog 182 #[.agg #[.int .u32 a, .int .i64 n], .pointer (some ⟨Bx, 0, none⟩)] w fun e w' => e = .returned (.bool (hasP a n x)) ∧ Below w.heap.size w w' := by
  have hb2 : (w.alloc (.cells #[.int .u32 a, .int .i64 n] 86)).cell? ⟨Bx, 0, none⟩ = some (.pointer (some ⟨R, 0, none⟩)) := (World.cell?_alloc_lt _ _ _ hBx).trans hb
  have hc2 : (w.alloc (.cells #[.int .u32 a, .int .i64 n] 86)).cell? ⟨R, 1, none⟩ = some (.int .u32 x) := (World.cell?_alloc_lt _ _ _ hR).trans hc
  have hs1 : Bx < (w.alloc (.cells #[.int .u32 a, .int .i64 n] 86)).heap.size := by simp; omega
  have hs2 : R < (w.alloc (.cells #[.int .u32 a, .int .i64 n] 86)).heap.size := by simp; omega
  clear hb hc
  go_enter Tryz.func182, Tryz.ntmps182
  go_wp2
  refine wp_region_ext (by kernel_rfl) (by kernel_rfl) ?_
  repeat (go_big_quiet_step (first | (go_at_call 72; exact Ext.call (has_any _ _ _ _ ha hx))))
  refine wpQuiet_nil ?_
  rintro _ ⟨y, rfl⟩
  go_wp2
  go_ret
  exact ⟨rfl, (by repeat (first | exact Below.refl _ _ | apply Below.drew | apply Go.below_drewN | apply bel_alloc | apply Ext.lift | apply bel_set0 | apply bel_set))⟩
set_option maxRecDepth 100000 in
set_option maxHeartbeats 1000000 in
theorem closed_any (c : Cfg) (own ports : Value) (st : Int) (B R : Nat) (w : World) (h : Whole w R 89 (rdCells c own ports st)) (hO : w.ownsRow B 86 2 own c.own.length (cells2 .u32 c.own)) (hl : c.own.length ≤ 1000000) (hA : Addrs4 c) :
    Calls Tryz.prog 156 #[.pointer (some ⟨R, 0, none⟩)] w fun e w' => e = .returned (.bool (hasAny c.own c.addr)) ∧ Below w.heap.size w w' := by
  have hR := h.lt
  have h2 := h.alloc (.cells #[.pointer (some ⟨R, 0, none⟩)] 87)
  have c2 : (w.alloc (.cells #[.pointer (some ⟨R, 0, none⟩)] 87)).cell? ⟨R, 2, none⟩ = some own := h2.cell 2
  have hB1 : Below w.heap.size w (w.alloc (.cells #[.pointer (some ⟨R, 0, none⟩)] 87)) := (Below.refl _ _).alloc (Nat.le_refl _) _
  have HC : Hid (Calls Tryz.prog 70 #[own, .func (.func 182) #[] #[.pointer (some ⟨w.heap.size, 0, none⟩)]] (w.alloc (.cells #[.pointer (some ⟨R, 0, none⟩)] 87)) fun e w' => e = .returned (.bool (hasAny c.own c.addr)) ∧ Below (w.alloc (.cells #[.pointer (some ⟨R, 0, none⟩)] 87)).heap.size (w.alloc (.cells #[.pointer (some ⟨R, 0, none⟩)] 87)) w') := Lib.hid (by
    refine containsP_any _ (fun p => hasP p.1 p.2 c.addr) own c.own _ (Rs.own rfl (hO.alloc _)) hl ⟨_, _, rfl, enters_of Tryz.func182 (by kernel_rfl) rfl, fun u hu W hb => ?_⟩
    refine closed1_any u.1 u.2 c.addr w.heap.size R W (hA.2 u hu) hA.1 ?_ (Nat.lt_of_lt_of_le (by simp) hb.size) ?_ (Nat.lt_of_lt_of_le h2.lt hb.size)
    · exact (hb.cell (by simp)).trans (by simp)
    · exact (hb.cell h2.lt).trans (h2.cell 1))
  obtain ⟨A, k, n, rfl⟩ := own_slice hO
  clear h h2
  go_enter Tryz.func156, Tryz.ntmps156
  go_wp2_with (go_at_call 70; refine (ext_of HC.out).mono ?_; rintro e w' ⟨rfl, y, rfl⟩)
  go_ret
  exact ⟨rfl, Ext.lift y hB1⟩
end Go.Proofs.YtfbangojgjcbcaaGreatDoor
namespace Go.Proofs.YtfbangojgjcbcaaGreatDoor
open Go.RowKit Pl
set_option maxRecDepth 100000 in
set_option maxHeartbeats 1000000 in
theorem maddress_any (s : List UInt8) (c : Cfg) (st : Nat) (B R : Nat) (w : World) (h : Rd 89 w B R c (st : Int)) (E : Env w) (_hNG : 8 ≤ B) (hBw : B ≤ w.heap.size) (hs : s.length ≤ 1000000) :
    Calls Tryz.prog 103 #[.pointer (some ⟨R, 0, none⟩), .string (str s)] w fun e w' => RdRes w B R (if st = 1 then (addrOf s).map fun (a : Nat) => ({ c with addr := (a : Int) }, 2) else none) e w' := by
  obtain ⟨own, ports, hW, hO, hP⟩ := h.is
  have hBR := h.ge
  obtain ⟨o, ho⟩ : ∃ o, (if st = 1 then (addrOf s).map fun (a : Nat) => ({ c with addr := (a : Int) }, 2) else none : Option (Cfg × Nat)) = o := ⟨_, rfl⟩
  rw [ho]
  have HOO := Lib.hid ho
  have HWH := Lib.hid hW
  have HO := Lib.hid hO
  have HP := Lib.hid hP
  clear h ho hW hO hP
  cases ha : addrOf s with
  | none =>
    have HN : Hid (o = none) := Lib.hid (by rw [← HOO.out, ha]; simp)
    have HA := Lib.hid ha
    clear ha
    go_enter Tryz.func103, Tryz.ntmps103
    go_wp2_with fail
    refine (addrOf_no s _ hs E HA.out).mono ?_
    rintro e w1 ⟨rfl, hb1⟩
    have h1 := HWH.out.here hb1
    have c1 : w1.cell? ⟨R, 1, none⟩ = some (.int .u32 c.addr) := h1.cell 1
    have f1 := h1.frozen 1
    have H2 : Hid (Whole (w1.setCell ⟨R, 1, none⟩ (.int .u32 0)) R 89 (rdCells { c with addr := 0 } own ports (st : Int))) := Lib.hid (h1.set 1 (.int .u32 0))
    have HG := Lib.hid (grown_trans (grown_below (some R) hb1) (grown_set w1 R 1 (.int .u32 0)))
    clear h1
    by_cases hk : st = 1
    · subst hk
      go_wp2_with fail
      refine (next_yes R 1 _ own ports _ H2.out ⟨by decide, by decide⟩).mono ?_
      rintro e w2 ⟨rfl, _, hg2⟩
      have HG2 := Lib.hid hg2
      clear hg2
      go_wp2
      go_ret
      exact RdRes.no HN.out rfl (kb_grown (grown_trans HG.out HG2.out) hBw)
    · have hk' : ¬ (st : Int) = 1 := by omega
      go_wp2_with (go_at_call 152; refine (next_no R 1 (st : Int) _ own ports _ H2.out hk').mono ?_; rintro e w' ⟨rfl, rfl⟩)
      go_ret
      exact RdRes.no HN.out rfl (kb_grown HG.out hBw)
  | some a =>
    have HN : Hid (o = if st = 1 then some ({ c with addr := (a : Int) }, 2) else none) := Lib.hid (by rw [← HOO.out, ha]; rfl)
    have HA := Lib.hid ha
    clear ha
    go_enter Tryz.func103, Tryz.ntmps103
    go_wp2_with fail
    refine (addrOf_ok s a _ hs E HA.out).mono ?_
    rintro e w1 ⟨rfl, hb1⟩
    have h1 := HWH.out.here hb1
    have c1 : w1.cell? ⟨R, 1, none⟩ = some (.int .u32 c.addr) := h1.cell 1
    have f1 := h1.frozen 1
    have H2 : Hid (Whole (w1.setCell ⟨R, 1, none⟩ (.int .u32 (a : Int))) R 89 (rdCells { c with addr := (a : Int) } own ports (st : Int))) := Lib.hid (h1.set 1 (.int .u32 (a : Int)))
    have HG := Lib.hid (grown_trans (grown_below (some R) hb1) (grown_set w1 R 1 (.int .u32 (a : Int))))
    clear h1
    by_cases hk : st = 1
    · subst hk
      go_wp2_with fail
      refine (next_yes R 1 _ own ports _ H2.out ⟨by decide, by decide⟩).mono ?_
      rintro e w2 ⟨rfl, h3, hg2⟩
      have HG2 := Lib.hid (grown_trans HG.out hg2)
      have H3 := Lib.hid h3
      clear hg2 h3
      go_wp2
      go_ret
      exact RdRes.yes { c with addr := (a : Int) } 2 (by rw [HN.out]; simp) rfl (rd_num HWH.out HO.out HP.out HG2.out H3.out hBR rfl rfl rfl) (kb_grown HG2.out hBw)
    · have hk' : ¬ (st : Int) = 1 := by omega
      go_wp2_with (go_at_call 152; refine (next_no R 1 (st : Int) _ own ports _ H2.out hk').mono ?_; rintro e w' ⟨rfl, rfl⟩)
      go_ret
      exact RdRes.no (by rw [HN.out, if_neg hk]) rfl (kb_grown HG.out hBw)
set_option maxRecDepth 100000 in
set_option maxHeartbeats 1000000 in
theorem mhello_any (s : List UInt8) (c : Cfg) (st : Nat) (B R : Nat) (w : World) (h : Rd 89 w B R c (st : Int)) (E : Env w) (_hNG : 8 ≤ B) (hBw : B ≤ w.heap.size) (hs : s.length ≤ 1000000) (hA : Addrs4 c) (hl : c.own.length ≤ 1000000) :
    Calls Tryz.prog 106 #[.pointer (some ⟨R, 0, none⟩), .string (str s)] w fun e w' => RdRes w B R (if st = 3 ∧ hasAny c.own c.addr = true then (numIn s 1 100).map fun n => ({ c with hello := n }, 4) else none) e w' := by
  obtain ⟨own, ports, hW, hO, hP⟩ := h.is
  have hBR := h.ge
  obtain ⟨o, ho⟩ : ∃ o, (if st = 3 ∧ hasAny c.own c.addr = true then (numIn s 1 100).map fun n => ({ c with hello := n }, 4) else none : Option (Cfg × Nat)) = o := ⟨_, rfl⟩
  rw [ho]
  have HOO := Lib.hid ho
  clear h ho
  by_cases hk : st = 3
  · subst hk
    have HWH := Lib.hid hW
    have HO := Lib.hid hO
    have HP := Lib.hid hP
    clear hO hP
    go_enter Tryz.func106, Tryz.ntmps106
    go_wp2_with fail
    refine (next_yes R 3 c own ports w hW ⟨by decide, by decide⟩).mono ?_
    rintro e w1 ⟨rfl, h1, hg1⟩
    have E1 := E.below (Nat.le_refl _) (below_grown hg1 E.size hBR)
    have HG1 := Lib.hid hg1
    have H1 := Lib.hid h1
    have HO1 := Lib.hid (own_grown HWH.out HO.out (by decide) hg1)
    clear hg1 h1 hW
    cases hany : hasAny c.own c.addr with
    | false =>
      go_wp2_with (go_at_call 156; refine (closed_any c own ports _ B R _ H1.out HO1.out hl hA).mono ?_; rintro e w2 ⟨rfl, hb2⟩; have HB2 := Lib.hid hb2; clear hb2)
      go_ret
      exact RdRes.no (by rw [← HOO.out]; simp [hany]) rfl (kb_grown (grown_trans HG1.out (grown_below _ HB2.out)) hBw)
    | true =>
      go_wp2_with (go_at_call 156; refine (closed_any c own ports _ B R _ H1.out HO1.out hl hA).mono ?_; rintro e w2 ⟨rfl, hb2⟩; have HB2 := Lib.hid hb2; clear hb2)
      have H2 := Lib.hid (H1.out.here HB2.out)
      have E2 := E1.here HB2.out
      refine (number_any s 1 100 R 4 89 _ (.int .i64 c.hello) _ hs (by decide) E2 H2.out rfl hBR).mono ?_
      rintro e w3 ⟨rfl, n, hn, h3, hg3⟩
      have HG3 := Lib.hid (grown_trans (grown_trans HG1.out (grown_below _ HB2.out)) hg3)
      have H3 := Lib.hid h3
      have HN := Lib.hid hn
      clear h3 hg3 hn
      go_wp2
      go_ret
      have hb := kb_grown HG3.out hBw
      cases hnum : numIn s 1 100 with
      | none => exact RdRes.no (by rw [← HOO.out]; simp [hnum]) rfl hb
      | some v =>
        obtain rfl : n = v := HN.out v hnum
        exact RdRes.yes { c with hello := n } 4 (by rw [← HOO.out]; simp [hnum, hany]) rfl (rd_num HWH.out HO.out HP.out HG3.out H3.out hBR rfl rfl rfl) hb
  · have hk' : ¬ (st : Int) = 3 := by omega
    go_enter Tryz.func106, Tryz.ntmps106
    go_wp2_with (go_at_call 152; refine (next_no R 3 (st : Int) c own ports w hW hk').mono ?_; rintro e w' ⟨rfl, rfl⟩)
    go_ret
    exact RdRes.no (by rw [← HOO.out]; simp [hk]) rfl (Kb.refl _ _ _)
end Go.Proofs.YtfbangojgjcbcaaGreatDoor
namespace Go.Proofs.YtfbangojgjcbcaaGreatDoor
open Go.RowKit Pl
theorem number_at (s : List UInt8) (lo : Int) (hi : Nat) (R i : Nat) (t : TypeId) (cs : Array Value) (old : Value) (w : World) (hlo : 0 ≤ lo) (hs : s.length ≤ 1000000) (hh : hi < 1000000000) (E : Env w) (h : Whole w R t cs) (ho : cs[i]? = some old) (hNG : 8 ≤ R) :
    Calls Tryz.prog 153 #[.string (str s), .int .i64 lo, .int .i64 (hi : Int), .pointer (some ⟨R, i, none⟩)] w fun e w' => NumRes w s lo.toNat hi R i t cs e w' := by
  have := number_any s lo.toNat hi R i t cs old w hs hh E h ho hNG
  rwa [Int.toNat_of_nonneg hlo] at this
set_option maxRecDepth 100000 in
set_option maxHeartbeats 1000000 in
theorem mdead_any (s : List UInt8) (c : Cfg) (st : Nat) (B R : Nat) (w : World) (h : Rd 89 w B R c (st : Int)) (E : Env w) (_hNG : 8 ≤ B) (hBw : B ≤ w.heap.size) (hs : s.length ≤ 1000000) (hh : st = 4 → 0 ≤ c.hello ∧ c.hello ≤ 100) :
    Calls Tryz.prog 107 #[.pointer (some ⟨R, 0, none⟩), .string (str s)] w fun e w' => RdRes w B R (if st = 4 then (numIn s (c.hello + 1).toNat 100).map fun n => ({ c with dead := n }, 5) else none) e w' := by
  obtain ⟨own, ports, hW, hO, hP⟩ := h.is
  have hBR := h.ge
  obtain ⟨o, ho⟩ : ∃ o, (if st = 4 then (numIn s (c.hello + 1).toNat 100).map fun n => ({ c with dead := n }, 5) else none : Option (Cfg × Nat)) = o := ⟨_, rfl⟩
  rw [ho]
  have HOO := Lib.hid ho
  clear h ho
  by_cases hk : st = 4
  · obtain ⟨h0, h1⟩ := hh hk
    subst hk
    have HWH := Lib.hid hW
    have HO := Lib.hid hO
    have HP := Lib.hid hP
    clear hO hP hh
    go_enter Tryz.func107, Tryz.ntmps107
    go_wp2
    refine wp_region_front 3 14 (by kernel_rfl) (by kernel_rfl) ?_
    simp only [List.take_succ_cons, List.take_zero, List.drop_succ_cons, List.drop_zero]
    go_wp2_with fail
    refine (next_yes R 4 c own ports w.drew HWH.out.drew ⟨by decide, by decide⟩).mono ?_
    rintro e w1 ⟨rfl, g1, hg1⟩
    have hg1' : w.grownBy w1 (some R) := grownBy_drew hg1
    have E1 := E.below (Nat.le_refl _) (below_grown hg1' E.size hBR)
    have HG1 := Lib.hid hg1'
    have H1 := Lib.hid g1
    have c4 : w1.cell? ⟨R, 4, none⟩ = some (.int .i64 c.hello) := g1.cell 4
    have hR1 := g1.lt
    clear hg1 hg1' g1 hW
    go_wp2_with fail
    refine ⟨fun w' => ∃ x : Ext w1, w' = x.w, ⟨⟨_, Below.refl _ _⟩, rfl⟩, ?_⟩
    have hw1 : IntKind.i64.wrap (c.hello + 1) = c.hello + 1 := by rw [IntKind.wrap_i64]; omega
    repeat (go_big_quiet_step (first | (go_at_call 153; fail)))
    refine wpQuiet_nil ?_
    rintro _ ⟨x, rfl⟩
    clear hw1
    have H2 := Lib.hid (H1.out.here x.below)
    have hlo : 0 ≤ c.hello + 1 := by omega
    go_wp2_with fail
    refine (number_at s (c.hello + 1) 100 R 5 89 _ (.int .i64 c.dead) _ hlo hs (by decide) (E1.here x.below) H2.out rfl hBR).mono ?_
    rintro e w3 ⟨rfl, n, hn, h3, hg3⟩
    have HG3 := Lib.hid (grown_trans (grown_trans HG1.out (grown_below _ x.below)) hg3)
    have H3 := Lib.hid h3
    have HN := Lib.hid hn
    clear h3 hg3 hn
    go_wp2
    go_ret
    have hb := kb_grown HG3.out hBw
    cases hnum : numIn s (c.hello + 1).toNat 100 with
    | none => exact RdRes.no (by rw [← HOO.out]; simp [hnum]) rfl hb
    | some v =>
      obtain rfl : n = v := HN.out v hnum
      exact RdRes.yes { c with dead := n } 5 (by rw [← HOO.out]; simp [hnum]) rfl (rd_num HWH.out HO.out HP.out HG3.out H3.out hBR rfl rfl rfl) hb
  · have hk' : ¬ (st : Int) = 4 := by omega
    go_enter Tryz.func107, Tryz.ntmps107
    go_wp2
    refine wp_region_front 3 14 (by kernel_rfl) (by kernel_rfl) ?_
    simp only [List.take_succ_cons, List.take_zero, List.drop_succ_cons, List.drop_zero]
    go_wp2_with fail
    refine (next_no R 4 (st : Int) c own ports w.drew hW.drew hk').mono ?_
    rintro e w1 ⟨rfl, rfl⟩
    go_wp2_with fail
    refine ⟨fun w' => ∃ x : Ext w.drew, w' = x.w, ⟨⟨_, Below.refl _ _⟩, rfl⟩, ?_⟩
    repeat (go_big_quiet_step (first | (go_at_call 153; fail)))
    refine wpQuiet_nil ?_
    rintro _ ⟨x, rfl⟩
    go_wp2
    go_ret
    exact RdRes.no (by rw [← HOO.out]; simp [hk]) rfl (Kb.of_below ((below_undrew x.below).mono hBw))
end Go.Proofs.YtfbangojgjcbcaaGreatDoor
namespace Go.Proofs.YtfbangojgjcbcaaGreatDoor
open Go.RowKit Pl
theorem rows_apart {w : World} {base base' size size' n n' : Nat} {e e' : TypeId} {v v' : Value} {xs xs' : List Value} (h : w.ownsRow base e size v n xs) (h' : w.ownsRow base' e' size' v' n' xs') (hne : e ≠ e') : v'.ownBlock = none ∨ v'.ownBlock ≠ v.ownBlock := by
  rcases h'.2 with ⟨rfl, _⟩ | ⟨g', cap', cur', rfl, _, hh', _⟩
  · exact .inl rfl
  · right
    rcases h.2 with ⟨rfl, _⟩ | ⟨g, cap, cur, rfl, _, hh, _⟩
    · simp [Value.ownBlock]
    · intro he
      have : g' = g := by simpa [Value.ownBlock] using he
      subst this
      rw [hh] at hh'
      injection hh' with hh'
      injection hh' with _ ht
      exact hne ht
theorem own_slice_n {w : World} {base : Nat} {e : TypeId} {size n : Nat} {v : Value} {xs : List Value} (h : w.ownsRow base e size v n xs) : ∃ A k, v = .slice A n k := by
  rcases h.2 with ⟨rfl, rfl⟩ | ⟨g, cap, cur, rfl, _⟩
  · exact ⟨_, _, rfl⟩
  · exact ⟨_, _, rfl⟩
theorem fst_ptr {base : Nat} {l : List Pr} {e : Ending} {w' : World} (h : OwnRes base l e w') : ∃ q, e = .returned (.tuple #[.pointer q, .bool (ownOk l)]) := by
  rcases h with ⟨h1, q, h2⟩ | ⟨h1, T, _, h2, _⟩
  · exact ⟨q, by rw [h1]; exact h2⟩
  · exact ⟨_, by rw [h1]; exact h2⟩
/-- What own gives, the prefix being read. -/
def ownStep (c : Cfg) (st : Nat) (pa pn ee : Int) : Option (Cfg × Nat) :=
  if (st = 2 ∨ (st = 3 ∧ c.ports = [])) ∧ ee = 0 ∧ ownOk (c.own ++ [(pa, pn)]) = true then some ({ c with own := c.own ++ [(pa, pn)] }, 3) else none
set_option maxRecDepth 100000 in
set_option maxHeartbeats 4000000 in
theorem own_core (s : List UInt8) (c : Cfg) (st : Nat) (B R : Nat) (pa pn ee : Int) (w : World) (h : Rd 89 w B R c (st : Int)) (E : Env w) (hNG : 8 ≤ B) (hBw : B ≤ w.heap.size) (hl : c.own.length ≤ 8) (_hl2 : c.ports.length ≤ 8) (hA : Addrs4 c) (hpa : IsAddr pa) (hee : ee = 0 ∨ ee = 4)
    (hPF : Calls Tryz.prog 155 #[.string (str s)] w fun e w' => e = .returned (.tuple #[.agg #[.int .u32 pa, .int .i64 pn], .int .i64 ee]) ∧ Below w.heap.size w w') :
    Calls Tryz.prog 104 #[.pointer (some ⟨R, 0, none⟩), .string (str s)] w fun e w' => RdRes w B R (ownStep c st pa pn ee) e w' := by
  obtain ⟨own, ports, hW, hO, hP⟩ := h.is
  have hBR := h.ge
  have HPF := Lib.hid hPF
  have HWH := Lib.hid hW
  have HO := Lib.hid hO
  have HP := Lib.hid hP
  have HA := Lib.hid hA
  have HEE := Lib.hid hee
  clear h hW hO hP hPF hA hee
  obtain ⟨o, ho⟩ : ∃ o, ownStep c st pa pn ee = o := ⟨_, rfl⟩
  rw [ho]
  have HOO := Lib.hid ho
  clear ho
  go_enter Tryz.func104, Tryz.ntmps104
  go_wp2_with fail
  refine HPF.out.mono ?_
  rintro e w1 ⟨rfl, hb1⟩
  have h1 := HWH.out.here hb1
  have hO1 := own_below HO.out hb1
  have HP1 := Lib.hid (own_below HP.out hb1)
  have HB1 := Lib.hid hb1
  have c2 : (w1.alloc (.cells #[.int .u32 pa, .int .i64 pn] 86)).cell? ⟨R, 2, none⟩ = some own := (h1.alloc _).cell 2
  have HW1 := Lib.hid h1
  have hR1 := h1.lt
  have hsz := hb1.size
  have hno := h1.notRow hO1 (by decide)
  obtain ⟨i0, hi0, hz0, hz1, hz2⟩ := info_parts info_P
  have hnew : ((w1.alloc (.cells #[.int .u32 pa, .int .i64 pn] 86)).alloc (.cells #[.int .u32 pa, .int .i64 pn] 86)).drew.heap[w1.heap.size + 1]? = some (.cells #[.int .u32 pa, .int .i64 pn] 86 (0, 0)) := by
    have : ((w1.alloc (.cells #[.int .u32 pa, .int .i64 pn] 86)).alloc (.cells #[.int .u32 pa, .int .i64 pn] 86)).heap[w1.heap.size + 1]? = some (.cells #[.int .u32 pa, .int .i64 pn] 86 (0, 0)) := by
      have := heap_alloc_new (w1.alloc (.cells #[.int .u32 pa, .int .i64 pn] 86)) (.cells #[.int .u32 pa, .int .i64 pn] 86)
      simpa using this
    exact this
  have hne2 : own.ownBlock ≠ some w1.heap.size := fun e => by have := (hO1.lt _ e).2; omega
  have HPW : Hid (Whole ((w1.alloc (.cells #[.int .u32 pa, .int .i64 pn] 86)).alloc (.cells #[.int .u32 pa, .int .i64 pn] 86)).drew w1.heap.size 86 #[.int .u32 pa, .int .i64 pn]) := Lib.hid ((Whole.new w1 _ _).alloc _).drew
  clear h1 hb1
  go_upto_region 2 with fail
  go_region_law
    ((refine step_append_lies _ (by rfl) _ _ _ (by rfl) B 86 i0 _ 2 16 Tryz.underlying25 hi0 hz0 hz1 hz2 rfl (by omega) _ c.own.length _ (by rfl) (((hO1.alloc _).alloc _).drew)
        ⟨w1.heap.size + 1, 0, none⟩ 1 1 [.int .u32 pa, .int .i64 pn] (by rfl) (by rfl) (World.news_of_block (cs := #[.int .u32 pa, .int .i64 pn]) (t := 86) (fr := (0, 0)) hnew) (by simp [Value.oneCell'])
        (by omega) (by unfold maxLen; omega) (by omega) (by simp; omega) (w1.heap.size + 1 + 1) (by simp) ?_; intro gg cap w2 hown2 hgrow hat hlt2; have hW2 := (((HW1.out.alloc _).alloc _).drew).kept hgrow (Ne.symm hno); have c22 : w2.cell? ⟨R, 2, none⟩ = some own := hW2.cell 2; have f22 := hW2.frozen 2; have p20 : w2.cell? ⟨w1.heap.size, 0, none⟩ = some (.int .u32 pa) := (HPW.out.kept hgrow (Ne.symm hne2)).cell 0; have p21 : w2.cell? ⟨w1.heap.size, 1, none⟩ = some (.int .i64 pn) := (HPW.out.kept hgrow (Ne.symm hne2)).cell 1))
  all_goals
    have HW3 : Hid (Whole (w2.setCell ⟨R, 2, none⟩ (.slice (some ⟨gg, 0, none⟩) (c.own.length + 1) cap)) R 89 (rdCells { c with own := c.own ++ [(pa, pn)] } (.slice (some ⟨gg, 0, none⟩) (c.own.length + 1) cap) ports (st : Int))) := Lib.hid (hW2.set 2 _)
    have hg3 := grown_set w2 R 2 (.slice (some ⟨gg, 0, none⟩) (c.own.length + 1) cap)
    have HO3 : Hid ((w2.setCell ⟨R, 2, none⟩ (.slice (some ⟨gg, 0, none⟩) (c.own.length + 1) cap)).ownsRow B 86 2 (.slice (some ⟨gg, 0, none⟩) (c.own.length + 1) cap) (c.own ++ [(pa, pn)]).length (cells2 .u32 (c.own ++ [(pa, pn)]))) := Lib.hid (by rw [cells2_snoc, List.length_append]; exact own_grown hW2 hown2 (by decide) hg3)
    have HP3 : Hid ((w2.setCell ⟨R, 2, none⟩ (.slice (some ⟨gg, 0, none⟩) (c.own.length + 1) cap)).ownsRow B 101 2 ports c.ports.length (cells2 .i64 c.ports)) := Lib.hid (own_grown hW2 ((((HP1.out.alloc _).alloc _).drew).kept hgrow (rows_apart hO1 HP1.out (by decide))) (by decide) hg3)
    have HB3 : Hid (Kb B R w (w2.setCell ⟨R, 2, none⟩ (.slice (some ⟨gg, 0, none⟩) (c.own.length + 1) cap))) := Lib.hid (by
      have hx : Below B w1 w2 := (((Below.refl _ w1).alloc (by omega) _).alloc (by simp; omega) _).drew.grown hgrow (by simp; omega) fun g hg => (hO1.lt g hg).1
      exact (Kb.of_below ((HB1.out.mono hBw).trans hx)).set 2 _ (Nat.le_trans hBw (Nat.le_trans hsz hx.size)))
    generalize w2.setCell ⟨R, 2, none⟩ (.slice (some ⟨gg, 0, none⟩) (c.own.length + 1) cap) = W3 at *
    have E3 := E.below (Nat.le_refl _) (HB3.out.below hNG hBR)
    have hl9 : (c.own ++ [(pa, pn)]).length ≤ 1000000 := by simp; omega
    have HAA : Hid (AddrsOk (c.own ++ [(pa, pn)])) := Lib.hid (fun p hp => by
      rcases List.mem_append.1 hp with h | h
      · exact HA.out.2 p h
      · have : p = (pa, pn) := by simpa using h
        subst this; exact hpa)
    have c23 : W3.cell? ⟨R, 2, none⟩ = some (.slice (some ⟨gg, 0, none⟩) (c.own.length + 1) cap) := HW3.out.cell 2
    clear hown2 hgrow hat hlt2 hW2 c22 f22 p20 p21 hg3 hO1 HP1 HB1 c2 HW1 hno hne2 HPW hnew hi0 hz0 hz1 hz2
    go_wp2_with fail
    refine (owned_any _ (c.own ++ [(pa, pn)]) W3 (Rs.own rfl HO3.out) hl9 HAA.out).mono ?_
    rintro e w4 ⟨hres, hb4⟩
    obtain ⟨q, rfl⟩ := fst_ptr hres
    have HW4 := Lib.hid (HW3.out.here hb4)
    have HO4 := Lib.hid (own_below HO3.out hb4)
    have HP4 := Lib.hid (own_below HP3.out hb4)
    have HB4 := Lib.hid (HB3.out.trans (Kb.of_below (hb4.mono (Nat.le_trans hBw HB3.out.size))))
    have c11 : w4.cell? ⟨R, 11, none⟩ = some (.int .i64 (st : Int)) := HW4.out.cell 11
    have c3 : w4.cell? ⟨R, 3, none⟩ = some ports := HW4.out.cell 3
    have f11 := HW4.out.frozen 11
    clear hres hb4
    have HD : Hid (∀ k : Int, (k : Int) ≠ st → ((st : Int) == k) = false) := Lib.hid (fun k h => beq_eq_false_iff_ne.2 (fun e => h e.symm))
    by_cases h2 : st = 2
    · subst h2
      go_wp2_with fail
      refine (next_yes R 2 _ _ ports _ HW4.out ⟨by decide, by decide⟩).mono ?_
      rintro e w5 ⟨rfl, h5, hg5⟩
      have HG5 := Lib.hid hg5
      have H5 := Lib.hid h5
      clear h5 hg5
      rcases HEE.out with rfl | rfl
      · go_wp2
        go_ret
        have hb := HB4.out.trans (kb_grown HG5.out (Nat.le_trans hBw HB4.out.size))
        cases hok : ownOk (c.own ++ [(pa, pn)]) with
        | false => exact RdRes.no (by rw [← HOO.out]; simp [ownStep, hok]) (by rfl) hb
        | true => exact RdRes.yes { c with own := c.own ++ [(pa, pn)] } 3 (by rw [← HOO.out]; simp [ownStep, hok]) (by rfl) (rd_num HW4.out HO4.out HP4.out HG5.out H5.out hBR rfl rfl rfl) hb
      · go_wp2
        go_ret
        exact RdRes.no (by rw [← HOO.out]; simp [ownStep]) rfl (HB4.out.trans (kb_grown HG5.out (Nat.le_trans hBw HB4.out.size)))
    · by_cases h3 : st = 3
      · subst h3
        obtain ⟨A3, k3, rfl⟩ := own_slice_n HP4.out
        by_cases hpe : c.ports = []
        · have hpl : ((c.ports.length : Int) == 0) = true := by rw [hpe]; rfl
          have HPE := Lib.hid hpe
          clear hpe
          go_wp2_with fail
          have HG6 := Lib.hid (grown_set w4 R 11 (.int .i64 2))
          have HW6 : Hid (Whole (w4.setCell ⟨R, 11, none⟩ (.int .i64 2)) R 89 (rdCells { c with own := c.own ++ [(pa, pn)] } (.slice (some ⟨gg, 0, none⟩) (c.own.length + 1) cap) (.slice A3 c.ports.length k3) 2)) := Lib.hid (HW4.out.set 11 _)
          refine (next_yes R 2 _ _ _ _ HW6.out ⟨by decide, by decide⟩).mono ?_
          rintro e w5 ⟨rfl, h5, hg5⟩
          have HG5 := Lib.hid (grown_trans HG6.out hg5)
          have H5 := Lib.hid h5
          clear h5 hg5
          rcases HEE.out with rfl | rfl
          · go_wp2
            go_ret
            have hb := HB4.out.trans (kb_grown HG5.out (Nat.le_trans hBw HB4.out.size))
            cases hok : ownOk (c.own ++ [(pa, pn)]) with
            | false => exact RdRes.no (by rw [← HOO.out]; simp [ownStep, hok]) (by rfl) hb
            | true => exact RdRes.yes { c with own := c.own ++ [(pa, pn)] } 3 (by rw [← HOO.out]; simp [ownStep, hok, HPE.out]) (by rfl) (rd_num HW4.out HO4.out HP4.out HG5.out H5.out hBR rfl rfl rfl) hb
          · go_wp2
            go_ret
            exact RdRes.no (by rw [← HOO.out]; simp [ownStep]) rfl (HB4.out.trans (kb_grown HG5.out (Nat.le_trans hBw HB4.out.size)))
        · have hpl : ((c.ports.length : Int) == 0) = false := beq_eq_false_iff_ne.2 (fun e => hpe (List.eq_nil_of_length_eq_zero (by omega)))
          have HPE := Lib.hid hpe
          clear hpe
          go_wp2_with (go_at_call 152; refine (next_no R 2 3 _ _ _ _ HW4.out (by decide)).mono ?_; rintro e w' ⟨rfl, rfl⟩)
          go_ret
          exact RdRes.no (by rw [← HOO.out]; simp [ownStep, HPE.out]) rfl HB4.out
      · have hd3 : ((st : Int) == 3) = false := HD.out 3 (fun e => h3 (by omega))
        have hne2' : ¬ (st : Int) = 2 := by omega
        go_wp2_with (go_at_call 152; refine (next_no R 2 (st : Int) _ _ _ _ HW4.out hne2').mono ?_; rintro e w' ⟨rfl, rfl⟩)
        go_ret
        exact RdRes.no (by rw [← HOO.out]; simp [ownStep, h2, h3]) rfl HB4.out
end Go.Proofs.YtfbangojgjcbcaaGreatDoor
namespace Go.Proofs.YtfbangojgjcbcaaGreatDoor
open Go.RowKit Pl
theorem mown_any (s : List UInt8) (c : Cfg) (st : Nat) (B R : Nat) (w : World) (h : Rd 89 w B R c (st : Int)) (E : Env w) (hNG : 8 ≤ B) (hBw : B ≤ w.heap.size) (hs : s.length ≤ 1000000) (hA : Addrs4 c) (hl : c.own.length ≤ 8) (hl2 : c.ports.length ≤ 8) :
    Calls Tryz.prog 104 #[.pointer (some ⟨R, 0, none⟩), .string (str s)] w fun e w' => RdRes w B R (if st = 2 ∨ (st = 3 ∧ c.ports = []) then (match prefixOf s with
      | some (a, n) => if ownOk (c.own ++ [((a : Int), (n : Int))]) = true then some ({ c with own := c.own ++ [((a : Int), (n : Int))] }, 3) else none
      | none => none) else none) e w' := by
  have hp := prefixOf_any s w hs E
  unfold prefixRes at hp
  cases hq : prefixOf s with
  | none =>
    rw [hq] at hp
    have := own_core s c st B R 0 0 4 w h E hNG hBw hl hl2 hA ⟨by decide, by decide⟩ (.inr rfl) hp
    have e : ownStep c st 0 0 4 = none := by simp [ownStep]
    rw [e] at this
    simp only [ite_self]
    exact this
  | some q =>
    obtain ⟨a, n⟩ := q
    rw [hq] at hp
    have ha := (prefixOf_some s a n hq).2.1
    have := own_core s c st B R a n 0 w h E hNG hBw hl hl2 hA ⟨by omega, by omega⟩ (.inl rfl) hp
    have e : ownStep c st a n 0 = (if st = 2 ∨ (st = 3 ∧ c.ports = []) then (if ownOk (c.own ++ [((a : Int), (n : Int))]) = true then some ({ c with own := c.own ++ [((a : Int), (n : Int))] }, 3) else none) else none) := by
      unfold ownStep
      by_cases h1 : st = 2 ∨ (st = 3 ∧ c.ports = [])
      · rw [if_pos h1]
        by_cases h2 : ownOk (c.own ++ [((a : Int), (n : Int))]) = true
        · rw [if_pos h2, if_pos ⟨h1, rfl, h2⟩]
        · rw [if_neg h2, if_neg (fun k => h2 k.2.2)]
      · rw [if_neg h1, if_neg (fun k => h1 k.1)]
    rw [e] at this
    exact this
set_option maxRecDepth 100000 in
set_option maxHeartbeats 4000000 in
theorem mport_any (s : List UInt8) (c : Cfg) (st : Nat) (B R : Nat) (w : World) (h : Rd 89 w B R c (st : Int)) (E : Env w) (_hNG : 8 ≤ B) (hBw : B ≤ w.heap.size) (hs : s.length ≤ 1000000) (hA : Addrs4 c) (hl : c.own.length ≤ 8) (hl2 : c.ports.length ≤ 8) :
    Calls Tryz.prog 105 #[.pointer (some ⟨R, 0, none⟩), .string (str s)] w fun e w' => RdRes w B R (if st = 3 ∧ hasAny c.own c.addr = true ∧ c.ports.length + 1 ≤ 8 then (portIn s).map fun p => ({ c with ports := c.ports ++ [p] }, 3) else none) e w' := by
  obtain ⟨own, ports, hW, hO, hP⟩ := h.is
  have hBR := h.ge
  obtain ⟨o, ho⟩ : ∃ o, (if st = 3 ∧ hasAny c.own c.addr = true ∧ c.ports.length + 1 ≤ 8 then (portIn s).map fun p => ({ c with ports := c.ports ++ [p] }, 3) else none : Option (Cfg × Nat)) = o := ⟨_, rfl⟩
  rw [ho]
  have HOO := Lib.hid ho
  have HWH := Lib.hid hW
  have HO := Lib.hid hO
  have HP := Lib.hid hP
  have HA := Lib.hid hA
  have HPI := Lib.hid (portIn_cut s)
  have hcl := cut_len 32 s
  have hNR : 8 ≤ R := hBR
  clear h ho hW hO hP hA
  go_enter Tryz.func105, Tryz.ntmps105
  go_wp2_with fail
  refine (cut_any 32 s _ hs E).mono ?_
  rintro e w1 ⟨⟨f, rfl⟩, hb1⟩
  have E1 := E.here hb1
  have E2 := E1.alloc (.cells #[.int .i64 0, .int .i64 0] 101)
  have hsz := hb1.size
  have HB1 := Lib.hid hb1
  have hR1 : R < w1.heap.size := Nat.lt_of_lt_of_le HWH.out.lt hsz
  clear hb1
  go_upto_region 3 with fail
  go_cut [9] (fun s9 wx => ∃ n1 n2 : Int, s9 = .bool (portIn s).isSome ∧ Hid (∀ p, portIn s = some p → p = (n1, n2)) ∧ Hid (Whole wx w1.heap.size 101 #[.int .i64 n1, .int .i64 n2]) ∧ Hid (Below w.heap.size w wx))
  case first =>
    go_wp2_with fail
    refine (number_any (cutA 32 s) 1 50 w1.heap.size 0 101 #[.int .i64 0, .int .i64 0] (.int .i64 0) _ (by omega) (by decide) E2 (Whole.new _ _ _) rfl (Nat.le_trans E1.size (Nat.le_refl _))).mono ?_
    rintro e w2 ⟨rfl, n, hn, h2, hg2⟩
    have HG2 := Lib.hid (below_grown hg2 (B := w.heap.size) (by simp; omega) (by omega))
    have H2 := Lib.hid h2
    have HN := Lib.hid hn
    have HB2 : Hid (Below w.heap.size w w2) := Lib.hid ((HB1.out.alloc hsz _).trans HG2.out)
    have hs2 := hg2.size
    simp only [World.size_alloc] at hs2
    clear h2 hg2 hn HG2
    cases hA1 : numIn (cutA 32 s) 1 50 with
    | none =>
      have HF : Hid (portIn s = none) := Lib.hid (by rw [HPI.out, hA1])
      clear hA1
      go_wp2
      go_meet
      exact ⟨n, 0, by rw [HF.out]; rfl, Lib.hid (fun p hp => by rw [HF.out] at hp; cases hp), H2, HB2⟩
    | some v =>
      obtain rfl : n = v := HN.out v hA1
      have HF : Hid (portIn s = (numIn (cutB 32 s) 68 1500).map fun m => (n, m)) := Lib.hid (by rw [HPI.out, hA1]; cases numIn (cutB 32 s) 68 1500 <;> rfl)
      have E3 := E.here HB2.out
      clear hA1
      go_wp2_with fail
      refine (number_any (cutB 32 s) 68 1500 w1.heap.size 1 101 _ (.int .i64 0) w2 (by omega) (by decide) E3 H2.out rfl E1.size).mono ?_
      rintro e w3 ⟨rfl, m, hm, h3, hg3⟩
      have HB3 : Hid (Below w.heap.size w w3) := Lib.hid (HB2.out.trans (below_grown hg3 HB2.out.size hsz))
      have H3 := Lib.hid h3
      have HM := Lib.hid hm
      clear h3 hg3 hm
      go_wp2
      go_meet
      refine ⟨n, m, ?_, Lib.hid (fun p hp => ?_), H3, HB3⟩
      · rw [HF.out]; cases numIn (cutB 32 s) 68 1500 <;> rfl
      · rw [HF.out] at hp
        cases hb : numIn (cutB 32 s) 68 1500 with
        | none => rw [hb] at hp; cases hp
        | some v2 =>
          rw [hb] at hp
          have := HM.out v2 hb
          subst this
          injection hp with hp
          exact hp.symm
  case rest =>
    obtain ⟨n1, n2, rfl, HPP, HK, HBx⟩ := hcut
    have hsx := HBx.out.size
    have hW1 := HWH.out.here HBx.out
    have hO1 := own_below HO.out HBx.out
    have hP1 := own_below HP.out HBx.out
    have HO1 := Lib.hid hO1
    have k0 : wc.cell? ⟨w1.heap.size, 0, none⟩ = some (.int .i64 n1) := HK.out.cell 0
    have k1 : wc.cell? ⟨w1.heap.size, 1, none⟩ = some (.int .i64 n2) := HK.out.cell 1
    have hkl := HK.out.lt
    have c3 : wc.cell? ⟨R, 3, none⟩ = some ports := hW1.cell 3
    have HW1 := Lib.hid hW1
    have hR2 := hW1.lt
    have hno := hW1.notRow hP1 (by decide)
    obtain ⟨i0, hi0, hz0, hz1, hz2⟩ := info_parts info_O
    have hnew : (wc.alloc (.cells #[.int .i64 n1, .int .i64 n2] 101)).drew.heap[wc.heap.size]? = some (.cells #[.int .i64 n1, .int .i64 n2] 101 (0, 0)) := heap_alloc_new wc _
    clear hW1 hO1
    go_upto_region 4 with fail
    go_region_law
      ((refine step_append_lies _ (by rfl) _ _ _ (by rfl) B 101 i0 _ 2 16 Tryz.underlying26 hi0 hz0 hz1 hz2 rfl (by omega) _ c.ports.length _ (by rfl) ((hP1.alloc _).drew)
            ⟨wc.heap.size, 0, none⟩ 1 1 [.int .i64 n1, .int .i64 n2] (by rfl) (by rfl) (World.news_of_block (cs := #[.int .i64 n1, .int .i64 n2]) (t := 101) (fr := (0, 0)) hnew) (by simp [Value.oneCell'])
            (by omega) (by unfold maxLen; omega) (by omega) (by simp; omega) (wc.heap.size + 1) (by simp) ?_; intro gg cap w2 hown2 hgrow hat hlt2; have hW2 := ((HW1.out.alloc _).drew).kept hgrow (Ne.symm hno); have c22 : w2.cell? ⟨R, 3, none⟩ = some ports := hW2.cell 3; have f22 := hW2.frozen 3))
    all_goals
      have HW3 : Hid (Whole (w2.setCell ⟨R, 3, none⟩ (.slice (some ⟨gg, 0, none⟩) (c.ports.length + 1) cap)) R 89 (rdCells { c with ports := c.ports ++ [(n1, n2)] } own (.slice (some ⟨gg, 0, none⟩) (c.ports.length + 1) cap) (st : Int))) := Lib.hid (hW2.set 3 _)
      have hg3 := grown_set w2 R 3 (.slice (some ⟨gg, 0, none⟩) (c.ports.length + 1) cap)
      have HP3 : Hid ((w2.setCell ⟨R, 3, none⟩ (.slice (some ⟨gg, 0, none⟩) (c.ports.length + 1) cap)).ownsRow B 101 2 (.slice (some ⟨gg, 0, none⟩) (c.ports.length + 1) cap) (c.ports ++ [(n1, n2)]).length (cells2 .i64 (c.ports ++ [(n1, n2)]))) := Lib.hid (by rw [cells2_snoc, List.length_append]; exact own_grown hW2 hown2 (by decide) hg3)
      have HO3 : Hid ((w2.setCell ⟨R, 3, none⟩ (.slice (some ⟨gg, 0, none⟩) (c.ports.length + 1) cap)).ownsRow B 86 2 own c.own.length (cells2 .u32 c.own)) := Lib.hid (own_grown hW2 (((HO1.out.alloc _).drew).kept hgrow (rows_apart hP1 HO1.out (by decide))) (by decide) hg3)
      have HB3 : Hid (Kb B R w (w2.setCell ⟨R, 3, none⟩ (.slice (some ⟨gg, 0, none⟩) (c.ports.length + 1) cap))) := Lib.hid (by
        have hx : Below B wc w2 := ((Below.refl _ wc).alloc (by omega) _).drew.grown hgrow (by simp; omega) fun g hg => (hP1.lt g hg).1
        exact (Kb.of_below ((HBx.out.mono hBw).trans hx)).set 3 _ (Nat.le_trans hBw (Nat.le_trans hsx hx.size)))
      generalize w2.setCell ⟨R, 3, none⟩ (.slice (some ⟨gg, 0, none⟩) (c.ports.length + 1) cap) = W3 at *
      have c11 : W3.cell? ⟨R, 11, none⟩ = some (.int .i64 (st : Int)) := HW3.out.cell 11
      clear hown2 hgrow hat hlt2 hW2 c22 f22 hg3 hP1 c3 HW1 hno hnew hi0 hz0 hz1 hz2 k0 k1 hkl
      by_cases h3 : st = 3
      · subst h3
        cases hany : hasAny c.own c.addr with
        | false =>
          go_wp2_with (go_at_call 156; refine (closed_any _ own _ _ B R _ HW3.out HO3.out (Nat.le_trans hl (by decide)) HA.out).mono ?_; rintro e w4 ⟨rfl, hb4⟩; have HB4 := Lib.hid hb4; clear hb4)
          go_ret
          exact RdRes.no (by rw [← HOO.out]; simp [hany]) rfl (HB3.out.trans (Kb.of_below (HB4.out.mono (Nat.le_trans hBw HB3.out.size))))
        | true =>
          cases hpp : portIn s with
          | none =>
            go_wp2_with (go_at_call 156; refine (closed_any _ own _ _ B R _ HW3.out HO3.out (Nat.le_trans hl (by decide)) HA.out).mono ?_; rintro e w4 ⟨rfl, hb4⟩; have HB4 := Lib.hid hb4; have H4 := Lib.hid (HW3.out.here hb4); have c43 : w4.cell? ⟨R, 3, none⟩ = some (.slice (some ⟨gg, 0, none⟩) (c.ports.length + 1) cap) := H4.out.cell 3; clear hb4)
            go_ret
            exact RdRes.no (by rw [← HOO.out]; simp [hpp]) rfl (HB3.out.trans (Kb.of_below (HB4.out.mono (Nat.le_trans hBw HB3.out.size))))
          | some p =>
            obtain rfl : p = (n1, n2) := HPP.out p hpp
            by_cases h8 : c.ports.length + 1 ≤ 8
            · have d8 : decide ((c.ports.length : Int) + 1 ≤ 8) = true := decide_eq_true (by omega)
              go_wp2_with (go_at_call 156; refine (closed_any _ own _ _ B R _ HW3.out HO3.out (Nat.le_trans hl (by decide)) HA.out).mono ?_; rintro e w4 ⟨rfl, hb4⟩; have HB4 := Lib.hid hb4; have H4 := Lib.hid (HW3.out.here hb4); have c43 : w4.cell? ⟨R, 3, none⟩ = some (.slice (some ⟨gg, 0, none⟩) (c.ports.length + 1) cap) := H4.out.cell 3; clear hb4)
              go_ret
              exact RdRes.yes { c with ports := c.ports ++ [(n1, n2)] } 3 (by rw [← HOO.out]; simp [hpp, hany]; omega) rfl ⟨hBR, own, _, H4.out, own_below HO3.out HB4.out, own_below HP3.out HB4.out⟩ (HB3.out.trans (Kb.of_below (HB4.out.mono (Nat.le_trans hBw HB3.out.size))))
            · have d8 : decide ((c.ports.length : Int) + 1 ≤ 8) = false := decide_eq_false (by omega)
              go_wp2_with (go_at_call 156; refine (closed_any _ own _ _ B R _ HW3.out HO3.out (Nat.le_trans hl (by decide)) HA.out).mono ?_; rintro e w4 ⟨rfl, hb4⟩; have HB4 := Lib.hid hb4; have H4 := Lib.hid (HW3.out.here hb4); have c43 : w4.cell? ⟨R, 3, none⟩ = some (.slice (some ⟨gg, 0, none⟩) (c.ports.length + 1) cap) := H4.out.cell 3; clear hb4)
              go_ret
              exact RdRes.no (by rw [← HOO.out, if_neg (fun k => h8 k.2.2)]) rfl (HB3.out.trans (Kb.of_below (HB4.out.mono (Nat.le_trans hBw HB3.out.size))))
      · have hd3 : ((st : Int) == 3) = false := beq_eq_false_iff_ne.2 (by omega)
        go_wp2
        go_ret
        exact RdRes.no (by rw [← HOO.out]; simp [h3]) rfl HB3.out
end Go.Proofs.YtfbangojgjcbcaaGreatDoor
namespace Go.Proofs.YtfbangojgjcbcaaGreatDoor
open Go.RowKit Pl
def wEnt (k : ByteArray) (f n : Nat) : MapEntry := ⟨.string k, .func (.func f) #[] #[], n⟩
theorem put_word {w : World} {g : Nat} {es : Array MapEntry} {clock : Nat} (k : ByteArray) (f : Nat) (hb : w.heap[g]? = some (.map es clock)) (hn : Instr.findNow .string (.string k) es.toList 0 = some none) :
    ∃ W', (Instr.mapUpdate 90 (.map (some g)) (.string k) (.func (.func f) #[] #[])).run Tryz.prog w = .ok () W' ∧ W'.heap[g]? = some (.map (es.push (wEnt k f clock)) (clock + 1)) ∧ ∀ B, B ≤ g → Below B w W' := by
  have hlt : g < w.heap.size := (Array.getElem?_eq_some_iff.1 hb).1
  refine ⟨{ w with heap := w.heap.setIfInBounds g (.map (es.push (wEnt k f clock)) (clock + 1)) }, ?_, (MapKept.heap_set hb).1, fun B hB => ⟨rfl, rfl, rfl, by simp, fun i hi => (MapKept.heap_set hb).2 i (by omega)⟩⟩
  simp [Instr.mapUpdate, run_underlying Tryz.underlying90, MapKept.run_getObj_map hb, MapKept.run_checkKey Tryz.underlying9 (show MapKept.IsKey .string (.string k) from trivial), MapKept.run_findKey Tryz.underlying9 hn, MapKept.run_setObj_map _ hb, Result.andThen, wEnt]
/-- The words and their methods. -/
def wordsL : List (List UInt8 × Nat) := [(wNode, 102), (wAddress, 103), (wOwn, 104), (wPort, 105), (wHello, 106), (wDead, 107), (wAgain, 108), (wRoom, 109), (wQueue, 110), (wTokens, 111), (wRefill, 112)]
def wordsE : Array MapEntry := #[wEnt (str wNode) 102 0, wEnt (str wAddress) 103 1, wEnt (str wOwn) 104 2, wEnt (str wPort) 105 3, wEnt (str wHello) 106 4, wEnt (str wDead) 107 5, wEnt (str wAgain) 108 6, wEnt (str wRoom) 109 7, wEnt (str wQueue) 110 8, wEnt (str wTokens) 111 9, wEnt (str wRefill) 112 10]
def IsWords (w : World) (g : Nat) : Prop := w.heap[g]? = some (.map wordsE 11)
theorem IsWords.grown {w w' : World} {g R : Nat} (h : IsWords w g) (hw : w.grownBy w' (some R)) (hne : g ≠ R) : IsWords w' g := (hw.block g (Array.getElem?_eq_some_iff.1 h).1 (by simpa using hne)).trans h
theorem IsWords.below {w w' : World} {g B : Nat} (h : IsWords w g) (hw : Below B w w') (hg : g < B) : IsWords w' g := (hw.block g hg).trans h
set_option maxRecDepth 100000 in
set_option maxHeartbeats 1000000 in
theorem words_any (w : World) : Calls Tryz.prog 51 #[] w fun e w' => e = .returned (.map (some w.heap.size)) ∧ IsWords w' w.heap.size ∧ Below w.heap.size w w' := by
  have hmm : ∀ t X, (Instr.makeMap t none).run Tryz.prog X = .ok (.map (some X.heap.size)) (X.alloc (.map #[] 0)) := fun t X => run_makeMap t X
  have h0 : (w.alloc (.map #[] 0)).heap[w.heap.size]? = some (.map #[] 0) := World.alloc_heap_new w _
  obtain ⟨W1, r1, g1, b1⟩ := put_word ⟨#[110, 111, 100, 101]⟩ 102 h0 (by kernel_rfl)
  obtain ⟨W2, r2, g2, b2⟩ := put_word ⟨#[97, 100, 100, 114, 101, 115, 115]⟩ 103 g1 (by kernel_rfl)
  obtain ⟨W3, r3, g3, b3⟩ := put_word ⟨#[111, 119, 110]⟩ 104 g2 (by kernel_rfl)
  obtain ⟨W4, r4, g4, b4⟩ := put_word ⟨#[112, 111, 114, 116]⟩ 105 g3 (by kernel_rfl)
  obtain ⟨W5, r5, g5, b5⟩ := put_word ⟨#[104, 101, 108, 108, 111]⟩ 106 g4 (by kernel_rfl)
  obtain ⟨W6, r6, g6, b6⟩ := put_word ⟨#[100, 101, 97, 100]⟩ 107 g5 (by kernel_rfl)
  obtain ⟨W7, r7, g7, b7⟩ := put_word ⟨#[97, 103, 97, 105, 110]⟩ 108 g6 (by kernel_rfl)
  obtain ⟨W8, r8, g8, b8⟩ := put_word ⟨#[114, 111, 111, 109]⟩ 109 g7 (by kernel_rfl)
  obtain ⟨W9, r9, g9, b9⟩ := put_word ⟨#[113, 117, 101, 117, 101]⟩ 110 g8 (by kernel_rfl)
  obtain ⟨W10, r10, g10, b10⟩ := put_word ⟨#[116, 111, 107, 101, 110, 115]⟩ 111 g9 (by kernel_rfl)
  obtain ⟨W11, r11, g11, b11⟩ := put_word ⟨#[114, 101, 102, 105, 108, 108]⟩ 112 g10 (by kernel_rfl)
  have HB : Hid (Below w.heap.size w W11) := Lib.hid ((((((((((((((Below.refl _ w).alloc (Nat.le_refl _) _).trans (b1 _ (Nat.le_refl _))).trans (b2 _ (Nat.le_refl _))).trans (b3 _ (Nat.le_refl _))).trans (b4 _ (Nat.le_refl _))).trans (b5 _ (Nat.le_refl _))).trans (b6 _ (Nat.le_refl _))).trans (b7 _ (Nat.le_refl _))).trans (b8 _ (Nat.le_refl _))).trans (b9 _ (Nat.le_refl _))).trans (b10 _ (Nat.le_refl _))).trans (b11 _ (Nat.le_refl _))))
  have HW : Hid (IsWords W11 w.heap.size) := Lib.hid g11
  clear h0 g1 b1 g2 b2 g3 b3 g4 b4 g5 b5 g6 b6 g7 b7 g8 b8 g9 b9 g10 b10 g11 b11
  go_enter Tryz.func51, Tryz.ntmps51
  go_wp2
  go_ret
  exact ⟨rfl, HW.out, HB.out⟩
/-- The method that a word names. -/
def wordFn (l : List UInt8) : Option Nat := (wordsL.find? fun p => decide (p.1 = l)).map (·.2)
theorem str_inj {l m : List UInt8} (h : str l = str m) : l = m := by
  have := congrArg (fun b : ByteArray => b.data.toList) h
  simpa [str] using this
theorem findNow_list (l : List UInt8) : ∀ (L : List (List UInt8 × Nat)) (es : List MapEntry) (i : Nat), es.map (fun e => (e.key, e.val)) = L.map (fun p => (Value.string (str p.1), Value.func (.func p.2) #[] #[])) →
    match (L.find? fun p => decide (p.1 = l)).map (·.2) with
    | some f => ∃ j, Instr.findNow .string (.string (str l)) es i = some (some (j, .func (.func f) #[] #[]))
    | none => Instr.findNow .string (.string (str l)) es i = some none
  | [], [], i, _ => rfl
  | [], _ :: _, _, h => by simp at h
  | _ :: _, [], _, h => by simp at h
  | p :: L, e :: es, i, h => by
    simp only [List.map_cons, List.cons.injEq, Prod.mk.injEq] at h
    obtain ⟨⟨h1, h2⟩, h3⟩ := h
    obtain ⟨r, hr, hiff⟩ := MapKept.sameNow_of_keys (d := .string) (a := .string (str l)) (b := .string (str p.1)) trivial trivial
    rw [← h1] at hr
    by_cases hp : p.1 = l
    · obtain rfl : r = true := hiff.2 (by rw [hp])
      simp only [List.find?_cons, decide_eq_true hp, Option.map_some]
      exact ⟨i, by simp only [Instr.findNow, hr, h2]⟩
    · obtain rfl : r = false := by
        cases r with
        | false => rfl
        | true => exact absurd (str_inj (by have := hiff.1 rfl; injection this)).symm hp
      simp only [List.find?_cons, decide_eq_false hp, Instr.findNow, hr]
      exact findNow_list l L es (i + 1) h3
/-- What the map answers. -/
def wordV (l : List UInt8) : Value := match wordFn l with
  | some f => .func (.func f) #[] #[]
  | none => .nilFunc
theorem run_word (l : List UInt8) (w : World) (g : Nat) (h : IsWords w g) : (Instr.lookup 90 (.map (some g)) (.string (str l)) false).run Tryz.prog w = .ok (wordV l) w := by
  have hf := findNow_list l wordsL wordsE.toList 0 rfl
  unfold wordV wordFn
  have hk : MapKept.IsKey .string (.string (str l)) := trivial
  cases hw : (wordsL.find? fun p => decide (p.1 = l)).map (·.2) with
  | none =>
    rw [hw] at hf
    simp [Instr.lookup, run_underlying Tryz.underlying90, MapKept.run_getObj_map h, MapKept.run_checkKey Tryz.underlying9 hk, MapKept.run_findKey Tryz.underlying9 hf, Result.andThen, Tryz.zeroValue94]
  | some f =>
    rw [hw] at hf
    obtain ⟨j, hf⟩ := hf
    simp [Instr.lookup, run_underlying Tryz.underlying90, MapKept.run_getObj_map h, MapKept.run_checkKey Tryz.underlying9 hk, MapKept.run_findKey Tryz.underlying9 hf, Result.andThen]
end Go.Proofs.YtfbangojgjcbcaaGreatDoor
