/- The reader of configurations in memory; contracts of next and number. -/
/- Contracts of the reader's methods that read one number. Printed by confmeth.py. -/
/- Contracts of the reader's address, closed, hello and dead. -/
/- Contracts of the reader's address, hello and dead. -/
/- Contract of the reader's dead. -/
import Derived.Test.YtfbangojgjcbcaaGreatDoorConfC
import Derived.Test.YtfbangojgjcbcaaGreatDoorAtoi
import Derived.Test.YtfbangojgjcbcaaGreatDoorLoadF
namespace Go.Proofs.YtfbangojgjcbcaaGreatDoor
open Go.RowKit Pl

/-- The cells of a reader: a configuration, and a number behind it. -/
def rdCells (c : Cfg) (own ports : Value) (st : Int) : Array Value := #[.int .i64 c.node, .int .u32 c.addr, own, ports, .int .i64 c.hello, .int .i64 c.dead, .int .i64 c.again, .int .i64 c.room, .int .i64 c.queue, .int .i64 c.tokens, .int .i64 c.refill, .int .i64 st]
structure Rd (t : TypeId) (w : World) (B R : Nat) (c : Cfg) (st : Int) : Prop where
  ge : 8 ≤ R
  is : ∃ own ports, Whole w R t (rdCells c own ports st) ∧ w.ownsRow B 86 2 own c.own.length (cells2 .u32 c.own) ∧ w.ownsRow B 101 2 ports c.ports.length (cells2 .i64 c.ports)
theorem own_apart {w : World} {g : Nat} {t e : TypeId} {cs : Array Value} {base size n : Nat} {v : Value} {xs : List Value} (hg : Whole w g t cs) (h : w.ownsRow base e size v n xs) (hne : t ≠ e) : v.ownBlock = none ∨ v.ownBlock ≠ some g := .inr (hg.notRow h hne)
theorem own_grown {w w' : World} {g : Nat} {t e : TypeId} {cs : Array Value} {base size n : Nat} {v : Value} {xs : List Value} (hg : Whole w g t cs) (h : w.ownsRow base e size v n xs) (hne : t ≠ e) (hw : w.grownBy w' (some g)) : w'.ownsRow base e size v n xs :=
  h.kept hw (own_apart hg h hne)
theorem grown_set (w : World) (g i : Nat) (u : Value) : w.grownBy (w.setCell ⟨g, i, none⟩ u) (some g) :=
  ⟨rfl, rfl, rfl, by simp [World.setCell], fun k _ hk => Below.heap_setCell w ⟨g, i, none⟩ u k (fun e => hk (by rw [e]))⟩
theorem grown_below {w w' : World} (row : Option Nat) (h : Below w.heap.size w w') : w.grownBy w' row := ⟨h.os, h.tape, h.output, h.size, fun i hi _ => h.block i hi⟩
theorem grown_trans {a b c : World} {row : Option Nat} (h : a.grownBy b row) (h' : b.grownBy c row) : a.grownBy c row :=
  ⟨h'.os.trans h.os, h'.tape.trans h.tape, h'.output.trans h.output, Nat.le_trans h.size h'.size, fun i hi hne => (h'.block i (Nat.lt_of_lt_of_le hi h.size) hne).trans (h.block i hi hne)⟩
theorem below_grown {w w' : World} {B g : Nat} (h : w.grownBy w' (some g)) (hB : B ≤ w.heap.size) (hg : B ≤ g) : Below B w w' := (Below.refl _ _).grown h hB fun k e => by cases e; exact hg

/-- What lay below B is as it was, but for block R. -/
structure Kb (B R : Nat) (w w' : World) : Prop where
  os : w'.os = w.os
  tape : w'.tape = w.tape
  output : w'.output = w.output
  size : w.heap.size ≤ w'.heap.size
  block : ∀ g, g < B → g ≠ R → w'.heap[g]? = w.heap[g]?
theorem Kb.refl (B R : Nat) (w : World) : Kb B R w w := ⟨rfl, rfl, rfl, Nat.le_refl _, fun _ _ _ => rfl⟩
theorem Kb.trans {B R : Nat} {a b c : World} (h : Kb B R a b) (h' : Kb B R b c) : Kb B R a c :=
  ⟨h'.os.trans h.os, h'.tape.trans h.tape, h'.output.trans h.output, Nat.le_trans h.size h'.size, fun g h1 h2 => (h'.block g h1 h2).trans (h.block g h1 h2)⟩
theorem Kb.of_below {B R : Nat} {w w' : World} (h : Below B w w') : Kb B R w w' := ⟨h.os, h.tape, h.output, h.size, fun g h1 _ => h.block g h1⟩
theorem Kb.below {N B R : Nat} {w w' : World} (h : Kb B R w w') (hB : N ≤ B) (hR : N ≤ R) : Below N w w' := ⟨h.os, h.tape, h.output, h.size, fun g hg => h.block g (by omega) (by omega)⟩
theorem kb_grown {B R : Nat} {w w' : World} (h : w.grownBy w' (some R)) (hB : B ≤ w.heap.size) : Kb B R w w' := ⟨h.os, h.tape, h.output, h.size, fun g h1 h2 => h.block g (by omega) (by simpa using h2)⟩
theorem Kb.set {B R : Nat} {w w' : World} (h : Kb B R w w') (i : Nat) (u : Value) (hB : B ≤ w'.heap.size) : Kb B R w (w'.setCell ⟨R, i, none⟩ u) := h.trans (kb_grown (grown_set w' R i u) hB)

set_option maxRecDepth 100000 in
theorem next_yes (R : Nat) (k : Int) (c : Cfg) (own ports : Value) (w : World) (h : Whole w R 89 (rdCells c own ports k)) (hk : 0 ≤ k ∧ k ≤ 100) :
    Calls Tryz.prog 152 #[.pointer (some ⟨R, 0, none⟩), .int .i64 k] w fun e w' => e = .returned (.bool true) ∧ Whole w' R 89 (rdCells c own ports (k + 1)) ∧ w.grownBy w' (some R) := by
  have c0 : w.cell? ⟨R, 11, none⟩ = some (.int .i64 k) := h.cell 11
  have f0 := h.frozen 11
  obtain ⟨hk0, hk1⟩ := hk
  have HW := Lib.hid h
  clear h
  go_enter Tryz.func152, Tryz.ntmps152
  go_wp2
  go_ret
  exact ⟨rfl, HW.out.set 11 _, grown_set _ _ _ _⟩
set_option maxRecDepth 100000 in
theorem next_no (R : Nat) (k st : Int) (c : Cfg) (own ports : Value) (w : World) (h : Whole w R 89 (rdCells c own ports st)) (hk : ¬ st = k) :
    Calls Tryz.prog 152 #[.pointer (some ⟨R, 0, none⟩), .int .i64 k] w fun e w' => e = .returned (.bool false) ∧ w = w' := by
  have c0 : w.cell? ⟨R, 11, none⟩ = some (.int .i64 st) := h.cell 11
  have hd : (st == k) = false := beq_eq_false_iff_ne.2 hk
  clear h hk
  go_enter Tryz.func152, Tryz.ntmps152
  go_wp2
  go_ret
  exact ⟨rfl, rfl⟩

/-- What number does to a cell: a line's number if it is one. -/
def NumRes (w : World) (s : List UInt8) (lo hi : Nat) (R i : Nat) (t : TypeId) (cs : Array Value) (e : Ending) (w' : World) : Prop :=
  e = .returned (.bool (numIn s lo hi).isSome) ∧ ∃ n : Int, (∀ v, numIn s lo hi = some v → n = v) ∧ Whole w' R t (cs.setIfInBounds i (.int .i64 n)) ∧ w.grownBy w' (some R)

set_option maxRecDepth 100000 in
set_option maxHeartbeats 1000000 in
theorem number_any (s : List UInt8) (lo hi : Nat) (R i : Nat) (t : TypeId) (cs : Array Value) (old : Value) (w : World) (hs : s.length ≤ 1000000) (hh : hi < 1000000000) (E : Env w) (h : Whole w R t cs) (ho : cs[i]? = some old) (hNG : 8 ≤ R) :
    Calls Tryz.prog 153 #[.string (str s), .int .i64 (lo : Int), .int .i64 (hi : Int), .pointer (some ⟨R, i, none⟩)] w fun e w' => NumRes w s lo hi R i t cs e w' := by
  have HW := Lib.hid h
  have HO := Lib.hid ho
  clear h ho
  by_cases hok : ∃ v, Lib.atoiAll s = .ok v
  · obtain ⟨v, hv⟩ := hok
    have HV := Lib.hid hv
    have HN := Lib.hid (numIn_of_atoi (lo := lo) (hi := hi) hv hh)
    obtain ⟨b0, b1⟩ := atoi_bd hv
    clear hv
    go_enter Tryz.func153, Tryz.ntmps153
    go_wp2_with fail
    refine (atoi_ok s v _ hs HV.out).mono ?_
    rintro e w1 ⟨rfl, hb1⟩
    have h1 := HW.out.here hb1
    have c1 : w1.cell? ⟨R, i, none⟩ = some old := (h1.cell i).trans HO.out
    have f1 := h1.frozen i
    have hw2 := Lib.hid (h1.set i (.int .i64 v))
    have hg2 := Lib.hid (grown_trans (grown_below (some R) hb1) (grown_set w1 R i (.int .i64 v)))
    have E2 : Hid (Env (w1.setCell ⟨R, i, none⟩ (.int .i64 v))) := Lib.hid (E.below (Nat.le_refl _) (below_grown hg2.out E.size hNG))
    clear h1
    by_cases hi2 : Lib.itoa v = s
    · have hd := str_eq_true hi2
      have HN2 : Hid (inI v lo hi = (numIn s lo hi).isSome) := Lib.hid (by
        rw [HN.out]; unfold inI
        by_cases hc : (lo : Int) ≤ v ∧ v ≤ hi
        · rw [if_pos ⟨hi2, hc⟩, decide_eq_true hc.1, decide_eq_true hc.2]; rfl
        · rw [if_neg (fun k => hc k.2)]
          by_cases h1 : (lo : Int) ≤ v
          · rw [decide_eq_false (fun k => hc ⟨h1, k⟩)]; simp
          · rw [decide_eq_false h1]; rfl)
      have HI := Lib.hid hi2
      clear hi2
      go_wp2_with (first
        | (go_at_call 58; refine (itoa_all v _ b0 b1 E2.out).mono ?_; rintro e w3 ⟨rfl, hb3⟩; have HB3 := Lib.hid hb3; clear hb3)
        | (go_at_call 69; refine (cwithin_any _ _ _ _).mono ?_; rintro e w' ⟨rfl, rfl⟩))
      go_ret
      refine ⟨by rw [← HN2.out]; rfl, v, fun u hu => ?_, hw2.out.here HB3.out, grown_trans hg2.out (grown_below _ HB3.out)⟩
      rw [HN.out] at hu
      split at hu
      · injection hu
      · cases hu
    · have hd := str_eq_false hi2
      have HN2 : Hid (numIn s lo hi = none) := Lib.hid (by rw [HN.out, if_neg (fun k => hi2 k.1)])
      clear hi2
      go_wp2_with (go_at_call 58; refine (itoa_all v _ b0 b1 E2.out).mono ?_; rintro e w3 ⟨rfl, hb3⟩; have HB3 := Lib.hid hb3; clear hb3)
      go_ret
      exact ⟨by rw [HN2.out]; rfl, v, fun u hu => (by rw [HN2.out] at hu; cases hu), hw2.out.here HB3.out, grown_trans hg2.out (grown_below _ HB3.out)⟩
  · have HN2 : Hid (numIn s lo hi = none) := Lib.hid (numIn_no_atoi (fun u hu => hok ⟨u, hu⟩) (by omega))
    have HE := Lib.hid (fun u hu => hok ⟨u, hu⟩ : ∀ u, Lib.atoiAll s ≠ .ok u)
    clear hok
    go_enter Tryz.func153, Tryz.ntmps153
    go_wp2_with fail
    refine (atoi_err s _ hs HE.out E).mono ?_
    rintro e w1 ⟨⟨v, ty, p, rfl⟩, hb1⟩
    have h1 := HW.out.here hb1
    have c1 : w1.cell? ⟨R, i, none⟩ = some old := (h1.cell i).trans HO.out
    have f1 := h1.frozen i
    have hw2 := Lib.hid (h1.set i (.int .i64 v))
    have hg2 := Lib.hid (grown_trans (grown_below (some R) hb1) (grown_set w1 R i (.int .i64 v)))
    clear h1
    go_wp2
    go_ret
    exact ⟨by rw [HN2.out]; rfl, v, fun u hu => (by rw [HN2.out] at hu; cases hu), hw2.out, hg2.out⟩
end Go.Proofs.YtfbangojgjcbcaaGreatDoor
namespace Go.Proofs.YtfbangojgjcbcaaGreatDoor
open Go.RowKit Pl

/-- What a line does to the reader. -/
def RdRes (w : World) (B R : Nat) (o : Option (Cfg × Nat)) (e : Ending) (w' : World) : Prop :=
  (match o with
    | some (c', st') => e = .returned (.bool true) ∧ Rd 89 w' B R c' (st' : Int)
    | none => e = .returned (.bool false)) ∧ Kb B R w w'
theorem RdRes.no {w w' : World} {B R : Nat} {o : Option (Cfg × Nat)} {e : Ending} (h : o = none) (he : e = .returned (.bool false)) (hb : Kb B R w w') : RdRes w B R o e w' := by
  subst h; exact ⟨he, hb⟩
theorem RdRes.yes {w w' : World} {B R : Nat} {o : Option (Cfg × Nat)} {e : Ending} (c : Cfg) (st : Nat) (h : o = some (c, st)) (he : e = .returned (.bool true)) (hr : Rd 89 w' B R c (st : Int)) (hb : Kb B R w w') : RdRes w B R o e w' := by
  subst h; exact ⟨⟨he, hr⟩, hb⟩
theorem rd_num {c : Cfg} {own ports : Value} {st : Int} {w w' : World} {B R : Nat} {cs : Array Value} {c' : Cfg} (h : Whole w R 89 (rdCells c own ports st)) (hO : w.ownsRow B 86 2 own c.own.length (cells2 .u32 c.own)) (hP : w.ownsRow B 101 2 ports c.ports.length (cells2 .i64 c.ports))
    (hg : w.grownBy w' (some R)) (h' : Whole w' R 89 cs) (hB : 8 ≤ R) {st' : Int} (hcs : cs = rdCells c' own ports st') (h1 : c'.own = c.own) (h2 : c'.ports = c.ports) : Rd 89 w' B R c' st' :=
  ⟨hB, own, ports, by rw [← hcs]; exact h', by rw [h1]; exact own_grown h hO (by decide) hg, by rw [h2]; exact own_grown h hP (by decide) hg⟩

set_option maxRecDepth 100000 in
set_option maxHeartbeats 1000000 in
theorem mnode_any (s : List UInt8) (c : Cfg) (st : Nat) (B R : Nat) (w : World) (h : Rd 89 w B R c (st : Int)) (E : Env w) (_hNG : 8 ≤ B) (hBw : B ≤ w.heap.size) (hs : s.length ≤ 1000000) :
    Calls Tryz.prog 102 #[.pointer (some ⟨R, 0, none⟩), .string (str s)] w fun e w' => RdRes w B R (if st = 0 then (numIn s 1 16).map fun n => ({ c with node := n }, 1) else none) e w' := by
  obtain ⟨own, ports, hW, hO, hP⟩ := h.is
  have hBR := h.ge
  obtain ⟨o, ho⟩ : ∃ o, (if st = 0 then (numIn s 1 16).map fun n => ({ c with node := n }, 1) else none : Option (Cfg × Nat)) = o := ⟨_, rfl⟩
  rw [ho]
  have HOO := Lib.hid ho
  clear h ho
  by_cases hk : st = 0
  · subst hk
    have HWH := Lib.hid hW
    have HO := Lib.hid hO
    have HP := Lib.hid hP
    clear hO hP
    go_enter Tryz.func102, Tryz.ntmps102
    go_wp2_with fail
    refine (next_yes R 0 c own ports w hW ⟨by decide, by decide⟩).mono ?_
    rintro e w1 ⟨rfl, h1, hg1⟩
    have E1 := E.below (Nat.le_refl _) (below_grown hg1 E.size hBR)
    have HG1 := Lib.hid hg1
    have H1 := Lib.hid h1
    clear hg1 h1 hW
    go_wp2_with fail
    refine (number_any s 1 16 R 0 89 _ (.int .i64 c.node) w1 hs (by decide) E1 H1.out rfl hBR).mono ?_
    rintro e w2 ⟨rfl, n, hn, h2, hg2⟩
    have HG2 := Lib.hid (grown_trans HG1.out hg2)
    have H2 := Lib.hid h2
    have HN := Lib.hid hn
    clear h2 hg2 hn
    go_wp2
    go_ret
    have hb := kb_grown HG2.out hBw
    cases hnum : numIn s 1 16 with
    | none => exact RdRes.no (by rw [← HOO.out]; simp [hnum]) rfl hb
    | some v =>
      obtain rfl : n = v := HN.out v hnum
      exact RdRes.yes { c with node := n } 1 (by rw [← HOO.out]; simp [hnum]) rfl (rd_num HWH.out HO.out HP.out HG2.out H2.out hBR rfl rfl rfl) hb
  · have hk' : ¬ (st : Int) = 0 := by omega
    go_enter Tryz.func102, Tryz.ntmps102
    go_wp2_with (go_at_call 152; refine (next_no R 0 (st : Int) c own ports w hW hk').mono ?_; rintro e w' ⟨rfl, rfl⟩)
    go_ret
    exact RdRes.no (by rw [← HOO.out]; simp [hk]) rfl (Kb.refl _ _ _)

set_option maxRecDepth 100000 in
set_option maxHeartbeats 1000000 in
theorem magain_any (s : List UInt8) (c : Cfg) (st : Nat) (B R : Nat) (w : World) (h : Rd 89 w B R c (st : Int)) (E : Env w) (_hNG : 8 ≤ B) (hBw : B ≤ w.heap.size) (hs : s.length ≤ 1000000) :
    Calls Tryz.prog 108 #[.pointer (some ⟨R, 0, none⟩), .string (str s)] w fun e w' => RdRes w B R (if st = 5 then (numIn s 1 100).map fun n => ({ c with again := n }, 6) else none) e w' := by
  obtain ⟨own, ports, hW, hO, hP⟩ := h.is
  have hBR := h.ge
  obtain ⟨o, ho⟩ : ∃ o, (if st = 5 then (numIn s 1 100).map fun n => ({ c with again := n }, 6) else none : Option (Cfg × Nat)) = o := ⟨_, rfl⟩
  rw [ho]
  have HOO := Lib.hid ho
  clear h ho
  by_cases hk : st = 5
  · subst hk
    have HWH := Lib.hid hW
    have HO := Lib.hid hO
    have HP := Lib.hid hP
    clear hO hP
    go_enter Tryz.func108, Tryz.ntmps108
    go_wp2_with fail
    refine (next_yes R 5 c own ports w hW ⟨by decide, by decide⟩).mono ?_
    rintro e w1 ⟨rfl, h1, hg1⟩
    have E1 := E.below (Nat.le_refl _) (below_grown hg1 E.size hBR)
    have HG1 := Lib.hid hg1
    have H1 := Lib.hid h1
    clear hg1 h1 hW
    go_wp2_with fail
    refine (number_any s 1 100 R 6 89 _ (.int .i64 c.again) w1 hs (by decide) E1 H1.out rfl hBR).mono ?_
    rintro e w2 ⟨rfl, n, hn, h2, hg2⟩
    have HG2 := Lib.hid (grown_trans HG1.out hg2)
    have H2 := Lib.hid h2
    have HN := Lib.hid hn
    clear h2 hg2 hn
    go_wp2
    go_ret
    have hb := kb_grown HG2.out hBw
    cases hnum : numIn s 1 100 with
    | none => exact RdRes.no (by rw [← HOO.out]; simp [hnum]) rfl hb
    | some v =>
      obtain rfl : n = v := HN.out v hnum
      exact RdRes.yes { c with again := n } 6 (by rw [← HOO.out]; simp [hnum]) rfl (rd_num HWH.out HO.out HP.out HG2.out H2.out hBR rfl rfl rfl) hb
  · have hk' : ¬ (st : Int) = 5 := by omega
    go_enter Tryz.func108, Tryz.ntmps108
    go_wp2_with (go_at_call 152; refine (next_no R 5 (st : Int) c own ports w hW hk').mono ?_; rintro e w' ⟨rfl, rfl⟩)
    go_ret
    exact RdRes.no (by rw [← HOO.out]; simp [hk]) rfl (Kb.refl _ _ _)

set_option maxRecDepth 100000 in
set_option maxHeartbeats 1000000 in
theorem mroom_any (s : List UInt8) (c : Cfg) (st : Nat) (B R : Nat) (w : World) (h : Rd 89 w B R c (st : Int)) (E : Env w) (_hNG : 8 ≤ B) (hBw : B ≤ w.heap.size) (hs : s.length ≤ 1000000) :
    Calls Tryz.prog 109 #[.pointer (some ⟨R, 0, none⟩), .string (str s)] w fun e w' => RdRes w B R (if st = 6 then (numIn s 0 64).map fun n => ({ c with room := n }, 7) else none) e w' := by
  obtain ⟨own, ports, hW, hO, hP⟩ := h.is
  have hBR := h.ge
  obtain ⟨o, ho⟩ : ∃ o, (if st = 6 then (numIn s 0 64).map fun n => ({ c with room := n }, 7) else none : Option (Cfg × Nat)) = o := ⟨_, rfl⟩
  rw [ho]
  have HOO := Lib.hid ho
  clear h ho
  by_cases hk : st = 6
  · subst hk
    have HWH := Lib.hid hW
    have HO := Lib.hid hO
    have HP := Lib.hid hP
    clear hO hP
    go_enter Tryz.func109, Tryz.ntmps109
    go_wp2_with fail
    refine (next_yes R 6 c own ports w hW ⟨by decide, by decide⟩).mono ?_
    rintro e w1 ⟨rfl, h1, hg1⟩
    have E1 := E.below (Nat.le_refl _) (below_grown hg1 E.size hBR)
    have HG1 := Lib.hid hg1
    have H1 := Lib.hid h1
    clear hg1 h1 hW
    go_wp2_with fail
    refine (number_any s 0 64 R 7 89 _ (.int .i64 c.room) w1 hs (by decide) E1 H1.out rfl hBR).mono ?_
    rintro e w2 ⟨rfl, n, hn, h2, hg2⟩
    have HG2 := Lib.hid (grown_trans HG1.out hg2)
    have H2 := Lib.hid h2
    have HN := Lib.hid hn
    clear h2 hg2 hn
    go_wp2
    go_ret
    have hb := kb_grown HG2.out hBw
    cases hnum : numIn s 0 64 with
    | none => exact RdRes.no (by rw [← HOO.out]; simp [hnum]) rfl hb
    | some v =>
      obtain rfl : n = v := HN.out v hnum
      exact RdRes.yes { c with room := n } 7 (by rw [← HOO.out]; simp [hnum]) rfl (rd_num HWH.out HO.out HP.out HG2.out H2.out hBR rfl rfl rfl) hb
  · have hk' : ¬ (st : Int) = 6 := by omega
    go_enter Tryz.func109, Tryz.ntmps109
    go_wp2_with (go_at_call 152; refine (next_no R 6 (st : Int) c own ports w hW hk').mono ?_; rintro e w' ⟨rfl, rfl⟩)
    go_ret
    exact RdRes.no (by rw [← HOO.out]; simp [hk]) rfl (Kb.refl _ _ _)

set_option maxRecDepth 100000 in
set_option maxHeartbeats 1000000 in
theorem mqueue_any (s : List UInt8) (c : Cfg) (st : Nat) (B R : Nat) (w : World) (h : Rd 89 w B R c (st : Int)) (E : Env w) (_hNG : 8 ≤ B) (hBw : B ≤ w.heap.size) (hs : s.length ≤ 1000000) :
    Calls Tryz.prog 110 #[.pointer (some ⟨R, 0, none⟩), .string (str s)] w fun e w' => RdRes w B R (if st = 7 then (numIn s 1 64).map fun n => ({ c with queue := n }, 8) else none) e w' := by
  obtain ⟨own, ports, hW, hO, hP⟩ := h.is
  have hBR := h.ge
  obtain ⟨o, ho⟩ : ∃ o, (if st = 7 then (numIn s 1 64).map fun n => ({ c with queue := n }, 8) else none : Option (Cfg × Nat)) = o := ⟨_, rfl⟩
  rw [ho]
  have HOO := Lib.hid ho
  clear h ho
  by_cases hk : st = 7
  · subst hk
    have HWH := Lib.hid hW
    have HO := Lib.hid hO
    have HP := Lib.hid hP
    clear hO hP
    go_enter Tryz.func110, Tryz.ntmps110
    go_wp2_with fail
    refine (next_yes R 7 c own ports w hW ⟨by decide, by decide⟩).mono ?_
    rintro e w1 ⟨rfl, h1, hg1⟩
    have E1 := E.below (Nat.le_refl _) (below_grown hg1 E.size hBR)
    have HG1 := Lib.hid hg1
    have H1 := Lib.hid h1
    clear hg1 h1 hW
    go_wp2_with fail
    refine (number_any s 1 64 R 8 89 _ (.int .i64 c.queue) w1 hs (by decide) E1 H1.out rfl hBR).mono ?_
    rintro e w2 ⟨rfl, n, hn, h2, hg2⟩
    have HG2 := Lib.hid (grown_trans HG1.out hg2)
    have H2 := Lib.hid h2
    have HN := Lib.hid hn
    clear h2 hg2 hn
    go_wp2
    go_ret
    have hb := kb_grown HG2.out hBw
    cases hnum : numIn s 1 64 with
    | none => exact RdRes.no (by rw [← HOO.out]; simp [hnum]) rfl hb
    | some v =>
      obtain rfl : n = v := HN.out v hnum
      exact RdRes.yes { c with queue := n } 8 (by rw [← HOO.out]; simp [hnum]) rfl (rd_num HWH.out HO.out HP.out HG2.out H2.out hBR rfl rfl rfl) hb
  · have hk' : ¬ (st : Int) = 7 := by omega
    go_enter Tryz.func110, Tryz.ntmps110
    go_wp2_with (go_at_call 152; refine (next_no R 7 (st : Int) c own ports w hW hk').mono ?_; rintro e w' ⟨rfl, rfl⟩)
    go_ret
    exact RdRes.no (by rw [← HOO.out]; simp [hk]) rfl (Kb.refl _ _ _)

set_option maxRecDepth 100000 in
set_option maxHeartbeats 1000000 in
theorem mtokens_any (s : List UInt8) (c : Cfg) (st : Nat) (B R : Nat) (w : World) (h : Rd 89 w B R c (st : Int)) (E : Env w) (_hNG : 8 ≤ B) (hBw : B ≤ w.heap.size) (hs : s.length ≤ 1000000) :
    Calls Tryz.prog 111 #[.pointer (some ⟨R, 0, none⟩), .string (str s)] w fun e w' => RdRes w B R (if st = 8 then (numIn s 0 64).map fun n => ({ c with tokens := n }, 9) else none) e w' := by
  obtain ⟨own, ports, hW, hO, hP⟩ := h.is
  have hBR := h.ge
  obtain ⟨o, ho⟩ : ∃ o, (if st = 8 then (numIn s 0 64).map fun n => ({ c with tokens := n }, 9) else none : Option (Cfg × Nat)) = o := ⟨_, rfl⟩
  rw [ho]
  have HOO := Lib.hid ho
  clear h ho
  by_cases hk : st = 8
  · subst hk
    have HWH := Lib.hid hW
    have HO := Lib.hid hO
    have HP := Lib.hid hP
    clear hO hP
    go_enter Tryz.func111, Tryz.ntmps111
    go_wp2_with fail
    refine (next_yes R 8 c own ports w hW ⟨by decide, by decide⟩).mono ?_
    rintro e w1 ⟨rfl, h1, hg1⟩
    have E1 := E.below (Nat.le_refl _) (below_grown hg1 E.size hBR)
    have HG1 := Lib.hid hg1
    have H1 := Lib.hid h1
    clear hg1 h1 hW
    go_wp2_with fail
    refine (number_any s 0 64 R 9 89 _ (.int .i64 c.tokens) w1 hs (by decide) E1 H1.out rfl hBR).mono ?_
    rintro e w2 ⟨rfl, n, hn, h2, hg2⟩
    have HG2 := Lib.hid (grown_trans HG1.out hg2)
    have H2 := Lib.hid h2
    have HN := Lib.hid hn
    clear h2 hg2 hn
    go_wp2
    go_ret
    have hb := kb_grown HG2.out hBw
    cases hnum : numIn s 0 64 with
    | none => exact RdRes.no (by rw [← HOO.out]; simp [hnum]) rfl hb
    | some v =>
      obtain rfl : n = v := HN.out v hnum
      exact RdRes.yes { c with tokens := n } 9 (by rw [← HOO.out]; simp [hnum]) rfl (rd_num HWH.out HO.out HP.out HG2.out H2.out hBR rfl rfl rfl) hb
  · have hk' : ¬ (st : Int) = 8 := by omega
    go_enter Tryz.func111, Tryz.ntmps111
    go_wp2_with (go_at_call 152; refine (next_no R 8 (st : Int) c own ports w hW hk').mono ?_; rintro e w' ⟨rfl, rfl⟩)
    go_ret
    exact RdRes.no (by rw [← HOO.out]; simp [hk]) rfl (Kb.refl _ _ _)

set_option maxRecDepth 100000 in
set_option maxHeartbeats 1000000 in
theorem mrefill_any (s : List UInt8) (c : Cfg) (st : Nat) (B R : Nat) (w : World) (h : Rd 89 w B R c (st : Int)) (E : Env w) (_hNG : 8 ≤ B) (hBw : B ≤ w.heap.size) (hs : s.length ≤ 1000000) :
    Calls Tryz.prog 112 #[.pointer (some ⟨R, 0, none⟩), .string (str s)] w fun e w' => RdRes w B R (if st = 9 then (numIn s 1 100).map fun n => ({ c with refill := n }, 10) else none) e w' := by
  obtain ⟨own, ports, hW, hO, hP⟩ := h.is
  have hBR := h.ge
  obtain ⟨o, ho⟩ : ∃ o, (if st = 9 then (numIn s 1 100).map fun n => ({ c with refill := n }, 10) else none : Option (Cfg × Nat)) = o := ⟨_, rfl⟩
  rw [ho]
  have HOO := Lib.hid ho
  clear h ho
  by_cases hk : st = 9
  · subst hk
    have HWH := Lib.hid hW
    have HO := Lib.hid hO
    have HP := Lib.hid hP
    clear hO hP
    go_enter Tryz.func112, Tryz.ntmps112
    go_wp2_with fail
    refine (next_yes R 9 c own ports w hW ⟨by decide, by decide⟩).mono ?_
    rintro e w1 ⟨rfl, h1, hg1⟩
    have E1 := E.below (Nat.le_refl _) (below_grown hg1 E.size hBR)
    have HG1 := Lib.hid hg1
    have H1 := Lib.hid h1
    clear hg1 h1 hW
    go_wp2_with fail
    refine (number_any s 1 100 R 10 89 _ (.int .i64 c.refill) w1 hs (by decide) E1 H1.out rfl hBR).mono ?_
    rintro e w2 ⟨rfl, n, hn, h2, hg2⟩
    have HG2 := Lib.hid (grown_trans HG1.out hg2)
    have H2 := Lib.hid h2
    have HN := Lib.hid hn
    clear h2 hg2 hn
    go_wp2
    go_ret
    have hb := kb_grown HG2.out hBw
    cases hnum : numIn s 1 100 with
    | none => exact RdRes.no (by rw [← HOO.out]; simp [hnum]) rfl hb
    | some v =>
      obtain rfl : n = v := HN.out v hnum
      exact RdRes.yes { c with refill := n } 10 (by rw [← HOO.out]; simp [hnum]) rfl (rd_num HWH.out HO.out HP.out HG2.out H2.out hBR rfl rfl rfl) hb
  · have hk' : ¬ (st : Int) = 9 := by omega
    go_enter Tryz.func112, Tryz.ntmps112
    go_wp2_with (go_at_call 152; refine (next_no R 9 (st : Int) c own ports w hW hk').mono ?_; rintro e w' ⟨rfl, rfl⟩)
    go_ret
    exact RdRes.no (by rw [← HOO.out]; simp [hk]) rfl (Kb.refl _ _ _)
end Go.Proofs.YtfbangojgjcbcaaGreatDoor
namespace Go.Proofs.YtfbangojgjcbcaaGreatDoor
open Go.RowKit Pl

set_option maxRecDepth 100000 in
set_option maxHeartbeats 1000000 in
theorem closed1_any (a n x : Int) (Bx R : Nat) (w : World) (ha : IsAddr a) (hx : IsAddr x) (hb : w.cell? ⟨Bx, 0, none⟩ = some (.pointer (some ⟨R, 0, none⟩))) (hBx : Bx < w.heap.size) (hc : w.cell? ⟨R, 1, none⟩ = some (.int .u32 x)) (hR : R < w.heap.size) :
    Calls Tryz.prog 182 #[.agg #[.int .u32 a, .int .i64 n], .pointer (some ⟨Bx, 0, none⟩)] w fun e w' => e = .returned (.bool (hasP a n x)) ∧ Below w.heap.size w w' := by
  have hb2 : (w.alloc (.cells #[.int .u32 a, .int .i64 n] 86)).cell? ⟨Bx, 0, none⟩ = some (.pointer (some ⟨R, 0, none⟩)) := (World.cell?_alloc_lt _ _ _ hBx).trans hb
  have hc2 : (w.alloc (.cells #[.int .u32 a, .int .i64 n] 86)).cell? ⟨R, 1, none⟩ = some (.int .u32 x) := (World.cell?_alloc_lt _ _ _ hR).trans hc
  have hs1 : Bx < (w.alloc (.cells #[.int .u32 a, .int .i64 n] 86)).heap.size := by simp; omega
  have hs2 : R < (w.alloc (.cells #[.int .u32 a, .int .i64 n] 86)).heap.size := by simp; omega
  clear hb hc
  go_enter Tryz.func182, Tryz.ntmps182
  go_wp2
  refine wp_region_ext (by kernel_rfl) (by kernel_rfl) ?_
  repeat (go_big_quiet_step (first | (go_at_call 72; exact Ext.call (has_any _ _ _ _ ha hx))))
  refine wpQuiet_nil ?_
  rintro _ ⟨y, rfl⟩
  go_wp2
  go_ret
  exact ⟨rfl, (by repeat (first | exact Below.refl _ _ | apply Below.drew | apply below_drewN | apply bel_alloc | apply Ext.lift | apply bel_set0 | apply bel_set))⟩

set_option maxRecDepth 100000 in
set_option maxHeartbeats 1000000 in
theorem closed_any (c : Cfg) (own ports : Value) (st : Int) (B R : Nat) (w : World) (h : Whole w R 89 (rdCells c own ports st)) (hO : w.ownsRow B 86 2 own c.own.length (cells2 .u32 c.own)) (hl : c.own.length ≤ 1000000) (hA : Addrs4 c) :
    Calls Tryz.prog 156 #[.pointer (some ⟨R, 0, none⟩)] w fun e w' => e = .returned (.bool (hasAny c.own c.addr)) ∧ Below w.heap.size w w' := by
  have hR := h.lt
  have h2 := h.alloc (.cells #[.pointer (some ⟨R, 0, none⟩)] 87)
  have c2 : (w.alloc (.cells #[.pointer (some ⟨R, 0, none⟩)] 87)).cell? ⟨R, 2, none⟩ = some own := h2.cell 2
  have hB1 : Below w.heap.size w (w.alloc (.cells #[.pointer (some ⟨R, 0, none⟩)] 87)) := (Below.refl _ _).alloc (Nat.le_refl _) _
  have HC : Hid (Calls Tryz.prog 70 #[own, .func (.func 182) #[] #[.pointer (some ⟨w.heap.size, 0, none⟩)]] (w.alloc (.cells #[.pointer (some ⟨R, 0, none⟩)] 87)) fun e w' => e = .returned (.bool (hasAny c.own c.addr)) ∧ Below (w.alloc (.cells #[.pointer (some ⟨R, 0, none⟩)] 87)).heap.size (w.alloc (.cells #[.pointer (some ⟨R, 0, none⟩)] 87)) w') := Lib.hid (by
    refine containsP_any _ (fun p => hasP p.1 p.2 c.addr) own c.own _ (Rs.own rfl (hO.alloc _)) hl ⟨_, _, rfl, enters_of Tryz.func182 (by kernel_rfl) rfl, fun u hu W hb => ?_⟩
    refine closed1_any u.1 u.2 c.addr w.heap.size R W (hA.2 u hu) hA.1 ?_ (Nat.lt_of_lt_of_le (by simp) hb.size) ?_ (Nat.lt_of_lt_of_le h2.lt hb.size)
    · exact (hb.cell (by simp)).trans (by simp)
    · exact (hb.cell h2.lt).trans (h2.cell 1))
  obtain ⟨A, k, n, rfl⟩ := own_slice hO
  clear h h2
  go_enter Tryz.func156, Tryz.ntmps156
  go_wp2_with (go_at_call 70; refine (ext_of HC.out).mono ?_; rintro e w' ⟨rfl, y, rfl⟩)
  go_ret
  exact ⟨rfl, Ext.lift y hB1⟩
end Go.Proofs.YtfbangojgjcbcaaGreatDoor
namespace Go.Proofs.YtfbangojgjcbcaaGreatDoor
open Go.RowKit Pl

set_option maxRecDepth 100000 in
set_option maxHeartbeats 1000000 in
theorem maddress_any (s : List UInt8) (c : Cfg) (st : Nat) (B R : Nat) (w : World) (h : Rd 89 w B R c (st : Int)) (E : Env w) (_hNG : 8 ≤ B) (hBw : B ≤ w.heap.size) (hs : s.length ≤ 1000000) :
    Calls Tryz.prog 103 #[.pointer (some ⟨R, 0, none⟩), .string (str s)] w fun e w' => RdRes w B R (if st = 1 then (addrOf s).map fun (a : Nat) => ({ c with addr := (a : Int) }, 2) else none) e w' := by
  obtain ⟨own, ports, hW, hO, hP⟩ := h.is
  have hBR := h.ge
  obtain ⟨o, ho⟩ : ∃ o, (if st = 1 then (addrOf s).map fun (a : Nat) => ({ c with addr := (a : Int) }, 2) else none : Option (Cfg × Nat)) = o := ⟨_, rfl⟩
  rw [ho]
  have HOO := Lib.hid ho
  have HWH := Lib.hid hW
  have HO := Lib.hid hO
  have HP := Lib.hid hP
  clear h ho hW hO hP
  cases ha : addrOf s with
  | none =>
    have HN : Hid (o = none) := Lib.hid (by rw [← HOO.out, ha]; simp)
    have HA := Lib.hid ha
    clear ha
    go_enter Tryz.func103, Tryz.ntmps103
    go_wp2_with fail
    refine (addrOf_no s _ hs E HA.out).mono ?_
    rintro e w1 ⟨rfl, hb1⟩
    have h1 := HWH.out.here hb1
    have c1 : w1.cell? ⟨R, 1, none⟩ = some (.int .u32 c.addr) := h1.cell 1
    have f1 := h1.frozen 1
    have H2 : Hid (Whole (w1.setCell ⟨R, 1, none⟩ (.int .u32 0)) R 89 (rdCells { c with addr := 0 } own ports (st : Int))) := Lib.hid (h1.set 1 (.int .u32 0))
    have HG := Lib.hid (grown_trans (grown_below (some R) hb1) (grown_set w1 R 1 (.int .u32 0)))
    clear h1
    by_cases hk : st = 1
    · subst hk
      go_wp2_with fail
      refine (next_yes R 1 _ own ports _ H2.out ⟨by decide, by decide⟩).mono ?_
      rintro e w2 ⟨rfl, _, hg2⟩
      have HG2 := Lib.hid hg2
      clear hg2
      go_wp2
      go_ret
      exact RdRes.no HN.out rfl (kb_grown (grown_trans HG.out HG2.out) hBw)
    · have hk' : ¬ (st : Int) = 1 := by omega
      go_wp2_with (go_at_call 152; refine (next_no R 1 (st : Int) _ own ports _ H2.out hk').mono ?_; rintro e w' ⟨rfl, rfl⟩)
      go_ret
      exact RdRes.no HN.out rfl (kb_grown HG.out hBw)
  | some a =>
    have HN : Hid (o = if st = 1 then some ({ c with addr := (a : Int) }, 2) else none) := Lib.hid (by rw [← HOO.out, ha]; rfl)
    have HA := Lib.hid ha
    clear ha
    go_enter Tryz.func103, Tryz.ntmps103
    go_wp2_with fail
    refine (addrOf_ok s a _ hs E HA.out).mono ?_
    rintro e w1 ⟨rfl, hb1⟩
    have h1 := HWH.out.here hb1
    have c1 : w1.cell? ⟨R, 1, none⟩ = some (.int .u32 c.addr) := h1.cell 1
    have f1 := h1.frozen 1
    have H2 : Hid (Whole (w1.setCell ⟨R, 1, none⟩ (.int .u32 (a : Int))) R 89 (rdCells { c with addr := (a : Int) } own ports (st : Int))) := Lib.hid (h1.set 1 (.int .u32 (a : Int)))
    have HG := Lib.hid (grown_trans (grown_below (some R) hb1) (grown_set w1 R 1 (.int .u32 (a : Int))))
    clear h1
    by_cases hk : st = 1
    · subst hk
      go_wp2_with fail
      refine (next_yes R 1 _ own ports _ H2.out ⟨by decide, by decide⟩).mono ?_
      rintro e w2 ⟨rfl, h3, hg2⟩
      have HG2 := Lib.hid (grown_trans HG.out hg2)
      have H3 := Lib.hid h3
      clear hg2 h3
      go_wp2
      go_ret
      exact RdRes.yes { c with addr := (a : Int) } 2 (by rw [HN.out]; simp) rfl (rd_num HWH.out HO.out HP.out HG2.out H3.out hBR rfl rfl rfl) (kb_grown HG2.out hBw)
    · have hk' : ¬ (st : Int) = 1 := by omega
      go_wp2_with (go_at_call 152; refine (next_no R 1 (st : Int) _ own ports _ H2.out hk').mono ?_; rintro e w' ⟨rfl, rfl⟩)
      go_ret
      exact RdRes.no (by rw [HN.out, if_neg hk]) rfl (kb_grown HG.out hBw)

set_option maxRecDepth 100000 in
set_option maxHeartbeats 1000000 in
theorem mhello_any (s : List UInt8) (c : Cfg) (st : Nat) (B R : Nat) (w : World) (h : Rd 89 w B R c (st : Int)) (E : Env w) (_hNG : 8 ≤ B) (hBw : B ≤ w.heap.size) (hs : s.length ≤ 1000000) (hA : Addrs4 c) (hl : c.own.length ≤ 1000000) :
    Calls Tryz.prog 106 #[.pointer (some ⟨R, 0, none⟩), .string (str s)] w fun e w' => RdRes w B R (if st = 3 ∧ hasAny c.own c.addr = true then (numIn s 1 100).map fun n => ({ c with hello := n }, 4) else none) e w' := by
  obtain ⟨own, ports, hW, hO, hP⟩ := h.is
  have hBR := h.ge
  obtain ⟨o, ho⟩ : ∃ o, (if st = 3 ∧ hasAny c.own c.addr = true then (numIn s 1 100).map fun n => ({ c with hello := n }, 4) else none : Option (Cfg × Nat)) = o := ⟨_, rfl⟩
  rw [ho]
  have HOO := Lib.hid ho
  clear h ho
  by_cases hk : st = 3
  · subst hk
    have HWH := Lib.hid hW
    have HO := Lib.hid hO
    have HP := Lib.hid hP
    clear hO hP
    go_enter Tryz.func106, Tryz.ntmps106
    go_wp2_with fail
    refine (next_yes R 3 c own ports w hW ⟨by decide, by decide⟩).mono ?_
    rintro e w1 ⟨rfl, h1, hg1⟩
    have E1 := E.below (Nat.le_refl _) (below_grown hg1 E.size hBR)
    have HG1 := Lib.hid hg1
    have H1 := Lib.hid h1
    have HO1 := Lib.hid (own_grown HWH.out HO.out (by decide) hg1)
    clear hg1 h1 hW
    cases hany : hasAny c.own c.addr with
    | false =>
      go_wp2_with (go_at_call 156; refine (closed_any c own ports _ B R _ H1.out HO1.out hl hA).mono ?_; rintro e w2 ⟨rfl, hb2⟩; have HB2 := Lib.hid hb2; clear hb2)
      go_ret
      exact RdRes.no (by rw [← HOO.out]; simp [hany]) rfl (kb_grown (grown_trans HG1.out (grown_below _ HB2.out)) hBw)
    | true =>
      go_wp2_with (go_at_call 156; refine (closed_any c own ports _ B R _ H1.out HO1.out hl hA).mono ?_; rintro e w2 ⟨rfl, hb2⟩; have HB2 := Lib.hid hb2; clear hb2)
      have H2 := Lib.hid (H1.out.here HB2.out)
      have E2 := E1.here HB2.out
      refine (number_any s 1 100 R 4 89 _ (.int .i64 c.hello) _ hs (by decide) E2 H2.out rfl hBR).mono ?_
      rintro e w3 ⟨rfl, n, hn, h3, hg3⟩
      have HG3 := Lib.hid (grown_trans (grown_trans HG1.out (grown_below _ HB2.out)) hg3)
      have H3 := Lib.hid h3
      have HN := Lib.hid hn
      clear h3 hg3 hn
      go_wp2
      go_ret
      have hb := kb_grown HG3.out hBw
      cases hnum : numIn s 1 100 with
      | none => exact RdRes.no (by rw [← HOO.out]; simp [hnum]) rfl hb
      | some v =>
        obtain rfl : n = v := HN.out v hnum
        exact RdRes.yes { c with hello := n } 4 (by rw [← HOO.out]; simp [hnum, hany]) rfl (rd_num HWH.out HO.out HP.out HG3.out H3.out hBR rfl rfl rfl) hb
  · have hk' : ¬ (st : Int) = 3 := by omega
    go_enter Tryz.func106, Tryz.ntmps106
    go_wp2_with (go_at_call 152; refine (next_no R 3 (st : Int) c own ports w hW hk').mono ?_; rintro e w' ⟨rfl, rfl⟩)
    go_ret
    exact RdRes.no (by rw [← HOO.out]; simp [hk]) rfl (Kb.refl _ _ _)
end Go.Proofs.YtfbangojgjcbcaaGreatDoor
namespace Go.Proofs.YtfbangojgjcbcaaGreatDoor
open Go.RowKit Pl

theorem number_at (s : List UInt8) (lo : Int) (hi : Nat) (R i : Nat) (t : TypeId) (cs : Array Value) (old : Value) (w : World) (hlo : 0 ≤ lo) (hs : s.length ≤ 1000000) (hh : hi < 1000000000) (E : Env w) (h : Whole w R t cs) (ho : cs[i]? = some old) (hNG : 8 ≤ R) :
    Calls Tryz.prog 153 #[.string (str s), .int .i64 lo, .int .i64 (hi : Int), .pointer (some ⟨R, i, none⟩)] w fun e w' => NumRes w s lo.toNat hi R i t cs e w' := by
  have := number_any s lo.toNat hi R i t cs old w hs hh E h ho hNG
  rwa [Int.toNat_of_nonneg hlo] at this

set_option maxRecDepth 100000 in
set_option maxHeartbeats 1000000 in
theorem mdead_any (s : List UInt8) (c : Cfg) (st : Nat) (B R : Nat) (w : World) (h : Rd 89 w B R c (st : Int)) (E : Env w) (_hNG : 8 ≤ B) (hBw : B ≤ w.heap.size) (hs : s.length ≤ 1000000) (hh : st = 4 → 0 ≤ c.hello ∧ c.hello ≤ 100) :
    Calls Tryz.prog 107 #[.pointer (some ⟨R, 0, none⟩), .string (str s)] w fun e w' => RdRes w B R (if st = 4 then (numIn s (c.hello + 1).toNat 100).map fun n => ({ c with dead := n }, 5) else none) e w' := by
  obtain ⟨own, ports, hW, hO, hP⟩ := h.is
  have hBR := h.ge
  obtain ⟨o, ho⟩ : ∃ o, (if st = 4 then (numIn s (c.hello + 1).toNat 100).map fun n => ({ c with dead := n }, 5) else none : Option (Cfg × Nat)) = o := ⟨_, rfl⟩
  rw [ho]
  have HOO := Lib.hid ho
  clear h ho
  by_cases hk : st = 4
  · obtain ⟨h0, h1⟩ := hh hk
    subst hk
    have HWH := Lib.hid hW
    have HO := Lib.hid hO
    have HP := Lib.hid hP
    clear hO hP hh
    go_enter Tryz.func107, Tryz.ntmps107
    go_wp2
    refine wp_region_front 3 14 (by kernel_rfl) (by kernel_rfl) ?_
    simp only [List.take_succ_cons, List.take_zero, List.drop_succ_cons, List.drop_zero]
    go_wp2_with fail
    refine (next_yes R 4 c own ports w.drew HWH.out.drew ⟨by decide, by decide⟩).mono ?_
    rintro e w1 ⟨rfl, g1, hg1⟩
    have hg1' : w.grownBy w1 (some R) := grownBy_drew hg1
    have E1 := E.below (Nat.le_refl _) (below_grown hg1' E.size hBR)
    have HG1 := Lib.hid hg1'
    have H1 := Lib.hid g1
    have c4 : w1.cell? ⟨R, 4, none⟩ = some (.int .i64 c.hello) := g1.cell 4
    have hR1 := g1.lt
    clear hg1 hg1' g1 hW
    go_wp2_with fail
    refine ⟨fun w' => ∃ x : Ext w1, w' = x.w, ⟨⟨_, Below.refl _ _⟩, rfl⟩, ?_⟩
    have hw1 : IntKind.i64.wrap (c.hello + 1) = c.hello + 1 := by rw [IntKind.wrap_i64]; omega
    repeat (go_big_quiet_step (first | (go_at_call 153; fail)))
    refine wpQuiet_nil ?_
    rintro _ ⟨x, rfl⟩
    clear hw1
    have H2 := Lib.hid (H1.out.here x.below)
    have hlo : 0 ≤ c.hello + 1 := by omega
    go_wp2_with fail
    refine (number_at s (c.hello + 1) 100 R 5 89 _ (.int .i64 c.dead) _ hlo hs (by decide) (E1.here x.below) H2.out rfl hBR).mono ?_
    rintro e w3 ⟨rfl, n, hn, h3, hg3⟩
    have HG3 := Lib.hid (grown_trans (grown_trans HG1.out (grown_below _ x.below)) hg3)
    have H3 := Lib.hid h3
    have HN := Lib.hid hn
    clear h3 hg3 hn
    go_wp2
    go_ret
    have hb := kb_grown HG3.out hBw
    cases hnum : numIn s (c.hello + 1).toNat 100 with
    | none => exact RdRes.no (by rw [← HOO.out]; simp [hnum]) rfl hb
    | some v =>
      obtain rfl : n = v := HN.out v hnum
      exact RdRes.yes { c with dead := n } 5 (by rw [← HOO.out]; simp [hnum]) rfl (rd_num HWH.out HO.out HP.out HG3.out H3.out hBR rfl rfl rfl) hb
  · have hk' : ¬ (st : Int) = 4 := by omega
    go_enter Tryz.func107, Tryz.ntmps107
    go_wp2
    refine wp_region_front 3 14 (by kernel_rfl) (by kernel_rfl) ?_
    simp only [List.take_succ_cons, List.take_zero, List.drop_succ_cons, List.drop_zero]
    go_wp2_with fail
    refine (next_no R 4 (st : Int) c own ports w.drew hW.drew hk').mono ?_
    rintro e w1 ⟨rfl, rfl⟩
    go_wp2_with fail
    refine ⟨fun w' => ∃ x : Ext w.drew, w' = x.w, ⟨⟨_, Below.refl _ _⟩, rfl⟩, ?_⟩
    repeat (go_big_quiet_step (first | (go_at_call 153; fail)))
    refine wpQuiet_nil ?_
    rintro _ ⟨x, rfl⟩
    go_wp2
    go_ret
    exact RdRes.no (by rw [← HOO.out]; simp [hk]) rfl (Kb.of_below ((below_undrew x.below).mono hBw))
end Go.Proofs.YtfbangojgjcbcaaGreatDoor
