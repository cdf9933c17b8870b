/- Part 16 of the proof: ActI, ActJ, PlainW2, PlainB3, RdrD. -/
import Derived.Test.YtfbangojgjcbcaaGreatDoorSB11
import Derived.Test.YtfbangojgjcbcaaGreatDoorSB12
import Derived.Test.YtfbangojgjcbcaaGreatDoorSB13
import Derived.Test.YtfbangojgjcbcaaGreatDoorSB14
import Derived.Test.YtfbangojgjcbcaaGreatDoorSB15
namespace Go.Proofs.YtfbangojgjcbcaaGreatDoor
open Go.RowKit Pl Go.Shelf
set_option maxRecDepth 100000 in
set_option maxHeartbeats 4000000 in
theorem names1g_in {α : Type} (kf : α → Nat) (ls : List α) (hls : ls.map kf = kinds9) (F : Fence) (n : Nat) (hF : F.fn 141) (hro : F.round = none) (hn : 1 ≤ n) (l Bs lo hi : Nat) (v : Value) (J Jx : List α → World → Prop)
    (hY : ∀ (pre : List α) (x : α) (W : World), J pre W → pre.length < 9 → YieldAt F (n - 1) Tryz.prog l #[.int .i64 (kf x : Int), .string (str (nameA (kf x)))] W fun e W' =>
      (e = .returned (.bool true) ∧ J (pre ++ [x]) W' ∧ Between lo hi W W') ∨ (e = .returned (.bool false) ∧ Jx (pre ++ [x]) W'))
    (W : World) (hBs : W.cell? ⟨Bs, 0, none⟩ = some v) (hE : Ss lo hi W v names9) (h0 : J [] W) :
    CallsIn F n Tryz.prog 141 #[.func (.yield l) #[] #[], .pointer (some ⟨Bs, 0, none⟩)] W fun e W' => (∃ v, e = .returned v) ∧
      ((∃ ys, ys = ls ∧ J ys W') ∨ (∃ pre, pre <+: ls ∧ Jx pre W')) := by
  have HE := Lib.hid hE
  obtain ⟨A, c, rfl, _⟩ := hE
  change W.cell? ⟨Bs, 0, none⟩ = some (.slice A 9 c) at hBs
  refine callsIn_of_wp Tryz.func141 rfl hF ?_ hro
  simp only [Tryz.ntmps141, List.size_toArray, List.length_cons, List.length_nil, Nat.reduceAdd, Nat.reduceSub, Array.replicate_succ, Array.replicate_zero, List.push_toArray, List.append_toArray, List.nil_append, List.cons_append]
  gi_wp2
  gi_loopw [7] (fun i wr => ∃ k : Nat, k ≤ 9 ∧ i = .int .i64 k ∧ J (ls.take k) wr ∧ Between lo hi W wr) (fun i _ => 9 - (intOf i).toNat)
  case atStart => exact ⟨0, Nat.zero_le _, rfl, h0, Between.refl _⟩
  case round =>
    obtain ⟨k, hk, rfl, hJs, hnx⟩ := hrel
    by_cases hlt : k < 9
    · obtain ⟨A', c', hv, hA⟩ := HE.out.keep hnx
      injection hv with hv1 hv2 hv3
      subst hv1 hv3
      obtain ⟨b, off, rfl, hb, hcell⟩ := hA (by decide)
      have hu0 : kinds9[k]? = some (k + 1) := by rcases (by omega : k = 0 ∨ k = 1 ∨ k = 2 ∨ k = 3 ∨ k = 4 ∨ k = 5 ∨ k = 6 ∨ k = 7 ∨ k = 8) with rfl | rfl | rfl | rfl | rfl | rfl | rfl | rfl | rfl <;> rfl
      have c0 := hcell k (nameA (k + 1)) (by unfold names9; rw [List.getElem?_map, hu0]; rfl)
      obtain ⟨x, hu, hkx⟩ : ∃ x, ls[k]? = some x ∧ kf x = k + 1 := by
        rw [← hls, List.getElem?_map] at hu0
        cases hx : ls[k]? with
        | none => rw [hx] at hu0; cases hu0
        | some x => rw [hx] at hu0; exact ⟨x, rfl, Option.some.inj hu0⟩
      have HT : Hid (ls.take (k + 1) = ls.take k ++ [x]) := Lib.hid (by rw [List.take_add_one, hu]; rfl)
      clear hcell hA hu hu0 hv2
      have hkl : (ls.take k).length < 9 := by rw [List.length_take]; omega
      obtain ⟨fn, tmps, assign, body, hy, hR⟩ := hY (ls.take k) x _ hJs hkl
      have ek : ((k + 1 : Nat) : Int) = (k : Int) + 1 := by omega
      rw [hkx, ek] at hy
      clear hkl ek hkx
      gi_wp2
      refine hR.mono ?_
      rintro e W3 (⟨rfl, hJ3, hk3⟩ | ⟨rfl, hJx3⟩)
      · gi_wp2
        go_roundw
        case rel => exact ⟨k + 1, by omega, by go_num, by rw [HT.out]; exact hJ3, hnx.trans hk3⟩
        case measure => simp [intOf]; omega
      · gi_wp2
        refine bodyPost_ret (results_none rfl _ _ _) rfl ?_
        exact ⟨⟨_, rfl⟩, .inr ⟨ls.take k ++ [x], by rw [← HT.out]; exact List.take_prefix _ _, hJx3⟩⟩
    · obtain rfl : k = 9 := by omega
      have e9 : ls.take 9 = ls := List.take_of_length_le (by have := congrArg List.length hls; rw [List.length_map] at this; exact Nat.le_of_eq this)
      rw [e9] at hJs
      gi_wp2
      go_end0
      exact ⟨⟨_, rfl⟩, .inl ⟨_, rfl, hJs⟩⟩
theorem names1g_stops {α : Type} (kf : α → Nat) (ls : List α) (hls : ls.map kf = kinds9) (F : Fence) (n : Nat) (hF : F.fn 141) (hro : F.round = none) (hn : 1 ≤ n) (Bs lo hi : Nat) (v : Value) (w : World) (hBn : Bs < w.heap.size) (hhi : hi ≤ w.heap.size)
    (hc : w.cell? ⟨Bs, 0, none⟩ = some v) (hE : Ss lo hi w v names9) :
    SeqStopsK F n Tryz.prog 141 #[.pointer (some ⟨Bs, 0, none⟩)] (fun x : α => #[.int .i64 (kf x : Int), .string (str (nameA (kf x)))]) (Between lo hi) (fun ys => ys = ls) (fun pre => pre <+: ls) 9 w := fun l J Jx W hW _ _ hY h0 =>
  names1g_in kf ls hls F n hF hro hn l Bs lo hi v J Jx hY W ((hW.cell (p := ⟨Bs, 0, none⟩) hBn).trans hc) (hE.keep (Between.of_below (hW.mono hhi))) h0
/-- The kinds. -/
abbrev K19 := {x : Nat // 1 ≤ x ∧ x ≤ 9}
def kinds19 : List K19 := [⟨1, by decide⟩, ⟨2, by decide⟩, ⟨3, by decide⟩, ⟨4, by decide⟩, ⟨5, by decide⟩, ⟨6, by decide⟩, ⟨7, by decide⟩, ⟨8, by decide⟩, ⟨9, by decide⟩]
theorem kinds19_val : kinds19.map Subtype.val = kinds9 := rfl
theorem csplit_own (s : List UInt8) (w : World) (hs : s.length ≤ 1000000) (E : Env w) :
    Calls Tryz.prog 83 #[.string (str s), .string ⟨#[32]⟩] w fun e w' => (∃ v, e = .returned v ∧ w'.ownsRow w.heap.size 9 1 v (splitOn 32 s).length ((splitOn 32 s).map Sv)) ∧ Below w.heap.size w w' := by
  obtain ⟨m, hm⟩ := E.maxlen
  refine (Tryz.strings_Split (str s) (str [32]) m w (by rw [str_size]; omega) hm (by rw [str_size]; simp)).mono fun e w' ⟨he, hw⟩ => ?_
  rw [splitB_str] at hw
  have hlen : Lib.countB (str s) (str [32]) + 1 = (splitOn 32 s).length := by
    have h := Lib.splitB_all (str [32]) (by rw [str_size]; simp) 0 _ (str s) rfl
    rw [splitB_str, List.length_map] at h; omega
  rw [hlen] at he
  refine ⟨⟨_, he, ?_⟩, by rw [hw]; exact (Below.refl _ _).alloc (Nat.le_refl _) _⟩
  rw [hw, List.map_map]
  have := World.ownsRow_lit (base := w.heap.size) (e := 9) (size := 1) w ((splitOn 32 s).map Sv).toArray (splitOn 32 s).length (Nat.le_refl _) (by have := (splitOn_len 32 s).1; unfold maxLen; omega) (by simp)
  exact this
end Go.Proofs.YtfbangojgjcbcaaGreatDoor
namespace Go.Proofs.YtfbangojgjcbcaaGreatDoor
open Go.RowKit Pl Go.Shelf
attribute [local go_sem] Oper.semAt_some
def ActOfRes (r : Option ActP) (e : Ending) (w' : World) : Prop := match r with
  | some a => ∃ bv, e = .returned (.tuple #[actV a bv, .int .i64 0]) ∧ Bs w' bv a.bytes
  | none => e = .returned (.tuple #[actV { kind := 0 } (.slice none 0 0), .int .i64 4])
/-- The same; and its bytes lie in new memory. -/
def ActOfFrom (r : Option ActP) (base : Nat) (e : Ending) (w' : World) : Prop := match r with
  | some a => ∃ bv, e = .returned (.tuple #[actV a bv, .int .i64 0]) ∧ Bs w' bv a.bytes ∧ BlkFrom base bv
  | none => e = .returned (.tuple #[actV { kind := 0 } (.slice none 0 0), .int .i64 4])
theorem ActOfFrom.res {r : Option ActP} {base : Nat} {e : Ending} {w' : World} (h : ActOfFrom r base e w') : ActOfRes r e w' := by
  cases r with
  | none => exact h
  | some a => obtain ⟨bv, h1, h2, _⟩ := h; exact ⟨bv, h1, h2⟩
theorem wd_pad : ∀ (l : List (List UInt8)) (i : Nat), wd (l ++ [[], [], [], [], []]) i = wd l i
  | [], 0 | [], 1 | [], 2 | [], 3 | [], 4 => rfl
  | [], _ + 5 => rfl
  | _ :: _, 0 => rfl
  | _ :: l, i + 1 => wd_pad l i
theorem Bsl {w : World} {base g c : Nat} {ws : List (List UInt8)} {n : Nat} (h : w.ownsRow base 9 1 (.slice (some ⟨g, 0, none⟩) n c) ws.length (ws.map Sv)) : ws.length ≤ c ∧ ∀ j x, ws[j]? = some x → w.cell? ⟨g, j, none⟩ = some (.string (str x)) := by
  constructor
  · rcases h.2 with ⟨h', _⟩ | ⟨g', cap', cur, h', _, _, hnc, _⟩
    · cases h'
    · injection h' with _ _ h'; subst h'; exact hnc
  · intro j x hx
    have := h.cells (g := g) rfl j (Sv x) (by rw [List.getElem?_map, hx]; rfl)
    rw [show ((⟨g, 0, none⟩ : Addr).add j) = ⟨g, 0 + j, none⟩ from by unfold Addr.add; by_cases hj : j = 0 <;> simp [hj], Nat.zero_add] at this
    exact this
/-- None of these kinds tells an act of the text. -/
def NoAct (ws : List (List UInt8)) (s : List UInt8) (pre : List K19) : Prop := ∀ x ∈ pre, ¬ (wd ws 0 = nameA x.val ∧ isA (guessA numC x.val ws) s = true)
theorem NoAct.snoc {ws : List (List UInt8)} {s : List UInt8} {pre : List K19} {x : K19} (h : NoAct ws s pre) (hx : ¬ (wd ws 0 = nameA x.val ∧ isA (guessA numC x.val ws) s = true)) : NoAct ws s (pre ++ [x]) := by
  intro y hy
  rcases List.mem_append.1 hy with h' | h'
  · exact h y h'
  · simp only [List.mem_singleton] at h'
    rw [h']; exact hx
theorem kindA_name {x : Nat} (h1 : 1 ≤ x) (h9 : x ≤ 9) : kindA (nameA x) = some x := by
  rcases (by omega : x = 1 ∨ x = 2 ∨ x = 3 ∨ x = 4 ∨ x = 5 ∨ x = 6 ∨ x = 7 ∨ x = 8 ∨ x = 9) with rfl | rfl | rfl | rfl | rfl | rfl | rfl | rfl | rfl <;> decide
theorem guess_pad {f : List UInt8 → Int} {ws vs : List (List UInt8)} (h : ∀ i, wd ws i = wd vs i) (k : Nat) : guessA f k ws = guessA f k vs := by
  unfold guessA
  split <;> simp only [h]
theorem actC_of (ws : List (List UInt8)) (s : List UInt8) (x : K19) (hw : ∀ i, wd ws i = wd (splitOn 32 s) i) (h0 : wd ws 0 = nameA x.val) (h : isA (guessA numC x.val ws) s = true) : actC s = some (guessA numC x.val ws) := by
  unfold actC actW
  rw [← hw 0, h0, kindA_name x.2.1 x.2.2]
  simp only
  rw [← guess_pad hw, if_pos h]
theorem actC_none (ws : List (List UInt8)) (s : List UInt8) (hw : ∀ i, wd ws i = wd (splitOn 32 s) i) (h : NoAct ws s kinds19) : actC s = none := by
  unfold actC actW
  rw [← hw 0]
  cases hk : kindA (wd ws 0) with
  | none => rfl
  | some k =>
    obtain ⟨h1, h9, hn⟩ := kindA_le hk
    simp only
    have hm : (⟨k, h1, h9⟩ : K19) ∈ kinds19 := by
      rcases (by omega : k = 1 ∨ k = 2 ∨ k = 3 ∨ k = 4 ∨ k = 5 ∨ k = 6 ∨ k = 7 ∨ k = 8 ∨ k = 9) with rfl | rfl | rfl | rfl | rfl | rfl | rfl | rfl | rfl <;> simp [kinds19]
    have := h _ hm
    rw [← guess_pad hw, if_neg (fun hi => this ⟨hn, hi⟩)]
theorem unhex_len : ∀ (l m : List UInt8), unhex l = some m → m.length ≤ l.length
  | [], m, h => by simp [unhex] at h; subst h; simp
  | [_], m, h => by simp [unhex] at h
  | a :: b :: t, m, h => by
    unfold unhex at h
    split at h
    · cases hu : unhex t with
      | none => rw [hu] at h; simp at h
      | some r =>
        rw [hu] at h
        have := unhex_len t r hu
        simp at h
        subst h
        simp; omega
    · cases h
theorem unhexD_len (l : List UInt8) : (unhexD l).length ≤ l.length := by
  unfold unhexD
  cases h : unhex l with
  | none => simp
  | some m => exact unhex_len l m h
theorem guess_bytes (k : Nat) (ws : List (List UInt8)) (h : ∀ x ∈ ws, x.length ≤ 100000) : (guessA numC k ws).bytes.length ≤ 100000 := by
  have hw : (wd ws 2).length ≤ 100000 := by
    unfold wd
    rw [List.getD_eq_getElem?_getD]
    cases hx : ws[2]? with
    | none => simp
    | some y => exact h y (List.mem_of_getElem? hx)
  have hu : (unhexD (wd ws 2)).length ≤ (wd ws 2).length := unhexD_len _
  unfold guessA
  split <;> simp <;> omega
theorem box9 {W : World} {g : Nat} {t : TypeId} {x0 x1 x2 x3 x4 x5 x6 x7 x8 : Value} (h : Whole W g t #[x0, x1, x2, x3, x4, x5, x6, x7, x8]) (a0 a1 a2 a3 a4 a5 a6 a7 a8 : Value) :
    Whole (((((((((W.setCell ⟨g, 0, none⟩ a0).setCell ⟨g, 1, none⟩ a1).setCell ⟨g, 2, none⟩ a2).setCell ⟨g, 3, none⟩ a3).setCell ⟨g, 4, none⟩ a4).setCell ⟨g, 5, none⟩ a5).setCell ⟨g, 6, none⟩ a6).setCell ⟨g, 7, none⟩ a7).setCell ⟨g, 8, none⟩ a8) g t #[a0, a1, a2, a3, a4, a5, a6, a7, a8] := by
  have := ((((((((h.set 0 a0).set 1 a1).set 2 a2).set 3 a3).set 4 a4).set 5 a5).set 6 a6).set 7 a7).set 8 a8
  simp only [List.setIfInBounds_toArray, List.set_cons_zero, List.set_cons_succ] at this
  exact this
theorem far9 {W : World} {g b : Nat} {t : TypeId} {cs : Array Value} (h : Whole W g t cs) (hb : g ≠ b) (a0 a1 a2 a3 a4 a5 a6 a7 a8 : Value) :
    Whole (((((((((W.setCell ⟨b, 0, none⟩ a0).setCell ⟨b, 1, none⟩ a1).setCell ⟨b, 2, none⟩ a2).setCell ⟨b, 3, none⟩ a3).setCell ⟨b, 4, none⟩ a4).setCell ⟨b, 5, none⟩ a5).setCell ⟨b, 6, none⟩ a6).setCell ⟨b, 7, none⟩ a7).setCell ⟨b, 8, none⟩ a8) g t cs :=
  ((((((((h.far (p := ⟨b, 0, none⟩) hb a0).far (p := ⟨b, 1, none⟩) hb a1).far (p := ⟨b, 2, none⟩) hb a2).far (p := ⟨b, 3, none⟩) hb a3).far (p := ⟨b, 4, none⟩) hb a4).far (p := ⟨b, 5, none⟩) hb a5).far (p := ⟨b, 6, none⟩) hb a6).far (p := ⟨b, 7, none⟩) hb a7).far (p := ⟨b, 8, none⟩) hb a8
theorem keeps9 (W : World) (g : Nat) (a0 a1 a2 a3 a4 a5 a6 a7 a8 : Value) :
    KeepsOthers W (((((((((W.setCell ⟨g, 0, none⟩ a0).setCell ⟨g, 1, none⟩ a1).setCell ⟨g, 2, none⟩ a2).setCell ⟨g, 3, none⟩ a3).setCell ⟨g, 4, none⟩ a4).setCell ⟨g, 5, none⟩ a5).setCell ⟨g, 6, none⟩ a6).setCell ⟨g, 7, none⟩ a7).setCell ⟨g, 8, none⟩ a8) :=
  ((((((((KeepsOthers.setCell _ _ _).trans (KeepsOthers.setCell _ _ _)).trans (KeepsOthers.setCell _ _ _)).trans (KeepsOthers.setCell _ _ _)).trans (KeepsOthers.setCell _ _ _)).trans (KeepsOthers.setCell _ _ _)).trans (KeepsOthers.setCell _ _ _)).trans (KeepsOthers.setCell _ _ _)).trans (KeepsOthers.setCell _ _ _)
/-- The results' cells, once a round has left. -/
def ActOut (s : List UInt8) (H : Nat) (w : World) (c : Code) (W : World) : Prop := c = .ret ∧ ∃ a A n k, actC s = some a ∧ Whole W (H + 1) 51 #[.int .i64 a.kind, .int .i64 a.node, .int .i64 a.port, .int .i64 a.cost, .int .i64 a.n, .bool a.up, .int .u8 (a.by_.toNat : Int), .bool a.unread, .slice A n k] ∧
  Whole W (H + 2) 29 #[.int .i64 0] ∧ Bs W (.slice A n k) a.bytes ∧ Below w.heap.size w W ∧ BlkFrom w.heap.size (.slice A n k)
theorem Bs.kept {X Y : World} {v : Value} {l : List UInt8} {row : Option Nat} (h : Bs X v l) (hg : X.grownBy Y row) (hr : ∀ r, row = some r → ∃ o : Obj, X.heap[r]? = some o ∧ o.isCells = false) : Bs Y v l := by
  obtain ⟨A, c, rfl, hc, hn, hA⟩ := h
  refine ⟨A, c, rfl, hc, hn, fun hp => ?_⟩
  obtain ⟨b, off, rfl, hb, hcell⟩ := hA hp
  exact ⟨b, off, rfl, Nat.lt_of_lt_of_le hb hg.size, fun j u hu => cell_kept (hcell j u hu) hg hr⟩
theorem ActOut.own {s : List UInt8} {H B : Nat} {w : World} {c : Code} {X Y : World} {row : Option Nat} (hB : w.heap.size ≤ B) (h : ActOut s H w c X) (hg : X.grownBy Y row) (hr : ∀ r, row = some r → B ≤ r ∧ ∃ o : Obj, X.heap[r]? = some o ∧ o.isCells = false) : ActOut s H w c Y := by
  obtain ⟨hc, a, A, n, k, h1, h2, h3, h4, h5, h6⟩ := h
  exact ⟨hc, a, A, n, k, h1, whole_own _ _ (fun _ : Unit => _) () X Y row h2 hg (fun r e => (hr r e).2), whole_own _ _ (fun _ : Unit => _) () X Y row h3 hg (fun r e => (hr r e).2), h4.kept hg (fun r e => (hr r e).2), ownFrom_below (β := Unit) (Nat.le_refl _) hB () X Y row h5 hg hr, h6⟩
set_option maxRecDepth 100000 in
set_option maxHeartbeats 8000000 in
theorem cactOf_from (s : List UInt8) (w : World) (hs : s.length ≤ 100000) (E : Env w) :
    Calls Tryz.prog 36 #[.string (str s)] w fun e w' => ActOfFrom (actC s) w.heap.size e w' ∧ Below w.heap.size w w' := by
  obtain ⟨W0, hW0⟩ : ∃ W0, ((w.alloc (.cells #[.string (str s)] 9)).alloc (.cells #[.int .i64 0, .int .i64 0, .int .i64 0, .int .i64 0, .int .i64 0, .bool false, .int .u8 0, .bool false, .slice none 0 0] 51)).alloc (.cells #[.int .i64 0] 29) = W0 := ⟨_, rfl⟩
  have HB0 : Hid (Below w.heap.size w W0) := Lib.hid (by rw [← hW0]; exact (((Below.refl _ _).alloc (Nat.le_refl _) _).alloc (by simp) _).alloc (by simp; omega) _)
  have HXs : Hid (Whole W0 w.heap.size 9 #[.string (str s)]) := Lib.hid (by rw [← hW0]; exact ((Whole.new w _ _).alloc _).alloc _)
  have HXa : Hid (Whole W0 (w.heap.size + 1) 51 #[.int .i64 0, .int .i64 0, .int .i64 0, .int .i64 0, .int .i64 0, .bool false, .int .u8 0, .bool false, .slice none 0 0]) := Lib.hid (by
    rw [← hW0]
    have := (Whole.new (w.alloc (.cells #[.string (str s)] 9)) 51 #[.int .i64 0, .int .i64 0, .int .i64 0, .int .i64 0, .int .i64 0, .bool false, .int .u8 0, .bool false, .slice none 0 0]).alloc (.cells #[.int .i64 0] 29)
    simpa using this)
  have HXe : Hid (Whole W0 (w.heap.size + 2) 29 #[.int .i64 0]) := Lib.hid (by
    rw [← hW0]
    have := Whole.new ((w.alloc (.cells #[.string (str s)] 9)).alloc (.cells #[.int .i64 0, .int .i64 0, .int .i64 0, .int .i64 0, .int .i64 0, .bool false, .int .u8 0, .bool false, .slice none 0 0] 51)) 29 #[.int .i64 0]
    simpa using this)
  have hs0 : W0.heap.size = w.heap.size + 3 := by rw [← hW0]; simp
  have E0 := Lib.hid (E.here HB0.out)
  have HSP := Lib.hid (csplit_own s W0 (by omega) E0.out)
  have hws := (splitOn_len 32 s).1
  have HWL := Lib.hid (splitOn_len 32 s).2
  have HW0 := Lib.hid hW0
  have ys : W0.cell? ⟨w.heap.size, 0, none⟩ = some (.string (str s)) := HXs.out.cell 0
  have hlt0 : w.heap.size < W0.heap.size := by omega
  clear hW0 E
  refine (callsIn_wide (n := 3)).1 ?_
  refine callsIn_of_wp_marks Tryz.func36 rfl trivial ?_ rfl
  simp only [Tryz.ntmps36, List.size_toArray, List.length_cons, List.length_nil, Nat.reduceAdd, Nat.reduceSub, Array.replicate_succ, Array.replicate_zero, List.push_toArray, List.append_toArray, List.nil_append, List.cons_append]
  gi_wp2
  rw [HW0.out]
  refine ⟨trivial, (callsIn_wide.2 HSP.out).mono ?_⟩
  rintro e w1 ⟨⟨v, rfl, hown⟩, hb1⟩
  obtain ⟨g1, cap1, rfl, -, hg1⟩ := hown.form (by have := splitOn_ne 32 s; exact List.length_pos_iff.2 this)
  have HO1 := Lib.hid hown
  have HB1 := Lib.hid hb1
  have hs1 := hb1.size
  obtain ⟨i0, hi0, hz0, hz1, hz2⟩ := info_parts info_str
  clear hown hb1
  gi_wp2_with (gi_at_builtin; refine wpListIn_append_own _ rfl _ _ 40 rfl W0.heap.size 9 i0 (.string ⟨#[]⟩) 1 16 Tryz.underlying40 hi0 hz0 hz1 hz2 rfl (by decide) _ _ _ rfl (HO1.out.alloc _) ⟨w1.heap.size, 0, none⟩ 5 5 [.string ⟨#[]⟩, .string ⟨#[]⟩, .string ⟨#[]⟩, .string ⟨#[]⟩, .string ⟨#[]⟩] rfl rfl (World.news_of_block (heap_alloc_new w1 _)) (by intro y hy; simp at hy; subst hy; rfl) (by unfold maxLen; omega) (by omega) (by simp; omega) ?_)
  intro v' w2 hown2 hgr _
  obtain ⟨g2, cap2, rfl, -, hg2⟩ := hown2.form (by omega)
  obtain ⟨ws, hws2⟩ : ∃ ws, splitOn 32 s ++ [[], [], [], [], []] = ws := ⟨_, rfl⟩
  have hwl : ws.length = (splitOn 32 s).length + 5 := by rw [← hws2]; simp
  have hmp : (splitOn 32 s).map Sv ++ [.string ⟨#[]⟩, .string ⟨#[]⟩, .string ⟨#[]⟩, .string ⟨#[]⟩, .string ⟨#[]⟩] = ws.map Sv := by rw [← hws2, List.map_append]; rfl
  rw [hmp, ← hwl] at hown2
  have hb2 : Below W0.heap.size W0 w2 := (HB1.out.alloc hs1 _).grown hgr (by simp; omega) (fun g hg => (HO1.out.lt g hg).1)
  have hwd2 : Wds w2 g2 ws.length cap2 ws := by
    have hn := Bsl hown2
    exact ⟨rfl, hn.1, hg2, fun j x hx => hn.2 j x hx⟩
  have hcw : ∀ i, wd ws i = wd (splitOn 32 s) i := fun i => by rw [← hws2]; exact wd_pad _ _
  have hlw : ∀ x ∈ ws, x.length ≤ 100000 := fun x hx => by
    rw [← hws2] at hx
    rcases List.mem_append.1 hx with h | h
    · exact Nat.le_trans (HWL.out x h) hs
    · simp only [List.mem_cons, List.not_mem_nil, or_false, or_self] at h
      rw [h]; simp
  have hw5 : 5 ≤ ws.length := by omega
  have hwn : ws.length ≤ 1000000 := by omega
  have HCW := Lib.hid hcw
  have HLW := Lib.hid hlw
  obtain ⟨W2, hW2⟩ : ∃ W2, w2.alloc (.cells #[.slice (some ⟨g2, 0, none⟩) ws.length cap2] 40) = W2 := ⟨_, rfl⟩
  have HB2 : Hid (Below W0.heap.size W0 W2) := Lib.hid (by rw [← hW2]; exact hb2.alloc hb2.size _)
  have HWB : Hid (Whole W2 w2.heap.size 40 #[.slice (some ⟨g2, 0, none⟩) ws.length cap2]) := Lib.hid (by rw [← hW2]; exact Whole.new _ _ _)
  have HWD : Hid (Wds W2 g2 ws.length cap2 ws) := Lib.hid (by rw [← hW2]; exact hwd2.here ((Below.refl _ _).alloc (Nat.le_refl _) _))
  have hn5 : (splitOn 32 s).length + 5 = ws.length := hwl.symm
  have HW2 := Lib.hid hW2
  obtain ⟨Bw, hBw⟩ : ∃ Bw, w2.heap.size = Bw := ⟨_, rfl⟩
  rw [hBw] at HWB
  have HBw := Lib.hid hBw
  have hBw0 : W0.heap.size ≤ Bw := by have := hb2.size; omega
  have HN5 := Lib.hid hn5
  clear hown2 hgr hws2 hwl hmp hb2 hwd2 hcw hlw hW2 hBw hn5
  gi_wp2
  rw [HN5.out, HBw.out, HW2.out]
  refine ⟨trivial, (callsIn_wide.2 (names_any W2)).mono ?_⟩
  rintro e W3 ⟨⟨Bq, vs, rfl, ⟨hlo, hBq⟩, hc, hS⟩, hb3⟩
  have HB3 : Hid (Below W0.heap.size W0 W3) := Lib.hid (HB2.out.trans (hb3.mono HB2.out.size))
  have HS := Lib.hid hS
  have HXs3 := Lib.hid (HXs.out.here HB3.out)
  have HXa3 := Lib.hid (HXa.out.here HB3.out)
  have HXe3 := Lib.hid (HXe.out.here HB3.out)
  have HWB3 := Lib.hid (HWB.out.here hb3)
  have HWD3 := Lib.hid (HWD.out.here hb3)
  have E3 := Lib.hid (E0.out.here HB3.out)
  have hs3 := HB3.out.size
  have hBw3 := HWB3.out.lt
  have hg3 := HWD3.out.lt
  clear hb3 hS
  gi_wp2
  refine wpIn_rangeFunc_ownH (F := Fence.wide) rfl (by decide) (gf := 141) (lb := #[.pointer (some ⟨Bq, 0, none⟩)]) rfl trivial (enters_of Tryz.func141 (by kernel_rfl) rfl)
    (names1g_stops (Subtype.val : K19 → Nat) kinds19 kinds19_val Fence.wide 2 trivial rfl (by decide) Bq W2.heap.size W3.heap.size vs W3 hBq (Nat.le_refl _) hc HS.out) Between.trans (fun W l o o' hl _ _ _ => Between.put hl) (Below.refl _ _) (fun _ => rfl)
    (fun pre W => Below W3.heap.size W3 W ∧ NoAct ws s pre)
    (fun c _ W => ActOut s w.heap.size w c W)
    (OwnFrom.and (ownFrom_below (Nat.le_refl _) (Nat.le_refl _)) (fun _ _ _ _ h _ _ => h))
    (fun c _ X Y row hs hg hr => ActOut.own (by omega) hs hg hr)
    ⟨Below.refl _ _, fun x hx => by cases hx⟩
    (fun x a' _ => ∃ u7 u13 u14 u15 u16 u17 u18 u19 u20 u21 u22 u23 u24 u25 u26 u27 u28 u29 u30 u31 u32, a' = { tmps := #[.string (str s), .pointer (some ⟨w.heap.size, 0, none⟩), .pointer (some ⟨w.heap.size + 1, 0, none⟩), .pointer (some ⟨w.heap.size + 2, 0, none⟩), .pointer (some ⟨Bw, 0, none⟩), .int .i64 (x.val : Int), .string (str (nameA x.val)), u7, .string (str s), .slice (some ⟨g1, 0, none⟩) (splitOn 32 s).length cap1, .slice (some ⟨w1.heap.size, 0, none⟩) 5 5, .slice (some ⟨g2, 0, none⟩) ws.length cap2, .func (.func 141) #[] #[.pointer (some ⟨Bq, 0, none⟩)], u13, u14, u15, u16, u17, u18, u19, u20, u21, u22, u23, u24, u25, u26, u27, u28, u29, u30, u31, u32], defers := [] })
    (fun x a' _ X Y row hs hg hr => hs)
    ?assign ?body ?done ?stop
  case assign =>
    rintro l pre x W K hI hK
    gi_wp2
    exact hK _ _ ((KeepsOthers.refl _).from _) (Between.refl W) hI ⟨_, _, _, _, _, _, _, _, _, _, _, _, _, _, _, _, _, _, _, _, _, rfl⟩
  case body =>
    rintro l pre x a' W hl _ ⟨hB, hno⟩ ⟨u7, u13, u14, u15, u16, u17, u18, u19, u20, u21, u22, u23, u24, u25, u26, u27, u28, u29, u30, u31, u32, rfl⟩ hlt
    have hsW := hB.size
    have HB := Lib.hid hB
    have hWDW := HWD3.out.here hB
    obtain ⟨x0, hx0⟩ : ∃ y, ws[0]? = some y := ⟨_, List.getElem?_eq_getElem (by omega)⟩
    have hwd0 : wd ws 0 = x0 := by unfold wd; rw [List.getD_eq_getElem?_getD, hx0]; rfl
    have c0 : W.cell? ⟨g2, 0, none⟩ = some (.string (str x0)) := hWDW.at_ 0 _ hx0
    have cB : W.cell? ⟨Bw, 0, none⟩ = some (.slice (some ⟨g2, 0, none⟩) ws.length cap2) := (HWB3.out.here hB).cell 0
    have cs : W.cell? ⟨w.heap.size, 0, none⟩ = some (.string (str s)) := (HXs3.out.here hB).cell 0
    have HNO := Lib.hid hno
    have HX0 := Lib.hid hwd0
    have hwi : (0 : Int) < (ws.length : Int) := by omega
    have hwc : (ws.length : Int) ≤ (cap2 : Int) := by have := hWDW.cap; omega
    have hgW : g2 < W.heap.size := by omega
    have hbW : Bw < W.heap.size := by omega
    have hsW0 : w.heap.size < W.heap.size := by omega
    clear hB hno hx0 hwd0
    by_cases he : nameA x.val = x0
    · have l1 := str_eq_true he
      have l2 : (!(str (nameA x.val)).toList == (str x0).toList) = false := by rw [l1]; rfl
      have HE := Lib.hid he
      have HG := Lib.hid (guess_any x.val x.2.1 x.2.2 g2 ws.length cap2 ws W hWDW hw5 (fun y hy => Nat.le_trans (HLW.out y hy) (by omega)) (by omega) (E3.out.here HB.out))
      clear he l1 hWDW
      gi_wp2
      refine ⟨trivial, CallsIn.inRound l ((callsIn_wide.2 HG.out).mono ?_)⟩
      rintro e w4 ⟨⟨bv, rfl, hbv, hbf⟩, hb4⟩
      have HBF := Lib.hid hbf
      clear hbf
      have hin := guess_in (f := numC) numC_in x.val x.2.2 ws
      have hgk := guess_kind numC (k := x.val) ws
      have hgb := guess_bytes x.val ws (HLW.out)
      have HGA : Hid (isA (guessA numC x.val ws) s = (mayA (guessA numC x.val ws) && decide (actText (guessA numC x.val ws) = s))) := Lib.hid rfl
      have HACT : Hid (isA (guessA numC x.val ws) s = true → actC s = some (guessA numC x.val ws)) := Lib.hid (fun h => actC_of ws s x (fun i => HCW.out i) (by rw [HX0.out, HE.out]) h)
      have HFIN : Hid (isA (guessA numC x.val ws) s = false → NoAct ws s (pre ++ [x])) := Lib.hid (fun h => HNO.out.snoc (fun ⟨_, h2⟩ => by rw [h] at h2; cases h2))
      obtain ⟨isA', hisA⟩ : ∃ b, isA (guessA numC x.val ws) s = b := ⟨_, rfl⟩
      rw [hisA] at HGA HACT HFIN
      generalize guessA numC x.val ws = a at *
      obtain ⟨A, c, rfl, -⟩ := id hbv
      have HBV := Lib.hid hbv
      have HK9 : Hid (K9 a) := Lib.hid ⟨by rw [hgk]; have := x.2.1; omega, by rw [hgk]; have := x.2.2; omega⟩
      have HIA := Lib.hid hin
      have HB4 := Lib.hid (HB.out.trans (hb4.mono hsW))
      have hs4 := hb4.size
      obtain ⟨W4, hW4⟩ : ∃ W4, w4.alloc (.cells #[.int .i64 a.kind, .int .i64 a.node, .int .i64 a.port, .int .i64 a.cost, .int .i64 a.n, .bool a.up, .int .u8 (a.by_.toNat : Int), .bool a.unread, .slice A a.bytes.length c] 51) = W4 := ⟨_, rfl⟩
      have HP4 : Hid (Whole W4 w4.heap.size 51 #[.int .i64 a.kind, .int .i64 a.node, .int .i64 a.port, .int .i64 a.cost, .int .i64 a.n, .bool a.up, .int .u8 (a.by_.toNat : Int), .bool a.unread, .slice A a.bytes.length c]) := Lib.hid (by rw [← hW4]; exact Whole.new _ _ _)
      have HB5 : Hid (Below W3.heap.size W3 W4) := Lib.hid (by rw [← hW4]; exact HB4.out.alloc (by omega) _)
      have HK5 : Hid (KeepsOthers W W4) := Lib.hid (by rw [← hW4]; exact (keeps_below hb4).trans (KeepsOthers.alloc _ _))
      have HBW4 : Hid (Below W.heap.size W W4) := Lib.hid (by rw [← hW4]; exact hb4.alloc hs4 _)
      have HBV5 : Hid (Bs W4 (.slice A a.bytes.length c) a.bytes) := Lib.hid (by rw [← hW4]; exact HBV.out.alloc _)
      have HW4 := Lib.hid hW4
      have v0 : W4.cell? ⟨w4.heap.size, 0, none⟩ = some (.int .i64 a.kind) := HP4.out.cell 0
      have v1 : W4.cell? ⟨w4.heap.size, 1, none⟩ = some (.int .i64 a.node) := HP4.out.cell 1
      have v2 : W4.cell? ⟨w4.heap.size, 2, none⟩ = some (.int .i64 a.port) := HP4.out.cell 2
      have v3 : W4.cell? ⟨w4.heap.size, 3, none⟩ = some (.int .i64 a.cost) := HP4.out.cell 3
      have v4 : W4.cell? ⟨w4.heap.size, 4, none⟩ = some (.int .i64 a.n) := HP4.out.cell 4
      have v5 : W4.cell? ⟨w4.heap.size, 5, none⟩ = some (.bool a.up) := HP4.out.cell 5
      have v6 : W4.cell? ⟨w4.heap.size, 6, none⟩ = some (.int .u8 (a.by_.toNat : Int)) := HP4.out.cell 6
      have v7 : W4.cell? ⟨w4.heap.size, 7, none⟩ = some (.bool a.unread) := HP4.out.cell 7
      have v8 : W4.cell? ⟨w4.heap.size, 8, none⟩ = some (.slice A a.bytes.length c) := HP4.out.cell 8
      have cs4 : W4.cell? ⟨w.heap.size, 0, none⟩ = some (.string (str s)) := (HXs3.out.here HB5.out).cell 0
      have hp4 : w4.heap.size < W4.heap.size := HP4.out.lt
      have hs44 : w.heap.size < W4.heap.size := by omega
      have E4 := Lib.hid (E3.out.here HB5.out)
      have HMY : Hid (∀ y : Ext W4, Calls Tryz.prog 31 #[.agg #[.int .i64 a.kind, .int .i64 a.node, .int .i64 a.port, .int .i64 a.cost, .int .i64 a.n, .bool a.up, .int .u8 (a.by_.toNat : Int), .bool a.unread, .slice A a.bytes.length c]] y.w fun e w' => e = .returned (.bool (mayA a)) ∧ Below y.w.heap.size y.w w') := Lib.hid (fun y => cmayAct_any a _ y.w (HBV5.out.below y.below) (by omega))
      have HTX : Hid (∀ y : Ext W4, Calls Tryz.prog 75 #[.agg #[.int .i64 a.kind, .int .i64 a.node, .int .i64 a.port, .int .i64 a.cost, .int .i64 a.n, .bool a.up, .int .u8 (a.by_.toNat : Int), .bool a.unread, .slice A a.bytes.length c]] y.w fun e w' => e = .returned (.string (str (actText a))) ∧ Below y.w.heap.size y.w w') := Lib.hid (fun y => cactText_any a _ y.w HK9.out (HBV5.out.below y.below) HIA.out (by omega) (E4.out.here y.below))
      clear hbv hin hgk hb4 hW4 c0 cB cs
      cases hm : mayA a with
      | false =>
        rw [hm] at HMY HGA
        gi_wp2
        rw [HW4.out]
        refine wpIn_region_ext (by kernel_rfl) (by kernel_rfl) (by kernel_rfl) ?_
        repeat (go_big_quiet_step (first | (go_at_call 31; exact Ext.call (HMY.out _))))
        refine wpQuiet_nil ?_
        rintro _ ⟨y, rfl⟩
        gi_wp2
        exact ⟨(HK5.out.trans (keeps_below y.below)).from _, Between.of_below ((HBW4.out.trans (y.below.mono HBW4.out.size)).mono hsW), HB5.out.trans (y.below.mono (by omega)), HFIN.out (by rw [HGA.out]; rfl)⟩
      | true =>
        rw [hm] at HMY HGA
        by_cases ht : actText a = s
        · have q1 := str_eq_true ht
          have HT : Hid (isA' = true) := Lib.hid (by rw [HGA.out, decide_eq_true ht]; rfl)
          clear ht
          gi_wp2
          rw [HW4.out]
          refine wpIn_region_ext (by kernel_rfl) (by kernel_rfl) (by kernel_rfl) ?_
          repeat (go_big_quiet_step (first | (go_at_call 31; exact Ext.call (HMY.out _)) | (go_at_call 75; exact Ext.call (HTX.out _))))
          refine wpQuiet_nil ?_
          rintro _ ⟨y, rfl⟩
          have HYB := Lib.hid (HB5.out.trans (y.below.mono (by omega)))
          have hra := HXa3.out.here HYB.out
          have hre := HXe3.out.here HYB.out
          have HRA := Lib.hid hra
          have HRE := Lib.hid hre
          have z0 : y.w.cell? ⟨w.heap.size + 1, 0, none⟩ = some (.int .i64 0) := hra.cell 0
          have fz0 : y.w.frozen? ⟨w.heap.size + 1, 0, none⟩ = false := hra.frozen 0
          have z1 : y.w.cell? ⟨w.heap.size + 1, 1, none⟩ = some (.int .i64 0) := hra.cell 1
          have fz1 : y.w.frozen? ⟨w.heap.size + 1, 1, none⟩ = false := hra.frozen 1
          have z2 : y.w.cell? ⟨w.heap.size + 1, 2, none⟩ = some (.int .i64 0) := hra.cell 2
          have fz2 : y.w.frozen? ⟨w.heap.size + 1, 2, none⟩ = false := hra.frozen 2
          have z3 : y.w.cell? ⟨w.heap.size + 1, 3, none⟩ = some (.int .i64 0) := hra.cell 3
          have fz3 : y.w.frozen? ⟨w.heap.size + 1, 3, none⟩ = false := hra.frozen 3
          have z4 : y.w.cell? ⟨w.heap.size + 1, 4, none⟩ = some (.int .i64 0) := hra.cell 4
          have fz4 : y.w.frozen? ⟨w.heap.size + 1, 4, none⟩ = false := hra.frozen 4
          have z5 : y.w.cell? ⟨w.heap.size + 1, 5, none⟩ = some (.bool false) := hra.cell 5
          have fz5 : y.w.frozen? ⟨w.heap.size + 1, 5, none⟩ = false := hra.frozen 5
          have z6 : y.w.cell? ⟨w.heap.size + 1, 6, none⟩ = some (.int .u8 0) := hra.cell 6
          have fz6 : y.w.frozen? ⟨w.heap.size + 1, 6, none⟩ = false := hra.frozen 6
          have z7 : y.w.cell? ⟨w.heap.size + 1, 7, none⟩ = some (.bool false) := hra.cell 7
          have fz7 : y.w.frozen? ⟨w.heap.size + 1, 7, none⟩ = false := hra.frozen 7
          have z8 : y.w.cell? ⟨w.heap.size + 1, 8, none⟩ = some (.slice none 0 0) := hra.cell 8
          have fz8 : y.w.frozen? ⟨w.heap.size + 1, 8, none⟩ = false := hra.frozen 8
          have ze : y.w.cell? ⟨w.heap.size + 2, 0, none⟩ = some (.int .i64 0) := hre.cell 0
          have fze : y.w.frozen? ⟨w.heap.size + 2, 0, none⟩ = false := hre.frozen 0
          clear hra hre
          gi_wp2
          refine ⟨KeepsOthers.from ?_ _, rfl, a, A, a.bytes.length, c, HACT.out HT.out, (box9 HRA.out _ _ _ _ _ _ _ _ _).far (p := ⟨w.heap.size + 2, 0, none⟩) (by simp) _, ?_, ?_, ?_, ?_⟩
          · refine (HK5.out.trans (keeps_below y.below)).trans ?_
            exact (keeps9 y.w (w.heap.size + 1) _ _ _ _ _ _ _ _ _).trans (KeepsOthers.setCell _ _ _)
          · have := far9 HRE.out (b := w.heap.size + 1) (by omega)
            exact (this _ _ _ _ _ _ _ _ _).set 0 _
          · have hw1 : w.heap.size + 1 < W.heap.size := by omega
            have hw2 : w.heap.size + 2 < W.heap.size := by omega
            exact (((((((((((HBV5.out.below y.below).far HBF.out hw1 _ _).far HBF.out hw1 _ _).far HBF.out hw1 _ _).far HBF.out hw1 _ _).far HBF.out hw1 _ _).far HBF.out hw1 _ _).far HBF.out hw1 _ _).far HBF.out hw1 _ _).far HBF.out hw1 _ _).far HBF.out hw2 _ _)
          · have hBy : Below w.heap.size w y.w := (HB0.out.trans (HB3.out.mono (by omega))).trans (HYB.out.mono (by omega))
            exact (set9 hBy (by omega) _ _ _ _ _ _ _ _ _).setCell (p := ⟨w.heap.size + 2, 0, none⟩) (by simp) _
          · exact fun b o n k e => by have := HBF.out b o n k e; omega
        · have q1 := str_eq_false ht
          have HT : Hid (isA' = false) := Lib.hid (by rw [HGA.out, decide_eq_false ht]; rfl)
          clear ht
          gi_wp2
          rw [HW4.out]
          refine wpIn_region_ext (by kernel_rfl) (by kernel_rfl) (by kernel_rfl) ?_
          repeat (go_big_quiet_step (first | (go_at_call 31; exact Ext.call (HMY.out _)) | (go_at_call 75; exact Ext.call (HTX.out _))))
          refine wpQuiet_nil ?_
          rintro _ ⟨y, rfl⟩
          gi_wp2
          exact ⟨(HK5.out.trans (keeps_below y.below)).from _, Between.of_below ((HBW4.out.trans (y.below.mono HBW4.out.size)).mono hsW), HB5.out.trans (y.below.mono (by omega)), HFIN.out HT.out⟩
    · have l1 := str_eq_false he
      have l2 : (!(str (nameA x.val)).toList == (str x0).toList) = true := by rw [l1]; rfl
      have HE := Lib.hid he
      clear he l1 hWDW
      gi_wp2
      exact ⟨(KeepsOthers.refl _).from _, Between.refl _, HB.out, HNO.out.snoc (fun h => HE.out (by rw [← h.1, HX0.out]))⟩
  case done =>
    rintro D ys W hD rfl ⟨hB, hno⟩ hKD
    have hz := hB.size
    have hra := HXa3.out.here hB
    have hre := HXe3.out.here hB
    have HRA := Lib.hid hra
    have HRE := Lib.hid hre
    have HAC := Lib.hid (actC_none ws s (fun i => HCW.out i) hno)
    have HBy : Hid (Below w.heap.size w W) := Lib.hid ((HB0.out.trans (HB3.out.mono (by omega))).trans (hB.mono (by omega)))
    have z0 : W.cell? ⟨w.heap.size + 1, 0, none⟩ = some (.int .i64 0) := hra.cell 0
    have fz0 : W.frozen? ⟨w.heap.size + 1, 0, none⟩ = false := hra.frozen 0
    have z1 : W.cell? ⟨w.heap.size + 1, 1, none⟩ = some (.int .i64 0) := hra.cell 1
    have fz1 : W.frozen? ⟨w.heap.size + 1, 1, none⟩ = false := hra.frozen 1
    have z2 : W.cell? ⟨w.heap.size + 1, 2, none⟩ = some (.int .i64 0) := hra.cell 2
    have fz2 : W.frozen? ⟨w.heap.size + 1, 2, none⟩ = false := hra.frozen 2
    have z3 : W.cell? ⟨w.heap.size + 1, 3, none⟩ = some (.int .i64 0) := hra.cell 3
    have fz3 : W.frozen? ⟨w.heap.size + 1, 3, none⟩ = false := hra.frozen 3
    have z4 : W.cell? ⟨w.heap.size + 1, 4, none⟩ = some (.int .i64 0) := hra.cell 4
    have fz4 : W.frozen? ⟨w.heap.size + 1, 4, none⟩ = false := hra.frozen 4
    have z5 : W.cell? ⟨w.heap.size + 1, 5, none⟩ = some (.bool false) := hra.cell 5
    have fz5 : W.frozen? ⟨w.heap.size + 1, 5, none⟩ = false := hra.frozen 5
    have z6 : W.cell? ⟨w.heap.size + 1, 6, none⟩ = some (.int .u8 0) := hra.cell 6
    have fz6 : W.frozen? ⟨w.heap.size + 1, 6, none⟩ = false := hra.frozen 6
    have z7 : W.cell? ⟨w.heap.size + 1, 7, none⟩ = some (.bool false) := hra.cell 7
    have fz7 : W.frozen? ⟨w.heap.size + 1, 7, none⟩ = false := hra.frozen 7
    have z8 : W.cell? ⟨w.heap.size + 1, 8, none⟩ = some (.slice none 0 0) := hra.cell 8
    have fz8 : W.frozen? ⟨w.heap.size + 1, 8, none⟩ = false := hra.frozen 8
    have ze : W.cell? ⟨w.heap.size + 2, 0, none⟩ = some (.int .i64 0) := hre.cell 0
    have fze : W.frozen? ⟨w.heap.size + 2, 0, none⟩ = false := hre.frozen 0
    clear hra hre hno hB
    gi_wp2
    obtain ⟨X, hX⟩ : ∃ X, (((((((((W.setCell ⟨w.heap.size + 1, 0, none⟩ (.int .i64 0)).setCell ⟨w.heap.size + 1, 1, none⟩ (.int .i64 0)).setCell ⟨w.heap.size + 1, 2, none⟩ (.int .i64 0)).setCell ⟨w.heap.size + 1, 3, none⟩ (.int .i64 0)).setCell ⟨w.heap.size + 1, 4, none⟩ (.int .i64 0)).setCell ⟨w.heap.size + 1, 5, none⟩ (.bool false)).setCell ⟨w.heap.size + 1, 6, none⟩ (.int .u8 0)).setCell ⟨w.heap.size + 1, 7, none⟩ (.bool false)).setCell ⟨w.heap.size + 1, 8, none⟩ (.slice none 0 0)).setCell ⟨w.heap.size + 1 + 1, 0, none⟩ (.int .i64 4) = X := ⟨_, rfl⟩
    have hra := (box9 HRA.out (.int .i64 0) (.int .i64 0) (.int .i64 0) (.int .i64 0) (.int .i64 0) (.bool false) (.int .u8 0) (.bool false) (.slice none 0 0)).far (p := ⟨w.heap.size + 1 + 1, 0, none⟩) (by simp) (.int .i64 4)
    have hre := (far9 HRE.out (b := w.heap.size + 1) (by omega) (.int .i64 0) (.int .i64 0) (.int .i64 0) (.int .i64 0) (.int .i64 0) (.bool false) (.int .u8 0) (.bool false) (.slice none 0 0)).set 0 (.int .i64 4)
    have hko := ((keeps9 W (w.heap.size + 1) (.int .i64 0) (.int .i64 0) (.int .i64 0) (.int .i64 0) (.int .i64 0) (.bool false) (.int .u8 0) (.bool false) (.slice none 0 0)).trans (KeepsOthers.setCell _ ⟨w.heap.size + 1 + 1, 0, none⟩ (.int .i64 4))).same D _ hKD rfl
    have hbx := (set9 HBy.out (b := w.heap.size + 1) (by omega) (.int .i64 0) (.int .i64 0) (.int .i64 0) (.int .i64 0) (.int .i64 0) (.bool false) (.int .u8 0) (.bool false) (.slice none 0 0)).setCell (p := ⟨w.heap.size + 1 + 1, 0, none⟩) (by simp; omega) (.int .i64 4)
    rw [hX] at hra hre hko hbx ⊢
    clear hX
    refine ⟨by simp, .inl ⟨_, _, rfl, run_takeDeferred hko, ?_⟩⟩
    have hra2 := hra.kept (grownBy_putObj' X D (.deferred none)) (fun e => by injection e with e; omega)
    have hre2 := hre.kept (grownBy_putObj' X D (.deferred none)) (fun e => by injection e with e; omega)
    have v0 : (X.putObj D (.deferred none)).cell? ⟨w.heap.size + 1, 0, none⟩ = some (.int .i64 0) := hra2.cell 0
    have v1 : (X.putObj D (.deferred none)).cell? ⟨w.heap.size + 1, 1, none⟩ = some (.int .i64 0) := hra2.cell 1
    have v2 : (X.putObj D (.deferred none)).cell? ⟨w.heap.size + 1, 2, none⟩ = some (.int .i64 0) := hra2.cell 2
    have v3 : (X.putObj D (.deferred none)).cell? ⟨w.heap.size + 1, 3, none⟩ = some (.int .i64 0) := hra2.cell 3
    have v4 : (X.putObj D (.deferred none)).cell? ⟨w.heap.size + 1, 4, none⟩ = some (.int .i64 0) := hra2.cell 4
    have v5 : (X.putObj D (.deferred none)).cell? ⟨w.heap.size + 1, 5, none⟩ = some (.bool false) := hra2.cell 5
    have v6 : (X.putObj D (.deferred none)).cell? ⟨w.heap.size + 1, 6, none⟩ = some (.int .u8 0) := hra2.cell 6
    have v7 : (X.putObj D (.deferred none)).cell? ⟨w.heap.size + 1, 7, none⟩ = some (.bool false) := hra2.cell 7
    have v8 : (X.putObj D (.deferred none)).cell? ⟨w.heap.size + 1, 8, none⟩ = some (.slice none 0 0) := hra2.cell 8
    have ve : (X.putObj D (.deferred none)).cell? ⟨w.heap.size + 1 + 1, 0, none⟩ = some (.int .i64 4) := hre2.cell 0
    refine ⟨.tuple #[actV { kind := 0 } (.slice none 0 0), .int .i64 4], ?_, ?_, hbx.trans (belowK_b (w := w) (Nat.le_refl _) X D _ _ (by omega) hko rfl rfl)⟩
    · simp [results, Tryz.results36, go_sem, v0, v1, v2, v3, v4, v5, v6, v7, v8, ve]
    · rw [HAC.out]
      rfl
  case stop =>
    rintro D c' pre W hD hpre ⟨rfl, a, A, n, k, hact, hra, hre, hbs, hB, hbf⟩ hKD
    gi_wp2
    refine ⟨by simp, .inl ⟨_, _, rfl, run_takeDeferred hKD, ?_⟩⟩
    have hk1 : some (w.heap.size + 1) ≠ some D := fun e => by injection e with e; omega
    have hk2 : some (w.heap.size + 2) ≠ some D := fun e => by injection e with e; omega
    have hra2 := hra.kept (grownBy_putObj' W D (.deferred none)) hk1
    have hre2 := hre.kept (grownBy_putObj' W D (.deferred none)) hk2
    have hbs2 := hbs.kept (grownBy_putObj' W D (.deferred none)) (fun r e => by cases e; exact ⟨_, hKD, rfl⟩)
    have v0 : (W.putObj D (.deferred none)).cell? ⟨w.heap.size + 1, 0, none⟩ = some (.int .i64 a.kind) := hra2.cell 0
    have v1 : (W.putObj D (.deferred none)).cell? ⟨w.heap.size + 1, 1, none⟩ = some (.int .i64 a.node) := hra2.cell 1
    have v2 : (W.putObj D (.deferred none)).cell? ⟨w.heap.size + 1, 2, none⟩ = some (.int .i64 a.port) := hra2.cell 2
    have v3 : (W.putObj D (.deferred none)).cell? ⟨w.heap.size + 1, 3, none⟩ = some (.int .i64 a.cost) := hra2.cell 3
    have v4 : (W.putObj D (.deferred none)).cell? ⟨w.heap.size + 1, 4, none⟩ = some (.int .i64 a.n) := hra2.cell 4
    have v5 : (W.putObj D (.deferred none)).cell? ⟨w.heap.size + 1, 5, none⟩ = some (.bool a.up) := hra2.cell 5
    have v6 : (W.putObj D (.deferred none)).cell? ⟨w.heap.size + 1, 6, none⟩ = some (.int .u8 (a.by_.toNat : Int)) := hra2.cell 6
    have v7 : (W.putObj D (.deferred none)).cell? ⟨w.heap.size + 1, 7, none⟩ = some (.bool a.unread) := hra2.cell 7
    have v8 : (W.putObj D (.deferred none)).cell? ⟨w.heap.size + 1, 8, none⟩ = some (.slice A n k) := hra2.cell 8
    have ve : (W.putObj D (.deferred none)).cell? ⟨w.heap.size + 2, 0, none⟩ = some (.int .i64 0) := hre2.cell 0
    refine ⟨.tuple #[actV a (.slice A n k), .int .i64 0], ?_, ?_, hB.trans (belowK_b (w := w) (Nat.le_refl _) W D _ _ (by omega) hKD rfl rfl)⟩
    · simp [results, Tryz.results36, go_sem, v0, v1, v2, v3, v4, v5, v6, v7, v8, ve]
    · rw [hact]
      exact ⟨_, rfl, hbs2, hbf⟩
theorem cactOf_any (s : List UInt8) (w : World) (hs : s.length ≤ 100000) (E : Env w) :
    Calls Tryz.prog 36 #[.string (str s)] w fun e w' => ActOfRes (actC s) e w' ∧ Below w.heap.size w w' :=
  (cactOf_from s w hs E).mono fun _ _ ⟨h, hb⟩ => ⟨h.res, hb⟩
end Go.Proofs.YtfbangojgjcbcaaGreatDoor
namespace Go.Proofs.YtfbangojgjcbcaaGreatDoor.Pl
open Go.Lib (itoa join)
theorem okC_append : ∀ (a b pre : List Cfg), okC pre (a ++ b) = (okC pre a && okC (pre ++ a) b)
  | [], b, pre => by simp [okC]
  | x :: a, b, pre => by
    rw [List.cons_append, okC, okC, okC_append a b (pre ++ [x])]
    simp only [Bool.and_assoc, List.append_assoc, List.singleton_append]
theorem confsOk_pre {a b : List Cfg} (h : confsOk (a ++ b) = true) (hp : a ≠ []) : confsOk a = true := by
  unfold confsOk at h ⊢
  rw [okC_append] at h
  simp only [Bool.and_eq_true, decide_eq_true_eq, List.length_append] at h ⊢
  have : 0 < a.length := List.length_pos_iff.2 hp
  exact ⟨⟨by omega, by omega⟩, h.2.1⟩
theorem okL_append (cs : List Cfg) : ∀ (a b : List Lk) (u : List (Int × Int)), okL cs u (a ++ b) = true → okL cs u a = true
  | [], _, _, _ => rfl
  | x :: a, b, u, h => by
    rw [List.cons_append, okL, Bool.and_eq_true] at h
    rw [okL, Bool.and_eq_true]
    exact ⟨h.1, okL_append cs a b _ h.2⟩
theorem maySet_pre {cs : List Cfg} {a b : List Lk} (h : maySet cs (a ++ b) = true) : maySet cs a = true := by
  unfold maySet at h ⊢
  rw [Bool.and_eq_true] at h ⊢
  exact ⟨h.1, okL_append cs a b _ h.2⟩
theorem cut_ln {w : Ln} (hw : (32 : UInt8) ∉ w) (m : Ln) : cutA 32 (w ++ 32 :: m) = w := (lnNum_cut hw m).2.1
theorem cut_ln10 {w : Ln} (hw : (32 : UInt8) ∉ w) (m : Ln) : cutA 32 ((w ++ 32 :: m) ++ [10]) = w := by
  rw [List.append_assoc, List.cons_append]
  exact cut_ln hw _
/-- A configuration's lines but the last. -/
def inits (c : Cfg) : List Ln := heads c ++ [lnNum wHello c.hello, lnNum wDead c.dead, lnNum wAgain c.again, lnNum wRoom c.room, lnNum wQueue c.queue, lnNum wTokens c.tokens]
theorem lines_inits (c : Cfg) : linesP c = inits c ++ [lnNum wRefill c.refill] := by
  unfold linesP inits tails
  simp
theorem inits_word (c : Cfg) : ∀ l ∈ inits c, ¬ cutA 32 (l ++ [10]) = wRefill := by
  intro l hl
  unfold inits heads at hl
  simp only [List.mem_append, List.mem_cons, List.not_mem_nil, or_false, List.mem_map] at hl
  rcases hl with (((rfl | rfl) | ⟨p, hp, rfl⟩) | ⟨p, hp, rfl⟩) | rfl | rfl | rfl | rfl | rfl | rfl
  · rw [lnNum, cut_ln10 (by decide)]; decide
  · rw [lnAddr, cut_ln10 (by decide)]; decide
  · rw [lnOwn, cut_ln10 (by decide)]; decide
  · rw [lnPort, cut_ln10 (by decide)]; decide
  · rw [lnNum, cut_ln10 (by decide)]; decide
  · rw [lnNum, cut_ln10 (by decide)]; decide
  · rw [lnNum, cut_ln10 (by decide)]; decide
  · rw [lnNum, cut_ln10 (by decide)]; decide
  · rw [lnNum, cut_ln10 (by decide)]; decide
  · rw [lnNum, cut_ln10 (by decide)]; decide
theorem block_conf (c : Cfg) (R : List Ln) : blockP (ends (linesP c) ++ R) = ends (linesP c) := by
  rw [lines_inits]
  unfold ends
  rw [List.map_append, List.append_assoc]
  refine block_app _ _ _ (fun l hl => ?_) ?_
  · obtain ⟨x, hx, rfl⟩ := List.mem_map.1 hl
    exact inits_word c x hx
  · rw [lnNum, cut_ln10 (by decide)]
theorem ends_flat : ∀ ls : List Ln, (ends ls).flatten = ls.flatMap (· ++ [10])
  | [] => rfl
  | l :: ls => by unfold ends; rw [List.flatMap_def]
theorem confS_conf {st : St} {c : Cfg} (R : List Ln) (h : mayC c = true) (hA : Addrs4 c) (hl : st.ls = []) (hm : confsOk (st.cs ++ [c]) = true) :
    confS st (ends (linesP c) ++ R) = (some c, (linesP c).length) := by
  unfold confS
  have hp := (parse_text h hA).1
  unfold textP at hp
  rw [block_conf, ends_flat, hp, hl]
  have hs : maySet (st.cs ++ [c]) [] = true := by unfold maySet; rw [hm]; rfl
  simp [hs, ends]
theorem goS_conf (c : Cfg) (R : List Ln) (pre : List Cfg) (n : Nat) (h : mayC c = true) (hA : Addrs4 c) (hm : confsOk (pre ++ [c]) = true) :
    goS (ends (linesP c) ++ R) 0 { cs := pre } n = goS R 0 { cs := pre ++ [c] } (n + (linesP c).length) := by
  have hc := confS_conf (st := { cs := pre }) R h hA rfl hm
  have hcut : cutA 32 (lnNum wNode c.node) = wNode := by rw [lnNum, cut_ln (by decide)]
  have hlen : (ends (linesP c)).length = (linesP c).length := by unfold ends; simp
  obtain ⟨t, ht⟩ : ∃ t, linesP c = lnNum wNode c.node :: t := ⟨lnAddr c.addr :: (c.own.map lnOwn ++ c.ports.map lnPort ++ tails c), by simp [linesP, heads]⟩
  have he : ends (linesP c) ++ R = (lnNum wNode c.node ++ [10]) :: (ends t ++ R) := by rw [ht]; rfl
  have hd : (ends t ++ R).drop ((linesP c).length - 1) = R := by
    rw [ht]
    have : (ends t).length = t.length := by unfold ends; simp
    simp [← this]
  rw [he] at hc ⊢
  rw [goS, body_end, hcut]
  simp only [Bool.not_false, decide_true, Bool.and_true, if_true]
  rw [hc]
  simp only
  rw [goS_drop, hd]
theorem goS_confs : ∀ (cs : List Cfg) (R : List Ln) (pre : List Cfg) (n : Nat), (∀ c ∈ cs, mayC c = true ∧ Addrs4 c) → (cs ≠ [] → confsOk (pre ++ cs) = true) →
    goS (ends (cs.flatMap linesP) ++ R) 0 { cs := pre } n = goS R 0 { cs := pre ++ cs } (n + (cs.flatMap linesP).length)
  | [], R, pre, n, _, _ => by simp [ends]
  | c :: cs, R, pre, n, h, hm => by
    obtain ⟨h1, h2⟩ := h c (List.mem_cons_self ..)
    have hm' := hm (by simp)
    have hm1 : confsOk (pre ++ [c]) = true := confsOk_pre (b := cs) (by simpa using hm') (by simp)
    have e : ends ((c :: cs).flatMap linesP) ++ R = ends (linesP c) ++ (ends (cs.flatMap linesP) ++ R) := by unfold ends; simp
    rw [e, goS_conf c _ pre n h1 h2 hm1, goS_confs cs R (pre ++ [c]) _ (fun x hx => h x (List.mem_cons_of_mem _ hx)) (fun _ => by simpa using hm')]
    simp [Nat.add_assoc]
theorem link_word (l : Lk) : cutA 32 (linkText l) = wLink := by unfold linkText; exact cut_ln (by decide) _
theorem link_run (l : Lk) : ¬ linkText l = wRun := by
  unfold linkText wLink wRun
  simp
theorem goS_line {l : Ln} {R : List Ln} {st st' : St} {n : Nat} (hw : st.run = false → ¬ cutA 32 l = wNode) (h : lineS st l = some st') : goS ((l ++ [10]) :: R) 0 st n = goS R 0 st' (n + 1) := by
  rw [goS, body_end, whole_end, h]
  have : (!st.run && decide (cutA 32 l = wNode)) = false := by
    cases hr : st.run with
    | true => rfl
    | false => simpa using hw hr
  rw [this]
  simp
theorem goS_links (cs : List Cfg) (hc : cs ≠ []) : ∀ (ls : List Lk) (R : List Ln) (pre : List Lk) (n : Nat), (∀ l ∈ ls, In4 l) → maySet cs (pre ++ ls) = true →
    goS (ends (ls.map linkText) ++ R) 0 { cs := cs, ls := pre } n = goS R 0 { cs := cs, ls := pre ++ ls } (n + ls.length)
  | [], R, pre, n, _, _ => by simp [ends]
  | l :: ls, R, pre, n, h, hm => by
    have hm1 : maySet cs (pre ++ [l]) = true := maySet_pre (b := ls) (by simpa using hm)
    have hl : lineS { cs := cs, ls := pre } (linkText l) = some { cs := cs, ls := pre ++ [l] } := by
      unfold lineS
      have hce : cs.isEmpty = false := by simpa using hc
      simp only [Bool.false_eq_true, if_false, hce, if_neg (link_run l), linkC_text (h l (List.mem_cons_self ..)), hm1, if_true]
    have e : ends ((l :: ls).map linkText) ++ R = (linkText l ++ [10]) :: (ends (ls.map linkText) ++ R) := rfl
    rw [e, goS_line (fun _ => by rw [link_word]; decide) hl, goS_links cs hc ls R (pre ++ [l]) _ (fun x hx => h x (List.mem_cons_of_mem _ hx)) (by simpa using hm)]
    simp [Nat.add_assoc, Nat.add_comm 1]
theorem goS_acts (cs : List Cfg) (ls : List Lk) : ∀ (zs : List ActP) (pre : List ActP) (n : Nat), (∀ a ∈ zs, mayA a = true ∧ InA a) → (pre ++ zs).length ≤ 65536 →
    goS (ends (zs.map actText)) 0 { cs := cs, ls := ls, zs := pre, run := true } n = (some { cs := cs, ls := ls, zs := pre ++ zs, run := true }, n + zs.length)
  | [], pre, n, _, _ => by simp [ends, goS]
  | a :: zs, pre, n, h, hm => by
    obtain ⟨h1, h2⟩ := h a (List.mem_cons_self ..)
    have hl : lineS { cs := cs, ls := ls, zs := pre, run := true } (actText a) = some { cs := cs, ls := ls, zs := pre ++ [a], run := true } := by
      unfold lineS
      have : pre.length + 1 ≤ 65536 := by simp at hm; omega
      simp only [if_true, actC_text h1 h2, if_pos this]
    have e : ends ((a :: zs).map actText) = (actText a ++ [10]) :: ends (zs.map actText) := rfl
    rw [e, goS_line (fun e => by simp at e) hl, goS_acts cs ls zs (pre ++ [a]) _ (fun x hx => h x (List.mem_cons_of_mem _ hx)) (by simpa using hm)]
    simp [Nat.add_assoc, Nat.add_comm 1]
theorem itoa_nl (n : Int) : (10 : UInt8) ∉ itoa n := itoa_no' n 10 (by decide) (by decide)
theorem told_nl (a : ActP) (q : Pt) : (10 : UInt8) ∉ told a q := by
  cases q with
  | n => exact itoa_nl _
  | p => exact itoa_nl _
  | c => exact itoa_nl _
  | i => exact itoa_nl _
  | u => show (10 : UInt8) ∉ (if a.up then wUp else wDown); cases a.up <;> decide
  | b => exact itoa_nl _
  | r => show (10 : UInt8) ∉ (if a.unread then wUnread else wRead); cases a.unread <;> decide
  | x =>
    show (10 : UInt8) ∉ hexD a.bytes
    unfold hexD
    split
    · decide
    · exact hex_no _ 10 (by decide)
theorem name_nl : ∀ k : Nat, (10 : UInt8) ∉ nameA k
  | 0 | 1 | 2 | 3 | 4 | 5 | 6 | 7 | 8 | 9 => by decide
  | _ + 10 => by simp [nameA]
theorem join_nl : ∀ ws : List Ln, (∀ w ∈ ws, (10 : UInt8) ∉ w) → (10 : UInt8) ∉ join ws [32]
  | [], _ => by simp [join]
  | [x], h => by
    have e : join [x] [(32 : UInt8)] = x := by simp [join]
    rw [e]; exact h x (by simp)
  | x :: y :: r, h => by
    have h1 := join_nl (y :: r) fun w hw => h w (List.mem_cons_of_mem _ hw)
    rw [join_two]
    simp only [List.mem_append, List.mem_cons, not_or]
    exact ⟨h x (by simp), by decide, h1⟩
theorem act_nl (a : ActP) : noNl (actText a) := by
  refine join_nl _ fun w hw => ?_
  unfold actWords at hw
  rcases List.mem_cons.1 hw with rfl | hw
  · exact name_nl _
  · obtain ⟨pt, _, rfl⟩ := List.mem_map.1 hw
    exact told_nl a pt
theorem link_nl (l : Lk) : noNl (linkText l) := by
  unfold noNl linkText
  simp only [List.mem_append, List.mem_cons, not_or]
  exact ⟨by decide, by decide, itoa_nl _, by decide, itoa_nl _, by decide, itoa_nl _, by decide, itoa_nl _⟩
/-- A script's lines. -/
def allL (cs : List Cfg) (ls : List Lk) (zs : List ActP) : List Ln := cs.flatMap linesP ++ (ls.map linkText ++ (wRun :: zs.map actText))
theorem part_all (cs : List Cfg) (ls : List Lk) (zs : List ActP) : partS ⟨cs, ls, zs, true⟩ = (allL cs ls zs).flatMap (· ++ [10]) := by
  unfold partS allL
  simp only [List.flatMap_append, List.flatMap_cons, List.flatMap_map, if_true, wRun, List.append_assoc]
  congr 1
  induction cs with
  | nil => rfl
  | cons c cs ih => simp only [List.flatMap_cons, List.flatMap_append, ih, textP]
theorem all_nl {cs : List Cfg} {ls : List Lk} {zs : List ActP} (h : ∀ c ∈ cs, mayC c = true) : ∀ l ∈ allL cs ls zs, noNl l := by
  intro l hl
  unfold allL at hl
  simp only [List.mem_append, List.mem_cons, List.mem_map, List.mem_flatMap] at hl
  rcases hl with ⟨c, hc, hl⟩ | ⟨k, _, rfl⟩ | rfl | ⟨a, _, rfl⟩
  · exact lines_no (h c hc) l hl
  · exact link_nl k
  · unfold noNl wRun; decide
  · exact act_nl a
/-- What is told is read as it was. -/
theorem parseS_text {cs : List Cfg} {ls : List Lk} {zs : List ActP} (hm : maySet cs ls = true) (hA : ∀ c ∈ cs, Addrs4 c) (hl : ∀ l ∈ ls, In4 l) (hz : ∀ a ∈ zs, mayA a = true ∧ InA a)
    (hn : zs.length ≤ 65536) (ht : (partS ⟨cs, ls, zs, true⟩).length ≤ 4194304) : parseS (partS ⟨cs, ls, zs, true⟩) = (some ⟨cs, ls, zs, true⟩, 0, 0) := by
  have hmc := maySet_confs hm
  have hco : confsOk cs = true := by unfold maySet at hm; rw [Bool.and_eq_true] at hm; exact hm.1
  have hne : cs ≠ [] := by
    rintro rfl
    simp [confsOk] at hco
  have hlt : linesT (partS ⟨cs, ls, zs, true⟩) = ends (allL cs ls zs) := by
    rw [part_all]
    have := lines_all (allL cs ls zs) [] (all_nl hmc)
    simpa [linesT] using this
  have hgo : goS (ends (allL cs ls zs)) 0 {} 0 = (some ⟨cs, ls, zs, true⟩, (cs.flatMap linesP).length + ls.length + 1 + zs.length) := by
    have e : ends (allL cs ls zs) = ends (cs.flatMap linesP) ++ (ends (ls.map linkText) ++ ((wRun ++ [10]) :: ends (zs.map actText))) := by unfold allL ends; simp
    rw [e]
    have h1 := goS_confs cs (ends (ls.map linkText) ++ ((wRun ++ [10]) :: ends (zs.map actText))) [] 0 (fun c hc => ⟨hmc c hc, hA c hc⟩) (fun _ => by simpa using hco)
    rw [h1]
    have h2 := goS_links cs hne ls ((wRun ++ [10]) :: ends (zs.map actText)) [] (0 + (cs.flatMap linesP).length) hl (by simpa using hm)
    have hrun : lineS { cs := cs, ls := ls } wRun = some { cs := cs, ls := ls, run := true } := by
      unfold lineS
      have hce : cs.isEmpty = false := by simpa using hne
      simp only [Bool.false_eq_true, if_false, hce, if_true]
    have h3 := goS_acts cs ls zs [] (0 + (cs.flatMap linesP).length + ls.length + 1) hz (by simpa using hn)
    simp only [List.nil_append] at h2 h3 ⊢
    rw [h2, goS_line (fun _ => by decide) hrun, h3]
    simp
  unfold parseS
  rw [if_neg (by omega), hlt, hgo]
  rfl
end Go.Proofs.YtfbangojgjcbcaaGreatDoor.Pl
namespace Go.Proofs.YtfbangojgjcbcaaGreatDoor
open Go.RowKit Pl
theorem textS_part (cs : List Cfg) (ls : List Lk) (zs : List ActP) : textS cs ls zs = partS ⟨cs, ls, zs, true⟩ := by
  unfold textS partS linesL linesA
  simp
theorem flat_low {α : Type} (f : α → List UInt8) (m : Nat) : ∀ xs : List α, (∀ x ∈ xs, m ≤ (f x).length) → xs.length * m ≤ (xs.flatMap f).length
  | [], _ => by simp
  | x :: xs, h => by
    have h1 := h x (List.mem_cons_self ..)
    have h2 := flat_low f m xs (fun y hy => h y (List.mem_cons_of_mem _ hy))
    rw [List.flatMap_cons, List.length_append, List.length_cons, Nat.succ_mul]
    omega
theorem link_low (l : Lk) : 5 ≤ (linkText l ++ [10]).length := by
  unfold linkText
  simp [wLink]
theorem part_links (st : St) : st.ls.length * 5 ≤ (partS st).length := by
  have := flat_low (fun l => linkText l ++ [10]) 5 st.ls fun l _ => link_low l
  unfold partS
  simp only [List.length_append] at this ⊢
  omega
/-- How much a reader may hold. -/
structure StOk (st : St) : Prop where
  ok : SOk st
  nc : st.cs.length ≤ 100
  nl : st.ls.length ≤ 900000
theorem StOk.of {st : St} (hs : SOk st) (ht : (partS st).length ≤ 4194304) : StOk st where
  ok := hs
  nc := by
    by_cases h : st.cs = []
    · rw [h]; simp
    · have := maySet_len (hs.may h); omega
  nl := by have := part_links st; omega
theorem may_sizes {cs : List Cfg} {ls : List Lk} (hm : maySet cs ls = true) (hk : ∀ c ∈ cs, Addrs4 c ∧ In64 c.node) : ∀ c ∈ cs, c.own.length ≤ 1000000 ∧ c.ports.length ≤ 1000000 ∧ In64 c.node := fun c hc => by
  have h1 := maySet_confs hm c hc
  have h2 := (mayC_parts h1).1
  have h3 := (mayC_parts h1).2.1
  simp only [ownOk, Bool.and_eq_true, decide_eq_true_eq] at h2
  exact ⟨by omega, by omega, (hk c hc).2⟩
/-- What a text is read as has that text. -/
theorem parsed_ok {text : Ln} {st : St} {n : Nat} {e : Int} (h : parseS text = (some st, n, e)) : ScrOk st.cs st.ls st.zs ∧ sText st.cs st.ls st.zs = (text, 0) := by
  obtain ⟨hs, hr, hp, hl, -, -⟩ := parseS_sound h
  have hne : st.cs ≠ [] := fun e => by have := (hs.none e).2; rw [hr] at this; cases this
  have hm := hs.may hne
  have hk := StOk.of hs (by rw [hp]; omega)
  have hnl := hk.nl
  have hnc := hk.nc
  have hna := hs.na
  have ht : textS st.cs st.ls st.zs = text := by
    rw [textS_part]
    obtain ⟨cs, ls, zs, run⟩ := st
    simp only at hr
    subst hr
    exact hp
  refine ⟨⟨fun c hc => (hs.confs c hc).1, may_sizes hm hs.confs, hs.links, fun a ha => ⟨(hs.acts a ha).2, ?_⟩, by omega, by omega, by omega⟩, ?_⟩
  · have := (mayA_parts (hs.acts a ha).1).2; omega
  · have hall : st.zs.all mayA = true := List.all_eq_true.2 fun a ha => (hs.acts a ha).1
    unfold sText
    rw [hm, hall, ht]
    simp only [Bool.and_self, if_true]
    rw [if_neg (by omega), if_neg (by omega)]
/-- The lines of a script's text are not long. -/
theorem text_lines {cs : List Cfg} {ls : List Lk} {zs : List ActP} (hm : maySet cs ls = true) (hl : ∀ l ∈ ls, In4 l) (hz : ∀ a ∈ zs, mayA a = true ∧ InA a) : ∀ l ∈ linesT (textS cs ls zs), l.length ≤ 100000 := by
  have hmc := maySet_confs hm
  have hlt : linesT (textS cs ls zs) = ends (allL cs ls zs) := by
    rw [textS_part, part_all]
    have := lines_all (allL cs ls zs) [] (all_nl hmc)
    simpa [linesT] using this
  rw [hlt]
  intro l h
  unfold ends at h
  obtain ⟨x, hx, rfl⟩ := List.mem_map.1 h
  unfold allL at hx
  simp only [List.mem_append, List.mem_cons, List.mem_map, List.mem_flatMap] at hx
  rcases hx with ⟨c, hc, hx⟩ | ⟨k, hk, rfl⟩ | rfl | ⟨a, ha, rfl⟩
  · have := (lines_len (hmc c hc)).1 x hx
    simp; omega
  · have := linkText_len (hl k hk)
    simp; omega
  · simp [wRun]
  · have := actText_len (hz a ha).1 (hz a ha).2
    simp; omega
/-- A script that has a text is read from it. -/
theorem text_read {cs : List Cfg} {ls : List Lk} {zs : List ActP} {t : Ln} (h : sText cs ls zs = (t, 0)) (hA : ∀ c ∈ cs, Addrs4 c ∧ In64 c.node) (hl : ∀ l ∈ ls, In4 l) (hz : ∀ a ∈ zs, InA a) :
    parseS t = (some ⟨cs, ls, zs, true⟩, 0, 0) ∧ t.length ≤ 4194304 ∧ ∀ l ∈ linesT t, l.length ≤ 100000 := by
  unfold sText at h
  split at h
  · rename_i hm
    simp only [Bool.and_eq_true] at hm
    have hall := List.all_eq_true.1 hm.2
    split at h
    · injection h with _ h; cases h
    · split at h
      · injection h with _ h; cases h
      · rename_i h1 h2
        injection h with h _
        subst h
        have hz' : ∀ a ∈ zs, mayA a = true ∧ InA a := fun a ha => ⟨hall a ha, hz a ha⟩
        refine ⟨?_, by omega, text_lines hm.1 hl hz'⟩
        rw [textS_part] at h2 ⊢
        exact parseS_text hm.1 (fun c hc => (hA c hc).1) hl hz' (by omega) (by omega)
  · injection h with _ h; cases h
end Go.Proofs.YtfbangojgjcbcaaGreatDoor
namespace Go.Proofs.YtfbangojgjcbcaaGreatDoor
open Go.RowKit Pl
theorem info_NA : (Tryz.prog.info? 51).map (fun i => (i.zero, i.size, i.bytes)) = some (some (.agg #[.int .i64 0, .int .i64 0, .int .i64 0, .int .i64 0, .int .i64 0, .bool false, .int .u8 0, .bool false, .slice none 0 0]), 9, 72) := by kernel_rfl
theorem info_LK : (Tryz.prog.info? 63).map (fun i => (i.zero, i.size, i.bytes)) = some (some (.agg #[.int .i64 0, .int .i64 0, .int .i64 0, .int .i64 0]), 4, 32) := by kernel_rfl
theorem info_CF : (Tryz.prog.info? 28).map (fun i => (i.zero, i.size, i.bytes)) = some (some (.agg #[.int .i64 0, .int .u32 0, .slice none 0 0, .slice none 0 0, .int .i64 0, .int .i64 0, .int .i64 0, .int .i64 0, .int .i64 0, .int .i64 0, .int .i64 0]), 11, 120) := by kernel_rfl
theorem RdX.drew {w : World} {B R : Nat} {st : St} {cv lv av : Value} {xs : List CRow} {ys : List ARow} (h : RdX w B R st cv lv av xs ys) : RdX w.drew B R st cv lv av xs ys := h.here (Below.refl _ w).drew
theorem RdX.alloc {w : World} {B R : Nat} {st : St} {cv lv av : Value} {xs : List CRow} {ys : List ARow} (h : RdX w B R st cv lv av xs ys) (o : Obj) : RdX (w.alloc o) B R st cv lv av xs ys := h.here ((Below.refl _ _).alloc (Nat.le_refl _) o)
/-- What a line does to the reader. -/
def LineRes (w : World) (B R : Nat) (o : Option St) (e : Ending) (w' : World) : Prop :=
  (match o with
    | some st' => e = .returned (.bool true) ∧ RdS w' B R st'
    | none => e = .returned (.bool false)) ∧ Kb B R w w'
theorem LineRes.no {w w' : World} {B R : Nat} {o : Option St} {e : Ending} (h : o = none) (he : e = .returned (.bool false)) (hb : Kb B R w w') : LineRes w B R o e w' := by
  subst h; exact ⟨he, hb⟩
theorem LineRes.yes {w w' : World} {B R : Nat} {o : Option St} {e : Ending} (st : St) (h : o = some st) (he : e = .returned (.bool true)) (hr : RdS w' B R st) (hb : Kb B R w w') : LineRes w B R o e w' := by
  subst h; exact ⟨⟨he, hr⟩, hb⟩
/-- An act, or what stands for none. -/
theorem act_row {s : List UInt8} {base : Nat} {e : Ending} {w : World} (h : ActOfFrom (actC s) base e w) : ∃ (y : ARow) (code : Int), e = .returned (.tuple #[actV y.a y.bv, .int .i64 code]) ∧ Bs w y.bv y.a.bytes ∧ BlkFrom base y.bv ∧
    ((actC s = some y.a ∧ code = 0) ∨ (actC s = none ∧ code = 4)) := by
  cases ha : actC s with
  | none =>
    rw [ha] at h
    exact ⟨⟨{ kind := 0 }, .slice none 0 0⟩, 4, h, Bs.nil _, BlkFrom.nil _, .inr ⟨rfl, rfl⟩⟩
  | some a =>
    rw [ha] at h
    obtain ⟨bv, h1, h2, h3⟩ := h
    exact ⟨⟨a, bv⟩, 0, h1, h2, h3, .inl ⟨rfl, rfl⟩⟩
set_option maxRecDepth 100000 in
set_option maxHeartbeats 4000000 in
theorem line_run (s : List UInt8) (st : St) (B R : Nat) (w : World) (h : RdS w B R st) (E : Env w) (hBw : B ≤ w.heap.size) (hs : s.length ≤ 100000) (hk : StOk st) (hr : st.run = true) :
    Calls Tryz.prog 91 #[.pointer (some ⟨R, 0, none⟩), .string (str s)] w fun e w' => LineRes w B R (lineS st s) e w' := by
  obtain ⟨cv, lv, av, xs, ys, hx⟩ := h
  have hzl : st.zs.length = ys.length := by rw [hx.zs, List.length_map]
  have hna := hk.ok.na
  obtain ⟨o, ho⟩ : ∃ o, lineS st s = o := ⟨_, rfl⟩
  have HO : Hid (o = match actC s with
    | some a => if st.zs.length + 1 ≤ 65536 then some { st with zs := st.zs ++ [a] } else none
    | none => none) := Lib.hid (by rw [← ho]; unfold lineS; rw [if_pos hr]; rfl)
  rw [ho]
  clear ho
  have HX := Lib.hid hx
  have q3 : w.cell? ⟨R, 3, none⟩ = some (.bool st.run) := hx.whole.cell 3
  rw [hr] at q3
  have hRw := hx.whole.lt
  have EE := Lib.hid E
  clear hx E
  go_enter Tryz.func91, Tryz.ntmps91
  go_wp2_with fail
  refine (cactOf_from s w hs EE.out).mono ?_
  rintro e w1 ⟨hres, hb1⟩
  obtain ⟨⟨a9, bv⟩, code, rfl, hbs, hbf, hcode⟩ := act_row hres
  simp only at hbs hbf hcode ⊢
  obtain ⟨A9, k9, rfl⟩ : ∃ A k, bv = .slice A a9.bytes.length k := by
    obtain ⟨A, k, hbv, -⟩ := hbs
    exact ⟨A, k, hbv⟩
  have HC := Lib.hid hcode
  have HX1 := Lib.hid (HX.out.here hb1)
  have HI : Hid (Inn w1 B R [cv, lv, av] (.slice A9 a9.bytes.length k9)) := Lib.hid (HX.out.fresh hBw hbf hbs.lt_of)
  have HBS := Lib.hid hbs
  have HB1 := Lib.hid hb1
  have hsz := hb1.size
  clear hres hb1 hbs hbf hcode q3
  obtain ⟨W1, hW1⟩ : ∃ X, ((w1.alloc (.cells #[.int .i64 a9.kind, .int .i64 a9.node, .int .i64 a9.port, .int .i64 a9.cost, .int .i64 a9.n, .bool a9.up, .int .u8 (a9.by_.toNat : Int), .bool a9.unread, .slice A9 a9.bytes.length k9] 51)).alloc (.cells #[.int .i64 a9.kind, .int .i64 a9.node, .int .i64 a9.port, .int .i64 a9.cost, .int .i64 a9.n, .bool a9.up, .int .u8 (a9.by_.toNat : Int), .bool a9.unread, .slice A9 a9.bytes.length k9] 51)).drew = X := ⟨_, rfl⟩
  have hnew : W1.heap[w1.heap.size + 1]? = some (.cells #[.int .i64 a9.kind, .int .i64 a9.node, .int .i64 a9.port, .int .i64 a9.cost, .int .i64 a9.n, .bool a9.up, .int .u8 (a9.by_.toNat : Int), .bool a9.unread, .slice A9 a9.bytes.length k9] 51 (0, 0)) := by
    rw [← hW1]
    have := heap_alloc_new (w1.alloc (.cells #[.int .i64 a9.kind, .int .i64 a9.node, .int .i64 a9.port, .int .i64 a9.cost, .int .i64 a9.n, .bool a9.up, .int .u8 (a9.by_.toNat : Int), .bool a9.unread, .slice A9 a9.bytes.length k9] 51)) (.cells #[.int .i64 a9.kind, .int .i64 a9.node, .int .i64 a9.port, .int .i64 a9.cost, .int .i64 a9.n, .bool a9.up, .int .u8 (a9.by_.toNat : Int), .bool a9.unread, .slice A9 a9.bytes.length k9] 51)
    rw [World.size_alloc] at this
    exact this
  have hP : Whole W1 w1.heap.size 51 #[.int .i64 a9.kind, .int .i64 a9.node, .int .i64 a9.port, .int .i64 a9.cost, .int .i64 a9.n, .bool a9.up, .int .u8 (a9.by_.toNat : Int), .bool a9.unread, .slice A9 a9.bytes.length k9] := by rw [← hW1]; exact ((Whole.new w1 _ _).alloc _).drew
  have hxx : RdX W1 B R st cv lv av xs ys := by rw [← hW1]; exact ((HX1.out.alloc _).alloc _).drew
  have hbW : Below w1.heap.size w1 W1 := by rw [← hW1]; exact (((Below.refl _ w1).alloc (Nat.le_refl _) _).alloc (by simp) _).drew
  have hszW : W1.heap.size = w1.heap.size + 1 + 1 := by rw [← hW1]; simp
  have hne : av.ownBlock ≠ some w1.heap.size := fun e => by have := (HX1.out.ra.lt _ e).2; omega
  have c2 : (w1.alloc (.cells #[.int .i64 a9.kind, .int .i64 a9.node, .int .i64 a9.port, .int .i64 a9.cost, .int .i64 a9.n, .bool a9.up, .int .u8 (a9.by_.toNat : Int), .bool a9.unread, .slice A9 a9.bytes.length k9] 51)).cell? ⟨R, 2, none⟩ = some av := (HX1.out.alloc _).whole.cell 2
  have c2b : ((w1.alloc (.cells #[.int .i64 a9.kind, .int .i64 a9.node, .int .i64 a9.port, .int .i64 a9.cost, .int .i64 a9.n, .bool a9.up, .int .u8 (a9.by_.toNat : Int), .bool a9.unread, .slice A9 a9.bytes.length k9] 51)).alloc (.cells #[.int .i64 a9.kind, .int .i64 a9.node, .int .i64 a9.port, .int .i64 a9.cost, .int .i64 a9.n, .bool a9.up, .int .u8 (a9.by_.toNat : Int), .bool a9.unread, .slice A9 a9.bytes.length k9] 51)).cell? ⟨R, 2, none⟩ = some av := ((HX1.out.alloc _).alloc _).whole.cell 2
  have hno := hxx.whole.notRow hxx.ra (by decide)
  obtain ⟨i0, hi0, hz0, hz1, hz2⟩ := info_parts info_NA
  have HW1 := Lib.hid hW1
  clear hW1
  unfold actV
  go_upto_region 3 with fail
  go_region_law
    ((rw [HW1.out]; refine step_append_lies _ (by rfl) _ _ _ (by rfl) B 51 i0 _ 9 72 Tryz.underlying74 hi0 hz0 hz1 hz2 rfl (by omega) _ ys.length _ (by rfl) hxx.ra
        ⟨w1.heap.size + 1, 0, none⟩ 1 1 [.int .i64 a9.kind, .int .i64 a9.node, .int .i64 a9.port, .int .i64 a9.cost, .int .i64 a9.n, .bool a9.up, .int .u8 (a9.by_.toNat : Int), .bool a9.unread, .slice A9 a9.bytes.length k9] (by rfl) (by rfl) (World.news_of_block (cs := #[.int .i64 a9.kind, .int .i64 a9.node, .int .i64 a9.port, .int .i64 a9.cost, .int .i64 a9.n, .bool a9.up, .int .u8 (a9.by_.toNat : Int), .bool a9.unread, .slice A9 a9.bytes.length k9]) (t := 51) (fr := (0, 0)) hnew) (by simp [Value.oneCell'])
        (by omega) (by unfold maxLen; omega) (by omega) (by omega) (w1.heap.size + 1 + 1) hszW ?_; intro gg cap w2 hown2 hgrow hat hlt2; have hW2 := hxx.whole.kept hgrow (Ne.symm hno); have c22 : w2.cell? ⟨R, 2, none⟩ = some av := hW2.cell 2; have f22 := hW2.frozen 2; have hP2 := hP.kept hgrow (Ne.symm hne); have p0 := hP2.cell 0; have p1 := hP2.cell 1; have p2 := hP2.cell 2; have p3 := hP2.cell 3; have p4 := hP2.cell 4; have p5 := hP2.cell 5; have p6 := hP2.cell 6; have p7 := hP2.cell 7; have p8 := hP2.cell 8))
  all_goals
    have HX3 : Hid (RdX (w2.setCell ⟨R, 2, none⟩ (.slice (some ⟨gg, 0, none⟩) (ys.length + 1) cap)) B R { st with zs := st.zs ++ [a9] } cv lv (.slice (some ⟨gg, 0, none⟩) (ys.length + 1) cap) xs (ys ++ [⟨a9, .slice A9 a9.bytes.length k9⟩])) := Lib.hid (hxx.pushA hgrow ⟨a9, .slice A9 a9.bytes.length k9⟩ rfl hown2 (Went.of hat (Nat.le_of_eq hszW)) ⟨HBS.out.below hbW, HI.out.below hbW.size⟩)
    have HB3 : Hid (Kb B R w (w2.setCell ⟨R, 2, none⟩ (.slice (some ⟨gg, 0, none⟩) (ys.length + 1) cap))) := Lib.hid (by
      have hx : Below B w1 w2 := (hbW.mono (by omega)).grown hgrow (by omega) fun g hg => (hxx.ra.lt g hg).1
      exact (Kb.of_below ((HB1.out.mono hBw).trans hx)).set 2 _ (by have := hx.size; omega))
    generalize w2.setCell ⟨R, 2, none⟩ (.slice (some ⟨gg, 0, none⟩) (ys.length + 1) cap) = W3 at *
    have c32 : W3.cell? ⟨R, 2, none⟩ = some (.slice (some ⟨gg, 0, none⟩) (ys.length + 1) cap) := HX3.out.whole.cell 2
    have HZL := Lib.hid hzl
    clear hown2 hgrow hat hlt2 hW2 c22 f22 hP2 p0 p1 p2 p3 p4 p5 p6 p7 p8 hno hne hP hnew hbW hszW c2 c2b hzl
    rcases HC.out with ⟨hl, rfl⟩ | ⟨hl, rfl⟩
    · have HL := Lib.hid hl
      clear hl
      by_cases hm : ys.length + 1 ≤ 65536
      · have hd : decide ((ys.length : Int) + 1 ≤ 65536) = true := decide_eq_true (by omega)
        go_wp2
        go_ret
        exact LineRes.yes _ (by rw [HO.out, HL.out]; simp only; rw [if_pos (by rw [HZL.out]; exact hm)]) rfl ⟨_, _, _, _, _, HX3.out⟩ HB3.out
      · have hd : decide ((ys.length : Int) + 1 ≤ 65536) = false := decide_eq_false (by omega)
        go_wp2
        go_ret
        exact LineRes.no (by rw [HO.out, HL.out]; simp only; rw [if_neg (by rw [HZL.out]; exact hm)]) rfl HB3.out
    · have HL := Lib.hid hl
      clear hl
      go_wp2
      go_ret
      exact LineRes.no (by rw [HO.out, HL.out]) rfl HB3.out
theorem RdX.setRun {w : World} {B R : Nat} {st : St} {cv lv av : Value} {xs : List CRow} {ys : List ARow} (h : RdX w B R st cv lv av xs ys) : RdX (w.setCell ⟨R, 3, none⟩ (.bool true)) B R { st with run := true } cv lv av xs ys := by
  have hgs := grown_set w R 3 (.bool true)
  exact {
    whole := h.whole.set 3 _
    cs := h.cs
    zs := h.zs
    rc := own_grown h.whole h.rc (by decide) hgs
    rl := own_grown h.whole h.rl (by decide) hgs
    ra := own_grown h.whole h.ra (by decide) hgs
    ic := fun y hy => by
      obtain ⟨h1, h2, h3, h4⟩ := h.ic y hy
      exact ⟨h1.stay (h3.setR _ _), h2.stay (h4.setR _ _), h3.below hgs.size, h4.below hgs.size⟩
    ia := fun y hy => by
      obtain ⟨h1, h2⟩ := h.ia y hy
      exact ⟨h1.stay (h2.setR _ _), h2.below hgs.size⟩ }
theorem link_row (s : List UInt8) : ∃ (l : Lk) (code : Int), clkRes s = .tuple #[lkV l, .int .i64 code] ∧ In4 l ∧ ((linkC s = some l ∧ code = 0) ∨ (linkC s = none ∧ code = 4)) := by
  cases hl : linkC s with
  | none => exact ⟨(0, 0, 0, 0), 4, by unfold clkRes; rw [hl], by simp [In4, In64], .inr ⟨rfl, rfl⟩⟩
  | some l => exact ⟨l, 0, by unfold clkRes; rw [hl], (linkW_some (f := numC) numC_in hl).2, .inl ⟨rfl, rfl⟩⟩
set_option maxRecDepth 100000 in
set_option maxHeartbeats 4000000 in
theorem line_none (s : List UInt8) (st : St) (B R : Nat) (w : World) (h : RdS w B R st) (hr : st.run = false) (hc : st.cs = []) :
    Calls Tryz.prog 91 #[.pointer (some ⟨R, 0, none⟩), .string (str s)] w fun e w' => LineRes w B R (lineS st s) e w' := by
  obtain ⟨cv, lv, av, xs, ys, hx⟩ := h
  have ho : lineS st s = none := by unfold lineS; rw [if_neg (by simp [hr]), if_pos (by simp [hc])]
  rw [ho]
  have hx0 : xs.length = 0 := by have := congrArg List.length hx.cs; rw [hc, List.length_map] at this; exact this.symm
  obtain ⟨A0, k0, hcv⟩ := own_slice_n hx.rc
  have r0 : w.cell? ⟨R, 0, none⟩ = some cv := hx.whole.cell 0
  have r3 : w.cell? ⟨R, 3, none⟩ = some (.bool st.run) := hx.whole.cell 3
  rw [hcv, hx0] at r0
  rw [hr] at r3
  have hRw := hx.whole.lt
  clear ho hx hcv hx0
  go_enter Tryz.func91, Tryz.ntmps91
  go_wp2
  go_ret
  exact LineRes.no rfl rfl (Kb.of_below (Below.refl _ _))
theorem lit_run {l : Ln} (h : l = wRun) : ((str l).toList == [114, 117, 110]) = true := by subst h; rw [str_toList]; rfl
theorem lit_run_no {l : Ln} (h : ¬ l = wRun) : ((str l).toList == [114, 117, 110]) = false := by rw [str_toList]; exact beq_eq_false_iff_ne.2 h
theorem lit_run' {l : Ln} (h : l = wRun) : (str l).toList = [114, 117, 110] := by subst h; rw [str_toList]; rfl
theorem lit_run_no' {l : Ln} (h : ¬ l = wRun) : ((str l).toList = [114, 117, 110]) = False := by rw [str_toList]; exact eq_false h
set_option maxRecDepth 100000 in
set_option maxHeartbeats 4000000 in
theorem line_go (s : List UInt8) (st : St) (B R : Nat) (w : World) (h : RdS w B R st) (hr : st.run = false) (hBw : B ≤ w.heap.size) (hc : st.cs ≠ []) (hcl : st.cs.length ≤ 1000) (hw : s = wRun) :
    Calls Tryz.prog 91 #[.pointer (some ⟨R, 0, none⟩), .string (str s)] w fun e w' => LineRes w B R (lineS st s) e w' := by
  obtain ⟨cv, lv, av, xs, ys, hx⟩ := h
  have ho : lineS st s = some { st with run := true } := by unfold lineS; rw [if_neg (by simp [hr]), if_neg (by simpa using hc), if_pos hw]
  rw [ho]
  have hxl : xs.length = st.cs.length := by rw [hx.cs, List.length_map]
  have hx0 : ((st.cs.length : Int) == 0) = false := by
    cases hcc : st.cs with
    | nil => exact absurd hcc hc
    | cons a b => exact beq_eq_false_iff_ne.2 (by simp only [List.length_cons]; omega)
  obtain ⟨A0, k0, hcv⟩ := own_slice_n hx.rc
  have r0 : w.cell? ⟨R, 0, none⟩ = some cv := hx.whole.cell 0
  have r3 : w.cell? ⟨R, 3, none⟩ = some (.bool st.run) := hx.whole.cell 3
  have f3 := hx.whole.frozen 3
  rw [hcv, hxl] at r0
  rw [hr] at r3
  have hRw := hx.whole.lt
  have HX := Lib.hid hx
  have l1 := lit_run hw
  have l2 := lit_run' hw
  clear ho hx hcv hxl hc hw
  go_enter Tryz.func91, Tryz.ntmps91
  go_wp2
  go_ret
  refine LineRes.yes _ rfl rfl ⟨cv, lv, av, xs, ys, HX.out.setRun⟩ ((Kb.of_below (Below.refl _ _)).set 3 _ hBw)
set_option maxRecDepth 100000 in
set_option maxHeartbeats 4000000 in
theorem line_link (s : List UInt8) (st : St) (B R : Nat) (w : World) (h : RdS w B R st) (E : Env w) (hBw : B ≤ w.heap.size) (hs : s.length ≤ 100000) (hk : StOk st) (hr : st.run = false) (hc : st.cs ≠ []) (hw : ¬ s = wRun) :
    Calls Tryz.prog 91 #[.pointer (some ⟨R, 0, none⟩), .string (str s)] w fun e w' => LineRes w B R (lineS st s) e w' := by
  obtain ⟨cv, lv, av, xs, ys, hx⟩ := h
  have hnl := hk.nl
  obtain ⟨o, ho⟩ : ∃ o, lineS st s = o := ⟨_, rfl⟩
  have HO : Hid (o = match linkC s with
    | some l => if maySet st.cs (st.ls ++ [l]) then some { st with ls := st.ls ++ [l] } else none
    | none => none) := Lib.hid (by rw [← ho]; unfold lineS; rw [if_neg (by simp [hr]), if_neg (by simpa using hc), if_neg hw]; rfl)
  rw [ho]
  clear ho
  have hxl : xs.length = st.cs.length := by rw [hx.cs, List.length_map]
  have hx0 : ((st.cs.length : Int) == 0) = false := by
    cases hcc : st.cs with
    | nil => exact absurd hcc hc
    | cons a b => exact beq_eq_false_iff_ne.2 (by simp only [List.length_cons]; omega)
  have hcl := hk.nc
  obtain ⟨A0, k0, hcv⟩ := own_slice_n hx.rc
  have q0 : w.cell? ⟨R, 0, none⟩ = some cv := hx.whole.cell 0
  have q3 : w.cell? ⟨R, 3, none⟩ = some (.bool st.run) := hx.whole.cell 3
  rw [hcv, hxl] at q0
  rw [hr] at q3
  have hRw := hx.whole.lt
  have l1 := lit_run_no hw
  have l2 := lit_run_no' hw
  have HX := Lib.hid hx
  have EE := Lib.hid E
  have HK := Lib.hid hk
  have HMS : Hid (∀ c ∈ st.cs, c.own.length ≤ 1000000 ∧ c.ports.length ≤ 1000000 ∧ In64 c.node) := Lib.hid (may_sizes (hk.ok.may hc) hk.ok.confs)
  clear hx E hcv hxl hc hw hk hr
  obtain ⟨⟨m1, m2, m3, m4⟩, code, hcr, hin, hcode⟩ := link_row s
  have HC := Lib.hid hcode
  have HIN := Lib.hid hin
  have HCR := Lib.hid hcr
  clear hcode hin hcr
  go_enter Tryz.func91, Tryz.ntmps91
  go_wp2_with fail
  refine (clinkOf_any s w (by omega) EE.out).mono ?_
  rintro e w1 ⟨he, hb1⟩
  rw [HCR.out] at he
  subst he
  have HX1 := Lib.hid (HX.out.here hb1)
  have HB1 := Lib.hid hb1
  have hsz := hb1.size
  clear hb1 q3 q0
  obtain ⟨W1, hW1⟩ : ∃ X, ((w1.alloc (.cells #[.int .i64 m1, .int .i64 m2, .int .i64 m3, .int .i64 m4] 63)).alloc (.cells #[.int .i64 m1, .int .i64 m2, .int .i64 m3, .int .i64 m4] 63)).drew = X := ⟨_, rfl⟩
  have hnew : W1.heap[w1.heap.size + 1]? = some (.cells #[.int .i64 m1, .int .i64 m2, .int .i64 m3, .int .i64 m4] 63 (0, 0)) := by
    rw [← hW1]
    have := heap_alloc_new (w1.alloc (.cells #[.int .i64 m1, .int .i64 m2, .int .i64 m3, .int .i64 m4] 63)) (.cells #[.int .i64 m1, .int .i64 m2, .int .i64 m3, .int .i64 m4] 63)
    rw [World.size_alloc] at this
    exact this
  have hP : Whole W1 w1.heap.size 63 #[.int .i64 m1, .int .i64 m2, .int .i64 m3, .int .i64 m4] := by rw [← hW1]; exact ((Whole.new w1 _ _).alloc _).drew
  have hxx : RdX W1 B R st cv lv av xs ys := by rw [← hW1]; exact ((HX1.out.alloc _).alloc _).drew
  have hbW : Below w1.heap.size w1 W1 := by rw [← hW1]; exact (((Below.refl _ w1).alloc (Nat.le_refl _) _).alloc (by simp) _).drew
  have hszW : W1.heap.size = w1.heap.size + 1 + 1 := by rw [← hW1]; simp
  have hne : lv.ownBlock ≠ some w1.heap.size := fun e => by have := (HX1.out.rl.lt _ e).2; omega
  have c2 : (w1.alloc (.cells #[.int .i64 m1, .int .i64 m2, .int .i64 m3, .int .i64 m4] 63)).cell? ⟨R, 1, none⟩ = some lv := (HX1.out.alloc _).whole.cell 1
  have c2b : ((w1.alloc (.cells #[.int .i64 m1, .int .i64 m2, .int .i64 m3, .int .i64 m4] 63)).alloc (.cells #[.int .i64 m1, .int .i64 m2, .int .i64 m3, .int .i64 m4] 63)).cell? ⟨R, 1, none⟩ = some lv := ((HX1.out.alloc _).alloc _).whole.cell 1
  have hno := hxx.whole.notRow hxx.rl (by decide)
  obtain ⟨i0, hi0, hz0, hz1, hz2⟩ := info_parts info_LK
  have HW1 := Lib.hid hW1
  clear hW1
  go_upto_region 11 with fail
  go_region_law
    ((rw [HW1.out]; refine step_append_lies _ (by rfl) _ _ _ (by rfl) B 63 i0 _ 4 32 Tryz.underlying71 hi0 hz0 hz1 hz2 rfl (by omega) _ st.ls.length _ (by rfl) hxx.rl
        ⟨w1.heap.size + 1, 0, none⟩ 1 1 [.int .i64 m1, .int .i64 m2, .int .i64 m3, .int .i64 m4] (by rfl) (by rfl) (World.news_of_block (cs := #[.int .i64 m1, .int .i64 m2, .int .i64 m3, .int .i64 m4]) (t := 63) (fr := (0, 0)) hnew) (by simp [Value.oneCell'])
        (by omega) (by unfold maxLen; omega) (by omega) (by omega) (w1.heap.size + 1 + 1) hszW ?_; intro gg cap w2 hown2 hgrow hat hlt2; have hW2 := hxx.whole.kept hgrow (Ne.symm hno); have c22 : w2.cell? ⟨R, 1, none⟩ = some lv := hW2.cell 1; have f22 := hW2.frozen 1; have hP2 := hP.kept hgrow (Ne.symm hne); have p0 := hP2.cell 0; have p1 := hP2.cell 1; have p2 := hP2.cell 2; have p3 := hP2.cell 3))
  all_goals
    have HX3 : Hid (RdX (w2.setCell ⟨R, 1, none⟩ (.slice (some ⟨gg, 0, none⟩) (st.ls.length + 1) cap)) B R { st with ls := st.ls ++ [(m1, m2, m3, m4)] } cv (.slice (some ⟨gg, 0, none⟩) (st.ls.length + 1) cap) av xs ys) := Lib.hid (hxx.pushL hgrow (m1, m2, m3, m4) rfl hown2 (Went.of hat (Nat.le_of_eq hszW)))
    have HB3 : Hid (Kb B R w (w2.setCell ⟨R, 1, none⟩ (.slice (some ⟨gg, 0, none⟩) (st.ls.length + 1) cap))) := Lib.hid (by
      have hx : Below B w1 w2 := (hbW.mono (by omega)).grown hgrow (by omega) fun g hg => (hxx.rl.lt g hg).1
      exact (Kb.of_below ((HB1.out.mono hBw).trans hx)).set 1 _ (by have := hx.size; omega))
    generalize w2.setCell ⟨R, 1, none⟩ (.slice (some ⟨gg, 0, none⟩) (st.ls.length + 1) cap) = W3 at *
    have c30 : W3.cell? ⟨R, 0, none⟩ = some cv := HX3.out.whole.cell 0
    have c31 : W3.cell? ⟨R, 1, none⟩ = some (.slice (some ⟨gg, 0, none⟩) (st.ls.length + 1) cap) := HX3.out.whole.cell 1
    clear hown2 hgrow hat hlt2 hW2 c22 f22 hP2 p0 p1 p2 p3 hno hne hP hnew hbW hszW c2 c2b
    rcases HC.out with ⟨hl, rfl⟩ | ⟨hl, rfl⟩
    · have HS := Lib.hid HX3.out.scr
      have HMAY : Hid (Calls Tryz.prog 92 #[.agg #[cv, .slice (some ⟨gg, 0, none⟩) (st.ls.length + 1) cap]] W3 fun e w' => e = .returned (.bool (maySet st.cs (st.ls ++ [(m1, m2, m3, m4)]))) ∧ Below W3.heap.size W3 w') := Lib.hid
        (smay_any _ _ _ _ W3 HS.out.confs HS.out.links (fun c hc' => (HK.out.ok.confs c hc').1) HMS.out (fun l hl' => by
          rcases List.mem_append.1 hl' with hl' | hl'
          · exact HK.out.ok.links l hl'
          · have : l = (m1, m2, m3, m4) := by simpa using hl'
            subst this; exact HIN.out) (by have := HK.out.nc; omega) (by have := HK.out.nl; simp; omega))
      have HL := Lib.hid hl
      clear hl
      go_wp2_with fail
      refine HMAY.out.mono ?_
      rintro e w4 ⟨rfl, hb4⟩
      have HB4 := Lib.hid (HB3.out.trans (Kb.of_below (hb4.mono (Nat.le_trans hBw HB3.out.size))))
      have HX4 := Lib.hid (HX3.out.here hb4)
      clear hb4
      go_wp2
      go_ret
      rw [HL.out] at HO
      simp only at HO
      cases hm : maySet st.cs (st.ls ++ [(m1, m2, m3, m4)]) with
      | false => exact LineRes.no (by rw [HO.out, hm]; rfl) rfl HB4.out
      | true => exact LineRes.yes _ (by rw [HO.out, hm]; rfl) rfl ⟨_, _, _, _, _, HX4.out⟩ HB4.out
    · have HL := Lib.hid hl
      clear hl
      go_wp2
      go_ret
      rw [HL.out] at HO
      exact LineRes.no HO.out rfl HB3.out
/-- The reader's line, whatever it is. -/
theorem line_any (s : List UInt8) (st : St) (B R : Nat) (w : World) (h : RdS w B R st) (E : Env w) (hBw : B ≤ w.heap.size) (hs : s.length ≤ 100000) (hk : StOk st) :
    Calls Tryz.prog 91 #[.pointer (some ⟨R, 0, none⟩), .string (str s)] w fun e w' => LineRes w B R (lineS st s) e w' := by
  cases hr : st.run with
  | true => exact line_run s st B R w h E hBw hs hk hr
  | false =>
    by_cases hc : st.cs = []
    · exact line_none s st B R w h hr hc
    · by_cases hw : s = wRun
      · exact line_go s st B R w h hr hBw hc (by have := hk.nc; omega) hw
      · exact line_link s st B R w h E hBw hs hk hr hc hw
end Go.Proofs.YtfbangojgjcbcaaGreatDoor
