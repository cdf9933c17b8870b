/- ScriptTexts answers true for any two scripts, and leaves its arguments as they were. Conditions: those of the given card (the listed package-level variables hold what the program's text lays). -/
import Derived.Test.YtfbangojgjcbcaaGreatDoorShelf4
import Derived.WalkMore
import Derived.Test.YtfbangojgjcbcaaGreatDoorST03
import Derived.Test.YtfbangojgjcbcaaGreatDoorST10
import Derived.Test.YtfbangojgjcbcaaGreatDoorST11
import Derived.Test.YtfbangojgjcbcaaGreatDoorST12
import Derived.Test.YtfbangojgjcbcaaGreatDoorST13
import Derived.Test.YtfbangojgjcbcaaGreatDoorST14
namespace Go.Proofs.YtfbangojgjcbcaaGreatDoor
open Go.RowKit Pl Go.Shelf
set_option maxRecDepth 100000 in
set_option maxHeartbeats 4000000 in
theorem names1g_in {α : Type} (kf : α → Nat) (ls : List α) (hls : ls.map kf = kinds9) (F : Fence) (n : Nat) (hF : F.fn 141) (hro : F.round = none) (hn : 1 ≤ n) (l Bs lo hi : Nat) (v : Value) (J Jx : List α → World → Prop)
    (hY : ∀ (pre : List α) (x : α) (W : World), J pre W → pre.length < 9 → YieldAt F (n - 1) Tryz.prog l #[.int .i64 (kf x : Int), .string (str (nameA (kf x)))] W fun e W' =>
      (e = .returned (.bool true) ∧ J (pre ++ [x]) W' ∧ Between lo hi W W') ∨ (e = .returned (.bool false) ∧ Jx (pre ++ [x]) W'))
    (W : World) (hBs : W.cell? ⟨Bs, 0, none⟩ = some v) (hE : Ss lo hi W v names9) (h0 : J [] W) :
    CallsIn F n Tryz.prog 141 #[.func (.yield l) #[] #[], .pointer (some ⟨Bs, 0, none⟩)] W fun e W' => (∃ v, e = .returned v) ∧
      ((∃ ys, ys = ls ∧ J ys W') ∨ (∃ pre, pre <+: ls ∧ Jx pre W')) := by
  have HE := Lib.hid hE
  obtain ⟨A, c, rfl, _⟩ := hE
  change W.cell? ⟨Bs, 0, none⟩ = some (.slice A 9 c) at hBs
  refine callsIn_of_wp Tryz.func141 rfl hF ?_ hro
  simp only [Tryz.ntmps141, List.size_toArray, List.length_cons, List.length_nil, Nat.reduceAdd, Nat.reduceSub, Array.replicate_succ, Array.replicate_zero, List.push_toArray, List.append_toArray, List.nil_append, List.cons_append]
  gi_wp2
  gi_loopw [7] (fun i wr => ∃ k : Nat, k ≤ 9 ∧ i = .int .i64 k ∧ J (ls.take k) wr ∧ Between lo hi W wr) (fun i _ => 9 - (intOf i).toNat)
  case atStart => exact ⟨0, Nat.zero_le _, rfl, h0, Between.refl _⟩
  case round =>
    obtain ⟨k, hk, rfl, hJs, hnx⟩ := hrel
    by_cases hlt : k < 9
    · obtain ⟨A', c', hv, hA⟩ := HE.out.keep hnx
      injection hv with hv1 hv2 hv3
      subst hv1 hv3
      obtain ⟨b, off, rfl, hb, hcell⟩ := hA (by decide)
      have hu0 : kinds9[k]? = some (k + 1) := by rcases (by omega : k = 0 ∨ k = 1 ∨ k = 2 ∨ k = 3 ∨ k = 4 ∨ k = 5 ∨ k = 6 ∨ k = 7 ∨ k = 8) with rfl | rfl | rfl | rfl | rfl | rfl | rfl | rfl | rfl <;> rfl
      have c0 := hcell k (nameA (k + 1)) (by unfold names9; rw [List.getElem?_map, hu0]; rfl)
      obtain ⟨x, hu, hkx⟩ : ∃ x, ls[k]? = some x ∧ kf x = k + 1 := by
        rw [← hls, List.getElem?_map] at hu0
        cases hx : ls[k]? with
        | none => rw [hx] at hu0; cases hu0
        | some x => rw [hx] at hu0; exact ⟨x, rfl, Option.some.inj hu0⟩
      have HT : Hid (ls.take (k + 1) = ls.take k ++ [x]) := Lib.hid (by rw [List.take_add_one, hu]; rfl)
      clear hcell hA hu hu0 hv2
      have hkl : (ls.take k).length < 9 := by rw [List.length_take]; omega
      obtain ⟨fn, tmps, assign, body, hy, hR⟩ := hY (ls.take k) x _ hJs hkl
      have ek : ((k + 1 : Nat) : Int) = (k : Int) + 1 := by omega
      rw [hkx, ek] at hy
      clear hkl ek hkx
      gi_wp2
      refine hR.mono ?_
      rintro e W3 (⟨rfl, hJ3, hk3⟩ | ⟨rfl, hJx3⟩)
      · gi_wp2
        go_roundw
        case rel => exact ⟨k + 1, by omega, by go_num, by rw [HT.out]; exact hJ3, hnx.trans hk3⟩
        case measure => simp [intOf]; omega
      · gi_wp2
        refine bodyPost_ret (results_none rfl _ _ _) rfl ?_
        exact ⟨⟨_, rfl⟩, .inr ⟨ls.take k ++ [x], by rw [← HT.out]; exact List.take_prefix _ _, hJx3⟩⟩
    · obtain rfl : k = 9 := by omega
      have e9 : ls.take 9 = ls := List.take_of_length_le (by have := congrArg List.length hls; rw [List.length_map] at this; exact Nat.le_of_eq this)
      rw [e9] at hJs
      gi_wp2
      go_end0
      exact ⟨⟨_, rfl⟩, .inl ⟨_, rfl, hJs⟩⟩
theorem names1g_stops {α : Type} (kf : α → Nat) (ls : List α) (hls : ls.map kf = kinds9) (F : Fence) (n : Nat) (hF : F.fn 141) (hro : F.round = none) (hn : 1 ≤ n) (Bs lo hi : Nat) (v : Value) (w : World) (hBn : Bs < w.heap.size) (hhi : hi ≤ w.heap.size)
    (hc : w.cell? ⟨Bs, 0, none⟩ = some v) (hE : Ss lo hi w v names9) :
    SeqStopsK F n Tryz.prog 141 #[.pointer (some ⟨Bs, 0, none⟩)] (fun x : α => #[.int .i64 (kf x : Int), .string (str (nameA (kf x)))]) (Between lo hi) (fun ys => ys = ls) (fun pre => pre <+: ls) 9 w := fun l J Jx W hW _ _ hY h0 =>
  names1g_in kf ls hls F n hF hro hn l Bs lo hi v J Jx hY W ((hW.cell (p := ⟨Bs, 0, none⟩) hBn).trans hc) (hE.keep (Between.of_below (hW.mono hhi))) h0
/-- The kinds. -/
abbrev K19 := {x : Nat // 1 ≤ x ∧ x ≤ 9}
def kinds19 : List K19 := [⟨1, by decide⟩, ⟨2, by decide⟩, ⟨3, by decide⟩, ⟨4, by decide⟩, ⟨5, by decide⟩, ⟨6, by decide⟩, ⟨7, by decide⟩, ⟨8, by decide⟩, ⟨9, by decide⟩]
theorem kinds19_val : kinds19.map Subtype.val = kinds9 := rfl
theorem csplit_own (s : List UInt8) (w : World) (hs : s.length ≤ 1000000) (E : Env w) :
    Calls Tryz.prog 83 #[.string (str s), .string ⟨#[32]⟩] w fun e w' => (∃ v, e = .returned v ∧ w'.ownsRow w.heap.size 9 1 v (splitOn 32 s).length ((splitOn 32 s).map Sv)) ∧ Below w.heap.size w w' := by
  obtain ⟨m, hm⟩ := E.maxlen
  refine (Tryz.strings_Split (str s) (str [32]) m w (by rw [str_size]; omega) hm (by rw [str_size]; simp)).mono fun e w' ⟨he, hw⟩ => ?_
  rw [splitB_str] at hw
  have hlen : Lib.countB (str s) (str [32]) + 1 = (splitOn 32 s).length := by
    have h := Lib.splitB_all (str [32]) (by rw [str_size]; simp) 0 _ (str s) rfl
    rw [splitB_str, List.length_map] at h; omega
  rw [hlen] at he
  refine ⟨⟨_, he, ?_⟩, by rw [hw]; exact (Below.refl _ _).alloc (Nat.le_refl _) _⟩
  rw [hw, List.map_map]
  have := World.ownsRow_lit (base := w.heap.size) (e := 9) (size := 1) w ((splitOn 32 s).map Sv).toArray (splitOn 32 s).length (Nat.le_refl _) (by have := (splitOn_len 32 s).1; unfold maxLen; omega) (by simp)
  exact this
end Go.Proofs.YtfbangojgjcbcaaGreatDoor
namespace Go.Proofs.YtfbangojgjcbcaaGreatDoor
open Go.RowKit Pl Go.Shelf
attribute [local go_sem] Oper.semAt_some
def ActOfRes (r : Option ActP) (e : Ending) (w' : World) : Prop := match r with
  | some a => ∃ bv, e = .returned (.tuple #[actV a bv, .int .i64 0]) ∧ Bs w' bv a.bytes
  | none => e = .returned (.tuple #[actV { kind := 0 } (.slice none 0 0), .int .i64 4])
/-- The same; and its bytes lie in new memory. -/
def ActOfFrom (r : Option ActP) (base : Nat) (e : Ending) (w' : World) : Prop := match r with
  | some a => ∃ bv, e = .returned (.tuple #[actV a bv, .int .i64 0]) ∧ Bs w' bv a.bytes ∧ BlkFrom base bv
  | none => e = .returned (.tuple #[actV { kind := 0 } (.slice none 0 0), .int .i64 4])
theorem ActOfFrom.res {r : Option ActP} {base : Nat} {e : Ending} {w' : World} (h : ActOfFrom r base e w') : ActOfRes r e w' := by
  cases r with
  | none => exact h
  | some a => obtain ⟨bv, h1, h2, _⟩ := h; exact ⟨bv, h1, h2⟩
theorem wd_pad : ∀ (l : List (List UInt8)) (i : Nat), wd (l ++ [[], [], [], [], []]) i = wd l i
  | [], 0 | [], 1 | [], 2 | [], 3 | [], 4 => rfl
  | [], _ + 5 => rfl
  | _ :: _, 0 => rfl
  | _ :: l, i + 1 => wd_pad l i
theorem Bsl {w : World} {base g c : Nat} {ws : List (List UInt8)} {n : Nat} (h : w.ownsRow base 9 1 (.slice (some ⟨g, 0, none⟩) n c) ws.length (ws.map Sv)) : ws.length ≤ c ∧ ∀ j x, ws[j]? = some x → w.cell? ⟨g, j, none⟩ = some (.string (str x)) := by
  constructor
  · rcases h.2 with ⟨h', _⟩ | ⟨g', cap', cur, h', _, _, hnc, _⟩
    · cases h'
    · injection h' with _ _ h'; subst h'; exact hnc
  · intro j x hx
    have := h.cells (g := g) rfl j (Sv x) (by rw [List.getElem?_map, hx]; rfl)
    rw [show ((⟨g, 0, none⟩ : Addr).add j) = ⟨g, 0 + j, none⟩ from by unfold Addr.add; by_cases hj : j = 0 <;> simp [hj], Nat.zero_add] at this
    exact this
/-- None of these kinds tells an act of the text. -/
def NoAct (ws : List (List UInt8)) (s : List UInt8) (pre : List K19) : Prop := ∀ x ∈ pre, ¬ (wd ws 0 = nameA x.val ∧ isA (guessA numC x.val ws) s = true)
theorem NoAct.snoc {ws : List (List UInt8)} {s : List UInt8} {pre : List K19} {x : K19} (h : NoAct ws s pre) (hx : ¬ (wd ws 0 = nameA x.val ∧ isA (guessA numC x.val ws) s = true)) : NoAct ws s (pre ++ [x]) := by
  intro y hy
  rcases List.mem_append.1 hy with h' | h'
  · exact h y h'
  · simp only [List.mem_singleton] at h'
    rw [h']; exact hx
theorem kindA_name {x : Nat} (h1 : 1 ≤ x) (h9 : x ≤ 9) : kindA (nameA x) = some x := by
  rcases (by omega : x = 1 ∨ x = 2 ∨ x = 3 ∨ x = 4 ∨ x = 5 ∨ x = 6 ∨ x = 7 ∨ x = 8 ∨ x = 9) with rfl | rfl | rfl | rfl | rfl | rfl | rfl | rfl | rfl <;> decide
theorem guess_pad {f : List UInt8 → Int} {ws vs : List (List UInt8)} (h : ∀ i, wd ws i = wd vs i) (k : Nat) : guessA f k ws = guessA f k vs := by
  unfold guessA
  split <;> simp only [h]
theorem actC_of (ws : List (List UInt8)) (s : List UInt8) (x : K19) (hw : ∀ i, wd ws i = wd (splitOn 32 s) i) (h0 : wd ws 0 = nameA x.val) (h : isA (guessA numC x.val ws) s = true) : actC s = some (guessA numC x.val ws) := by
  unfold actC actW
  rw [← hw 0, h0, kindA_name x.2.1 x.2.2]
  simp only
  rw [← guess_pad hw, if_pos h]
theorem actC_none (ws : List (List UInt8)) (s : List UInt8) (hw : ∀ i, wd ws i = wd (splitOn 32 s) i) (h : NoAct ws s kinds19) : actC s = none := by
  unfold actC actW
  rw [← hw 0]
  cases hk : kindA (wd ws 0) with
  | none => rfl
  | some k =>
    obtain ⟨h1, h9, hn⟩ := kindA_le hk
    simp only
    have hm : (⟨k, h1, h9⟩ : K19) ∈ kinds19 := by
      rcases (by omega : k = 1 ∨ k = 2 ∨ k = 3 ∨ k = 4 ∨ k = 5 ∨ k = 6 ∨ k = 7 ∨ k = 8 ∨ k = 9) with rfl | rfl | rfl | rfl | rfl | rfl | rfl | rfl | rfl <;> simp [kinds19]
    have := h _ hm
    rw [← guess_pad hw, if_neg (fun hi => this ⟨hn, hi⟩)]
theorem unhex_len : ∀ (l m : List UInt8), unhex l = some m → m.length ≤ l.length
  | [], m, h => by simp [unhex] at h; subst h; simp
  | [_], m, h => by simp [unhex] at h
  | a :: b :: t, m, h => by
    unfold unhex at h
    split at h
    · cases hu : unhex t with
      | none => rw [hu] at h; simp at h
      | some r =>
        rw [hu] at h
        have := unhex_len t r hu
        simp at h
        subst h
        simp; omega
    · cases h
theorem unhexD_len (l : List UInt8) : (unhexD l).length ≤ l.length := by
  unfold unhexD
  cases h : unhex l with
  | none => simp
  | some m => exact unhex_len l m h
theorem guess_bytes (k : Nat) (ws : List (List UInt8)) (h : ∀ x ∈ ws, x.length ≤ 100000) : (guessA numC k ws).bytes.length ≤ 100000 := by
  have hw : (wd ws 2).length ≤ 100000 := by
    unfold wd
    rw [List.getD_eq_getElem?_getD]
    cases hx : ws[2]? with
    | none => simp
    | some y => exact h y (List.mem_of_getElem? hx)
  have hu : (unhexD (wd ws 2)).length ≤ (wd ws 2).length := unhexD_len _
  unfold guessA
  split <;> simp <;> omega
theorem box9 {W : World} {g : Nat} {t : TypeId} {x0 x1 x2 x3 x4 x5 x6 x7 x8 : Value} (h : Whole W g t #[x0, x1, x2, x3, x4, x5, x6, x7, x8]) (a0 a1 a2 a3 a4 a5 a6 a7 a8 : Value) :
    Whole (((((((((W.setCell ⟨g, 0, none⟩ a0).setCell ⟨g, 1, none⟩ a1).setCell ⟨g, 2, none⟩ a2).setCell ⟨g, 3, none⟩ a3).setCell ⟨g, 4, none⟩ a4).setCell ⟨g, 5, none⟩ a5).setCell ⟨g, 6, none⟩ a6).setCell ⟨g, 7, none⟩ a7).setCell ⟨g, 8, none⟩ a8) g t #[a0, a1, a2, a3, a4, a5, a6, a7, a8] := by
  have := ((((((((h.set 0 a0).set 1 a1).set 2 a2).set 3 a3).set 4 a4).set 5 a5).set 6 a6).set 7 a7).set 8 a8
  simp only [List.setIfInBounds_toArray, List.set_cons_zero, List.set_cons_succ] at this
  exact this
theorem far9 {W : World} {g b : Nat} {t : TypeId} {cs : Array Value} (h : Whole W g t cs) (hb : g ≠ b) (a0 a1 a2 a3 a4 a5 a6 a7 a8 : Value) :
    Whole (((((((((W.setCell ⟨b, 0, none⟩ a0).setCell ⟨b, 1, none⟩ a1).setCell ⟨b, 2, none⟩ a2).setCell ⟨b, 3, none⟩ a3).setCell ⟨b, 4, none⟩ a4).setCell ⟨b, 5, none⟩ a5).setCell ⟨b, 6, none⟩ a6).setCell ⟨b, 7, none⟩ a7).setCell ⟨b, 8, none⟩ a8) g t cs :=
  ((((((((h.far (p := ⟨b, 0, none⟩) hb a0).far (p := ⟨b, 1, none⟩) hb a1).far (p := ⟨b, 2, none⟩) hb a2).far (p := ⟨b, 3, none⟩) hb a3).far (p := ⟨b, 4, none⟩) hb a4).far (p := ⟨b, 5, none⟩) hb a5).far (p := ⟨b, 6, none⟩) hb a6).far (p := ⟨b, 7, none⟩) hb a7).far (p := ⟨b, 8, none⟩) hb a8
theorem keeps9 (W : World) (g : Nat) (a0 a1 a2 a3 a4 a5 a6 a7 a8 : Value) :
    KeepsOthers W (((((((((W.setCell ⟨g, 0, none⟩ a0).setCell ⟨g, 1, none⟩ a1).setCell ⟨g, 2, none⟩ a2).setCell ⟨g, 3, none⟩ a3).setCell ⟨g, 4, none⟩ a4).setCell ⟨g, 5, none⟩ a5).setCell ⟨g, 6, none⟩ a6).setCell ⟨g, 7, none⟩ a7).setCell ⟨g, 8, none⟩ a8) :=
  ((((((((KeepsOthers.setCell _ _ _).trans (KeepsOthers.setCell _ _ _)).trans (KeepsOthers.setCell _ _ _)).trans (KeepsOthers.setCell _ _ _)).trans (KeepsOthers.setCell _ _ _)).trans (KeepsOthers.setCell _ _ _)).trans (KeepsOthers.setCell _ _ _)).trans (KeepsOthers.setCell _ _ _)).trans (KeepsOthers.setCell _ _ _)
/-- The results' cells, once a round has left. -/
def ActOut (s : List UInt8) (H : Nat) (w : World) (c : Code) (W : World) : Prop := c = .ret ∧ ∃ a A n k, actC s = some a ∧ Whole W (H + 1) 51 #[.int .i64 a.kind, .int .i64 a.node, .int .i64 a.port, .int .i64 a.cost, .int .i64 a.n, .bool a.up, .int .u8 (a.by_.toNat : Int), .bool a.unread, .slice A n k] ∧
  Whole W (H + 2) 29 #[.int .i64 0] ∧ Bs W (.slice A n k) a.bytes ∧ Below w.heap.size w W ∧ BlkFrom w.heap.size (.slice A n k)
theorem Bs.kept {X Y : World} {v : Value} {l : List UInt8} {row : Option Nat} (h : Bs X v l) (hg : X.grownBy Y row) (hr : ∀ r, row = some r → ∃ o : Obj, X.heap[r]? = some o ∧ o.isCells = false) : Bs Y v l := by
  obtain ⟨A, c, rfl, hc, hn, hA⟩ := h
  refine ⟨A, c, rfl, hc, hn, fun hp => ?_⟩
  obtain ⟨b, off, rfl, hb, hcell⟩ := hA hp
  exact ⟨b, off, rfl, Nat.lt_of_lt_of_le hb hg.size, fun j u hu => cell_kept (hcell j u hu) hg hr⟩
theorem ActOut.own {s : List UInt8} {H B : Nat} {w : World} {c : Code} {X Y : World} {row : Option Nat} (hB : w.heap.size ≤ B) (h : ActOut s H w c X) (hg : X.grownBy Y row) (hr : ∀ r, row = some r → B ≤ r ∧ ∃ o : Obj, X.heap[r]? = some o ∧ o.isCells = false) : ActOut s H w c Y := by
  obtain ⟨hc, a, A, n, k, h1, h2, h3, h4, h5, h6⟩ := h
  exact ⟨hc, a, A, n, k, h1, whole_own _ _ (fun _ : Unit => _) () X Y row h2 hg (fun r e => (hr r e).2), whole_own _ _ (fun _ : Unit => _) () X Y row h3 hg (fun r e => (hr r e).2), h4.kept hg (fun r e => (hr r e).2), ownFrom_below (β := Unit) (Nat.le_refl _) hB () X Y row h5 hg hr, h6⟩
set_option maxRecDepth 100000 in
set_option maxHeartbeats 8000000 in
theorem cactOf_from (s : List UInt8) (w : World) (hs : s.length ≤ 100000) (E : Env w) :
    Calls Tryz.prog 36 #[.string (str s)] w fun e w' => ActOfFrom (actC s) w.heap.size e w' ∧ Below w.heap.size w w' := by
  obtain ⟨W0, hW0⟩ : ∃ W0, ((w.alloc (.cells #[.string (str s)] 9)).alloc (.cells #[.int .i64 0, .int .i64 0, .int .i64 0, .int .i64 0, .int .i64 0, .bool false, .int .u8 0, .bool false, .slice none 0 0] 51)).alloc (.cells #[.int .i64 0] 29) = W0 := ⟨_, rfl⟩
  have HB0 : Hid (Below w.heap.size w W0) := Lib.hid (by rw [← hW0]; exact (((Below.refl _ _).alloc (Nat.le_refl _) _).alloc (by simp) _).alloc (by simp; omega) _)
  have HXs : Hid (Whole W0 w.heap.size 9 #[.string (str s)]) := Lib.hid (by rw [← hW0]; exact ((Whole.new w _ _).alloc _).alloc _)
  have HXa : Hid (Whole W0 (w.heap.size + 1) 51 #[.int .i64 0, .int .i64 0, .int .i64 0, .int .i64 0, .int .i64 0, .bool false, .int .u8 0, .bool false, .slice none 0 0]) := Lib.hid (by
    rw [← hW0]
    have := (Whole.new (w.alloc (.cells #[.string (str s)] 9)) 51 #[.int .i64 0, .int .i64 0, .int .i64 0, .int .i64 0, .int .i64 0, .bool false, .int .u8 0, .bool false, .slice none 0 0]).alloc (.cells #[.int .i64 0] 29)
    simpa using this)
  have HXe : Hid (Whole W0 (w.heap.size + 2) 29 #[.int .i64 0]) := Lib.hid (by
    rw [← hW0]
    have := Whole.new ((w.alloc (.cells #[.string (str s)] 9)).alloc (.cells #[.int .i64 0, .int .i64 0, .int .i64 0, .int .i64 0, .int .i64 0, .bool false, .int .u8 0, .bool false, .slice none 0 0] 51)) 29 #[.int .i64 0]
    simpa using this)
  have hs0 : W0.heap.size = w.heap.size + 3 := by rw [← hW0]; simp
  have E0 := Lib.hid (E.here HB0.out)
  have HSP := Lib.hid (csplit_own s W0 (by omega) E0.out)
  have hws := (splitOn_len 32 s).1
  have HWL := Lib.hid (splitOn_len 32 s).2
  have HW0 := Lib.hid hW0
  have ys : W0.cell? ⟨w.heap.size, 0, none⟩ = some (.string (str s)) := HXs.out.cell 0
  have hlt0 : w.heap.size < W0.heap.size := by omega
  clear hW0 E
  refine (callsIn_wide (n := 3)).1 ?_
  refine callsIn_of_wp_marks Tryz.func36 rfl trivial ?_ rfl
  simp only [Tryz.ntmps36, List.size_toArray, List.length_cons, List.length_nil, Nat.reduceAdd, Nat.reduceSub, Array.replicate_succ, Array.replicate_zero, List.push_toArray, List.append_toArray, List.nil_append, List.cons_append]
  gi_wp2
  rw [HW0.out]
  refine ⟨trivial, (callsIn_wide.2 HSP.out).mono ?_⟩
  rintro e w1 ⟨⟨v, rfl, hown⟩, hb1⟩
  obtain ⟨g1, cap1, rfl, -, hg1⟩ := hown.form (by have := splitOn_ne 32 s; exact List.length_pos_iff.2 this)
  have HO1 := Lib.hid hown
  have HB1 := Lib.hid hb1
  have hs1 := hb1.size
  obtain ⟨i0, hi0, hz0, hz1, hz2⟩ := info_parts info_str
  clear hown hb1
  gi_wp2_with (gi_at_builtin; refine wpListIn_append_own _ rfl _ _ 40 rfl W0.heap.size 9 i0 (.string ⟨#[]⟩) 1 16 Tryz.underlying40 hi0 hz0 hz1 hz2 rfl (by decide) _ _ _ rfl (HO1.out.alloc _) ⟨w1.heap.size, 0, none⟩ 5 5 [.string ⟨#[]⟩, .string ⟨#[]⟩, .string ⟨#[]⟩, .string ⟨#[]⟩, .string ⟨#[]⟩] rfl rfl (World.news_of_block (heap_alloc_new w1 _)) (by intro y hy; simp at hy; subst hy; rfl) (by unfold maxLen; omega) (by omega) (by simp; omega) ?_)
  intro v' w2 hown2 hgr _
  obtain ⟨g2, cap2, rfl, -, hg2⟩ := hown2.form (by omega)
  obtain ⟨ws, hws2⟩ : ∃ ws, splitOn 32 s ++ [[], [], [], [], []] = ws := ⟨_, rfl⟩
  have hwl : ws.length = (splitOn 32 s).length + 5 := by rw [← hws2]; simp
  have hmp : (splitOn 32 s).map Sv ++ [.string ⟨#[]⟩, .string ⟨#[]⟩, .string ⟨#[]⟩, .string ⟨#[]⟩, .string ⟨#[]⟩] = ws.map Sv := by rw [← hws2, List.map_append]; rfl
  rw [hmp, ← hwl] at hown2
  have hb2 : Below W0.heap.size W0 w2 := (HB1.out.alloc hs1 _).grown hgr (by simp; omega) (fun g hg => (HO1.out.lt g hg).1)
  have hwd2 : Wds w2 g2 ws.length cap2 ws := by
    have hn := Bsl hown2
    exact ⟨rfl, hn.1, hg2, fun j x hx => hn.2 j x hx⟩
  have hcw : ∀ i, wd ws i = wd (splitOn 32 s) i := fun i => by rw [← hws2]; exact wd_pad _ _
  have hlw : ∀ x ∈ ws, x.length ≤ 100000 := fun x hx => by
    rw [← hws2] at hx
    rcases List.mem_append.1 hx with h | h
    · exact Nat.le_trans (HWL.out x h) hs
    · simp only [List.mem_cons, List.not_mem_nil, or_false, or_self] at h
      rw [h]; simp
  have hw5 : 5 ≤ ws.length := by omega
  have hwn : ws.length ≤ 1000000 := by omega
  have HCW := Lib.hid hcw
  have HLW := Lib.hid hlw
  obtain ⟨W2, hW2⟩ : ∃ W2, w2.alloc (.cells #[.slice (some ⟨g2, 0, none⟩) ws.length cap2] 40) = W2 := ⟨_, rfl⟩
  have HB2 : Hid (Below W0.heap.size W0 W2) := Lib.hid (by rw [← hW2]; exact hb2.alloc hb2.size _)
  have HWB : Hid (Whole W2 w2.heap.size 40 #[.slice (some ⟨g2, 0, none⟩) ws.length cap2]) := Lib.hid (by rw [← hW2]; exact Whole.new _ _ _)
  have HWD : Hid (Wds W2 g2 ws.length cap2 ws) := Lib.hid (by rw [← hW2]; exact hwd2.here ((Below.refl _ _).alloc (Nat.le_refl _) _))
  have hn5 : (splitOn 32 s).length + 5 = ws.length := hwl.symm
  have HW2 := Lib.hid hW2
  obtain ⟨Bw, hBw⟩ : ∃ Bw, w2.heap.size = Bw := ⟨_, rfl⟩
  rw [hBw] at HWB
  have HBw := Lib.hid hBw
  have hBw0 : W0.heap.size ≤ Bw := by have := hb2.size; omega
  have HN5 := Lib.hid hn5
  clear hown2 hgr hws2 hwl hmp hb2 hwd2 hcw hlw hW2 hBw hn5
  gi_wp2
  rw [HN5.out, HBw.out, HW2.out]
  refine ⟨trivial, (callsIn_wide.2 (names_any W2)).mono ?_⟩
  rintro e W3 ⟨⟨Bq, vs, rfl, ⟨hlo, hBq⟩, hc, hS⟩, hb3⟩
  have HB3 : Hid (Below W0.heap.size W0 W3) := Lib.hid (HB2.out.trans (hb3.mono HB2.out.size))
  have HS := Lib.hid hS
  have HXs3 := Lib.hid (HXs.out.here HB3.out)
  have HXa3 := Lib.hid (HXa.out.here HB3.out)
  have HXe3 := Lib.hid (HXe.out.here HB3.out)
  have HWB3 := Lib.hid (HWB.out.here hb3)
  have HWD3 := Lib.hid (HWD.out.here hb3)
  have E3 := Lib.hid (E0.out.here HB3.out)
  have hs3 := HB3.out.size
  have hBw3 := HWB3.out.lt
  have hg3 := HWD3.out.lt
  clear hb3 hS
  gi_wp2
  refine wpIn_rangeFunc_ownH (F := Fence.wide) rfl (by decide) (gf := 141) (lb := #[.pointer (some ⟨Bq, 0, none⟩)]) rfl trivial (enters_of Tryz.func141 (by kernel_rfl) rfl)
    (names1g_stops (Subtype.val : K19 → Nat) kinds19 kinds19_val Fence.wide 2 trivial rfl (by decide) Bq W2.heap.size W3.heap.size vs W3 hBq (Nat.le_refl _) hc HS.out) Between.trans (fun W l o o' hl _ _ _ => Between.put hl) (Below.refl _ _) (fun _ => rfl)
    (fun pre W => Below W3.heap.size W3 W ∧ NoAct ws s pre)
    (fun c _ W => ActOut s w.heap.size w c W)
    (OwnFrom.and (ownFrom_below (Nat.le_refl _) (Nat.le_refl _)) (fun _ _ _ _ h _ _ => h))
    (fun c _ X Y row hs hg hr => ActOut.own (by omega) hs hg hr)
    ⟨Below.refl _ _, fun x hx => by cases hx⟩
    (fun x a' _ => ∃ u7 u13 u14 u15 u16 u17 u18 u19 u20 u21 u22 u23 u24 u25 u26 u27 u28 u29 u30 u31 u32, a' = { tmps := #[.string (str s), .pointer (some ⟨w.heap.size, 0, none⟩), .pointer (some ⟨w.heap.size + 1, 0, none⟩), .pointer (some ⟨w.heap.size + 2, 0, none⟩), .pointer (some ⟨Bw, 0, none⟩), .int .i64 (x.val : Int), .string (str (nameA x.val)), u7, .string (str s), .slice (some ⟨g1, 0, none⟩) (splitOn 32 s).length cap1, .slice (some ⟨w1.heap.size, 0, none⟩) 5 5, .slice (some ⟨g2, 0, none⟩) ws.length cap2, .func (.func 141) #[] #[.pointer (some ⟨Bq, 0, none⟩)], u13, u14, u15, u16, u17, u18, u19, u20, u21, u22, u23, u24, u25, u26, u27, u28, u29, u30, u31, u32], defers := [] })
    (fun x a' _ X Y row hs hg hr => hs)
    ?assign ?body ?done ?stop
  case assign =>
    rintro l pre x W K hI hK
    gi_wp2
    exact hK _ _ ((KeepsOthers.refl _).from _) (Between.refl W) hI ⟨_, _, _, _, _, _, _, _, _, _, _, _, _, _, _, _, _, _, _, _, _, rfl⟩
  case body =>
    rintro l pre x a' W hl _ ⟨hB, hno⟩ ⟨u7, u13, u14, u15, u16, u17, u18, u19, u20, u21, u22, u23, u24, u25, u26, u27, u28, u29, u30, u31, u32, rfl⟩ hlt
    have hsW := hB.size
    have HB := Lib.hid hB
    have hWDW := HWD3.out.here hB
    obtain ⟨x0, hx0⟩ : ∃ y, ws[0]? = some y := ⟨_, List.getElem?_eq_getElem (by omega)⟩
    have hwd0 : wd ws 0 = x0 := by unfold wd; rw [List.getD_eq_getElem?_getD, hx0]; rfl
    have c0 : W.cell? ⟨g2, 0, none⟩ = some (.string (str x0)) := hWDW.at_ 0 _ hx0
    have cB : W.cell? ⟨Bw, 0, none⟩ = some (.slice (some ⟨g2, 0, none⟩) ws.length cap2) := (HWB3.out.here hB).cell 0
    have cs : W.cell? ⟨w.heap.size, 0, none⟩ = some (.string (str s)) := (HXs3.out.here hB).cell 0
    have HNO := Lib.hid hno
    have HX0 := Lib.hid hwd0
    have hwi : (0 : Int) < (ws.length : Int) := by omega
    have hwc : (ws.length : Int) ≤ (cap2 : Int) := by have := hWDW.cap; omega
    have hgW : g2 < W.heap.size := by omega
    have hbW : Bw < W.heap.size := by omega
    have hsW0 : w.heap.size < W.heap.size := by omega
    clear hB hno hx0 hwd0
    by_cases he : nameA x.val = x0
    · have l1 := str_eq_true he
      have l2 : (!(str (nameA x.val)).toList == (str x0).toList) = false := by rw [l1]; rfl
      have HE := Lib.hid he
      have HG := Lib.hid (guess_any x.val x.2.1 x.2.2 g2 ws.length cap2 ws W hWDW hw5 (fun y hy => Nat.le_trans (HLW.out y hy) (by omega)) (by omega) (E3.out.here HB.out))
      clear he l1 hWDW
      gi_wp2
      refine ⟨trivial, CallsIn.inRound l ((callsIn_wide.2 HG.out).mono ?_)⟩
      rintro e w4 ⟨⟨bv, rfl, hbv, hbf⟩, hb4⟩
      have HBF := Lib.hid hbf
      clear hbf
      have hin := guess_in (f := numC) numC_in x.val x.2.2 ws
      have hgk := guess_kind numC (k := x.val) ws
      have hgb := guess_bytes x.val ws (HLW.out)
      have HGA : Hid (isA (guessA numC x.val ws) s = (mayA (guessA numC x.val ws) && decide (actText (guessA numC x.val ws) = s))) := Lib.hid rfl
      have HACT : Hid (isA (guessA numC x.val ws) s = true → actC s = some (guessA numC x.val ws)) := Lib.hid (fun h => actC_of ws s x (fun i => HCW.out i) (by rw [HX0.out, HE.out]) h)
      have HFIN : Hid (isA (guessA numC x.val ws) s = false → NoAct ws s (pre ++ [x])) := Lib.hid (fun h => HNO.out.snoc (fun ⟨_, h2⟩ => by rw [h] at h2; cases h2))
      obtain ⟨isA', hisA⟩ : ∃ b, isA (guessA numC x.val ws) s = b := ⟨_, rfl⟩
      rw [hisA] at HGA HACT HFIN
      generalize guessA numC x.val ws = a at *
      obtain ⟨A, c, rfl, -⟩ := id hbv
      have HBV := Lib.hid hbv
      have HK9 : Hid (K9 a) := Lib.hid ⟨by rw [hgk]; have := x.2.1; omega, by rw [hgk]; have := x.2.2; omega⟩
      have HIA := Lib.hid hin
      have HB4 := Lib.hid (HB.out.trans (hb4.mono hsW))
      have hs4 := hb4.size
      obtain ⟨W4, hW4⟩ : ∃ W4, w4.alloc (.cells #[.int .i64 a.kind, .int .i64 a.node, .int .i64 a.port, .int .i64 a.cost, .int .i64 a.n, .bool a.up, .int .u8 (a.by_.toNat : Int), .bool a.unread, .slice A a.bytes.length c] 51) = W4 := ⟨_, rfl⟩
      have HP4 : Hid (Whole W4 w4.heap.size 51 #[.int .i64 a.kind, .int .i64 a.node, .int .i64 a.port, .int .i64 a.cost, .int .i64 a.n, .bool a.up, .int .u8 (a.by_.toNat : Int), .bool a.unread, .slice A a.bytes.length c]) := Lib.hid (by rw [← hW4]; exact Whole.new _ _ _)
      have HB5 : Hid (Below W3.heap.size W3 W4) := Lib.hid (by rw [← hW4]; exact HB4.out.alloc (by omega) _)
      have HK5 : Hid (KeepsOthers W W4) := Lib.hid (by rw [← hW4]; exact (keeps_below hb4).trans (KeepsOthers.alloc _ _))
      have HBW4 : Hid (Below W.heap.size W W4) := Lib.hid (by rw [← hW4]; exact hb4.alloc hs4 _)
      have HBV5 : Hid (Bs W4 (.slice A a.bytes.length c) a.bytes) := Lib.hid (by rw [← hW4]; exact HBV.out.alloc _)
      have HW4 := Lib.hid hW4
      have v0 : W4.cell? ⟨w4.heap.size, 0, none⟩ = some (.int .i64 a.kind) := HP4.out.cell 0
      have v1 : W4.cell? ⟨w4.heap.size, 1, none⟩ = some (.int .i64 a.node) := HP4.out.cell 1
      have v2 : W4.cell? ⟨w4.heap.size, 2, none⟩ = some (.int .i64 a.port) := HP4.out.cell 2
      have v3 : W4.cell? ⟨w4.heap.size, 3, none⟩ = some (.int .i64 a.cost) := HP4.out.cell 3
      have v4 : W4.cell? ⟨w4.heap.size, 4, none⟩ = some (.int .i64 a.n) := HP4.out.cell 4
      have v5 : W4.cell? ⟨w4.heap.size, 5, none⟩ = some (.bool a.up) := HP4.out.cell 5
      have v6 : W4.cell? ⟨w4.heap.size, 6, none⟩ = some (.int .u8 (a.by_.toNat : Int)) := HP4.out.cell 6
      have v7 : W4.cell? ⟨w4.heap.size, 7, none⟩ = some (.bool a.unread) := HP4.out.cell 7
      have v8 : W4.cell? ⟨w4.heap.size, 8, none⟩ = some (.slice A a.bytes.length c) := HP4.out.cell 8
      have cs4 : W4.cell? ⟨w.heap.size, 0, none⟩ = some (.string (str s)) := (HXs3.out.here HB5.out).cell 0
      have hp4 : w4.heap.size < W4.heap.size := HP4.out.lt
      have hs44 : w.heap.size < W4.heap.size := by omega
      have E4 := Lib.hid (E3.out.here HB5.out)
      have HMY : Hid (∀ y : Ext W4, Calls Tryz.prog 31 #[.agg #[.int .i64 a.kind, .int .i64 a.node, .int .i64 a.port, .int .i64 a.cost, .int .i64 a.n, .bool a.up, .int .u8 (a.by_.toNat : Int), .bool a.unread, .slice A a.bytes.length c]] y.w fun e w' => e = .returned (.bool (mayA a)) ∧ Below y.w.heap.size y.w w') := Lib.hid (fun y => cmayAct_any a _ y.w (HBV5.out.below y.below) (by omega))
      have HTX : Hid (∀ y : Ext W4, Calls Tryz.prog 75 #[.agg #[.int .i64 a.kind, .int .i64 a.node, .int .i64 a.port, .int .i64 a.cost, .int .i64 a.n, .bool a.up, .int .u8 (a.by_.toNat : Int), .bool a.unread, .slice A a.bytes.length c]] y.w fun e w' => e = .returned (.string (str (actText a))) ∧ Below y.w.heap.size y.w w') := Lib.hid (fun y => cactText_any a _ y.w HK9.out (HBV5.out.below y.below) HIA.out (by omega) (E4.out.here y.below))
      clear hbv hin hgk hb4 hW4 c0 cB cs
      cases hm : mayA a with
      | false =>
        rw [hm] at HMY HGA
        gi_wp2
        rw [HW4.out]
        refine wpIn_region_ext (by kernel_rfl) (by kernel_rfl) (by kernel_rfl) ?_
        repeat (go_big_quiet_step (first | (go_at_call 31; exact Ext.call (HMY.out _))))
        refine wpQuiet_nil ?_
        rintro _ ⟨y, rfl⟩
        gi_wp2
        exact ⟨(HK5.out.trans (keeps_below y.below)).from _, Between.of_below ((HBW4.out.trans (y.below.mono HBW4.out.size)).mono hsW), HB5.out.trans (y.below.mono (by omega)), HFIN.out (by rw [HGA.out]; rfl)⟩
      | true =>
        rw [hm] at HMY HGA
        by_cases ht : actText a = s
        · have q1 := str_eq_true ht
          have HT : Hid (isA' = true) := Lib.hid (by rw [HGA.out, decide_eq_true ht]; rfl)
          clear ht
          gi_wp2
          rw [HW4.out]
          refine wpIn_region_ext (by kernel_rfl) (by kernel_rfl) (by kernel_rfl) ?_
          repeat (go_big_quiet_step (first | (go_at_call 31; exact Ext.call (HMY.out _)) | (go_at_call 75; exact Ext.call (HTX.out _))))
          refine wpQuiet_nil ?_
          rintro _ ⟨y, rfl⟩
          have HYB := Lib.hid (HB5.out.trans (y.below.mono (by omega)))
          have hra := HXa3.out.here HYB.out
          have hre := HXe3.out.here HYB.out
          have HRA := Lib.hid hra
          have HRE := Lib.hid hre
          have z0 : y.w.cell? ⟨w.heap.size + 1, 0, none⟩ = some (.int .i64 0) := hra.cell 0
          have fz0 : y.w.frozen? ⟨w.heap.size + 1, 0, none⟩ = false := hra.frozen 0
          have z1 : y.w.cell? ⟨w.heap.size + 1, 1, none⟩ = some (.int .i64 0) := hra.cell 1
          have fz1 : y.w.frozen? ⟨w.heap.size + 1, 1, none⟩ = false := hra.frozen 1
          have z2 : y.w.cell? ⟨w.heap.size + 1, 2, none⟩ = some (.int .i64 0) := hra.cell 2
          have fz2 : y.w.frozen? ⟨w.heap.size + 1, 2, none⟩ = false := hra.frozen 2
          have z3 : y.w.cell? ⟨w.heap.size + 1, 3, none⟩ = some (.int .i64 0) := hra.cell 3
          have fz3 : y.w.frozen? ⟨w.heap.size + 1, 3, none⟩ = false := hra.frozen 3
          have z4 : y.w.cell? ⟨w.heap.size + 1, 4, none⟩ = some (.int .i64 0) := hra.cell 4
          have fz4 : y.w.frozen? ⟨w.heap.size + 1, 4, none⟩ = false := hra.frozen 4
          have z5 : y.w.cell? ⟨w.heap.size + 1, 5, none⟩ = some (.bool false) := hra.cell 5
          have fz5 : y.w.frozen? ⟨w.heap.size + 1, 5, none⟩ = false := hra.frozen 5
          have z6 : y.w.cell? ⟨w.heap.size + 1, 6, none⟩ = some (.int .u8 0) := hra.cell 6
          have fz6 : y.w.frozen? ⟨w.heap.size + 1, 6, none⟩ = false := hra.frozen 6
          have z7 : y.w.cell? ⟨w.heap.size + 1, 7, none⟩ = some (.bool false) := hra.cell 7
          have fz7 : y.w.frozen? ⟨w.heap.size + 1, 7, none⟩ = false := hra.frozen 7
          have z8 : y.w.cell? ⟨w.heap.size + 1, 8, none⟩ = some (.slice none 0 0) := hra.cell 8
          have fz8 : y.w.frozen? ⟨w.heap.size + 1, 8, none⟩ = false := hra.frozen 8
          have ze : y.w.cell? ⟨w.heap.size + 2, 0, none⟩ = some (.int .i64 0) := hre.cell 0
          have fze : y.w.frozen? ⟨w.heap.size + 2, 0, none⟩ = false := hre.frozen 0
          clear hra hre
          gi_wp2
          refine ⟨KeepsOthers.from ?_ _, rfl, a, A, a.bytes.length, c, HACT.out HT.out, (box9 HRA.out _ _ _ _ _ _ _ _ _).far (p := ⟨w.heap.size + 2, 0, none⟩) (by simp) _, ?_, ?_, ?_, ?_⟩
          · refine (HK5.out.trans (keeps_below y.below)).trans ?_
            exact (keeps9 y.w (w.heap.size + 1) _ _ _ _ _ _ _ _ _).trans (KeepsOthers.setCell _ _ _)
          · have := far9 HRE.out (b := w.heap.size + 1) (by omega)
            exact (this _ _ _ _ _ _ _ _ _).set 0 _
          · have hw1 : w.heap.size + 1 < W.heap.size := by omega
            have hw2 : w.heap.size + 2 < W.heap.size := by omega
            exact (((((((((((HBV5.out.below y.below).far HBF.out hw1 _ _).far HBF.out hw1 _ _).far HBF.out hw1 _ _).far HBF.out hw1 _ _).far HBF.out hw1 _ _).far HBF.out hw1 _ _).far HBF.out hw1 _ _).far HBF.out hw1 _ _).far HBF.out hw1 _ _).far HBF.out hw2 _ _)
          · have hBy : Below w.heap.size w y.w := (HB0.out.trans (HB3.out.mono (by omega))).trans (HYB.out.mono (by omega))
            exact (set9 hBy (by omega) _ _ _ _ _ _ _ _ _).setCell (p := ⟨w.heap.size + 2, 0, none⟩) (by simp) _
          · exact fun b o n k e => by have := HBF.out b o n k e; omega
        · have q1 := str_eq_false ht
          have HT : Hid (isA' = false) := Lib.hid (by rw [HGA.out, decide_eq_false ht]; rfl)
          clear ht
          gi_wp2
          rw [HW4.out]
          refine wpIn_region_ext (by kernel_rfl) (by kernel_rfl) (by kernel_rfl) ?_
          repeat (go_big_quiet_step (first | (go_at_call 31; exact Ext.call (HMY.out _)) | (go_at_call 75; exact Ext.call (HTX.out _))))
          refine wpQuiet_nil ?_
          rintro _ ⟨y, rfl⟩
          gi_wp2
          exact ⟨(HK5.out.trans (keeps_below y.below)).from _, Between.of_below ((HBW4.out.trans (y.below.mono HBW4.out.size)).mono hsW), HB5.out.trans (y.below.mono (by omega)), HFIN.out HT.out⟩
    · have l1 := str_eq_false he
      have l2 : (!(str (nameA x.val)).toList == (str x0).toList) = true := by rw [l1]; rfl
      have HE := Lib.hid he
      clear he l1 hWDW
      gi_wp2
      exact ⟨(KeepsOthers.refl _).from _, Between.refl _, HB.out, HNO.out.snoc (fun h => HE.out (by rw [← h.1, HX0.out]))⟩
  case done =>
    rintro D ys W hD rfl ⟨hB, hno⟩ hKD
    have hz := hB.size
    have hra := HXa3.out.here hB
    have hre := HXe3.out.here hB
    have HRA := Lib.hid hra
    have HRE := Lib.hid hre
    have HAC := Lib.hid (actC_none ws s (fun i => HCW.out i) hno)
    have HBy : Hid (Below w.heap.size w W) := Lib.hid ((HB0.out.trans (HB3.out.mono (by omega))).trans (hB.mono (by omega)))
    have z0 : W.cell? ⟨w.heap.size + 1, 0, none⟩ = some (.int .i64 0) := hra.cell 0
    have fz0 : W.frozen? ⟨w.heap.size + 1, 0, none⟩ = false := hra.frozen 0
    have z1 : W.cell? ⟨w.heap.size + 1, 1, none⟩ = some (.int .i64 0) := hra.cell 1
    have fz1 : W.frozen? ⟨w.heap.size + 1, 1, none⟩ = false := hra.frozen 1
    have z2 : W.cell? ⟨w.heap.size + 1, 2, none⟩ = some (.int .i64 0) := hra.cell 2
    have fz2 : W.frozen? ⟨w.heap.size + 1, 2, none⟩ = false := hra.frozen 2
    have z3 : W.cell? ⟨w.heap.size + 1, 3, none⟩ = some (.int .i64 0) := hra.cell 3
    have fz3 : W.frozen? ⟨w.heap.size + 1, 3, none⟩ = false := hra.frozen 3
    have z4 : W.cell? ⟨w.heap.size + 1, 4, none⟩ = some (.int .i64 0) := hra.cell 4
    have fz4 : W.frozen? ⟨w.heap.size + 1, 4, none⟩ = false := hra.frozen 4
    have z5 : W.cell? ⟨w.heap.size + 1, 5, none⟩ = some (.bool false) := hra.cell 5
    have fz5 : W.frozen? ⟨w.heap.size + 1, 5, none⟩ = false := hra.frozen 5
    have z6 : W.cell? ⟨w.heap.size + 1, 6, none⟩ = some (.int .u8 0) := hra.cell 6
    have fz6 : W.frozen? ⟨w.heap.size + 1, 6, none⟩ = false := hra.frozen 6
    have z7 : W.cell? ⟨w.heap.size + 1, 7, none⟩ = some (.bool false) := hra.cell 7
    have fz7 : W.frozen? ⟨w.heap.size + 1, 7, none⟩ = false := hra.frozen 7
    have z8 : W.cell? ⟨w.heap.size + 1, 8, none⟩ = some (.slice none 0 0) := hra.cell 8
    have fz8 : W.frozen? ⟨w.heap.size + 1, 8, none⟩ = false := hra.frozen 8
    have ze : W.cell? ⟨w.heap.size + 2, 0, none⟩ = some (.int .i64 0) := hre.cell 0
    have fze : W.frozen? ⟨w.heap.size + 2, 0, none⟩ = false := hre.frozen 0
    clear hra hre hno hB
    gi_wp2
    obtain ⟨X, hX⟩ : ∃ X, (((((((((W.setCell ⟨w.heap.size + 1, 0, none⟩ (.int .i64 0)).setCell ⟨w.heap.size + 1, 1, none⟩ (.int .i64 0)).setCell ⟨w.heap.size + 1, 2, none⟩ (.int .i64 0)).setCell ⟨w.heap.size + 1, 3, none⟩ (.int .i64 0)).setCell ⟨w.heap.size + 1, 4, none⟩ (.int .i64 0)).setCell ⟨w.heap.size + 1, 5, none⟩ (.bool false)).setCell ⟨w.heap.size + 1, 6, none⟩ (.int .u8 0)).setCell ⟨w.heap.size + 1, 7, none⟩ (.bool false)).setCell ⟨w.heap.size + 1, 8, none⟩ (.slice none 0 0)).setCell ⟨w.heap.size + 1 + 1, 0, none⟩ (.int .i64 4) = X := ⟨_, rfl⟩
    have hra := (box9 HRA.out (.int .i64 0) (.int .i64 0) (.int .i64 0) (.int .i64 0) (.int .i64 0) (.bool false) (.int .u8 0) (.bool false) (.slice none 0 0)).far (p := ⟨w.heap.size + 1 + 1, 0, none⟩) (by simp) (.int .i64 4)
    have hre := (far9 HRE.out (b := w.heap.size + 1) (by omega) (.int .i64 0) (.int .i64 0) (.int .i64 0) (.int .i64 0) (.int .i64 0) (.bool false) (.int .u8 0) (.bool false) (.slice none 0 0)).set 0 (.int .i64 4)
    have hko := ((keeps9 W (w.heap.size + 1) (.int .i64 0) (.int .i64 0) (.int .i64 0) (.int .i64 0) (.int .i64 0) (.bool false) (.int .u8 0) (.bool false) (.slice none 0 0)).trans (KeepsOthers.setCell _ ⟨w.heap.size + 1 + 1, 0, none⟩ (.int .i64 4))).same D _ hKD rfl
    have hbx := (set9 HBy.out (b := w.heap.size + 1) (by omega) (.int .i64 0) (.int .i64 0) (.int .i64 0) (.int .i64 0) (.int .i64 0) (.bool false) (.int .u8 0) (.bool false) (.slice none 0 0)).setCell (p := ⟨w.heap.size + 1 + 1, 0, none⟩) (by simp; omega) (.int .i64 4)
    rw [hX] at hra hre hko hbx ⊢
    clear hX
    refine ⟨by simp, .inl ⟨_, _, rfl, run_takeDeferred hko, ?_⟩⟩
    have hra2 := hra.kept (grownBy_putObj' X D (.deferred none)) (fun e => by injection e with e; omega)
    have hre2 := hre.kept (grownBy_putObj' X D (.deferred none)) (fun e => by injection e with e; omega)
    have v0 : (X.putObj D (.deferred none)).cell? ⟨w.heap.size + 1, 0, none⟩ = some (.int .i64 0) := hra2.cell 0
    have v1 : (X.putObj D (.deferred none)).cell? ⟨w.heap.size + 1, 1, none⟩ = some (.int .i64 0) := hra2.cell 1
    have v2 : (X.putObj D (.deferred none)).cell? ⟨w.heap.size + 1, 2, none⟩ = some (.int .i64 0) := hra2.cell 2
    have v3 : (X.putObj D (.deferred none)).cell? ⟨w.heap.size + 1, 3, none⟩ = some (.int .i64 0) := hra2.cell 3
    have v4 : (X.putObj D (.deferred none)).cell? ⟨w.heap.size + 1, 4, none⟩ = some (.int .i64 0) := hra2.cell 4
    have v5 : (X.putObj D (.deferred none)).cell? ⟨w.heap.size + 1, 5, none⟩ = some (.bool false) := hra2.cell 5
    have v6 : (X.putObj D (.deferred none)).cell? ⟨w.heap.size + 1, 6, none⟩ = some (.int .u8 0) := hra2.cell 6
    have v7 : (X.putObj D (.deferred none)).cell? ⟨w.heap.size + 1, 7, none⟩ = some (.bool false) := hra2.cell 7
    have v8 : (X.putObj D (.deferred none)).cell? ⟨w.heap.size + 1, 8, none⟩ = some (.slice none 0 0) := hra2.cell 8
    have ve : (X.putObj D (.deferred none)).cell? ⟨w.heap.size + 1 + 1, 0, none⟩ = some (.int .i64 4) := hre2.cell 0
    refine ⟨.tuple #[actV { kind := 0 } (.slice none 0 0), .int .i64 4], ?_, ?_, hbx.trans (belowK_b (w := w) (Nat.le_refl _) X D _ _ (by omega) hko rfl rfl)⟩
    · simp [results, Tryz.results36, go_sem, v0, v1, v2, v3, v4, v5, v6, v7, v8, ve]
    · rw [HAC.out]
      rfl
  case stop =>
    rintro D c' pre W hD hpre ⟨rfl, a, A, n, k, hact, hra, hre, hbs, hB, hbf⟩ hKD
    gi_wp2
    refine ⟨by simp, .inl ⟨_, _, rfl, run_takeDeferred hKD, ?_⟩⟩
    have hk1 : some (w.heap.size + 1) ≠ some D := fun e => by injection e with e; omega
    have hk2 : some (w.heap.size + 2) ≠ some D := fun e => by injection e with e; omega
    have hra2 := hra.kept (grownBy_putObj' W D (.deferred none)) hk1
    have hre2 := hre.kept (grownBy_putObj' W D (.deferred none)) hk2
    have hbs2 := hbs.kept (grownBy_putObj' W D (.deferred none)) (fun r e => by cases e; exact ⟨_, hKD, rfl⟩)
    have v0 : (W.putObj D (.deferred none)).cell? ⟨w.heap.size + 1, 0, none⟩ = some (.int .i64 a.kind) := hra2.cell 0
    have v1 : (W.putObj D (.deferred none)).cell? ⟨w.heap.size + 1, 1, none⟩ = some (.int .i64 a.node) := hra2.cell 1
    have v2 : (W.putObj D (.deferred none)).cell? ⟨w.heap.size + 1, 2, none⟩ = some (.int .i64 a.port) := hra2.cell 2
    have v3 : (W.putObj D (.deferred none)).cell? ⟨w.heap.size + 1, 3, none⟩ = some (.int .i64 a.cost) := hra2.cell 3
    have v4 : (W.putObj D (.deferred none)).cell? ⟨w.heap.size + 1, 4, none⟩ = some (.int .i64 a.n) := hra2.cell 4
    have v5 : (W.putObj D (.deferred none)).cell? ⟨w.heap.size + 1, 5, none⟩ = some (.bool a.up) := hra2.cell 5
    have v6 : (W.putObj D (.deferred none)).cell? ⟨w.heap.size + 1, 6, none⟩ = some (.int .u8 (a.by_.toNat : Int)) := hra2.cell 6
    have v7 : (W.putObj D (.deferred none)).cell? ⟨w.heap.size + 1, 7, none⟩ = some (.bool a.unread) := hra2.cell 7
    have v8 : (W.putObj D (.deferred none)).cell? ⟨w.heap.size + 1, 8, none⟩ = some (.slice A n k) := hra2.cell 8
    have ve : (W.putObj D (.deferred none)).cell? ⟨w.heap.size + 2, 0, none⟩ = some (.int .i64 0) := hre2.cell 0
    refine ⟨.tuple #[actV a (.slice A n k), .int .i64 0], ?_, ?_, hB.trans (belowK_b (w := w) (Nat.le_refl _) W D _ _ (by omega) hKD rfl rfl)⟩
    · simp [results, Tryz.results36, go_sem, v0, v1, v2, v3, v4, v5, v6, v7, v8, ve]
    · rw [hact]
      exact ⟨_, rfl, hbs2, hbf⟩
theorem cactOf_any (s : List UInt8) (w : World) (hs : s.length ≤ 100000) (E : Env w) :
    Calls Tryz.prog 36 #[.string (str s)] w fun e w' => ActOfRes (actC s) e w' ∧ Below w.heap.size w w' :=
  (cactOf_from s w hs E).mono fun _ _ ⟨h, hb⟩ => ⟨h.res, hb⟩
end Go.Proofs.YtfbangojgjcbcaaGreatDoor
namespace Go.Proofs.YtfbangojgjcbcaaGreatDoor
open Go.RowKit Pl Go.Shelf
/-- A text's lines, each with its end. -/
def afterL (l : List UInt8) : List (List UInt8) := Lib.splitK [10] 1 (l.count 10) l
set_option maxRecDepth 100000 in
set_option maxHeartbeats 1000000 in
theorem splitAfter_any (l : List UInt8) (w : World) (hl : l.length ≤ 1000000000) (E : Env w) :
    Calls Tryz.prog 88 #[.string (str l), .string ⟨#[10]⟩] w fun e w' => (∃ v, e = .returned v ∧ Parts w' v (afterL l)) ∧ Below w.heap.size w w' := by
  obtain ⟨m, hm⟩ := E.maxlen
  have hc : Lib.countB (str l) (str [10]) = l.count 10 := by show Lib.count _ _ = _; rw [str_data, str_data, Lib.count_one]
  have hle := Lib.countB_le (str [10]) (by rw [str_size]; simp) _ (str l) (Nat.le_refl _)
  have hlen := Lib.splitB_all (str [10]) (by rw [str_size]; simp) 1 _ (str l) rfl
  have hd := Lib.splitB_data (str [10]) 1 (l.count 10) (str l)
  rw [str_data, str_data] at hd
  have hsp : Lib.splitB (str [10]) 1 (Lib.countB (str l) (str [10])) (str l) = (afterL l).map str := by
    rw [hc]
    unfold afterL
    rw [← hd, List.map_map]
    have : (str ∘ fun x : ByteArray => x.data.toList) = id := by funext x; simp [str]
    rw [this, List.map_id]
  have HG := Lib.hid (Tryz.strings_genSplit (str l) (str [10]) 1 (-1) (Lib.countB (str l) (str [10]) + 1) m w (by rw [str_size]; omega) hm (by rw [str_size]; simp) (by rw [str_size]; simp) (by decide) (by decide) (by simp; omega))
  have hal : (afterL l).length = Lib.countB (str l) (str [10]) + 1 := by rw [← hlen, hsp, List.length_map]
  have HL := Lib.hid hlen
  have HS := Lib.hid hsp
  have HA := Lib.hid hal
  clear hm hc hle hlen hd hsp hal
  go_enter Tryz.func88, Tryz.ntmps88
  go_wp2_with fail
  refine HG.out.mono ?_
  rintro e w' ⟨rfl, rfl⟩
  go_wp2
  go_ret
  rw [HS.out]
  refine ⟨⟨_, rfl, w.heap.size, ?_, by simp, fun j x hx => ?_⟩, (Below.refl _ _).alloc (Nat.le_refl _) _⟩
  · rw [List.length_map, HA.out]; rfl
  · have : (Lib.cellsOf ((afterL l).map str) (Lib.countB (str l) (str [10]) + 1)) = (((afterL l).map str).map Value.string).toArray := by
      have := Lib.cellsOf_full ((afterL l).map str)
      rw [List.length_map, HA.out] at this
      exact this
    rw [this]
    have hj := (List.getElem?_eq_some_iff.1 hx).1
    have := (Whole.new w 9 (((afterL l).map str).map Value.string).toArray).cell j
    rw [this]
    simp [hx]
theorem cline_none (b : Nat) (s : ByteArray) (w : World) (hb : Whole w b 146 #[.slice none 0 0, .slice none 0 0, .slice none 0 0, .bool false]) :
    Calls Tryz.prog 91 #[.pointer (some ⟨b, 0, none⟩), .string s] w fun e w' => e = .returned (.bool false) ∧ w = w' := by
  have r0 := hb.cell 0
  have r1 := hb.cell 1
  have r2 := hb.cell 2
  have r3 := hb.cell 3
  simp only [List.getElem?_toArray, List.getElem?_cons_succ, List.getElem?_cons_zero] at r0 r1 r2 r3
  have hlt := hb.lt
  clear hb
  go_enter Tryz.func91, Tryz.ntmps91
  go_wp2
  go_ret
  exact ⟨rfl, rfl⟩
theorem cutS_run (w : World) : Calls Tryz.prog 89 #[.string (str [114, 117, 110, 10]), .string ⟨#[10]⟩] w fun e w' => e = .returned (.tuple #[.string ⟨#[114, 117, 110]⟩, .bool true]) ∧ w = w' := by
  refine (Tryz.strings_CutSuffix (str [114, 117, 110, 10]) ⟨#[10]⟩ w (by decide)).mono ?_
  rintro e w' ⟨rfl, rfl⟩
  exact ⟨rfl, rfl⟩
theorem cutW_run (w : World) (E : Env w) : Calls Tryz.prog 52 #[.string ⟨#[114, 117, 110]⟩, .string ⟨#[32]⟩] w fun e w' => (∃ f, e = .returned (.tuple #[.string ⟨#[114, 117, 110]⟩, .string ⟨#[]⟩, .bool f])) ∧ Below w.heap.size w w' := by
  have := cut_any 32 [114, 117, 110] w (by decide) E
  rw [show cutA 32 [114, 117, 110] = [114, 117, 110] by decide +kernel, show cutB 32 [114, 117, 110] = [] by decide +kernel] at this
  exact this
set_option maxRecDepth 100000 in
set_option maxHeartbeats 1000000 in
theorem sparse_empty (w : World) (E : Env w) :
    Calls Tryz.prog 43 #[.string ⟨#[]⟩] w fun e w' => e = .returned (.tuple #[.agg #[.slice none 0 0, .slice none 0 0, .slice none 0 0], .int .i64 0, .int .i64 4]) ∧ Below w.heap.size w w' := by
  obtain ⟨W0, hW0⟩ : ∃ W0, (w.alloc (.cells #[.slice none 0 0, .slice none 0 0, .slice none 0 0] 76)).alloc (.cells #[.slice none 0 0, .slice none 0 0, .slice none 0 0, .bool false] 146) = W0 := ⟨_, rfl⟩
  have HB0 : Hid (Below w.heap.size w W0) := Lib.hid (by rw [← hW0]; exact ((Below.refl _ _).alloc (Nat.le_refl _) _).alloc (by simp) _)
  have HX0 : Hid (Whole W0 w.heap.size 76 #[.slice none 0 0, .slice none 0 0, .slice none 0 0]) := Lib.hid (by rw [← hW0]; exact (Whole.new w _ _).alloc _)
  have HR0 : Hid (Whole W0 (w.heap.size + 1) 146 #[.slice none 0 0, .slice none 0 0, .slice none 0 0, .bool false]) := Lib.hid (by
    rw [← hW0]
    have := Whole.new (w.alloc (.cells #[.slice none 0 0, .slice none 0 0, .slice none 0 0] 76)) 146 #[.slice none 0 0, .slice none 0 0, .slice none 0 0, .bool false]
    simpa using this)
  have HW0 := Lib.hid hW0
  have E0 := Lib.hid (E.here HB0.out)
  have HS := Lib.hid (splitAfter_any [] W0 (by decide) E0.out)
  have hal : afterL [] = [[]] := by decide +kernel
  rw [hal] at HS
  clear hW0 E hal
  go_enter Tryz.func43, Tryz.ntmps43
  go_wp2
  go_step3
  go_wp2_with fail
  rw [HW0.out]
  refine HS.out.mono ?_
  rintro e w1 ⟨⟨v, rfl, g, rfl, hg, hc⟩, hb1⟩
  have HB1 := Lib.hid (HB0.out.trans (hb1.mono HB0.out.size))
  have E1 := Lib.hid (E0.out.here hb1)
  have HX1 := Lib.hid (HX0.out.here hb1)
  have HR1 := Lib.hid (HR0.out.here hb1)
  have c0 : w1.cell? ⟨g, 0, none⟩ = some (.string (str [])) := hc 0 [] rfl
  have z0 : w1.cell? ⟨w.heap.size, 0, none⟩ = some (.slice none 0 0) := HX1.out.cell 0
  have z1 : w1.cell? ⟨w.heap.size, 1, none⟩ = some (.slice none 0 0) := HX1.out.cell 1
  have z2 : w1.cell? ⟨w.heap.size, 2, none⟩ = some (.slice none 0 0) := HX1.out.cell 2
  have f0 : w1.frozen? ⟨w.heap.size, 0, none⟩ = false := HX1.out.frozen 0
  have f1 : w1.frozen? ⟨w.heap.size, 1, none⟩ = false := HX1.out.frozen 1
  have f2 : w1.frozen? ⟨w.heap.size, 2, none⟩ = false := HX1.out.frozen 2
  have r3 : w1.cell? ⟨w.heap.size + 1, 3, none⟩ = some (.bool false) := HR1.out.cell 3
  have hlt := HX1.out.lt
  have hlt2 := HR1.out.lt
  have hstr : (str []).size = 0 := rfl
  clear hb1 hc
  go_wp2
  go_step3
  go_wp2
  go_loopw [7, 8] (fun i g wr => i = .int .i64 0 ∧ g = .bool true ∧ wr = w1) (fun _ _ _ => 0)
  case atStart => exact ⟨rfl, rfl, rfl⟩
  case round =>
    obtain ⟨rfl, rfl, rfl⟩ := hrel
    go_wp2
    try rw [Exit.noGoto_ret]
    exact bodyPost_ret (v := .tuple #[.agg #[.slice none 0 0, .slice none 0 0, .slice none 0 0], .int .i64 0, .int .i64 4]) (by simp [results, Tryz.results43, go_sem, z0, z1, z2]) rfl ⟨rfl, ((HB1.out.setCell (p := ⟨w.heap.size, 0, none⟩) (Nat.le_refl _) _).setCell (p := ⟨w.heap.size, 1, none⟩) (Nat.le_refl _) _).setCell (p := ⟨w.heap.size, 2, none⟩) (Nat.le_refl _) _⟩
set_option maxRecDepth 100000 in
set_option maxHeartbeats 1000000 in
theorem sparse_run (w : World) (E : Env w) :
    Calls Tryz.prog 43 #[.string ⟨#[114, 117, 110, 10]⟩] w fun e w' => e = .returned (.tuple #[.agg #[.slice none 0 0, .slice none 0 0, .slice none 0 0], .int .i64 0, .int .i64 4]) ∧ Below w.heap.size w w' := by
  obtain ⟨W0, hW0⟩ : ∃ W0, (w.alloc (.cells #[.slice none 0 0, .slice none 0 0, .slice none 0 0] 76)).alloc (.cells #[.slice none 0 0, .slice none 0 0, .slice none 0 0, .bool false] 146) = W0 := ⟨_, rfl⟩
  have HB0 : Hid (Below w.heap.size w W0) := Lib.hid (by rw [← hW0]; exact ((Below.refl _ _).alloc (Nat.le_refl _) _).alloc (by simp) _)
  have HX0 : Hid (Whole W0 w.heap.size 76 #[.slice none 0 0, .slice none 0 0, .slice none 0 0]) := Lib.hid (by rw [← hW0]; exact (Whole.new w _ _).alloc _)
  have HR0 : Hid (Whole W0 (w.heap.size + 1) 146 #[.slice none 0 0, .slice none 0 0, .slice none 0 0, .bool false]) := Lib.hid (by
    rw [← hW0]
    have := Whole.new (w.alloc (.cells #[.slice none 0 0, .slice none 0 0, .slice none 0 0] 76)) 146 #[.slice none 0 0, .slice none 0 0, .slice none 0 0, .bool false]
    simpa using this)
  have HW0 := Lib.hid hW0
  have E0 := Lib.hid (E.here HB0.out)
  have HS := Lib.hid (splitAfter_any [114, 117, 110, 10] W0 (by decide) E0.out)
  have hal : afterL [114, 117, 110, 10] = [[114, 117, 110, 10], []] := by decide +kernel
  rw [hal] at HS
  clear hW0 E hal
  go_enter Tryz.func43, Tryz.ntmps43
  go_wp2
  go_step3
  go_wp2_with fail
  rw [HW0.out]
  refine HS.out.mono ?_
  rintro e w1 ⟨⟨v, rfl, g, rfl, hg, hc⟩, hb1⟩
  have HB1 := Lib.hid (HB0.out.trans (hb1.mono HB0.out.size))
  have E1 := Lib.hid (E0.out.here hb1)
  have HX1 := Lib.hid (HX0.out.here hb1)
  have HR1 := Lib.hid (HR0.out.here hb1)
  have c0 : w1.cell? ⟨g, 0, none⟩ = some (.string (str [114, 117, 110, 10])) := hc 0 _ rfl
  have c1 : w1.cell? ⟨g, 1, none⟩ = some (.string (str [])) := hc 1 _ rfl
  have z0 : w1.cell? ⟨w.heap.size, 0, none⟩ = some (.slice none 0 0) := HX1.out.cell 0
  have z1 : w1.cell? ⟨w.heap.size, 1, none⟩ = some (.slice none 0 0) := HX1.out.cell 1
  have z2 : w1.cell? ⟨w.heap.size, 2, none⟩ = some (.slice none 0 0) := HX1.out.cell 2
  have f0 : w1.frozen? ⟨w.heap.size, 0, none⟩ = false := HX1.out.frozen 0
  have f1 : w1.frozen? ⟨w.heap.size, 1, none⟩ = false := HX1.out.frozen 1
  have f2 : w1.frozen? ⟨w.heap.size, 2, none⟩ = false := HX1.out.frozen 2
  have r3 : w1.cell? ⟨w.heap.size + 1, 3, none⟩ = some (.bool false) := HR1.out.cell 3
  have hlt := HX1.out.lt
  have hlt2 := HR1.out.lt
  have hstr : (str []).size = 0 := rfl
  clear hb1 hc
  go_wp2
  go_step3
  go_wp2
  go_loopw [7, 8] (fun i g wr => i = .int .i64 0 ∧ g = .bool true ∧ wr = w1) (fun _ _ _ => 0)
  case atStart => exact ⟨rfl, rfl, rfl⟩
  case round =>
    obtain ⟨rfl, rfl, rfl⟩ := hrel
    go_wp2_with fail
    refine (cutS_run _).mono ?_
    rintro e w2 ⟨rfl, rfl⟩
    go_wp2_with fail
    refine (cutW_run _ E1.out).mono ?_
    rintro e w2 ⟨⟨f, rfl⟩, hb2⟩
    have HB2 := Lib.hid (HB1.out.trans (hb2.mono HB1.out.size))
    have HX2 := Lib.hid (HX1.out.here hb2)
    have HR2 := Lib.hid (HR1.out.here hb2)
    clear hb2 z0 z1 z2 f0 f1 f2 r3 hlt hlt2 c0 c1
    have z0 : w2.cell? ⟨w.heap.size, 0, none⟩ = some (.slice none 0 0) := HX2.out.cell 0
    have f0 : w2.frozen? ⟨w.heap.size, 0, none⟩ = false := HX2.out.frozen 0
    have z1 : w2.cell? ⟨w.heap.size, 1, none⟩ = some (.slice none 0 0) := HX2.out.cell 1
    have f1 : w2.frozen? ⟨w.heap.size, 1, none⟩ = false := HX2.out.frozen 1
    have z2 : w2.cell? ⟨w.heap.size, 2, none⟩ = some (.slice none 0 0) := HX2.out.cell 2
    have f2 : w2.frozen? ⟨w.heap.size, 2, none⟩ = false := HX2.out.frozen 2
    have r3 : w2.cell? ⟨w.heap.size + 1, 3, none⟩ = some (.bool false) := HR2.out.cell 3
    have hlt := HX2.out.lt
    have hlt2 := HR2.out.lt
    go_wp2_with (go_at_call 91; refine (cline_none _ _ _ HR2.out).mono ?_; rintro e w3 ⟨rfl, rfl⟩)
    try rw [Exit.noGoto_ret]
    exact bodyPost_ret (v := .tuple #[.agg #[.slice none 0 0, .slice none 0 0, .slice none 0 0], .int .i64 0, .int .i64 4]) (by simp [results, Tryz.results43, go_sem, z0, z1, z2]) rfl ⟨rfl, ((HB2.out.setCell (p := ⟨w.heap.size, 0, none⟩) (Nat.le_refl _) _).setCell (p := ⟨w.heap.size, 1, none⟩) (Nat.le_refl _) _).setCell (p := ⟨w.heap.size, 2, none⟩) (Nat.le_refl _) _⟩
end Go.Proofs.YtfbangojgjcbcaaGreatDoor
namespace Go.Proofs.YtfbangojgjcbcaaGreatDoor
open Go.RowKit Pl
theorem num25_any (n : Int) (w : World) : Calls Tryz.prog 35 #[.int .i64 n] w fun e w' => e = .returned (.int .i64 n) ∧ w = w' := by
  go_enter Tryz.func35, Tryz.ntmps35
  go_wp2
  go_ret
  exact ⟨rfl, rfl⟩
def aK1 : ActP := { kind := 8, node := 3, n := -1 }
def aK2 : ActP := { kind := 6, up := true }
def aK4 : ActP := { kind := 9, node := 1 }
def aK5 : ActP := { kind := 1, n := 1 }
theorem ks1 (w : World) (E : Env w) : Calls Tryz.prog 30 #[.agg #[.int .i64 8, .int .i64 3, .int .i64 0, .int .i64 0, .int .i64 (-1), .bool false, .int .u8 0, .bool false, .slice none 0 0]] w fun e w' => e = .returned (.tuple #[.string ⟨#[115, 116, 97, 114, 116, 32, 51, 32, 45, 49, 32, 48, 32, 114, 101, 97, 100]⟩, .int .i64 0]) ∧ Below w.heap.size w w' := by
  have := cActText_yes aK1 (.slice none 0 0) w (Bs.nil w) (by unfold InA In64; decide) (by decide +kernel) (by decide) E
  rw [show actText aK1 = [115, 116, 97, 114, 116, 32, 51, 32, 45, 49, 32, 48, 32, 114, 101, 97, 100] by decide +kernel] at this
  exact this
theorem ks4 (w : World) (E : Env w) : Calls Tryz.prog 30 #[.agg #[.int .i64 9, .int .i64 1, .int .i64 0, .int .i64 0, .int .i64 0, .bool false, .int .u8 0, .bool false, .slice none 0 0]] w fun e w' => e = .returned (.tuple #[.string ⟨#[112, 97, 99, 107, 101, 116, 32, 49, 32, 45]⟩, .int .i64 0]) ∧ Below w.heap.size w w' := by
  have := cActText_yes aK4 (.slice none 0 0) w (Bs.nil w) (by unfold InA In64; decide) (by decide +kernel) (by decide) E
  rw [show actText aK4 = [112, 97, 99, 107, 101, 116, 32, 49, 32, 45] by decide +kernel] at this
  exact this
theorem ks5 (w : World) : Calls Tryz.prog 30 #[.agg #[.int .i64 1, .int .i64 0, .int .i64 0, .int .i64 0, .int .i64 1, .bool false, .int .u8 0, .bool false, .slice none 0 0]] w fun e w' => e = .returned (.tuple #[.string ⟨#[]⟩, .int .i64 2]) ∧ Below w.heap.size w w' :=
  cActText_no aK5 (.slice none 0 0) w (Bs.nil w) (by decide +kernel) (by decide)
theorem ks2 (w : World) (E : Env w) : Calls Tryz.prog 36 #[.string ⟨#[108, 105, 110, 107, 32, 48, 32, 117, 112]⟩] w fun e w' => (∃ A c, e = .returned (.tuple #[.agg #[.int .i64 6, .int .i64 0, .int .i64 0, .int .i64 0, .int .i64 0, .bool true, .int .u8 0, .bool false, .slice A 0 c], .int .i64 0])) ∧ Below w.heap.size w w' := by
  have := cactOf_any [108, 105, 110, 107, 32, 48, 32, 117, 112] w (by decide) E
  rw [show actC [108, 105, 110, 107, 32, 48, 32, 117, 112] = some aK2 by decide +kernel] at this
  refine this.mono ?_
  rintro e w' ⟨⟨bv, rfl, hb⟩, hB⟩
  obtain ⟨A, c, rfl, -⟩ := hb
  exact ⟨⟨A, c, rfl⟩, hB⟩
theorem ks3 (w : World) (E : Env w) : Calls Tryz.prog 36 #[.string ⟨#[116, 105, 99, 107, 32, 48, 49]⟩] w fun e w' => e = .returned (.tuple #[.agg #[.int .i64 0, .int .i64 0, .int .i64 0, .int .i64 0, .int .i64 0, .bool false, .int .u8 0, .bool false, .slice none 0 0], .int .i64 4]) ∧ Below w.heap.size w w' := by
  have := cactOf_any [116, 105, 99, 107, 32, 48, 49] w (by decide) E
  rw [show actC [116, 105, 99, 107, 32, 48, 49] = none by decide +kernel] at this
  exact this
theorem ks6 (w : World) (E : Env w) : Calls Tryz.prog 39 #[.string ⟨#[49, 32, 48, 32, 50, 32, 48]⟩] w fun e w' => e = .returned (.tuple #[.agg #[.int .i64 0, .int .i64 0, .int .i64 0, .int .i64 0], .int .i64 4]) ∧ Below w.heap.size w w' := by
  have := clinkOf_any [49, 32, 48, 32, 50, 32, 48] w (by decide) E
  rw [show clkRes [49, 32, 48, 32, 50, 32, 48] = .tuple #[.agg #[.int .i64 0, .int .i64 0, .int .i64 0, .int .i64 0], .int .i64 4] by unfold clkRes; rw [show linkC [49, 32, 48, 32, 50, 32, 48] = none by decide +kernel]] at this
  exact this
theorem ks7 (w : World) (E : Env w) : Calls Tryz.prog 39 #[.string ⟨#[108, 105, 110, 107, 32, 49, 32, 48, 32, 50, 32, 48]⟩] w fun e w' => e = .returned (.tuple #[.agg #[.int .i64 1, .int .i64 0, .int .i64 2, .int .i64 0], .int .i64 0]) ∧ Below w.heap.size w w' := by
  have := clinkOf_any [108, 105, 110, 107, 32, 49, 32, 48, 32, 50, 32, 48] w (by decide) E
  rw [show clkRes [108, 105, 110, 107, 32, 49, 32, 48, 32, 50, 32, 48] = .tuple #[.agg #[.int .i64 1, .int .i64 0, .int .i64 2, .int .i64 0], .int .i64 0] by unfold clkRes; rw [show linkC [108, 105, 110, 107, 32, 49, 32, 48, 32, 50, 32, 48] = some (1, 0, 2, 0) by decide +kernel]] at this
  exact this
set_option maxRecDepth 100000 in
set_option maxHeartbeats 8000000 in
theorem known25_any (w : World) (E : Env w) : Calls Tryz.prog 29 #[] w fun e w' => e = .returned (.bool true) ∧ Below w.heap.size w w' := by
  have E0 := Lib.hid E
  have HB0 := Lib.hid (Below.refl w.heap.size w)
  clear E
  go_enter Tryz.func29, Tryz.ntmps29
  go_wp2_with fail
  refine (ks1 _ E0.out).mono ?_
  rintro e w1 ⟨rfl, hb⟩
  have HB1 := Lib.hid (HB0.out.trans (hb.mono HB0.out.size))
  have E1 := Lib.hid (E0.out.here hb)
  clear hb
  go_wp2_with fail
  refine (ks2 _ E1.out).mono ?_
  rintro e w2 ⟨⟨A, c, rfl⟩, hb⟩
  have HB2 := Lib.hid (HB1.out.trans (hb.mono HB1.out.size))
  have E2 := Lib.hid (E1.out.here hb)
  clear hb
  obtain ⟨W2, hW2⟩ : ∃ W2, w2.alloc (.cells #[.int .i64 6, .int .i64 0, .int .i64 0, .int .i64 0, .int .i64 0, .bool true, .int .u8 0, .bool false, .slice A 0 c] 51) = W2 := ⟨_, rfl⟩
  have HB3 : Hid (Below w.heap.size w W2) := Lib.hid (by rw [← hW2]; exact HB2.out.alloc HB2.out.size _)
  have E3 : Hid (Env W2) := Lib.hid (by rw [← hW2]; exact E2.out.alloc _)
  have b2 : Hid (Whole W2 w2.heap.size 51 #[.int .i64 6, .int .i64 0, .int .i64 0, .int .i64 0, .int .i64 0, .bool true, .int .u8 0, .bool false, .slice A 0 c]) := Lib.hid (by rw [← hW2]; exact Whole.new w2 _ _)
  have HW2 := Lib.hid hW2
  clear hW2
  go_wp2_with fail
  rw [HW2.out]
  refine (ks3 _ E3.out).mono ?_
  rintro e w4 ⟨rfl, hb⟩
  have HB4 := Lib.hid (HB3.out.trans (hb.mono HB3.out.size))
  have E4 := Lib.hid (E3.out.here hb)
  have b2' := Lib.hid (b2.out.here hb)
  clear hb
  obtain ⟨W4, hW4⟩ : ∃ W4, w4.alloc (.cells #[.int .i64 0, .int .i64 0, .int .i64 0, .int .i64 0, .int .i64 0, .bool false, .int .u8 0, .bool false, .slice none 0 0] 51) = W4 := ⟨_, rfl⟩
  have HB5 : Hid (Below w.heap.size w W4) := Lib.hid (by rw [← hW4]; exact HB4.out.alloc HB4.out.size _)
  have E5 : Hid (Env W4) := Lib.hid (by rw [← hW4]; exact E4.out.alloc _)
  have b2'' : Hid (Whole W4 w2.heap.size 51 #[.int .i64 6, .int .i64 0, .int .i64 0, .int .i64 0, .int .i64 0, .bool true, .int .u8 0, .bool false, .slice A 0 c]) := Lib.hid (by rw [← hW4]; exact b2'.out.alloc _)
  have HW4 := Lib.hid hW4
  clear hW4
  go_wp2_with fail
  rw [HW4.out]
  refine (ks4 _ E5.out).mono ?_
  rintro e w6 ⟨rfl, hb⟩
  have HB6 := Lib.hid (HB5.out.trans (hb.mono HB5.out.size))
  have E6 := Lib.hid (E5.out.here hb)
  have b2''' := Lib.hid (b2''.out.here hb)
  clear hb
  go_wp2_with fail
  refine (ks5 _).mono ?_
  rintro e w7 ⟨rfl, hb⟩
  have HB7 := Lib.hid (HB6.out.trans (hb.mono HB6.out.size))
  have E7 := Lib.hid (E6.out.here hb)
  have b2'''' := Lib.hid (b2'''.out.here hb)
  clear hb
  go_wp2_with fail
  refine (ks6 _ E7.out).mono ?_
  rintro e w8 ⟨rfl, hb⟩
  have HB8 := Lib.hid (HB7.out.trans (hb.mono HB7.out.size))
  have E8 := Lib.hid (E7.out.here hb)
  have b2''''' := Lib.hid (b2''''.out.here hb)
  clear hb
  obtain ⟨W8, hW8⟩ : ∃ W8, w8.alloc (.cells #[.int .i64 0, .int .i64 0, .int .i64 0, .int .i64 0] 63) = W8 := ⟨_, rfl⟩
  have HB9 : Hid (Below w.heap.size w W8) := Lib.hid (by rw [← hW8]; exact HB8.out.alloc HB8.out.size _)
  have E9 : Hid (Env W8) := Lib.hid (by rw [← hW8]; exact E8.out.alloc _)
  have b2'''''' : Hid (Whole W8 w2.heap.size 51 #[.int .i64 6, .int .i64 0, .int .i64 0, .int .i64 0, .int .i64 0, .bool true, .int .u8 0, .bool false, .slice A 0 c]) := Lib.hid (by rw [← hW8]; exact b2'''''.out.alloc _)
  have HW8 := Lib.hid hW8
  clear hW8
  go_wp2_with fail
  rw [HW8.out]
  refine (ks7 _ E9.out).mono ?_
  rintro e w10 ⟨rfl, hb⟩
  have HB10 := Lib.hid (HB9.out.trans (hb.mono HB9.out.size))
  have E10 := Lib.hid (E9.out.here hb)
  have b2''''''' := Lib.hid (b2''''''.out.here hb)
  clear hb
  obtain ⟨W10, hW10⟩ : ∃ W10, w10.alloc (.cells #[.int .i64 1, .int .i64 0, .int .i64 2, .int .i64 0] 63) = W10 := ⟨_, rfl⟩
  have HB11 : Hid (Below w.heap.size w W10) := Lib.hid (by rw [← hW10]; exact HB10.out.alloc HB10.out.size _)
  have E11 : Hid (Env W10) := Lib.hid (by rw [← hW10]; exact E10.out.alloc _)
  have b2'''''''' : Hid (Whole W10 w2.heap.size 51 #[.int .i64 6, .int .i64 0, .int .i64 0, .int .i64 0, .int .i64 0, .bool true, .int .u8 0, .bool false, .slice A 0 c]) := Lib.hid (by rw [← hW10]; exact b2'''''''.out.alloc _)
  have b7 : Hid (Whole W10 w10.heap.size 63 #[.int .i64 1, .int .i64 0, .int .i64 2, .int .i64 0]) := Lib.hid (by rw [← hW10]; exact Whole.new w10 _ _)
  have HW10 := Lib.hid hW10
  clear hW10
  go_wp2_with fail
  rw [HW10.out]
  refine (sparse_empty _ E11.out).mono ?_
  rintro e w12 ⟨rfl, hb⟩
  have HB12 := Lib.hid (HB11.out.trans (hb.mono HB11.out.size))
  have E12 := Lib.hid (E11.out.here hb)
  have b2''''''''' := Lib.hid (b2''''''''.out.here hb)
  have b7' := Lib.hid (b7.out.here hb)
  clear hb
  obtain ⟨W12, hW12⟩ : ∃ W12, w12.alloc (.cells #[.slice none 0 0, .slice none 0 0, .slice none 0 0] 76) = W12 := ⟨_, rfl⟩
  have HB13 : Hid (Below w.heap.size w W12) := Lib.hid (by rw [← hW12]; exact HB12.out.alloc HB12.out.size _)
  have E13 : Hid (Env W12) := Lib.hid (by rw [← hW12]; exact E12.out.alloc _)
  have b2'''''''''' : Hid (Whole W12 w2.heap.size 51 #[.int .i64 6, .int .i64 0, .int .i64 0, .int .i64 0, .int .i64 0, .bool true, .int .u8 0, .bool false, .slice A 0 c]) := Lib.hid (by rw [← hW12]; exact b2'''''''''.out.alloc _)
  have b7'' : Hid (Whole W12 w10.heap.size 63 #[.int .i64 1, .int .i64 0, .int .i64 2, .int .i64 0]) := Lib.hid (by rw [← hW12]; exact b7'.out.alloc _)
  have HW12 := Lib.hid hW12
  clear hW12
  go_wp2_with fail
  rw [HW12.out]
  refine (sparse_run _ E13.out).mono ?_
  rintro e w14 ⟨rfl, hb⟩
  have HB14 := Lib.hid (HB13.out.trans (hb.mono HB13.out.size))
  have E14 := Lib.hid (E13.out.here hb)
  have b2''''''''''' := Lib.hid (b2''''''''''.out.here hb)
  have b7''' := Lib.hid (b7''.out.here hb)
  clear hb
  obtain ⟨W14, hW14⟩ : ∃ W14, w14.alloc (.cells #[.slice none 0 0, .slice none 0 0, .slice none 0 0] 76) = W14 := ⟨_, rfl⟩
  have HB15 : Hid (Below w.heap.size w W14) := Lib.hid (by rw [← hW14]; exact HB14.out.alloc HB14.out.size _)
  have E15 : Hid (Env W14) := Lib.hid (by rw [← hW14]; exact E14.out.alloc _)
  have b2'''''''''''' : Hid (Whole W14 w2.heap.size 51 #[.int .i64 6, .int .i64 0, .int .i64 0, .int .i64 0, .int .i64 0, .bool true, .int .u8 0, .bool false, .slice A 0 c]) := Lib.hid (by rw [← hW14]; exact b2'''''''''''.out.alloc _)
  have b7'''' : Hid (Whole W14 w10.heap.size 63 #[.int .i64 1, .int .i64 0, .int .i64 2, .int .i64 0]) := Lib.hid (by rw [← hW14]; exact b7'''.out.alloc _)
  have HW14 := Lib.hid hW14
  clear hW14
  have u5 : W14.cell? ⟨w2.heap.size, 5, none⟩ = some (.bool true) := b2''''''''''''.out.cell 5
  have ul : w2.heap.size < W14.heap.size := b2''''''''''''.out.lt
  have m0 : W14.cell? ⟨w10.heap.size, 0, none⟩ = some (.int .i64 1) := b7''''.out.cell 0
  have m1 : W14.cell? ⟨w10.heap.size, 1, none⟩ = some (.int .i64 0) := b7''''.out.cell 1
  have m2 : W14.cell? ⟨w10.heap.size, 2, none⟩ = some (.int .i64 2) := b7''''.out.cell 2
  have m3 : W14.cell? ⟨w10.heap.size, 3, none⟩ = some (.int .i64 0) := b7''''.out.cell 3
  have ml : w10.heap.size < W14.heap.size := b7''''.out.lt
  go_upto_region 10 with fail
  rw [HW14.out]
  go_wp2_with (go_at_call 35; refine (num25_any _ _).mono ?_; rintro e w' ⟨rfl, rfl⟩)
  go_ret
  exact ⟨by rfl, HB15.out⟩
end Go.Proofs.YtfbangojgjcbcaaGreatDoor
namespace Go.Proofs.YtfbangojgjcbcaaGreatDoor
open Go.RowKit Pl
theorem sameS_self (cs : List Cfg) (ls : List Lk) (zs : List ActP) : sameS cs cs ls ls zs zs = true := by unfold sameS; simp
set_option maxRecDepth 100000 in
set_option maxHeartbeats 16000000 in
theorem scriptTexts_walk (cv lv av : Value) (cs : List Cfg) (ls : List Lk) (zs : List ActP) (cv' lv' av' : Value) (cs' : List Cfg) (ls' : List Lk) (zs' : List ActP) (w : World)
    (h : ScrIs w cv lv av cs ls zs) (g : ScrAny cs ls zs) (h' : ScrIs w cv' lv' av' cs' ls' zs') (g' : ScrAny cs' ls' zs') (E : Env w) :
    Calls Tryz.prog 11 #[.agg #[cv, lv, av], .agg #[cv', lv', av']] w fun e w' => e = .returned (.bool true) ∧ Below w.heap.size w w' := by
  have HG := Lib.hid g
  have HG' := Lib.hid g'
  have HS := Lib.hid h
  have HS' := Lib.hid h'
  obtain ⟨A1, k1, rfl, -⟩ := h.confs
  obtain ⟨A2, k2, rfl, -⟩ := h.links
  obtain ⟨A3, k3, rfl, -⟩ := h.acts
  obtain ⟨B1, l1, rfl, -⟩ := h'.confs
  obtain ⟨B2, l2, rfl, -⟩ := h'.links
  obtain ⟨B3, l3, rfl, -⟩ := h'.acts
  obtain ⟨W0, hW0⟩ : ∃ X, (w.alloc (.cells #[.slice A1 cs.length k1, .slice A2 ls.length k2, .slice A3 zs.length k3] 76)).alloc (.cells #[.slice B1 cs'.length l1, .slice B2 ls'.length l2, .slice B3 zs'.length l3] 76) = X := ⟨_, rfl⟩
  have hb0 : Below w.heap.size w W0 := by rw [← hW0]; exact ((Below.refl _ _).alloc (Nat.le_refl _) _).alloc (by simp) _
  have HB0 := Lib.hid hb0
  have HX0 : Hid (Whole W0 w.heap.size 76 #[.slice A1 cs.length k1, .slice A2 ls.length k2, .slice A3 zs.length k3]) := Lib.hid (by rw [← hW0]; exact (Whole.new w _ _).alloc _)
  have HY0 : Hid (Whole W0 (w.heap.size + 1) 76 #[.slice B1 cs'.length l1, .slice B2 ls'.length l2, .slice B3 zs'.length l3]) := Lib.hid (by
    rw [← hW0]
    have := Whole.new (w.alloc (.cells #[.slice A1 cs.length k1, .slice A2 ls.length k2, .slice A3 zs.length k3] 76)) 76 #[.slice B1 cs'.length l1, .slice B2 ls'.length l2, .slice B3 zs'.length l3]
    rw [World.size_alloc] at this
    exact this)
  have HMA := Lib.hid (rmuch_any _ _ _ cs ls zs W0 (HS.out.here hb0) HG.out.nc HG.out.na)
  have HMB := Lib.hid (fun W (hb : Below w.heap.size w W) => rmuch_any _ _ _ cs' ls' zs' W (HS'.out.here hb) HG'.out.nc HG'.out.na)
  have EE := Lib.hid E
  have HW0 := Lib.hid hW0
  clear hW0 hb0 h h' g g' E
  try clear x0 x1 x2 y0 y1 y2 xl yl
  have x0 : W0.cell? ⟨w.heap.size, 0, none⟩ = some (.slice A1 cs.length k1) := HX0.out.cell 0
  have x1 : W0.cell? ⟨w.heap.size, 1, none⟩ = some (.slice A2 ls.length k2) := HX0.out.cell 1
  have x2 : W0.cell? ⟨w.heap.size, 2, none⟩ = some (.slice A3 zs.length k3) := HX0.out.cell 2
  have y0 : W0.cell? ⟨w.heap.size + 1, 0, none⟩ = some (.slice B1 cs'.length l1) := HY0.out.cell 0
  have y1 : W0.cell? ⟨w.heap.size + 1, 1, none⟩ = some (.slice B2 ls'.length l2) := HY0.out.cell 1
  have y2 : W0.cell? ⟨w.heap.size + 1, 2, none⟩ = some (.slice B3 zs'.length l3) := HY0.out.cell 2
  have xl : w.heap.size < W0.heap.size := HX0.out.lt
  have yl : w.heap.size + 1 < W0.heap.size := HY0.out.lt
  go_enter Tryz.func11, Tryz.ntmps11
  go_upto_region 1 with fail
  rw [HW0.out]
  go_wp2_with fail
  refine HMA.out.mono ?_
  rintro e w1 ⟨⟨ba, rfl, hsa⟩, hb⟩
  have HB1 := Lib.hid (HB0.out.trans (hb.mono HB0.out.size))
  have HX1 := Lib.hid (HX0.out.here hb)
  have HY1 := Lib.hid (HY0.out.here hb)
  clear hb
  try clear x0 x1 x2 y0 y1 y2 xl yl
  have x0 : w1.cell? ⟨w.heap.size, 0, none⟩ = some (.slice A1 cs.length k1) := HX1.out.cell 0
  have x1 : w1.cell? ⟨w.heap.size, 1, none⟩ = some (.slice A2 ls.length k2) := HX1.out.cell 1
  have x2 : w1.cell? ⟨w.heap.size, 2, none⟩ = some (.slice A3 zs.length k3) := HX1.out.cell 2
  have y0 : w1.cell? ⟨w.heap.size + 1, 0, none⟩ = some (.slice B1 cs'.length l1) := HY1.out.cell 0
  have y1 : w1.cell? ⟨w.heap.size + 1, 1, none⟩ = some (.slice B2 ls'.length l2) := HY1.out.cell 1
  have y2 : w1.cell? ⟨w.heap.size + 1, 2, none⟩ = some (.slice B3 zs'.length l3) := HY1.out.cell 2
  have xl : w.heap.size < w1.heap.size := HX1.out.lt
  have yl : w.heap.size + 1 < w1.heap.size := HY1.out.lt
  cases ba with
  | true =>
    go_wp2_with (first
      | (go_at_call 35; refine (num25_any _ _).mono ?_; rintro e w' ⟨rfl, rfl⟩)
      | (go_at_call 29; refine (known25_any _ (EE.out.here HB1.out)).mono ?_; rintro e wk ⟨rfl, hbk⟩))
    go_ret
    exact ⟨by rfl, HB1.out.trans (hbk.mono HB1.out.size)⟩
  | false =>
    have HSA := Lib.hid (hsa rfl)
    have HMB1 := Lib.hid (HMB.out _ HB1.out)
    clear hsa
    go_wp2_with fail
    refine HMB1.out.mono ?_
    rintro e w2 ⟨⟨bb, rfl, hsb⟩, hb⟩
    have HB2 := Lib.hid (HB1.out.trans (hb.mono HB1.out.size))
    have HX2 := Lib.hid (HX1.out.here hb)
    have HY2 := Lib.hid (HY1.out.here hb)
    clear hb
    try clear x0 x1 x2 y0 y1 y2 xl yl
    have x0 : w2.cell? ⟨w.heap.size, 0, none⟩ = some (.slice A1 cs.length k1) := HX2.out.cell 0
    have x1 : w2.cell? ⟨w.heap.size, 1, none⟩ = some (.slice A2 ls.length k2) := HX2.out.cell 1
    have x2 : w2.cell? ⟨w.heap.size, 2, none⟩ = some (.slice A3 zs.length k3) := HX2.out.cell 2
    have y0 : w2.cell? ⟨w.heap.size + 1, 0, none⟩ = some (.slice B1 cs'.length l1) := HY2.out.cell 0
    have y1 : w2.cell? ⟨w.heap.size + 1, 1, none⟩ = some (.slice B2 ls'.length l2) := HY2.out.cell 1
    have y2 : w2.cell? ⟨w.heap.size + 1, 2, none⟩ = some (.slice B3 zs'.length l3) := HY2.out.cell 2
    have xl : w.heap.size < w2.heap.size := HX2.out.lt
    have yl : w.heap.size + 1 < w2.heap.size := HY2.out.lt
    cases bb with
    | true =>
      go_wp2_with (first
        | (go_at_call 35; refine (num25_any _ _).mono ?_; rintro e w' ⟨rfl, rfl⟩)
        | (go_at_call 29; refine (known25_any _ (EE.out.here HB2.out)).mono ?_; rintro e wk ⟨rfl, hbk⟩))
      go_ret
      exact ⟨by rfl, HB2.out.trans (hbk.mono HB2.out.size)⟩
    | false =>
      have HSB := Lib.hid (hsb rfl)
      clear hsb
      have HK := Lib.hid (small_ok HSA.out HG.out.confs HG.out.links HG.out.acts)
      have HK' := Lib.hid (small_ok HSB.out HG'.out.confs HG'.out.links HG'.out.acts)
      have HLEN : Hid (maySet cs ls = true → (∀ a ∈ zs, mayA a = true) → (textS cs ls zs).length ≤ 4194304) := Lib.hid (small_len HSA.out HG.out.links HG.out.acts)
      have HTX := Lib.hid (stext_any _ _ _ cs ls zs w2 (HS.out.here HB2.out) HK.out (EE.out.here HB2.out) (fun h1 h2 => by have := HLEN.out h1 h2; omega))
      have HNA : Hid (zs.length ≤ 200) := Lib.hid HSA.out.na
      go_wp2_with fail
      refine HTX.out.mono ?_
      rintro e w3 ⟨ht, hb⟩
      unfold TextRes at ht
      subst ht
      have HB3 := Lib.hid (HB2.out.trans (hb.mono HB2.out.size))
      have HX3 := Lib.hid (HX2.out.here hb)
      have HY3 := Lib.hid (HY2.out.here hb)
      clear hb
      try clear x0 x1 x2 y0 y1 y2 xl yl
      have x0 : w3.cell? ⟨w.heap.size, 0, none⟩ = some (.slice A1 cs.length k1) := HX3.out.cell 0
      have x1 : w3.cell? ⟨w.heap.size, 1, none⟩ = some (.slice A2 ls.length k2) := HX3.out.cell 1
      have x2 : w3.cell? ⟨w.heap.size, 2, none⟩ = some (.slice A3 zs.length k3) := HX3.out.cell 2
      have y0 : w3.cell? ⟨w.heap.size + 1, 0, none⟩ = some (.slice B1 cs'.length l1) := HY3.out.cell 0
      have y1 : w3.cell? ⟨w.heap.size + 1, 1, none⟩ = some (.slice B2 ls'.length l2) := HY3.out.cell 1
      have y2 : w3.cell? ⟨w.heap.size + 1, 2, none⟩ = some (.slice B3 zs'.length l3) := HY3.out.cell 2
      have xl : w.heap.size < w3.heap.size := HX3.out.lt
      have yl : w.heap.size + 1 < w3.heap.size := HY3.out.lt
      have HAB : Hid (∀ y : Ext w3, Calls Tryz.prog 47 #[.agg #[.slice A1 cs.length k1, .slice A2 ls.length k2, .slice A3 zs.length k3], .agg #[.slice B1 cs'.length l1, .slice B2 ls'.length l2, .slice B3 zs'.length l3]] y.w fun e w' => e = .returned (.bool (sameS cs cs' ls ls' zs zs')) ∧ Below y.w.heap.size y.w w') := Lib.hid (fun y => ssame_any _ _ _ _ _ _ cs cs' ls ls' zs zs' y.w (HS.out.here (HB3.out.trans (y.below.mono HB3.out.size))) (HS'.out.here (HB3.out.trans (y.below.mono HB3.out.size))) HK.out HK'.out)
      have HRAB : Hid (∀ y : Ext w3, Calls Tryz.prog 48 #[.agg #[.slice A1 cs.length k1, .slice A2 ls.length k2, .slice A3 zs.length k3], .agg #[.slice B1 cs'.length l1, .slice B2 ls'.length l2, .slice B3 zs'.length l3]] y.w fun e w' => e = .returned (.bool (sameS cs cs' ls ls' zs zs')) ∧ Below y.w.heap.size y.w w') := Lib.hid (fun y => rsame25_any _ _ _ _ _ _ cs cs' ls ls' zs zs' y.w (HS.out.here (HB3.out.trans (y.below.mono HB3.out.size))) (HS'.out.here (HB3.out.trans (y.below.mono HB3.out.size))) HK.out HK'.out)
      have HAA : Hid (∀ y : Ext w3, Calls Tryz.prog 47 #[.agg #[.slice A1 cs.length k1, .slice A2 ls.length k2, .slice A3 zs.length k3], .agg #[.slice A1 cs.length k1, .slice A2 ls.length k2, .slice A3 zs.length k3]] y.w fun e w' => e = .returned (.bool true) ∧ Below y.w.heap.size y.w w') := Lib.hid (fun y => by
        have := ssame_any _ _ _ _ _ _ cs cs ls ls zs zs y.w (HS.out.here (HB3.out.trans (y.below.mono HB3.out.size))) (HS.out.here (HB3.out.trans (y.below.mono HB3.out.size))) HK.out HK.out
        rw [sameS_self] at this
        exact this)
      obtain ⟨sab, hsab⟩ : ∃ b, sameS cs cs' ls ls' zs zs' = b := ⟨_, rfl⟩
      rw [hsab] at HAB HRAB
      clear hsab
      have HSS : Hid (∀ (y : Ext w3) (v v' : Value) (b : Bool), (v = .agg #[.slice A1 cs.length k1, .slice A2 ls.length k2, .slice A3 zs.length k3] ∧ v' = .agg #[.slice B1 cs'.length l1, .slice B2 ls'.length l2, .slice B3 zs'.length l3] ∧ b = sab) ∨ (v = .agg #[.slice A1 cs.length k1, .slice A2 ls.length k2, .slice A3 zs.length k3] ∧ v' = .agg #[.slice A1 cs.length k1, .slice A2 ls.length k2, .slice A3 zs.length k3] ∧ b = true) → Calls Tryz.prog 47 #[v, v'] y.w fun e w' => e = .returned (.bool b) ∧ Below y.w.heap.size y.w w') := Lib.hid (fun y v v' b h => by
        rcases h with ⟨rfl, rfl, rfl⟩ | ⟨rfl, rfl, rfl⟩
        · exact HAB.out y
        · exact HAA.out y)
      obtain ⟨T1, T2, hT⟩ : ∃ a b, sText cs ls zs = (a, b) := ⟨_, _, rfl⟩
      have HT := Lib.hid hT
      rw [hT]
      clear hT
      go_wp2
      refine wp_region_ext (by kernel_rfl) (by kernel_rfl) ?_
      repeat (go_big_quiet_step (first | (go_at_call 47; exact Ext.call (HSS.out _ _ _ _ (by first | exact .inl ⟨rfl, rfl, rfl⟩ | exact .inr ⟨rfl, rfl, rfl⟩))) | (go_at_call 48; exact Ext.call (HRAB.out _))))
      refine wpQuiet_nil ?_
      rintro _ ⟨y, rfl⟩
      have hb := y.below
      have HB4 := Lib.hid (HB3.out.trans (hb.mono HB3.out.size))
      have HX4 := Lib.hid (HX3.out.here hb)
      have HY4 := Lib.hid (HY3.out.here hb)
      obtain ⟨W4, hW4⟩ : ∃ X, y.w = X := ⟨_, rfl⟩
      rw [hW4] at HB4 HX4 HY4 ⊢
      clear hb hW4 y HAB HRAB HAA HSS
      try clear x0 x1 x2 y0 y1 y2 xl yl
      have x0 : W4.cell? ⟨w.heap.size, 0, none⟩ = some (.slice A1 cs.length k1) := HX4.out.cell 0
      have x1 : W4.cell? ⟨w.heap.size, 1, none⟩ = some (.slice A2 ls.length k2) := HX4.out.cell 1
      have x2 : W4.cell? ⟨w.heap.size, 2, none⟩ = some (.slice A3 zs.length k3) := HX4.out.cell 2
      have y0 : W4.cell? ⟨w.heap.size + 1, 0, none⟩ = some (.slice B1 cs'.length l1) := HY4.out.cell 0
      have y1 : W4.cell? ⟨w.heap.size + 1, 1, none⟩ = some (.slice B2 ls'.length l2) := HY4.out.cell 1
      have y2 : W4.cell? ⟨w.heap.size + 1, 2, none⟩ = some (.slice B3 zs'.length l3) := HY4.out.cell 2
      have xl : w.heap.size < W4.heap.size := HX4.out.lt
      have yl : w.heap.size + 1 < W4.heap.size := HY4.out.lt
      have HMS := Lib.hid (rmaysetup_any _ _ cs ls W4 (HS.out.here HB4.out).confs (HS.out.here HB4.out).links HK.out.addrs HK.out.confs HK.out.links HK.out.nc HK.out.nl)
      go_wp2_with fail
      refine HMS.out.mono ?_
      rintro e w5 ⟨rfl, hb⟩
      have HB5 := Lib.hid (HB4.out.trans (hb.mono HB4.out.size))
      have HX5 := Lib.hid (HX4.out.here hb)
      have HY5 := Lib.hid (HY4.out.here hb)
      clear hb
      try clear x0 x1 x2 y0 y1 y2 xl yl
      have x0 : w5.cell? ⟨w.heap.size, 0, none⟩ = some (.slice A1 cs.length k1) := HX5.out.cell 0
      have x1 : w5.cell? ⟨w.heap.size, 1, none⟩ = some (.slice A2 ls.length k2) := HX5.out.cell 1
      have x2 : w5.cell? ⟨w.heap.size, 2, none⟩ = some (.slice A3 zs.length k3) := HX5.out.cell 2
      have y0 : w5.cell? ⟨w.heap.size + 1, 0, none⟩ = some (.slice B1 cs'.length l1) := HY5.out.cell 0
      have y1 : w5.cell? ⟨w.heap.size + 1, 1, none⟩ = some (.slice B2 ls'.length l2) := HY5.out.cell 1
      have y2 : w5.cell? ⟨w.heap.size + 1, 2, none⟩ = some (.slice B3 zs'.length l3) := HY5.out.cell 2
      have xl : w.heap.size < w5.heap.size := HX5.out.lt
      have yl : w.heap.size + 1 < w5.heap.size := HY5.out.lt
      clear HMS
      go_wp2
      go_loopw [7, 8] (fun m i wr => ∃ j : Nat, j ≤ zs.length ∧ i = .int .i64 j ∧ m = .bool (maySet cs ls && (zs.take j).all mayA) ∧ Hid (Below w5.heap.size w5 wr)) (fun _ i _ => zs.length - (intOf i).toNat)
      case atStart => exact ⟨0, Nat.zero_le _, rfl, by simp, Lib.hid (Below.refl _ _)⟩
      case round =>
        obtain ⟨j, hj, rfl, rfl, HB⟩ := hrel
        have hb := HB.out
        have hln := HNA.out
        have HB6 := Lib.hid (HB5.out.trans (hb.mono HB5.out.size))
        have HX6 := Lib.hid (HX5.out.here hb)
        have HY6 := Lib.hid (HY5.out.here hb)
        clear hb
        try clear x0 x1 x2 y0 y1 y2 xl yl
        have x0 : wr.cell? ⟨w.heap.size, 0, none⟩ = some (.slice A1 cs.length k1) := HX6.out.cell 0
        have x1 : wr.cell? ⟨w.heap.size, 1, none⟩ = some (.slice A2 ls.length k2) := HX6.out.cell 1
        have x2 : wr.cell? ⟨w.heap.size, 2, none⟩ = some (.slice A3 zs.length k3) := HX6.out.cell 2
        have y0 : wr.cell? ⟨w.heap.size + 1, 0, none⟩ = some (.slice B1 cs'.length l1) := HY6.out.cell 0
        have y1 : wr.cell? ⟨w.heap.size + 1, 1, none⟩ = some (.slice B2 ls'.length l2) := HY6.out.cell 1
        have y2 : wr.cell? ⟨w.heap.size + 1, 2, none⟩ = some (.slice B3 zs'.length l3) := HY6.out.cell 2
        have xl : w.heap.size < wr.heap.size := HX6.out.lt
        have yl : w.heap.size + 1 < wr.heap.size := HY6.out.lt
        by_cases hlt : j < zs.length
        · obtain ⟨x, hx⟩ : ∃ u, zs[j]? = some u := ⟨_, List.getElem?_eq_getElem hlt⟩
          obtain ⟨g, off, rfl, hg, bv, hbv, p0, p1, p2, p3, p4, p5, p6, p7, p8⟩ := (HS.out.here HB6.out).acts.at hx
          obtain ⟨A4, k4, rfl, -⟩ := id hbv
          have HCM : Hid (Calls Tryz.prog 32 #[.agg #[.int .i64 x.kind, .int .i64 x.node, .int .i64 x.port, .int .i64 x.cost, .int .i64 x.n, .bool x.up, .int .u8 (x.by_.toNat : Int), .bool x.unread, .slice A4 x.bytes.length k4]] wr fun e w' => e = .returned (.bool (mayA x)) ∧ Below wr.heap.size wr w') := Lib.hid (rmayAct_any x _ wr hbv)
          have HAL : Hid ((zs.take (j + 1)).all mayA = ((zs.take j).all mayA && mayA x)) := Lib.hid (by rw [take_at hx, List.all_append]; simp)
          clear hx hbv
          cases hm : (maySet cs ls && (zs.take j).all mayA) with
          | false =>
            have HM2 : Hid ((maySet cs ls && (zs.take (j + 1)).all mayA) = false) := Lib.hid (by rw [HAL.out, ← Bool.and_assoc, hm]; rfl)
            clear hm
            go_wp2
            go_roundw
            case rel => exact ⟨j + 1, by omega, by go_num, by rw [HM2.out], HB⟩
            case measure => simp [intOf]; omega
          | true =>
            have HM2 : Hid ((maySet cs ls && (zs.take (j + 1)).all mayA) = mayA x) := Lib.hid (by rw [HAL.out, ← Bool.and_assoc, hm]; rfl)
            clear hm
            go_wp2_with fail
            refine HCM.out.mono ?_
            rintro e w7 ⟨rfl, hb7⟩
            have HB7 := Lib.hid (HB.out.trans (hb7.mono HB.out.size))
            clear hb7
            go_wp2
            go_roundw
            case rel => exact ⟨j + 1, by omega, by go_num, by rw [HM2.out], HB7⟩
            case measure => simp [intOf]; omega
        · obtain rfl : j = zs.length := by omega
          rw [List.take_length]
          cases hm : (maySet cs ls && zs.all mayA) with
          | false =>
            have hTT : sText cs ls zs = ([], 2) := by unfold sText; rw [hm]; rfl
            rw [HT.out] at hTT
            injection hTT with e1 e2
            subst e1 e2
            clear hm hlt
            have hn1 : (str ([] : List UInt8)).toList = [] := str_toList []
            have hn2 : ((str ([] : List UInt8)).toList == []) = true := by rw [str_toList]; rfl
            go_wp2_with (first
              | (go_at_call 35; refine (num25_any _ _).mono ?_; rintro e w' ⟨rfl, rfl⟩)
              | (go_at_call 29; refine (known25_any _ (EE.out.here HB6.out)).mono ?_; rintro e wk ⟨rfl, hbk⟩))
            go_ret
            exact ⟨by rfl, HB6.out.trans (hbk.mono HB6.out.size)⟩
          | true =>
            simp only [Bool.and_eq_true] at hm
            have hall := List.all_eq_true.1 hm.2
            have hlen := HLEN.out hm.1 hall
            have hTT : sText cs ls zs = (textS cs ls zs, 0) := by unfold sText; rw [hm.1, hm.2]; simp only [Bool.and_self, if_true]; rw [if_neg (by omega), if_neg (by omega)]
            rw [HT.out] at hTT
            injection hTT with e1 e2
            subst e1 e2
            have HRT := Lib.hid (rtext25_any _ _ _ cs ls zs wr (HS.out.here HB6.out) HK.out (EE.out.here HB6.out) (by omega) (maySet_confs hm.1) hall)
            clear hm hlt hall hlen
            go_wp2_with fail
            refine HRT.out.mono ?_
            rintro e w7 ⟨rfl, hb⟩
            have HB7 := Lib.hid (HB6.out.trans (hb.mono HB6.out.size))
            have HX7 := Lib.hid (HX6.out.here hb)
            have HY7 := Lib.hid (HY6.out.here hb)
            clear hb
            go_wp2_with (first
              | (go_at_call 35; refine (num25_any _ _).mono ?_; rintro e w' ⟨rfl, rfl⟩)
              | (go_at_call 29; refine (known25_any _ (EE.out.here HB7.out)).mono ?_; rintro e wk ⟨rfl, hbk⟩))
            go_ret
            exact ⟨by rfl, HB7.out.trans (hbk.mono HB7.out.size)⟩
end Go.Proofs.YtfbangojgjcbcaaGreatDoor
namespace Go.Proofs.YtfbangojgjcbcaaGreatDoor.scriptTexts
open Go.ChangeShapes Go.WideShapes Go.ChangeAt Go.RowKit Go.Joins
set_option maxRecDepth 100000 in
theorem contract (H : Type) (enc : TypeId × Value → H) (W : World) (base : Nat) (args : Array Value) (ds gs : List (DataW H)) (before : List MemPlace)
    (hval : ∀ (j : Nat) t v, Tryz.f11.params[j]? = some t → args[j]? = some v → Value.okWide Tryz.prog W .any base t v)
    (hW : DataW.Whole enc Tryz.prog Tryz.f11.params.toList Rows.scriptTextsSpec.vars false W args.toList ds gs before) (hL : laidMetH Tryz.prog Rows.scriptTextsRow.laid W) (hsh : W.ShapedOpen Tryz.prog) :
    Calls Tryz.prog 11 args W fun e W' => ∃ v, e = .returned v ∧ Rows.scriptTextsSpec.post enc Tryz.prog Tryz.f11 false true false false W args v W' := by
  have hW' := hW
  obtain ⟨p, q, hA0, hV, rfl, hfz, hnd⟩ := hW
  have hA : DataW.TrodAll enc Tryz.prog W 0 (fun _ => true) true Tryz.f11.params.toList args.toList ds p := hA0
  rw [Tryz.params11] at hA hval
  obtain ⟨v0, vs0, d0, ds0, p0, q0, hargs, rfl, rfl, h0, r0⟩ := trodAll_cons hA
  obtain ⟨v1, vs1, d1, ds1, p1, q1, rfl, rfl, rfl, h1, r1⟩ := trodAll_cons r0
  obtain ⟨rfl, rfl, rfl⟩ := trodAll_nil r1
  obtain rfl : args = #[v0, v1] := by cases args; simp_all
  obtain ⟨rfl, rfl⟩ := trodVars_none hV
  have k0 := h0
  have lt0 : ∀ x ∈ p0, x.block < W.heap.size := by obtain ⟨m, hm⟩ := k0; exact DataW.trod_lt m _ _ _ hm
  have k1 := h1
  have lt1 : ∀ x ∈ p1, x.block < W.heap.size := by obtain ⟨m, hm⟩ := k1; exact DataW.trod_lt m _ _ _ hm
  obtain ⟨cv0, lv0, av0, cs0, ls0, zs0, rfl, hs0, ga0⟩ := open_script (hval 0 76 v0 rfl rfl) h0
  obtain ⟨cv1, lv1, av1, cs1, ls1, zs1, rfl, hs1, ga1⟩ := open_script (hval 1 76 v1 rfl rfl) h1
  clear hA0
  refine (scriptTexts_walk cv0 lv0 av0 cs0 ls0 zs0 cv1 lv1 av1 cs1 ls1 zs1 W hs0 ga0 hs1 ga1 (env_of hL hsh)).mono fun e W' ⟨he, bel⟩ => ?_
  subst he
  exact ⟨_, rfl, _, _, _, [], _, [], hW', trodAll_mk1 (shut_bool Tryz.underlying4 _), (trodAll_cons_mk (Below.trod laidOut (by kernel_rfl) (of_decide_eq_true (by kernel_rfl)) k0 bel lt0) (trodAll_cons_mk (Below.trod laidOut (by kernel_rfl) (of_decide_eq_true (by kernel_rfl)) k1 bel lt1) trodAll_mk0)), rfl, bel.frame _, fun h => by cases h⟩
theorem reads (os : Os) {H : Type} (enc : TypeId × Value → H) : ∃ places, DataW.whole enc Tryz.prog ((laidWorld os).forCall (fun _ _ => 0) ⟨#[], #[.agg #[.slice none 0 0, .slice none 0 0, .slice none 0 0], .agg #[.slice none 0 0, .slice none 0 0, .slice none 0 0]], []⟩).memory Tryz.f11.params.toList Rows.scriptTextsSpec.vars false (#[.agg #[.slice none 0 0, .slice none 0 0, .slice none 0 0], .agg #[.slice none 0 0, .slice none 0 0, .slice none 0 0]] : Array Value).toList 8 = some ([.agg [.agg [.nil, .nil], .nil], .agg [.agg [.nil, .nil], .nil]], [], places) :=
  ⟨[], by kernel_rfl⟩
set_option maxRecDepth 100000 in
theorem lifted (os : Os) (started : os.Started) (H : Type) (enc : TypeId × Value → H) (F : Stop.Interp) :
    ReturnsInHanded {} Tryz.checked os 11 .any ((OpenSpec.ofChange Rows.scriptTextsSpec).preRow enc Tryz.prog Tryz.f11 Rows.scriptTextsRow.domain false Rows.scriptTextsRow.laid) (((OpenSpec.ofChange Rows.scriptTextsSpec).at F).post enc Tryz.prog Tryz.f11 false true false false) := by
  obtain ⟨places, hx⟩ := reads os enc
  refine returnsInHanded_of_row (C := Tryz.checked) (s := OpenSpec.ofChange Rows.scriptTextsSpec) own started (by kernel_rfl) Tryz.func11
    (witness_row_atRef (enc := enc) (C := Tryz.checked) false (laidWorld os) #[.agg #[.slice none 0 0, .slice none 0 0, .slice none 0 0], .agg #[.slice none 0 0, .slice none 0 0, .slice none 0 0]] rfl (by kernel_rfl) (by kernel_rfl) (by kernel_rfl)
      (OpenSpec.preRow_of_cond 8 hx (by kernel_rfl) (fun k hk => by cases hk) (by kernel_rfl) (laid_met os _))) ?_
  intro W base args ds gs before hval hW _ _ _ hL hsh _
  exact contract H enc W base args ds gs before hval hW hL hsh
set_option maxHeartbeats 4000000 in
theorem said : Rows.ScriptTextsSaid :=
  OpenClaim.holds_of_cond 11 Tryz.f11 rfl rfl rfl rfl rfl rfl rfl ⟨rfl, rfl, rfl, rfl, rfl⟩ rfl rfl rfl rfl rfl (by as_aux_lemma => kernel_rfl) Tryz.func11 (by as_aux_lemma => kernel_rfl)
    (of_decide_eq_true (by as_aux_lemma => kernel_rfl)) (by as_aux_lemma => unfold Func.isWrapper; first | (rw [if_pos (by decide +kernel)]; kernel_rfl) | (rw [if_neg (by decide +kernel)]; exact ⟨rfl, rfl⟩))
    (fun os started H enc _ F => by rw [OpenClaim.pre_eq_preRow]; exact lifted os started H enc F)
theorem plain (f : FuncId) (fn : Func) (hf : Tryz.pinned.checked.prog.funcNamed "guidepost/guidepostlaw25.ScriptTexts" = some f) (hfn : Tryz.pinned.checked.prog.funcs[f]? = some fn) :
    true = Tryz.pinned.checked.prog.looks [] ∧ ∀ (j : Nat) t, fn.params[j]? = some t → Tryz.pinned.checked.prog.wantsStandIn t = false := by
  obtain rfl : f = 11 := Option.some.inj ((show Tryz.prog.funcNamed "guidepost/guidepostlaw25.ScriptTexts" = some 11 by kernel_rfl).symm.trans hf) |>.symm
  obtain rfl : fn = Tryz.f11 := (Option.some.inj (Tryz.func11.symm.trans hfn)).symm
  refine ⟨by kernel_rfl, fun j t ht => ?_⟩
  rw [Tryz.params11] at ht
  have hm : t ∈ [76, 76] := by have := Array.mem_of_getElem? ht; simp at this ⊢; omega
  simp only [List.mem_cons, List.not_mem_nil, or_false] at hm
  rcases hm with rfl | rfl
  · exact (show Tryz.prog.wantsStandIn 76 = false by kernel_rfl)
  · exact (show Tryz.prog.wantsStandIn 76 = false by kernel_rfl)
/-- The card. -/
theorem card : Rows.ScriptTextsCardSaid :=
  Claim7.holds_tied_plain_at .later [] _ _ _ _ said (fun _ h => by cases h) (by kernel_rfl) (fun _ h => by cases h) scriptTexts_row_tie rfl ⟨rfl, rfl⟩ (by kernel_rfl) rfl plain (by kernel_rfl)
#print axioms card
end Go.Proofs.YtfbangojgjcbcaaGreatDoor.scriptTexts
