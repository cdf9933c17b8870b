/- Part 13 of the proof: RoundR, ActI, ActJ, MapL, MapK. -/
import Derived.OrdersIn
import Derived.OwnWalkIn
import Derived.RangeFuncCalls
import Derived.Maps.OwnSet
import Derived.DeepKeys4
import Derived.Test.YtfbangojgjcbcaaGreatDoorSC01
import Derived.Test.YtfbangojgjcbcaaGreatDoorSC02
import Derived.Test.YtfbangojgjcbcaaGreatDoorSC12
namespace Go.Proofs.YtfbangojgjcbcaaGreatDoor
open Go.RowKit Pl
section
variable {P : Program} {ops : Array Oper} {md : Region.Mode} {l n : Nat} {Q : Exit → Act → World → Prop}
theorem rowsIn_of {row : String} {args : Array Value} {w : World} {R : Value → World → Prop} (h : Rows P row args w R) : RowsIn (Fence.wide.inRound l) n P row args w R := by
  intro c cs _
  obtain ⟨v, w', r, s⟩ := h c cs
  exact ⟨v, w', r, stepsIn_wide.2 s⟩
theorem opIn_of {i : Nat} {K : Act → World → Prop} {a : Act} {w : World} (hdf : ∀ (j : Nat) (o : Oper), ops[j]? = some o → ∀ c, o.op ≠ .defer c) (hQ : ¬ LetsOut Q)
    (h : wpOp P ops Q i K a w) : wpOpIn (Fence.wide.inRound l) n P ops Q i K a w := by
  unfold wpOp at h
  unfold wpOpIn
  split
  · rename_i ho; simp only [ho] at h; exact h
  · rename_i o ho
    simp only [ho] at h
    split
    · rename_i hw
      rw [if_pos hw] at h
      have h := h.resolve_right (fun h => hQ h.2)
      unfold Oper.wp at h
      unfold Oper.wpIn
      refine ⟨fun _ _ => trivial, ?_⟩
      rw [Oper.semAt_plain _ _ _ (hdf i o ho)]
      generalize (execOp a.eval o).run P w = r at *
      cases r with
      | ok x w' =>
        cases x <;> simp only [Oper.upon] at h <;> simp only [Oper.uponIn]
        case enter f args =>
          refine ⟨fun hd => by simp [Fence.wide] at hd, CallsIn.inRound l ((callsIn_wide.2 h).mono fun e w'' he => ?_)⟩
          cases e <;> exact he
        case row row args => exact ⟨fun hd => by simp [Fence.wide] at hd, (rowsIn_of h).mono fun _ _ he => he⟩
        all_goals exact h
      | halt x w' => cases x <;> simp only [Oper.upon] at h <;> simp only [Oper.uponIn] <;> exact h
    · rename_i hw
      rw [if_neg hw] at h
      exact ⟨fun _ _ => trivial, h⟩
theorem anyIn_of (hdf : ∀ (j : Nat) (o : Oper), ops[j]? = some o → ∀ c, o.op ≠ .defer c) (hQ : ¬ LetsOut Q) :
    ∀ (f : Nat) (listed : Array Bool) (a : Act) (w : World), wpAny P md ops Q f listed a w → wpAnyIn (Fence.wide.inRound l) n P md ops Q f listed a w
  | 0, _, _, _, h => h
  | f + 1, _, _, _, h => ⟨h.1, fun i hi => wpOpIn_mono (fun a w h => anyIn_of hdf hQ f _ a w h) (opIn_of hdf hQ (h.2 i hi))⟩
def noDefer (ops : Array Oper) : Bool := ops.all fun o => match o.op with
  | .defer _ => false
  | _ => true
theorem noDefer_spec (h : noDefer ops = true) (j : Nat) (o : Oper) (ho : ops[j]? = some o) (c : Call) : o.op ≠ .defer c := by
  intro he
  have hm := Array.mem_of_getElem? ho
  have := (Array.all_eq_true'.1 h) o hm
  rw [he] at this
  cases this
theorem wpIn_region_ext {id : Nat} {a : Act} {W : World} {ls : List Oper} (hm : P.follows .mixedOrders = true) (hB : Region.lexB .any ls.toArray = true) (hd : noDefer ls.toArray = true)
    (h : wpQuiet P ls.toArray (fun w' => ∃ x : Ext W, w' = x.w) (fun a' => ∀ w', (∃ x : Ext W, w' = x.w) → Q .normal a' w') ls a) : (Code.region id ls.toArray true).wpIn (Fence.wide.inRound l) n P Q a W := by
  have h2 : (Code.region id ls.toArray true).wpIn (Fence.wide.inRound l) n P (Exit.then (fun a w => Q .normal a w) (fun _ _ _ => False)) a W := by
    refine wpIn_region_any hm (anyIn_of (noDefer_spec hd) (fun ⟨_, _, h⟩ => h) _ _ _ _ ?_)
    simp only [Region.lexB, Bool.and_eq_true] at hB
    refine wpAny_of_quiet (C := fun w' => ∃ x : Ext W, w' = x.w) (Q := fun a' => ∀ w', (∃ x : Ext W, w' = x.w) → Q .normal a' w') (Q' := Exit.then (fun a w => Q .normal a w) (fun _ _ _ => False)) (fun _ w' hw' h => h w' hw') _ _ _ { W with drawn := W.drawn + 1 } ⟨⟨_, (Below.refl _ W).drew⟩, rfl⟩ ?_
    have := wpAnyQ_lex (C := fun w' => ∃ x : Ext W, w' = x.w) (md := .any) hB.1 ls 0 (Array.replicate ls.toArray.size false) a (by simp) (by simpa using hB.2) h
    simpa using this
  exact wpIn_mono h2 fun e _ _ h => by cases e <;> first | exact h | exact h.elim
end
end Go.Proofs.YtfbangojgjcbcaaGreatDoor
namespace Go.Proofs.YtfbangojgjcbcaaGreatDoor
open Go.RowKit Pl Go.Shelf
set_option maxRecDepth 100000 in
set_option maxHeartbeats 4000000 in
theorem names1g_in {α : Type} (kf : α → Nat) (ls : List α) (hls : ls.map kf = kinds9) (F : Fence) (n : Nat) (hF : F.fn 141) (hro : F.round = none) (hn : 1 ≤ n) (l Bs lo hi : Nat) (v : Value) (J Jx : List α → World → Prop)
    (hY : ∀ (pre : List α) (x : α) (W : World), J pre W → pre.length < 9 → YieldAt F (n - 1) Tryz.prog l #[.int .i64 (kf x : Int), .string (str (nameA (kf x)))] W fun e W' =>
      (e = .returned (.bool true) ∧ J (pre ++ [x]) W' ∧ Between lo hi W W') ∨ (e = .returned (.bool false) ∧ Jx (pre ++ [x]) W'))
    (W : World) (hBs : W.cell? ⟨Bs, 0, none⟩ = some v) (hE : Ss lo hi W v names9) (h0 : J [] W) :
    CallsIn F n Tryz.prog 141 #[.func (.yield l) #[] #[], .pointer (some ⟨Bs, 0, none⟩)] W fun e W' => (∃ v, e = .returned v) ∧
      ((∃ ys, ys = ls ∧ J ys W') ∨ (∃ pre, pre <+: ls ∧ Jx pre W')) := by
  have HE := Lib.hid hE
  obtain ⟨A, c, rfl, _⟩ := hE
  change W.cell? ⟨Bs, 0, none⟩ = some (.slice A 9 c) at hBs
  refine callsIn_of_wp Tryz.func141 rfl hF ?_ hro
  simp only [Tryz.ntmps141, List.size_toArray, List.length_cons, List.length_nil, Nat.reduceAdd, Nat.reduceSub, Array.replicate_succ, Array.replicate_zero, List.push_toArray, List.append_toArray, List.nil_append, List.cons_append]
  gi_wp2
  gi_loopw [7] (fun i wr => ∃ k : Nat, k ≤ 9 ∧ i = .int .i64 k ∧ J (ls.take k) wr ∧ Between lo hi W wr) (fun i _ => 9 - (intOf i).toNat)
  case atStart => exact ⟨0, Nat.zero_le _, rfl, h0, Between.refl _⟩
  case round =>
    obtain ⟨k, hk, rfl, hJs, hnx⟩ := hrel
    by_cases hlt : k < 9
    · obtain ⟨A', c', hv, hA⟩ := HE.out.keep hnx
      injection hv with hv1 hv2 hv3
      subst hv1 hv3
      obtain ⟨b, off, rfl, hb, hcell⟩ := hA (by decide)
      have hu0 : kinds9[k]? = some (k + 1) := by rcases (by omega : k = 0 ∨ k = 1 ∨ k = 2 ∨ k = 3 ∨ k = 4 ∨ k = 5 ∨ k = 6 ∨ k = 7 ∨ k = 8) with rfl | rfl | rfl | rfl | rfl | rfl | rfl | rfl | rfl <;> rfl
      have c0 := hcell k (nameA (k + 1)) (by unfold names9; rw [List.getElem?_map, hu0]; rfl)
      obtain ⟨x, hu, hkx⟩ : ∃ x, ls[k]? = some x ∧ kf x = k + 1 := by
        rw [← hls, List.getElem?_map] at hu0
        cases hx : ls[k]? with
        | none => rw [hx] at hu0; cases hu0
        | some x => rw [hx] at hu0; exact ⟨x, rfl, Option.some.inj hu0⟩
      have HT : Hid (ls.take (k + 1) = ls.take k ++ [x]) := Lib.hid (by rw [List.take_add_one, hu]; rfl)
      clear hcell hA hu hu0 hv2
      have hkl : (ls.take k).length < 9 := by rw [List.length_take]; omega
      obtain ⟨fn, tmps, assign, body, hy, hR⟩ := hY (ls.take k) x _ hJs hkl
      have ek : ((k + 1 : Nat) : Int) = (k : Int) + 1 := by omega
      rw [hkx, ek] at hy
      clear hkl ek hkx
      gi_wp2
      refine hR.mono ?_
      rintro e W3 (⟨rfl, hJ3, hk3⟩ | ⟨rfl, hJx3⟩)
      · gi_wp2
        go_roundw
        case rel => exact ⟨k + 1, by omega, by go_num, by rw [HT.out]; exact hJ3, hnx.trans hk3⟩
        case measure => simp [intOf]; omega
      · gi_wp2
        refine bodyPost_ret (results_none rfl _ _ _) rfl ?_
        exact ⟨⟨_, rfl⟩, .inr ⟨ls.take k ++ [x], by rw [← HT.out]; exact List.take_prefix _ _, hJx3⟩⟩
    · obtain rfl : k = 9 := by omega
      have e9 : ls.take 9 = ls := List.take_of_length_le (by have := congrArg List.length hls; rw [List.length_map] at this; exact Nat.le_of_eq this)
      rw [e9] at hJs
      gi_wp2
      go_end0
      exact ⟨⟨_, rfl⟩, .inl ⟨_, rfl, hJs⟩⟩
theorem names1g_stops {α : Type} (kf : α → Nat) (ls : List α) (hls : ls.map kf = kinds9) (F : Fence) (n : Nat) (hF : F.fn 141) (hro : F.round = none) (hn : 1 ≤ n) (Bs lo hi : Nat) (v : Value) (w : World) (hBn : Bs < w.heap.size) (hhi : hi ≤ w.heap.size)
    (hc : w.cell? ⟨Bs, 0, none⟩ = some v) (hE : Ss lo hi w v names9) :
    SeqStopsK F n Tryz.prog 141 #[.pointer (some ⟨Bs, 0, none⟩)] (fun x : α => #[.int .i64 (kf x : Int), .string (str (nameA (kf x)))]) (Between lo hi) (fun ys => ys = ls) (fun pre => pre <+: ls) 9 w := fun l J Jx W hW _ _ hY h0 =>
  names1g_in kf ls hls F n hF hro hn l Bs lo hi v J Jx hY W ((hW.cell (p := ⟨Bs, 0, none⟩) hBn).trans hc) (hE.keep (Between.of_below (hW.mono hhi))) h0
/-- The kinds. -/
abbrev K19 := {x : Nat // 1 ≤ x ∧ x ≤ 9}
def kinds19 : List K19 := [⟨1, by decide⟩, ⟨2, by decide⟩, ⟨3, by decide⟩, ⟨4, by decide⟩, ⟨5, by decide⟩, ⟨6, by decide⟩, ⟨7, by decide⟩, ⟨8, by decide⟩, ⟨9, by decide⟩]
theorem kinds19_val : kinds19.map Subtype.val = kinds9 := rfl
theorem csplit_own (s : List UInt8) (w : World) (hs : s.length ≤ 1000000) (E : Env w) :
    Calls Tryz.prog 83 #[.string (str s), .string ⟨#[32]⟩] w fun e w' => (∃ v, e = .returned v ∧ w'.ownsRow w.heap.size 9 1 v (splitOn 32 s).length ((splitOn 32 s).map Sv)) ∧ Below w.heap.size w w' := by
  obtain ⟨m, hm⟩ := E.maxlen
  refine (Tryz.strings_Split (str s) (str [32]) m w (by rw [str_size]; omega) hm (by rw [str_size]; simp)).mono fun e w' ⟨he, hw⟩ => ?_
  rw [splitB_str] at hw
  have hlen : Lib.countB (str s) (str [32]) + 1 = (splitOn 32 s).length := by
    have h := Lib.splitB_all (str [32]) (by rw [str_size]; simp) 0 _ (str s) rfl
    rw [splitB_str, List.length_map] at h; omega
  rw [hlen] at he
  refine ⟨⟨_, he, ?_⟩, by rw [hw]; exact (Below.refl _ _).alloc (Nat.le_refl _) _⟩
  rw [hw, List.map_map]
  have := World.ownsRow_lit (base := w.heap.size) (e := 9) (size := 1) w ((splitOn 32 s).map Sv).toArray (splitOn 32 s).length (Nat.le_refl _) (by have := (splitOn_len 32 s).1; unfold maxLen; omega) (by simp)
  exact this
end Go.Proofs.YtfbangojgjcbcaaGreatDoor
namespace Go.Proofs.YtfbangojgjcbcaaGreatDoor
open Go.RowKit Pl Go.Shelf
attribute [local go_sem] Oper.semAt_some
def ActOfRes (r : Option ActP) (e : Ending) (w' : World) : Prop := match r with
  | some a => ∃ bv, e = .returned (.tuple #[actV a bv, .int .i64 0]) ∧ Bs w' bv a.bytes
  | none => e = .returned (.tuple #[actV { kind := 0 } (.slice none 0 0), .int .i64 4])
/-- The same; and its bytes lie in new memory. -/
def ActOfFrom (r : Option ActP) (base : Nat) (e : Ending) (w' : World) : Prop := match r with
  | some a => ∃ bv, e = .returned (.tuple #[actV a bv, .int .i64 0]) ∧ Bs w' bv a.bytes ∧ BlkFrom base bv
  | none => e = .returned (.tuple #[actV { kind := 0 } (.slice none 0 0), .int .i64 4])
theorem ActOfFrom.res {r : Option ActP} {base : Nat} {e : Ending} {w' : World} (h : ActOfFrom r base e w') : ActOfRes r e w' := by
  cases r with
  | none => exact h
  | some a => obtain ⟨bv, h1, h2, _⟩ := h; exact ⟨bv, h1, h2⟩
theorem wd_pad : ∀ (l : List (List UInt8)) (i : Nat), wd (l ++ [[], [], [], [], []]) i = wd l i
  | [], 0 | [], 1 | [], 2 | [], 3 | [], 4 => rfl
  | [], _ + 5 => rfl
  | _ :: _, 0 => rfl
  | _ :: l, i + 1 => wd_pad l i
theorem Bsl {w : World} {base g c : Nat} {ws : List (List UInt8)} {n : Nat} (h : w.ownsRow base 9 1 (.slice (some ⟨g, 0, none⟩) n c) ws.length (ws.map Sv)) : ws.length ≤ c ∧ ∀ j x, ws[j]? = some x → w.cell? ⟨g, j, none⟩ = some (.string (str x)) := by
  constructor
  · rcases h.2 with ⟨h', _⟩ | ⟨g', cap', cur, h', _, _, hnc, _⟩
    · cases h'
    · injection h' with _ _ h'; subst h'; exact hnc
  · intro j x hx
    have := h.cells (g := g) rfl j (Sv x) (by rw [List.getElem?_map, hx]; rfl)
    rw [show ((⟨g, 0, none⟩ : Addr).add j) = ⟨g, 0 + j, none⟩ from by unfold Addr.add; by_cases hj : j = 0 <;> simp [hj], Nat.zero_add] at this
    exact this
/-- None of these kinds tells an act of the text. -/
def NoAct (ws : List (List UInt8)) (s : List UInt8) (pre : List K19) : Prop := ∀ x ∈ pre, ¬ (wd ws 0 = nameA x.val ∧ isA (guessA numC x.val ws) s = true)
theorem NoAct.snoc {ws : List (List UInt8)} {s : List UInt8} {pre : List K19} {x : K19} (h : NoAct ws s pre) (hx : ¬ (wd ws 0 = nameA x.val ∧ isA (guessA numC x.val ws) s = true)) : NoAct ws s (pre ++ [x]) := by
  intro y hy
  rcases List.mem_append.1 hy with h' | h'
  · exact h y h'
  · simp only [List.mem_singleton] at h'
    rw [h']; exact hx
theorem kindA_name {x : Nat} (h1 : 1 ≤ x) (h9 : x ≤ 9) : kindA (nameA x) = some x := by
  rcases (by omega : x = 1 ∨ x = 2 ∨ x = 3 ∨ x = 4 ∨ x = 5 ∨ x = 6 ∨ x = 7 ∨ x = 8 ∨ x = 9) with rfl | rfl | rfl | rfl | rfl | rfl | rfl | rfl | rfl <;> decide
theorem guess_pad {f : List UInt8 → Int} {ws vs : List (List UInt8)} (h : ∀ i, wd ws i = wd vs i) (k : Nat) : guessA f k ws = guessA f k vs := by
  unfold guessA
  split <;> simp only [h]
theorem actC_of (ws : List (List UInt8)) (s : List UInt8) (x : K19) (hw : ∀ i, wd ws i = wd (splitOn 32 s) i) (h0 : wd ws 0 = nameA x.val) (h : isA (guessA numC x.val ws) s = true) : actC s = some (guessA numC x.val ws) := by
  unfold actC actW
  rw [← hw 0, h0, kindA_name x.2.1 x.2.2]
  simp only
  rw [← guess_pad hw, if_pos h]
theorem actC_none (ws : List (List UInt8)) (s : List UInt8) (hw : ∀ i, wd ws i = wd (splitOn 32 s) i) (h : NoAct ws s kinds19) : actC s = none := by
  unfold actC actW
  rw [← hw 0]
  cases hk : kindA (wd ws 0) with
  | none => rfl
  | some k =>
    obtain ⟨h1, h9, hn⟩ := kindA_le hk
    simp only
    have hm : (⟨k, h1, h9⟩ : K19) ∈ kinds19 := by
      rcases (by omega : k = 1 ∨ k = 2 ∨ k = 3 ∨ k = 4 ∨ k = 5 ∨ k = 6 ∨ k = 7 ∨ k = 8 ∨ k = 9) with rfl | rfl | rfl | rfl | rfl | rfl | rfl | rfl | rfl <;> simp [kinds19]
    have := h _ hm
    rw [← guess_pad hw, if_neg (fun hi => this ⟨hn, hi⟩)]
theorem unhex_len : ∀ (l m : List UInt8), unhex l = some m → m.length ≤ l.length
  | [], m, h => by simp [unhex] at h; subst h; simp
  | [_], m, h => by simp [unhex] at h
  | a :: b :: t, m, h => by
    unfold unhex at h
    split at h
    · cases hu : unhex t with
      | none => rw [hu] at h; simp at h
      | some r =>
        rw [hu] at h
        have := unhex_len t r hu
        simp at h
        subst h
        simp; omega
    · cases h
theorem unhexD_len (l : List UInt8) : (unhexD l).length ≤ l.length := by
  unfold unhexD
  cases h : unhex l with
  | none => simp
  | some m => exact unhex_len l m h
theorem guess_bytes (k : Nat) (ws : List (List UInt8)) (h : ∀ x ∈ ws, x.length ≤ 100000) : (guessA numC k ws).bytes.length ≤ 100000 := by
  have hw : (wd ws 2).length ≤ 100000 := by
    unfold wd
    rw [List.getD_eq_getElem?_getD]
    cases hx : ws[2]? with
    | none => simp
    | some y => exact h y (List.mem_of_getElem? hx)
  have hu : (unhexD (wd ws 2)).length ≤ (wd ws 2).length := unhexD_len _
  unfold guessA
  split <;> simp <;> omega
theorem box9 {W : World} {g : Nat} {t : TypeId} {x0 x1 x2 x3 x4 x5 x6 x7 x8 : Value} (h : Whole W g t #[x0, x1, x2, x3, x4, x5, x6, x7, x8]) (a0 a1 a2 a3 a4 a5 a6 a7 a8 : Value) :
    Whole (((((((((W.setCell ⟨g, 0, none⟩ a0).setCell ⟨g, 1, none⟩ a1).setCell ⟨g, 2, none⟩ a2).setCell ⟨g, 3, none⟩ a3).setCell ⟨g, 4, none⟩ a4).setCell ⟨g, 5, none⟩ a5).setCell ⟨g, 6, none⟩ a6).setCell ⟨g, 7, none⟩ a7).setCell ⟨g, 8, none⟩ a8) g t #[a0, a1, a2, a3, a4, a5, a6, a7, a8] := by
  have := ((((((((h.set 0 a0).set 1 a1).set 2 a2).set 3 a3).set 4 a4).set 5 a5).set 6 a6).set 7 a7).set 8 a8
  simp only [List.setIfInBounds_toArray, List.set_cons_zero, List.set_cons_succ] at this
  exact this
theorem far9 {W : World} {g b : Nat} {t : TypeId} {cs : Array Value} (h : Whole W g t cs) (hb : g ≠ b) (a0 a1 a2 a3 a4 a5 a6 a7 a8 : Value) :
    Whole (((((((((W.setCell ⟨b, 0, none⟩ a0).setCell ⟨b, 1, none⟩ a1).setCell ⟨b, 2, none⟩ a2).setCell ⟨b, 3, none⟩ a3).setCell ⟨b, 4, none⟩ a4).setCell ⟨b, 5, none⟩ a5).setCell ⟨b, 6, none⟩ a6).setCell ⟨b, 7, none⟩ a7).setCell ⟨b, 8, none⟩ a8) g t cs :=
  ((((((((h.far (p := ⟨b, 0, none⟩) hb a0).far (p := ⟨b, 1, none⟩) hb a1).far (p := ⟨b, 2, none⟩) hb a2).far (p := ⟨b, 3, none⟩) hb a3).far (p := ⟨b, 4, none⟩) hb a4).far (p := ⟨b, 5, none⟩) hb a5).far (p := ⟨b, 6, none⟩) hb a6).far (p := ⟨b, 7, none⟩) hb a7).far (p := ⟨b, 8, none⟩) hb a8
theorem keeps9 (W : World) (g : Nat) (a0 a1 a2 a3 a4 a5 a6 a7 a8 : Value) :
    KeepsOthers W (((((((((W.setCell ⟨g, 0, none⟩ a0).setCell ⟨g, 1, none⟩ a1).setCell ⟨g, 2, none⟩ a2).setCell ⟨g, 3, none⟩ a3).setCell ⟨g, 4, none⟩ a4).setCell ⟨g, 5, none⟩ a5).setCell ⟨g, 6, none⟩ a6).setCell ⟨g, 7, none⟩ a7).setCell ⟨g, 8, none⟩ a8) :=
  ((((((((KeepsOthers.setCell _ _ _).trans (KeepsOthers.setCell _ _ _)).trans (KeepsOthers.setCell _ _ _)).trans (KeepsOthers.setCell _ _ _)).trans (KeepsOthers.setCell _ _ _)).trans (KeepsOthers.setCell _ _ _)).trans (KeepsOthers.setCell _ _ _)).trans (KeepsOthers.setCell _ _ _)).trans (KeepsOthers.setCell _ _ _)
/-- The results' cells, once a round has left. -/
def ActOut (s : List UInt8) (H : Nat) (w : World) (c : Code) (W : World) : Prop := c = .ret ∧ ∃ a A n k, actC s = some a ∧ Whole W (H + 1) 51 #[.int .i64 a.kind, .int .i64 a.node, .int .i64 a.port, .int .i64 a.cost, .int .i64 a.n, .bool a.up, .int .u8 (a.by_.toNat : Int), .bool a.unread, .slice A n k] ∧
  Whole W (H + 2) 29 #[.int .i64 0] ∧ Bs W (.slice A n k) a.bytes ∧ Below w.heap.size w W ∧ BlkFrom w.heap.size (.slice A n k)
theorem Bs.kept {X Y : World} {v : Value} {l : List UInt8} {row : Option Nat} (h : Bs X v l) (hg : X.grownBy Y row) (hr : ∀ r, row = some r → ∃ o : Obj, X.heap[r]? = some o ∧ o.isCells = false) : Bs Y v l := by
  obtain ⟨A, c, rfl, hc, hn, hA⟩ := h
  refine ⟨A, c, rfl, hc, hn, fun hp => ?_⟩
  obtain ⟨b, off, rfl, hb, hcell⟩ := hA hp
  exact ⟨b, off, rfl, Nat.lt_of_lt_of_le hb hg.size, fun j u hu => cell_kept (hcell j u hu) hg hr⟩
theorem ActOut.own {s : List UInt8} {H B : Nat} {w : World} {c : Code} {X Y : World} {row : Option Nat} (hB : w.heap.size ≤ B) (h : ActOut s H w c X) (hg : X.grownBy Y row) (hr : ∀ r, row = some r → B ≤ r ∧ ∃ o : Obj, X.heap[r]? = some o ∧ o.isCells = false) : ActOut s H w c Y := by
  obtain ⟨hc, a, A, n, k, h1, h2, h3, h4, h5, h6⟩ := h
  exact ⟨hc, a, A, n, k, h1, whole_own _ _ (fun _ : Unit => _) () X Y row h2 hg (fun r e => (hr r e).2), whole_own _ _ (fun _ : Unit => _) () X Y row h3 hg (fun r e => (hr r e).2), h4.kept hg (fun r e => (hr r e).2), ownFrom_below (β := Unit) (Nat.le_refl _) hB () X Y row h5 hg hr, h6⟩
set_option maxRecDepth 100000 in
set_option maxHeartbeats 8000000 in
theorem cactOf_from (s : List UInt8) (w : World) (hs : s.length ≤ 100000) (E : Env w) :
    Calls Tryz.prog 36 #[.string (str s)] w fun e w' => ActOfFrom (actC s) w.heap.size e w' ∧ Below w.heap.size w w' := by
  obtain ⟨W0, hW0⟩ : ∃ W0, ((w.alloc (.cells #[.string (str s)] 9)).alloc (.cells #[.int .i64 0, .int .i64 0, .int .i64 0, .int .i64 0, .int .i64 0, .bool false, .int .u8 0, .bool false, .slice none 0 0] 51)).alloc (.cells #[.int .i64 0] 29) = W0 := ⟨_, rfl⟩
  have HB0 : Hid (Below w.heap.size w W0) := Lib.hid (by rw [← hW0]; exact (((Below.refl _ _).alloc (Nat.le_refl _) _).alloc (by simp) _).alloc (by simp; omega) _)
  have HXs : Hid (Whole W0 w.heap.size 9 #[.string (str s)]) := Lib.hid (by rw [← hW0]; exact ((Whole.new w _ _).alloc _).alloc _)
  have HXa : Hid (Whole W0 (w.heap.size + 1) 51 #[.int .i64 0, .int .i64 0, .int .i64 0, .int .i64 0, .int .i64 0, .bool false, .int .u8 0, .bool false, .slice none 0 0]) := Lib.hid (by
    rw [← hW0]
    have := (Whole.new (w.alloc (.cells #[.string (str s)] 9)) 51 #[.int .i64 0, .int .i64 0, .int .i64 0, .int .i64 0, .int .i64 0, .bool false, .int .u8 0, .bool false, .slice none 0 0]).alloc (.cells #[.int .i64 0] 29)
    simpa using this)
  have HXe : Hid (Whole W0 (w.heap.size + 2) 29 #[.int .i64 0]) := Lib.hid (by
    rw [← hW0]
    have := Whole.new ((w.alloc (.cells #[.string (str s)] 9)).alloc (.cells #[.int .i64 0, .int .i64 0, .int .i64 0, .int .i64 0, .int .i64 0, .bool false, .int .u8 0, .bool false, .slice none 0 0] 51)) 29 #[.int .i64 0]
    simpa using this)
  have hs0 : W0.heap.size = w.heap.size + 3 := by rw [← hW0]; simp
  have E0 := Lib.hid (E.here HB0.out)
  have HSP := Lib.hid (csplit_own s W0 (by omega) E0.out)
  have hws := (splitOn_len 32 s).1
  have HWL := Lib.hid (splitOn_len 32 s).2
  have HW0 := Lib.hid hW0
  have ys : W0.cell? ⟨w.heap.size, 0, none⟩ = some (.string (str s)) := HXs.out.cell 0
  have hlt0 : w.heap.size < W0.heap.size := by omega
  clear hW0 E
  refine (callsIn_wide (n := 3)).1 ?_
  refine callsIn_of_wp_marks Tryz.func36 rfl trivial ?_ rfl
  simp only [Tryz.ntmps36, List.size_toArray, List.length_cons, List.length_nil, Nat.reduceAdd, Nat.reduceSub, Array.replicate_succ, Array.replicate_zero, List.push_toArray, List.append_toArray, List.nil_append, List.cons_append]
  gi_wp2
  rw [HW0.out]
  refine ⟨trivial, (callsIn_wide.2 HSP.out).mono ?_⟩
  rintro e w1 ⟨⟨v, rfl, hown⟩, hb1⟩
  obtain ⟨g1, cap1, rfl, -, hg1⟩ := hown.form (by have := splitOn_ne 32 s; exact List.length_pos_iff.2 this)
  have HO1 := Lib.hid hown
  have HB1 := Lib.hid hb1
  have hs1 := hb1.size
  obtain ⟨i0, hi0, hz0, hz1, hz2⟩ := info_parts info_str
  clear hown hb1
  gi_wp2_with (gi_at_builtin; refine wpListIn_append_own _ rfl _ _ 40 rfl W0.heap.size 9 i0 (.string ⟨#[]⟩) 1 16 Tryz.underlying40 hi0 hz0 hz1 hz2 rfl (by decide) _ _ _ rfl (HO1.out.alloc _) ⟨w1.heap.size, 0, none⟩ 5 5 [.string ⟨#[]⟩, .string ⟨#[]⟩, .string ⟨#[]⟩, .string ⟨#[]⟩, .string ⟨#[]⟩] rfl rfl (World.news_of_block (heap_alloc_new w1 _)) (by intro y hy; simp at hy; subst hy; rfl) (by unfold maxLen; omega) (by omega) (by simp; omega) ?_)
  intro v' w2 hown2 hgr _
  obtain ⟨g2, cap2, rfl, -, hg2⟩ := hown2.form (by omega)
  obtain ⟨ws, hws2⟩ : ∃ ws, splitOn 32 s ++ [[], [], [], [], []] = ws := ⟨_, rfl⟩
  have hwl : ws.length = (splitOn 32 s).length + 5 := by rw [← hws2]; simp
  have hmp : (splitOn 32 s).map Sv ++ [.string ⟨#[]⟩, .string ⟨#[]⟩, .string ⟨#[]⟩, .string ⟨#[]⟩, .string ⟨#[]⟩] = ws.map Sv := by rw [← hws2, List.map_append]; rfl
  rw [hmp, ← hwl] at hown2
  have hb2 : Below W0.heap.size W0 w2 := (HB1.out.alloc hs1 _).grown hgr (by simp; omega) (fun g hg => (HO1.out.lt g hg).1)
  have hwd2 : Wds w2 g2 ws.length cap2 ws := by
    have hn := Bsl hown2
    exact ⟨rfl, hn.1, hg2, fun j x hx => hn.2 j x hx⟩
  have hcw : ∀ i, wd ws i = wd (splitOn 32 s) i := fun i => by rw [← hws2]; exact wd_pad _ _
  have hlw : ∀ x ∈ ws, x.length ≤ 100000 := fun x hx => by
    rw [← hws2] at hx
    rcases List.mem_append.1 hx with h | h
    · exact Nat.le_trans (HWL.out x h) hs
    · simp only [List.mem_cons, List.not_mem_nil, or_false, or_self] at h
      rw [h]; simp
  have hw5 : 5 ≤ ws.length := by omega
  have hwn : ws.length ≤ 1000000 := by omega
  have HCW := Lib.hid hcw
  have HLW := Lib.hid hlw
  obtain ⟨W2, hW2⟩ : ∃ W2, w2.alloc (.cells #[.slice (some ⟨g2, 0, none⟩) ws.length cap2] 40) = W2 := ⟨_, rfl⟩
  have HB2 : Hid (Below W0.heap.size W0 W2) := Lib.hid (by rw [← hW2]; exact hb2.alloc hb2.size _)
  have HWB : Hid (Whole W2 w2.heap.size 40 #[.slice (some ⟨g2, 0, none⟩) ws.length cap2]) := Lib.hid (by rw [← hW2]; exact Whole.new _ _ _)
  have HWD : Hid (Wds W2 g2 ws.length cap2 ws) := Lib.hid (by rw [← hW2]; exact hwd2.here ((Below.refl _ _).alloc (Nat.le_refl _) _))
  have hn5 : (splitOn 32 s).length + 5 = ws.length := hwl.symm
  have HW2 := Lib.hid hW2
  obtain ⟨Bw, hBw⟩ : ∃ Bw, w2.heap.size = Bw := ⟨_, rfl⟩
  rw [hBw] at HWB
  have HBw := Lib.hid hBw
  have hBw0 : W0.heap.size ≤ Bw := by have := hb2.size; omega
  have HN5 := Lib.hid hn5
  clear hown2 hgr hws2 hwl hmp hb2 hwd2 hcw hlw hW2 hBw hn5
  gi_wp2
  rw [HN5.out, HBw.out, HW2.out]
  refine ⟨trivial, (callsIn_wide.2 (names_any W2)).mono ?_⟩
  rintro e W3 ⟨⟨Bq, vs, rfl, ⟨hlo, hBq⟩, hc, hS⟩, hb3⟩
  have HB3 : Hid (Below W0.heap.size W0 W3) := Lib.hid (HB2.out.trans (hb3.mono HB2.out.size))
  have HS := Lib.hid hS
  have HXs3 := Lib.hid (HXs.out.here HB3.out)
  have HXa3 := Lib.hid (HXa.out.here HB3.out)
  have HXe3 := Lib.hid (HXe.out.here HB3.out)
  have HWB3 := Lib.hid (HWB.out.here hb3)
  have HWD3 := Lib.hid (HWD.out.here hb3)
  have E3 := Lib.hid (E0.out.here HB3.out)
  have hs3 := HB3.out.size
  have hBw3 := HWB3.out.lt
  have hg3 := HWD3.out.lt
  clear hb3 hS
  gi_wp2
  refine wpIn_rangeFunc_ownH (F := Fence.wide) rfl (by decide) (gf := 141) (lb := #[.pointer (some ⟨Bq, 0, none⟩)]) rfl trivial (enters_of Tryz.func141 (by kernel_rfl) rfl)
    (names1g_stops (Subtype.val : K19 → Nat) kinds19 kinds19_val Fence.wide 2 trivial rfl (by decide) Bq W2.heap.size W3.heap.size vs W3 hBq (Nat.le_refl _) hc HS.out) Between.trans (fun W l o o' hl _ _ _ => Between.put hl) (Below.refl _ _) (fun _ => rfl)
    (fun pre W => Below W3.heap.size W3 W ∧ NoAct ws s pre)
    (fun c _ W => ActOut s w.heap.size w c W)
    (OwnFrom.and (ownFrom_below (Nat.le_refl _) (Nat.le_refl _)) (fun _ _ _ _ h _ _ => h))
    (fun c _ X Y row hs hg hr => ActOut.own (by omega) hs hg hr)
    ⟨Below.refl _ _, fun x hx => by cases hx⟩
    (fun x a' _ => ∃ u7 u13 u14 u15 u16 u17 u18 u19 u20 u21 u22 u23 u24 u25 u26 u27 u28 u29 u30 u31 u32, a' = { tmps := #[.string (str s), .pointer (some ⟨w.heap.size, 0, none⟩), .pointer (some ⟨w.heap.size + 1, 0, none⟩), .pointer (some ⟨w.heap.size + 2, 0, none⟩), .pointer (some ⟨Bw, 0, none⟩), .int .i64 (x.val : Int), .string (str (nameA x.val)), u7, .string (str s), .slice (some ⟨g1, 0, none⟩) (splitOn 32 s).length cap1, .slice (some ⟨w1.heap.size, 0, none⟩) 5 5, .slice (some ⟨g2, 0, none⟩) ws.length cap2, .func (.func 141) #[] #[.pointer (some ⟨Bq, 0, none⟩)], u13, u14, u15, u16, u17, u18, u19, u20, u21, u22, u23, u24, u25, u26, u27, u28, u29, u30, u31, u32], defers := [] })
    (fun x a' _ X Y row hs hg hr => hs)
    ?assign ?body ?done ?stop
  case assign =>
    rintro l pre x W K hI hK
    gi_wp2
    exact hK _ _ ((KeepsOthers.refl _).from _) (Between.refl W) hI ⟨_, _, _, _, _, _, _, _, _, _, _, _, _, _, _, _, _, _, _, _, _, rfl⟩
  case body =>
    rintro l pre x a' W hl _ ⟨hB, hno⟩ ⟨u7, u13, u14, u15, u16, u17, u18, u19, u20, u21, u22, u23, u24, u25, u26, u27, u28, u29, u30, u31, u32, rfl⟩ hlt
    have hsW := hB.size
    have HB := Lib.hid hB
    have hWDW := HWD3.out.here hB
    obtain ⟨x0, hx0⟩ : ∃ y, ws[0]? = some y := ⟨_, List.getElem?_eq_getElem (by omega)⟩
    have hwd0 : wd ws 0 = x0 := by unfold wd; rw [List.getD_eq_getElem?_getD, hx0]; rfl
    have c0 : W.cell? ⟨g2, 0, none⟩ = some (.string (str x0)) := hWDW.at_ 0 _ hx0
    have cB : W.cell? ⟨Bw, 0, none⟩ = some (.slice (some ⟨g2, 0, none⟩) ws.length cap2) := (HWB3.out.here hB).cell 0
    have cs : W.cell? ⟨w.heap.size, 0, none⟩ = some (.string (str s)) := (HXs3.out.here hB).cell 0
    have HNO := Lib.hid hno
    have HX0 := Lib.hid hwd0
    have hwi : (0 : Int) < (ws.length : Int) := by omega
    have hwc : (ws.length : Int) ≤ (cap2 : Int) := by have := hWDW.cap; omega
    have hgW : g2 < W.heap.size := by omega
    have hbW : Bw < W.heap.size := by omega
    have hsW0 : w.heap.size < W.heap.size := by omega
    clear hB hno hx0 hwd0
    by_cases he : nameA x.val = x0
    · have l1 := str_eq_true he
      have l2 : (!(str (nameA x.val)).toList == (str x0).toList) = false := by rw [l1]; rfl
      have HE := Lib.hid he
      have HG := Lib.hid (guess_any x.val x.2.1 x.2.2 g2 ws.length cap2 ws W hWDW hw5 (fun y hy => Nat.le_trans (HLW.out y hy) (by omega)) (by omega) (E3.out.here HB.out))
      clear he l1 hWDW
      gi_wp2
      refine ⟨trivial, CallsIn.inRound l ((callsIn_wide.2 HG.out).mono ?_)⟩
      rintro e w4 ⟨⟨bv, rfl, hbv, hbf⟩, hb4⟩
      have HBF := Lib.hid hbf
      clear hbf
      have hin := guess_in (f := numC) numC_in x.val x.2.2 ws
      have hgk := guess_kind numC (k := x.val) ws
      have hgb := guess_bytes x.val ws (HLW.out)
      have HGA : Hid (isA (guessA numC x.val ws) s = (mayA (guessA numC x.val ws) && decide (actText (guessA numC x.val ws) = s))) := Lib.hid rfl
      have HACT : Hid (isA (guessA numC x.val ws) s = true → actC s = some (guessA numC x.val ws)) := Lib.hid (fun h => actC_of ws s x (fun i => HCW.out i) (by rw [HX0.out, HE.out]) h)
      have HFIN : Hid (isA (guessA numC x.val ws) s = false → NoAct ws s (pre ++ [x])) := Lib.hid (fun h => HNO.out.snoc (fun ⟨_, h2⟩ => by rw [h] at h2; cases h2))
      obtain ⟨isA', hisA⟩ : ∃ b, isA (guessA numC x.val ws) s = b := ⟨_, rfl⟩
      rw [hisA] at HGA HACT HFIN
      generalize guessA numC x.val ws = a at *
      obtain ⟨A, c, rfl, -⟩ := id hbv
      have HBV := Lib.hid hbv
      have HK9 : Hid (K9 a) := Lib.hid ⟨by rw [hgk]; have := x.2.1; omega, by rw [hgk]; have := x.2.2; omega⟩
      have HIA := Lib.hid hin
      have HB4 := Lib.hid (HB.out.trans (hb4.mono hsW))
      have hs4 := hb4.size
      obtain ⟨W4, hW4⟩ : ∃ W4, w4.alloc (.cells #[.int .i64 a.kind, .int .i64 a.node, .int .i64 a.port, .int .i64 a.cost, .int .i64 a.n, .bool a.up, .int .u8 (a.by_.toNat : Int), .bool a.unread, .slice A a.bytes.length c] 51) = W4 := ⟨_, rfl⟩
      have HP4 : Hid (Whole W4 w4.heap.size 51 #[.int .i64 a.kind, .int .i64 a.node, .int .i64 a.port, .int .i64 a.cost, .int .i64 a.n, .bool a.up, .int .u8 (a.by_.toNat : Int), .bool a.unread, .slice A a.bytes.length c]) := Lib.hid (by rw [← hW4]; exact Whole.new _ _ _)
      have HB5 : Hid (Below W3.heap.size W3 W4) := Lib.hid (by rw [← hW4]; exact HB4.out.alloc (by omega) _)
      have HK5 : Hid (KeepsOthers W W4) := Lib.hid (by rw [← hW4]; exact (keeps_below hb4).trans (KeepsOthers.alloc _ _))
      have HBW4 : Hid (Below W.heap.size W W4) := Lib.hid (by rw [← hW4]; exact hb4.alloc hs4 _)
      have HBV5 : Hid (Bs W4 (.slice A a.bytes.length c) a.bytes) := Lib.hid (by rw [← hW4]; exact HBV.out.alloc _)
      have HW4 := Lib.hid hW4
      have v0 : W4.cell? ⟨w4.heap.size, 0, none⟩ = some (.int .i64 a.kind) := HP4.out.cell 0
      have v1 : W4.cell? ⟨w4.heap.size, 1, none⟩ = some (.int .i64 a.node) := HP4.out.cell 1
      have v2 : W4.cell? ⟨w4.heap.size, 2, none⟩ = some (.int .i64 a.port) := HP4.out.cell 2
      have v3 : W4.cell? ⟨w4.heap.size, 3, none⟩ = some (.int .i64 a.cost) := HP4.out.cell 3
      have v4 : W4.cell? ⟨w4.heap.size, 4, none⟩ = some (.int .i64 a.n) := HP4.out.cell 4
      have v5 : W4.cell? ⟨w4.heap.size, 5, none⟩ = some (.bool a.up) := HP4.out.cell 5
      have v6 : W4.cell? ⟨w4.heap.size, 6, none⟩ = some (.int .u8 (a.by_.toNat : Int)) := HP4.out.cell 6
      have v7 : W4.cell? ⟨w4.heap.size, 7, none⟩ = some (.bool a.unread) := HP4.out.cell 7
      have v8 : W4.cell? ⟨w4.heap.size, 8, none⟩ = some (.slice A a.bytes.length c) := HP4.out.cell 8
      have cs4 : W4.cell? ⟨w.heap.size, 0, none⟩ = some (.string (str s)) := (HXs3.out.here HB5.out).cell 0
      have hp4 : w4.heap.size < W4.heap.size := HP4.out.lt
      have hs44 : w.heap.size < W4.heap.size := by omega
      have E4 := Lib.hid (E3.out.here HB5.out)
      have HMY : Hid (∀ y : Ext W4, Calls Tryz.prog 31 #[.agg #[.int .i64 a.kind, .int .i64 a.node, .int .i64 a.port, .int .i64 a.cost, .int .i64 a.n, .bool a.up, .int .u8 (a.by_.toNat : Int), .bool a.unread, .slice A a.bytes.length c]] y.w fun e w' => e = .returned (.bool (mayA a)) ∧ Below y.w.heap.size y.w w') := Lib.hid (fun y => cmayAct_any a _ y.w (HBV5.out.below y.below) (by omega))
      have HTX : Hid (∀ y : Ext W4, Calls Tryz.prog 75 #[.agg #[.int .i64 a.kind, .int .i64 a.node, .int .i64 a.port, .int .i64 a.cost, .int .i64 a.n, .bool a.up, .int .u8 (a.by_.toNat : Int), .bool a.unread, .slice A a.bytes.length c]] y.w fun e w' => e = .returned (.string (str (actText a))) ∧ Below y.w.heap.size y.w w') := Lib.hid (fun y => cactText_any a _ y.w HK9.out (HBV5.out.below y.below) HIA.out (by omega) (E4.out.here y.below))
      clear hbv hin hgk hb4 hW4 c0 cB cs
      cases hm : mayA a with
      | false =>
        rw [hm] at HMY HGA
        gi_wp2
        rw [HW4.out]
        refine wpIn_region_ext (by kernel_rfl) (by kernel_rfl) (by kernel_rfl) ?_
        repeat (go_big_quiet_step (first | (go_at_call 31; exact Ext.call (HMY.out _))))
        refine wpQuiet_nil ?_
        rintro _ ⟨y, rfl⟩
        gi_wp2
        exact ⟨(HK5.out.trans (keeps_below y.below)).from _, Between.of_below ((HBW4.out.trans (y.below.mono HBW4.out.size)).mono hsW), HB5.out.trans (y.below.mono (by omega)), HFIN.out (by rw [HGA.out]; rfl)⟩
      | true =>
        rw [hm] at HMY HGA
        by_cases ht : actText a = s
        · have q1 := str_eq_true ht
          have HT : Hid (isA' = true) := Lib.hid (by rw [HGA.out, decide_eq_true ht]; rfl)
          clear ht
          gi_wp2
          rw [HW4.out]
          refine wpIn_region_ext (by kernel_rfl) (by kernel_rfl) (by kernel_rfl) ?_
          repeat (go_big_quiet_step (first | (go_at_call 31; exact Ext.call (HMY.out _)) | (go_at_call 75; exact Ext.call (HTX.out _))))
          refine wpQuiet_nil ?_
          rintro _ ⟨y, rfl⟩
          have HYB := Lib.hid (HB5.out.trans (y.below.mono (by omega)))
          have hra := HXa3.out.here HYB.out
          have hre := HXe3.out.here HYB.out
          have HRA := Lib.hid hra
          have HRE := Lib.hid hre
          have z0 : y.w.cell? ⟨w.heap.size + 1, 0, none⟩ = some (.int .i64 0) := hra.cell 0
          have fz0 : y.w.frozen? ⟨w.heap.size + 1, 0, none⟩ = false := hra.frozen 0
          have z1 : y.w.cell? ⟨w.heap.size + 1, 1, none⟩ = some (.int .i64 0) := hra.cell 1
          have fz1 : y.w.frozen? ⟨w.heap.size + 1, 1, none⟩ = false := hra.frozen 1
          have z2 : y.w.cell? ⟨w.heap.size + 1, 2, none⟩ = some (.int .i64 0) := hra.cell 2
          have fz2 : y.w.frozen? ⟨w.heap.size + 1, 2, none⟩ = false := hra.frozen 2
          have z3 : y.w.cell? ⟨w.heap.size + 1, 3, none⟩ = some (.int .i64 0) := hra.cell 3
          have fz3 : y.w.frozen? ⟨w.heap.size + 1, 3, none⟩ = false := hra.frozen 3
          have z4 : y.w.cell? ⟨w.heap.size + 1, 4, none⟩ = some (.int .i64 0) := hra.cell 4
          have fz4 : y.w.frozen? ⟨w.heap.size + 1, 4, none⟩ = false := hra.frozen 4
          have z5 : y.w.cell? ⟨w.heap.size + 1, 5, none⟩ = some (.bool false) := hra.cell 5
          have fz5 : y.w.frozen? ⟨w.heap.size + 1, 5, none⟩ = false := hra.frozen 5
          have z6 : y.w.cell? ⟨w.heap.size + 1, 6, none⟩ = some (.int .u8 0) := hra.cell 6
          have fz6 : y.w.frozen? ⟨w.heap.size + 1, 6, none⟩ = false := hra.frozen 6
          have z7 : y.w.cell? ⟨w.heap.size + 1, 7, none⟩ = some (.bool false) := hra.cell 7
          have fz7 : y.w.frozen? ⟨w.heap.size + 1, 7, none⟩ = false := hra.frozen 7
          have z8 : y.w.cell? ⟨w.heap.size + 1, 8, none⟩ = some (.slice none 0 0) := hra.cell 8
          have fz8 : y.w.frozen? ⟨w.heap.size + 1, 8, none⟩ = false := hra.frozen 8
          have ze : y.w.cell? ⟨w.heap.size + 2, 0, none⟩ = some (.int .i64 0) := hre.cell 0
          have fze : y.w.frozen? ⟨w.heap.size + 2, 0, none⟩ = false := hre.frozen 0
          clear hra hre
          gi_wp2
          refine ⟨KeepsOthers.from ?_ _, rfl, a, A, a.bytes.length, c, HACT.out HT.out, (box9 HRA.out _ _ _ _ _ _ _ _ _).far (p := ⟨w.heap.size + 2, 0, none⟩) (by simp) _, ?_, ?_, ?_, ?_⟩
          · refine (HK5.out.trans (keeps_below y.below)).trans ?_
            exact (keeps9 y.w (w.heap.size + 1) _ _ _ _ _ _ _ _ _).trans (KeepsOthers.setCell _ _ _)
          · have := far9 HRE.out (b := w.heap.size + 1) (by omega)
            exact (this _ _ _ _ _ _ _ _ _).set 0 _
          · have hw1 : w.heap.size + 1 < W.heap.size := by omega
            have hw2 : w.heap.size + 2 < W.heap.size := by omega
            exact (((((((((((HBV5.out.below y.below).far HBF.out hw1 _ _).far HBF.out hw1 _ _).far HBF.out hw1 _ _).far HBF.out hw1 _ _).far HBF.out hw1 _ _).far HBF.out hw1 _ _).far HBF.out hw1 _ _).far HBF.out hw1 _ _).far HBF.out hw1 _ _).far HBF.out hw2 _ _)
          · have hBy : Below w.heap.size w y.w := (HB0.out.trans (HB3.out.mono (by omega))).trans (HYB.out.mono (by omega))
            exact (set9 hBy (by omega) _ _ _ _ _ _ _ _ _).setCell (p := ⟨w.heap.size + 2, 0, none⟩) (by simp) _
          · exact fun b o n k e => by have := HBF.out b o n k e; omega
        · have q1 := str_eq_false ht
          have HT : Hid (isA' = false) := Lib.hid (by rw [HGA.out, decide_eq_false ht]; rfl)
          clear ht
          gi_wp2
          rw [HW4.out]
          refine wpIn_region_ext (by kernel_rfl) (by kernel_rfl) (by kernel_rfl) ?_
          repeat (go_big_quiet_step (first | (go_at_call 31; exact Ext.call (HMY.out _)) | (go_at_call 75; exact Ext.call (HTX.out _))))
          refine wpQuiet_nil ?_
          rintro _ ⟨y, rfl⟩
          gi_wp2
          exact ⟨(HK5.out.trans (keeps_below y.below)).from _, Between.of_below ((HBW4.out.trans (y.below.mono HBW4.out.size)).mono hsW), HB5.out.trans (y.below.mono (by omega)), HFIN.out HT.out⟩
    · have l1 := str_eq_false he
      have l2 : (!(str (nameA x.val)).toList == (str x0).toList) = true := by rw [l1]; rfl
      have HE := Lib.hid he
      clear he l1 hWDW
      gi_wp2
      exact ⟨(KeepsOthers.refl _).from _, Between.refl _, HB.out, HNO.out.snoc (fun h => HE.out (by rw [← h.1, HX0.out]))⟩
  case done =>
    rintro D ys W hD rfl ⟨hB, hno⟩ hKD
    have hz := hB.size
    have hra := HXa3.out.here hB
    have hre := HXe3.out.here hB
    have HRA := Lib.hid hra
    have HRE := Lib.hid hre
    have HAC := Lib.hid (actC_none ws s (fun i => HCW.out i) hno)
    have HBy : Hid (Below w.heap.size w W) := Lib.hid ((HB0.out.trans (HB3.out.mono (by omega))).trans (hB.mono (by omega)))
    have z0 : W.cell? ⟨w.heap.size + 1, 0, none⟩ = some (.int .i64 0) := hra.cell 0
    have fz0 : W.frozen? ⟨w.heap.size + 1, 0, none⟩ = false := hra.frozen 0
    have z1 : W.cell? ⟨w.heap.size + 1, 1, none⟩ = some (.int .i64 0) := hra.cell 1
    have fz1 : W.frozen? ⟨w.heap.size + 1, 1, none⟩ = false := hra.frozen 1
    have z2 : W.cell? ⟨w.heap.size + 1, 2, none⟩ = some (.int .i64 0) := hra.cell 2
    have fz2 : W.frozen? ⟨w.heap.size + 1, 2, none⟩ = false := hra.frozen 2
    have z3 : W.cell? ⟨w.heap.size + 1, 3, none⟩ = some (.int .i64 0) := hra.cell 3
    have fz3 : W.frozen? ⟨w.heap.size + 1, 3, none⟩ = false := hra.frozen 3
    have z4 : W.cell? ⟨w.heap.size + 1, 4, none⟩ = some (.int .i64 0) := hra.cell 4
    have fz4 : W.frozen? ⟨w.heap.size + 1, 4, none⟩ = false := hra.frozen 4
    have z5 : W.cell? ⟨w.heap.size + 1, 5, none⟩ = some (.bool false) := hra.cell 5
    have fz5 : W.frozen? ⟨w.heap.size + 1, 5, none⟩ = false := hra.frozen 5
    have z6 : W.cell? ⟨w.heap.size + 1, 6, none⟩ = some (.int .u8 0) := hra.cell 6
    have fz6 : W.frozen? ⟨w.heap.size + 1, 6, none⟩ = false := hra.frozen 6
    have z7 : W.cell? ⟨w.heap.size + 1, 7, none⟩ = some (.bool false) := hra.cell 7
    have fz7 : W.frozen? ⟨w.heap.size + 1, 7, none⟩ = false := hra.frozen 7
    have z8 : W.cell? ⟨w.heap.size + 1, 8, none⟩ = some (.slice none 0 0) := hra.cell 8
    have fz8 : W.frozen? ⟨w.heap.size + 1, 8, none⟩ = false := hra.frozen 8
    have ze : W.cell? ⟨w.heap.size + 2, 0, none⟩ = some (.int .i64 0) := hre.cell 0
    have fze : W.frozen? ⟨w.heap.size + 2, 0, none⟩ = false := hre.frozen 0
    clear hra hre hno hB
    gi_wp2
    obtain ⟨X, hX⟩ : ∃ X, (((((((((W.setCell ⟨w.heap.size + 1, 0, none⟩ (.int .i64 0)).setCell ⟨w.heap.size + 1, 1, none⟩ (.int .i64 0)).setCell ⟨w.heap.size + 1, 2, none⟩ (.int .i64 0)).setCell ⟨w.heap.size + 1, 3, none⟩ (.int .i64 0)).setCell ⟨w.heap.size + 1, 4, none⟩ (.int .i64 0)).setCell ⟨w.heap.size + 1, 5, none⟩ (.bool false)).setCell ⟨w.heap.size + 1, 6, none⟩ (.int .u8 0)).setCell ⟨w.heap.size + 1, 7, none⟩ (.bool false)).setCell ⟨w.heap.size + 1, 8, none⟩ (.slice none 0 0)).setCell ⟨w.heap.size + 1 + 1, 0, none⟩ (.int .i64 4) = X := ⟨_, rfl⟩
    have hra := (box9 HRA.out (.int .i64 0) (.int .i64 0) (.int .i64 0) (.int .i64 0) (.int .i64 0) (.bool false) (.int .u8 0) (.bool false) (.slice none 0 0)).far (p := ⟨w.heap.size + 1 + 1, 0, none⟩) (by simp) (.int .i64 4)
    have hre := (far9 HRE.out (b := w.heap.size + 1) (by omega) (.int .i64 0) (.int .i64 0) (.int .i64 0) (.int .i64 0) (.int .i64 0) (.bool false) (.int .u8 0) (.bool false) (.slice none 0 0)).set 0 (.int .i64 4)
    have hko := ((keeps9 W (w.heap.size + 1) (.int .i64 0) (.int .i64 0) (.int .i64 0) (.int .i64 0) (.int .i64 0) (.bool false) (.int .u8 0) (.bool false) (.slice none 0 0)).trans (KeepsOthers.setCell _ ⟨w.heap.size + 1 + 1, 0, none⟩ (.int .i64 4))).same D _ hKD rfl
    have hbx := (set9 HBy.out (b := w.heap.size + 1) (by omega) (.int .i64 0) (.int .i64 0) (.int .i64 0) (.int .i64 0) (.int .i64 0) (.bool false) (.int .u8 0) (.bool false) (.slice none 0 0)).setCell (p := ⟨w.heap.size + 1 + 1, 0, none⟩) (by simp; omega) (.int .i64 4)
    rw [hX] at hra hre hko hbx ⊢
    clear hX
    refine ⟨by simp, .inl ⟨_, _, rfl, run_takeDeferred hko, ?_⟩⟩
    have hra2 := hra.kept (grownBy_putObj' X D (.deferred none)) (fun e => by injection e with e; omega)
    have hre2 := hre.kept (grownBy_putObj' X D (.deferred none)) (fun e => by injection e with e; omega)
    have v0 : (X.putObj D (.deferred none)).cell? ⟨w.heap.size + 1, 0, none⟩ = some (.int .i64 0) := hra2.cell 0
    have v1 : (X.putObj D (.deferred none)).cell? ⟨w.heap.size + 1, 1, none⟩ = some (.int .i64 0) := hra2.cell 1
    have v2 : (X.putObj D (.deferred none)).cell? ⟨w.heap.size + 1, 2, none⟩ = some (.int .i64 0) := hra2.cell 2
    have v3 : (X.putObj D (.deferred none)).cell? ⟨w.heap.size + 1, 3, none⟩ = some (.int .i64 0) := hra2.cell 3
    have v4 : (X.putObj D (.deferred none)).cell? ⟨w.heap.size + 1, 4, none⟩ = some (.int .i64 0) := hra2.cell 4
    have v5 : (X.putObj D (.deferred none)).cell? ⟨w.heap.size + 1, 5, none⟩ = some (.bool false) := hra2.cell 5
    have v6 : (X.putObj D (.deferred none)).cell? ⟨w.heap.size + 1, 6, none⟩ = some (.int .u8 0) := hra2.cell 6
    have v7 : (X.putObj D (.deferred none)).cell? ⟨w.heap.size + 1, 7, none⟩ = some (.bool false) := hra2.cell 7
    have v8 : (X.putObj D (.deferred none)).cell? ⟨w.heap.size + 1, 8, none⟩ = some (.slice none 0 0) := hra2.cell 8
    have ve : (X.putObj D (.deferred none)).cell? ⟨w.heap.size + 1 + 1, 0, none⟩ = some (.int .i64 4) := hre2.cell 0
    refine ⟨.tuple #[actV { kind := 0 } (.slice none 0 0), .int .i64 4], ?_, ?_, hbx.trans (belowK_b (w := w) (Nat.le_refl _) X D _ _ (by omega) hko rfl rfl)⟩
    · simp [results, Tryz.results36, go_sem, v0, v1, v2, v3, v4, v5, v6, v7, v8, ve]
    · rw [HAC.out]
      rfl
  case stop =>
    rintro D c' pre W hD hpre ⟨rfl, a, A, n, k, hact, hra, hre, hbs, hB, hbf⟩ hKD
    gi_wp2
    refine ⟨by simp, .inl ⟨_, _, rfl, run_takeDeferred hKD, ?_⟩⟩
    have hk1 : some (w.heap.size + 1) ≠ some D := fun e => by injection e with e; omega
    have hk2 : some (w.heap.size + 2) ≠ some D := fun e => by injection e with e; omega
    have hra2 := hra.kept (grownBy_putObj' W D (.deferred none)) hk1
    have hre2 := hre.kept (grownBy_putObj' W D (.deferred none)) hk2
    have hbs2 := hbs.kept (grownBy_putObj' W D (.deferred none)) (fun r e => by cases e; exact ⟨_, hKD, rfl⟩)
    have v0 : (W.putObj D (.deferred none)).cell? ⟨w.heap.size + 1, 0, none⟩ = some (.int .i64 a.kind) := hra2.cell 0
    have v1 : (W.putObj D (.deferred none)).cell? ⟨w.heap.size + 1, 1, none⟩ = some (.int .i64 a.node) := hra2.cell 1
    have v2 : (W.putObj D (.deferred none)).cell? ⟨w.heap.size + 1, 2, none⟩ = some (.int .i64 a.port) := hra2.cell 2
    have v3 : (W.putObj D (.deferred none)).cell? ⟨w.heap.size + 1, 3, none⟩ = some (.int .i64 a.cost) := hra2.cell 3
    have v4 : (W.putObj D (.deferred none)).cell? ⟨w.heap.size + 1, 4, none⟩ = some (.int .i64 a.n) := hra2.cell 4
    have v5 : (W.putObj D (.deferred none)).cell? ⟨w.heap.size + 1, 5, none⟩ = some (.bool a.up) := hra2.cell 5
    have v6 : (W.putObj D (.deferred none)).cell? ⟨w.heap.size + 1, 6, none⟩ = some (.int .u8 (a.by_.toNat : Int)) := hra2.cell 6
    have v7 : (W.putObj D (.deferred none)).cell? ⟨w.heap.size + 1, 7, none⟩ = some (.bool a.unread) := hra2.cell 7
    have v8 : (W.putObj D (.deferred none)).cell? ⟨w.heap.size + 1, 8, none⟩ = some (.slice A n k) := hra2.cell 8
    have ve : (W.putObj D (.deferred none)).cell? ⟨w.heap.size + 2, 0, none⟩ = some (.int .i64 0) := hre2.cell 0
    refine ⟨.tuple #[actV a (.slice A n k), .int .i64 0], ?_, ?_, hB.trans (belowK_b (w := w) (Nat.le_refl _) W D _ _ (by omega) hKD rfl rfl)⟩
    · simp [results, Tryz.results36, go_sem, v0, v1, v2, v3, v4, v5, v6, v7, v8, ve]
    · rw [hact]
      exact ⟨_, rfl, hbs2, hbf⟩
theorem cactOf_any (s : List UInt8) (w : World) (hs : s.length ≤ 100000) (E : Env w) :
    Calls Tryz.prog 36 #[.string (str s)] w fun e w' => ActOfRes (actC s) e w' ∧ Below w.heap.size w w' :=
  (cactOf_from s w hs E).mono fun _ _ ⟨h, hb⟩ => ⟨h.res, hb⟩
end Go.Proofs.YtfbangojgjcbcaaGreatDoor
namespace Go.Proofs.YtfbangojgjcbcaaGreatDoor
open Go.RowKit Go.Maps Go.ChangeMaps Go.WideMaps
/-- Block b is a map of n entries that holds just what f says. -/
def MapIs {α : Type} (P : Program) (k : TypeId) (ek : α → Value) (w : World) (b n : Nat) (f : α → Option Value) : Prop :=
  ∃ es clock, w.heap[b]? = some (.map es clock) ∧ es.size = n ∧ (∀ e ∈ es.toList, ∃ l, keyOf P k e.key = some l) ∧
    (∀ e ∈ es.toList, ∃ a, e.key = ek a ∧ f a = some e.val) ∧ ∀ a v, f a = some v → ∃ e ∈ es.toList, e.key = ek a
section
variable {α : Type} {P : Program} {k t e : TypeId} {ek : α → Value} {w : World} {b n : Nat} {f : α → Option Value}
theorem MapIs.new (w : World) : MapIs P k ek (w.alloc (.map #[] 0)) w.heap.size 0 (fun _ => none) :=
  ⟨#[], 0, heap_alloc_new w _, rfl, by simp, by simp, by simp⟩
theorem MapIs.lt (h : MapIs P k ek w b n f) : b < w.heap.size := by
  obtain ⟨es, c, h, _⟩ := h
  exact (Array.getElem?_eq_some_iff.1 h).1
theorem MapIs.block {w' : World} (h : MapIs P k ek w b n f) (hb : w'.heap[b]? = w.heap[b]?) : MapIs P k ek w' b n f := by
  obtain ⟨es, c, h1, h2⟩ := h
  exact ⟨es, c, hb.trans h1, h2⟩
theorem MapIs.here {w' : World} (h : MapIs P k ek w b n f) (hb : Below w.heap.size w w') : MapIs P k ek w' b n f := h.block (hb.block b h.lt)
theorem MapIs.alloc (h : MapIs P k ek w b n f) (o : Obj) : MapIs P k ek (w.alloc o) b n f := h.here ((Below.refl _ _).alloc (Nat.le_refl _) o)
theorem MapIs.setCell (h : MapIs P k ek w b n f) {a : Addr} (ha : b ≠ a.block) (u : Value) : MapIs P k ek (w.setCell a u) b n f := h.block (Below.heap_setCell w a u b ha)
/-- 'm[k]' and 'v, ok := m[k]'. -/
theorem MapIs.look (h : MapIs P k ek w b n f) (K : Keyed P k) (ht : P.underlying t = some (.map k e)) (hinj : ∀ x y, ek x = ek y → x = y) (a : α) {l : Lit} (hk : keyOf P k (ek a) = some l)
    {z : Value} (hz : (zeroValue e).run P w = .ok z w) (c : Bool) :
    (Instr.lookup t (.map (some b)) (ek a) c).run P w = .ok (if c then .tuple #[(f a).getD z, .bool (f a).isSome] else (f a).getD z) w := by
  obtain ⟨es, clock, hb, hn, hkeys, hes, hf⟩ := h
  rcases K.find w hk es.toList hkeys with ⟨h1, h2⟩ | ⟨j, e0, h1, h2, h3⟩
  · have hfa : f a = none := by
      cases hfa : f a with
      | none => rfl
      | some v =>
        obtain ⟨e1, he1, hk1⟩ := hf a v hfa
        exact absurd hk1 (h2 e1 he1)
    rw [hfa]
    simp [Instr.lookup, run_underlying ht, MapKept.run_getObj_map hb, K.check w _ hk, h1, hz, Result.andThen]
  · obtain ⟨a', ha', hv⟩ := hes e0 (List.mem_of_getElem? h2)
    rw [hinj a' a (ha'.symm.trans h3)] at hv
    rw [hv]
    simp [Instr.lookup, run_underlying ht, MapKept.run_getObj_map hb, K.check w _ hk, h1, Result.andThen]
/-- 'm[k] = v' at a new key. -/
theorem MapIs.put [DecidableEq α] (h : MapIs P k ek w b n f) (K : Keyed P k) (ht : P.underlying t = some (.map k e)) (hinj : ∀ x y, ek x = ek y → x = y) (a : α) {l : Lit} (hk : keyOf P k (ek a) = some l) (v : Value) (hfa : f a = none) :
    ∃ w', (Instr.mapUpdate t (.map (some b)) (ek a) v).run P w = .ok () w' ∧ MapIs P k ek w' b (n + 1) (fun x => if x = a then some v else f x) ∧ w.grownBy w' (some b) := by
  obtain ⟨es, clock, hb, hn, hkeys, hes, hf⟩ := h
  have hlt : b < w.heap.size := (Array.getElem?_eq_some_iff.1 hb).1
  have hgr : ∀ o, w.grownBy (setBlock w b o) (some b) := fun o => by
    refine ⟨rfl, rfl, rfl, by simp [setBlock], fun g hg hne => ?_⟩
    show (w.heap.setIfInBounds b o)[g]? = _
    rw [Array.getElem?_setIfInBounds_ne (fun e => hne (by rw [e]))]
  rcases K.find w hk es.toList hkeys with ⟨h1, h2⟩ | ⟨j, e0, h1, h2, h3⟩
  · refine ⟨setBlock w b (.map (es.push ⟨ek a, v, clock⟩) (clock + 1)), ?_, ?_, hgr _⟩
    · simp [Instr.mapUpdate, run_underlying ht, MapKept.run_getObj_map hb, K.check w false hk, h1, MapKept.run_setObj_map _ hb, Result.andThen, setBlock]
    · refine ⟨es.push ⟨ek a, v, clock⟩, clock + 1, by simp [setBlock, hlt], by simp [hn], ?_, ?_, ?_⟩
      · intro x hx
        simp only [Array.toList_push, List.mem_append, List.mem_singleton] at hx
        rcases hx with hx | rfl
        · exact hkeys x hx
        · exact ⟨l, hk⟩
      · intro x hx
        simp only [Array.toList_push, List.mem_append, List.mem_singleton] at hx
        rcases hx with hx | rfl
        · obtain ⟨a', h3, h4⟩ := hes x hx
          have hne : a' ≠ a := fun e => by rw [e] at h3; exact h2 x hx h3
          exact ⟨a', h3, by simp only [if_neg hne]; exact h4⟩
        · exact ⟨a, rfl, by simp⟩
      · intro a' v' h3
        simp only [Array.toList_push, List.mem_append, List.mem_singleton]
        by_cases e : a' = a
        · exact ⟨_, .inr rfl, by rw [e]⟩
        · simp only [if_neg e] at h3
          obtain ⟨x, hx, hxk⟩ := hf a' v' h3
          exact ⟨x, .inl hx, hxk⟩
  · obtain ⟨a', ha', hv⟩ := hes e0 (List.mem_of_getElem? h2)
    rw [hinj a' a (ha'.symm.trans h3), hfa] at hv
    cases hv
/-- 'len(m)'. -/
theorem MapIs.len (h : MapIs P k ek w b n f) (ht : P.underlying t = some (.map k e)) (ty : TypeId) : (Builtin.len_ #[t] ty #[.map (some b)]).run P w = .ok (.int .i64 (n : Int)) w := by
  obtain ⟨es, clock, hb, hn, -⟩ := h
  simp [Builtin.len_, run_underlying ht, MapKept.run_getObj_map hb, goInt, Result.andThen, hn]
end
end Go.Proofs.YtfbangojgjcbcaaGreatDoor
namespace Go.Proofs.YtfbangojgjcbcaaGreatDoor
open Go.RowKit Go.Maps Go.ChangeMaps Go.WideMaps Go.WideShapes Pl
theorem kInt : Keyed Tryz.prog 3 := int_keyed Tryz.underlying3
theorem key_int {a : Int} (h : In64 a) : ∃ l, keyOf Tryz.prog 3 (.int .i64 a) = some l := ⟨_, keyOf_int_mk Tryz.underlying3 (by obtain ⟨h0, h1⟩ := h; simp [Lit.wf, IntKind.min, IntKind.max, IntKind.signed, IntKind.bits]; omega)⟩
theorem row_end : (235 : TypeId) < Tryz.prog.types.size := of_decide_eq_true (by kernel_rfl)
theorem keyAt_end : Tryz.prog.keyTypeAt 2 235 = true := by kernel_rfl
theorem kEnd : Keyed Tryz.prog 235 := Keyed.of_law (deep_law_laid (m := 2) laidOut (by omega) row_end keyAt_end (by rw [Tryz.underlying235]))
theorem wf64 {a : Int} (h : In64 a) : (Lit.int .i64 a).wf = true := by obtain ⟨h0, h1⟩ := h; simp [Lit.wf, IntKind.min, IntKind.max, IntKind.signed, IntKind.bits]; omega
theorem cells_end : Tryz.prog.cellsOf 235 = 2 := by kernel_rfl
theorem cells_int1 : Tryz.prog.cellsOf 3 = 1 := by kernel_rfl
theorem isKey_end : Tryz.prog.keyType 235 = true := by kernel_rfl
theorem key_end {a b : Int} (ha : In64 a) (hb : In64 b) : ∃ l, keyOf Tryz.prog 235 (.agg #[.int .i64 a, .int .i64 b]) = some l := by
  have wa := wf64 ha
  have wb := wf64 hb
  have hf : (Value.agg #[.int .i64 a, .int .i64 b]).formed Tryz.prog 235 = true := by simp [Value.formed, Tryz.underlying235, cells_end]
  obtain ⟨d, hd⟩ : ∃ d, Tryz.prog.types.size + 1 = d + 1 + 1 := ⟨Tryz.prog.types.size - 1, by have h : 0 < Tryz.prog.types.size := Nat.lt_of_le_of_lt (Nat.zero_le _) row_end; omega⟩
  unfold keyOf
  rw [Tryz.underlying235, isKey_end, hf, hd]
  simp [Program.keyLits, Tryz.underlying235, Tryz.underlying3, cells_end, cells_int1, mapKey, Value.cells, wa, wb]
theorem end_inj : ∀ x y : Int × Int, (Value.agg #[.int .i64 x.1, .int .i64 x.2]) = .agg #[.int .i64 y.1, .int .i64 y.2] → x = y := fun x y h => by
  injection h with h
  simp at h
  exact Prod.ext h.1 h.2
theorem zero_int (w : World) : (zeroValue 3).run Tryz.prog w = .ok (.int .i64 0) w := by kernel_rfl
theorem zero_end (w : World) : (zeroValue 235).run Tryz.prog w = .ok (.agg #[.int .i64 0, .int .i64 0]) w := by kernel_rfl
end Go.Proofs.YtfbangojgjcbcaaGreatDoor
