/- strings.Builder's WriteString at a builder in a block of its own, whose row lies from a base on: what it turns is told block by block. -/
/- slices.Values' closure goes over the texts, for every loop body that keeps what lay there; conf.Text. -/
/- conf.Text: the text of a configuration that may be. -/
import Derived.Test.YtfbangojgjcbcaaGreatDoorBuilder
import Derived.Test.YtfbangojgjcbcaaGreatDoorConfH
import Derived.Lib.AppendStr
import Derived.Lib.UnsafeStr
import Derived.Test.YtfbangojgjcbcaaGreatDoorTrieH
import Derived.Test.YtfbangojgjcbcaaGreatDoorLinesC
namespace Go.Proofs.YtfbangojgjcbcaaGreatDoor
open Go.RowKit Pl

/-- Block b is a builder that holds the bytes l, in a row from base on. -/
structure BAt (base b : Nat) (l : List UInt8) (w : World) : Prop where
  is : ∃ p v, Whole w b 111 #[p, v] ∧ (p = .pointer none ∨ p = .pointer (some ⟨b, 0, none⟩)) ∧ w.ownsRow base 5 1 v l.length (cellsB l)
/-- All but block b, and but rows of cells from base on, lies as it lay. -/
structure Moves (base b : Nat) (w w' : World) : Prop where
  os : w'.os = w.os
  tape : w'.tape = w.tape
  output : w'.output = w.output
  size : w.heap.size ≤ w'.heap.size
  at_ : ∀ k o, w.heap[k]? = some o → k ≠ b → (k < base ∨ o.isCells = false) → w'.heap[k]? = some o
theorem Moves.refl (base b : Nat) (w : World) : Moves base b w w := ⟨rfl, rfl, rfl, Nat.le_refl _, fun _ _ h _ _ => h⟩
theorem Moves.trans {base b : Nat} {w w' w'' : World} (h : Moves base b w w') (h' : Moves base b w' w'') : Moves base b w w'' :=
  ⟨h'.os.trans h.os, h'.tape.trans h.tape, h'.output.trans h.output, Nat.le_trans h.size h'.size, fun k o ho hk hc => h'.at_ k o (h.at_ k o ho hk hc) hk hc⟩
theorem Moves.set (base b : Nat) (w : World) (i : Nat) (u : Value) : Moves base b w (w.setCell ⟨b, i, none⟩ u) :=
  ⟨rfl, rfl, rfl, by simp [World.setCell], fun k o ho hk _ => (Below.heap_setCell w ⟨b, i, none⟩ u k hk).trans ho⟩
theorem Moves.of_below {base b : Nat} {w w' : World} (h : Below w.heap.size w w') : Moves base b w w' :=
  ⟨h.os, h.tape, h.output, h.size, fun k _o ho _ _ => (h.block k (Array.getElem?_eq_some_iff.1 ho).1).trans ho⟩
/-- A row that the call owns, grown. -/
theorem Moves.grown {base b : Nat} {w w' : World} {e : TypeId} {size n : Nat} {v : Value} {xs : List Value} (hO : w.ownsRow base e size v n xs) (hg : w.grownBy w' v.ownBlock) : Moves base b w w' :=
  ⟨hg.os, hg.tape, hg.output, hg.size, fun k o ho _ hc => (hg.block k (Array.getElem?_eq_some_iff.1 ho).1 (fun e => by
    rcases hO.2 with ⟨rfl, _⟩ | ⟨g, cap, cur, rfl, hbg, hh, _⟩
    · simp [Value.ownBlock] at e
    · have : k = g := by simpa [Value.ownBlock] using e
      subst this
      rw [hh] at ho
      injection ho with ho
      subst ho
      rcases hc with hc | hc
      · omega
      · simp [Obj.isCells] at hc)).trans ho⟩
theorem own_low {w : World} {base base' : Nat} {e : TypeId} {size n : Nat} {v : Value} {xs : List Value} (h : w.ownsRow base e size v n xs) (hl : base' ≤ base) : w.ownsRow base' e size v n xs :=
  ⟨h.1, h.2.imp id fun ⟨g, cap, cur, h1, h2, h3⟩ => ⟨g, cap, cur, h1, Nat.le_trans hl h2, h3⟩⟩
theorem BAt.fresh (base : Nat) (w : World) : BAt base w.heap.size [] (w.alloc (.cells #[.pointer none, .slice none 0 0] 111)) :=
  ⟨_, _, Whole.new _ _ _, .inl rfl, World.ownsRow_nil _ _ _ _⟩
theorem BAt.here {base b : Nat} {l : List UInt8} {w w' : World} (h : BAt base b l w) (hb : Below w.heap.size w w') : BAt base b l w' := by
  obtain ⟨p, v, h1, h2, h3⟩ := h.is
  exact ⟨p, v, h1.here hb, h2, own_below h3 hb⟩
/-- A builder as the kit's laws want it. -/
theorem BAt.kit {base b : Nat} {l : List UInt8} {w : World} (h : BAt base b l w) (hb : b ≤ base) : Lib.IsBuilder 111 5 b b (cellsB l) w := by
  obtain ⟨p, v, h1, h2, h3⟩ := h.is
  have hn := h1.notRow h3 (by decide)
  have h3' : w.ownsRow b 5 1 v (cellsB l).length (cellsB l) := by rw [cellsB_length]; exact own_low h3 hb
  rcases h2 with rfl | rfl
  · exact .inl ⟨Nat.le_refl _, v, h1.is, h3', hn⟩
  · exact .inr ⟨Nat.le_refl _, v, h1.is, h3', hn⟩
theorem strCells_str (l : List UInt8) : Lib.strCells (str l) = cellsB l := by simp [Lib.strCells, cellsB, str_data]

set_option maxHeartbeats 2000000 in
set_option maxRecDepth 100000 in
theorem writeString_any (base b : Nat) (l s : List UInt8) (w : World) (h : BAt base b l w) (hl : l.length ≤ 100000000) (hs : s.length ≤ 100000000) (hbase : base ≤ w.heap.size) :
    Calls Tryz.prog 62 #[.pointer (some ⟨b, 0, none⟩), .string (str s)] w fun e w' => e = .returned (.tuple #[.int .i64 (s.length : Int), .nilIface]) ∧ BAt base b (l ++ s) w' ∧ Moves base b w w' := by
  obtain ⟨p, v, hW, hp, hO⟩ := h.is
  have hsz : (str s).size = s.length := str_size s
  have hCC : ∃ w1, Calls Tryz.prog 127 #[.pointer (some ⟨b, 0, none⟩)] w (fun e w' => e = .returned (.tuple #[]) ∧ w1 = w') ∧ Whole w1 b 111 #[.pointer (some ⟨b, 0, none⟩), v] ∧ w1.ownsRow base 5 1 v l.length (cellsB l) ∧ Moves base b w w1 := by
    rcases hp with rfl | rfl
    · refine ⟨_, copyCheck_fresh b w (hW.cell 0) ?_ (hW.frozen 0), hW.set 0 _, own_grown hW hO (by decide) (grown_set w b 0 _), Moves.set base b w 0 _⟩
      simp [World.shape?, hW.is]
    · exact ⟨w, copyCheck_used b w (hW.cell 0), hW, hO, Moves.refl _ _ _⟩
  obtain ⟨w1, hC, hW1, hO1, hM1⟩ := hCC
  have HC := Lib.hid hC
  have HM1 := Lib.hid hM1
  have hlt := hW1.lt
  have c1 : w1.cell? ⟨b, 1, none⟩ = some v := hW1.cell 1
  have hb1 := hM1.size
  have hno := hW1.notRow hO1 (by decide)
  have HW1 := Lib.hid hW1
  have HO1 := Lib.hid hO1
  obtain ⟨i0, hi0, hz0, hz1, hz2⟩ := info_parts info_u8
  have HSZ := Lib.hid hsz
  clear h hW hO hC hM1 hW1 hsz hp
  go_enter Tryz.func62, Tryz.ntmps62
  have h63 : l.length + (str s).size ≤ maxLen := by rw [HSZ.out]; unfold maxLen; omega
  have h47 : l.length + (str s).size ≤ 140737488355328 := by rw [HSZ.out]; omega
  go_wp2_with (first
    | (go_at_call 127; refine HC.out.mono ?_; rintro e w' ⟨rfl, rfl⟩)
    | (at_builtin; refine Lib.wpList_append_own_string _ rfl (.tmp 12) (.tmp 13) 37 9 rfl base 5 i0 Tryz.underlying37 Tryz.underlying9 hi0 hz0 hz1 hz2 _ _ _ rfl HO1.out (str s) rfl h63 h47 (by omega) ?_))
  intro v' w2 hO2 hg _
  rw [strCells_str, ← cellsB_append, HSZ.out] at hO2
  have hW2 := HW1.out.kept hg (Ne.symm hno)
  have c2 : w2.cell? ⟨b, 1, none⟩ = some v := hW2.cell 1
  have f2 := hW2.frozen 1
  have HM2 : Hid (Moves base b w w2) := Lib.hid (HM1.out.trans (Moves.grown HO1.out hg))
  have HV : ∃ a n k, v' = .slice a n k := by
    rcases hO2.2 with ⟨rfl, _⟩ | ⟨g, cap, cur, rfl, _⟩
    · exact ⟨_, _, _, rfl⟩
    · exact ⟨_, _, _, rfl⟩
  obtain ⟨a, n, k, rfl⟩ := HV
  have HW3 := Lib.hid (hW2.set 1 (.slice a n k))
  have HO3 : Hid ((w2.setCell ⟨b, 1, none⟩ (.slice a n k)).ownsRow base 5 1 (.slice a n k) (l ++ s).length (cellsB (l ++ s))) := Lib.hid (by
    rw [List.length_append]; exact own_grown hW2 hO2 (by decide) (grown_set w2 b 1 _))
  have HM3 := Lib.hid (HM2.out.trans (Moves.set base b w2 1 (.slice a n k)))
  clear hO2 hg hW2
  go_wp2
  go_ret2
  exact ⟨by rw [← HSZ.out]; rfl, ⟨_, _, HW3.out, .inr rfl, HO3.out⟩, HM3.out⟩
theorem Moves.drew {base b : Nat} {w w' : World} (h : Moves base b w w') : Moves base b w w'.drew := ⟨h.os, h.tape, h.output, h.size, h.at_⟩
theorem Moves.freeze {base b : Nat} {w w' : World} (h : Moves base b w w') {g : Nat} (hg : base ≤ g) (hgw : ∃ cs t fr, w.heap[g]? = some (.cells cs t fr)) (n : Nat) : Moves base b w (w'.freeze ⟨g, 0, none⟩ n) := by
  have hh : ∀ k, k ≠ g → (w'.freeze ⟨g, 0, none⟩ n).heap[k]? = w'.heap[k]? := fun k hk => by
    unfold World.freeze
    split
    · rfl
    · simp [Array.getElem?_modify, Ne.symm hk]
  have hs : (w'.freeze ⟨g, 0, none⟩ n).heap.size = w'.heap.size := by
    unfold World.freeze
    split <;> simp
  have ho : (w'.freeze ⟨g, 0, none⟩ n).os = w'.os ∧ (w'.freeze ⟨g, 0, none⟩ n).tape = w'.tape ∧ (w'.freeze ⟨g, 0, none⟩ n).output = w'.output := by
    unfold World.freeze
    split <;> exact ⟨rfl, rfl, rfl⟩
  refine ⟨ho.1.trans h.os, ho.2.1.trans h.tape, ho.2.2.trans h.output, by rw [hs]; exact h.size, fun k o hk hkb hc => ?_⟩
  rw [hh k ?_]
  · exact h.at_ k o hk hkb hc
  · rintro rfl
    obtain ⟨cs, t, fr, e⟩ := hgw
    rw [hk] at e
    injection e with e
    subst e
    rcases hc with hc | hc
    · omega
    · simp [Obj.isCells] at hc
set_option maxHeartbeats 1000000 in
set_option maxRecDepth 100000 in
theorem bString_any (base b : Nat) (l : List UInt8) (w : World) (h : BAt base b l w) (h0 : l ≠ []) :
    Calls Tryz.prog 63 #[.pointer (some ⟨b, 0, none⟩)] w fun e w' => e = .returned (.string (str l)) ∧ Moves base b w w' := by
  obtain ⟨p, v, hW, _, hown⟩ := h.is
  have hl0 : l.length ≠ 0 := by simpa using h0
  obtain ⟨g, cap, cur, rfl, hbg, hg, hnc, hcm, hcs, htake⟩ : ∃ g cap cur, v = .slice (some ⟨g, 0, none⟩) l.length cap ∧ base ≤ g ∧ w.heap[g]? = some (.cells cur 5 (0, 0)) ∧ l.length ≤ cap ∧ cap ≤ maxLen ∧ cur.size = cap * 1 ∧ cur.toList.take (l.length * 1) = cellsB l := by
    rcases hown.2 with ⟨_, hz⟩ | ⟨g, cap, cur, hv, r⟩
    · exact absurd hz hl0
    · exact ⟨g, cap, cur, hv, r⟩
  have c1 : w.drew.cell? ⟨b, 1, none⟩ = some (.slice (some ⟨g, 0, none⟩) l.length cap) := hW.drew.cell 1
  have hSD : (Builtin.unsafeSliceData_ #[37] 173 #[.slice (some ⟨g, 0, none⟩) l.length cap]).run Tryz.prog w.drew = .ok (.pointer (some ⟨g, 0, none⟩)) w.drew :=
    Lib.run_unsafeSliceData_row _ _ _ _ _ _ (by omega)
  have hUS : (Builtin.unsafeString_ #[173, 3] 9 #[.pointer (some ⟨g, 0, none⟩), .int .i64 l.length]).run Tryz.prog w.drew = .ok (.string (str l)) (w.drew.freeze ⟨g, 0, none⟩ l.length) := by
    refine Lib.run_unsafeString_row w.drew 173 3 9 5 Tryz.underlying173 (by kernel_rfl) g cur.size (by have hg' : w.drew.heap[g]? = some (.cells cur 5 (0, 0)) := hg; simp [World.shape?, hg']) l h0 (by omega) (by unfold maxLen at hcm; omega) ?_
    intro j x hx
    have := hown.cells (g := g) rfl j (.int .u8 x.toNat) (by simp [cellsB, hx])
    exact this
  have HM : Hid (Moves base b w (w.drew.freeze ⟨g, 0, none⟩ l.length)) := Lib.hid ((Moves.refl base b w).drew.freeze hbg ⟨_, _, _, hg⟩ _)
  clear h hW hown hg hcs htake
  go_enter Tryz.func63, Tryz.ntmps63
  go_wp2
  go_region
  all_goals (go_wp2; go_ret; exact ⟨rfl, HM.out⟩)
end Go.Proofs.YtfbangojgjcbcaaGreatDoor
namespace Go.Proofs.YtfbangojgjcbcaaGreatDoor
open Go.RowKit Pl Go.Shelf

attribute [local go_sem] Oper.semAt_some

theorem Ss.keep {lo hi : Nat} {A B : World} (hb : Between lo hi A B) {v : Value} {ls : List (List UInt8)} (h : Ss lo hi A v ls) : Ss lo hi B v ls := by
  obtain ⟨P, c, rfl, hA⟩ := h
  refine ⟨P, c, rfl, fun hp => ?_⟩
  obtain ⟨b, off, rfl, hlt, hcell⟩ := hA hp
  exact ⟨b, off, rfl, hlt, fun j l hl => (hb.cell (p := ⟨b, off + j, none⟩) hlt.1 hlt.2).trans (hcell j l hl)⟩

set_option maxRecDepth 100000 in
set_option maxHeartbeats 4000000 in
theorem values1_in {α : Type} (g : α → List UInt8) (F : Fence) (n : Nat) (hF : F.fn 160) (hro : F.round = none) (hn : 1 ≤ n) (l Bs lo hi : Nat) (v : Value) (ls : List α) (hlen : ls.length ≤ 1000000) (J Jx : List α → World → Prop)
    (hY : ∀ pre x W, J pre W → pre.length < ls.length → YieldAt F (n - 1) Tryz.prog l #[.string (str (g x))] W fun e W' =>
      (e = .returned (.bool true) ∧ J (pre ++ [x]) W' ∧ Between lo hi W W') ∨ (e = .returned (.bool false) ∧ Jx (pre ++ [x]) W'))
    (W : World) (hBs : W.cell? ⟨Bs, 0, none⟩ = some v) (hE : Ss lo hi W v (ls.map g)) (h0 : J [] W) :
    CallsIn F n Tryz.prog 160 #[.func (.yield l) #[] #[], .pointer (some ⟨Bs, 0, none⟩)] W fun e W' => (∃ v, e = .returned v) ∧
      ((∃ ys, ys = ls ∧ J ys W') ∨ (∃ pre, pre <+: ls ∧ Jx pre W')) := by
  have HE := Lib.hid hE
  obtain ⟨A, c, rfl, _⟩ := hE
  rw [List.length_map] at *
  refine callsIn_of_wp Tryz.func160 rfl hF ?_ hro
  simp only [Tryz.ntmps160, List.size_toArray, List.length_cons, List.length_nil, Nat.reduceAdd, Nat.reduceSub, Array.replicate_succ, Array.replicate_zero, List.push_toArray, List.append_toArray, List.nil_append, List.cons_append]
  gi_wp2
  gi_loopw [7] (fun i wr => ∃ k : Nat, k ≤ ls.length ∧ i = .int .i64 k ∧ J (ls.take k) wr ∧ Between lo hi W wr) (fun i _ => ls.length - (intOf i).toNat)
  case atStart => exact ⟨0, Nat.zero_le _, rfl, h0, Between.refl _⟩
  case round =>
    obtain ⟨k, hk, rfl, hJs, hnx⟩ := hrel
    by_cases hlt : k < ls.length
    · obtain ⟨A', c', hv, hA⟩ := HE.out.keep hnx
      injection hv with hv1 hv2 hv3
      subst hv1 hv3
      obtain ⟨b, off, rfl, hb, hcell⟩ := hA (by simp; omega)
      obtain ⟨u, hu⟩ : ∃ u, ls[k]? = some u := ⟨_, List.getElem?_eq_getElem hlt⟩
      have c0 := hcell k (g u) (by rw [List.getElem?_map, hu]; rfl)
      have HT : Hid (ls.take (k + 1) = ls.take k ++ [u]) := Lib.hid (by rw [List.take_add_one, hu]; rfl)
      clear hcell hA hu hv2
      have hkl : (ls.take k).length < ls.length := by rw [List.length_take]; omega
      obtain ⟨fn, tmps, assign, body, hy, hR⟩ := hY (ls.take k) u _ hJs hkl
      clear hkl
      gi_wp2
      refine hR.mono ?_
      rintro e W3 (⟨rfl, hJ3, hk3⟩ | ⟨rfl, hJx3⟩)
      · gi_wp2
        go_roundw
        case rel => exact ⟨k + 1, by omega, by go_num, by rw [HT.out]; exact hJ3, hnx.trans hk3⟩
        case measure => simp [intOf]; omega
      · gi_wp2
        refine bodyPost_ret (results_none rfl _ _ _) rfl ?_
        exact ⟨⟨_, rfl⟩, .inr ⟨ls.take k ++ [u], by rw [← HT.out]; exact List.take_prefix _ _, hJx3⟩⟩
    · obtain rfl : k = ls.length := by omega
      rw [List.take_length] at hJs
      gi_wp2
      go_end0
      exact ⟨⟨_, rfl⟩, .inl ⟨_, rfl, hJs⟩⟩
theorem values1_stops {α : Type} (g : α → List UInt8) (F : Fence) (n : Nat) (hF : F.fn 160) (hro : F.round = none) (hn : 1 ≤ n) (Bs lo hi : Nat) (v : Value) (ls : List α) (hlen : ls.length ≤ 1000000) (w : World) (hBn : Bs < w.heap.size) (hhi : hi ≤ w.heap.size)
    (hc : w.cell? ⟨Bs, 0, none⟩ = some v) (hE : Ss lo hi w v (ls.map g)) :
    SeqStopsK F n Tryz.prog 160 #[.pointer (some ⟨Bs, 0, none⟩)] (fun x : α => #[.string (str (g x))]) (Between lo hi) (fun ys => ys = ls) (fun pre => pre <+: ls) ls.length w := fun l J Jx W hW _ _ hY h0 =>
  values1_in g F n hF hro hn l Bs lo hi v ls hlen J Jx hY W ((hW.cell (p := ⟨Bs, 0, none⟩) hBn).trans hc) (hE.keep (Between.of_below (hW.mono hhi))) h0
end Go.Proofs.YtfbangojgjcbcaaGreatDoor
namespace Go.Proofs.YtfbangojgjcbcaaGreatDoor
open Go.RowKit Pl Go.Shelf

attribute [local go_sem] Oper.semAt_some

theorem BAt.own {α : Type} (base b : Nat) (f : α → List UInt8) : Own (fun s W => BAt base b (f s) W) := fun s X Y row hs hg hr => by
  obtain ⟨p, v, h1, h2, h3⟩ := hs.is
  refine ⟨p, v, whole_own b _ (fun (_ : Unit) => #[p, v]) () X Y row h1 hg hr, h2, h3.kept hg ?_⟩
  rcases h3.2 with ⟨rfl, _⟩ | ⟨g, cap, cur, rfl, _, hh, _⟩
  · exact .inl rfl
  · right
    intro e
    obtain ⟨o, ho, hc⟩ := hr g e.symm
    rw [hh] at ho
    injection ho with ho
    subst ho
    simp [Obj.isCells] at hc
def joinNl (ls : List (List UInt8)) : List UInt8 := ls.flatMap (· ++ [10])
theorem joinNl_snoc (ls : List (List UInt8)) (l : List UInt8) : joinNl (ls ++ [l]) = joinNl ls ++ (l ++ [10]) := by simp [joinNl]
theorem joinNl_len : ∀ (ls : List (List UInt8)), (∀ l ∈ ls, l.length ≤ 40) → (joinNl ls).length ≤ 41 * ls.length
  | [], _ => by simp [joinNl]
  | x :: r, h => by
    have ih := joinNl_len r (fun l hl => h l (List.mem_cons_of_mem _ hl))
    have hx := h x (by simp)
    have e : joinNl (x :: r) = (x ++ [10]) ++ joinNl r := by simp [joinNl]
    rw [e, List.length_append, List.length_append, List.length_cons]
    simp; omega
theorem lift_short {ls : List (List UInt8)} (h : ∀ l ∈ ls, l.length ≤ 40) : ∃ es : List {x : List UInt8 // x.length ≤ 40}, es.map Subtype.val = ls ∧ es.length = ls.length :=
  ⟨ls.attach.map fun x => ⟨x.1, h x.1 x.2⟩, by simp [List.map_map, Function.comp_def], by simp⟩
theorem Moves.keeps {base b B : Nat} {w w' : World} (h : Moves base b w w') (hb : ∃ cs t fr, w.heap[b]? = some (.cells cs t fr)) : KeepsFrom B w w' :=
  KeepsOthers.from ⟨h.size, fun k o ho hc => h.at_ k o ho (by rintro rfl; obtain ⟨cs, t, fr, e⟩ := hb; rw [ho] at e; injection e with e; subst e; simp [Obj.isCells] at hc) (.inr hc)⟩ B
theorem Moves.between {base b lo hi : Nat} {w w' : World} (h : Moves base b w w') (hb : b < lo) (hh : hi ≤ base) (hs : hi ≤ w.heap.size) : Between lo hi w w' :=
  ⟨h.size, fun g h1 h2 => by
    obtain ⟨o, ho⟩ : ∃ o, w.heap[g]? = some o := ⟨_, Array.getElem?_eq_getElem (by omega)⟩
    rw [h.at_ g o ho (by omega) (.inl (by omega)), ho]⟩
theorem Moves.below {base b : Nat} {w w' : World} {B : Nat} (h : Moves base b w w') (hb : B ≤ b) (hB : B ≤ base) (hs : B ≤ w.heap.size) : Below B w w' :=
  ⟨h.os, h.tape, h.output, h.size, fun k hk => by
    obtain ⟨o, ho⟩ : ∃ o, w.heap[k]? = some o := ⟨_, Array.getElem?_eq_getElem (by omega)⟩
    rw [h.at_ k o ho (by omega) (.inl (by omega)), ho]⟩

set_option maxRecDepth 100000 in
set_option maxHeartbeats 4000000 in
theorem ctext_yes (v : Value) (c : Cfg) (w : World) (h : CfgIs w v c) (hA : Addrs4 c) (hm : mayC c = true) (E : Env w) :
    Calls Tryz.prog 22 #[v] w fun e w' => e = .returned (.tuple #[.string (str (textP c)), .int .i64 0]) ∧ Below w.heap.size w w' := by
  have hol := ownOk_le (mayC_parts hm).1
  have hpl := (mayC_parts hm).2.1
  have HLL := Lib.hid (lines_len hm)
  have HC := Lib.hid h
  obtain ⟨own, ports, rfl, hO, hP⟩ := h.is
  obtain ⟨A1, k1, rfl, -⟩ := hO
  obtain ⟨A2, k2, rfl, -⟩ := hP
  obtain ⟨W0, hW0⟩ : ∃ W0, w.alloc (.cells #[.int .i64 c.node, .int .u32 c.addr, .slice A1 c.own.length k1, .slice A2 c.ports.length k2, .int .i64 c.hello, .int .i64 c.dead, .int .i64 c.again, .int .i64 c.room, .int .i64 c.queue, .int .i64 c.tokens, .int .i64 c.refill] 28) = W0 := ⟨_, rfl⟩
  have HB0 : Hid (Below w.heap.size w W0) := Lib.hid (by rw [← hW0]; exact (Below.refl _ _).alloc (Nat.le_refl _) _)
  have HX : Hid (Whole W0 w.heap.size 28 #[.int .i64 c.node, .int .u32 c.addr, .slice A1 c.own.length k1, .slice A2 c.ports.length k2, .int .i64 c.hello, .int .i64 c.dead, .int .i64 c.again, .int .i64 c.room, .int .i64 c.queue, .int .i64 c.tokens, .int .i64 c.refill]) := Lib.hid (by rw [← hW0]; exact Whole.new _ _ _)
  have HW0 := Lib.hid hW0
  have hlt0 : w.heap.size < W0.heap.size := HX.out.lt
  have HMAY : Hid (Calls Tryz.prog 23 #[.agg #[.int .i64 c.node, .int .u32 c.addr, .slice A1 c.own.length k1, .slice A2 c.ports.length k2, .int .i64 c.hello, .int .i64 c.dead, .int .i64 c.again, .int .i64 c.room, .int .i64 c.queue, .int .i64 c.tokens, .int .i64 c.refill]] W0 fun e w' => e = .returned (.bool true) ∧ Below W0.heap.size W0 w') := Lib.hid (by
    have := may_any' _ c W0 (HC.out.below HB0.out) hA (by omega) (by omega)
    rw [hm] at this
    exact this)
  have HLN : Hid (∀ W, Below W0.heap.size W0 W → Calls Tryz.prog 61 #[.agg #[.int .i64 c.node, .int .u32 c.addr, .slice A1 c.own.length k1, .slice A2 c.ports.length k2, .int .i64 c.hello, .int .i64 c.dead, .int .i64 c.again, .int .i64 c.room, .int .i64 c.queue, .int .i64 c.tokens, .int .i64 c.refill]] W fun e w' => SeqOf W.heap.size (linesP c) e w' ∧ Below W.heap.size W w') := Lib.hid (fun W hb => by
    have := lines_any _ c W ((HC.out.below HB0.out).below hb) hA (by omega) (by omega) ((E.here HB0.out).here hb)
    unfold linesC at this
    rw [hm, if_pos rfl] at this
    exact this)
  have x0 := HX.out.cell 0
  have x1 := HX.out.cell 1
  have x2 := HX.out.cell 2
  have x3 := HX.out.cell 3
  have x4 := HX.out.cell 4
  have x5 := HX.out.cell 5
  have x6 := HX.out.cell 6
  have x7 := HX.out.cell 7
  have x8 := HX.out.cell 8
  have x9 := HX.out.cell 9
  have x10 := HX.out.cell 10
  simp only [List.getElem?_toArray, List.getElem?_cons_succ, List.getElem?_cons_zero] at x0 x1 x2 x3 x4 x5 x6 x7 x8 x9 x10
  clear h hA E hW0 hm
  unfold cfgV
  refine (callsIn_wide (n := 3)).1 ?_
  refine callsIn_of_wp_marks Tryz.func22 rfl trivial ?_ rfl
  simp only [Tryz.ntmps22, List.size_toArray, List.length_cons, List.length_nil, Nat.reduceAdd, Nat.reduceSub, Array.replicate_succ, Array.replicate_zero, List.push_toArray, List.append_toArray, List.nil_append, List.cons_append]
  gi_wp2
  rw [HW0.out]
  refine ⟨trivial, (callsIn_wide.2 HMAY.out).mono ?_⟩
  rintro e W2 ⟨rfl, hb2⟩
  have HB2 := Lib.hid hb2
  obtain ⟨W2', hW2'⟩ : ∃ W2', W2.alloc (.cells #[.pointer none, .slice none 0 0] 111) = W2' := ⟨_, rfl⟩
  have hba : Below W2.heap.size W2 W2' := by rw [← hW2']; exact (Below.refl _ _).alloc (Nat.le_refl _) _
  have HB2' : Hid (Below W0.heap.size W0 W2') := Lib.hid (hb2.trans (hba.mono hb2.size))
  have hbb : W2.heap.size < W2'.heap.size := by rw [← hW2']; simp
  have HBA : Hid (∀ base, BAt base W2.heap.size [] W2') := Lib.hid (fun base => by rw [← hW2']; exact BAt.fresh base W2)
  have HW2' := Lib.hid hW2'
  have x0 := (HX.out.here HB2.out).cell 0
  have x1 := (HX.out.here HB2.out).cell 1
  have x2 := (HX.out.here HB2.out).cell 2
  have x3 := (HX.out.here HB2.out).cell 3
  have x4 := (HX.out.here HB2.out).cell 4
  have x5 := (HX.out.here HB2.out).cell 5
  have x6 := (HX.out.here HB2.out).cell 6
  have x7 := (HX.out.here HB2.out).cell 7
  have x8 := (HX.out.here HB2.out).cell 8
  have x9 := (HX.out.here HB2.out).cell 9
  have x10 := (HX.out.here HB2.out).cell 10
  simp only [List.getElem?_toArray, List.getElem?_cons_succ, List.getElem?_cons_zero] at x0 x1 x2 x3 x4 x5 x6 x7 x8 x9 x10
  have HLB := Lib.hid (HLN.out W2' HB2'.out)
  have hs2 := hb2.size
  have hlt2 : w.heap.size < W2.heap.size := by omega
  clear hW2' hba HLN hb2
  gi_wp2
  rw [HW2'.out]
  refine ⟨trivial, (callsIn_wide.2 HLB.out).mono ?_⟩
  rintro e W3 ⟨⟨Bs, vs, rfl, ⟨hlo, hBs⟩, hc, hS⟩, hb3⟩
  have HB3 := Lib.hid hb3
  have HS := Lib.hid hS
  have hs3 := hb3.size
  have HBW : Hid (Below w.heap.size w W3) := Lib.hid ((HB0.out.trans (HB2'.out.mono HB0.out.size)).trans (hb3.mono (by omega)))
  have HBA3 : Hid (BAt W3.heap.size W2.heap.size [] W3) := Lib.hid ((HBA.out _).here hb3)
  have hlines : (linesP c).length ≤ 25 := HLL.out.2
  clear hb3 hS
  gi_wp2
  obtain ⟨es, hes, hel⟩ := lift_short HLL.out.1
  have HES := Lib.hid hes
  have HS' : Hid (Ss W2'.heap.size W3.heap.size W3 vs (es.map Subtype.val)) := Lib.hid (by rw [hes]; exact HS.out)
  clear hes
  refine wpIn_rangeFunc_ownH (F := Fence.wide) rfl (by decide) (gf := 160) (lb := #[.pointer (some ⟨Bs, 0, none⟩)]) rfl trivial (enters_of Tryz.func160 (by kernel_rfl) rfl)
    (values1_stops (Subtype.val : {x : List UInt8 // x.length ≤ 40} → List UInt8) Fence.wide 2 trivial rfl (by decide) Bs W2'.heap.size W3.heap.size vs es (by omega) W3 hBs (Nat.le_refl _) hc HS'.out) Between.trans (fun W l o o' hl _ _ _ => Between.put hl) (Below.refl _ _) (fun _ => rfl)
    (fun pre W => (BAt W3.heap.size W2.heap.size (joinNl (pre.map Subtype.val)) W ∧ Below w.heap.size w W) ∧ W3.heap.size ≤ W.heap.size)
    (fun _ _ _ => False)
    (OwnFrom.and (OwnFrom.and (Own.from (BAt.own _ _ (fun pre : List {x : List UInt8 // x.length ≤ 40} => joinNl (pre.map Subtype.val))) _) (ownFrom_below (Nat.le_refl _) (by omega))) (fun _ _ _ _ hs hg _ => Nat.le_trans hs hg.size))
    (fun _ _ _ _ _ hs _ _ => hs)
    ⟨⟨HBA3.out, HBW.out⟩, Nat.le_refl _⟩
    (fun y a' _ => a' = { tmps := #[.agg #[.int .i64 c.node, .int .u32 c.addr, .slice A1 c.own.length k1, .slice A2 c.ports.length k2, .int .i64 c.hello, .int .i64 c.dead, .int .i64 c.again, .int .i64 c.room, .int .i64 c.queue, .int .i64 c.tokens, .int .i64 c.refill], .pointer (some ⟨w.heap.size, 0, none⟩), .string ⟨#[]⟩, .int .i64 0, .pointer (some ⟨W2.heap.size, 0, none⟩), .string (str y.1), .agg #[.int .i64 c.node, .int .u32 c.addr, .slice A1 c.own.length k1, .slice A2 c.ports.length k2, .int .i64 c.hello, .int .i64 c.dead, .int .i64 c.again, .int .i64 c.room, .int .i64 c.queue, .int .i64 c.tokens, .int .i64 c.refill], .bool true, .bool false, .agg #[.int .i64 c.node, .int .u32 c.addr, .slice A1 c.own.length k1, .slice A2 c.ports.length k2, .int .i64 c.hello, .int .i64 c.dead, .int .i64 c.again, .int .i64 c.room, .int .i64 c.queue, .int .i64 c.tokens, .int .i64 c.refill], .func (.func 160) #[] #[.pointer (some ⟨Bs, 0, none⟩)], .string (str y.1), undef, undef, undef, undef], defers := [] })
    (fun y a' _ X Y row hs hg hr => hs)
    ?assign ?body ?done ?stop
  case assign =>
    rintro l pre y W K hI hK
    gi_wp2
    exact hK _ _ ((KeepsOthers.refl _).from _) (Between.refl W) hI rfl
  case body =>
    rintro l pre ⟨y, hy⟩ a' W hl _ ⟨⟨hA, hB⟩, hz⟩ rfl hlt
    have hjl := joinNl_len (pre.map Subtype.val) (fun x hx => by obtain ⟨z, _, rfl⟩ := List.mem_map.1 hx; exact z.2)
    rw [List.length_map] at hjl
    have q1 : ¬ 9223372036854775807 < y.length + 1 := by omega
    have hsz : (str y).size = y.length := str_size y
    have ey : str y ++ { data := #[10] } = str (y ++ [10]) := by
      show str y ++ str [10] = _
      rw [str_append]
    have HWS := Lib.hid (writeString_any W3.heap.size W2.heap.size (joinNl (pre.map Subtype.val)) (y ++ [10]) W hA (by omega) (by simp; omega) hz)
    have hcell : ∃ cs t fr, W.heap[W2.heap.size]? = some (.cells cs t fr) := by obtain ⟨p, v, h1, _⟩ := hA.is; exact ⟨_, _, _, h1.is⟩
    have HEY := Lib.hid ey
    clear hsz ey
    gi_wp2
    rw [HEY.out]
    refine ⟨trivial, CallsIn.inRound l ((callsIn_wide.2 HWS.out).mono ?_)⟩
    rintro e W' ⟨rfl, hA', hM⟩
    gi_wp2
    refine ⟨hM.keeps hcell, hM.between (by omega) (Nat.le_refl _) hz, ⟨⟨?_, hB.trans (hM.below (by omega) (by omega) (by omega))⟩, Nat.le_trans hz hM.size⟩⟩
    rw [List.map_append, List.map_cons, List.map_nil, joinNl_snoc]
    exact hA'
  case done =>
    rintro D ys W hD rfl ⟨⟨hA, hB⟩, hz⟩ hK
    rw [HES.out] at hA
    have hne : textP c ≠ [] := by
      unfold textP linesP heads
      simp
    have HST := Lib.hid (bString_any W3.heap.size W2.heap.size (textP c) W hA hne)
    clear hne
    gi_wp2
    refine ⟨trivial, (callsIn_wide.2 HST.out).mono ?_⟩
    rintro e W' ⟨rfl, hM⟩
    have hkd : W'.heap[D]? = some (.deferred (some [])) := hM.at_ D _ hK (by omega) (.inr rfl)
    have hbel := hB.trans (hM.below (by omega) (by omega) (by omega))
    gi_wp2
    refine ⟨by simp, .inl ⟨_, _, rfl, run_takeDeferred hkd, ?_⟩⟩
    refine ⟨.tuple #[.string (str (textP c)), .int .i64 0], ?_, rfl, hbel.trans (belowK_b (w := w) (Nat.le_refl _) W' D _ _ (by omega) hkd rfl rfl)⟩
    simp [results, Tryz.results22, go_sem]
  case stop =>
    rintro D c pre W _ _ h _
    exact h.elim
set_option maxRecDepth 100000 in
set_option maxHeartbeats 1000000 in
theorem ctext_no (v : Value) (c : Cfg) (w : World) (h : CfgIs w v c) (hA : Addrs4 c) (hl : c.own.length ≤ 1000000) (hp : c.ports.length ≤ 1000000) (hm : mayC c = false) :
    Calls Tryz.prog 22 #[v] w fun e w' => e = .returned (.tuple #[.string (str []), .int .i64 2]) ∧ Below w.heap.size w w' := by
  have HC := Lib.hid h
  obtain ⟨own, ports, rfl, hO, hP⟩ := h.is
  obtain ⟨A1, k1, rfl, -⟩ := hO
  obtain ⟨A2, k2, rfl, -⟩ := hP
  have HMAY : Hid (∀ W, Below w.heap.size w W → Calls Tryz.prog 23 #[.agg #[.int .i64 c.node, .int .u32 c.addr, .slice A1 c.own.length k1, .slice A2 c.ports.length k2, .int .i64 c.hello, .int .i64 c.dead, .int .i64 c.again, .int .i64 c.room, .int .i64 c.queue, .int .i64 c.tokens, .int .i64 c.refill]] W fun e w' => e = .returned (.bool false) ∧ Below W.heap.size W w') := Lib.hid (fun W hb => by
    have := may_any' _ c W (HC.out.below hb) hA hl hp
    rw [hm] at this
    exact this)
  clear h hA hm
  unfold cfgV
  go_enter Tryz.func22, Tryz.ntmps22
  go_wp2_with (go_at_call 23; refine (HMAY.out _ ((Below.refl _ _).alloc (Nat.le_refl _) _)).mono ?_; rintro e w' ⟨rfl, hb⟩)
  have HB := Lib.hid hb
  clear hb
  go_wp2
  go_ret2
  exact ⟨rfl, ((Below.refl _ _).alloc (Nat.le_refl _) _).trans (HB.out.mono (by simp))⟩
end Go.Proofs.YtfbangojgjcbcaaGreatDoor
