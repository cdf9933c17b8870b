/- Contract of trace.Chains: its closure over a box of the tracks and a box of the children. -/
/- trace.Chains' closures: down goes over a track's children, and hands each whole chain to the loop's body, which lets all that lay there lie. -/
/- trace.Chains$1: from every track where a chain begins, down. -/
import Derived.Test.YtfnjojdiiklleaaGreatTrkI
import Derived.RangeFuncKeeps
import Derived.RangeFuncBound
import Derived.RangeFuncLeaves
import Derived.Shelf.Abstract
import Derived.WalkKit
import Derived.OwnWalkIn
import Derived.TacticsInMore
import Derived.LoopIn
import Derived.Sort.CutIn
import Derived.Laws.EntriesVeiled
namespace Go.Proofs.YtfnjojdiiklleaaGreat
open Go.RowKit Go.Maps Go.ChangeMaps Go.WideMaps Pl

/-- What trace.Chains has laid: the tracks' copy x in box B, the children's map M in box C. -/
structure ChI (w : World) (base B C M : Nat) (x : Value) (l : List Tk) (es : Array MapEntry) (clk : Nat) (V : Int → Option Value) (g : Int → List Int) : Prop where
  box : Whole w B 22 #[x]
  chd : Whole w C 77 #[.map (some M)]
  own : w.ownsRow base 27 10 x l.length (cellsT l)
  map : ChMap w base M l.length es clk V g
theorem ChI.here {w w' : World} {base B C M : Nat} {x : Value} {l : List Tk} {es : Array MapEntry} {clk : Nat} {V : Int → Option Value} {g : Int → List Int} (h : ChI w base B C M x l es clk V g) (hb : Below w.heap.size w w') : ChI w' base B C M x l es clk V g :=
  ⟨h.box.here hb, h.chd.here hb, own_below h.own hb, h.map.here hb⟩
theorem ChI.tracks {w : World} {base B C M : Nat} {x : Value} {l : List Tk} {es : Array MapEntry} {clk : Nat} {V : Int → Option Value} {g : Int → List Int} (h : ChI w base B C M x l es clk V g) : Tracks w x l := Tracks.own h.own
theorem ownsRow_base {w : World} {b b' : Nat} {e : TypeId} {s n : Nat} {v : Value} {xs : List Value} (hle : b ≤ b') (h : w.ownsRow b' e s v n xs) : w.ownsRow b e s v n xs := by
  refine ⟨h.1, ?_⟩
  rcases h.2 with h0 | ⟨g, cap, cur, h1, h2, h3⟩
  · exact .inl h0
  · exact .inr ⟨g, cap, cur, h1, Nat.le_trans hle h2, h3⟩
theorem tracks_val {w : World} {x : Value} {l : List Tk} (h : Tracks w x l) : ∃ A c, x = .slice A l.length c := by obtain ⟨A, c, h1, _⟩ := h; exact ⟨A, c, h1⟩
theorem zero_ints (w : World) : (zeroValue 39).run Tryz.prog w = .ok (.slice none 0 0) w := by kernel_rfl
theorem info_int : (Tryz.prog.info? 3).map (fun i => (i.zero, i.size, i.bytes)) = some (some (.int .i64 0), 1, 8) := by kernel_rfl
theorem exec_append {P : Program} {o : Oper} {a : Act} {w w' : World} {s x : Operand} {t : TypeId} {v xv v' : Value} (ho : o.op = .call { callee := .builtin .append, args := #[s, x], argTypes := #[t, t] }) (hs : a.eval s = v) (hx : a.eval x = xv)
    (hr : (Builtin.append_ #[t, t] o.type #[v, xv]).run P w = .ok v' w') : (execOp a.eval o).run P w = .ok (.value v') w' := by
  unfold execOp
  simp only [ho, resolve, invoke, builtin, Sem.run_bind, Sem.run_pure, Result.andThen_ok, List.map_toArray, List.map_cons, List.map_nil, hs, hx, hr]
set_option maxRecDepth 100000 in
set_option maxHeartbeats 16000000 in
theorem chains_any (v : Value) (l : List Tk) (w : World) (h : Tracks w v l) (hok : ∀ t ∈ l, TkOk t) (hl : l.length ≤ 1000) :
    Calls Tryz.prog 8 #[v] w fun e w' => (∃ B C M x es clk V g, e = .returned (.func (.func 39) #[] #[.pointer (some ⟨B, 0, none⟩), .pointer (some ⟨C, 0, none⟩)]) ∧ ChI w' w.heap.size B C M x l es clk V g) ∧ Below w.heap.size w w' := by
  have hmm := run_makeMap (P := Tryz.prog)
  have HL := Lib.hid h
  obtain ⟨A0, k0, rfl, _⟩ := h
  have HCL := Lib.hid fun (w' : World) (h' : Below w.heap.size w w') => cloneT_any _ l w' (HL.out.here h') hok (by omega)
  go_enter Tryz.func8, Tryz.ntmps8
  go_upto_region 3 with (go_at_call 37; refine (HCL.out _ (bel_alloc (Below.refl _ _) _)).mono ?_; rintro e w1 ⟨⟨x, rfl, hown⟩, hb⟩; obtain ⟨A, c, rfl⟩ := tracks_val (Tracks.own hown); have hW1 := (Whole.new w 22 #[.slice A0 l.length k0]).here hb; have c1 : w1.cell? ⟨w.heap.size, 0, none⟩ = some (.slice A0 l.length k0) := hW1.cell 0; have f1 : w1.frozen? ⟨w.heap.size, 0, none⟩ = false := hW1.frozen 0)
  obtain ⟨W2, hW2⟩ : ∃ W2, (((w1.setCell ⟨w.heap.size, 0, none⟩ (.slice A l.length c)).alloc (.map #[] 0)).alloc (.cells #[.map (some w1.heap.size)] 77)) = W2 := ⟨_, rfl⟩
  rw [hW2]
  have hb' := (bel_alloc (Below.refl _ w) (.cells #[.slice A0 l.length k0] 22)).trans (hb.mono (by simp))
  have HB2 : Hid (Below w.heap.size w W2) := Lib.hid (by
    rw [← hW2]
    exact bel_alloc (bel_alloc (bel_set0 hb' 0 _) _) _)
  have HI2 : Hid (ChI W2 w.heap.size w.heap.size (w1.heap.size + 1) w1.heap.size (.slice A l.length c) l #[] 0 (fun _ => none) (fun _ => [])) := Lib.hid (by
    rw [← hW2]
    have hbx : Whole (w1.setCell ⟨w.heap.size, 0, none⟩ (.slice A l.length c)) w.heap.size 22 #[.slice A l.length c] := hW1.set 0 _
    have hno := hW1.notRow hown (by decide)
    have hrow := (ownsRow_base (b := w.heap.size) (by simp) hown).kept (grownBy_setCell' w1 w.heap.size (.slice A l.length c)) (.inr hno)
    have hnm := (NMap.new (P := Tryz.prog) (k := 3) (w1.setCell ⟨w.heap.size, 0, none⟩ (.slice A l.length c))).here ((Below.refl _ _).alloc (Nat.le_refl _) (.cells #[.map (some w1.heap.size)] 77))
    have hsz : (w1.setCell ⟨w.heap.size, 0, none⟩ (.slice A l.length c)).heap.size = w1.heap.size := by simp [World.setCell]
    rw [hsz] at hnm
    refine ⟨(hbx.alloc _).alloc _, ?_, (hrow.alloc _).alloc _, ⟨hnm, (fun _ _ h => (by cases h)), (fun _ _ => rfl), (fun _ _ _ _ h => (by cases h)), (fun _ _ h => (List.not_mem_nil h).elim)⟩⟩
    have := Whole.new ((w1.setCell ⟨w.heap.size, 0, none⟩ (.slice A l.length c)).alloc (.map #[] 0)) 77 #[.map (some w1.heap.size)]
    rwa [World.size_alloc, hsz] at this)
  have b0 : W2.cell? ⟨w.heap.size, 0, none⟩ = some (.slice A l.length c) := HI2.out.box.cell 0
  have bl : w.heap.size < W2.heap.size := HI2.out.box.lt
  have hMle : w.heap.size ≤ w1.heap.size := by have := hb.size; simp at this; omega
  clear hW2 hb' hb hown hW1 c1 f1 hmm
  go_wp2
  go_loopw [11] (fun i wr => ∃ (j : Nat) (es : Array MapEntry) (clk : Nat) (V : Int → Option Value) (g : Int → List Int), j ≤ l.length ∧ i = .int .i64 j ∧ Hid (ChI wr w.heap.size w.heap.size (w1.heap.size + 1) w1.heap.size (.slice A l.length c) l es clk V g) ∧ Hid (∀ a, (g a).length ≤ j) ∧ Hid (Below w.heap.size w wr)) (fun i _ => l.length - (intOf i).toNat)
  case atStart => exact ⟨0, #[], 0, _, _, Nat.zero_le _, rfl, HI2, Lib.hid (fun _ => Nat.le_refl _), HB2⟩
  case round =>
    obtain ⟨j, es, clk, V, g, hj, rfl, HI, HG, HB⟩ := hrel
    by_cases hlt : j < l.length
    · have d0 : wr.cell? ⟨w.heap.size, 0, none⟩ = some (.slice A l.length c) := HI.out.box.cell 0
      have dl : w.heap.size < wr.heap.size := HI.out.box.lt
      have HPC := Lib.hid (tparent_any _ l j wr HI.out.tracks hlt (by omega))
      obtain ⟨hp1, hp2⟩ := parP_lt l j
      by_cases hneg : parP l j < 0
      · have HX : Hid (parP l j = -1) := Lib.hid (by omega)
        clear hp1 hp2 hneg
        go_wp2_with (go_at_call 38; refine HPC.out.mono ?_; rintro e w3 ⟨rfl, hb3⟩; rw [HX.out]; have HI3 := Lib.hid (HI.out.here hb3); have HB3 := Lib.hid (HB.out.trans (hb3.mono HB.out.size)); clear hb3)
        go_roundw
        case rel => exact ⟨j + 1, es, clk, V, g, by omega, by go_num, HI3, Lib.hid (fun a => Nat.le_succ_of_le (HG.out a)), HB3⟩
        case measure => first | (simp [intOf]; done) | (simp [intOf]; omega)
      · obtain ⟨p, hp⟩ : ∃ p : Nat, parP l j = p := ⟨(parP l j).toNat, by omega⟩
        have HX := Lib.hid hp
        have hpj : p < j := by omega
        have HBC := Lib.hid fun (w' : World) (h' : ChI w' w.heap.size w.heap.size (w1.heap.size + 1) w1.heap.size (.slice A l.length c) l es clk V g) => begins_any _ l j w' h'.tracks hlt (by omega)
        clear hp1 hp2 hneg hp
        cases hbg : begP l j with
        | true =>
          rw [hbg] at HBC
          clear hbg
          go_wp2_with (first
            | (go_at_call 38; refine HPC.out.mono ?_; rintro e w3 ⟨rfl, hb3⟩; rw [HX.out]; have HI3 := Lib.hid (HI.out.here hb3); have HB3 := Lib.hid (HB.out.trans (hb3.mono HB.out.size)); clear hb3; have e0 : w3.cell? ⟨w.heap.size, 0, none⟩ = some (.slice A l.length c) := HI3.out.box.cell 0; have el : w.heap.size < w3.heap.size := HI3.out.box.lt)
            | (go_at_call 15; refine (HBC.out _ HI3.out).mono ?_; rintro e w4 ⟨rfl, hb4⟩; have HI4 := Lib.hid (HI3.out.here hb4); have HB4 := Lib.hid (HB3.out.trans (hb4.mono HB3.out.size)); clear hb4))
          go_roundw
          case rel => exact ⟨j + 1, es, clk, V, g, by omega, by go_num, HI4, Lib.hid (fun a => Nat.le_succ_of_le (HG.out a)), HB4⟩
          case measure => first | (simp [intOf]; done) | (simp [intOf]; omega)
        | false =>
          rw [hbg] at HBC
          clear hbg
          go_upto_region 8 with (first
            | (go_at_call 38; refine HPC.out.mono ?_; rintro e w3 ⟨rfl, hb3⟩; rw [HX.out]; have HI3 := Lib.hid (HI.out.here hb3); have HB3 := Lib.hid (HB.out.trans (hb3.mono HB.out.size)); clear hb3; have e0 : w3.cell? ⟨w.heap.size, 0, none⟩ = some (.slice A l.length c) := HI3.out.box.cell 0; have el : w.heap.size < w3.heap.size := HI3.out.box.lt)
            | (go_at_call 15; refine (HBC.out _ HI3.out).mono ?_; rintro e w4 ⟨rfl, hb4⟩; have HI4 := Lib.hid (HI3.out.here hb4); have HB4 := Lib.hid (HB3.out.trans (hb4.mono HB3.out.size)); clear hb4))
          obtain ⟨v0, hv0⟩ : ∃ v0, (V p).getD (.slice none 0 0) = v0 := ⟨_, rfl⟩
          have hin : In64 (p : Int) := ⟨by omega, by omega⟩
          obtain ⟨kl, hkl⟩ := key_int hin
          have hcell : ∀ w' : World, Below w4.heap.size w4 w' → w'.cell? ⟨w1.heap.size + 1, 0, none⟩ = some (.map (some w1.heap.size)) := fun w' h' => (HI4.out.chd.here h').cell 0
          have hrow : w4.ownsRow w.heap.size 3 1 v0 (g p).length (intsV (g p)) := by rw [← hv0]; exact HI4.out.map.found p
          have hblk : v0.ownBlock ≠ some w.heap.size ∧ v0.ownBlock ≠ some (w1.heap.size + 1) := ⟨HI4.out.box.notRow hrow (by decide), HI4.out.chd.notRow hrow (by decide)⟩
          refine wp_region_inv (I := fun L a' w' => ∃ u25 u26 u27 u28 u29 u30 u31 u32 : Value, a' = { tmps := #[.slice A0 l.length k0, .pointer (some ⟨w.heap.size, 0, none⟩), .nilFunc, .pointer (some ⟨w1.heap.size + 1, 0, none⟩), .int .i64 j, .int .i64 p, .slice A0 l.length k0, .slice A l.length c, .map (some w1.heap.size), .slice A l.length c, .int .i64 l.length, .int .i64 j, .bool true, .int .i64 j, .slice A l.length c, .int .i64 j, .int .i64 p, .int .i64 p, .bool true, .bool true, .slice A l.length c, .int .i64 j, .bool false, .bool true, .bool true, u25, u26, u27, u28, u29, u30, u31, u32, u33, undef], defers := [] } ∧
            (lst L 0 = true → u25 = .map (some w1.heap.size)) ∧ (lst L 1 = true → u26 = .int .i64 p) ∧ (lst L 2 = true → u27 = .map (some w1.heap.size)) ∧ (lst L 3 = true → u28 = .int .i64 p) ∧
            (lst L 4 = true → u29 = v0) ∧ (lst L 5 = true → u30 = .int .i64 j) ∧
            (lst L 6 = false → lst L 7 = false ∧ lst L 8 = false ∧ Below w4.heap.size w4 w') ∧
            (lst L 6 = true → lst L 7 = false → lst L 8 = false ∧ ∃ k, u31 = .slice (some ⟨k, 0, none⟩) 1 1 ∧ Whole w' k 3 #[.int .i64 j] ∧ Below w4.heap.size w4 w') ∧
            (lst L 7 = true → lst L 8 = false → ∃ wa, Below w4.heap.size w4 wa ∧ wa.grownBy w' v0.ownBlock ∧ w'.ownsRow w.heap.size 3 1 u32 ((g p).length + 1) (intsV (g p) ++ [.int .i64 j]) ∧ (∀ k, u32.ownBlock = some k → v0.ownBlock = some k ∨ wa.heap.size ≤ k)) ∧
            (lst L 8 = true → ∀ k, k < 8 → lst L k = true) ∧
            (lst L 8 = true → ∃ es' clk' V' g', ChI w' w.heap.size w.heap.size (w1.heap.size + 1) w1.heap.size (.slice A l.length c) l es' clk' V' g' ∧ (∀ a, (g' a).length ≤ j + 1) ∧ Below w.heap.size w w')) (by kernel_rfl) (by kernel_rfl) ?_ ?_ ?_
          · refine ⟨u25, u26, u27, u28, u29, u30, u31, u32, rfl, ?_⟩
            simp [lst_none, (Below.refl w4.heap.size w4).drew]
          · rintro L a' w' i o hs ⟨u25, u26, u27, u28, u29, u30, u31, u32, rfl, q0, q1, q2, q3, q4, q5, q6, q7, q8, qa, q9⟩ hL ho hdep
            have hL : lst L i = false := hL
            have hi : i < 9 := by have := (Array.getElem?_eq_some_iff.1 ho).1; simpa using this
            have h8 : i < 8 → lst L 8 = false := fun h => by
              cases hb : lst L 8 with
              | false => rfl
              | true => rw [qa hb i h] at hL; cases hL
            have hK : lst L 8 = false → w'.cell? ⟨w1.heap.size + 1, 0, none⟩ = some (.map (some w1.heap.size)) ∧ NMap Tryz.prog 3 w' w1.heap.size es clk V := fun h => by
              cases h6 : lst L 6 with
              | false => exact ⟨hcell w' (q6 h6).2.2, HI4.out.map.map.here (q6 h6).2.2⟩
              | true =>
                cases h7 : lst L 7 with
                | false =>
                  obtain ⟨_, k, _, _, hb⟩ := q7 h6 h7
                  exact ⟨hcell w' hb, HI4.out.map.map.here hb⟩
                | true =>
                  obtain ⟨wa, hb, hg, hown, _⟩ := q8 h7 h
                  refine ⟨hg.cell (hcell wa hb) (fun e => hblk.2 e.symm), (HI4.out.map.map.here hb).block (hg.block _ (HI4.out.map.map.here hb).lt fun e => ?_)⟩
                  have hr0 := own_below hrow hb
                  rcases Nat.eq_zero_or_pos (g p).length with h0 | h0
                  · rcases hr0.2 with ⟨h1, _⟩ | ⟨g1, cap1, cur1, h1, _, hh1, _⟩
                    · rw [h1] at e; cases e
                    · rw [h1] at e
                      have e : w1.heap.size = g1 := Option.some.inj e
                      rw [← e, (HI4.out.map.map.here hb).is] at hh1; cases hh1
                  · obtain ⟨k, hk, cs, hc⟩ := row_block hr0 h0
                    have : w1.heap.size = k := Option.some.inj (e.trans hk)
                    rw [← this, (HI4.out.map.map.here hb).is] at hc; cases hc
            have n8 : ∀ k, k < 8 → k = i → lst (L.setIfInBounds k true) 8 = false := fun k hk e => by rw [lst_on, if_neg (by omega)]; exact h8 (by omega)
            rcases (by omega : i = 0 ∨ i = 1 ∨ i = 2 ∨ i = 3 ∨ i = 4 ∨ i = 5 ∨ i = 6 ∨ i = 7 ∨ i = 8) with rfl | rfl | rfl | rfl | rfl | rfl | rfl | rfl | rfl
            · have cc := (hK (h8 (by decide))).1
              simp at ho; subst ho
              refine op_val (v := .map (some w1.heap.size)) (w' := w') rfl rfl (by go_simp) ⟨.map (some w1.heap.size), u26, u27, u28, u29, u30, u31, u32, rfl, fun _ => rfl, ?_⟩
              exact ⟨by simpa [lst_on] using q1, by simpa [lst_on] using q2, by simpa [lst_on] using q3, by simpa [lst_on] using q4, by simpa [lst_on] using q5, by simpa [lst_on] using q6, by simpa [lst_on] using q7, by simpa [lst_on] using q8, fun h => absurd (n8 0 (by decide) rfl) (by rw [h]; decide), fun h => absurd (n8 0 (by decide) rfl) (by rw [h]; decide)⟩
            · simp at ho; subst ho
              refine op_val (v := .int .i64 p) (w' := w') rfl rfl (by go_simp) ⟨u25, (.int .i64 p), u27, u28, u29, u30, u31, u32, rfl, by simpa [lst_on] using q0, fun _ => rfl, by simpa [lst_on] using q2, by simpa [lst_on] using q3, by simpa [lst_on] using q4, by simpa [lst_on] using q5, by simpa [lst_on] using q6, by simpa [lst_on] using q7, by simpa [lst_on] using q8, fun h => absurd (n8 1 (by decide) rfl) (by rw [h]; decide), fun h => absurd (n8 1 (by decide) rfl) (by rw [h]; decide)⟩
            · have cc := (hK (h8 (by decide))).1
              simp at ho; subst ho
              refine op_val (v := .map (some w1.heap.size)) (w' := w') rfl rfl (by go_simp) ⟨u25, u26, (.map (some w1.heap.size)), u28, u29, u30, u31, u32, rfl, by simpa [lst_on] using q0, by simpa [lst_on] using q1, fun _ => rfl, by simpa [lst_on] using q3, by simpa [lst_on] using q4, by simpa [lst_on] using q5, by simpa [lst_on] using q6, by simpa [lst_on] using q7, by simpa [lst_on] using q8, fun h => absurd (n8 2 (by decide) rfl) (by rw [h]; decide), fun h => absurd (n8 2 (by decide) rfl) (by rw [h]; decide)⟩
            · simp at ho; subst ho
              refine op_val (v := .int .i64 p) (w' := w') rfl rfl (by go_simp) ⟨u25, u26, u27, (.int .i64 p), u29, u30, u31, u32, rfl, by simpa [lst_on] using q0, by simpa [lst_on] using q1, by simpa [lst_on] using q2, fun _ => rfl, by simpa [lst_on] using q4, by simpa [lst_on] using q5, by simpa [lst_on] using q6, by simpa [lst_on] using q7, by simpa [lst_on] using q8, fun h => absurd (n8 3 (by decide) rfl) (by rw [h]; decide), fun h => absurd (n8 3 (by decide) rfl) (by rw [h]; decide)⟩
            · have hm := (hK (h8 (by decide))).2
              have hlk := hm.look kInt Tryz.underlying77 p hkl (zero_ints _) false
              rw [hv0] at hlk
              simp only [Bool.false_eq_true, if_false] at hlk
              simp at ho; subst ho
              obtain rfl := q2 (getD_tt (hdep ⟨2, .data⟩ (by simp) rfl))
              obtain rfl := q3 (getD_tt (hdep ⟨3, .data⟩ (by simp) rfl))
              refine op_val (v := v0) (w' := w') rfl rfl (by go_simp) ⟨u25, u26, _, _, v0, u30, u31, u32, rfl, by simpa [lst_on] using q0, by simpa [lst_on] using q1, by simp [lst_on], by simp [lst_on], fun _ => rfl, by simpa [lst_on] using q5, by simpa [lst_on] using q6, by simpa [lst_on] using q7, by simpa [lst_on] using q8, fun h => absurd (n8 4 (by decide) rfl) (by rw [h]; decide), fun h => absurd (n8 4 (by decide) rfl) (by rw [h]; decide)⟩
            · simp at ho; subst ho
              refine op_val (v := .int .i64 j) (w' := w') rfl rfl (by go_simp) ⟨u25, u26, u27, u28, u29, (.int .i64 j), u31, u32, rfl, by simpa [lst_on] using q0, by simpa [lst_on] using q1, by simpa [lst_on] using q2, by simpa [lst_on] using q3, by simpa [lst_on] using q4, fun _ => rfl, by simpa [lst_on] using q6, by simpa [lst_on] using q7, by simpa [lst_on] using q8, fun h => absurd (n8 5 (by decide) rfl) (by rw [h]; decide), fun h => absurd (n8 5 (by decide) rfl) (by rw [h]; decide)⟩
            · obtain ⟨h7, _, hb⟩ := q6 hL
              simp at ho; subst ho
              obtain rfl := q5 (getD_tt (hdep ⟨5, .data⟩ (by simp) rfl))
              refine op_val (v := .slice (some ⟨w'.heap.size, 0, none⟩) 1 1) (w' := w'.alloc (.cells #[.int .i64 j] 3)) rfl rfl (by go_simp) ⟨u25, u26, u27, u28, u29, _, _, u32, rfl, by simpa [lst_on] using q0, by simpa [lst_on] using q1, by simpa [lst_on] using q2, by simpa [lst_on] using q3, by simpa [lst_on] using q4, by simp [lst_on], fun h => by simp [lst_on] at h, fun _ _ => ⟨n8 6 (by decide) rfl, _, rfl, Whole.new w' _ _, bel_alloc hb _⟩, fun h => by simp [lst_on, h7] at h, fun h => absurd (n8 6 (by decide) rfl) (by rw [h]; decide), fun h => absurd (n8 6 (by decide) rfl) (by rw [h]; decide)⟩
            · simp at ho; subst ho
              have d6 : lst L 6 = true := getD_tt (hdep ⟨6, .data⟩ (by simp) rfl)
              obtain rfl := q4 (getD_tt (hdep ⟨4, .data⟩ (by simp) rfl))
              obtain ⟨_, k, rfl, hW, hb⟩ := q7 d6 hL
              obtain ⟨i0, hi0, hz0, hz1, hz2⟩ := info_parts info_int
              obtain ⟨v1, w5, hr5, hown5, hg5, -, hat5⟩ := run_append_own_at (P := Tryz.prog) w' w.heap.size 39 39 3 i0 _ 1 8 Tryz.underlying39 hi0 hz0 hz1 hz2 rfl (by decide) u29 (g p).length (intsV (g p)) (own_below hrow hb) ⟨k, 0, none⟩ 1 1 [.int .i64 j] rfl (fun i u hu => by
                  rcases i with _ | i
                  · simp at hu; subst hu; rw [addA]; exact hW.cell 0
                  · simp at hu) (by simp [Value.oneCell']) (by have := HG.out p; unfold maxLen; omega) (by have := HG.out p; omega) (Nat.le_trans HB4.out.size hb.size)
              refine op_val (v := v1) (w' := w5) rfl rfl (exec_append rfl rfl rfl hr5) ⟨u25, u26, u27, u28, u29, u30, _, v1, rfl, by simpa [lst_on] using q0, by simpa [lst_on] using q1, by simpa [lst_on] using q2, by simpa [lst_on] using q3, by simp [lst_on], by simpa [lst_on] using q5, fun h => by simp [lst_on, d6] at h, fun _ h => by simp [lst_on] at h, fun _ _ => ⟨w', hb, hg5, hown5, fun k hk => ?_⟩, fun h => absurd (n8 7 (by decide) rfl) (by rw [h]; decide), fun h => absurd (n8 7 (by decide) rfl) (by rw [h]; decide)⟩
              rcases hat5 with h | h
              · exact .inl (h.symm.trans hk)
              · rw [h] at hk; exact .inr (Nat.le_of_eq (Option.some.inj hk))
            · simp at ho; subst ho
              have dd : ∀ k, k < 8 → lst L k = true := fun k hk => by
                rcases (by omega : k = 0 ∨ k = 1 ∨ k = 2 ∨ k = 3 ∨ k = 4 ∨ k = 5 ∨ k = 6 ∨ k = 7) with rfl | rfl | rfl | rfl | rfl | rfl | rfl | rfl
                · exact getD_tt (hdep ⟨0, .data⟩ (by simp) rfl)
                · exact getD_tt (hdep ⟨1, .data⟩ (by simp) rfl)
                · exact getD_tt (hdep ⟨2, .phase⟩ (by simp) rfl)
                · exact getD_tt (hdep ⟨3, .phase⟩ (by simp) rfl)
                · exact getD_tt (hdep ⟨4, .phase⟩ (by simp) rfl)
                · exact getD_tt (hdep ⟨5, .phase⟩ (by simp) rfl)
                · exact getD_tt (hdep ⟨6, .phase⟩ (by simp) rfl)
                · exact getD_tt (hdep ⟨7, .data⟩ (by simp) rfl)
              obtain rfl := q0 (dd 0 (by decide))
              obtain rfl := q1 (dd 1 (by decide))
              obtain ⟨wa, hb, hg, hown, hfr⟩ := q8 (dd 7 (by decide)) hL
              subst hv0
              have hgl := HG.out p
              obtain ⟨hm2, es', clk', hput, hM, hgs⟩ := HI4.out.map.upd hb hg hown hfr hin ⟨by omega, by omega⟩ (by omega)
              have hboxa := HI4.out.box.here hb
              have hchda := HI4.out.chd.here hb
              have hMB : w1.heap.size ≠ w.heap.size := fun e => by
                have h1 := HI4.out.map.map.is
                have h2 := HI4.out.box.is
                rw [e, h2] at h1; cases h1
              have hMC : w1.heap.size ≠ w1.heap.size + 1 := by omega
              have hbe := own_below HI4.out.own hb
              have hra := own_below hrow hb
              have hownT := (hbe.kept hg (rows_apart hbe hra (by decide))).kept hgs (by
                rcases hbe.2 with ⟨h1, _⟩ | ⟨g1, cap1, cur1, h1, _, hh1, _⟩
                · rw [h1]; exact .inl rfl
                · rw [h1]
                  refine .inr fun e => ?_
                  have e : g1 = w1.heap.size := Option.some.inj e
                  have := (HI4.out.map.map.here hb).is
                  rw [← e, hh1] at this; cases this)
              refine op_skip rfl rfl (w' := setBlock w' w1.heap.size (.map es' clk')) (by go_simp) ⟨_, _, u27, u28, u29, u30, u31, u32, rfl, by simp [lst_on], by simp [lst_on], by simpa [lst_on] using q2, by simpa [lst_on] using q3, by simpa [lst_on] using q4, by simpa [lst_on] using q5, fun h => by simp [lst_on, dd] at h, fun _ h => by simp [lst_on, dd] at h, fun _ h => by simp [lst_on] at h, fun _ k hk => by rw [lst_on, if_neg (by omega)]; exact dd k hk, fun _ => ⟨es', clk', _, _, ⟨(hboxa.kept hg (Ne.symm hblk.1)).kept hgs (by simpa using fun e => hMB e.symm), (hchda.kept hg (Ne.symm hblk.2)).kept hgs (by simp), hownT, hM⟩, fun a => ?_, ?_⟩⟩
              · by_cases e : a = p
                · subst e; simp only [if_true, List.length_append, List.length_singleton]; have := HG.out p; omega
                · simp only [if_neg e]; have := HG.out a; omega
              · exact ((HB4.out.trans (hb.mono HB4.out.size)).grown hg (Nat.le_trans HB4.out.size hb.size) fun k hk => (hra.lt k hk).1).grown hgs (Nat.le_trans HB4.out.size (Nat.le_trans hb.size hg.size)) fun k hk => by have := Option.some.inj hk; omega
          · rintro L a' w' hs hall ⟨u25, u26, u27, u28, u29, u30, u31, u32, rfl, q0, q1, q2, q3, q4, q5, q6, q7, q8, qa, q9⟩
            obtain ⟨es', clk', V', g', r1, r2, r3⟩ := q9 (hall 8 (by simp))
            have R1 := Lib.hid r1
            have R2 := Lib.hid r2
            have R3 := Lib.hid r3
            clear r1 r2 r3 q0 q1 q2 q3 q4 q5 q6 q7 q8 qa q9 hall
            go_wp2
            go_roundw
            case rel => exact ⟨j + 1, es', clk', V', g', by omega, by go_num, R1, R2, R3⟩
            case measure => first | (simp [intOf]; done) | (simp [intOf]; omega)
    · obtain rfl : j = l.length := by omega
      go_wp2
      go_ret
      exact ⟨⟨_, _, _, _, _, _, _, _, rfl, HI.out⟩, HB.out⟩
end Go.Proofs.YtfnjojdiiklleaaGreat
namespace Go.Proofs.YtfnjojdiiklleaaGreat
open Go.RowKit Go.Maps Go.ChangeMaps Go.WideMaps Pl

attribute [local go_sem] Oper.semAt_some

theorem RoundIn.anyW {m m' : Nat} {P : Program} {l : Nat} {f : FuncId} {tmps : Array Value} {assign body : Code} {w : World} {R : Ending → World → Prop}
    (h : RoundIn Fence.wide m P l f tmps assign body w R) : RoundIn Fence.wide m' P l f tmps assign body w R := ⟨h.1, fun c cs _ => h.2 c cs (room_wide _)⟩
theorem YieldAt.anyW {m m' : Nat} {P : Program} {l : Nat} {args : Array Value} {W : World} {R : Ending → World → Prop} (h : YieldAt Fence.wide m P l args W R) : YieldAt Fence.wide m' P l args W R := by
  obtain ⟨fn, tmps, assign, body, hy, hR⟩ := h
  exact ⟨fn, tmps, assign, body, hy, RoundIn.anyW hR⟩
theorem op_enter {P : Program} {ops : Array Oper} {Q : Exit → Act → World → Prop} {i : Nat} {o : Oper} {f : FuncId} {args : Array Value} {a : Act} {w w' : World} {K : Act → World → Prop} (h0 : ops[i]? = some o) (hg : o.guard = none) (hr : (execOp a.eval o).run P w = .ok (.enter f args) w')
    {R : Ending → World → Prop} (hc : Calls P f args w' R) (hk : ∀ e w'', R e w'' → ∃ v, e = .returned v ∧ K (a.put o.dst v) w'') : wpOp P ops Q i K a w := by
  unfold wpOp
  simp only [h0]
  rw [if_pos (by unfold Region.wanted; rw [hg])]
  refine .inl ?_
  unfold Oper.wp
  rw [hr, Oper.upon_enter]
  refine hc.mono fun e w'' h => ?_
  obtain ⟨v, rfl, h2⟩ := hk e w'' h
  exact h2
theorem ints_val {w : World} {base n : Nat} {v : Value} {xs : List Value} {e : TypeId} {s : Nat} (h : w.ownsRow base e s v n xs) : ∃ A c, v = .slice A n c := by
  rcases h.2 with ⟨rfl, h0⟩ | ⟨g1, cap1, cur1, rfl, _⟩
  · subst h0; exact ⟨_, _, rfl⟩
  · exact ⟨_, _, rfl⟩
theorem Tracks.whole1 {w : World} {k : Nat} {t : Tk} (h : Whole w k 27 t.cells.toArray) : Tracks w (.slice (some ⟨k, 0, none⟩) 1 1) [t] :=
  ⟨_, 1, rfl, Nat.le_refl _, (fun h => by cases h), fun _ => ⟨k, 0, rfl, h.lt, fun j u hu => by
    rcases j with _ | j
    · simp at hu; subst hu
      exact ⟨h.cell 0, h.cell 1, h.cell 2, h.cell 3, h.cell 4, h.cell 5, h.cell 6, h.cell 7, h.cell 8, h.cell 9⟩
    · simp at hu⟩⟩
theorem tracks_snoc_own {w : World} {base : Nat} {v : Value} {l : List Tk} {t : Tk} (h : w.ownsRow base 27 10 v (l.length + 1) (cellsT l ++ cellsT [t])) : Tracks w v (l ++ [t]) := by
  rw [← cellsT_append] at h
  exact Tracks.own h

/-- What the closures capture: boxes of the tracks, of the children, of yield, of down itself. -/
structure DnI (w : World) (base B C M Y D lr : Nat) (x : Value) (l : List Tk) (es : Array MapEntry) (clk : Nat) (V : Int → Option Value) (g : Int → List Int) : Prop where
  chi : ChI w base B C M x l es clk V g
  yld : Whole w Y 78 #[.func (.yield lr) #[] #[]]
  dwn : Whole w D 33 #[.func (.func 40) #[] #[.pointer (some ⟨B, 0, none⟩), .pointer (some ⟨C, 0, none⟩), .pointer (some ⟨Y, 0, none⟩), .pointer (some ⟨D, 0, none⟩)]]
theorem DnI.here {w w' : World} {base B C M Y D lr : Nat} {x : Value} {l : List Tk} {es : Array MapEntry} {clk : Nat} {V : Int → Option Value} {g : Int → List Int} (h : DnI w base B C M Y D lr x l es clk V g) (hb : Below w.heap.size w w') : DnI w' base B C M Y D lr x l es clk V g :=
  ⟨h.chi.here hb, h.yld.here hb, h.dwn.here hb⟩
set_option maxRecDepth 100000 in
set_option maxHeartbeats 16000000 in
theorem down_in {W0 : World} {base B C M Y D lr : Nat} {x : Value} {l : List Tk} {es : Array MapEntry} {clk : Nat} {V : Int → Option Value} {g : Int → List Int}
    (h0 : DnI W0 base B C M Y D lr x l es clk V g) (hok : ∀ t ∈ l, TkOk t) (hl : l.length ≤ 1000)
    (hY : ∀ m v t W1, Below W0.heap.size W0 W1 → Tracks W1 v t → (∀ u ∈ t, u ∈ l) → t.length ≤ 1000 → YieldAt Fence.wide m Tryz.prog lr #[v] W1 fun e W' => e = .returned (.bool true) ∧ Below W1.heap.size W1 W') :
    ∀ (k n : Nat) (v : Value) (t : List Tk) (i : Nat) (W : World), l.length ≤ i + k → Below W0.heap.size W0 W → Tracks W v t → (∀ u ∈ t, u ∈ l) → i < l.length → t.length ≤ i →
      CallsIn Fence.wide n Tryz.prog 40 #[v, .int .i64 i, .pointer (some ⟨B, 0, none⟩), .pointer (some ⟨C, 0, none⟩), .pointer (some ⟨Y, 0, none⟩), .pointer (some ⟨D, 0, none⟩)] W fun e W' => e = .returned (.bool true) ∧ Below W.heap.size W W' := by
  intro k
  induction k with
  | zero => intro n v t i W hk _ _ _ hi; omega
  | succ k ih =>
    intro n v t i W hk hbW ht htl hi hti
    have IH := Lib.hid ih
    have HY := Lib.hid hY
    have HBW := Lib.hid hbW
    have HT := Lib.hid ht
    have H0 := Lib.hid h0
    have HD := Lib.hid (h0.here hbW)
    have HOK := Lib.hid hok
    have HTL := Lib.hid htl
    obtain ⟨A, cA, rfl⟩ := tracks_val h0.chi.tracks
    obtain ⟨tk, htk⟩ : ∃ tk, l[i]? = some tk := ⟨_, List.getElem?_eq_getElem hi⟩
    obtain ⟨b, off, rfl, hb, hq⟩ := HD.out.chi.tracks.at htk
    have HTK := Lib.hid htk
    have HQ := Lib.hid hq
    have HTOK : Hid (∀ u ∈ t, TkOk u) := Lib.hid fun u hu => hok u (htl u hu)
    have hok1 := hok tk (List.mem_of_getElem? htk)
    clear ih hY hbW ht h0 hok htl htk hq
    refine callsIn_of_wp Tryz.func40 rfl trivial ?_ rfl
    simp only [Tryz.ntmps40, List.size_toArray, List.length_cons, List.length_nil, Nat.reduceAdd, Nat.reduceSub, Array.replicate_succ, Array.replicate_zero, List.push_toArray, List.append_toArray, List.nil_append, List.cons_append]
    gi_upto_region 1 with fail
    refine wpIn_wide.2 (wp_region_inv (I := fun L a' w' => ∃ u11 u12 u13 u14 u15 u16 u17 u18 u0 : Value, a' = { tmps := #[u0, .int .i64 i, .pointer (some ⟨B, 0, none⟩), .pointer (some ⟨C, 0, none⟩), .pointer (some ⟨Y, 0, none⟩), .pointer (some ⟨D, 0, none⟩), undef, undef, .bool false, undef, undef, u11, u12, u13, u14, u15, u16, u17, u18, undef, undef, undef, undef, undef, undef, undef, undef, undef, undef, undef, undef, undef, undef, undef, undef, undef, undef, undef, undef, undef, undef], defers := [] } ∧ Below W.heap.size W w' ∧
      (lst L 8 = false → u0 = v) ∧ (lst L 0 = true → u11 = v) ∧ (lst L 2 = true → u13 = (.slice (some ⟨b, off, none⟩) l.length cA)) ∧ (lst L 3 = true → u14 = .int .i64 i) ∧ (lst L 4 = true → u15 = (.pointer (some ⟨b, off + i * 10, none⟩))) ∧ (lst L 5 = true → u16 = tk.val) ∧
      (lst L 1 = true → lst L 7 = false → w'.ownsRow W.heap.size 27 10 u12 t.length (cellsT t)) ∧
      (lst L 6 = true → lst L 7 = false → ∃ k, u17 = .slice (some ⟨k, 0, none⟩) 1 1 ∧ Whole w' k 27 tk.cells.toArray) ∧
      (lst L 7 = true → Tracks w' u18 (t ++ [tk])) ∧ (lst L 8 = true → u0 = u18) ∧ (lst L 1 = true → lst L 0 = true) ∧ (lst L 7 = true → lst L 1 = true ∧ lst L 6 = true) ∧ (lst L 8 = true → lst L 7 = true)) (by kernel_rfl) (by kernel_rfl) ?_ ?_ ?_)
    · refine ⟨_, _, _, _, _, _, _, _, _, rfl, (Below.refl _ W).drew, ?_⟩
      simp [lst_none]
    · rintro L a' w' j o hs ⟨u11, u12, u13, u14, u15, u16, u17, u18, u0, rfl, hB, z0, z1, z2, z3, z4, z5, z6, z7, z8, z9, za, zb, zc⟩ hL ho hdep
      have hL : lst L j = false := hL
      have hj : j < 9 := by have := (Array.getElem?_eq_some_iff.1 ho).1; simpa using this
      have HD2 := HD.out.here hB
      have cB : w'.cell? ⟨B, 0, none⟩ = some (.slice (some ⟨b, off, none⟩) l.length cA) := HD2.chi.box.cell 0
      obtain ⟨c0, c1, c2, c3, c4, c5, c6, c7, c8, c9⟩ : trackQ w' b (off + i * 10) tk := HQ.out.below hb hB
      have n1 : lst L 1 = false → lst L 7 = false := fun h => by
        cases h7 : lst L 7 with
        | false => rfl
        | true => rw [(zb h7).1] at h; cases h
      have n6 : lst L 6 = false → lst L 7 = false := fun h => by
        cases h7 : lst L 7 with
        | false => rfl
        | true => rw [(zb h7).2] at h; cases h
      have n8 : lst L 7 = false → lst L 8 = false := fun h => by
        cases h8 : lst L 8 with
        | false => rfl
        | true => rw [zc h8] at h; cases h
      rcases (by omega : j = 0 ∨ j = 1 ∨ j = 2 ∨ j = 3 ∨ j = 4 ∨ j = 5 ∨ j = 6 ∨ j = 7 ∨ j = 8) with rfl | rfl | rfl | rfl | rfl | rfl | rfl | rfl | rfl
      · have e1 : lst L 1 = false := by
          cases h1 : lst L 1 with
          | false => rfl
          | true => rw [za h1] at hL; cases hL
        have e8 := n8 (n1 e1)
        obtain rfl := z0 e8
        simp at ho; subst ho
        refine op_val (v := u0) (w' := w') rfl rfl (by go_simp) ⟨u0, u12, u13, u14, u15, u16, u17, u18, u0, rfl, hB, by simp [lst_on], fun _ => rfl, by simpa [lst_on] using z2, by simpa [lst_on] using z3, by simpa [lst_on] using z4, by simpa [lst_on] using z5, by simpa [lst_on] using z6, by simpa [lst_on] using z7, by simpa [lst_on] using z8, by simpa [lst_on] using z9, fun _ => by simp [lst_on], by simpa [lst_on] using zb, by simpa [lst_on] using zc⟩
      · have e7 := n1 hL
        have e8 := n8 e7
        have d0 : lst L 0 = true := getD_tt (hdep ⟨0, .data⟩ (by simp at ho; subst ho; simp) rfl)
        obtain rfl := z1 d0
        simp at ho; subst ho
        refine op_enter (f := 37) (args := #[u11]) (w' := w') rfl rfl (by go_simp) (cloneT_any _ t w' (HT.out.here hB) HTOK.out (by omega)) ?_
        rintro e w2 ⟨⟨y, rfl, hown⟩, hb2⟩
        refine ⟨y, rfl, u11, y, u13, u14, u15, u16, u17, u18, u0, rfl, hB.trans (hb2.mono hB.size), by simpa [lst_on] using z0, by simp [lst_on], by simpa [lst_on] using z2, by simpa [lst_on] using z3, by simpa [lst_on] using z4, by simpa [lst_on] using z5, fun _ _ => ownsRow_base hB.size hown, fun h6 _ => by obtain ⟨k2, h1, h2⟩ := z7 (by simpa [lst_on] using h6) e7; exact ⟨k2, h1, h2.here hb2⟩, fun h => by simp [lst_on, e7] at h, by simpa [lst_on] using z9, fun _ => by simp [lst_on, d0], fun h => by simp [lst_on, e7] at h, by simpa [lst_on] using zc⟩
      · simp at ho; subst ho
        refine op_val (v := (.slice (some ⟨b, off, none⟩) l.length cA)) (w' := w') rfl rfl (by go_simp) ⟨u11, u12, _, u14, u15, u16, u17, u18, u0, rfl, hB, by simpa [lst_on] using z0, by simpa [lst_on] using z1, fun _ => rfl, by simpa [lst_on] using z3, by simpa [lst_on] using z4, by simpa [lst_on] using z5, by simpa [lst_on] using z6, by simpa [lst_on] using z7, by simpa [lst_on] using z8, by simpa [lst_on] using z9, by simpa [lst_on] using za, by simpa [lst_on] using zb, by simpa [lst_on] using zc⟩
      · simp at ho; subst ho
        refine op_val (v := .int .i64 i) (w' := w') rfl rfl (by go_simp) ⟨u11, u12, u13, _, u15, u16, u17, u18, u0, rfl, hB, by simpa [lst_on] using z0, by simpa [lst_on] using z1, by simpa [lst_on] using z2, fun _ => rfl, by simpa [lst_on] using z4, by simpa [lst_on] using z5, by simpa [lst_on] using z6, by simpa [lst_on] using z7, by simpa [lst_on] using z8, by simpa [lst_on] using z9, by simpa [lst_on] using za, by simpa [lst_on] using zb, by simpa [lst_on] using zc⟩
      · simp at ho; subst ho
        obtain rfl := z2 (getD_tt (hdep ⟨2, .data⟩ (by simp) rfl))
        obtain rfl := z3 (getD_tt (hdep ⟨3, .data⟩ (by simp) rfl))
        refine op_val (v := (.pointer (some ⟨b, off + i * 10, none⟩))) (w' := w') rfl rfl (by go_simp) ⟨u11, u12, _, _, _, u16, u17, u18, u0, rfl, hB, by simpa [lst_on] using z0, by simpa [lst_on] using z1, by simp [lst_on], by simp [lst_on], fun _ => rfl, by simpa [lst_on] using z5, by simpa [lst_on] using z6, by simpa [lst_on] using z7, by simpa [lst_on] using z8, by simpa [lst_on] using z9, by simpa [lst_on] using za, by simpa [lst_on] using zb, by simpa [lst_on] using zc⟩
      · simp at ho; subst ho
        obtain rfl := z4 (getD_tt (hdep ⟨4, .data⟩ (by simp) rfl))
        refine op_val (v := tk.val) (w' := w') rfl rfl (by go_simp; rfl) ⟨u11, u12, u13, u14, _, _, u17, u18, u0, rfl, hB, by simpa [lst_on] using z0, by simpa [lst_on] using z1, by simpa [lst_on] using z2, by simpa [lst_on] using z3, by simp [lst_on], fun _ => rfl, by simpa [lst_on] using z6, by simpa [lst_on] using z7, by simpa [lst_on] using z8, by simpa [lst_on] using z9, by simpa [lst_on] using za, by simpa [lst_on] using zb, by simpa [lst_on] using zc⟩
      · simp at ho; subst ho
        obtain rfl := z5 (getD_tt (hdep ⟨5, .data⟩ (by simp) rfl))
        have e7 := n6 hL
        refine op_val (v := .slice (some ⟨w'.heap.size, 0, none⟩) 1 1) (w' := w'.alloc (.cells tk.cells.toArray 27)) rfl rfl (by simp only [Tk.val, Tk.cells]; go_simp) ⟨u11, u12, u13, u14, u15, _, _, u18, u0, rfl, bel_alloc hB _, by simpa [lst_on] using z0, by simpa [lst_on] using z1, by simpa [lst_on] using z2, by simpa [lst_on] using z3, by simpa [lst_on] using z4, by simp [lst_on], fun h1 _ => (z6 (by simpa [lst_on] using h1) e7).alloc _, fun _ _ => ⟨_, rfl, Whole.new w' _ _⟩, fun h => by simp [lst_on, e7] at h, by simpa [lst_on] using z9, by simpa [lst_on] using za, fun h => by simp [lst_on, e7] at h, by simpa [lst_on] using zc⟩
      · simp at ho; subst ho
        have d1 : lst L 1 = true := getD_tt (hdep ⟨1, .data⟩ (by simp) rfl)
        have d6 : lst L 6 = true := getD_tt (hdep ⟨6, .data⟩ (by simp) rfl)
        have hown := z6 d1 hL
        obtain ⟨k2, rfl, hW2⟩ := z7 d6 hL
        obtain ⟨i0, hi0, hz0, hz1, hz2⟩ := info_parts info_track
        obtain ⟨v1, w5, hr5, hown5, hg5, -, -⟩ := run_append_own_at (P := Tryz.prog) w' W.heap.size 22 22 27 i0 _ 10 80 Tryz.underlying22 hi0 hz0 hz1 hz2 rfl (by decide) u12 t.length (cellsT t) hown ⟨k2, 0, none⟩ 1 1 (cellsT [tk]) (by rw [cellsT_len]; rfl) (Tracks.whole1 hW2).news (cellsT_oneCell (fun u hu => by simp at hu; subst hu; exact hok1)) (by unfold maxLen; omega) (by omega) hB.size
        have hb5 := hB.grown hg5 hB.size fun k hk => (hown.lt k hk).1
        have e8 := n8 hL
        refine op_val (v := v1) (w' := w5) rfl rfl (exec_append rfl rfl rfl hr5) ⟨u11, u12, u13, u14, u15, u16, _, v1, u0, rfl, hb5, by simpa [lst_on] using z0, by simpa [lst_on] using z1, by simpa [lst_on] using z2, by simpa [lst_on] using z3, by simpa [lst_on] using z4, by simpa [lst_on] using z5, fun _ h => by simp [lst_on] at h, fun _ h => by simp [lst_on] at h, fun _ => tracks_snoc_own hown5, fun h => by simp [lst_on, e8] at h, by simpa [lst_on] using za, fun _ => by simp [lst_on, d1, d6], fun h => by simp [lst_on, e8] at h⟩
      · simp at ho; subst ho
        have d7 : lst L 7 = true := getD_tt (hdep ⟨7, .data⟩ (by simp) rfl)
        refine op_val (v := u18) (w' := w') rfl rfl (by go_simp) ⟨u11, u12, u13, u14, u15, u16, u17, u18, u18, rfl, hB, fun h => by simp [lst_on] at h, by simpa [lst_on] using z1, by simpa [lst_on] using z2, by simpa [lst_on] using z3, by simpa [lst_on] using z4, by simpa [lst_on] using z5, by simpa [lst_on] using z6, by simpa [lst_on] using z7, by simpa [lst_on] using z8, fun _ => rfl, by simpa [lst_on] using za, by simpa [lst_on] using zb, fun _ => by simp [lst_on, d7]⟩
    · rintro L a' w1 hs hall ⟨u11, u12, u13, u14, u15, u16, u17, u18, u0, rfl, hB, z0, z1, z2, z3, z4, z5, z6, z7, z8, z9, za, zb, zc⟩
      obtain rfl := z9 (hall 8 (by simp))
      have HT1 := Lib.hid (z8 (hall 7 (by simp)))
      have HB1 := Lib.hid hB
      clear z0 z1 z2 z3 z4 z5 z6 z7 z8 z9 za zb zc hall hB
      have HD1 := Lib.hid (HD.out.here HB1.out)
      have hBW1 : Below W0.heap.size W0 w1 := HBW.out.trans (HB1.out.mono HBW.out.size)
      have HBW1 := Lib.hid hBW1
      obtain ⟨v0, hv0⟩ : ∃ v0, (V i).getD (.slice none 0 0) = v0 := ⟨_, rfl⟩
      have hin : In64 (i : Int) := ⟨by omega, by omega⟩
      obtain ⟨kl, hkl⟩ := key_int hin
      have hrow : w1.ownsRow base 3 1 v0 (g i).length (intsV (g i)) := by rw [← hv0]; exact HD1.out.chi.map.found i
      have HROW := Lib.hid hrow
      have hgn := HD.out.chi.map.in_ i
      have hlen : (g (i : Int)).length ≤ 1000 := by
        cases hV : V i with
        | none => rw [HD.out.chi.map.lack _ hV]; simp
        | some u => have := (HD.out.chi.map.row _ u hV).2.2; omega
      have cC : w1.cell? ⟨C, 0, none⟩ = some (.map (some M)) := HD1.out.chi.chd.cell 0
      have cY : w1.cell? ⟨Y, 0, none⟩ = some (.func (.yield lr) #[] #[]) := HD1.out.yld.cell 0
      have hlk := HD1.out.chi.map.map.look kInt Tryz.underlying77 i hkl (zero_ints _) false
      rw [hv0] at hlk
      simp only [Bool.false_eq_true, if_false] at hlk
      have hlt1 : (t ++ [tk]).length ≤ 1000 := by simp; omega
      have hmem : ∀ u ∈ t ++ [tk], u ∈ l := fun u hu => by
        rcases List.mem_append.1 hu with h | h
        · exact HTL.out u h
        · simp at h; subst h; exact List.mem_of_getElem? HTK.out
      obtain ⟨A0, c0, rfl⟩ := ints_val hrow
      have HMEM := Lib.hid hmem
      have HGN := Lib.hid hgn
      clear hrow hv0 hmem hgn
      by_cases hz : (g (i : Int)).length = 0
      · obtain ⟨fn, tmps, assign, bdy, hy, hR⟩ := HY.out (n - 1) u0 (t ++ [tk]) w1 HBW1.out HT1.out HMEM.out hlt1
        rw [hz] at hlk
        gi_wp2_with ((try refine ⟨(fun h => by cases h), ?_⟩); refine hR.mono ?_; clear hR; rintro e W2 ⟨rfl, hb2⟩)
        go_ret
        exact ⟨rfl, HB1.out.trans (hb2.mono HB1.out.size)⟩
      · have hz' : (((g (i : Int)).length : Int) == 0) = false := by
          have : ((g (i : Int)).length : Int) ≠ 0 := by omega
          simpa using this
        gi_wp2
        try simp only [hz']
        gi_loopw [31] (fun z wr => ∃ j : Nat, j ≤ (g (i : Int)).length ∧ z = .int .i64 j ∧ Below w1.heap.size w1 wr) (fun z _ => (g (i : Int)).length - (intOf z).toNat)
        case atStart => exact ⟨0, Nat.zero_le _, rfl, Below.refl _ _⟩
        case round =>
          obtain ⟨j, hj, rfl, hbr⟩ := hrel
          by_cases hlt : j < (g (i : Int)).length
          · obtain ⟨kk, hkk⟩ : ∃ kk, (g (i : Int))[j]? = some kk := ⟨_, List.getElem?_eq_getElem hlt⟩
            have hkin := HGN.out kk (List.mem_of_getElem? hkk)
            obtain ⟨kn, rfl⟩ : ∃ kn : Nat, kk = kn := ⟨kk.toNat, by omega⟩
            have hrr := own_below HROW.out hbr
            rcases hrr.2 with ⟨h1, h2⟩ | ⟨gb, cap, cur, h1, _, _⟩
            · omega
            · injection h1 with h1 _ h3
              subst h1 h3
              have cE : wr.cell? ⟨gb, j, none⟩ = some (.int .i64 kn) := by
                have := hrr.cells (g := gb) rfl j (.int .i64 kn) (by simp [intsV, hkk])
                rw [addA] at this; simpa using this
              have hBr : Below W0.heap.size W0 wr := HBW1.out.trans (hbr.mono HBW1.out.size)
              have cD := (HD.out.here (HB1.out.trans (hbr.mono HB1.out.size))).dwn.cell 0
              have HIH := Lib.hid (IH.out (n - 1) u0 (t ++ [tk]) kn wr (by omega) hBr (HT1.out.here hbr) HMEM.out (by omega) (by simp; omega))
              clear hrr hkin hkk hBr
              gi_wp2
              refine ⟨trivial, (fun h => by cases h), HIH.out.mono ?_⟩
              rintro e W2 ⟨rfl, hb2⟩
              gi_wp2
              go_roundw
              case rel => exact ⟨j + 1, by omega, by go_num, hbr.trans (hb2.mono hbr.size)⟩
              case measure => first | (simp [intOf]; done) | (simp [intOf]; omega)
          · obtain rfl : j = (g (i : Int)).length := by omega
            gi_wp2
            go_ret
            exact ⟨rfl, HB1.out.trans (hbr.mono HB1.out.size)⟩
end Go.Proofs.YtfnjojdiiklleaaGreat
namespace Go.Proofs.YtfnjojdiiklleaaGreat
open Go.RowKit Go.Maps Go.ChangeMaps Go.WideMaps Pl

attribute [local go_sem] Oper.semAt_some

set_option maxRecDepth 100000 in
set_option maxHeartbeats 16000000 in
theorem chains1_in {W : World} {base B C M lr : Nat} {x : Value} {l : List Tk} {es : Array MapEntry} {clk : Nat} {V : Int → Option Value} {g : Int → List Int}
    (h : ChI W base B C M x l es clk V g) (hok : ∀ t ∈ l, TkOk t) (hl : l.length ≤ 1000)
    (hY : ∀ m v t W1, Below W.heap.size W W1 → Tracks W1 v t → (∀ u ∈ t, u ∈ l) → t.length ≤ 1000 → YieldAt Fence.wide m Tryz.prog lr #[v] W1 fun e W' => e = .returned (.bool true) ∧ Below W1.heap.size W1 W') (n : Nat) :
    CallsIn Fence.wide n Tryz.prog 39 #[.func (.yield lr) #[] #[], .pointer (some ⟨B, 0, none⟩), .pointer (some ⟨C, 0, none⟩)] W fun e W' => (∃ v, e = .returned v) ∧ Below W.heap.size W W' := by
  have HX := Lib.hid h
  obtain ⟨A, cA, rfl⟩ := tracks_val h.tracks
  have HL := Lib.hid hok
  refine callsIn_of_wp Tryz.func39 rfl trivial ?_ rfl
  simp only [Tryz.ntmps39, List.size_toArray, List.length_cons, List.length_nil, Nat.reduceAdd, Nat.reduceSub, Array.replicate_succ, Array.replicate_zero, List.push_toArray, List.append_toArray, List.nil_append, List.cons_append]
  gi_upto_region 3 with fail
  obtain ⟨W0, hW0⟩ : ∃ W0, ((W.alloc (.cells #[.func (.yield lr) #[] #[]] 78)).alloc (.cells #[(.func (.func 40) #[] #[.pointer (some ⟨B, 0, none⟩), .pointer (some ⟨C, 0, none⟩), .pointer (some ⟨W.heap.size, 0, none⟩), .pointer (some ⟨W.heap.size + 1, 0, none⟩)])] 33)) = W0 := ⟨_, rfl⟩
  rw [hW0]
  have hb0 : Below W.heap.size W W0 := by
    rw [← hW0]
    exact bel_alloc (bel_alloc (Below.refl _ W) _) _
  have HB0 := Lib.hid hb0
  have HD : Hid (DnI W0 base B C M W.heap.size (W.heap.size + 1) lr (.slice A l.length cA) l es clk V g) := Lib.hid (by
    refine ⟨HX.out.here hb0, ?_, ?_⟩
    · rw [← hW0]
      exact (Whole.new W _ _).alloc _
    · rw [← hW0]
      have := Whole.new (W.alloc (.cells #[.func (.yield lr) #[] #[]] 78)) 33 #[(.func (.func 40) #[] #[.pointer (some ⟨B, 0, none⟩), .pointer (some ⟨C, 0, none⟩), .pointer (some ⟨W.heap.size, 0, none⟩), .pointer (some ⟨W.heap.size + 1, 0, none⟩)])]
      rwa [World.size_alloc] at this)
  have HDN := Lib.hid fun (k n : Nat) (v : Value) (t : List Tk) (i : Nat) (W' : World) (hk : l.length ≤ i + k) => down_in HD.out hok hl (fun m v t W1 hb => hY m v t W1 (hb0.trans (hb.mono hb0.size))) k n v t i W' hk
  have cB : W0.cell? ⟨B, 0, none⟩ = some (.slice A l.length cA) := HD.out.chi.box.cell 0
  clear hb0 hW0 hY hok h
  gi_wp2
  gi_loopw [9] (fun z wr => ∃ j : Nat, j ≤ l.length ∧ z = .int .i64 j ∧ Hid (Below W0.heap.size W0 wr)) (fun z _ => l.length - (intOf z).toNat)
  case atStart => exact ⟨0, Nat.zero_le _, rfl, Lib.hid (Below.refl _ _)⟩
  case round =>
    obtain ⟨j, hj, rfl, HR⟩ := hrel
    by_cases hlt : j < l.length
    · have HDr := Lib.hid (HD.out.here HR.out)
      have dB : wr.cell? ⟨B, 0, none⟩ = some (.slice A l.length cA) := HDr.out.chi.box.cell 0
      have HBG := Lib.hid (begins_any _ l j wr HDr.out.chi.tracks hlt (by omega))
      cases hbg : begP l j with
      | false =>
        rw [hbg] at HBG
        gi_wp2
        refine ⟨trivial, (fun h => by cases h), (callsIn_wide.2 HBG.out).mono ?_⟩
        rintro e w2 ⟨rfl, hb2⟩
        have HR2 := Lib.hid (HR.out.trans (hb2.mono HR.out.size))
        clear hb2
        gi_wp2
        refine ⟨(fun _ h => by cases h), ?_⟩
        gi_wp2
        go_roundw
        case rel => exact ⟨j + 1, by omega, by go_num, HR2⟩
        case measure => first | (simp [intOf]; done) | (simp [intOf]; omega)
      | true =>
        rw [hbg] at HBG
        gi_wp2
        refine ⟨trivial, (fun h => by cases h), (callsIn_wide.2 HBG.out).mono ?_⟩
        rintro e w2 ⟨rfl, hb2⟩
        have HR2 := Lib.hid (HR.out.trans (hb2.mono HR.out.size))
        clear hb2
        have HN := Lib.hid (HDN.out (l.length - j) (n - 1) (.slice none 0 0) [] j w2 (by omega) HR2.out ⟨none, 0, rfl, Nat.le_refl _, fun _ => rfl, fun h => absurd h (by simp)⟩ (fun u hu => by cases hu) hlt (Nat.zero_le _))
        have cD := (HD.out.here HR2.out).dwn.cell 0
        gi_wp2
        refine ⟨trivial, (fun h => by cases h), HN.out.mono ?_⟩
        rintro e w3 ⟨rfl, hb3⟩
        have HR3 := Lib.hid (HR2.out.trans (hb3.mono HR2.out.size))
        clear hb3
        gi_wp2
        go_roundw
        case rel => exact ⟨j + 1, by omega, by go_num, HR3⟩
        case measure => first | (simp [intOf]; done) | (simp [intOf]; omega)
    · obtain rfl : j = l.length := by omega
      gi_wp2
      go_end0
      exact ⟨⟨_, rfl⟩, HB0.out.trans (HR.out.mono HB0.out.size)⟩
end Go.Proofs.YtfnjojdiiklleaaGreat
