/- Part 4 of the proof: ActD, ActE, ActF, PlainU, HexR, Unhex, ActG. -/
import Derived.OwnWalkIn
import Derived.WalkMore
import Derived.Test.YtfbangojgjcbcaaGreatDoorSA01
import Derived.Test.YtfbangojgjcbcaaGreatDoorSA02
import Derived.Test.YtfbangojgjcbcaaGreatDoorSA03
namespace Go.Proofs.YtfbangojgjcbcaaGreatDoor
open Go.RowKit Pl Go.Shelf
theorem either_any (b : Bool) (s t : ByteArray) (w : World) : Calls Tryz.prog 137 #[.bool b, .string s, .string t] w fun e w' => e = .returned (.string (if b then s else t)) ∧ w = w' := by
  cases b with
  | true =>
    go_enter Tryz.func137, Tryz.ntmps137
    go_wp2
    go_ret
    exact ⟨rfl, rfl⟩
  | false =>
    go_enter Tryz.func137, Tryz.ntmps137
    go_wp2
    go_ret
    exact ⟨rfl, rfl⟩
theorem chex_any (v : Value) (l : List UInt8) (w : World) (h : Bs w v l) (hl : l.length ≤ 1000000) :
    Calls Tryz.prog 138 #[v] w fun e w' => e = .returned (.string (str (hexD l))) ∧ Below w.heap.size w w' := by
  have HH := Lib.hid (hex_any v l w h hl)
  obtain ⟨A, c, rfl, -⟩ := h
  by_cases h0 : 0 < l.length
  · have HR : Hid (str (hexText l) = str (hexD l)) := Lib.hid (by
      unfold hexD
      rw [if_neg (by intro e; rw [e] at h0; simp at h0)])
    go_enter Tryz.func138, Tryz.ntmps138
    go_wp2_with fail
    refine HH.out.mono ?_
    rintro e w1 ⟨rfl, hb⟩
    have HB := Lib.hid hb
    clear hb
    go_wp2_with fail
    refine (either_any _ _ _ _).mono ?_
    rintro e w2 ⟨rfl, rfl⟩
    go_wp2
    go_ret
    exact ⟨by rw [← HR.out]; rfl, HB.out⟩
  · have h1 : l = [] := List.eq_nil_of_length_eq_zero (by omega)
    subst h1
    go_enter Tryz.func138, Tryz.ntmps138
    go_wp2_with fail
    refine HH.out.mono ?_
    rintro e w1 ⟨rfl, hb⟩
    have HB := Lib.hid hb
    clear hb
    go_wp2_with fail
    refine (either_any _ _ _ _).mono ?_
    rintro e w2 ⟨rfl, rfl⟩
    go_wp2
    go_ret
    exact ⟨rfl, HB.out⟩
def kinds9 : List Nat := [1, 2, 3, 4, 5, 6, 7, 8, 9]
def names9 : List (List UInt8) := kinds9.map nameA
/-- What script.Names answers: its closure over a box that holds the slice of the first words. -/
def NamesOf (lo : Nat) (e : Ending) (w' : World) : Prop :=
  ∃ Bs v, e = .returned (.func (.func 141) #[] #[.pointer (some ⟨Bs, 0, none⟩)]) ∧ (lo ≤ Bs ∧ Bs < w'.heap.size) ∧ w'.cell? ⟨Bs, 0, none⟩ = some v ∧ Ss lo w'.heap.size w' v names9
set_option maxRecDepth 100000 in
theorem names_any (w : World) :
    Calls Tryz.prog 80 #[] w fun e w' => NamesOf w.heap.size e w' ∧ Below w.heap.size w w' := by
  go_enter Tryz.func80, Tryz.ntmps80
  go_wp2
  go_ret
  refine ⟨⟨w.heap.size + 1, .slice (some ⟨w.heap.size, 0, none⟩) 9 9, rfl, ⟨by omega, by simp⟩, ?_, ?_⟩, (by repeat (first | exact Below.refl _ _ | apply Below.drew | apply Go.below_drewN | apply bel_alloc | apply Ext.lift | apply bel_set0 | apply bel_set))⟩
  · exact World.cell?_alloc_at _ _ _ _ (by simp)
  · refine ⟨_, _, rfl, fun _ => ⟨w.heap.size, 0, rfl, ⟨Nat.le_refl _, by simp; omega⟩, fun j l hl => ?_⟩⟩
    rw [World.cell?_alloc_lt _ _ _ (by simp), Nat.zero_add, (Whole.new w 9 _).cell j]
    have hj : j < 9 := (List.getElem?_eq_some_iff.1 hl).1
    rcases (by omega : j = 0 ∨ j = 1 ∨ j = 2 ∨ j = 3 ∨ j = 4 ∨ j = 5 ∨ j = 6 ∨ j = 7 ∨ j = 8) with rfl | rfl | rfl | rfl | rfl | rfl | rfl | rfl | rfl <;> (injection hl with hl; subst hl; rfl)
set_option maxRecDepth 100000 in
set_option maxHeartbeats 4000000 in
theorem names1_in (F : Fence) (n : Nat) (hF : F.fn 141) (hro : F.round = none) (hn : 1 ≤ n) (l Bs lo hi : Nat) (v : Value) (J Jx : List Nat → World → Prop)
    (hY : ∀ (pre : List Nat) (x : Nat) (W : World), J pre W → pre.length < 9 → YieldAt F (n - 1) Tryz.prog l #[.int .i64 (x : Int), .string (str (nameA x))] W fun e W' =>
      (e = .returned (.bool true) ∧ J (pre ++ [x]) W' ∧ Between lo hi W W') ∨ (e = .returned (.bool false) ∧ Jx (pre ++ [x]) W'))
    (W : World) (hBs : W.cell? ⟨Bs, 0, none⟩ = some v) (hE : Ss lo hi W v names9) (h0 : J [] W) :
    CallsIn F n Tryz.prog 141 #[.func (.yield l) #[] #[], .pointer (some ⟨Bs, 0, none⟩)] W fun e W' => (∃ v, e = .returned v) ∧
      ((∃ ys, ys = kinds9 ∧ J ys W') ∨ (∃ pre, pre <+: kinds9 ∧ Jx pre W')) := by
  have HE := Lib.hid hE
  obtain ⟨A, c, rfl, _⟩ := hE
  change W.cell? ⟨Bs, 0, none⟩ = some (.slice A 9 c) at hBs
  refine callsIn_of_wp Tryz.func141 rfl hF ?_ hro
  simp only [Tryz.ntmps141, List.size_toArray, List.length_cons, List.length_nil, Nat.reduceAdd, Nat.reduceSub, Array.replicate_succ, Array.replicate_zero, List.push_toArray, List.append_toArray, List.nil_append, List.cons_append]
  gi_wp2
  gi_loopw [7] (fun i wr => ∃ k : Nat, k ≤ 9 ∧ i = .int .i64 k ∧ J (kinds9.take k) wr ∧ Between lo hi W wr) (fun i _ => 9 - (intOf i).toNat)
  case atStart => exact ⟨0, Nat.zero_le _, rfl, h0, Between.refl _⟩
  case round =>
    obtain ⟨k, hk, rfl, hJs, hnx⟩ := hrel
    by_cases hlt : k < 9
    · obtain ⟨A', c', hv, hA⟩ := HE.out.keep hnx
      injection hv with hv1 hv2 hv3
      subst hv1 hv3
      obtain ⟨b, off, rfl, hb, hcell⟩ := hA (by decide)
      have hu : kinds9[k]? = some (k + 1) := by rcases (by omega : k = 0 ∨ k = 1 ∨ k = 2 ∨ k = 3 ∨ k = 4 ∨ k = 5 ∨ k = 6 ∨ k = 7 ∨ k = 8) with rfl | rfl | rfl | rfl | rfl | rfl | rfl | rfl | rfl <;> rfl
      have c0 := hcell k (nameA (k + 1)) (by unfold names9; rw [List.getElem?_map, hu]; rfl)
      have HT : Hid (kinds9.take (k + 1) = kinds9.take k ++ [k + 1]) := Lib.hid (by rw [List.take_add_one, hu]; rfl)
      clear hcell hA hu hv2
      have hkl : (kinds9.take k).length < 9 := by
        have : kinds9.length = 9 := rfl
        rw [List.length_take, this]; omega
      obtain ⟨fn, tmps, assign, body, hy, hR⟩ := hY (kinds9.take k) (k + 1) _ hJs hkl
      have ek : ((k + 1 : Nat) : Int) = (k : Int) + 1 := by omega
      rw [ek] at hy
      clear hkl ek
      gi_wp2
      refine hR.mono ?_
      rintro e W3 (⟨rfl, hJ3, hk3⟩ | ⟨rfl, hJx3⟩)
      · gi_wp2
        go_roundw
        case rel => exact ⟨k + 1, by omega, by go_num, by rw [HT.out]; exact hJ3, hnx.trans hk3⟩
        case measure => simp [intOf]; omega
      · gi_wp2
        refine bodyPost_ret (results_none rfl _ _ _) rfl ?_
        exact ⟨⟨_, rfl⟩, .inr ⟨kinds9.take k ++ [k + 1], by rw [← HT.out]; exact List.take_prefix _ _, hJx3⟩⟩
    · obtain rfl : k = 9 := by omega
      have e9 : kinds9.take 9 = kinds9 := rfl
      rw [e9] at hJs
      gi_wp2
      go_end0
      exact ⟨⟨_, rfl⟩, .inl ⟨_, rfl, hJs⟩⟩
theorem names1_stops (F : Fence) (n : Nat) (hF : F.fn 141) (hro : F.round = none) (hn : 1 ≤ n) (Bs lo hi : Nat) (v : Value) (w : World) (hBn : Bs < w.heap.size) (hhi : hi ≤ w.heap.size)
    (hc : w.cell? ⟨Bs, 0, none⟩ = some v) (hE : Ss lo hi w v names9) :
    SeqStopsK F n Tryz.prog 141 #[.pointer (some ⟨Bs, 0, none⟩)] (fun x : Nat => #[.int .i64 (x : Int), .string (str (nameA x))]) (Between lo hi) (fun ys => ys = kinds9) (fun pre => pre <+: kinds9) 9 w := fun l J Jx W hW _ _ hY h0 =>
  names1_in F n hF hro hn l Bs lo hi v J Jx hY W ((hW.cell (p := ⟨Bs, 0, none⟩) hBn).trans hc) (hE.keep (Between.of_below (hW.mono hhi))) h0
end Go.Proofs.YtfbangojgjcbcaaGreatDoor
namespace Go.Proofs.YtfbangojgjcbcaaGreatDoor
open Go.RowKit Pl Go.Shelf
open Go.Lib (itoa)
theorem keeps_below {w w' : World} (h : Below w.heap.size w w') : KeepsOthers w w' := ⟨h.size, fun k _o hk _ => (h.block k (Array.getElem?_eq_some_iff.1 hk).1).trans hk⟩
theorem keeps_row {z w3 : World} {base size n : Nat} {e : TypeId} {v : Value} {xs : List Value} (h : z.ownsRow base e size v n xs) (hg : z.grownBy w3 v.ownBlock) : KeepsOthers z w3 :=
  KeepsOthers.of_grownBy hg fun j o hj ho => by
    rcases h.2 with ⟨rfl, _⟩ | ⟨g, cap, cur, rfl, _, hh, _⟩
    · simp [Value.ownBlock] at hj
    · have : g = j := by simpa [Value.ownBlock] using hj
      subst this
      rw [hh] at ho
      injection ho with ho
      subst ho
      rfl
theorem LinesIs.push' {B R : Nat} {ls : List (List UInt8)} {l : List UInt8} {w z w3 : World} {v v' : Value} (hW : Whole w R 40 #[v]) (hO : w.ownsRow B 9 1 v ls.length (ls.map Sv)) (hz : Below w.heap.size w z)
    (hO3 : w3.ownsRow B 9 1 v' (ls.length + 1) (ls.map Sv ++ [Sv l])) (hg : z.grownBy w3 v.ownBlock) (hBR : B ≤ R) (hBw : B ≤ w.heap.size) :
    ∃ g n k, v' = .slice (some ⟨g, 0, none⟩) n k ∧ w3.cell? ⟨R, 0, none⟩ = some v ∧ w3.frozen? ⟨R, 0, none⟩ = false ∧ LinesIs B R (ls ++ [l]) (w3.setCell ⟨R, 0, none⟩ v') ∧ Below B w (w3.setCell ⟨R, 0, none⟩ v') ∧ KeepsOthers w (w3.setCell ⟨R, 0, none⟩ v') := by
  obtain ⟨g, n, k, h1, h2, h3, h4, h5⟩ := LinesIs.push hW hO hz hO3 hg hBR hBw
  exact ⟨g, n, k, h1, h2, h3, h4, h5, ((keeps_below hz).trans (keeps_row (own_below hO hz) hg)).trans (KeepsOthers.setCell _ _ _)⟩
set_option maxRecDepth 100000 in
set_option maxHeartbeats 4000000 in
theorem put_any (B R g c : Nat) (ns : List Int) (ls : List (List UInt8)) (w : World) (h : LinesIs B R ls w) (hg : Whole w g 3 (ns.map (Value.int .i64)).toArray) (hn : ∀ n ∈ ns, In64 n) (hnl : ns.length ≤ 4) (hll : ls.length ≤ 4) (_hc : ns.length ≤ c) (E : Env w) (hB0 : 8 ≤ B) (hBw : B ≤ w.heap.size) :
    Calls Tryz.prog 136 #[.slice (some ⟨g, 0, none⟩) ns.length c, .pointer (some ⟨R, 0, none⟩)] w fun e w' => e = .returned (.tuple #[]) ∧ LinesIs B R (ls ++ ns.map itoa) w' ∧ Below B w w' ∧ KeepsOthers w w' := by
  have HG := Lib.hid hg
  have HL := Lib.hid h
  have HN := Lib.hid hn
  have E0 := Lib.hid E
  clear hg h hn E
  go_enter Tryz.func136, Tryz.ntmps136
  go_wp2
  go_loopw [7] (fun i wr => ∃ k : Nat, k ≤ ns.length ∧ i = .int .i64 k ∧ Hid (LinesIs B R (ls ++ (ns.take k).map itoa) wr) ∧ Hid (Whole wr g 3 (ns.map (Value.int .i64)).toArray) ∧ Hid (Below B w wr) ∧ Hid (KeepsOthers w wr)) (fun i _ => ns.length - (intOf i).toNat)
  case atStart => exact ⟨0, Nat.zero_le _, rfl, Lib.hid (by simpa using HL.out), HG, Lib.hid (Below.refl _ _), Lib.hid (KeepsOthers.refl _)⟩
  case round =>
    obtain ⟨k, hk, rfl, HLr, HGr, HB, HKO⟩ := hrel
    by_cases hlt : k < ns.length
    · obtain ⟨n, hnk⟩ : ∃ n, ns[k]? = some n := ⟨_, List.getElem?_eq_getElem hlt⟩
      have hin := HN.out n (List.mem_of_getElem? hnk)
      have hck : wr.cell? ⟨g, k, none⟩ = some (.int .i64 n) := by
        rw [HGr.out.cell k]
        simp [hnk]
      have HNK : Hid ((ls ++ (ns.take (k + 1)).map itoa) = (ls ++ (ns.take k).map itoa) ++ [itoa n]) := Lib.hid (by rw [List.take_add_one, hnk]; simp)
      have hll2 : (ls ++ (ns.take k).map itoa).length ≤ 8 := by simp; omega
      have s1 : (str (itoa n)).size ≤ 20 := by rw [str_size]; exact itoa_len20 hin
      obtain ⟨lt, hlt'⟩ : ∃ lt, ls ++ (ns.take k).map itoa = lt := ⟨_, rfl⟩
      rw [hlt'] at HLr HNK hll2
      obtain ⟨v, hBR, hW, hO⟩ := HLr.out.is
      have hGr := HGr.out
      have HW := Lib.hid hW
      have HO := Lib.hid hO
      have hR := hW.lt
      have c0 : wr.cell? ⟨R, 0, none⟩ = some v := hW.cell 0
      have hno := hW.notRow hO (by decide)
      have hgR := hGr.apart hW (by decide)
      have hgO := hGr.notRow hO (by decide)
      have hBr := HB.out.size
      clear hnk hlt' hW hO hGr
      go_upto_region 3 with fail
      refine wp_region_ext_load (v := v) 3 (by kernel_rfl) (by kernel_rfl) rfl rfl (.inl ⟨rfl, ?_⟩) (fun _ _ _ h => h) ?_
      · rintro _ ⟨x, rfl⟩
        have cx := (x.cell ⟨R, 0, none⟩ hR).trans c0
        go_simp
      simp only [List.take_succ_cons, List.take_zero, List.drop_succ_cons, List.drop_zero, Act.put, List.setIfInBounds_toArray, List.set_cons_succ, List.set_cons_zero]
      repeat (go_big_quiet_step (first | (go_at_call 58; exact Ext.call (itoa_all _ _ hin.1 hin.2 (Ext.env _ (E0.out.below hB0 HB.out))))))
      refine wpQuiet_nil ?_
      rintro _ ⟨z, rfl⟩
      go_wp2
      have hb2 := z.below.size
      refine ⟨⟨⟨_, bel_alloc z.below _⟩, rfl⟩, ?_⟩
      have hown2 := own_below HO.out z.below
      go_wp2_with (at_builtin; refine wpList_push rfl _ _ 40 rfl B 9 info_str rfl (by decide) Tryz.underlying40 _ _ _ rfl hown2 rfl rfl (by omega) (by omega) ?_)
      intro v' w3 hown3 hg
      obtain ⟨g3, n3, k3, rfl, c3, f3, hL3, hB3, hK3⟩ := LinesIs.push' (l := itoa n) HW.out HO.out z.below hown3 hg hBR (by omega)
      have HL3 : Hid (LinesIs B R (lt ++ [itoa n]) (w3.setCell ⟨R, 0, none⟩ (.slice (some ⟨g3, 0, none⟩) n3 k3))) := Lib.hid hL3
      have HG3 : Hid (Whole (w3.setCell ⟨R, 0, none⟩ (.slice (some ⟨g3, 0, none⟩) n3 k3)) g 3 (ns.map (Value.int .i64)).toArray) := Lib.hid (((HGr.out.here z.below).kept hg (Ne.symm hgO)).far hgR _)
      have HB3 : Hid (Below B w (w3.setCell ⟨R, 0, none⟩ (.slice (some ⟨g3, 0, none⟩) n3 k3))) := Lib.hid (HB.out.trans hB3)
      have HK3 : Hid (KeepsOthers w (w3.setCell ⟨R, 0, none⟩ (.slice (some ⟨g3, 0, none⟩) n3 k3))) := Lib.hid (HKO.out.trans hK3)
      clear hown2 hown3 hg hL3 hB3 hK3 hno hgR hgO
      go_wp2
      go_roundw
      case rel => exact ⟨k + 1, by omega, by go_num, by rw [HNK.out]; exact HL3, HG3, HB3, HK3⟩
      case measure => simp [intOf]; omega
    · obtain rfl : k = ns.length := by omega
      have HLE : Hid (LinesIs B R (ls ++ ns.map itoa) wr) := Lib.hid (by have := HLr.out; rw [List.take_length] at this; exact this)
      go_wp2
      go_end0
      exact ⟨rfl, HLE.out, HB.out, HKO.out⟩
end Go.Proofs.YtfbangojgjcbcaaGreatDoor
namespace Go.Proofs.YtfbangojgjcbcaaGreatDoor
open Go.RowKit Pl Go.Shelf
open Go.Lib (itoa)
attribute [local go_sem] Oper.semAt_some
/-- 'out = append(out, x)' within a fence. -/
theorem wpListIn_push {F : Fence} {n : Nat} {P : Program} {ops : Array Oper} {rest : List Oper} {o : Oper} {a : Act} {Q : Exit → Act → World → Prop} {w0 : World} {e0 : TypeId} {u : Value} (hgd : o.guard = none) (s x : Operand) (t : TypeId)
    (ho : o.op = .call { callee := .builtin .append, args := #[s, x], argTypes := #[t, t] })
    (base : Nat) (e : TypeId) {z : Value} {bytes : Nat} (hinfo : (P.info? e).map (fun i => (i.zero, i.size, i.bytes)) = some (some z, 1, bytes)) (hzs : z.cells.size = 1) (hby : bytes ≤ 1000) (ht : P.underlying t = some (.slice e))
    (v : Value) (k : Nat) (xs : List Value) (hs : a.eval s = v) (hown : w0.ownsRow base e 1 v k xs) (hx : a.eval x = .slice (some ⟨w0.heap.size, 0, none⟩) 1 1) (hu : u.oneCell' = true)
    (hk : k ≤ 1000000000) (hbase : base ≤ w0.heap.size)
    (h : ∀ v' w', w'.ownsRow base e 1 v' (k + 1) (xs ++ [u]) → w0.grownBy w' v.ownBlock → wpListIn F n P ops Q rest (a.put o.dst v') w') : wpListIn F n P ops Q (o :: rest) a (w0.alloc (.cells #[u] e0)) := by
  obtain ⟨i0, hi, hz0, hz1, hz2⟩ := info_parts hinfo
  refine wpListIn_append_own _ hgd s x t ho base e i0 z 1 bytes ht hi hz0 hz1 hz2 hzs (by decide) v k xs hs (hown.alloc _) ⟨w0.heap.size, 0, none⟩ 1 1 [u] hx rfl (cell_one_new _ _ _) (by intro y hy; simp at hy; subst hy; exact hu) (by unfold maxLen; omega) ?_ (by simp; omega) fun v' w' h1 h2 _ => h v' w' h1 (grownBy_alloc h2)
  have : (k + 1) * bytes ≤ (k + 1) * 1000 := Nat.mul_le_mul_left _ hby
  omega
/-- Box R holds a slice of the words ls, its row from base on. -/
structure WordsAt (base R : Nat) (ls : List (List UInt8)) (w : World) : Prop where
  is : ∃ v, Whole w R 40 #[v] ∧ w.ownsRow base 9 1 v ls.length (ls.map Sv)
theorem WordsAt.own {α : Type} (base R : Nat) (f : α → List (List UInt8)) : Own (fun s W => WordsAt base R (f s) W) := fun s X Y row hs hg hr => by
  obtain ⟨v, h1, h2⟩ := hs.is
  refine ⟨v, whole_own R _ (fun (_ : Unit) => #[v]) () X Y row h1 hg hr, h2.kept hg ?_⟩
  rcases h2.2 with ⟨rfl, _⟩ | ⟨g, cap, cur, rfl, _, hh, _⟩
  · exact .inl rfl
  · right
    intro e
    obtain ⟨o, ho, hc⟩ := hr g e.symm
    rw [hh] at ho
    injection ho with ho
    subst ho
    simp [Obj.isCells] at hc
theorem WordsAt.lines {base B R : Nat} {ls : List (List UInt8)} {w : World} (h : WordsAt base R ls w) (hB : B ≤ base) (hR : B ≤ R := by omega) : LinesIs B R ls w := by
  obtain ⟨v, h1, h2⟩ := h.is
  refine ⟨v, hR, h1, h2.1, ?_⟩
  rcases h2.2 with h3 | ⟨g, cap, cur, a1, a2, a3⟩
  · exact .inl h3
  · exact .inr ⟨g, cap, cur, a1, Nat.le_trans hB a2, a3⟩
theorem join_len (c : UInt8) (M : Nat) : ∀ ls : List (List UInt8), (∀ l ∈ ls, l.length ≤ M) → (Lib.join ls [c]).length ≤ (M + 1) * ls.length
  | [], _ => by simp [Lib.join]
  | [x], h => by have := h x (by simp); simp [Lib.join]; omega
  | x :: y :: r, h => by
    have ih := join_len c M (y :: r) (fun l hl => h l (List.mem_cons_of_mem _ hl))
    have hx := h x (by simp)
    rw [Pl.join_two, List.length_append, List.length_cons, List.length_cons, Nat.mul_add]
    omega
theorem in_byte (b : UInt8) : In64 (b.toNat : Int) := by
  have := b.toNat_lt
  constructor <;> omega
theorem name_len : ∀ k : Nat, (nameA k).length ≤ 6
  | 0 | 1 | 2 | 3 | 4 | 5 | 6 | 7 | 8 | 9 => by decide
  | _ + 10 => by simp [nameA]
theorem words_len {k : Nat} {ns : List Int} (hn : ∀ x ∈ ns, In64 x) : ∀ l ∈ [nameA k] ++ ns.map itoa, l.length ≤ 100 := by
  intro l hl
  rcases List.mem_append.1 hl with h | h
  · simp only [List.mem_singleton] at h
    subst h
    have := name_len k
    omega
  · obtain ⟨x, hx, rfl⟩ := List.mem_map.1 h
    have := itoa_len20 (hn x hx)
    omega
/-- A region that ends in no other way than behind itself. -/
theorem wp_calm {P : Program} {c : Code} {Q : Exit → Act → World → Prop} {a : Act} {w : World} (h : c.wp P (Exit.then (fun a w => Q .normal a w) (fun _ _ _ => False)) a w) : c.wp P Q a w :=
  wp_mono h fun e _ _ h => by cases e <;> first | exact h | exact h.elim
theorem words_more {M : Nat} {ws : List (List UInt8)} {x : List UInt8} (h : ∀ l ∈ ws, l.length ≤ M) (hx : x.length ≤ M) : ∀ l ∈ ws ++ [x], l.length ≤ M := by
  intro l hl
  rcases List.mem_append.1 hl with h' | h'
  · exact h l h'
  · simp only [List.mem_singleton] at h'
    rw [h']; exact hx
theorem hexD_len (l : List UInt8) : (hexD l).length ≤ 2 * l.length + 1 := by
  unfold hexD
  split
  · simp
  · have : (hexText l).length = 2 * l.length := by
      unfold hexText
      induction l with
      | nil => rfl
      | cons x r ih =>
        rw [List.flatMap_cons, List.length_append]
        by_cases hr : r = []
        · subst hr; rfl
        · rw [ih hr]
          simp [hex1]; omega
    omega
/-- The first word, once it has come. -/
def wordOf (k : Int) (pre : List Nat) : List (List UInt8) := (pre.filter fun (x : Nat) => decide ((x : Int) = k)).map nameA
theorem wordOf_next (k : Int) (pre : List Nat) (x : Nat) : wordOf k (pre ++ [x]) = if (x : Int) = k then wordOf k pre ++ [nameA x] else wordOf k pre := by
  unfold wordOf
  rw [List.filter_append, List.map_append]
  by_cases h : (x : Int) = k <;> simp [h]
theorem wordOf_len (k : Int) (pre : List Nat) : (wordOf k pre).length ≤ pre.length := by
  unfold wordOf
  rw [List.length_map]
  exact List.length_filter_le _ _
theorem wordOf_all {k : Int} (h0 : 1 ≤ k) (h1 : k ≤ 9) : wordOf k kinds9 = [nameA k.toNat] := by
  rcases (by omega : k = 1 ∨ k = 2 ∨ k = 3 ∨ k = 4 ∨ k = 5 ∨ k = 6 ∨ k = 7 ∨ k = 8 ∨ k = 9) with rfl | rfl | rfl | rfl | rfl | rfl | rfl | rfl | rfl <;> rfl
/-- One word more. -/
theorem WordsAt.push {base R : Nat} {ls : List (List UInt8)} {l : List UInt8} {w w3 : World} {v v' : Value} (hW : Whole w R 40 #[v]) (hO : w.ownsRow base 9 1 v ls.length (ls.map Sv))
    (hO3 : w3.ownsRow base 9 1 v' (ls.length + 1) (ls.map Sv ++ [Sv l])) (hg : w.grownBy w3 v.ownBlock) (hRb : R < base) (hbw : base ≤ w.heap.size) :
    ∃ g n k, v' = .slice (some ⟨g, 0, none⟩) n k ∧ w3.cell? ⟨R, 0, none⟩ = some v ∧ w3.frozen? ⟨R, 0, none⟩ = false ∧ WordsAt base R (ls ++ [l]) (w3.setCell ⟨R, 0, none⟩ v') ∧ Below R w (w3.setCell ⟨R, 0, none⟩ v') ∧
      KeepsOthers w (w3.setCell ⟨R, 0, none⟩ v') ∧ (∀ lo hi, R < lo → hi ≤ base → hi ≤ w.heap.size → Between lo hi w (w3.setCell ⟨R, 0, none⟩ v')) ∧ w.heap.size ≤ (w3.setCell ⟨R, 0, none⟩ v').heap.size := by
  obtain ⟨g3, k3, rfl, _, _⟩ := hO3.form (by omega)
  have hno := hW.notRow hO (by decide)
  have hW3 := hW.kept hg (Ne.symm hno)
  refine ⟨g3, _, k3, rfl, hW3.cell 0, hW3.frozen 0, ⟨_, hW3.set 0 _, ?_⟩, ?_, (keeps_row hO hg).trans (KeepsOthers.setCell _ _ _), fun lo hi h1 h2 h3 => ⟨by rw [size_setCell]; exact hg.size, fun g ha hb => ?_⟩, by rw [size_setCell]; exact hg.size⟩
  · rw [List.length_append, List.map_append]
    exact own_grown hW3 hO3 (by decide) (grown_set w3 R 0 _)
  · exact ((Below.refl R w).grown hg (by omega) fun g hg' => by have := (hO.lt g hg').1; omega).setCell (p := ⟨R, 0, none⟩) (Nat.le_refl _) _
  · rw [Below.heap_setCell w3 _ _ g (by show g ≠ R; omega)]
    refine hg.block g (by omega) ?_
    intro he
    have := (hO.lt g he.symm).1
    omega
set_option maxRecDepth 100000 in
set_option maxHeartbeats 8000000 in
theorem cactText_any (a : ActP) (bv : Value) (w : World) (hk : K9 a) (h : Bs w bv a.bytes) (hi : InA a) (hl : a.bytes.length ≤ 100000) (E : Env w) :
    Calls Tryz.prog 75 #[actV a bv] w fun e w' => e = .returned (.string (str (actText a))) ∧ Below w.heap.size w w' := by
  have HBV := Lib.hid h
  have HI := Lib.hid hi
  obtain ⟨A, c, rfl, -⟩ := h
  obtain ⟨k, node, port, cost, n, up, by_, unread, bytes⟩ := a
  obtain ⟨W0, hW0⟩ : ∃ W0, (w.alloc (.cells #[.int .i64 k, .int .i64 node, .int .i64 port, .int .i64 cost, .int .i64 n, .bool up, .int .u8 (by_.toNat : Int), .bool unread, .slice A bytes.length c] 51)).alloc (.cells #[.slice none 0 0] 40) = W0 := ⟨_, rfl⟩
  have HB0 : Hid (Below w.heap.size w W0) := Lib.hid (by rw [← hW0]; exact ((Below.refl _ _).alloc (Nat.le_refl _) _).alloc (by simp) _)
  have HX : Hid (Whole W0 w.heap.size 51 #[.int .i64 k, .int .i64 node, .int .i64 port, .int .i64 cost, .int .i64 n, .bool up, .int .u8 (by_.toNat : Int), .bool unread, .slice A bytes.length c]) := Lib.hid (by rw [← hW0]; exact (Whole.new w _ _).alloc _)
  have HR : Hid (Whole W0 (w.heap.size + 1) 40 #[.slice none 0 0]) := Lib.hid (by
    rw [← hW0]
    have := Whole.new (w.alloc (.cells #[.int .i64 k, .int .i64 node, .int .i64 port, .int .i64 cost, .int .i64 n, .bool up, .int .u8 (by_.toNat : Int), .bool unread, .slice A bytes.length c] 51)) 40 #[.slice none 0 0]
    simpa using this)
  have hs0 : W0.heap.size = w.heap.size + 2 := by rw [← hW0]; simp
  have HW0 := Lib.hid hW0
  have E0 := Lib.hid (E.here HB0.out)
  have hNB := E.size
  have HK := Lib.hid hk
  clear hW0 E hi hk
  refine (callsIn_wide (n := 3)).1 ?_
  refine callsIn_of_wp_marks Tryz.func75 rfl trivial ?_ rfl
  simp only [Tryz.ntmps75, List.size_toArray, List.length_cons, List.length_nil, Nat.reduceAdd, Nat.reduceSub, Array.replicate_succ, Array.replicate_zero, List.push_toArray, List.append_toArray, List.nil_append, List.cons_append]
  gi_wp2
  rw [HW0.out]
  refine ⟨trivial, (callsIn_wide.2 (names_any W0)).mono ?_⟩
  rintro e W3 ⟨⟨Bq, vs, rfl, ⟨hlo, hBq⟩, hc, hS⟩, hb3⟩
  have HB3 := Lib.hid hb3
  have HS := Lib.hid hS
  have HBW : Hid (Below (w.heap.size + 1) W0 W3) := Lib.hid (hb3.mono (by omega))
  have HX3 := Lib.hid (HX.out.here hb3)
  have HR3 := Lib.hid (HR.out.here hb3)
  have hs3 := hb3.size
  have HW3 : Hid (WordsAt W3.heap.size (w.heap.size + 1) [] W3) := Lib.hid ⟨_, HR3.out, by simpa using World.ownsRow_nil _ _ _ _⟩
  clear hb3 hS
  gi_wp2
  refine wpIn_rangeFunc_ownH (F := Fence.wide) rfl (by decide) (gf := 141) (lb := #[.pointer (some ⟨Bq, 0, none⟩)]) rfl trivial (enters_of Tryz.func141 (by kernel_rfl) rfl)
    (names1_stops Fence.wide 2 trivial rfl (by decide) Bq W0.heap.size W3.heap.size vs W3 hBq (Nat.le_refl _) hc HS.out) Between.trans (fun W l o o' hl _ _ _ => Between.put hl) (Below.refl _ _) (fun _ => rfl)
    (fun pre W => (WordsAt W3.heap.size (w.heap.size + 1) (wordOf k pre) W ∧ Below (w.heap.size + 1) W3 W) ∧ W3.heap.size ≤ W.heap.size)
    (fun _ _ _ => False)
    (OwnFrom.and (OwnFrom.and (Own.from (WordsAt.own _ _ (fun pre : List Nat => wordOf k pre)) _) (ownFrom_below (by omega) (by omega))) (fun _ _ _ _ hs hg _ => Nat.le_trans hs hg.size))
    (fun _ _ _ _ _ hs _ _ => hs)
    ⟨⟨HW3.out, Below.refl _ _⟩, Nat.le_refl _⟩
    (fun x a' _ => a' = { tmps := #[.agg #[.int .i64 k, .int .i64 node, .int .i64 port, .int .i64 cost, .int .i64 n, .bool up, .int .u8 (by_.toNat : Int), .bool unread, .slice A bytes.length c], .pointer (some ⟨w.heap.size, 0, none⟩), .string ⟨#[]⟩, .pointer (some ⟨w.heap.size + 1, 0, none⟩), .int .i64 (x : Int), .string (str (nameA x)), undef, .func (.func 141) #[] #[.pointer (some ⟨Bq, 0, none⟩)], .int .i64 (x : Int), .string (str (nameA x)), undef, undef, undef, undef, undef, undef, undef, undef, undef, undef, undef, undef, undef, undef, undef, undef, undef, undef, undef, undef, undef, undef, undef, undef, undef, undef, undef, undef, undef, undef, undef, undef, undef, undef, undef, undef, undef, undef, undef, undef, undef, undef, undef, undef, undef, undef, undef, undef, undef, undef, undef, undef, undef, undef, undef, undef, undef, undef, undef, undef, undef, undef, undef, undef, undef, undef, undef, undef, undef, undef, undef, undef, undef, undef, undef, undef, undef, undef, undef, undef, undef], defers := [] })
    (fun x a' _ X Y row hs hg hr => hs)
    ?assign ?body ?done ?stop
  case assign =>
    rintro l pre x W K hI hK
    gi_wp2
    exact hK _ _ ((KeepsOthers.refl _).from _) (Between.refl W) hI rfl
  case body =>
    rintro l pre x a' W hl _ ⟨⟨hA, hB⟩, hz⟩ rfl hlt
    have HKW := Lib.hid (wordOf_next k pre x)
    have hwl := wordOf_len k pre
    have x0 : W.cell? ⟨w.heap.size, 0, none⟩ = some (.int .i64 k) := (HX3.out.below hB (by omega)).cell 0
    have hWz : w.heap.size < W.heap.size := by omega
    dsimp only
    by_cases he : (x : Int) = k
    · have HE : Hid (wordOf k (pre ++ [x]) = wordOf k pre ++ [nameA x]) := Lib.hid (by rw [HKW.out, if_pos he])
      have q : ((x : Int) == k) = true := by simpa using he
      obtain ⟨v, hW, hO⟩ := hA.is
      have c0 : W.cell? ⟨w.heap.size + 1, 0, none⟩ = some v := hW.cell 0
      have HWW := Lib.hid hW
      have HOO := Lib.hid hO
      have HBB := Lib.hid hB
      clear he hA hW hO hB
      gi_wp2_with (gi_at_builtin; refine wpListIn_push rfl _ _ 40 rfl W3.heap.size 9 info_str rfl (by decide) Tryz.underlying40 _ _ _ rfl HOO.out rfl rfl (by omega) hz ?_)
      intro v' w3 hown3 hg
      obtain ⟨g3, n3, k3, rfl, c3, f3, hW3, hB3, hK3, hBt, hsz⟩ := WordsAt.push (l := nameA x) HWW.out HOO.out hown3 hg (by omega) hz
      have HW4 := Lib.hid hW3
      have HB4 := Lib.hid (HBB.out.trans (hB3.mono (Nat.le_refl _)))
      have HK4 := Lib.hid hK3
      have HBT := Lib.hid (hBt W0.heap.size W3.heap.size (by omega) (Nat.le_refl _) hz)
      have HSZ := Lib.hid (Nat.le_trans hz hsz)
      clear hown3 hg hW3 hB3 hK3 hBt hsz
      gi_wp2
      refine ⟨HK4.out.from _, HBT.out, ⟨⟨?_, HB4.out⟩, HSZ.out⟩⟩
      rw [HE.out]
      exact HW4.out
    · have HE : Hid (wordOf k (pre ++ [x]) = wordOf k pre) := Lib.hid (by rw [HKW.out, if_neg he])
      have q : ((x : Int) == k) = false := by simpa using he
      clear he
      gi_wp2
      refine ⟨(KeepsOthers.refl _).from _, Between.refl _, ⟨⟨?_, hB⟩, hz⟩⟩
      rw [HE.out]
      exact hA
  case done =>
    rintro D ys W hD rfl ⟨⟨hA, hB⟩, hzW⟩ hKD
    obtain ⟨k0, k1⟩ := HK.out
    simp only at k0 k1
    rw [wordOf_all k0 k1] at hA
    have HLW : Hid (LinesIs (w.heap.size + 1) (w.heap.size + 1) [nameA k.toNat] W) := Lib.hid (hA.lines (by omega))
    have HBW2 : Hid (Below (w.heap.size + 1) W0 W) := Lib.hid (HBW.out.trans hB)
    have HKDW := Lib.hid hKD
    have HXW := Lib.hid (HX3.out.below hB (by omega))
    have x0 : W.cell? ⟨w.heap.size, 0, none⟩ = some (.int .i64 k) := HXW.out.cell 0
    have x1 : W.cell? ⟨w.heap.size, 1, none⟩ = some (.int .i64 node) := HXW.out.cell 1
    have x2 : W.cell? ⟨w.heap.size, 2, none⟩ = some (.int .i64 port) := HXW.out.cell 2
    have x3 : W.cell? ⟨w.heap.size, 3, none⟩ = some (.int .i64 cost) := HXW.out.cell 3
    have x4 : W.cell? ⟨w.heap.size, 4, none⟩ = some (.int .i64 n) := HXW.out.cell 4
    have x6 : W.cell? ⟨w.heap.size, 6, none⟩ = some (.int .u8 (by_.toNat : Int)) := HXW.out.cell 6
    have hWz : w.heap.size < W.heap.size := by omega
    have hby : by_.toNat < 256 := by_.toNat_lt
    have EW := Lib.hid (E0.out.below (by omega) HBW2.out)
    clear HBW hKD
    have HBW := HBW2
    clear HBW2
    dsimp only
    rcases (by omega : k = 1 ∨ k = 2 ∨ k = 3 ∨ k = 4 ∨ k = 5 ∨ k = 6 ∨ k = 7 ∨ k = 8 ∨ k = 9) with rfl | rfl | rfl | rfl | rfl | rfl | rfl | rfl | rfl
    · have HIN : Hid (∀ y ∈ [node], In64 y) := Lib.hid (by
        intro y hy
        simp only [List.mem_cons, List.not_mem_nil, or_false] at hy
        rcases hy with rfl <;> first | exact HI.out.2.1 | exact HI.out.2.2.1 | exact HI.out.2.2.2.1 | exact HI.out.2.2.2.2 | exact in_byte _)
      have HWL : Hid (∀ l ∈ ([nameA (Int.toNat 1)] ++ [node].map itoa), l.length ≤ 100) := Lib.hid (words_len HIN.out)
      clear HR HW0 HB3 HS HR3 HW3 HX3 HXW hA hB hc
      gi_wp2
      refine ⟨trivial, (callsIn_wide.2 (put_any (w.heap.size + 1) (w.heap.size + 1) W.heap.size 1 [node] ([nameA (Int.toNat 1)]) _ (HLW.out.below ((Below.refl _ _).alloc (Nat.le_refl _) _)) (Whole.new W 3 #[.int .i64 node]) HIN.out (by simp) (by simp) (by simp) (EW.out.here ((Below.refl _ _).alloc (Nat.le_refl _) _)) (by omega) (by simp; omega))).mono ?_⟩
      rintro e w5 ⟨rfl, hLw5, hBw5, hOw5⟩
      have HLw5 := Lib.hid hLw5
      have HBw5 : Hid (Below (w.heap.size + 1) W0 w5) := Lib.hid ((HBW.out.alloc (by omega) _).trans hBw5)
      have HKDw5 : Hid (w5.heap[D]? = some (.deferred (some []))) := Lib.hid (hOw5.same D _ ((Below.heap_alloc W _ D (Array.getElem?_eq_some_iff.1 HKDW.out).1).trans HKDW.out) rfl)
      have hzw5 : W3.heap.size ≤ w5.heap.size := by have := hOw5.size; simp at this; omega
      have Ew5 := Lib.hid (E0.out.below (by omega) HBw5.out)
      clear hLw5 hBw5 hOw5
      obtain ⟨vJ, -, hWJ, hOJ⟩ := HLw5.out.is
      have cJ : w5.cell? ⟨w.heap.size + 1, 0, none⟩ = some vJ := hWJ.cell 0
      have hRJ : w.heap.size + 1 < w5.heap.size := by omega
      have HJ := Lib.hid (join_own (sep := [32]) w5 hOJ (by simp) (by simp) (by
        refine Nat.le_trans (join_len 32 100 _ ?_) (by simp)
        exact HWL.out))
      clear hWJ hOJ
      gi_wp2
      refine ⟨trivial, (callsIn_wide.2 HJ.out).mono ?_⟩
      rintro e WE ⟨rfl, hbE⟩
      have hkE : WE.heap[D]? = some (.deferred (some [])) := (hbE.block D (Array.getElem?_eq_some_iff.1 HKDw5.out).1).trans HKDw5.out
      have HBE : Hid (Below w.heap.size w WE) := Lib.hid ((HB0.out.trans (HBw5.out.mono (by omega))).trans (hbE.mono (by omega)))
      clear hbE
      gi_wp2
      refine ⟨by simp, .inl ⟨_, _, rfl, run_takeDeferred hkE, ?_⟩⟩
      refine ⟨.string (str (actText ⟨1, node, port, cost, n, up, by_, unread, bytes⟩)), ?_, rfl, HBE.out.trans (belowK_b (w := w) (Nat.le_refl _) WE D _ _ (by omega) hkE rfl rfl)⟩
      simp [results, Tryz.results75, go_sem]
      rfl
    · have HIN : Hid (∀ y ∈ [n], In64 y) := Lib.hid (by
        intro y hy
        simp only [List.mem_cons, List.not_mem_nil, or_false] at hy
        rcases hy with rfl <;> first | exact HI.out.2.1 | exact HI.out.2.2.1 | exact HI.out.2.2.2.1 | exact HI.out.2.2.2.2 | exact in_byte _)
      have HWL : Hid (∀ l ∈ ([nameA (Int.toNat 2)] ++ [n].map itoa), l.length ≤ 100) := Lib.hid (words_len HIN.out)
      clear HR HW0 HB3 HS HR3 HW3 HX3 HXW hA hB hc
      gi_wp2
      refine ⟨trivial, (callsIn_wide.2 (put_any (w.heap.size + 1) (w.heap.size + 1) W.heap.size 1 [n] ([nameA (Int.toNat 2)]) _ (HLW.out.below ((Below.refl _ _).alloc (Nat.le_refl _) _)) (Whole.new W 3 #[.int .i64 n]) HIN.out (by simp) (by simp) (by simp) (EW.out.here ((Below.refl _ _).alloc (Nat.le_refl _) _)) (by omega) (by simp; omega))).mono ?_⟩
      rintro e w5 ⟨rfl, hLw5, hBw5, hOw5⟩
      have HLw5 := Lib.hid hLw5
      have HBw5 : Hid (Below (w.heap.size + 1) W0 w5) := Lib.hid ((HBW.out.alloc (by omega) _).trans hBw5)
      have HKDw5 : Hid (w5.heap[D]? = some (.deferred (some []))) := Lib.hid (hOw5.same D _ ((Below.heap_alloc W _ D (Array.getElem?_eq_some_iff.1 HKDW.out).1).trans HKDW.out) rfl)
      have hzw5 : W3.heap.size ≤ w5.heap.size := by have := hOw5.size; simp at this; omega
      have Ew5 := Lib.hid (E0.out.below (by omega) HBw5.out)
      clear hLw5 hBw5 hOw5
      obtain ⟨vJ, -, hWJ, hOJ⟩ := HLw5.out.is
      have cJ : w5.cell? ⟨w.heap.size + 1, 0, none⟩ = some vJ := hWJ.cell 0
      have hRJ : w.heap.size + 1 < w5.heap.size := by omega
      have HJ := Lib.hid (join_own (sep := [32]) w5 hOJ (by simp) (by simp) (by
        refine Nat.le_trans (join_len 32 100 _ ?_) (by simp)
        exact HWL.out))
      clear hWJ hOJ
      gi_wp2
      refine ⟨trivial, (callsIn_wide.2 HJ.out).mono ?_⟩
      rintro e WE ⟨rfl, hbE⟩
      have hkE : WE.heap[D]? = some (.deferred (some [])) := (hbE.block D (Array.getElem?_eq_some_iff.1 HKDw5.out).1).trans HKDw5.out
      have HBE : Hid (Below w.heap.size w WE) := Lib.hid ((HB0.out.trans (HBw5.out.mono (by omega))).trans (hbE.mono (by omega)))
      clear hbE
      gi_wp2
      refine ⟨by simp, .inl ⟨_, _, rfl, run_takeDeferred hkE, ?_⟩⟩
      refine ⟨.string (str (actText ⟨2, node, port, cost, n, up, by_, unread, bytes⟩)), ?_, rfl, HBE.out.trans (belowK_b (w := w) (Nat.le_refl _) WE D _ _ (by omega) hkE rfl rfl)⟩
      simp [results, Tryz.results75, go_sem]
      rfl
    · have HIN : Hid (∀ y ∈ [n], In64 y) := Lib.hid (by
        intro y hy
        simp only [List.mem_cons, List.not_mem_nil, or_false] at hy
        rcases hy with rfl <;> first | exact HI.out.2.1 | exact HI.out.2.2.1 | exact HI.out.2.2.2.1 | exact HI.out.2.2.2.2 | exact in_byte _)
      have HWL : Hid (∀ l ∈ ([nameA (Int.toNat 3)] ++ [n].map itoa), l.length ≤ 100) := Lib.hid (words_len HIN.out)
      clear HR HW0 HB3 HS HR3 HW3 HX3 HXW hA hB hc
      gi_wp2
      refine ⟨trivial, (callsIn_wide.2 (put_any (w.heap.size + 1) (w.heap.size + 1) W.heap.size 1 [n] ([nameA (Int.toNat 3)]) _ (HLW.out.below ((Below.refl _ _).alloc (Nat.le_refl _) _)) (Whole.new W 3 #[.int .i64 n]) HIN.out (by simp) (by simp) (by simp) (EW.out.here ((Below.refl _ _).alloc (Nat.le_refl _) _)) (by omega) (by simp; omega))).mono ?_⟩
      rintro e w5 ⟨rfl, hLw5, hBw5, hOw5⟩
      have HLw5 := Lib.hid hLw5
      have HBw5 : Hid (Below (w.heap.size + 1) W0 w5) := Lib.hid ((HBW.out.alloc (by omega) _).trans hBw5)
      have HKDw5 : Hid (w5.heap[D]? = some (.deferred (some []))) := Lib.hid (hOw5.same D _ ((Below.heap_alloc W _ D (Array.getElem?_eq_some_iff.1 HKDW.out).1).trans HKDW.out) rfl)
      have hzw5 : W3.heap.size ≤ w5.heap.size := by have := hOw5.size; simp at this; omega
      have Ew5 := Lib.hid (E0.out.below (by omega) HBw5.out)
      clear hLw5 hBw5 hOw5
      obtain ⟨vJ, -, hWJ, hOJ⟩ := HLw5.out.is
      have cJ : w5.cell? ⟨w.heap.size + 1, 0, none⟩ = some vJ := hWJ.cell 0
      have hRJ : w.heap.size + 1 < w5.heap.size := by omega
      have HJ := Lib.hid (join_own (sep := [32]) w5 hOJ (by simp) (by simp) (by
        refine Nat.le_trans (join_len 32 100 _ ?_) (by simp)
        exact HWL.out))
      clear hWJ hOJ
      gi_wp2
      refine ⟨trivial, (callsIn_wide.2 HJ.out).mono ?_⟩
      rintro e WE ⟨rfl, hbE⟩
      have hkE : WE.heap[D]? = some (.deferred (some [])) := (hbE.block D (Array.getElem?_eq_some_iff.1 HKDw5.out).1).trans HKDw5.out
      have HBE : Hid (Below w.heap.size w WE) := Lib.hid ((HB0.out.trans (HBw5.out.mono (by omega))).trans (hbE.mono (by omega)))
      clear hbE
      gi_wp2
      refine ⟨by simp, .inl ⟨_, _, rfl, run_takeDeferred hkE, ?_⟩⟩
      refine ⟨.string (str (actText ⟨3, node, port, cost, n, up, by_, unread, bytes⟩)), ?_, rfl, HBE.out.trans (belowK_b (w := w) (Nat.le_refl _) WE D _ _ (by omega) hkE rfl rfl)⟩
      simp [results, Tryz.results75, go_sem]
      rfl
    · have HIN : Hid (∀ y ∈ [n], In64 y) := Lib.hid (by
        intro y hy
        simp only [List.mem_cons, List.not_mem_nil, or_false] at hy
        rcases hy with rfl <;> first | exact HI.out.2.1 | exact HI.out.2.2.1 | exact HI.out.2.2.2.1 | exact HI.out.2.2.2.2 | exact in_byte _)
      have HWL : Hid (∀ l ∈ ([nameA (Int.toNat 4)] ++ [n].map itoa), l.length ≤ 100) := Lib.hid (words_len HIN.out)
      clear HR HW0 HB3 HS HR3 HW3 HX3 HXW hA hB hc
      gi_wp2
      refine ⟨trivial, (callsIn_wide.2 (put_any (w.heap.size + 1) (w.heap.size + 1) W.heap.size 1 [n] ([nameA (Int.toNat 4)]) _ (HLW.out.below ((Below.refl _ _).alloc (Nat.le_refl _) _)) (Whole.new W 3 #[.int .i64 n]) HIN.out (by simp) (by simp) (by simp) (EW.out.here ((Below.refl _ _).alloc (Nat.le_refl _) _)) (by omega) (by simp; omega))).mono ?_⟩
      rintro e w5 ⟨rfl, hLw5, hBw5, hOw5⟩
      have HLw5 := Lib.hid hLw5
      have HBw5 : Hid (Below (w.heap.size + 1) W0 w5) := Lib.hid ((HBW.out.alloc (by omega) _).trans hBw5)
      have HKDw5 : Hid (w5.heap[D]? = some (.deferred (some []))) := Lib.hid (hOw5.same D _ ((Below.heap_alloc W _ D (Array.getElem?_eq_some_iff.1 HKDW.out).1).trans HKDW.out) rfl)
      have hzw5 : W3.heap.size ≤ w5.heap.size := by have := hOw5.size; simp at this; omega
      have Ew5 := Lib.hid (E0.out.below (by omega) HBw5.out)
      clear hLw5 hBw5 hOw5
      obtain ⟨vJ, -, hWJ, hOJ⟩ := HLw5.out.is
      have cJ : w5.cell? ⟨w.heap.size + 1, 0, none⟩ = some vJ := hWJ.cell 0
      have hRJ : w.heap.size + 1 < w5.heap.size := by omega
      have HJ := Lib.hid (join_own (sep := [32]) w5 hOJ (by simp) (by simp) (by
        refine Nat.le_trans (join_len 32 100 _ ?_) (by simp)
        exact HWL.out))
      clear hWJ hOJ
      gi_wp2
      refine ⟨trivial, (callsIn_wide.2 HJ.out).mono ?_⟩
      rintro e WE ⟨rfl, hbE⟩
      have hkE : WE.heap[D]? = some (.deferred (some [])) := (hbE.block D (Array.getElem?_eq_some_iff.1 HKDw5.out).1).trans HKDw5.out
      have HBE : Hid (Below w.heap.size w WE) := Lib.hid ((HB0.out.trans (HBw5.out.mono (by omega))).trans (hbE.mono (by omega)))
      clear hbE
      gi_wp2
      refine ⟨by simp, .inl ⟨_, _, rfl, run_takeDeferred hkE, ?_⟩⟩
      refine ⟨.string (str (actText ⟨4, node, port, cost, n, up, by_, unread, bytes⟩)), ?_, rfl, HBE.out.trans (belowK_b (w := w) (Nat.le_refl _) WE D _ _ (by omega) hkE rfl rfl)⟩
      simp [results, Tryz.results75, go_sem]
      rfl
    · have HIN : Hid (∀ y ∈ [node, port, cost], In64 y) := Lib.hid (by
        intro y hy
        simp only [List.mem_cons, List.not_mem_nil, or_false] at hy
        rcases hy with rfl | rfl | rfl <;> first | exact HI.out.2.1 | exact HI.out.2.2.1 | exact HI.out.2.2.2.1 | exact HI.out.2.2.2.2 | exact in_byte _)
      have HWL : Hid (∀ l ∈ ([nameA (Int.toNat 5)] ++ [node, port, cost].map itoa), l.length ≤ 100) := Lib.hid (words_len HIN.out)
      clear HR HW0 HB3 HS HR3 HW3 HX3 HXW hA hB hc
      gi_wp2
      refine ⟨trivial, (callsIn_wide.2 (put_any (w.heap.size + 1) (w.heap.size + 1) W.heap.size 3 [node, port, cost] ([nameA (Int.toNat 5)]) _ (HLW.out.below ((Below.refl _ _).alloc (Nat.le_refl _) _)) (Whole.new W 3 #[.int .i64 node, .int .i64 port, .int .i64 cost]) HIN.out (by simp) (by simp) (by simp) (EW.out.here ((Below.refl _ _).alloc (Nat.le_refl _) _)) (by omega) (by simp; omega))).mono ?_⟩
      rintro e w5 ⟨rfl, hLw5, hBw5, hOw5⟩
      have HLw5 := Lib.hid hLw5
      have HBw5 : Hid (Below (w.heap.size + 1) W0 w5) := Lib.hid ((HBW.out.alloc (by omega) _).trans hBw5)
      have HKDw5 : Hid (w5.heap[D]? = some (.deferred (some []))) := Lib.hid (hOw5.same D _ ((Below.heap_alloc W _ D (Array.getElem?_eq_some_iff.1 HKDW.out).1).trans HKDW.out) rfl)
      have hzw5 : W3.heap.size ≤ w5.heap.size := by have := hOw5.size; simp at this; omega
      have Ew5 := Lib.hid (E0.out.below (by omega) HBw5.out)
      clear hLw5 hBw5 hOw5
      obtain ⟨vJ, -, hWJ, hOJ⟩ := HLw5.out.is
      have cJ : w5.cell? ⟨w.heap.size + 1, 0, none⟩ = some vJ := hWJ.cell 0
      have hRJ : w.heap.size + 1 < w5.heap.size := by omega
      have HJ := Lib.hid (join_own (sep := [32]) w5 hOJ (by simp) (by simp) (by
        refine Nat.le_trans (join_len 32 100 _ ?_) (by simp)
        exact HWL.out))
      clear hWJ hOJ
      gi_wp2
      refine ⟨trivial, (callsIn_wide.2 HJ.out).mono ?_⟩
      rintro e WE ⟨rfl, hbE⟩
      have hkE : WE.heap[D]? = some (.deferred (some [])) := (hbE.block D (Array.getElem?_eq_some_iff.1 HKDw5.out).1).trans HKDw5.out
      have HBE : Hid (Below w.heap.size w WE) := Lib.hid ((HB0.out.trans (HBw5.out.mono (by omega))).trans (hbE.mono (by omega)))
      clear hbE
      gi_wp2
      refine ⟨by simp, .inl ⟨_, _, rfl, run_takeDeferred hkE, ?_⟩⟩
      refine ⟨.string (str (actText ⟨5, node, port, cost, n, up, by_, unread, bytes⟩)), ?_, rfl, HBE.out.trans (belowK_b (w := w) (Nat.le_refl _) WE D _ _ (by omega) hkE rfl rfl)⟩
      simp [results, Tryz.results75, go_sem]
      rfl
    · have HIN : Hid (∀ y ∈ [n], In64 y) := Lib.hid (by
        intro y hy
        simp only [List.mem_cons, List.not_mem_nil, or_false] at hy
        rcases hy with rfl <;> first | exact HI.out.2.1 | exact HI.out.2.2.1 | exact HI.out.2.2.2.1 | exact HI.out.2.2.2.2 | exact in_byte _)
      have HWL : Hid (∀ l ∈ ([nameA (Int.toNat 6)] ++ [n].map itoa), l.length ≤ 100) := Lib.hid (words_len HIN.out)
      clear HR HW0 HB3 HS HR3 HW3 HX3 HXW hA hB hc
      cases up with
      | false =>
        gi_wp2
        refine ⟨trivial, (callsIn_wide.2 (put_any (w.heap.size + 1) (w.heap.size + 1) W.heap.size 1 [n] ([nameA (Int.toNat 6)]) _ (HLW.out.below ((Below.refl _ _).alloc (Nat.le_refl _) _)) (Whole.new W 3 #[.int .i64 n]) HIN.out (by simp) (by simp) (by simp) (EW.out.here ((Below.refl _ _).alloc (Nat.le_refl _) _)) (by omega) (by simp; omega))).mono ?_⟩
        rintro e w5 ⟨rfl, hLw5, hBw5, hOw5⟩
        have HLw5 := Lib.hid hLw5
        have HBw5 : Hid (Below (w.heap.size + 1) W0 w5) := Lib.hid ((HBW.out.alloc (by omega) _).trans hBw5)
        have HKDw5 : Hid (w5.heap[D]? = some (.deferred (some []))) := Lib.hid (hOw5.same D _ ((Below.heap_alloc W _ D (Array.getElem?_eq_some_iff.1 HKDW.out).1).trans HKDW.out) rfl)
        have hzw5 : W3.heap.size ≤ w5.heap.size := by have := hOw5.size; simp at this; omega
        have Ew5 := Lib.hid (E0.out.below (by omega) HBw5.out)
        clear hLw5 hBw5 hOw5
        obtain ⟨vw6, hBRw6, hWw6, hOw6⟩ := HLw5.out.is
        have cRw6 : w5.cell? ⟨w.heap.size + 1, 0, none⟩ = some vw6 := hWw6.cell 0
        have hXw6 := HX.out.below HBw5.out (by omega)
        have xFw6 : w5.cell? ⟨w.heap.size, 5, none⟩ = some (.bool false) := hXw6.cell 5
        have hRw6 : w.heap.size + 1 < w5.heap.size := by omega
        have hFw6 : w.heap.size < w5.heap.size := by omega
        have HWw6 := Lib.hid hWw6
        have HOw6 := Lib.hid hOw6
        have HBVw6 : Hid (Bs w5 (.slice A bytes.length c) bytes) := Lib.hid (HBV.out.keep (by omega) fun p hp => (HBw5.out.cell (show p.block < _ by omega)).trans (HB0.out.cell hp))
        clear hWw6 hOw6 hXw6
        gi_wp2
        refine wpIn_wide.2 (wp_calm ?_)
        refine wp_region_ext_load (v := vw6) 4 (by kernel_rfl) (by kernel_rfl) rfl rfl (.inl ⟨rfl, ?_⟩) (fun _ _ _ h => h) ?_
        · rintro _ ⟨x, rfl⟩
          have cx := (x.cell ⟨w.heap.size + 1, 0, none⟩ hRw6).trans cRw6
          go_simp
        simp only [List.take_succ_cons, List.take_zero, List.drop_succ_cons, List.drop_zero, Act.put, List.setIfInBounds_toArray, List.set_cons_succ, List.set_cons_zero]
        repeat (go_big_quiet_step (first | (go_at_call 137; exact Ext.callq (either_any _ _ _ _))))
        refine wpQuiet_nil ?_
        rintro _ ⟨zw6, rfl⟩
        go_wp2
        have hzb := zw6.below.size
        refine ⟨⟨⟨_, bel_alloc zw6.below _⟩, rfl⟩, ?_⟩
        have hown2 := own_below HOw6.out zw6.below
        go_wp2_with (at_builtin; refine wpList_push rfl _ _ 40 rfl (w.heap.size + 1) 9 info_str rfl (by decide) Tryz.underlying40 _ _ _ rfl hown2 rfl rfl (by simp) (by omega) ?_)
        intro v' ww6' hown3 hg
        rw [show Value.string { data := #[100, 111, 119, 110] } = Sv (wDown) from rfl] at hown3
        obtain ⟨g3, n3, k3, rfl, c3, f3, hL3, hB3, hK3⟩ := LinesIs.push' (l := wDown) HWw6.out HOw6.out zw6.below hown3 hg hBRw6 (by omega)
        obtain ⟨w6, hnw6⟩ : ∃ X, ww6'.setCell ⟨w.heap.size + 1, 0, none⟩ (.slice (some ⟨g3, 0, none⟩) n3 k3) = X := ⟨_, rfl⟩
        rw [hnw6] at hL3 hB3 hK3
        have HNw6 := Lib.hid hnw6
        have HLw6 := Lib.hid hL3
        have HBw6 : Hid (Below (w.heap.size + 1) W0 w6) := Lib.hid (HBw5.out.trans hB3)
        have HKDw6 : Hid (w6.heap[D]? = some (.deferred (some []))) := Lib.hid (hK3.same D _ HKDw5.out rfl)
        have hzw6 : W3.heap.size ≤ w6.heap.size := by have := hK3.size; omega
        clear hown2 hown3 hg hL3 hB3 hK3 hnw6
        go_wp2
        rw [HNw6.out]
        have HWL6 : Hid (∀ l ∈ [nameA (Int.toNat 6)] ++ [n].map itoa ++ [wDown], l.length ≤ 100) := Lib.hid (words_more HWL.out (by decide))
        obtain ⟨vJ, -, hWJ, hOJ⟩ := HLw6.out.is
        have cJ : w6.cell? ⟨w.heap.size + 1, 0, none⟩ = some vJ := hWJ.cell 0
        have hRJ : w.heap.size + 1 < w6.heap.size := by omega
        have HJ := Lib.hid (join_own (sep := [32]) w6 hOJ (by simp) (by simp) (by
          refine Nat.le_trans (join_len 32 100 _ ?_) (by simp)
          exact HWL6.out))
        clear hWJ hOJ
        gi_wp2
        refine ⟨trivial, (callsIn_wide.2 HJ.out).mono ?_⟩
        rintro e WE ⟨rfl, hbE⟩
        have hkE : WE.heap[D]? = some (.deferred (some [])) := (hbE.block D (Array.getElem?_eq_some_iff.1 HKDw6.out).1).trans HKDw6.out
        have HBE : Hid (Below w.heap.size w WE) := Lib.hid ((HB0.out.trans (HBw6.out.mono (by omega))).trans (hbE.mono (by omega)))
        clear hbE
        gi_wp2
        refine ⟨by simp, .inl ⟨_, _, rfl, run_takeDeferred hkE, ?_⟩⟩
        refine ⟨.string (str (actText ⟨6, node, port, cost, n, false, by_, unread, bytes⟩)), ?_, rfl, HBE.out.trans (belowK_b (w := w) (Nat.le_refl _) WE D _ _ (by omega) hkE rfl rfl)⟩
        simp [results, Tryz.results75, go_sem]
        rfl
      | true =>
        gi_wp2
        refine ⟨trivial, (callsIn_wide.2 (put_any (w.heap.size + 1) (w.heap.size + 1) W.heap.size 1 [n] ([nameA (Int.toNat 6)]) _ (HLW.out.below ((Below.refl _ _).alloc (Nat.le_refl _) _)) (Whole.new W 3 #[.int .i64 n]) HIN.out (by simp) (by simp) (by simp) (EW.out.here ((Below.refl _ _).alloc (Nat.le_refl _) _)) (by omega) (by simp; omega))).mono ?_⟩
        rintro e w5 ⟨rfl, hLw5, hBw5, hOw5⟩
        have HLw5 := Lib.hid hLw5
        have HBw5 : Hid (Below (w.heap.size + 1) W0 w5) := Lib.hid ((HBW.out.alloc (by omega) _).trans hBw5)
        have HKDw5 : Hid (w5.heap[D]? = some (.deferred (some []))) := Lib.hid (hOw5.same D _ ((Below.heap_alloc W _ D (Array.getElem?_eq_some_iff.1 HKDW.out).1).trans HKDW.out) rfl)
        have hzw5 : W3.heap.size ≤ w5.heap.size := by have := hOw5.size; simp at this; omega
        have Ew5 := Lib.hid (E0.out.below (by omega) HBw5.out)
        clear hLw5 hBw5 hOw5
        obtain ⟨vw6, hBRw6, hWw6, hOw6⟩ := HLw5.out.is
        have cRw6 : w5.cell? ⟨w.heap.size + 1, 0, none⟩ = some vw6 := hWw6.cell 0
        have hXw6 := HX.out.below HBw5.out (by omega)
        have xFw6 : w5.cell? ⟨w.heap.size, 5, none⟩ = some (.bool true) := hXw6.cell 5
        have hRw6 : w.heap.size + 1 < w5.heap.size := by omega
        have hFw6 : w.heap.size < w5.heap.size := by omega
        have HWw6 := Lib.hid hWw6
        have HOw6 := Lib.hid hOw6
        have HBVw6 : Hid (Bs w5 (.slice A bytes.length c) bytes) := Lib.hid (HBV.out.keep (by omega) fun p hp => (HBw5.out.cell (show p.block < _ by omega)).trans (HB0.out.cell hp))
        clear hWw6 hOw6 hXw6
        gi_wp2
        refine wpIn_wide.2 (wp_calm ?_)
        refine wp_region_ext_load (v := vw6) 4 (by kernel_rfl) (by kernel_rfl) rfl rfl (.inl ⟨rfl, ?_⟩) (fun _ _ _ h => h) ?_
        · rintro _ ⟨x, rfl⟩
          have cx := (x.cell ⟨w.heap.size + 1, 0, none⟩ hRw6).trans cRw6
          go_simp
        simp only [List.take_succ_cons, List.take_zero, List.drop_succ_cons, List.drop_zero, Act.put, List.setIfInBounds_toArray, List.set_cons_succ, List.set_cons_zero]
        repeat (go_big_quiet_step (first | (go_at_call 137; exact Ext.callq (either_any _ _ _ _))))
        refine wpQuiet_nil ?_
        rintro _ ⟨zw6, rfl⟩
        go_wp2
        have hzb := zw6.below.size
        refine ⟨⟨⟨_, bel_alloc zw6.below _⟩, rfl⟩, ?_⟩
        have hown2 := own_below HOw6.out zw6.below
        go_wp2_with (at_builtin; refine wpList_push rfl _ _ 40 rfl (w.heap.size + 1) 9 info_str rfl (by decide) Tryz.underlying40 _ _ _ rfl hown2 rfl rfl (by simp) (by omega) ?_)
        intro v' ww6' hown3 hg
        rw [show Value.string { data := #[117, 112] } = Sv (wUp) from rfl] at hown3
        obtain ⟨g3, n3, k3, rfl, c3, f3, hL3, hB3, hK3⟩ := LinesIs.push' (l := wUp) HWw6.out HOw6.out zw6.below hown3 hg hBRw6 (by omega)
        obtain ⟨w6, hnw6⟩ : ∃ X, ww6'.setCell ⟨w.heap.size + 1, 0, none⟩ (.slice (some ⟨g3, 0, none⟩) n3 k3) = X := ⟨_, rfl⟩
        rw [hnw6] at hL3 hB3 hK3
        have HNw6 := Lib.hid hnw6
        have HLw6 := Lib.hid hL3
        have HBw6 : Hid (Below (w.heap.size + 1) W0 w6) := Lib.hid (HBw5.out.trans hB3)
        have HKDw6 : Hid (w6.heap[D]? = some (.deferred (some []))) := Lib.hid (hK3.same D _ HKDw5.out rfl)
        have hzw6 : W3.heap.size ≤ w6.heap.size := by have := hK3.size; omega
        clear hown2 hown3 hg hL3 hB3 hK3 hnw6
        go_wp2
        rw [HNw6.out]
        have HWL6 : Hid (∀ l ∈ [nameA (Int.toNat 6)] ++ [n].map itoa ++ [wUp], l.length ≤ 100) := Lib.hid (words_more HWL.out (by decide))
        obtain ⟨vJ, -, hWJ, hOJ⟩ := HLw6.out.is
        have cJ : w6.cell? ⟨w.heap.size + 1, 0, none⟩ = some vJ := hWJ.cell 0
        have hRJ : w.heap.size + 1 < w6.heap.size := by omega
        have HJ := Lib.hid (join_own (sep := [32]) w6 hOJ (by simp) (by simp) (by
          refine Nat.le_trans (join_len 32 100 _ ?_) (by simp)
          exact HWL6.out))
        clear hWJ hOJ
        gi_wp2
        refine ⟨trivial, (callsIn_wide.2 HJ.out).mono ?_⟩
        rintro e WE ⟨rfl, hbE⟩
        have hkE : WE.heap[D]? = some (.deferred (some [])) := (hbE.block D (Array.getElem?_eq_some_iff.1 HKDw6.out).1).trans HKDw6.out
        have HBE : Hid (Below w.heap.size w WE) := Lib.hid ((HB0.out.trans (HBw6.out.mono (by omega))).trans (hbE.mono (by omega)))
        clear hbE
        gi_wp2
        refine ⟨by simp, .inl ⟨_, _, rfl, run_takeDeferred hkE, ?_⟩⟩
        refine ⟨.string (str (actText ⟨6, node, port, cost, n, true, by_, unread, bytes⟩)), ?_, rfl, HBE.out.trans (belowK_b (w := w) (Nat.le_refl _) WE D _ _ (by omega) hkE rfl rfl)⟩
        simp [results, Tryz.results75, go_sem]
        rfl
    · have HIN : Hid (∀ y ∈ [node], In64 y) := Lib.hid (by
        intro y hy
        simp only [List.mem_cons, List.not_mem_nil, or_false] at hy
        rcases hy with rfl <;> first | exact HI.out.2.1 | exact HI.out.2.2.1 | exact HI.out.2.2.2.1 | exact HI.out.2.2.2.2 | exact in_byte _)
      have HWL : Hid (∀ l ∈ ([nameA (Int.toNat 7)] ++ [node].map itoa), l.length ≤ 100) := Lib.hid (words_len HIN.out)
      clear HR HW0 HB3 HS HR3 HW3 HX3 HXW hA hB hc
      gi_wp2
      refine ⟨trivial, (callsIn_wide.2 (put_any (w.heap.size + 1) (w.heap.size + 1) W.heap.size 1 [node] ([nameA (Int.toNat 7)]) _ (HLW.out.below ((Below.refl _ _).alloc (Nat.le_refl _) _)) (Whole.new W 3 #[.int .i64 node]) HIN.out (by simp) (by simp) (by simp) (EW.out.here ((Below.refl _ _).alloc (Nat.le_refl _) _)) (by omega) (by simp; omega))).mono ?_⟩
      rintro e w5 ⟨rfl, hLw5, hBw5, hOw5⟩
      have HLw5 := Lib.hid hLw5
      have HBw5 : Hid (Below (w.heap.size + 1) W0 w5) := Lib.hid ((HBW.out.alloc (by omega) _).trans hBw5)
      have HKDw5 : Hid (w5.heap[D]? = some (.deferred (some []))) := Lib.hid (hOw5.same D _ ((Below.heap_alloc W _ D (Array.getElem?_eq_some_iff.1 HKDW.out).1).trans HKDW.out) rfl)
      have hzw5 : W3.heap.size ≤ w5.heap.size := by have := hOw5.size; simp at this; omega
      have Ew5 := Lib.hid (E0.out.below (by omega) HBw5.out)
      clear hLw5 hBw5 hOw5
      obtain ⟨vJ, -, hWJ, hOJ⟩ := HLw5.out.is
      have cJ : w5.cell? ⟨w.heap.size + 1, 0, none⟩ = some vJ := hWJ.cell 0
      have hRJ : w.heap.size + 1 < w5.heap.size := by omega
      have HJ := Lib.hid (join_own (sep := [32]) w5 hOJ (by simp) (by simp) (by
        refine Nat.le_trans (join_len 32 100 _ ?_) (by simp)
        exact HWL.out))
      clear hWJ hOJ
      gi_wp2
      refine ⟨trivial, (callsIn_wide.2 HJ.out).mono ?_⟩
      rintro e WE ⟨rfl, hbE⟩
      have hkE : WE.heap[D]? = some (.deferred (some [])) := (hbE.block D (Array.getElem?_eq_some_iff.1 HKDw5.out).1).trans HKDw5.out
      have HBE : Hid (Below w.heap.size w WE) := Lib.hid ((HB0.out.trans (HBw5.out.mono (by omega))).trans (hbE.mono (by omega)))
      clear hbE
      gi_wp2
      refine ⟨by simp, .inl ⟨_, _, rfl, run_takeDeferred hkE, ?_⟩⟩
      refine ⟨.string (str (actText ⟨7, node, port, cost, n, up, by_, unread, bytes⟩)), ?_, rfl, HBE.out.trans (belowK_b (w := w) (Nat.le_refl _) WE D _ _ (by omega) hkE rfl rfl)⟩
      simp [results, Tryz.results75, go_sem]
      rfl
    · have HIN : Hid (∀ y ∈ [node, n, (by_.toNat : Int)], In64 y) := Lib.hid (by
        intro y hy
        simp only [List.mem_cons, List.not_mem_nil, or_false] at hy
        rcases hy with rfl | rfl | rfl <;> first | exact HI.out.2.1 | exact HI.out.2.2.1 | exact HI.out.2.2.2.1 | exact HI.out.2.2.2.2 | exact in_byte _)
      have HWL : Hid (∀ l ∈ ([nameA (Int.toNat 8)] ++ [node, n, (by_.toNat : Int)].map itoa), l.length ≤ 100) := Lib.hid (words_len HIN.out)
      clear HR HW0 HB3 HS HR3 HW3 HX3 HXW hA hB hc
      cases unread with
      | false =>
        gi_wp2
        refine ⟨trivial, (callsIn_wide.2 (put_any (w.heap.size + 1) (w.heap.size + 1) W.heap.size 3 [node, n, (by_.toNat : Int)] ([nameA (Int.toNat 8)]) _ (HLW.out.below ((Below.refl _ _).alloc (Nat.le_refl _) _)) (Whole.new W 3 #[.int .i64 node, .int .i64 n, .int .i64 (by_.toNat : Int)]) HIN.out (by simp) (by simp) (by simp) (EW.out.here ((Below.refl _ _).alloc (Nat.le_refl _) _)) (by omega) (by simp; omega))).mono ?_⟩
        rintro e w5 ⟨rfl, hLw5, hBw5, hOw5⟩
        have HLw5 := Lib.hid hLw5
        have HBw5 : Hid (Below (w.heap.size + 1) W0 w5) := Lib.hid ((HBW.out.alloc (by omega) _).trans hBw5)
        have HKDw5 : Hid (w5.heap[D]? = some (.deferred (some []))) := Lib.hid (hOw5.same D _ ((Below.heap_alloc W _ D (Array.getElem?_eq_some_iff.1 HKDW.out).1).trans HKDW.out) rfl)
        have hzw5 : W3.heap.size ≤ w5.heap.size := by have := hOw5.size; simp at this; omega
        have Ew5 := Lib.hid (E0.out.below (by omega) HBw5.out)
        clear hLw5 hBw5 hOw5
        obtain ⟨vw6, hBRw6, hWw6, hOw6⟩ := HLw5.out.is
        have cRw6 : w5.cell? ⟨w.heap.size + 1, 0, none⟩ = some vw6 := hWw6.cell 0
        have hXw6 := HX.out.below HBw5.out (by omega)
        have xFw6 : w5.cell? ⟨w.heap.size, 7, none⟩ = some (.bool false) := hXw6.cell 7
        have hRw6 : w.heap.size + 1 < w5.heap.size := by omega
        have hFw6 : w.heap.size < w5.heap.size := by omega
        have HWw6 := Lib.hid hWw6
        have HOw6 := Lib.hid hOw6
        have HBVw6 : Hid (Bs w5 (.slice A bytes.length c) bytes) := Lib.hid (HBV.out.keep (by omega) fun p hp => (HBw5.out.cell (show p.block < _ by omega)).trans (HB0.out.cell hp))
        clear hWw6 hOw6 hXw6
        gi_wp2
        refine wpIn_wide.2 (wp_calm ?_)
        refine wp_region_ext_load (v := vw6) 4 (by kernel_rfl) (by kernel_rfl) rfl rfl (.inl ⟨rfl, ?_⟩) (fun _ _ _ h => h) ?_
        · rintro _ ⟨x, rfl⟩
          have cx := (x.cell ⟨w.heap.size + 1, 0, none⟩ hRw6).trans cRw6
          go_simp
        simp only [List.take_succ_cons, List.take_zero, List.drop_succ_cons, List.drop_zero, Act.put, List.setIfInBounds_toArray, List.set_cons_succ, List.set_cons_zero]
        repeat (go_big_quiet_step (first | (go_at_call 137; exact Ext.callq (either_any _ _ _ _))))
        refine wpQuiet_nil ?_
        rintro _ ⟨zw6, rfl⟩
        go_wp2
        have hzb := zw6.below.size
        refine ⟨⟨⟨_, bel_alloc zw6.below _⟩, rfl⟩, ?_⟩
        have hown2 := own_below HOw6.out zw6.below
        go_wp2_with (at_builtin; refine wpList_push rfl _ _ 40 rfl (w.heap.size + 1) 9 info_str rfl (by decide) Tryz.underlying40 _ _ _ rfl hown2 rfl rfl (by simp) (by omega) ?_)
        intro v' ww6' hown3 hg
        rw [show Value.string { data := #[114, 101, 97, 100] } = Sv (wRead) from rfl] at hown3
        obtain ⟨g3, n3, k3, rfl, c3, f3, hL3, hB3, hK3⟩ := LinesIs.push' (l := wRead) HWw6.out HOw6.out zw6.below hown3 hg hBRw6 (by omega)
        obtain ⟨w6, hnw6⟩ : ∃ X, ww6'.setCell ⟨w.heap.size + 1, 0, none⟩ (.slice (some ⟨g3, 0, none⟩) n3 k3) = X := ⟨_, rfl⟩
        rw [hnw6] at hL3 hB3 hK3
        have HNw6 := Lib.hid hnw6
        have HLw6 := Lib.hid hL3
        have HBw6 : Hid (Below (w.heap.size + 1) W0 w6) := Lib.hid (HBw5.out.trans hB3)
        have HKDw6 : Hid (w6.heap[D]? = some (.deferred (some []))) := Lib.hid (hK3.same D _ HKDw5.out rfl)
        have hzw6 : W3.heap.size ≤ w6.heap.size := by have := hK3.size; omega
        clear hown2 hown3 hg hL3 hB3 hK3 hnw6
        go_wp2
        rw [HNw6.out]
        have HWL6 : Hid (∀ l ∈ [nameA (Int.toNat 8)] ++ [node, n, (by_.toNat : Int)].map itoa ++ [wRead], l.length ≤ 100) := Lib.hid (words_more HWL.out (by decide))
        obtain ⟨vJ, -, hWJ, hOJ⟩ := HLw6.out.is
        have cJ : w6.cell? ⟨w.heap.size + 1, 0, none⟩ = some vJ := hWJ.cell 0
        have hRJ : w.heap.size + 1 < w6.heap.size := by omega
        have HJ := Lib.hid (join_own (sep := [32]) w6 hOJ (by simp) (by simp) (by
          refine Nat.le_trans (join_len 32 100 _ ?_) (by simp)
          exact HWL6.out))
        clear hWJ hOJ
        gi_wp2
        refine ⟨trivial, (callsIn_wide.2 HJ.out).mono ?_⟩
        rintro e WE ⟨rfl, hbE⟩
        have hkE : WE.heap[D]? = some (.deferred (some [])) := (hbE.block D (Array.getElem?_eq_some_iff.1 HKDw6.out).1).trans HKDw6.out
        have HBE : Hid (Below w.heap.size w WE) := Lib.hid ((HB0.out.trans (HBw6.out.mono (by omega))).trans (hbE.mono (by omega)))
        clear hbE
        gi_wp2
        refine ⟨by simp, .inl ⟨_, _, rfl, run_takeDeferred hkE, ?_⟩⟩
        refine ⟨.string (str (actText ⟨8, node, port, cost, n, up, by_, false, bytes⟩)), ?_, rfl, HBE.out.trans (belowK_b (w := w) (Nat.le_refl _) WE D _ _ (by omega) hkE rfl rfl)⟩
        simp [results, Tryz.results75, go_sem]
        rfl
      | true =>
        gi_wp2
        refine ⟨trivial, (callsIn_wide.2 (put_any (w.heap.size + 1) (w.heap.size + 1) W.heap.size 3 [node, n, (by_.toNat : Int)] ([nameA (Int.toNat 8)]) _ (HLW.out.below ((Below.refl _ _).alloc (Nat.le_refl _) _)) (Whole.new W 3 #[.int .i64 node, .int .i64 n, .int .i64 (by_.toNat : Int)]) HIN.out (by simp) (by simp) (by simp) (EW.out.here ((Below.refl _ _).alloc (Nat.le_refl _) _)) (by omega) (by simp; omega))).mono ?_⟩
        rintro e w5 ⟨rfl, hLw5, hBw5, hOw5⟩
        have HLw5 := Lib.hid hLw5
        have HBw5 : Hid (Below (w.heap.size + 1) W0 w5) := Lib.hid ((HBW.out.alloc (by omega) _).trans hBw5)
        have HKDw5 : Hid (w5.heap[D]? = some (.deferred (some []))) := Lib.hid (hOw5.same D _ ((Below.heap_alloc W _ D (Array.getElem?_eq_some_iff.1 HKDW.out).1).trans HKDW.out) rfl)
        have hzw5 : W3.heap.size ≤ w5.heap.size := by have := hOw5.size; simp at this; omega
        have Ew5 := Lib.hid (E0.out.below (by omega) HBw5.out)
        clear hLw5 hBw5 hOw5
        obtain ⟨vw6, hBRw6, hWw6, hOw6⟩ := HLw5.out.is
        have cRw6 : w5.cell? ⟨w.heap.size + 1, 0, none⟩ = some vw6 := hWw6.cell 0
        have hXw6 := HX.out.below HBw5.out (by omega)
        have xFw6 : w5.cell? ⟨w.heap.size, 7, none⟩ = some (.bool true) := hXw6.cell 7
        have hRw6 : w.heap.size + 1 < w5.heap.size := by omega
        have hFw6 : w.heap.size < w5.heap.size := by omega
        have HWw6 := Lib.hid hWw6
        have HOw6 := Lib.hid hOw6
        have HBVw6 : Hid (Bs w5 (.slice A bytes.length c) bytes) := Lib.hid (HBV.out.keep (by omega) fun p hp => (HBw5.out.cell (show p.block < _ by omega)).trans (HB0.out.cell hp))
        clear hWw6 hOw6 hXw6
        gi_wp2
        refine wpIn_wide.2 (wp_calm ?_)
        refine wp_region_ext_load (v := vw6) 4 (by kernel_rfl) (by kernel_rfl) rfl rfl (.inl ⟨rfl, ?_⟩) (fun _ _ _ h => h) ?_
        · rintro _ ⟨x, rfl⟩
          have cx := (x.cell ⟨w.heap.size + 1, 0, none⟩ hRw6).trans cRw6
          go_simp
        simp only [List.take_succ_cons, List.take_zero, List.drop_succ_cons, List.drop_zero, Act.put, List.setIfInBounds_toArray, List.set_cons_succ, List.set_cons_zero]
        repeat (go_big_quiet_step (first | (go_at_call 137; exact Ext.callq (either_any _ _ _ _))))
        refine wpQuiet_nil ?_
        rintro _ ⟨zw6, rfl⟩
        go_wp2
        have hzb := zw6.below.size
        refine ⟨⟨⟨_, bel_alloc zw6.below _⟩, rfl⟩, ?_⟩
        have hown2 := own_below HOw6.out zw6.below
        go_wp2_with (at_builtin; refine wpList_push rfl _ _ 40 rfl (w.heap.size + 1) 9 info_str rfl (by decide) Tryz.underlying40 _ _ _ rfl hown2 rfl rfl (by simp) (by omega) ?_)
        intro v' ww6' hown3 hg
        rw [show Value.string { data := #[117, 110, 114, 101, 97, 100] } = Sv (wUnread) from rfl] at hown3
        obtain ⟨g3, n3, k3, rfl, c3, f3, hL3, hB3, hK3⟩ := LinesIs.push' (l := wUnread) HWw6.out HOw6.out zw6.below hown3 hg hBRw6 (by omega)
        obtain ⟨w6, hnw6⟩ : ∃ X, ww6'.setCell ⟨w.heap.size + 1, 0, none⟩ (.slice (some ⟨g3, 0, none⟩) n3 k3) = X := ⟨_, rfl⟩
        rw [hnw6] at hL3 hB3 hK3
        have HNw6 := Lib.hid hnw6
        have HLw6 := Lib.hid hL3
        have HBw6 : Hid (Below (w.heap.size + 1) W0 w6) := Lib.hid (HBw5.out.trans hB3)
        have HKDw6 : Hid (w6.heap[D]? = some (.deferred (some []))) := Lib.hid (hK3.same D _ HKDw5.out rfl)
        have hzw6 : W3.heap.size ≤ w6.heap.size := by have := hK3.size; omega
        clear hown2 hown3 hg hL3 hB3 hK3 hnw6
        go_wp2
        rw [HNw6.out]
        have HWL6 : Hid (∀ l ∈ [nameA (Int.toNat 8)] ++ [node, n, (by_.toNat : Int)].map itoa ++ [wUnread], l.length ≤ 100) := Lib.hid (words_more HWL.out (by decide))
        obtain ⟨vJ, -, hWJ, hOJ⟩ := HLw6.out.is
        have cJ : w6.cell? ⟨w.heap.size + 1, 0, none⟩ = some vJ := hWJ.cell 0
        have hRJ : w.heap.size + 1 < w6.heap.size := by omega
        have HJ := Lib.hid (join_own (sep := [32]) w6 hOJ (by simp) (by simp) (by
          refine Nat.le_trans (join_len 32 100 _ ?_) (by simp)
          exact HWL6.out))
        clear hWJ hOJ
        gi_wp2
        refine ⟨trivial, (callsIn_wide.2 HJ.out).mono ?_⟩
        rintro e WE ⟨rfl, hbE⟩
        have hkE : WE.heap[D]? = some (.deferred (some [])) := (hbE.block D (Array.getElem?_eq_some_iff.1 HKDw6.out).1).trans HKDw6.out
        have HBE : Hid (Below w.heap.size w WE) := Lib.hid ((HB0.out.trans (HBw6.out.mono (by omega))).trans (hbE.mono (by omega)))
        clear hbE
        gi_wp2
        refine ⟨by simp, .inl ⟨_, _, rfl, run_takeDeferred hkE, ?_⟩⟩
        refine ⟨.string (str (actText ⟨8, node, port, cost, n, up, by_, true, bytes⟩)), ?_, rfl, HBE.out.trans (belowK_b (w := w) (Nat.le_refl _) WE D _ _ (by omega) hkE rfl rfl)⟩
        simp [results, Tryz.results75, go_sem]
        rfl
    · have HIN : Hid (∀ y ∈ [node], In64 y) := Lib.hid (by
        intro y hy
        simp only [List.mem_cons, List.not_mem_nil, or_false] at hy
        rcases hy with rfl <;> first | exact HI.out.2.1 | exact HI.out.2.2.1 | exact HI.out.2.2.2.1 | exact HI.out.2.2.2.2 | exact in_byte _)
      have HWL : Hid (∀ l ∈ ([nameA (Int.toNat 9)] ++ [node].map itoa), l.length ≤ 100) := Lib.hid (words_len HIN.out)
      clear HR HW0 HB3 HS HR3 HW3 HX3 HXW hA hB hc
      gi_wp2
      refine ⟨trivial, (callsIn_wide.2 (put_any (w.heap.size + 1) (w.heap.size + 1) W.heap.size 1 [node] ([nameA (Int.toNat 9)]) _ (HLW.out.below ((Below.refl _ _).alloc (Nat.le_refl _) _)) (Whole.new W 3 #[.int .i64 node]) HIN.out (by simp) (by simp) (by simp) (EW.out.here ((Below.refl _ _).alloc (Nat.le_refl _) _)) (by omega) (by simp; omega))).mono ?_⟩
      rintro e w5 ⟨rfl, hLw5, hBw5, hOw5⟩
      have HLw5 := Lib.hid hLw5
      have HBw5 : Hid (Below (w.heap.size + 1) W0 w5) := Lib.hid ((HBW.out.alloc (by omega) _).trans hBw5)
      have HKDw5 : Hid (w5.heap[D]? = some (.deferred (some []))) := Lib.hid (hOw5.same D _ ((Below.heap_alloc W _ D (Array.getElem?_eq_some_iff.1 HKDW.out).1).trans HKDW.out) rfl)
      have hzw5 : W3.heap.size ≤ w5.heap.size := by have := hOw5.size; simp at this; omega
      have Ew5 := Lib.hid (E0.out.below (by omega) HBw5.out)
      clear hLw5 hBw5 hOw5
      obtain ⟨vw6, hBRw6, hWw6, hOw6⟩ := HLw5.out.is
      have cRw6 : w5.cell? ⟨w.heap.size + 1, 0, none⟩ = some vw6 := hWw6.cell 0
      have hXw6 := HX.out.below HBw5.out (by omega)
      have xFw6 : w5.cell? ⟨w.heap.size, 8, none⟩ = some (.slice A bytes.length c) := hXw6.cell 8
      have hRw6 : w.heap.size + 1 < w5.heap.size := by omega
      have hFw6 : w.heap.size < w5.heap.size := by omega
      have HWw6 := Lib.hid hWw6
      have HOw6 := Lib.hid hOw6
      have HBVw6 : Hid (Bs w5 (.slice A bytes.length c) bytes) := Lib.hid (HBV.out.keep (by omega) fun p hp => (HBw5.out.cell (show p.block < _ by omega)).trans (HB0.out.cell hp))
      clear hWw6 hOw6 hXw6
      gi_wp2
      refine wpIn_wide.2 (wp_calm ?_)
      refine wp_region_ext_load (v := vw6) 4 (by kernel_rfl) (by kernel_rfl) rfl rfl (.inl ⟨rfl, ?_⟩) (fun _ _ _ h => h) ?_
      · rintro _ ⟨x, rfl⟩
        have cx := (x.cell ⟨w.heap.size + 1, 0, none⟩ hRw6).trans cRw6
        go_simp
      simp only [List.take_succ_cons, List.take_zero, List.drop_succ_cons, List.drop_zero, Act.put, List.setIfInBounds_toArray, List.set_cons_succ, List.set_cons_zero]
      repeat (go_big_quiet_step (first | (go_at_call 138; exact Ext.call (chex_any _ bytes _ (HBVw6.out.ext _) (by omega)))))
      refine wpQuiet_nil ?_
      rintro _ ⟨zw6, rfl⟩
      go_wp2
      have hzb := zw6.below.size
      refine ⟨⟨⟨_, bel_alloc zw6.below _⟩, rfl⟩, ?_⟩
      have hown2 := own_below HOw6.out zw6.below
      go_wp2_with (at_builtin; refine wpList_push rfl _ _ 40 rfl (w.heap.size + 1) 9 info_str rfl (by decide) Tryz.underlying40 _ _ _ rfl hown2 rfl rfl (by simp) (by omega) ?_)
      intro v' ww6' hown3 hg
      rw [show Value.string (str (hexD bytes)) = Sv (hexD bytes) from rfl] at hown3
      obtain ⟨g3, n3, k3, rfl, c3, f3, hL3, hB3, hK3⟩ := LinesIs.push' (l := hexD bytes) HWw6.out HOw6.out zw6.below hown3 hg hBRw6 (by omega)
      obtain ⟨w6, hnw6⟩ : ∃ X, ww6'.setCell ⟨w.heap.size + 1, 0, none⟩ (.slice (some ⟨g3, 0, none⟩) n3 k3) = X := ⟨_, rfl⟩
      rw [hnw6] at hL3 hB3 hK3
      have HNw6 := Lib.hid hnw6
      have HLw6 := Lib.hid hL3
      have HBw6 : Hid (Below (w.heap.size + 1) W0 w6) := Lib.hid (HBw5.out.trans hB3)
      have HKDw6 : Hid (w6.heap[D]? = some (.deferred (some []))) := Lib.hid (hK3.same D _ HKDw5.out rfl)
      have hzw6 : W3.heap.size ≤ w6.heap.size := by have := hK3.size; omega
      clear hown2 hown3 hg hL3 hB3 hK3 hnw6
      go_wp2
      rw [HNw6.out]
      have HWL6 : Hid (∀ l ∈ [nameA (Int.toNat 9)] ++ [node].map itoa ++ [hexD bytes], l.length ≤ 200001) := Lib.hid (words_more (fun l hl => Nat.le_trans (HWL.out l hl) (by omega)) (by have := hexD_len bytes; omega))
      obtain ⟨vJ, -, hWJ, hOJ⟩ := HLw6.out.is
      have cJ : w6.cell? ⟨w.heap.size + 1, 0, none⟩ = some vJ := hWJ.cell 0
      have hRJ : w.heap.size + 1 < w6.heap.size := by omega
      have HJ := Lib.hid (join_own (sep := [32]) w6 hOJ (by simp) (by simp) (by
        refine Nat.le_trans (join_len 32 200001 _ ?_) (by simp)
        exact HWL6.out))
      clear hWJ hOJ
      gi_wp2
      refine ⟨trivial, (callsIn_wide.2 HJ.out).mono ?_⟩
      rintro e WE ⟨rfl, hbE⟩
      have hkE : WE.heap[D]? = some (.deferred (some [])) := (hbE.block D (Array.getElem?_eq_some_iff.1 HKDw6.out).1).trans HKDw6.out
      have HBE : Hid (Below w.heap.size w WE) := Lib.hid ((HB0.out.trans (HBw6.out.mono (by omega))).trans (hbE.mono (by omega)))
      clear hbE
      gi_wp2
      refine ⟨by simp, .inl ⟨_, _, rfl, run_takeDeferred hkE, ?_⟩⟩
      refine ⟨.string (str (actText ⟨9, node, port, cost, n, up, by_, unread, bytes⟩)), ?_, rfl, HBE.out.trans (belowK_b (w := w) (Nat.le_refl _) WE D _ _ (by omega) hkE rfl rfl)⟩
      simp [results, Tryz.results75, go_sem]
      rfl
  case stop =>
    rintro D c pre W _ _ h _
    exact h.elim
end Go.Proofs.YtfbangojgjcbcaaGreatDoor
namespace Go.Proofs.YtfbangojgjcbcaaGreatDoor.Pl
/-- Ahead of the byte i, acc read. -/
def UnInv (l : List UInt8) (i : Nat) (acc : List UInt8) : Prop := unhex l = (unhex (l.drop i)).map fun r => acc ++ r
theorem UnInv.start (l : List UInt8) : UnInv l 0 [] := by simp [UnInv]
theorem UnInv.done {l : List UInt8} {acc : List UInt8} (h : UnInv l l.length acc) : unhex l = some acc := by
  unfold UnInv at h; rw [h, List.drop_length]; simp [unhex]
theorem UnInv.good {l : List UInt8} {i : Nat} {acc : List UInt8} (h : UnInv l i acc) (hi : i + 1 < l.length) {a b : UInt8} (ha : l[i] = a) (hb : l[i + 1] = b) {p q : Nat} (hp : dig a = some p) (hq : dig b = some q) :
    UnInv l (i + 2) (acc ++ [UInt8.ofNat (16 * p + q)]) := by
  unfold UnInv at h ⊢
  rw [h, unhex_step l i hi, ha, hb, hp, hq]
  cases unhex (l.drop (i + 2)) <;> simp
theorem UnInv.bad {l : List UInt8} {i : Nat} {acc : List UInt8} (h : UnInv l i acc) (hi : i + 1 < l.length) {a b : UInt8} (ha : l[i] = a) (hb : l[i + 1] = b) (hn : dig a = none ∨ dig b = none) : unhex l = none := by
  unfold UnInv at h
  rw [h, unhex_step l i hi, ha, hb]
  rcases hn with hn | hn
  · rw [hn]; rfl
  · rw [hn]; cases dig a <;> rfl
end Go.Proofs.YtfbangojgjcbcaaGreatDoor.Pl
namespace Go.Proofs.YtfbangojgjcbcaaGreatDoor
open Go.RowKit Pl
theorem u8_wrap (p : Nat) (h : p < 256) : IntKind.u8.wrap (p : Int) = p := by
  have k : ∀ m : Fin 256, IntKind.u8.wrap (m.1 : Int) = m.1 := by decide +kernel
  exact k ⟨p, h⟩
theorem own_ne {w : World} {base b : Nat} {e : TypeId} {size n : Nat} {v : Value} {xs : List Value} (h : w.ownsRow base e size v n xs) (hb : b < base) : v.ownBlock ≠ some b := fun k => by have := (h.lt b k).1; omega
set_option maxRecDepth 100000 in
set_option maxHeartbeats 1000000 in
theorem rhex (v : Value) (l : List UInt8) (w : World) (hb : Bs w v l) (hl : l.length ≤ 1000000) :
    Calls Tryz.prog 142 #[v] w fun e w' => e = .returned (.string (str (hexText l))) ∧ Below w.heap.size w w' := by
  have HB := Lib.hid hb
  obtain ⟨A, c, rfl, hc, _, _⟩ := hb
  go_enter Tryz.func142, Tryz.ntmps142
  go_wp2
  go_loopw [4, 5] (fun o i wr => ∃ j : Nat, j ≤ l.length ∧ i = .int .i64 j ∧ wr.ownsRow w.heap.size 5 1 o (2 * j) (cellsB (hexText (l.take j))) ∧ Below w.heap.size w wr) (fun _ i _ => l.length - (intOf i).toNat)
  case atStart => exact ⟨0, Nat.zero_le _, rfl, World.ownsRow_nil _ _ _ _, Below.refl _ _⟩
  case round =>
    obtain ⟨j, hj, rfl, hown, hb⟩ := hrel
    by_cases hlt : j < l.length
    · obtain ⟨A', c', hv, _, _, hA⟩ := HB.out
      injection hv with hv1 hv2 hv3
      subst hv1 hv3
      obtain ⟨b, off, rfl, hbs, hcell⟩ := hA (by omega)
      have hcj : wr.cell? ⟨b, off + j, none⟩ = some (.int .u8 (l[j].toNat : Int)) := (hb.cell (show b < w.heap.size from hbs)).trans (hcell j _ (by simp [cellsB, hlt]))
      clear hcell hA
      have ht := hexText_take l j hlt
      obtain ⟨x, hx⟩ : ∃ x, l[j] = x := ⟨_, rfl⟩
      rw [hx] at hcj ht
      clear hx
      have hxl : (x.toNat : Int) < 256 := by have := x.toNat_lt; omega
      have hbz := hb.size
      have hbw : b < wr.heap.size := by omega
      have hne := own_ne hown hbs
      obtain ⟨p, hp⟩ : ∃ p, p = x.toNat / 16 := ⟨_, rfl⟩
      obtain ⟨q, hq⟩ : ∃ q, q = x.toNat % 16 := ⟨_, rfl⟩
      have hw1 : IntKind.u8.wrap ((x.toNat : Int) / 16) = (p : Int) := by
        have e : (x.toNat : Int) / 16 = (p : Int) := by omega
        rw [e]; exact u8_wrap p (by omega)
      have hw2 : Int.tmod (x.toNat : Int) 16 = (q : Int) := by rw [Int.tmod_eq_emod_of_nonneg (by omega)]; omega
      have hp1 : (p : Int) < 16 := by omega
      have hq1 : (q : Int) < 16 := by omega
      have HP := Lib.hid hp
      have HQ := Lib.hid hq
      clear hp hq
      obtain ⟨i0, hi0, hz0, hz1, hz2⟩ := info_parts info_u8
      go_wp2_with fail
      go_region_held3 (fun w' => w'.cell? ⟨b, off + j, none⟩ = some (.int .u8 (x.toNat : Int)))
        (first
          | go_keep
          | (rw [hgrow.cell_far _ (by simp; omega) (Ne.symm hne)]; assumption))
        ((refine step_append_lies _ (by rfl) _ _ _ (by rfl) w.heap.size 5 i0 _ 1 1 Tryz.underlying37 hi0 hz0 hz1 hz2 rfl (by omega) _ (2 * j) _ (by rfl) ((hown.alloc _).drew)
            ⟨wr.heap.size, 0, none⟩ 2 2 [_, _] (by rfl) (by rfl) (World.news_of_block (cs := #[_, _]) (t := 5) (fr := (0, 0)) (heap_alloc_new wr _)) (by simp [Value.oneCell'])
            (by omega) (by unfold maxLen; omega) (by omega) (by simp; omega) (wr.heap.size + 1) (by simp) ?_; intro gg cap w1 hown1 hgrow hat hlt1))
      all_goals
        rw [hx_ba, hx_ba, HP.out, HQ.out] at hown1
        rw [show cellsB (hexText (l.take j)) ++ [Value.int .u8 ((hx (x.toNat / 16)).toNat : Int), Value.int .u8 ((hx (x.toNat % 16)).toNat : Int)] = cellsB (hexText (l.take (j + 1))) from by rw [ht, cellsB_append]; rfl] at hown1
        have hbel := hb.grown (grownBy_alloc (grownBy_drew hgrow)) hbz fun g hg => (hown.lt g hg).1
        have HO1 := Lib.hid hown1
        clear hown1 hgrow hown
        go_wp2
        go_roundw
        case rel => exact ⟨j + 1, by omega, by go_num, HO1.out, hbel⟩
        case measure => simp [intOf]; omega
    · obtain rfl : j = l.length := by omega
      rw [List.take_length] at hown
      have hcv := (Bs.own hown).conv
      clear hown
      go_wp2
      go_ret
      exact ⟨rfl, hb⟩
end Go.Proofs.YtfbangojgjcbcaaGreatDoor
namespace Go.Proofs.YtfbangojgjcbcaaGreatDoor
open Go.RowKit Pl
theorem index_some (b : UInt8) (p : Nat) (w : World) (h : dig b = some p) :
    Calls Tryz.prog 177 #[.string ⟨#[48, 49, 50, 51, 52, 53, 54, 55, 56, 57, 97, 98, 99, 100, 101, 102]⟩, .int .u8 (b.toNat : Int)] w fun e w' => e = .returned (.int .i64 (p : Int)) ∧ w = w' := by
  have key := Tryz.strings_IndexByte ⟨#[48, 49, 50, 51, 52, 53, 54, 55, 56, 57, 97, 98, 99, 100, 101, 102]⟩ (b.toNat : Int) w
  have e := indexByte_dig b
  rw [h] at e
  refine key.mono fun e' w' ⟨h1, h2⟩ => ⟨?_, h2.symm⟩
  rw [h1, show ((b.toNat : Int).toNat.toUInt8) = b from by simp]
  exact congrArg (fun z => Ending.returned (.int .i64 z)) e
theorem index_none (b : UInt8) (w : World) (h : dig b = none) :
    Calls Tryz.prog 177 #[.string ⟨#[48, 49, 50, 51, 52, 53, 54, 55, 56, 57, 97, 98, 99, 100, 101, 102]⟩, .int .u8 (b.toNat : Int)] w fun e w' => e = .returned (.int .i64 (-1)) ∧ w = w' := by
  have key := Tryz.strings_IndexByte ⟨#[48, 49, 50, 51, 52, 53, 54, 55, 56, 57, 97, 98, 99, 100, 101, 102]⟩ (b.toNat : Int) w
  have e := indexByte_dig b
  rw [h] at e
  refine key.mono fun e' w' ⟨h1, h2⟩ => ⟨?_, h2.symm⟩
  rw [h1, show ((b.toNat : Int).toNat.toUInt8) = b from by simp]
  exact congrArg (fun z => Ending.returned (.int .i64 z)) e
/-- What IndexByte of the digits gives. -/
def digI (b : UInt8) : Int := match dig b with | some p => p | none => -1
theorem index_any (b : UInt8) (w : World) :
    Calls Tryz.prog 177 #[.string ⟨#[48, 49, 50, 51, 52, 53, 54, 55, 56, 57, 97, 98, 99, 100, 101, 102]⟩, .int .u8 (b.toNat : Int)] w fun e w' => e = .returned (.int .i64 (digI b)) ∧ w = w' := by
  unfold digI
  cases h : dig b with
  | some p => exact index_some b p w h
  | none => exact index_none b w h
def UnRes (l : List UInt8) (base : Nat) (e : Ending) (w' : World) : Prop :=
  (∃ m v, unhex l = some m ∧ e = .returned (.tuple #[v, .int .i64 0]) ∧ w'.ownsRow base 5 1 v m.length (cellsB m)) ∨
  (unhex l = none ∧ e = .returned (.tuple #[.slice none 0 0, .int .i64 4]))
theorem index_at (a : UInt8) (d : Int) (w : World) (h : digI a = d) :
    Calls Tryz.prog 177 #[.string ⟨#[48, 49, 50, 51, 52, 53, 54, 55, 56, 57, 97, 98, 99, 100, 101, 102]⟩, .int .u8 (a.toNat : Int)] w fun e w' => e = .returned (.int .i64 d) ∧ w = w' := h ▸ index_any a w
theorem digI_some {a : UInt8} {p : Nat} (h : dig a = some p) : digI a = p := by unfold digI; rw [h]
theorem digI_none {a : UInt8} (h : dig a = none) : digI a = -1 := by unfold digI; rw [h]
theorem or16 (p q : Nat) (hp : p < 16) (hq : q < 16) : bits .or .i64 ((p : Int) * 16) (q : Int) % 256 = ((UInt8.ofNat (16 * p + q)).toNat : Int) := by
  have k : ∀ p q : Fin 16, bits .or .i64 ((p.1 : Int) * 16) (q.1 : Int) % 256 = ((UInt8.ofNat (16 * p.1 + q.1)).toNat : Int) := by decide +kernel
  exact k ⟨p, hp⟩ ⟨q, hq⟩
theorem unhex_rel {w wr w1 : World} {acc : List UInt8} {v v' : Value} {x : UInt8} (hb : Below w.heap.size w wr) (hown : wr.ownsRow w.heap.size 5 1 v acc.length (cellsB acc))
    (hown' : w1.ownsRow w.heap.size 5 1 v' (acc.length + 1) (cellsB acc ++ [.int .u8 (x.toNat : Int)])) (hg : wr.grownBy w1 v.ownBlock) :
    w1.ownsRow w.heap.size 5 1 v' (acc ++ [x]).length (cellsB (acc ++ [x])) ∧ Below w.heap.size w w1 := by
  refine ⟨?_, hb.grown hg hb.size fun g hg => (hown.lt g hg).1⟩
  rw [cellsB_append, List.length_append]; exact hown'
set_option maxRecDepth 100000 in
set_option maxHeartbeats 1000000 in
theorem unhex_any (l : List UInt8) (w : World) (hl : l.length ≤ 1000000) :
    Calls Tryz.prog 145 #[.string (str l)] w fun e w' => UnRes l w.heap.size e w' ∧ Below w.heap.size w w' := by
  have hsz : (str l).size = l.length := str_size l
  by_cases hev : l.length % 2 = 0
  · have dev : (((l.length : Int) % 2) == 0) = true := by simp; omega
    go_enter Tryz.func145, Tryz.ntmps145
    go_wp2
    go_step3
    go_wp2
    go_step3
    go_wp2
    go_loopw [4, 5, 6] (fun v g i wr => ∃ (j : Nat) (acc : List UInt8), 2 * j ≤ l.length ∧ acc.length = j ∧ Hid (UnInv l (2 * j) acc) ∧ g = .bool true ∧ i = .int .i64 ((2 * j : Nat) : Int) ∧ wr.ownsRow w.heap.size 5 1 v acc.length (cellsB acc) ∧ Below w.heap.size w wr) (fun _ _ i _ => l.length - (intOf i).toNat)
    case atStart => exact ⟨0, [], by omega, rfl, Lib.hid (UnInv.start l), by first | rfl | (simp; done) | (simp; omega), rfl, World.ownsRow_nil _ _ _ _, Below.refl _ _⟩
    case round =>
      obtain ⟨j, acc, hj, hacc, HI, rfl, rfl, hown, hb⟩ := hrel
      have hbs := hb.size
      obtain ⟨i, hi⟩ : ∃ i, i = 2 * j := ⟨_, rfl⟩
      rw [← hi] at hj HI ⊢
      by_cases hlt : i < l.length
      · have hlt1 : i + 1 < l.length := by omega
        obtain ⟨a, ha⟩ : ∃ a, l[i]'hlt = a := ⟨_, rfl⟩
        obtain ⟨b, hb1⟩ : ∃ b, l[i + 1]'hlt1 = b := ⟨_, rfl⟩
        have HG := Lib.hid (fun p q => UnInv.good HI.out hlt1 ha hb1 (p := p) (q := q))
        have HN := Lib.hid (UnInv.bad HI.out hlt1 ha hb1)
        have s0 := str_lt hlt
        have s1 := str_lt hlt1
        have ea : (str l)[i]'s0 = a := ha
        have eb : (str l)[i + 1]'s1 = b := hb1
        have d0 : (i : Int) < (l.length : Int) := by omega
        have d1 : (i : Int) + 1 < (l.length : Int) := by omega
        have hjl : acc.length ≤ 1000000 := by omega
        have HJ := Lib.hid hi
        clear ha hb1 HI hi
        cases hda : dig a with
        | none =>
          have HD := Lib.hid (digI_none hda)
          have HZ := Lib.hid (HN.out (.inl hda))
          obtain ⟨db, hdb⟩ : ∃ d, digI b = d := ⟨_, rfl⟩
          have HD2 := Lib.hid hdb
          clear hda HG HN hdb
          go_wp2_with fail
          refine wp_region_ext (by kernel_rfl) (by kernel_rfl) ?_
          repeat (go_big_quiet_step (first | (go_at_call 177; exact Ext.callq (index_at a _ _ HD.out)) | (go_at_call 177; exact Ext.callq (index_at b _ _ HD2.out))))
          refine wpQuiet_nil ?_
          rintro _ ⟨y, rfl⟩
          go_wp2
          try rw [Exit.noGoto_ret]
          go_ret2
          exact ⟨.inr ⟨HZ.out, rfl⟩, Ext.lift y hb⟩
        | some p =>
          cases hdb : dig b with
          | none =>
            have HD := Lib.hid (digI_some hda)
            have HD2 := Lib.hid (digI_none hdb)
            have HZ := Lib.hid (HN.out (.inr hdb))
            clear hda HG HN hdb
            go_wp2_with fail
            refine wp_region_ext (by kernel_rfl) (by kernel_rfl) ?_
            repeat (go_big_quiet_step (first | (go_at_call 177; exact Ext.callq (index_at a _ _ HD.out)) | (go_at_call 177; exact Ext.callq (index_at b _ _ HD2.out))))
            refine wpQuiet_nil ?_
            rintro _ ⟨y, rfl⟩
            go_wp2
            try rw [Exit.noGoto_ret]
            go_ret2
            exact ⟨.inr ⟨HZ.out, rfl⟩, Ext.lift y hb⟩
          | some q =>
            have HD := Lib.hid (digI_some hda)
            have HD2 := Lib.hid (digI_some hdb)
            have HI2 := Lib.hid (HG.out p q hda hdb)
            have hp := dig_lt hda
            have hq := dig_lt hdb
            clear hda HG HN hdb
            go_wp2_with fail
            refine wp_region_ext (by kernel_rfl) (by kernel_rfl) ?_
            repeat (go_big_quiet_step (first | (go_at_call 177; exact Ext.callq (index_at a _ _ HD.out)) | (go_at_call 177; exact Ext.callq (index_at b _ _ HD2.out))))
            refine wpQuiet_nil ?_
            rintro _ ⟨y, rfl⟩
            have hown1 := own_below hown y.below
            have hb1 := Ext.lift y hb
            have hbs1 := hb1.size
            clear hown hb
            have hor := or16 p q hp hq
            go_wp2_with (at_builtin; refine wpList_push rfl _ _ 37 rfl w.heap.size 5 info_u8 rfl (by decide) Tryz.underlying37 _ _ _ rfl hown1 rfl rfl (by omega) hbs1 ?_)
            intro v' w1 hown' hg
            rw [← hacc, show ((16 * (p : Int) + (q : Int)) % 256) = ((UInt8.ofNat (16 * p + q)).toNat : Int) from by simp] at hown'
            have R := unhex_rel hb1 hown1 hown' hg
            have HR := Lib.hid R.1
            have HR2 := Lib.hid R.2
            clear hown1 hown' hg hb1 R
            go_wp2
            go_roundw
            case rel => exact ⟨j + 1, _, by have := HJ.out; omega, by simp [hacc], Lib.hid (by have := HI2.out; rw [HJ.out] at this; exact this), rfl, by have := HJ.out; go_num, HR.out, HR2.out⟩
            case measure => simp [intOf]; omega
      · have hi' : i = l.length := by omega
        have HZ : Hid (unhex l = some acc) := Lib.hid (by have := HI.out; rw [hi'] at this; exact this.done)
        have d0 : decide ((i : Int) < (l.length : Int)) = false := by simp; omega
        clear HI hi
        go_wp2
        try rw [Exit.noGoto_ret]
        go_ret2
        exact ⟨.inl ⟨acc, _, HZ.out, rfl, hown⟩, hb⟩
  · have dev : (((l.length : Int) % 2) == 0) = false := by simp; omega
    have HZ := Lib.hid (unhex_odd l (by omega))
    go_enter Tryz.func145, Tryz.ntmps145
    go_wp2
    go_step3
    go_wp2
    go_step3
    go_wp2
    go_loopw [4, 5, 6] (fun v g i wr => g = .bool false ∧ wr = w) (fun _ _ i _ => l.length - (intOf i).toNat)
    case atStart => exact ⟨by first | rfl | simp [dev], rfl⟩
    case round =>
      obtain ⟨rfl, rfl⟩ := hrel
      go_wp2
      try rw [Exit.noGoto_ret]
      go_ret2
      exact ⟨.inr ⟨HZ.out, rfl⟩, Below.refl _ _⟩
end Go.Proofs.YtfbangojgjcbcaaGreatDoor
namespace Go.Proofs.YtfbangojgjcbcaaGreatDoor
open Go.RowKit Pl
theorem cActText_yes (a : ActP) (bv : Value) (w : World) (h : Bs w bv a.bytes) (hi : InA a) (hm : mayA a = true) (hl : a.bytes.length ≤ 100000) (E : Env w) :
    Calls Tryz.prog 30 #[actV a bv] w fun e w' => e = .returned (.tuple #[.string (str (actText a)), .int .i64 0]) ∧ Below w.heap.size w w' := by
  have hk : K9 a := by unfold mayA at hm; simp only [Bool.and_eq_true, decide_eq_true_eq] at hm; exact ⟨hm.1.1.1, hm.1.1.2⟩
  have HM := Lib.hid (fun W (hb : Below w.heap.size w W) => cmayAct_any a bv W (h.below hb) (by omega))
  rw [hm] at HM
  have HT := Lib.hid (fun W (hb : Below w.heap.size w W) => cactText_any a bv W hk (h.below hb) hi hl (E.here hb))
  obtain ⟨A, c, rfl, -⟩ := h
  obtain ⟨W0, hW0⟩ : ∃ W0, w.alloc (.cells #[.int .i64 a.kind, .int .i64 a.node, .int .i64 a.port, .int .i64 a.cost, .int .i64 a.n, .bool a.up, .int .u8 (a.by_.toNat : Int), .bool a.unread, .slice A a.bytes.length c] 51) = W0 := ⟨_, rfl⟩
  have HB0 : Hid (Below w.heap.size w W0) := Lib.hid (by rw [← hW0]; exact (Below.refl _ _).alloc (Nat.le_refl _) _)
  have HX : Whole W0 w.heap.size 51 #[.int .i64 a.kind, .int .i64 a.node, .int .i64 a.port, .int .i64 a.cost, .int .i64 a.n, .bool a.up, .int .u8 (a.by_.toNat : Int), .bool a.unread, .slice A a.bytes.length c] := by rw [← hW0]; exact Whole.new w _ _
  have hlt1 := HX.lt
  have y0 : W0.cell? ⟨w.heap.size, 0, none⟩ = some (.int .i64 a.kind) := HX.cell 0
  have y1 : W0.cell? ⟨w.heap.size, 1, none⟩ = some (.int .i64 a.node) := HX.cell 1
  have y2 : W0.cell? ⟨w.heap.size, 2, none⟩ = some (.int .i64 a.port) := HX.cell 2
  have y3 : W0.cell? ⟨w.heap.size, 3, none⟩ = some (.int .i64 a.cost) := HX.cell 3
  have y4 : W0.cell? ⟨w.heap.size, 4, none⟩ = some (.int .i64 a.n) := HX.cell 4
  have y5 : W0.cell? ⟨w.heap.size, 5, none⟩ = some (.bool a.up) := HX.cell 5
  have y6 : W0.cell? ⟨w.heap.size, 6, none⟩ = some (.int .u8 (a.by_.toNat : Int)) := HX.cell 6
  have y7 : W0.cell? ⟨w.heap.size, 7, none⟩ = some (.bool a.unread) := HX.cell 7
  have y8 : W0.cell? ⟨w.heap.size, 8, none⟩ = some (.slice A a.bytes.length c) := HX.cell 8
  have HW0 := Lib.hid hW0
  clear hW0 HX hk hm hi E
  go_enter Tryz.func30, Tryz.ntmps30
  go_upto_region 1 with fail
  rw [HW0.out]
  go_wp2_with fail
  refine (ext_of (HM.out W0 HB0.out)).mono ?_
  rintro e w' ⟨rfl, x, rfl⟩
  go_wp2_with fail
  refine (Ext.call (HT.out x.w (HB0.out.trans (x.below.mono HB0.out.size)))).mono ?_
  rintro e w' ⟨rfl, y, rfl⟩
  go_wp2
  go_ret2
  exact ⟨rfl, HB0.out.trans (y.below.mono HB0.out.size)⟩
theorem cActText_no (a : ActP) (bv : Value) (w : World) (h : Bs w bv a.bytes) (hm : mayA a = false) (hl : a.bytes.length ≤ 1000000000) :
    Calls Tryz.prog 30 #[actV a bv] w fun e w' => e = .returned (.tuple #[.string (str []), .int .i64 2]) ∧ Below w.heap.size w w' := by
  have HM := Lib.hid (fun W (hb : Below w.heap.size w W) => cmayAct_any a bv W (h.below hb) hl)
  rw [hm] at HM
  obtain ⟨A, c, rfl, -⟩ := h
  clear hm
  go_enter Tryz.func30, Tryz.ntmps30
  go_wp2_with fail
  refine (HM.out _ ((Below.refl _ _).alloc (Nat.le_refl _) _)).mono ?_
  rintro e w' ⟨rfl, hb⟩
  have HB := Lib.hid hb
  clear hb
  go_wp2
  go_ret2
  exact ⟨rfl, ((Below.refl _ _).alloc (Nat.le_refl _) _).trans (HB.out.mono (by simp))⟩
/-- A slice of words. -/
structure Wds (w : World) (g n c : Nat) (ws : List (List UInt8)) : Prop where
  len : n = ws.length
  cap : ws.length ≤ c
  lt : g < w.heap.size
  at_ : ∀ j x, ws[j]? = some x → w.cell? ⟨g, j, none⟩ = some (.string (str x))
theorem Wds.here {w w' : World} {g n c : Nat} {ws : List (List UInt8)} (h : Wds w g n c ws) (hb : Below w.heap.size w w') : Wds w' g n c ws :=
  ⟨h.len, h.cap, Nat.lt_of_lt_of_le h.lt hb.size, fun j x hx => (hb.cell h.lt).trans (h.at_ j x hx)⟩
theorem guess1_any (i : Nat) (R g n c : Nat) (ws : List (List UInt8)) (w : World) (h : Wds w g n c ws) (hR : w.cell? ⟨R, 0, none⟩ = some (.slice (some ⟨g, 0, none⟩) n c)) (hi : i < ws.length) (hlen : ∀ x ∈ ws, x.length ≤ 1000000) (_hn : n ≤ 1000000000) (E : Env w) :
    Calls Tryz.prog 144 #[.int .i64 i, .pointer (some ⟨R, 0, none⟩)] w fun e w' => e = .returned (.int .i64 (numC (wd ws i))) ∧ Below w.heap.size w w' := by
  obtain ⟨x, hx⟩ : ∃ x, ws[i]? = some x := ⟨_, List.getElem?_eq_getElem hi⟩
  have hc := h.at_ i x hx
  have hwd : wd ws i = x := by unfold wd; rw [List.getD_eq_getElem?_getD, hx]; rfl
  rw [hwd]
  have HC := Lib.hid (cnum_any x w (hlen x (List.mem_of_getElem? hx)) E)
  have hin : i < n := by have := h.len; omega
  have hcap : n ≤ c := by have := h.cap; have := h.len; omega
  clear hx hwd hi h E
  go_enter Tryz.func144, Tryz.ntmps144
  go_wp2_with fail
  refine HC.out.mono ?_
  rintro e w' ⟨rfl, hb⟩
  have HB := Lib.hid hb
  clear hb
  go_wp2
  go_ret
  exact ⟨rfl, HB.out⟩
end Go.Proofs.YtfbangojgjcbcaaGreatDoor
