/- Part 9 of the proof: LinesC, ConfTx, Hex, ActD, ActE. -/
import Derived.WalkMore
import Derived.Lib.AppendStr
import Derived.Lib.UnsafeStr
import Derived.Test.YtfbangojgjcbcaaGreatDoorShelf2
import Derived.Test.YtfbangojgjcbcaaGreatDoorSC01
import Derived.Test.YtfbangojgjcbcaaGreatDoorSC02
import Derived.Test.YtfbangojgjcbcaaGreatDoorSC03
import Derived.Test.YtfbangojgjcbcaaGreatDoorSC06
import Derived.Test.YtfbangojgjcbcaaGreatDoorSC07
import Derived.Test.YtfbangojgjcbcaaGreatDoorSC08
namespace Go.Proofs.YtfbangojgjcbcaaGreatDoor
open Go.RowKit Pl
/-- Box R holds a slice of the call's own (from B on), which holds the lines ls. -/
structure LinesIs (B R : Nat) (ls : List (List UInt8)) (w : World) : Prop where
  is : ∃ v, B ≤ R ∧ Whole w R 40 #[v] ∧ w.ownsRow B 9 1 v ls.length (ls.map Sv)
theorem LinesIs.below {B R : Nat} {ls : List (List UInt8)} {w w' : World} (h : LinesIs B R ls w) (hb : Below w.heap.size w w') : LinesIs B R ls w' := by
  obtain ⟨v, h0, h1, h2⟩ := h.is
  exact ⟨v, h0, h1.here hb, own_below h2 hb⟩
set_option maxRecDepth 100000 in
set_option maxHeartbeats 4000000 in
theorem lines1_any (B R : Nat) (wd : List UInt8) (n : Int) (ls : List (List UInt8)) (w : World) (h : LinesIs B R ls w) (hl : ls.length ≤ 100000) (hw : wd.length ≤ 1000) (h0 : -1000000000 ≤ n) (h1 : n ≤ 1000000000) (E : Env w) (hBw : B ≤ w.heap.size) :
    Calls Tryz.prog 123 #[.string (str wd), .int .i64 n, .pointer (some ⟨R, 0, none⟩)] w fun e w' => e = .returned (.tuple #[]) ∧ LinesIs B R (ls ++ [lnNum wd n]) w' ∧ Below B w w' := by
  obtain ⟨v, hBR, hW, hO⟩ := h.is
  have hR := hW.lt
  have hWs : (str wd).size = wd.length := str_size wd
  have hno := hW.notRow hO (by decide)
  have HW := Lib.hid hW
  have HO := Lib.hid hO
  have c0 : w.cell? ⟨R, 0, none⟩ = some v := hW.cell 0
  obtain ⟨i0, hi0, hz0, hz1, hz2⟩ := info_parts info_str
  have q1 : ¬ 9223372036854775807 < wd.length + 1 := by omega
  have s1 : (str (Lib.itoa n)).size ≤ 20 := by rw [str_size]; exact itoa_len20 ⟨by omega, by omega⟩
  have q2 : ¬ 9223372036854775807 < wd.length + 1 + (str (Lib.itoa n)).size := by omega
  clear h hW hO
  go_enter Tryz.func123, Tryz.ntmps123
  go_wp2
  refine wp_region_ext_load (v := v) 6 (by kernel_rfl) (by kernel_rfl) rfl rfl (.inl ⟨rfl, ?_⟩) (fun _ _ _ h => h) ?_
  · rintro _ ⟨x, rfl⟩
    have cx := (x.cell ⟨R, 0, none⟩ hR).trans c0
    go_simp
  simp only [List.take_succ_cons, List.take_zero, List.drop_succ_cons, List.drop_zero, Act.put, List.setIfInBounds_toArray, List.set_cons_succ, List.set_cons_zero]
  repeat (go_big_quiet_step (first | (go_at_call 58; exact Ext.call (itoa_any _ _ (by omega) (by omega) (Ext.env _ E)))))
  refine wpQuiet_nil ?_
  rintro _ ⟨z, rfl⟩
  go_wp2
  have hb2 := z.below.size
  refine ⟨⟨⟨_, bel_alloc z.below _⟩, rfl⟩, ?_⟩
  have hown2 := own_below HO.out z.below
  go_wp2_with (at_builtin; refine wpList_push rfl _ _ 40 rfl B 9 info_str rfl (by decide) Tryz.underlying40 _ _ _ rfl hown2 rfl rfl (by omega) (by omega) ?_)
  intro v' w3 hown3 hg
  have hW3 := (HW.out.here z.below).kept hg (Ne.symm hno)
  have c3 : w3.cell? ⟨R, 0, none⟩ = some v := hW3.cell 0
  have f3 := hW3.frozen 0
  have e : Value.string (str wd ++ { data := #[32] } ++ str (Lib.itoa n)) = Sv (lnNum wd n) := by
    show Value.string (str wd ++ str [32] ++ str (Lib.itoa n)) = _
    unfold Sv lnNum
    simp only [str_append]
    congr 2
    simp
  rw [e] at hown3
  obtain ⟨g3, k3, rfl, _, _⟩ := hown3.form (by omega)
  have HO3 : Hid ((w3.setCell ⟨R, 0, none⟩ (.slice (some ⟨g3, 0, none⟩) (ls.length + 1) k3)).ownsRow B 9 1 (.slice (some ⟨g3, 0, none⟩) (ls.length + 1) k3) (ls ++ [lnNum wd n]).length ((ls ++ [lnNum wd n]).map Sv)) := Lib.hid (by
    rw [List.length_append, List.map_append]
    exact own_grown hW3 hown3 (by decide) (grown_set w3 R 0 _))
  have HW4 := Lib.hid (hW3.set 0 (.slice (some ⟨g3, 0, none⟩) (ls.length + 1) k3))
  have HB4 : Hid (Below B w (w3.setCell ⟨R, 0, none⟩ (.slice (some ⟨g3, 0, none⟩) (ls.length + 1) k3))) := Lib.hid ((((z.below.mono hBw).grown hg (by omega) fun g hg' => (hown2.lt g hg').1)).setCell (p := ⟨R, 0, none⟩) hBR _)
  clear hown2 hown3 hg hW3
  go_wp2
  go_end0
  exact ⟨rfl, ⟨_, hBR, HW4.out, HO3.out⟩, HB4.out⟩
end Go.Proofs.YtfbangojgjcbcaaGreatDoor
namespace Go.Proofs.YtfbangojgjcbcaaGreatDoor
open Go.RowKit Pl
/-- The slice value v holds the texts ls, in a block from lo on, below hi; or there are none. -/
def Ss (lo hi : Nat) (W : World) (v : Value) (ls : List (List UInt8)) : Prop :=
  ∃ (A : Option Addr) (c : Nat), v = .slice A ls.length c ∧ (0 < ls.length → ∃ b off, A = some ⟨b, off, none⟩ ∧ (lo ≤ b ∧ b < hi) ∧ ∀ j l, ls[j]? = some l → W.cell? ⟨b, off + j, none⟩ = some (.string (str l)))
theorem Ss.own {w : World} {base : Nat} {e : TypeId} {v : Value} {ls : List (List UInt8)} {n : Nat} (h : w.ownsRow base e 1 v n (ls.map Sv)) : Ss base w.heap.size w v ls := by
  have hn : n = ls.length := by have := h.1; simp at this; omega
  subst hn
  rcases h.2 with ⟨rfl, h0⟩ | ⟨g, cap, cur, rfl, hg, hh, hnc, _⟩
  · have h0' : ls = [] := by simpa using h0
    subst h0'; exact ⟨none, 0, rfl, fun h => absurd h (by simp)⟩
  · refine ⟨_, cap, rfl, fun hp => ⟨g, 0, rfl, ⟨(h.lt g rfl).1, (h.lt g rfl).2⟩, fun j l hl => ?_⟩⟩
    have := h.cells (g := g) rfl j (Sv l) (by rw [List.getElem?_map, hl]; rfl)
    rw [show ((⟨g, 0, none⟩ : Addr).add j) = ⟨g, 0 + j, none⟩ from by unfold Addr.add; by_cases hj : j = 0 <;> simp [hj]] at this
    exact this
theorem Ss.low {lo lo' hi : Nat} {W : World} {v : Value} {ls : List (List UInt8)} (h : Ss lo hi W v ls) (hl : lo' ≤ lo) : Ss lo' hi W v ls := by
  obtain ⟨A, c, rfl, hA⟩ := h
  refine ⟨A, c, rfl, fun hp => ?_⟩
  obtain ⟨b, off, h1, h2, h3⟩ := hA hp
  exact ⟨b, off, h1, ⟨by omega, h2.2⟩, h3⟩
theorem Ss.here {lo hi hi' : Nat} {w w' : World} {v : Value} {ls : List (List UInt8)} (h : Ss lo hi w v ls) (hh : hi ≤ w.heap.size) (hi2 : hi ≤ hi') (hb : Below w.heap.size w w') : Ss lo hi' w' v ls := by
  obtain ⟨A, c, rfl, hA⟩ := h
  refine ⟨A, c, rfl, fun hp => ?_⟩
  obtain ⟨b, off, h1, h2, h3⟩ := hA hp
  exact ⟨b, off, h1, ⟨h2.1, by omega⟩, fun j l hj => (hb.cell (p := ⟨b, off + j, none⟩) (show b < _ by omega)).trans (h3 j l hj)⟩
/-- What slices.Values answers: its closure over a box that holds the slice. -/
def SeqOf (lo : Nat) (ls : List (List UInt8)) (e : Ending) (w' : World) : Prop :=
  ∃ Bs v, e = .returned (.func (.func 160) #[] #[.pointer (some ⟨Bs, 0, none⟩)]) ∧ (lo ≤ Bs ∧ Bs < w'.heap.size) ∧ w'.cell? ⟨Bs, 0, none⟩ = some v ∧ Ss lo w'.heap.size w' v ls
set_option maxRecDepth 100000 in
theorem values_any (lo : Nat) (v : Value) (ls : List (List UInt8)) (w : World) (h : Ss lo w.heap.size w v ls) (hlo : lo ≤ w.heap.size) :
    Calls Tryz.prog 126 #[v] w fun e w' => SeqOf lo ls e w' ∧ Below w.heap.size w w' := by
  have HS := Lib.hid h
  obtain ⟨A, c, rfl, _⟩ := h
  go_enter Tryz.func126, Tryz.ntmps126
  go_wp2
  go_ret
  refine ⟨⟨_, _, rfl, ⟨hlo, by simp⟩, (Whole.new w 40 #[.slice A ls.length c]).cell 0, ?_⟩, (by repeat (first | exact Below.refl _ _ | apply Below.drew | apply Go.below_drewN | apply bel_alloc | apply Ext.lift | apply bel_set0 | apply bel_set))⟩
  exact HS.out.here (Nat.le_refl _) (by simp) ((Below.refl _ _).alloc (Nat.le_refl _) _)
def linesC (c : Cfg) : List (List UInt8) := if mayC c then linesP c else []
theorem addrText_int (x : Int) (w : World) (hx : IsAddr x) (E : Env w) : Calls Tryz.prog 124 #[.int .u32 x] w fun e w' => e = .returned (.string (str (addrText x.toNat))) ∧ Below w.heap.size w w' := by
  have := addrText_any x.toNat w (by have := hx.1; have := hx.2; omega) E
  rwa [Int.toNat_of_nonneg hx.1] at this
theorem cprefixText_int (x n : Int) (w : World) (hx : IsAddr x) (hm : mayP x n = true) (E : Env w) :
    Calls Tryz.prog 125 #[.agg #[.int .u32 x, .int .i64 n]] w fun e w' => e = .returned (.tuple #[.string (str (prefixText x.toNat n.toNat)), .int .i64 0]) ∧ Below w.heap.size w w' := by
  have hn := mayP_len hm
  have := prefixText_ok x.toNat n.toNat w (by have := hx.1; have := hx.2; omega) (by rw [Int.toNat_of_nonneg hx.1, Int.toNat_of_nonneg hn.1]; exact hm) E
  rwa [Int.toNat_of_nonneg hx.1, Int.toNat_of_nonneg hn.1] at this
end Go.Proofs.YtfbangojgjcbcaaGreatDoor
namespace Go.Proofs.YtfbangojgjcbcaaGreatDoor
open Go.RowKit Pl
theorem LinesIs.push {B R : Nat} {ls : List (List UInt8)} {l : List UInt8} {w z w3 : World} {v v' : Value} (hW : Whole w R 40 #[v]) (hO : w.ownsRow B 9 1 v ls.length (ls.map Sv)) (hz : Below w.heap.size w z)
    (hO3 : w3.ownsRow B 9 1 v' (ls.length + 1) (ls.map Sv ++ [Sv l])) (hg : z.grownBy w3 v.ownBlock) (hBR : B ≤ R) (hBw : B ≤ w.heap.size) :
    ∃ g n k, v' = .slice (some ⟨g, 0, none⟩) n k ∧ w3.cell? ⟨R, 0, none⟩ = some v ∧ w3.frozen? ⟨R, 0, none⟩ = false ∧ LinesIs B R (ls ++ [l]) (w3.setCell ⟨R, 0, none⟩ v') ∧ Below B w (w3.setCell ⟨R, 0, none⟩ v') := by
  obtain ⟨g3, k3, rfl, _, _⟩ := hO3.form (by omega)
  have hno := hW.notRow hO (by decide)
  have hW3 := (hW.here hz).kept hg (Ne.symm hno)
  have hs := hz.size
  refine ⟨g3, _, k3, rfl, hW3.cell 0, hW3.frozen 0, ⟨_, hBR, hW3.set 0 _, ?_⟩, ?_⟩
  · rw [List.length_append, List.map_append]
    exact own_grown hW3 hO3 (by decide) (grown_set w3 R 0 _)
  · exact ((hz.mono hBw).grown hg (by omega) fun g hg' => (hO.lt g hg').1).setCell (p := ⟨R, 0, none⟩) hBR _
set_option maxRecDepth 100000 in
set_option maxHeartbeats 4000000 in
theorem lines_any (v : Value) (c : Cfg) (w : World) (h : CfgIs w v c) (hA : Addrs4 c) (hl : c.own.length ≤ 1000000) (hp : c.ports.length ≤ 1000000) (E : Env w) :
    Calls Tryz.prog 61 #[v] w fun e w' => SeqOf w.heap.size (linesC c) e w' ∧ Below w.heap.size w w' := by
  have HC := Lib.hid h
  obtain ⟨own, ports, rfl, hO, hP⟩ := h.is
  have HO := Lib.hid hO
  have HP := Lib.hid hP
  have HA := Lib.hid hA
  obtain ⟨A1, k1, rfl, -⟩ := hO
  obtain ⟨A2, k2, rfl, -⟩ := hP
  obtain ⟨W0, hW0⟩ : ∃ W0, w.alloc (.cells #[.int .i64 c.node, .int .u32 c.addr, .slice A1 c.own.length k1, .slice A2 c.ports.length k2, .int .i64 c.hello, .int .i64 c.dead, .int .i64 c.again, .int .i64 c.room, .int .i64 c.queue, .int .i64 c.tokens, .int .i64 c.refill] 28) = W0 := ⟨_, rfl⟩
  have HB0 : Hid (Below w.heap.size w W0) := Lib.hid (by rw [← hW0]; exact (Below.refl _ _).alloc (Nat.le_refl _) _)
  have HX : Hid (Whole W0 w.heap.size 28 #[.int .i64 c.node, .int .u32 c.addr, .slice A1 c.own.length k1, .slice A2 c.ports.length k2, .int .i64 c.hello, .int .i64 c.dead, .int .i64 c.again, .int .i64 c.room, .int .i64 c.queue, .int .i64 c.tokens, .int .i64 c.refill]) := Lib.hid (by rw [← hW0]; exact Whole.new _ _ _)
  have hs0 : W0.heap.size = w.heap.size + 1 := by rw [← hW0]; simp
  have HS0 := Lib.hid hs0
  have HW0 := Lib.hid hW0
  obtain ⟨W1, hW1⟩ : ∃ W1, W0.alloc (.cells #[.slice none 0 0] 40) = W1 := ⟨_, rfl⟩
  have HB1 : Hid (Below W0.heap.size W0 W1) := Lib.hid (by rw [← hW1]; exact (Below.refl _ _).alloc (Nat.le_refl _) _)
  have hs1 : W1.heap.size = w.heap.size + 2 := by rw [← hW1]; simp [hs0]
  have HR1 : Hid (LinesIs W0.heap.size (w.heap.size + 1) [] W1) := Lib.hid (by
    rw [← hW1, ← hs0]
    exact ⟨_, Nat.le_refl _, Whole.new _ _ _, World.ownsRow_nil _ _ _ _⟩)
  have HW1 := Lib.hid hW1
  have HS1 := Lib.hid hs1
  have hlt0 : w.heap.size < W0.heap.size := HX.out.lt
  have hlt1 : w.heap.size < W1.heap.size := by omega
  have E0 := Lib.hid (E.here HB0.out)
  have E1 := Lib.hid (E0.out.here HB1.out)
  have HMAY : Hid (Calls Tryz.prog 23 #[.agg #[.int .i64 c.node, .int .u32 c.addr, .slice A1 c.own.length k1, .slice A2 c.ports.length k2, .int .i64 c.hello, .int .i64 c.dead, .int .i64 c.again, .int .i64 c.room, .int .i64 c.queue, .int .i64 c.tokens, .int .i64 c.refill]] W1 fun e w' => e = .returned (.bool (mayC c)) ∧ Below W1.heap.size W1 w') := Lib.hid (may_any' _ c W1 ((HC.out.below HB0.out).below HB1.out) HA.out hl hp)
  have HX1 := Lib.hid (HX.out.here HB1.out)
  unfold cfgV
  clear h hA E hW0 hW1 hs0 hs1
  go_enter Tryz.func61, Tryz.ntmps61
  go_upto_region 1 with fail
  rw [HW0.out]
  go_upto_region 2 with fail
  rw [HW1.out, HS0.out]
  have c0 : W1.cell? ⟨w.heap.size, 0, none⟩ = some (.int .i64 c.node) := HX1.out.cell 0
  have c1 : W1.cell? ⟨w.heap.size, 1, none⟩ = some (.int .u32 c.addr) := HX1.out.cell 1
  have c2 : W1.cell? ⟨w.heap.size, 2, none⟩ = some (.slice A1 c.own.length k1) := HX1.out.cell 2
  have c3 : W1.cell? ⟨w.heap.size, 3, none⟩ = some (.slice A2 c.ports.length k2) := HX1.out.cell 3
  have c4 : W1.cell? ⟨w.heap.size, 4, none⟩ = some (.int .i64 c.hello) := HX1.out.cell 4
  have c5 : W1.cell? ⟨w.heap.size, 5, none⟩ = some (.int .i64 c.dead) := HX1.out.cell 5
  have c6 : W1.cell? ⟨w.heap.size, 6, none⟩ = some (.int .i64 c.again) := HX1.out.cell 6
  have c7 : W1.cell? ⟨w.heap.size, 7, none⟩ = some (.int .i64 c.room) := HX1.out.cell 7
  have c8 : W1.cell? ⟨w.heap.size, 8, none⟩ = some (.int .i64 c.queue) := HX1.out.cell 8
  have c9 : W1.cell? ⟨w.heap.size, 9, none⟩ = some (.int .i64 c.tokens) := HX1.out.cell 9
  have c10 : W1.cell? ⟨w.heap.size, 10, none⟩ = some (.int .i64 c.refill) := HX1.out.cell 10
  go_wp2_with fail
  refine HMAY.out.mono ?_
  rintro e w2 ⟨rfl, hb2⟩
  have HB2 : Hid (Below W0.heap.size W1 w2) := Lib.hid (hb2.mono HB1.out.size)
  have HR2 := Lib.hid (HR1.out.below hb2)
  have hz2 : W1.heap.size ≤ w2.heap.size := hb2.size
  have hs1' : W1.heap.size = w.heap.size + 2 := HS1.out
  have HFIN : Hid (∀ W, Below W0.heap.size W1 W → Below w.heap.size w W) := Lib.hid (fun W hW => (HB0.out.trans ((HB1.out.trans (hW.mono (Nat.le_refl _))).mono HB0.out.size)))
  have hz0 : W0.heap.size ≤ w2.heap.size := by have := HB1.out.size; omega
  have hz1 : w.heap.size + 1 < w2.heap.size := by omega
  have HS1' := Lib.hid hs1'
  clear hb2 HMAY hs1'
  cases hm : mayC c with
  | false =>
    have HM := Lib.hid hm
    obtain ⟨v0, -, hW0, hO0⟩ := HR2.out.is
    have d0 : w2.cell? ⟨w.heap.size + 1, 0, none⟩ = some v0 := hW0.cell 0
    have HSS : Hid (Ss w.heap.size w2.heap.size w2 v0 (linesC c)) := Lib.hid (by
      unfold linesC
      rw [HM.out]
      exact (Ss.own (ls := []) hO0).low (by omega))
    have hle : w.heap.size ≤ w2.heap.size := by omega
    clear hW0 hO0 hm
    go_wp2_with (go_at_call 126; refine (values_any w.heap.size _ (linesC c) _ HSS.out (by assumption)).mono ?_; rintro e w3 ⟨⟨Bs, v3, rfl, h31, h32, h33⟩, hb3⟩)
    have HB3 := Lib.hid hb3
    have H31 := Lib.hid h31
    have H32 := Lib.hid h32
    have H33 := Lib.hid h33
    clear hb3 h31 h32 h33
    go_wp2
    go_ret
    exact ⟨⟨Bs, v3, rfl, H31.out, H32.out, H33.out⟩, (HFIN.out _ HB2.out).trans (HB3.out.mono (by omega))⟩
  | true =>
    have HM := Lib.hid hm
    obtain ⟨m1, m2, m3, -, m5, m6, m7, m8, m9, m10, m11, m12⟩ := mayC_parts hm
    have hol : c.own.length ≤ 8 := ownOk_le m1
    have M1 := Lib.hid m1
    have M3 := Lib.hid m3
    have E2 := E1.out.below (B := W0.heap.size) (Nat.le_trans E0.out.size (Nat.le_refl _)) HB2.out
    have d0 : w2.cell? ⟨w.heap.size, 0, none⟩ = some (.int .i64 c.node) := (HX1.out.below HB2.out hlt0).cell 0
    clear hm m1 m3
    go_wp2_with fail
    refine (lines1_any W0.heap.size (w.heap.size + 1) wNode c.node [] w2 HR2.out (by simp) (by decide) (by omega) (by omega) E2 hz0).mono ?_
    rintro e w3 ⟨rfl, hL, hb⟩
    have HL3 := Lib.hid hL
    have HB3 := Lib.hid (HB2.out.trans hb)
    have hz3 := hb.size
    clear hL hb E2 d0
    have E3 := E1.out.below (B := W0.heap.size) E0.out.size HB3.out
    obtain ⟨v3, hBR, hW3, hO3⟩ := HL3.out.is
    have d1 : w3.cell? ⟨w.heap.size, 1, none⟩ = some (.int .u32 c.addr) := (HX1.out.below HB3.out hlt0).cell 1
    have dR : w3.cell? ⟨w.heap.size + 1, 0, none⟩ = some v3 := hW3.cell 0
    have hno := hW3.notRow hO3 (by decide)
    have HW3 := Lib.hid hW3
    have HO3 := Lib.hid hO3
    have hR3 : w.heap.size + 1 < w3.heap.size := by omega
    have hC3 : w.heap.size < w3.heap.size := by omega
    have n1 : (str (addrText c.addr.toNat)).size ≤ 15 := by rw [str_size]; exact addrText_len _
    have q1 : ¬ 9223372036854775807 < 8 + (str (addrText c.addr.toNat)).size := by omega
    clear hW3 hO3
    go_wp2
    refine wp_region_ext_load (v := v3) 5 (by kernel_rfl) (by kernel_rfl) rfl rfl (.inl ⟨rfl, ?_⟩) (fun _ _ _ h => h) ?_
    · rintro _ ⟨x, rfl⟩
      have cx := (x.cell ⟨w.heap.size + 1, 0, none⟩ hR3).trans dR
      go_simp
    simp only [List.take_succ_cons, List.take_zero, List.drop_succ_cons, List.drop_zero, Act.put, List.setIfInBounds_toArray, List.set_cons_succ, List.set_cons_zero]
    repeat (go_big_quiet_step (first | (go_at_call 124; exact Ext.call (addrText_int _ _ HA.out.1 (Ext.env _ E3)))))
    refine wpQuiet_nil ?_
    rintro _ ⟨z, rfl⟩
    go_wp2
    have hb2 := z.below.size
    refine ⟨⟨⟨_, bel_alloc z.below _⟩, rfl⟩, ?_⟩
    have hown2 := own_below HO3.out z.below
    go_wp2_with (at_builtin; refine wpList_push rfl _ _ 40 rfl W0.heap.size 9 info_str rfl (by decide) Tryz.underlying40 _ _ _ rfl hown2 rfl rfl (by simp) (by omega) ?_)
    intro v' w4 hown3 hg
    rw [show Value.string ({ data := #[97, 100, 100, 114, 101, 115, 115, 32] } ++ str (addrText c.addr.toNat)) = Sv (lnAddr c.addr) from sv_cat [97, 100, 100, 114, 101, 115, 115, 32] _ _ rfl] at hown3
    obtain ⟨g4, n4, k4, rfl, e4, f4, hL4, hb4⟩ := LinesIs.push HW3.out HO3.out z.below hown3 hg hBR (by omega)
    have HL4 : Hid (LinesIs W0.heap.size (w.heap.size + 1) ([lnNum wNode c.node, lnAddr c.addr] ++ (c.own.take 0).map lnOwn) _) := Lib.hid hL4
    have HB4 := Lib.hid (HB3.out.trans hb4)
    have hz4 := hb4.size
    clear hown2 hown3 hg hL4 hb4 hb2
    go_upto_region 6 with fail
    generalize w4.setCell ⟨w.heap.size + 1, 0, none⟩ (.slice (some ⟨g4, 0, none⟩) n4 k4) = w5 at *
    have d2 : w5.cell? ⟨w.heap.size, 2, none⟩ = some (.slice A1 c.own.length k1) := (HX1.out.below HB4.out hlt0).cell 2
    clear e4 f4 c0 c1 c2 c3 c4 c5 c6 c7 c8 c9 c10 d1 dR E3 hno n1 q1
    go_wp2
    go_loopw [28] (fun i wr => ∃ j : Nat, j ≤ c.own.length ∧ i = .int .i64 j ∧ Hid (LinesIs W0.heap.size (w.heap.size + 1) ([lnNum wNode c.node, lnAddr c.addr] ++ (c.own.take j).map lnOwn) wr) ∧ Hid (Below W0.heap.size W1 wr)) (fun i _ => c.own.length - (intOf i).toNat)
    case atStart => exact ⟨0, Nat.zero_le _, rfl, HL4, HB4⟩
    case round =>
      clear HL4 HB4
      obtain ⟨j, hj, rfl, HL4, HB4⟩ := hrel
      have E4 := E1.out.below (B := W0.heap.size) E0.out.size HB4.out
      have hz4 := HB4.out.size
      have hww := Lib.hid (HFIN.out _ HB4.out)
      have hs1' : W1.heap.size = w.heap.size + 2 := HS1.out
      have hs0' : W0.heap.size = w.heap.size + 1 := HS0.out
      have hzr1 : w.heap.size + 1 < wr.heap.size := by omega
      have hzr0 : W0.heap.size ≤ wr.heap.size := by omega
      clear hs1' hs0' hz4
      by_cases hjl : j < c.own.length
      · obtain ⟨⟨a, n⟩, hu⟩ : ∃ u, c.own[j]? = some u := ⟨_, List.getElem?_eq_getElem hjl⟩
        obtain ⟨b1, o1, rfl, hb1, p0, p1⟩ := (HO.out.below hww.out).at hu
        simp only at p0 p1
        have ha : IsAddr a := HA.out.2 _ (mem_at hu)
        have hmp := ownOk_may_all M1.out (mem_at hu)
        simp only at hmp
        have hsz := prefixText_size ha (mayP_len hmp)
        have HU := Lib.hid hu
        have HMP := Lib.hid hmp
        obtain ⟨ls, hls⟩ : ∃ ls, [lnNum wNode c.node, lnAddr c.addr] ++ (c.own.take j).map lnOwn = ls := ⟨_, rfl⟩
        rw [hls] at HL4
        have hll : ls.length ≤ 10 := by rw [← hls]; simp; omega
        have HLS := Lib.hid hls
        obtain ⟨v4, hBR4, hW4, hO4⟩ := HL4.out.is
        have HW4 := Lib.hid hW4
        have HO4 := Lib.hid hO4
        clear hu hmp hW4 hO4 hls
        go_wp2_with fail
        refine (cprefixText_int a n _ ha HMP.out (E4.alloc _)).mono ?_
        rintro e w5 ⟨rfl, hb5⟩
        have hz : Below wr.heap.size wr w5 := ((Below.refl _ wr).alloc (Nat.le_refl _) _).trans (hb5.mono (by simp))
        have hown2 := own_below HO4.out hz
        have d3 : w5.cell? ⟨w.heap.size + 1, 0, none⟩ = some v4 := (HW4.out.here hz).cell 0
        have hzs := hz.size
        have HZ := Lib.hid hz
        clear hz hb5
        go_wp2_with (at_builtin; refine wpList_push rfl _ _ 40 rfl W0.heap.size 9 info_str rfl (by decide) Tryz.underlying40 _ _ _ rfl hown2 rfl rfl (by omega) (by omega) ?_)
        intro v' w6 hown3 hg
        rw [show Value.string ({ data := #[111, 119, 110, 32] } ++ str (prefixText a.toNat n.toNat)) = Sv (lnOwn (a, n)) from sv_cat [111, 119, 110, 32] _ _ rfl] at hown3
        obtain ⟨g4, n4, k4, rfl, e4, f4, hL5, hb6⟩ := LinesIs.push HW4.out HO4.out HZ.out hown3 hg hBR4 hzr0
        have HL5 : Hid (LinesIs W0.heap.size (w.heap.size + 1) ([lnNum wNode c.node, lnAddr c.addr] ++ (c.own.take (j + 1)).map lnOwn) _) := Lib.hid (by
          rw [List.take_add_one, HU.out]
          rw [← HLS.out] at hL5
          simpa using hL5)
        have HB5 := Lib.hid (HB4.out.trans hb6)
        clear hown2 hown3 hg hL5 hb6 d3
        go_upto_region 11 with fail
        generalize w6.setCell ⟨w.heap.size + 1, 0, none⟩ (.slice (some ⟨g4, 0, none⟩) n4 k4) = w7 at *
        go_wp2
        go_roundw
        case rel => exact ⟨j + 1, by omega, by go_num, HL5, HB5⟩
        case measure => simp [intOf]; omega
      · obtain rfl : j = c.own.length := by omega
        have d2 : wr.cell? ⟨w.heap.size, 3, none⟩ = some (.slice A2 c.ports.length k2) := (HX1.out.below HB4.out hlt0).cell 3
        go_wp2
        go_loopw [46] (fun i wx => ∃ j : Nat, j ≤ c.ports.length ∧ i = .int .i64 j ∧ Hid (LinesIs W0.heap.size (w.heap.size + 1) ([lnNum wNode c.node, lnAddr c.addr] ++ c.own.map lnOwn ++ (c.ports.take j).map lnPort) wx) ∧ Hid (Below W0.heap.size W1 wx)) (fun i _ => c.ports.length - (intOf i).toNat)
        case atStart => exact ⟨0, Nat.zero_le _, rfl, Lib.hid (by have := HL4.out; rw [List.take_length] at this; simpa using this), HB4⟩
        case round =>
          clear HL4 HB4 E4 hww hzr1 hzr0 d2 hj hjl
          obtain ⟨j, hj, rfl, HL4, HB4⟩ := hrel
          have E4 := E1.out.below (B := W0.heap.size) E0.out.size HB4.out
          have hz4 := HB4.out.size
          have hww := Lib.hid (HFIN.out _ HB4.out)
          have hs1' : W1.heap.size = w.heap.size + 2 := HS1.out
          have hs0' : W0.heap.size = w.heap.size + 1 := HS0.out
          have hzr1 : w.heap.size + 1 < wr.heap.size := by omega
          have hzr0 : W0.heap.size ≤ wr.heap.size := by omega
          clear hs1' hs0' hz4
          by_cases hjl : j < c.ports.length
          · obtain ⟨⟨a, n⟩, hu⟩ : ∃ u, c.ports[j]? = some u := ⟨_, List.getElem?_eq_getElem hjl⟩
            obtain ⟨b1, o1, rfl, hb1, p0, p1⟩ := (HP.out.below hww.out).at hu
            simp only at p0 p1
            have hok := List.all_eq_true.1 M3.out _ (mem_at hu)
            unfold portOk at hok
            simp only [Bool.and_eq_true, inI_iff] at hok
            obtain ⟨⟨ha0, ha1⟩, hn0, hn1⟩ := hok
            have s1 := itoa_size9 (n := a) (by omega) (by omega)
            have HU := Lib.hid hu
            obtain ⟨ls, hls⟩ : ∃ ls, [lnNum wNode c.node, lnAddr c.addr] ++ c.own.map lnOwn ++ (c.ports.take j).map lnPort = ls := ⟨_, rfl⟩
            rw [hls] at HL4
            have hll : ls.length ≤ 20 := by rw [← hls]; simp; omega
            have HLS := Lib.hid hls
            clear hu hls
            have q1 : ¬ 9223372036854775807 < 5 + (str (Lib.itoa a)).size := by omega
            go_upto_region 15 with fail
            obtain ⟨w5, hw5⟩ : ∃ w5, wr.alloc (.cells #[.int .i64 a, .int .i64 n] 101) = w5 := ⟨_, rfl⟩
            have hz : Below wr.heap.size wr w5 := by rw [← hw5]; exact (Below.refl _ wr).alloc (Nat.le_refl _) _
            have hW5 : Whole w5 wr.heap.size 101 #[.int .i64 a, .int .i64 n] := by rw [← hw5]; exact Whole.new _ _ _
            have e0 : w5.cell? ⟨wr.heap.size, 0, none⟩ = some (.int .i64 a) := hW5.cell 0
            have e1 : w5.cell? ⟨wr.heap.size, 1, none⟩ = some (.int .i64 n) := hW5.cell 1
            have hlt5 := hW5.lt
            have HL5 := Lib.hid (HL4.out.below hz)
            have HB5 := Lib.hid (HB4.out.trans (hz.mono hzr0))
            have E5 := E4.here hz
            have hz5 := hz.size
            rw [hw5]
            clear hw5 hz hW5
            refine wp_region_ext_tail 7 (by kernel_rfl) (by kernel_rfl) ?_
            simp only [List.take_succ_cons, List.take_zero, List.drop_succ_cons, List.drop_zero]
            repeat (go_big_quiet_step (first | (go_at_call 58; exact Ext.call (itoa_any _ _ (by omega) (by omega) (Ext.env _ E5)))))
            refine wpQuiet_nil ?_
            rintro _ ⟨z, rfl⟩
            have hzz := z.below.size
            have ep : Value.string ({ data := #[112, 111, 114, 116, 32] } ++ str (Lib.itoa a)) = .string (str (wPort ++ 32 :: Lib.itoa a)) := sv_cat [112, 111, 114, 116, 32] _ _ (by simp [wPort])
            rw [ep]
            have hpl : (wPort ++ 32 :: Lib.itoa a).length ≤ 1000 := by rw [str_size] at s1; simp [wPort]; omega
            go_wp2_with fail
            refine (lines1_any W0.heap.size (w.heap.size + 1) (wPort ++ 32 :: Lib.itoa a) n ls z.w (HL5.out.below z.below) (by omega) hpl (by omega) (by omega) (Ext.env z E5) (by omega)).mono ?_
            rintro e w6 ⟨rfl, hL, hb⟩
            have HL6 : Hid (LinesIs W0.heap.size (w.heap.size + 1) ([lnNum wNode c.node, lnAddr c.addr] ++ c.own.map lnOwn ++ (c.ports.take (j + 1)).map lnPort) w6) := Lib.hid (by
              rw [List.take_add_one, HU.out]
              rw [← HLS.out] at hL
              have el : lnNum (wPort ++ 32 :: Lib.itoa a) n = lnPort (a, n) := by unfold lnNum lnPort; simp
              rw [el] at hL
              simpa using hL)
            have HB6 := Lib.hid (HB5.out.trans ((z.below.mono (by omega)).trans hb))
            clear hL hb
            go_wp2
            go_roundw
            case rel => exact ⟨j + 1, by omega, by go_num, HL6, HB6⟩
            case measure => simp [intOf]; omega
          · obtain rfl : j = c.ports.length := by omega
            have HL7 : Hid (LinesIs W0.heap.size (w.heap.size + 1) (heads c) wr) := Lib.hid (by have := HL4.out; rw [List.take_length] at this; exact this)
            have hhl : (heads c).length ≤ 18 := by unfold heads; simp; omega
            generalize hls7 : heads c = ls7 at HL7 hhl
            have HLS7 := Lib.hid hls7
            clear hls7 HL4
            have HB7 := HB4
            have d7 : wr.cell? ⟨w.heap.size, 4, none⟩ = some (.int .i64 c.hello) := (HX1.out.below HB7.out hlt0).cell 4
            go_wp2_with fail
            refine (lines1_any W0.heap.size (w.heap.size + 1) wHello c.hello ls7 wr HL7.out (by first | omega | (simp; omega)) (by decide) (by omega) (by omega) (E1.out.below (B := W0.heap.size) E0.out.size HB7.out) (by omega)).mono ?_
            rintro e w8 ⟨rfl, hL, hb⟩
            have HL8 := Lib.hid hL
            have HB8 := Lib.hid (HB7.out.trans hb)
            have hz8 := hb.size
            clear hL hb d7
            have d8 : w8.cell? ⟨w.heap.size, 5, none⟩ = some (.int .i64 c.dead) := (HX1.out.below HB8.out hlt0).cell 5
            go_wp2_with fail
            refine (lines1_any W0.heap.size (w.heap.size + 1) wDead c.dead (ls7 ++ [lnNum wHello c.hello]) w8 HL8.out (by first | omega | (simp; omega)) (by decide) (by omega) (by omega) (E1.out.below (B := W0.heap.size) E0.out.size HB8.out) (by omega)).mono ?_
            rintro e w9 ⟨rfl, hL, hb⟩
            have HL9 := Lib.hid hL
            have HB9 := Lib.hid (HB8.out.trans hb)
            have hz9 := hb.size
            clear hL hb d8
            have d9 : w9.cell? ⟨w.heap.size, 6, none⟩ = some (.int .i64 c.again) := (HX1.out.below HB9.out hlt0).cell 6
            go_wp2_with fail
            refine (lines1_any W0.heap.size (w.heap.size + 1) wAgain c.again (ls7 ++ [lnNum wHello c.hello] ++ [lnNum wDead c.dead]) w9 HL9.out (by first | omega | (simp; omega)) (by decide) (by omega) (by omega) (E1.out.below (B := W0.heap.size) E0.out.size HB9.out) (by omega)).mono ?_
            rintro e w10 ⟨rfl, hL, hb⟩
            have HL10 := Lib.hid hL
            have HB10 := Lib.hid (HB9.out.trans hb)
            have hz10 := hb.size
            clear hL hb d9
            have d10 : w10.cell? ⟨w.heap.size, 7, none⟩ = some (.int .i64 c.room) := (HX1.out.below HB10.out hlt0).cell 7
            go_wp2_with fail
            refine (lines1_any W0.heap.size (w.heap.size + 1) wRoom c.room (ls7 ++ [lnNum wHello c.hello] ++ [lnNum wDead c.dead] ++ [lnNum wAgain c.again]) w10 HL10.out (by first | omega | (simp; omega)) (by decide) (by omega) (by omega) (E1.out.below (B := W0.heap.size) E0.out.size HB10.out) (by omega)).mono ?_
            rintro e w11 ⟨rfl, hL, hb⟩
            have HL11 := Lib.hid hL
            have HB11 := Lib.hid (HB10.out.trans hb)
            have hz11 := hb.size
            clear hL hb d10
            have d11 : w11.cell? ⟨w.heap.size, 8, none⟩ = some (.int .i64 c.queue) := (HX1.out.below HB11.out hlt0).cell 8
            go_wp2_with fail
            refine (lines1_any W0.heap.size (w.heap.size + 1) wQueue c.queue (ls7 ++ [lnNum wHello c.hello] ++ [lnNum wDead c.dead] ++ [lnNum wAgain c.again] ++ [lnNum wRoom c.room]) w11 HL11.out (by first | omega | (simp; omega)) (by decide) (by omega) (by omega) (E1.out.below (B := W0.heap.size) E0.out.size HB11.out) (by omega)).mono ?_
            rintro e w12 ⟨rfl, hL, hb⟩
            have HL12 := Lib.hid hL
            have HB12 := Lib.hid (HB11.out.trans hb)
            have hz12 := hb.size
            clear hL hb d11
            have d12 : w12.cell? ⟨w.heap.size, 9, none⟩ = some (.int .i64 c.tokens) := (HX1.out.below HB12.out hlt0).cell 9
            go_wp2_with fail
            refine (lines1_any W0.heap.size (w.heap.size + 1) wTokens c.tokens (ls7 ++ [lnNum wHello c.hello] ++ [lnNum wDead c.dead] ++ [lnNum wAgain c.again] ++ [lnNum wRoom c.room] ++ [lnNum wQueue c.queue]) w12 HL12.out (by first | omega | (simp; omega)) (by decide) (by omega) (by omega) (E1.out.below (B := W0.heap.size) E0.out.size HB12.out) (by omega)).mono ?_
            rintro e w13 ⟨rfl, hL, hb⟩
            have HL13 := Lib.hid hL
            have HB13 := Lib.hid (HB12.out.trans hb)
            have hz13 := hb.size
            clear hL hb d12
            have d13 : w13.cell? ⟨w.heap.size, 10, none⟩ = some (.int .i64 c.refill) := (HX1.out.below HB13.out hlt0).cell 10
            go_wp2_with fail
            refine (lines1_any W0.heap.size (w.heap.size + 1) wRefill c.refill (ls7 ++ [lnNum wHello c.hello] ++ [lnNum wDead c.dead] ++ [lnNum wAgain c.again] ++ [lnNum wRoom c.room] ++ [lnNum wQueue c.queue] ++ [lnNum wTokens c.tokens]) w13 HL13.out (by first | omega | (simp; omega)) (by decide) (by omega) (by omega) (E1.out.below (B := W0.heap.size) E0.out.size HB13.out) (by omega)).mono ?_
            rintro e w14 ⟨rfl, hL, hb⟩
            have HL14 := Lib.hid hL
            have HB14 := Lib.hid (HB13.out.trans hb)
            have hz14 := hb.size
            clear hL hb d13
            obtain ⟨v9, -, hW9, hO9⟩ := HL14.out.is
            have d9 : w14.cell? ⟨w.heap.size + 1, 0, none⟩ = some v9 := hW9.cell 0
            have HSS : Hid (Ss w.heap.size w14.heap.size w14 v9 (linesC c)) := Lib.hid (by
              have e : linesC c = ls7 ++ [lnNum wHello c.hello] ++ [lnNum wDead c.dead] ++ [lnNum wAgain c.again] ++ [lnNum wRoom c.room] ++ [lnNum wQueue c.queue] ++ [lnNum wTokens c.tokens] ++ [lnNum wRefill c.refill] := by
                unfold linesC
                rw [HM.out, if_pos rfl]
                unfold linesP tails
                rw [HLS7.out]
                simp
              have hs0' : W0.heap.size = w.heap.size + 1 := HS0.out
              rw [e]
              exact (Ss.own hO9).low (by omega))
            have hle : w.heap.size ≤ w14.heap.size := by omega
            clear hW9 hO9
            go_wp2_with (go_at_call 126; refine (values_any w.heap.size _ (linesC c) _ HSS.out (by assumption)).mono ?_; rintro e w15 ⟨⟨Bs, v15, rfl, h31, h32, h33⟩, hb15⟩)
            have HB15 := Lib.hid hb15
            have H31 := Lib.hid h31
            have H32 := Lib.hid h32
            have H33 := Lib.hid h33
            clear hb15 h31 h32 h33
            go_wp2
            go_ret
            exact ⟨⟨Bs, v15, rfl, H31.out, H32.out, H33.out⟩, (HFIN.out _ HB14.out).trans (HB15.out.mono (by omega))⟩
end Go.Proofs.YtfbangojgjcbcaaGreatDoor
namespace Go.Proofs.YtfbangojgjcbcaaGreatDoor
open Go.RowKit Pl
/-- Block b is a builder that holds the bytes l, in a row from base on. -/
structure BAt (base b : Nat) (l : List UInt8) (w : World) : Prop where
  is : ∃ p v, Whole w b 111 #[p, v] ∧ (p = .pointer none ∨ p = .pointer (some ⟨b, 0, none⟩)) ∧ w.ownsRow base 5 1 v l.length (cellsB l)
/-- All but block b, and but rows of cells from base on, lies as it lay. -/
structure Moves (base b : Nat) (w w' : World) : Prop where
  os : w'.os = w.os
  tape : w'.tape = w.tape
  output : w'.output = w.output
  size : w.heap.size ≤ w'.heap.size
  at_ : ∀ k o, w.heap[k]? = some o → k ≠ b → (k < base ∨ o.isCells = false) → w'.heap[k]? = some o
theorem Moves.refl (base b : Nat) (w : World) : Moves base b w w := ⟨rfl, rfl, rfl, Nat.le_refl _, fun _ _ h _ _ => h⟩
theorem Moves.trans {base b : Nat} {w w' w'' : World} (h : Moves base b w w') (h' : Moves base b w' w'') : Moves base b w w'' :=
  ⟨h'.os.trans h.os, h'.tape.trans h.tape, h'.output.trans h.output, Nat.le_trans h.size h'.size, fun k o ho hk hc => h'.at_ k o (h.at_ k o ho hk hc) hk hc⟩
theorem Moves.set (base b : Nat) (w : World) (i : Nat) (u : Value) : Moves base b w (w.setCell ⟨b, i, none⟩ u) :=
  ⟨rfl, rfl, rfl, by simp [World.setCell], fun k o ho hk _ => (Below.heap_setCell w ⟨b, i, none⟩ u k hk).trans ho⟩
theorem Moves.of_below {base b : Nat} {w w' : World} (h : Below w.heap.size w w') : Moves base b w w' :=
  ⟨h.os, h.tape, h.output, h.size, fun k _o ho _ _ => (h.block k (Array.getElem?_eq_some_iff.1 ho).1).trans ho⟩
/-- A row that the call owns, grown. -/
theorem Moves.grown {base b : Nat} {w w' : World} {e : TypeId} {size n : Nat} {v : Value} {xs : List Value} (hO : w.ownsRow base e size v n xs) (hg : w.grownBy w' v.ownBlock) : Moves base b w w' :=
  ⟨hg.os, hg.tape, hg.output, hg.size, fun k o ho _ hc => (hg.block k (Array.getElem?_eq_some_iff.1 ho).1 (fun e => by
    rcases hO.2 with ⟨rfl, _⟩ | ⟨g, cap, cur, rfl, hbg, hh, _⟩
    · simp [Value.ownBlock] at e
    · have : k = g := by simpa [Value.ownBlock] using e
      subst this
      rw [hh] at ho
      injection ho with ho
      subst ho
      rcases hc with hc | hc
      · omega
      · simp [Obj.isCells] at hc)).trans ho⟩
theorem own_low {w : World} {base base' : Nat} {e : TypeId} {size n : Nat} {v : Value} {xs : List Value} (h : w.ownsRow base e size v n xs) (hl : base' ≤ base) : w.ownsRow base' e size v n xs :=
  ⟨h.1, h.2.imp id fun ⟨g, cap, cur, h1, h2, h3⟩ => ⟨g, cap, cur, h1, Nat.le_trans hl h2, h3⟩⟩
theorem BAt.fresh (base : Nat) (w : World) : BAt base w.heap.size [] (w.alloc (.cells #[.pointer none, .slice none 0 0] 111)) :=
  ⟨_, _, Whole.new _ _ _, .inl rfl, World.ownsRow_nil _ _ _ _⟩
theorem BAt.here {base b : Nat} {l : List UInt8} {w w' : World} (h : BAt base b l w) (hb : Below w.heap.size w w') : BAt base b l w' := by
  obtain ⟨p, v, h1, h2, h3⟩ := h.is
  exact ⟨p, v, h1.here hb, h2, own_below h3 hb⟩
/-- A builder as the kit's laws want it. -/
theorem BAt.kit {base b : Nat} {l : List UInt8} {w : World} (h : BAt base b l w) (hb : b ≤ base) : Lib.IsBuilder 111 5 b b (cellsB l) w := by
  obtain ⟨p, v, h1, h2, h3⟩ := h.is
  have hn := h1.notRow h3 (by decide)
  have h3' : w.ownsRow b 5 1 v (cellsB l).length (cellsB l) := by rw [cellsB_length]; exact own_low h3 hb
  rcases h2 with rfl | rfl
  · exact .inl ⟨Nat.le_refl _, v, h1.is, h3', hn⟩
  · exact .inr ⟨Nat.le_refl _, v, h1.is, h3', hn⟩
theorem strCells_str (l : List UInt8) : Lib.strCells (str l) = cellsB l := by simp [Lib.strCells, cellsB, str_data]
set_option maxHeartbeats 2000000 in
set_option maxRecDepth 100000 in
theorem writeString_any (base b : Nat) (l s : List UInt8) (w : World) (h : BAt base b l w) (hl : l.length ≤ 100000000) (hs : s.length ≤ 100000000) (hbase : base ≤ w.heap.size) :
    Calls Tryz.prog 62 #[.pointer (some ⟨b, 0, none⟩), .string (str s)] w fun e w' => e = .returned (.tuple #[.int .i64 (s.length : Int), .nilIface]) ∧ BAt base b (l ++ s) w' ∧ Moves base b w w' := by
  obtain ⟨p, v, hW, hp, hO⟩ := h.is
  have hsz : (str s).size = s.length := str_size s
  have hCC : ∃ w1, Calls Tryz.prog 127 #[.pointer (some ⟨b, 0, none⟩)] w (fun e w' => e = .returned (.tuple #[]) ∧ w1 = w') ∧ Whole w1 b 111 #[.pointer (some ⟨b, 0, none⟩), v] ∧ w1.ownsRow base 5 1 v l.length (cellsB l) ∧ Moves base b w w1 := by
    rcases hp with rfl | rfl
    · refine ⟨_, copyCheck_fresh b w (hW.cell 0) ?_ (hW.frozen 0), hW.set 0 _, own_grown hW hO (by decide) (grown_set w b 0 _), Moves.set base b w 0 _⟩
      simp [World.shape?, hW.is]
    · exact ⟨w, copyCheck_used b w (hW.cell 0), hW, hO, Moves.refl _ _ _⟩
  obtain ⟨w1, hC, hW1, hO1, hM1⟩ := hCC
  have HC := Lib.hid hC
  have HM1 := Lib.hid hM1
  have hlt := hW1.lt
  have c1 : w1.cell? ⟨b, 1, none⟩ = some v := hW1.cell 1
  have hb1 := hM1.size
  have hno := hW1.notRow hO1 (by decide)
  have HW1 := Lib.hid hW1
  have HO1 := Lib.hid hO1
  obtain ⟨i0, hi0, hz0, hz1, hz2⟩ := info_parts info_u8
  have HSZ := Lib.hid hsz
  clear h hW hO hC hM1 hW1 hsz hp
  go_enter Tryz.func62, Tryz.ntmps62
  have h63 : l.length + (str s).size ≤ maxLen := by rw [HSZ.out]; unfold maxLen; omega
  have h47 : l.length + (str s).size ≤ 140737488355328 := by rw [HSZ.out]; omega
  go_wp2_with (first
    | (go_at_call 127; refine HC.out.mono ?_; rintro e w' ⟨rfl, rfl⟩)
    | (at_builtin; refine Lib.wpList_append_own_string _ rfl (.tmp 12) (.tmp 13) 37 9 rfl base 5 i0 Tryz.underlying37 Tryz.underlying9 hi0 hz0 hz1 hz2 _ _ _ rfl HO1.out (str s) rfl h63 h47 (by omega) ?_))
  intro v' w2 hO2 hg _
  rw [strCells_str, ← cellsB_append, HSZ.out] at hO2
  have hW2 := HW1.out.kept hg (Ne.symm hno)
  have c2 : w2.cell? ⟨b, 1, none⟩ = some v := hW2.cell 1
  have f2 := hW2.frozen 1
  have HM2 : Hid (Moves base b w w2) := Lib.hid (HM1.out.trans (Moves.grown HO1.out hg))
  have HV : ∃ a n k, v' = .slice a n k := by
    rcases hO2.2 with ⟨rfl, _⟩ | ⟨g, cap, cur, rfl, _⟩
    · exact ⟨_, _, _, rfl⟩
    · exact ⟨_, _, _, rfl⟩
  obtain ⟨a, n, k, rfl⟩ := HV
  have HW3 := Lib.hid (hW2.set 1 (.slice a n k))
  have HO3 : Hid ((w2.setCell ⟨b, 1, none⟩ (.slice a n k)).ownsRow base 5 1 (.slice a n k) (l ++ s).length (cellsB (l ++ s))) := Lib.hid (by
    rw [List.length_append]; exact own_grown hW2 hO2 (by decide) (grown_set w2 b 1 _))
  have HM3 := Lib.hid (HM2.out.trans (Moves.set base b w2 1 (.slice a n k)))
  clear hO2 hg hW2
  go_wp2
  go_ret2
  exact ⟨by rw [← HSZ.out]; rfl, ⟨_, _, HW3.out, .inr rfl, HO3.out⟩, HM3.out⟩
theorem Moves.drew {base b : Nat} {w w' : World} (h : Moves base b w w') : Moves base b w w'.drew := ⟨h.os, h.tape, h.output, h.size, h.at_⟩
theorem Moves.freeze {base b : Nat} {w w' : World} (h : Moves base b w w') {g : Nat} (hg : base ≤ g) (hgw : ∃ cs t fr, w.heap[g]? = some (.cells cs t fr)) (n : Nat) : Moves base b w (w'.freeze ⟨g, 0, none⟩ n) := by
  have hh : ∀ k, k ≠ g → (w'.freeze ⟨g, 0, none⟩ n).heap[k]? = w'.heap[k]? := fun k hk => by
    unfold World.freeze
    split
    · rfl
    · simp [Array.getElem?_modify, Ne.symm hk]
  have hs : (w'.freeze ⟨g, 0, none⟩ n).heap.size = w'.heap.size := by
    unfold World.freeze
    split <;> simp
  have ho : (w'.freeze ⟨g, 0, none⟩ n).os = w'.os ∧ (w'.freeze ⟨g, 0, none⟩ n).tape = w'.tape ∧ (w'.freeze ⟨g, 0, none⟩ n).output = w'.output := by
    unfold World.freeze
    split <;> exact ⟨rfl, rfl, rfl⟩
  refine ⟨ho.1.trans h.os, ho.2.1.trans h.tape, ho.2.2.trans h.output, by rw [hs]; exact h.size, fun k o hk hkb hc => ?_⟩
  rw [hh k ?_]
  · exact h.at_ k o hk hkb hc
  · rintro rfl
    obtain ⟨cs, t, fr, e⟩ := hgw
    rw [hk] at e
    injection e with e
    subst e
    rcases hc with hc | hc
    · omega
    · simp [Obj.isCells] at hc
set_option maxHeartbeats 1000000 in
set_option maxRecDepth 100000 in
theorem bString_any (base b : Nat) (l : List UInt8) (w : World) (h : BAt base b l w) (h0 : l ≠ []) :
    Calls Tryz.prog 63 #[.pointer (some ⟨b, 0, none⟩)] w fun e w' => e = .returned (.string (str l)) ∧ Moves base b w w' := by
  obtain ⟨p, v, hW, _, hown⟩ := h.is
  have hl0 : l.length ≠ 0 := by simpa using h0
  obtain ⟨g, cap, cur, rfl, hbg, hg, hnc, hcm, hcs, htake⟩ : ∃ g cap cur, v = .slice (some ⟨g, 0, none⟩) l.length cap ∧ base ≤ g ∧ w.heap[g]? = some (.cells cur 5 (0, 0)) ∧ l.length ≤ cap ∧ cap ≤ maxLen ∧ cur.size = cap * 1 ∧ cur.toList.take (l.length * 1) = cellsB l := by
    rcases hown.2 with ⟨_, hz⟩ | ⟨g, cap, cur, hv, r⟩
    · exact absurd hz hl0
    · exact ⟨g, cap, cur, hv, r⟩
  have c1 : w.drew.cell? ⟨b, 1, none⟩ = some (.slice (some ⟨g, 0, none⟩) l.length cap) := hW.drew.cell 1
  have hSD : (Builtin.unsafeSliceData_ #[37] 173 #[.slice (some ⟨g, 0, none⟩) l.length cap]).run Tryz.prog w.drew = .ok (.pointer (some ⟨g, 0, none⟩)) w.drew :=
    Lib.run_unsafeSliceData_row _ _ _ _ _ _ (by omega)
  have hUS : (Builtin.unsafeString_ #[173, 3] 9 #[.pointer (some ⟨g, 0, none⟩), .int .i64 l.length]).run Tryz.prog w.drew = .ok (.string (str l)) (w.drew.freeze ⟨g, 0, none⟩ l.length) := by
    refine Lib.run_unsafeString_row w.drew 173 3 9 5 Tryz.underlying173 (by kernel_rfl) g cur.size (by have hg' : w.drew.heap[g]? = some (.cells cur 5 (0, 0)) := hg; simp [World.shape?, hg']) l h0 (by omega) (by unfold maxLen at hcm; omega) ?_
    intro j x hx
    have := hown.cells (g := g) rfl j (.int .u8 x.toNat) (by simp [cellsB, hx])
    exact this
  have HM : Hid (Moves base b w (w.drew.freeze ⟨g, 0, none⟩ l.length)) := Lib.hid ((Moves.refl base b w).drew.freeze hbg ⟨_, _, _, hg⟩ _)
  clear h hW hown hg hcs htake
  go_enter Tryz.func63, Tryz.ntmps63
  go_wp2
  go_region
  all_goals (go_wp2; go_ret; exact ⟨rfl, HM.out⟩)
end Go.Proofs.YtfbangojgjcbcaaGreatDoor
namespace Go.Proofs.YtfbangojgjcbcaaGreatDoor
open Go.RowKit Pl Go.Shelf
attribute [local go_sem] Oper.semAt_some
theorem Ss.keep {lo hi : Nat} {A B : World} (hb : Between lo hi A B) {v : Value} {ls : List (List UInt8)} (h : Ss lo hi A v ls) : Ss lo hi B v ls := by
  obtain ⟨P, c, rfl, hA⟩ := h
  refine ⟨P, c, rfl, fun hp => ?_⟩
  obtain ⟨b, off, rfl, hlt, hcell⟩ := hA hp
  exact ⟨b, off, rfl, hlt, fun j l hl => (hb.cell (p := ⟨b, off + j, none⟩) hlt.1 hlt.2).trans (hcell j l hl)⟩
set_option maxRecDepth 100000 in
set_option maxHeartbeats 4000000 in
theorem values1_in {α : Type} (g : α → List UInt8) (F : Fence) (n : Nat) (hF : F.fn 160) (hro : F.round = none) (hn : 1 ≤ n) (l Bs lo hi : Nat) (v : Value) (ls : List α) (hlen : ls.length ≤ 1000000) (J Jx : List α → World → Prop)
    (hY : ∀ pre x W, J pre W → pre.length < ls.length → YieldAt F (n - 1) Tryz.prog l #[.string (str (g x))] W fun e W' =>
      (e = .returned (.bool true) ∧ J (pre ++ [x]) W' ∧ Between lo hi W W') ∨ (e = .returned (.bool false) ∧ Jx (pre ++ [x]) W'))
    (W : World) (hBs : W.cell? ⟨Bs, 0, none⟩ = some v) (hE : Ss lo hi W v (ls.map g)) (h0 : J [] W) :
    CallsIn F n Tryz.prog 160 #[.func (.yield l) #[] #[], .pointer (some ⟨Bs, 0, none⟩)] W fun e W' => (∃ v, e = .returned v) ∧
      ((∃ ys, ys = ls ∧ J ys W') ∨ (∃ pre, pre <+: ls ∧ Jx pre W')) := by
  have HE := Lib.hid hE
  obtain ⟨A, c, rfl, _⟩ := hE
  rw [List.length_map] at *
  refine callsIn_of_wp Tryz.func160 rfl hF ?_ hro
  simp only [Tryz.ntmps160, List.size_toArray, List.length_cons, List.length_nil, Nat.reduceAdd, Nat.reduceSub, Array.replicate_succ, Array.replicate_zero, List.push_toArray, List.append_toArray, List.nil_append, List.cons_append]
  gi_wp2
  gi_loopw [7] (fun i wr => ∃ k : Nat, k ≤ ls.length ∧ i = .int .i64 k ∧ J (ls.take k) wr ∧ Between lo hi W wr) (fun i _ => ls.length - (intOf i).toNat)
  case atStart => exact ⟨0, Nat.zero_le _, rfl, h0, Between.refl _⟩
  case round =>
    obtain ⟨k, hk, rfl, hJs, hnx⟩ := hrel
    by_cases hlt : k < ls.length
    · obtain ⟨A', c', hv, hA⟩ := HE.out.keep hnx
      injection hv with hv1 hv2 hv3
      subst hv1 hv3
      obtain ⟨b, off, rfl, hb, hcell⟩ := hA (by simp; omega)
      obtain ⟨u, hu⟩ : ∃ u, ls[k]? = some u := ⟨_, List.getElem?_eq_getElem hlt⟩
      have c0 := hcell k (g u) (by rw [List.getElem?_map, hu]; rfl)
      have HT : Hid (ls.take (k + 1) = ls.take k ++ [u]) := Lib.hid (by rw [List.take_add_one, hu]; rfl)
      clear hcell hA hu hv2
      have hkl : (ls.take k).length < ls.length := by rw [List.length_take]; omega
      obtain ⟨fn, tmps, assign, body, hy, hR⟩ := hY (ls.take k) u _ hJs hkl
      clear hkl
      gi_wp2
      refine hR.mono ?_
      rintro e W3 (⟨rfl, hJ3, hk3⟩ | ⟨rfl, hJx3⟩)
      · gi_wp2
        go_roundw
        case rel => exact ⟨k + 1, by omega, by go_num, by rw [HT.out]; exact hJ3, hnx.trans hk3⟩
        case measure => simp [intOf]; omega
      · gi_wp2
        refine bodyPost_ret (results_none rfl _ _ _) rfl ?_
        exact ⟨⟨_, rfl⟩, .inr ⟨ls.take k ++ [u], by rw [← HT.out]; exact List.take_prefix _ _, hJx3⟩⟩
    · obtain rfl : k = ls.length := by omega
      rw [List.take_length] at hJs
      gi_wp2
      go_end0
      exact ⟨⟨_, rfl⟩, .inl ⟨_, rfl, hJs⟩⟩
theorem values1_stops {α : Type} (g : α → List UInt8) (F : Fence) (n : Nat) (hF : F.fn 160) (hro : F.round = none) (hn : 1 ≤ n) (Bs lo hi : Nat) (v : Value) (ls : List α) (hlen : ls.length ≤ 1000000) (w : World) (hBn : Bs < w.heap.size) (hhi : hi ≤ w.heap.size)
    (hc : w.cell? ⟨Bs, 0, none⟩ = some v) (hE : Ss lo hi w v (ls.map g)) :
    SeqStopsK F n Tryz.prog 160 #[.pointer (some ⟨Bs, 0, none⟩)] (fun x : α => #[.string (str (g x))]) (Between lo hi) (fun ys => ys = ls) (fun pre => pre <+: ls) ls.length w := fun l J Jx W hW _ _ hY h0 =>
  values1_in g F n hF hro hn l Bs lo hi v ls hlen J Jx hY W ((hW.cell (p := ⟨Bs, 0, none⟩) hBn).trans hc) (hE.keep (Between.of_below (hW.mono hhi))) h0
end Go.Proofs.YtfbangojgjcbcaaGreatDoor
namespace Go.Proofs.YtfbangojgjcbcaaGreatDoor
open Go.RowKit Pl Go.Shelf
attribute [local go_sem] Oper.semAt_some
theorem BAt.own {α : Type} (base b : Nat) (f : α → List UInt8) : Own (fun s W => BAt base b (f s) W) := fun s X Y row hs hg hr => by
  obtain ⟨p, v, h1, h2, h3⟩ := hs.is
  refine ⟨p, v, whole_own b _ (fun (_ : Unit) => #[p, v]) () X Y row h1 hg hr, h2, h3.kept hg ?_⟩
  rcases h3.2 with ⟨rfl, _⟩ | ⟨g, cap, cur, rfl, _, hh, _⟩
  · exact .inl rfl
  · right
    intro e
    obtain ⟨o, ho, hc⟩ := hr g e.symm
    rw [hh] at ho
    injection ho with ho
    subst ho
    simp [Obj.isCells] at hc
def joinNl (ls : List (List UInt8)) : List UInt8 := ls.flatMap (· ++ [10])
theorem joinNl_snoc (ls : List (List UInt8)) (l : List UInt8) : joinNl (ls ++ [l]) = joinNl ls ++ (l ++ [10]) := by simp [joinNl]
theorem joinNl_len : ∀ (ls : List (List UInt8)), (∀ l ∈ ls, l.length ≤ 40) → (joinNl ls).length ≤ 41 * ls.length
  | [], _ => by simp [joinNl]
  | x :: r, h => by
    have ih := joinNl_len r (fun l hl => h l (List.mem_cons_of_mem _ hl))
    have hx := h x (by simp)
    have e : joinNl (x :: r) = (x ++ [10]) ++ joinNl r := by simp [joinNl]
    rw [e, List.length_append, List.length_append, List.length_cons]
    simp; omega
theorem lift_short {ls : List (List UInt8)} (h : ∀ l ∈ ls, l.length ≤ 40) : ∃ es : List {x : List UInt8 // x.length ≤ 40}, es.map Subtype.val = ls ∧ es.length = ls.length :=
  ⟨ls.attach.map fun x => ⟨x.1, h x.1 x.2⟩, by simp [List.map_map, Function.comp_def], by simp⟩
theorem Moves.keeps {base b B : Nat} {w w' : World} (h : Moves base b w w') (hb : ∃ cs t fr, w.heap[b]? = some (.cells cs t fr)) : KeepsFrom B w w' :=
  KeepsOthers.from ⟨h.size, fun k o ho hc => h.at_ k o ho (by rintro rfl; obtain ⟨cs, t, fr, e⟩ := hb; rw [ho] at e; injection e with e; subst e; simp [Obj.isCells] at hc) (.inr hc)⟩ B
theorem Moves.between {base b lo hi : Nat} {w w' : World} (h : Moves base b w w') (hb : b < lo) (hh : hi ≤ base) (hs : hi ≤ w.heap.size) : Between lo hi w w' :=
  ⟨h.size, fun g h1 h2 => by
    obtain ⟨o, ho⟩ : ∃ o, w.heap[g]? = some o := ⟨_, Array.getElem?_eq_getElem (by omega)⟩
    rw [h.at_ g o ho (by omega) (.inl (by omega)), ho]⟩
theorem Moves.below {base b : Nat} {w w' : World} {B : Nat} (h : Moves base b w w') (hb : B ≤ b) (hB : B ≤ base) (hs : B ≤ w.heap.size) : Below B w w' :=
  ⟨h.os, h.tape, h.output, h.size, fun k hk => by
    obtain ⟨o, ho⟩ : ∃ o, w.heap[k]? = some o := ⟨_, Array.getElem?_eq_getElem (by omega)⟩
    rw [h.at_ k o ho (by omega) (.inl (by omega)), ho]⟩
set_option maxRecDepth 100000 in
set_option maxHeartbeats 4000000 in
theorem ctext_yes (v : Value) (c : Cfg) (w : World) (h : CfgIs w v c) (hA : Addrs4 c) (hm : mayC c = true) (E : Env w) :
    Calls Tryz.prog 22 #[v] w fun e w' => e = .returned (.tuple #[.string (str (textP c)), .int .i64 0]) ∧ Below w.heap.size w w' := by
  have hol := ownOk_le (mayC_parts hm).1
  have hpl := (mayC_parts hm).2.1
  have HLL := Lib.hid (lines_len hm)
  have HC := Lib.hid h
  obtain ⟨own, ports, rfl, hO, hP⟩ := h.is
  obtain ⟨A1, k1, rfl, -⟩ := hO
  obtain ⟨A2, k2, rfl, -⟩ := hP
  obtain ⟨W0, hW0⟩ : ∃ W0, w.alloc (.cells #[.int .i64 c.node, .int .u32 c.addr, .slice A1 c.own.length k1, .slice A2 c.ports.length k2, .int .i64 c.hello, .int .i64 c.dead, .int .i64 c.again, .int .i64 c.room, .int .i64 c.queue, .int .i64 c.tokens, .int .i64 c.refill] 28) = W0 := ⟨_, rfl⟩
  have HB0 : Hid (Below w.heap.size w W0) := Lib.hid (by rw [← hW0]; exact (Below.refl _ _).alloc (Nat.le_refl _) _)
  have HX : Hid (Whole W0 w.heap.size 28 #[.int .i64 c.node, .int .u32 c.addr, .slice A1 c.own.length k1, .slice A2 c.ports.length k2, .int .i64 c.hello, .int .i64 c.dead, .int .i64 c.again, .int .i64 c.room, .int .i64 c.queue, .int .i64 c.tokens, .int .i64 c.refill]) := Lib.hid (by rw [← hW0]; exact Whole.new _ _ _)
  have HW0 := Lib.hid hW0
  have hlt0 : w.heap.size < W0.heap.size := HX.out.lt
  have HMAY : Hid (Calls Tryz.prog 23 #[.agg #[.int .i64 c.node, .int .u32 c.addr, .slice A1 c.own.length k1, .slice A2 c.ports.length k2, .int .i64 c.hello, .int .i64 c.dead, .int .i64 c.again, .int .i64 c.room, .int .i64 c.queue, .int .i64 c.tokens, .int .i64 c.refill]] W0 fun e w' => e = .returned (.bool true) ∧ Below W0.heap.size W0 w') := Lib.hid (by
    have := may_any' _ c W0 (HC.out.below HB0.out) hA (by omega) (by omega)
    rw [hm] at this
    exact this)
  have HLN : Hid (∀ W, Below W0.heap.size W0 W → Calls Tryz.prog 61 #[.agg #[.int .i64 c.node, .int .u32 c.addr, .slice A1 c.own.length k1, .slice A2 c.ports.length k2, .int .i64 c.hello, .int .i64 c.dead, .int .i64 c.again, .int .i64 c.room, .int .i64 c.queue, .int .i64 c.tokens, .int .i64 c.refill]] W fun e w' => SeqOf W.heap.size (linesP c) e w' ∧ Below W.heap.size W w') := Lib.hid (fun W hb => by
    have := lines_any _ c W ((HC.out.below HB0.out).below hb) hA (by omega) (by omega) ((E.here HB0.out).here hb)
    unfold linesC at this
    rw [hm, if_pos rfl] at this
    exact this)
  have x0 := HX.out.cell 0
  have x1 := HX.out.cell 1
  have x2 := HX.out.cell 2
  have x3 := HX.out.cell 3
  have x4 := HX.out.cell 4
  have x5 := HX.out.cell 5
  have x6 := HX.out.cell 6
  have x7 := HX.out.cell 7
  have x8 := HX.out.cell 8
  have x9 := HX.out.cell 9
  have x10 := HX.out.cell 10
  simp only [List.getElem?_toArray, List.getElem?_cons_succ, List.getElem?_cons_zero] at x0 x1 x2 x3 x4 x5 x6 x7 x8 x9 x10
  clear h hA E hW0 hm
  unfold cfgV
  refine (callsIn_wide (n := 3)).1 ?_
  refine callsIn_of_wp_marks Tryz.func22 rfl trivial ?_ rfl
  simp only [Tryz.ntmps22, List.size_toArray, List.length_cons, List.length_nil, Nat.reduceAdd, Nat.reduceSub, Array.replicate_succ, Array.replicate_zero, List.push_toArray, List.append_toArray, List.nil_append, List.cons_append]
  gi_wp2
  rw [HW0.out]
  refine ⟨trivial, (callsIn_wide.2 HMAY.out).mono ?_⟩
  rintro e W2 ⟨rfl, hb2⟩
  have HB2 := Lib.hid hb2
  obtain ⟨W2', hW2'⟩ : ∃ W2', W2.alloc (.cells #[.pointer none, .slice none 0 0] 111) = W2' := ⟨_, rfl⟩
  have hba : Below W2.heap.size W2 W2' := by rw [← hW2']; exact (Below.refl _ _).alloc (Nat.le_refl _) _
  have HB2' : Hid (Below W0.heap.size W0 W2') := Lib.hid (hb2.trans (hba.mono hb2.size))
  have hbb : W2.heap.size < W2'.heap.size := by rw [← hW2']; simp
  have HBA : Hid (∀ base, BAt base W2.heap.size [] W2') := Lib.hid (fun base => by rw [← hW2']; exact BAt.fresh base W2)
  have HW2' := Lib.hid hW2'
  have x0 := (HX.out.here HB2.out).cell 0
  have x1 := (HX.out.here HB2.out).cell 1
  have x2 := (HX.out.here HB2.out).cell 2
  have x3 := (HX.out.here HB2.out).cell 3
  have x4 := (HX.out.here HB2.out).cell 4
  have x5 := (HX.out.here HB2.out).cell 5
  have x6 := (HX.out.here HB2.out).cell 6
  have x7 := (HX.out.here HB2.out).cell 7
  have x8 := (HX.out.here HB2.out).cell 8
  have x9 := (HX.out.here HB2.out).cell 9
  have x10 := (HX.out.here HB2.out).cell 10
  simp only [List.getElem?_toArray, List.getElem?_cons_succ, List.getElem?_cons_zero] at x0 x1 x2 x3 x4 x5 x6 x7 x8 x9 x10
  have HLB := Lib.hid (HLN.out W2' HB2'.out)
  have hs2 := hb2.size
  have hlt2 : w.heap.size < W2.heap.size := by omega
  clear hW2' hba HLN hb2
  gi_wp2
  rw [HW2'.out]
  refine ⟨trivial, (callsIn_wide.2 HLB.out).mono ?_⟩
  rintro e W3 ⟨⟨Bs, vs, rfl, ⟨hlo, hBs⟩, hc, hS⟩, hb3⟩
  have HB3 := Lib.hid hb3
  have HS := Lib.hid hS
  have hs3 := hb3.size
  have HBW : Hid (Below w.heap.size w W3) := Lib.hid ((HB0.out.trans (HB2'.out.mono HB0.out.size)).trans (hb3.mono (by omega)))
  have HBA3 : Hid (BAt W3.heap.size W2.heap.size [] W3) := Lib.hid ((HBA.out _).here hb3)
  have hlines : (linesP c).length ≤ 25 := HLL.out.2
  clear hb3 hS
  gi_wp2
  obtain ⟨es, hes, hel⟩ := lift_short HLL.out.1
  have HES := Lib.hid hes
  have HS' : Hid (Ss W2'.heap.size W3.heap.size W3 vs (es.map Subtype.val)) := Lib.hid (by rw [hes]; exact HS.out)
  clear hes
  refine wpIn_rangeFunc_ownH (F := Fence.wide) rfl (by decide) (gf := 160) (lb := #[.pointer (some ⟨Bs, 0, none⟩)]) rfl trivial (enters_of Tryz.func160 (by kernel_rfl) rfl)
    (values1_stops (Subtype.val : {x : List UInt8 // x.length ≤ 40} → List UInt8) Fence.wide 2 trivial rfl (by decide) Bs W2'.heap.size W3.heap.size vs es (by omega) W3 hBs (Nat.le_refl _) hc HS'.out) Between.trans (fun W l o o' hl _ _ _ => Between.put hl) (Below.refl _ _) (fun _ => rfl)
    (fun pre W => (BAt W3.heap.size W2.heap.size (joinNl (pre.map Subtype.val)) W ∧ Below w.heap.size w W) ∧ W3.heap.size ≤ W.heap.size)
    (fun _ _ _ => False)
    (OwnFrom.and (OwnFrom.and (Own.from (BAt.own _ _ (fun pre : List {x : List UInt8 // x.length ≤ 40} => joinNl (pre.map Subtype.val))) _) (ownFrom_below (Nat.le_refl _) (by omega))) (fun _ _ _ _ hs hg _ => Nat.le_trans hs hg.size))
    (fun _ _ _ _ _ hs _ _ => hs)
    ⟨⟨HBA3.out, HBW.out⟩, Nat.le_refl _⟩
    (fun y a' _ => a' = { tmps := #[.agg #[.int .i64 c.node, .int .u32 c.addr, .slice A1 c.own.length k1, .slice A2 c.ports.length k2, .int .i64 c.hello, .int .i64 c.dead, .int .i64 c.again, .int .i64 c.room, .int .i64 c.queue, .int .i64 c.tokens, .int .i64 c.refill], .pointer (some ⟨w.heap.size, 0, none⟩), .string ⟨#[]⟩, .int .i64 0, .pointer (some ⟨W2.heap.size, 0, none⟩), .string (str y.1), .agg #[.int .i64 c.node, .int .u32 c.addr, .slice A1 c.own.length k1, .slice A2 c.ports.length k2, .int .i64 c.hello, .int .i64 c.dead, .int .i64 c.again, .int .i64 c.room, .int .i64 c.queue, .int .i64 c.tokens, .int .i64 c.refill], .bool true, .bool false, .agg #[.int .i64 c.node, .int .u32 c.addr, .slice A1 c.own.length k1, .slice A2 c.ports.length k2, .int .i64 c.hello, .int .i64 c.dead, .int .i64 c.again, .int .i64 c.room, .int .i64 c.queue, .int .i64 c.tokens, .int .i64 c.refill], .func (.func 160) #[] #[.pointer (some ⟨Bs, 0, none⟩)], .string (str y.1), undef, undef, undef, undef], defers := [] })
    (fun y a' _ X Y row hs hg hr => hs)
    ?assign ?body ?done ?stop
  case assign =>
    rintro l pre y W K hI hK
    gi_wp2
    exact hK _ _ ((KeepsOthers.refl _).from _) (Between.refl W) hI rfl
  case body =>
    rintro l pre ⟨y, hy⟩ a' W hl _ ⟨⟨hA, hB⟩, hz⟩ rfl hlt
    have hjl := joinNl_len (pre.map Subtype.val) (fun x hx => by obtain ⟨z, _, rfl⟩ := List.mem_map.1 hx; exact z.2)
    rw [List.length_map] at hjl
    have q1 : ¬ 9223372036854775807 < y.length + 1 := by omega
    have hsz : (str y).size = y.length := str_size y
    have ey : str y ++ { data := #[10] } = str (y ++ [10]) := by
      show str y ++ str [10] = _
      rw [str_append]
    have HWS := Lib.hid (writeString_any W3.heap.size W2.heap.size (joinNl (pre.map Subtype.val)) (y ++ [10]) W hA (by omega) (by simp; omega) hz)
    have hcell : ∃ cs t fr, W.heap[W2.heap.size]? = some (.cells cs t fr) := by obtain ⟨p, v, h1, _⟩ := hA.is; exact ⟨_, _, _, h1.is⟩
    have HEY := Lib.hid ey
    clear hsz ey
    gi_wp2
    rw [HEY.out]
    refine ⟨trivial, CallsIn.inRound l ((callsIn_wide.2 HWS.out).mono ?_)⟩
    rintro e W' ⟨rfl, hA', hM⟩
    gi_wp2
    refine ⟨hM.keeps hcell, hM.between (by omega) (Nat.le_refl _) hz, ⟨⟨?_, hB.trans (hM.below (by omega) (by omega) (by omega))⟩, Nat.le_trans hz hM.size⟩⟩
    rw [List.map_append, List.map_cons, List.map_nil, joinNl_snoc]
    exact hA'
  case done =>
    rintro D ys W hD rfl ⟨⟨hA, hB⟩, hz⟩ hK
    rw [HES.out] at hA
    have hne : textP c ≠ [] := by
      unfold textP linesP heads
      simp
    have HST := Lib.hid (bString_any W3.heap.size W2.heap.size (textP c) W hA hne)
    clear hne
    gi_wp2
    refine ⟨trivial, (callsIn_wide.2 HST.out).mono ?_⟩
    rintro e W' ⟨rfl, hM⟩
    have hkd : W'.heap[D]? = some (.deferred (some [])) := hM.at_ D _ hK (by omega) (.inr rfl)
    have hbel := hB.trans (hM.below (by omega) (by omega) (by omega))
    gi_wp2
    refine ⟨by simp, .inl ⟨_, _, rfl, run_takeDeferred hkd, ?_⟩⟩
    refine ⟨.tuple #[.string (str (textP c)), .int .i64 0], ?_, rfl, hbel.trans (belowK_b (w := w) (Nat.le_refl _) W' D _ _ (by omega) hkd rfl rfl)⟩
    simp [results, Tryz.results22, go_sem]
  case stop =>
    rintro D c pre W _ _ h _
    exact h.elim
end Go.Proofs.YtfbangojgjcbcaaGreatDoor
namespace Go.Proofs.YtfbangojgjcbcaaGreatDoor
open Go.RowKit Pl
theorem hx_ba (n : Nat) (h : n < (ByteArray.mk #[48, 49, 50, 51, 52, 53, 54, 55, 56, 57, 97, 98, 99, 100, 101, 102]).size) :
    (ByteArray.mk #[48, 49, 50, 51, 52, 53, 54, 55, 56, 57, 97, 98, 99, 100, 101, 102])[n] = hx n := by
  have k : ∀ m : Fin 16, (ByteArray.mk #[48, 49, 50, 51, 52, 53, 54, 55, 56, 57, 97, 98, 99, 100, 101, 102])[m.1]'m.2 = hx m.1 := by decide +kernel
  exact k ⟨n, h⟩
theorem and15 (x : UInt8) : bits .and .u8 (x.toNat : Int) 15 = ((x.toNat % 16 : Nat) : Int) := by
  have k : ∀ m : Fin 256, bits .and .u8 (m.1 : Int) 15 = ((m.1 % 16 : Nat) : Int) := by decide +kernel
  exact k ⟨x.toNat, x.toNat_lt⟩
theorem hex_two (l m : List UInt8) (x : UInt8) (h : m = l ++ hex1 x) : cellsB (l ++ [hx (x.toNat / 16)] ++ [hx (x.toNat % 16)]) = cellsB m := by
  subst h; simp [hex1]
set_option maxRecDepth 100000 in
set_option maxHeartbeats 1000000 in
theorem hex_any (v : Value) (l : List UInt8) (w : World) (hb : Bs w v l) (hl : l.length ≤ 1000000) :
    Calls Tryz.prog 172 #[v] w fun e w' => e = .returned (.string (str (hexText l))) ∧ Below w.heap.size w w' := by
  have HB := Lib.hid hb
  obtain ⟨A, c, rfl, hc, _, _⟩ := hb
  go_enter Tryz.func172, Tryz.ntmps172
  go_wp2
  go_loopw [8] (fun i wr => ∃ j : Nat, j ≤ l.length ∧ i = .int .i64 j ∧ Lib.IsBuilder 111 5 w.heap.size w.heap.size (cellsB (hexText (l.take j))) wr ∧ Below w.heap.size w wr) (fun i _ => l.length - (intOf i).toNat)
  case atStart =>
    exact ⟨0, Nat.zero_le _, rfl, Lib.fresh_isBuilder 111 5 w, bel_alloc (Below.refl _ _) _⟩
  case round =>
    obtain ⟨j, hj, rfl, hbu, hb⟩ := hrel
    by_cases hlt : j < l.length
    · obtain ⟨A', c', hv, _, _, hA⟩ := HB.out.below hb
      injection hv with hv1 hv2 hv3
      subst hv1 hv3
      obtain ⟨b, off, rfl, hbs, hcell⟩ := hA (by omega)
      have hcj : wr.cell? ⟨b, off + j, none⟩ = some (.int .u8 (l[j].toNat : Int)) := hcell j _ (by simp [cellsB, hlt])
      clear hcell hA
      have hlen : (hexText (l.take j)).length ≤ 2000000 := by rw [hexText_length, List.length_take]; omega
      have ht := hexText_take l j hlt
      obtain ⟨x, hx⟩ : ∃ x, l[j] = x := ⟨_, rfl⟩
      rw [hx] at hcj ht
      clear hx
      have hxl : (x.toNat : Int) < 256 := by have := x.toNat_lt; omega
      have hand := and15 x
      have HW := Lib.hid hbu
      clear hbu
      have hbz := hb.size
      go_wp2_with (go_at_call 195; rw [hx_ba]; refine (writeByte_any _ _ _ _ _ HW.out (by omega) hbz).mono ?_)
      rintro e w1 ⟨rfl, hw1, hb1⟩
      have hbz1 := hb1.size
      have HW1 := Lib.hid hw1
      clear hw1
      go_wp2_with (go_at_call 195; rw [hx_ba]; refine (writeByte_any _ _ _ _ _ HW1.out (by simp; omega) (by omega)).mono ?_)
      rintro e w2 ⟨rfl, hw2, hb2⟩
      rw [hex_two _ _ _ ht] at hw2
      have HW2 := Lib.hid hw2
      clear hw2
      go_wp2
      go_roundw
      case rel => exact ⟨j + 1, by omega, by go_num, HW2.out, hb.trans (hb1.trans hb2)⟩
      case measure => simp [intOf]; omega
    · obtain rfl : j = l.length := by omega
      rw [List.take_length] at hbu
      have hbz := hb.size
      have HW := Lib.hid hbu
      clear hbu
      go_wp2_with (go_at_call 63; refine (Tryz.Builder_String_any _ _ (hexText l) _ HW.out hbz).mono ?_)
      rintro e w1 ⟨rfl, hb1⟩
      go_wp2
      go_ret
      exact ⟨rfl, hb.trans hb1⟩
end Go.Proofs.YtfbangojgjcbcaaGreatDoor
namespace Go.Proofs.YtfbangojgjcbcaaGreatDoor
open Go.RowKit Pl Go.Shelf
theorem either_any (b : Bool) (s t : ByteArray) (w : World) : Calls Tryz.prog 137 #[.bool b, .string s, .string t] w fun e w' => e = .returned (.string (if b then s else t)) ∧ w = w' := by
  cases b with
  | true =>
    go_enter Tryz.func137, Tryz.ntmps137
    go_wp2
    go_ret
    exact ⟨rfl, rfl⟩
  | false =>
    go_enter Tryz.func137, Tryz.ntmps137
    go_wp2
    go_ret
    exact ⟨rfl, rfl⟩
theorem chex_any (v : Value) (l : List UInt8) (w : World) (h : Bs w v l) (hl : l.length ≤ 1000000) :
    Calls Tryz.prog 138 #[v] w fun e w' => e = .returned (.string (str (hexD l))) ∧ Below w.heap.size w w' := by
  have HH := Lib.hid (hex_any v l w h hl)
  obtain ⟨A, c, rfl, -⟩ := h
  by_cases h0 : 0 < l.length
  · have HR : Hid (str (hexText l) = str (hexD l)) := Lib.hid (by
      unfold hexD
      rw [if_neg (by intro e; rw [e] at h0; simp at h0)])
    go_enter Tryz.func138, Tryz.ntmps138
    go_wp2_with fail
    refine HH.out.mono ?_
    rintro e w1 ⟨rfl, hb⟩
    have HB := Lib.hid hb
    clear hb
    go_wp2_with fail
    refine (either_any _ _ _ _).mono ?_
    rintro e w2 ⟨rfl, rfl⟩
    go_wp2
    go_ret
    exact ⟨by rw [← HR.out]; rfl, HB.out⟩
  · have h1 : l = [] := List.eq_nil_of_length_eq_zero (by omega)
    subst h1
    go_enter Tryz.func138, Tryz.ntmps138
    go_wp2_with fail
    refine HH.out.mono ?_
    rintro e w1 ⟨rfl, hb⟩
    have HB := Lib.hid hb
    clear hb
    go_wp2_with fail
    refine (either_any _ _ _ _).mono ?_
    rintro e w2 ⟨rfl, rfl⟩
    go_wp2
    go_ret
    exact ⟨rfl, HB.out⟩
def kinds9 : List Nat := [1, 2, 3, 4, 5, 6, 7, 8, 9]
def names9 : List (List UInt8) := kinds9.map nameA
/-- What script.Names answers: its closure over a box that holds the slice of the first words. -/
def NamesOf (lo : Nat) (e : Ending) (w' : World) : Prop :=
  ∃ Bs v, e = .returned (.func (.func 141) #[] #[.pointer (some ⟨Bs, 0, none⟩)]) ∧ (lo ≤ Bs ∧ Bs < w'.heap.size) ∧ w'.cell? ⟨Bs, 0, none⟩ = some v ∧ Ss lo w'.heap.size w' v names9
set_option maxRecDepth 100000 in
theorem names_any (w : World) :
    Calls Tryz.prog 80 #[] w fun e w' => NamesOf w.heap.size e w' ∧ Below w.heap.size w w' := by
  go_enter Tryz.func80, Tryz.ntmps80
  go_wp2
  go_ret
  refine ⟨⟨w.heap.size + 1, .slice (some ⟨w.heap.size, 0, none⟩) 9 9, rfl, ⟨by omega, by simp⟩, ?_, ?_⟩, (by repeat (first | exact Below.refl _ _ | apply Below.drew | apply Go.below_drewN | apply bel_alloc | apply Ext.lift | apply bel_set0 | apply bel_set))⟩
  · exact World.cell?_alloc_at _ _ _ _ (by simp)
  · refine ⟨_, _, rfl, fun _ => ⟨w.heap.size, 0, rfl, ⟨Nat.le_refl _, by simp; omega⟩, fun j l hl => ?_⟩⟩
    rw [World.cell?_alloc_lt _ _ _ (by simp), Nat.zero_add, (Whole.new w 9 _).cell j]
    have hj : j < 9 := (List.getElem?_eq_some_iff.1 hl).1
    rcases (by omega : j = 0 ∨ j = 1 ∨ j = 2 ∨ j = 3 ∨ j = 4 ∨ j = 5 ∨ j = 6 ∨ j = 7 ∨ j = 8) with rfl | rfl | rfl | rfl | rfl | rfl | rfl | rfl | rfl <;> (injection hl with hl; subst hl; rfl)
set_option maxRecDepth 100000 in
set_option maxHeartbeats 4000000 in
theorem names1_in (F : Fence) (n : Nat) (hF : F.fn 141) (hro : F.round = none) (hn : 1 ≤ n) (l Bs lo hi : Nat) (v : Value) (J Jx : List Nat → World → Prop)
    (hY : ∀ (pre : List Nat) (x : Nat) (W : World), J pre W → pre.length < 9 → YieldAt F (n - 1) Tryz.prog l #[.int .i64 (x : Int), .string (str (nameA x))] W fun e W' =>
      (e = .returned (.bool true) ∧ J (pre ++ [x]) W' ∧ Between lo hi W W') ∨ (e = .returned (.bool false) ∧ Jx (pre ++ [x]) W'))
    (W : World) (hBs : W.cell? ⟨Bs, 0, none⟩ = some v) (hE : Ss lo hi W v names9) (h0 : J [] W) :
    CallsIn F n Tryz.prog 141 #[.func (.yield l) #[] #[], .pointer (some ⟨Bs, 0, none⟩)] W fun e W' => (∃ v, e = .returned v) ∧
      ((∃ ys, ys = kinds9 ∧ J ys W') ∨ (∃ pre, pre <+: kinds9 ∧ Jx pre W')) := by
  have HE := Lib.hid hE
  obtain ⟨A, c, rfl, _⟩ := hE
  change W.cell? ⟨Bs, 0, none⟩ = some (.slice A 9 c) at hBs
  refine callsIn_of_wp Tryz.func141 rfl hF ?_ hro
  simp only [Tryz.ntmps141, List.size_toArray, List.length_cons, List.length_nil, Nat.reduceAdd, Nat.reduceSub, Array.replicate_succ, Array.replicate_zero, List.push_toArray, List.append_toArray, List.nil_append, List.cons_append]
  gi_wp2
  gi_loopw [7] (fun i wr => ∃ k : Nat, k ≤ 9 ∧ i = .int .i64 k ∧ J (kinds9.take k) wr ∧ Between lo hi W wr) (fun i _ => 9 - (intOf i).toNat)
  case atStart => exact ⟨0, Nat.zero_le _, rfl, h0, Between.refl _⟩
  case round =>
    obtain ⟨k, hk, rfl, hJs, hnx⟩ := hrel
    by_cases hlt : k < 9
    · obtain ⟨A', c', hv, hA⟩ := HE.out.keep hnx
      injection hv with hv1 hv2 hv3
      subst hv1 hv3
      obtain ⟨b, off, rfl, hb, hcell⟩ := hA (by decide)
      have hu : kinds9[k]? = some (k + 1) := by rcases (by omega : k = 0 ∨ k = 1 ∨ k = 2 ∨ k = 3 ∨ k = 4 ∨ k = 5 ∨ k = 6 ∨ k = 7 ∨ k = 8) with rfl | rfl | rfl | rfl | rfl | rfl | rfl | rfl | rfl <;> rfl
      have c0 := hcell k (nameA (k + 1)) (by unfold names9; rw [List.getElem?_map, hu]; rfl)
      have HT : Hid (kinds9.take (k + 1) = kinds9.take k ++ [k + 1]) := Lib.hid (by rw [List.take_add_one, hu]; rfl)
      clear hcell hA hu hv2
      have hkl : (kinds9.take k).length < 9 := by
        have : kinds9.length = 9 := rfl
        rw [List.length_take, this]; omega
      obtain ⟨fn, tmps, assign, body, hy, hR⟩ := hY (kinds9.take k) (k + 1) _ hJs hkl
      have ek : ((k + 1 : Nat) : Int) = (k : Int) + 1 := by omega
      rw [ek] at hy
      clear hkl ek
      gi_wp2
      refine hR.mono ?_
      rintro e W3 (⟨rfl, hJ3, hk3⟩ | ⟨rfl, hJx3⟩)
      · gi_wp2
        go_roundw
        case rel => exact ⟨k + 1, by omega, by go_num, by rw [HT.out]; exact hJ3, hnx.trans hk3⟩
        case measure => simp [intOf]; omega
      · gi_wp2
        refine bodyPost_ret (results_none rfl _ _ _) rfl ?_
        exact ⟨⟨_, rfl⟩, .inr ⟨kinds9.take k ++ [k + 1], by rw [← HT.out]; exact List.take_prefix _ _, hJx3⟩⟩
    · obtain rfl : k = 9 := by omega
      have e9 : kinds9.take 9 = kinds9 := rfl
      rw [e9] at hJs
      gi_wp2
      go_end0
      exact ⟨⟨_, rfl⟩, .inl ⟨_, rfl, hJs⟩⟩
theorem names1_stops (F : Fence) (n : Nat) (hF : F.fn 141) (hro : F.round = none) (hn : 1 ≤ n) (Bs lo hi : Nat) (v : Value) (w : World) (hBn : Bs < w.heap.size) (hhi : hi ≤ w.heap.size)
    (hc : w.cell? ⟨Bs, 0, none⟩ = some v) (hE : Ss lo hi w v names9) :
    SeqStopsK F n Tryz.prog 141 #[.pointer (some ⟨Bs, 0, none⟩)] (fun x : Nat => #[.int .i64 (x : Int), .string (str (nameA x))]) (Between lo hi) (fun ys => ys = kinds9) (fun pre => pre <+: kinds9) 9 w := fun l J Jx W hW _ _ hY h0 =>
  names1_in F n hF hro hn l Bs lo hi v J Jx hY W ((hW.cell (p := ⟨Bs, 0, none⟩) hBn).trans hc) (hE.keep (Between.of_below (hW.mono hhi))) h0
end Go.Proofs.YtfbangojgjcbcaaGreatDoor
namespace Go.Proofs.YtfbangojgjcbcaaGreatDoor
open Go.RowKit Pl Go.Shelf
open Go.Lib (itoa)
theorem keeps_below {w w' : World} (h : Below w.heap.size w w') : KeepsOthers w w' := ⟨h.size, fun k _o hk _ => (h.block k (Array.getElem?_eq_some_iff.1 hk).1).trans hk⟩
theorem keeps_row {z w3 : World} {base size n : Nat} {e : TypeId} {v : Value} {xs : List Value} (h : z.ownsRow base e size v n xs) (hg : z.grownBy w3 v.ownBlock) : KeepsOthers z w3 :=
  KeepsOthers.of_grownBy hg fun j o hj ho => by
    rcases h.2 with ⟨rfl, _⟩ | ⟨g, cap, cur, rfl, _, hh, _⟩
    · simp [Value.ownBlock] at hj
    · have : g = j := by simpa [Value.ownBlock] using hj
      subst this
      rw [hh] at ho
      injection ho with ho
      subst ho
      rfl
theorem LinesIs.push' {B R : Nat} {ls : List (List UInt8)} {l : List UInt8} {w z w3 : World} {v v' : Value} (hW : Whole w R 40 #[v]) (hO : w.ownsRow B 9 1 v ls.length (ls.map Sv)) (hz : Below w.heap.size w z)
    (hO3 : w3.ownsRow B 9 1 v' (ls.length + 1) (ls.map Sv ++ [Sv l])) (hg : z.grownBy w3 v.ownBlock) (hBR : B ≤ R) (hBw : B ≤ w.heap.size) :
    ∃ g n k, v' = .slice (some ⟨g, 0, none⟩) n k ∧ w3.cell? ⟨R, 0, none⟩ = some v ∧ w3.frozen? ⟨R, 0, none⟩ = false ∧ LinesIs B R (ls ++ [l]) (w3.setCell ⟨R, 0, none⟩ v') ∧ Below B w (w3.setCell ⟨R, 0, none⟩ v') ∧ KeepsOthers w (w3.setCell ⟨R, 0, none⟩ v') := by
  obtain ⟨g, n, k, h1, h2, h3, h4, h5⟩ := LinesIs.push hW hO hz hO3 hg hBR hBw
  exact ⟨g, n, k, h1, h2, h3, h4, h5, ((keeps_below hz).trans (keeps_row (own_below hO hz) hg)).trans (KeepsOthers.setCell _ _ _)⟩
set_option maxRecDepth 100000 in
set_option maxHeartbeats 4000000 in
theorem put_any (B R g c : Nat) (ns : List Int) (ls : List (List UInt8)) (w : World) (h : LinesIs B R ls w) (hg : Whole w g 3 (ns.map (Value.int .i64)).toArray) (hn : ∀ n ∈ ns, In64 n) (hnl : ns.length ≤ 4) (hll : ls.length ≤ 4) (_hc : ns.length ≤ c) (E : Env w) (hB0 : 8 ≤ B) (hBw : B ≤ w.heap.size) :
    Calls Tryz.prog 136 #[.slice (some ⟨g, 0, none⟩) ns.length c, .pointer (some ⟨R, 0, none⟩)] w fun e w' => e = .returned (.tuple #[]) ∧ LinesIs B R (ls ++ ns.map itoa) w' ∧ Below B w w' ∧ KeepsOthers w w' := by
  have HG := Lib.hid hg
  have HL := Lib.hid h
  have HN := Lib.hid hn
  have E0 := Lib.hid E
  clear hg h hn E
  go_enter Tryz.func136, Tryz.ntmps136
  go_wp2
  go_loopw [7] (fun i wr => ∃ k : Nat, k ≤ ns.length ∧ i = .int .i64 k ∧ Hid (LinesIs B R (ls ++ (ns.take k).map itoa) wr) ∧ Hid (Whole wr g 3 (ns.map (Value.int .i64)).toArray) ∧ Hid (Below B w wr) ∧ Hid (KeepsOthers w wr)) (fun i _ => ns.length - (intOf i).toNat)
  case atStart => exact ⟨0, Nat.zero_le _, rfl, Lib.hid (by simpa using HL.out), HG, Lib.hid (Below.refl _ _), Lib.hid (KeepsOthers.refl _)⟩
  case round =>
    obtain ⟨k, hk, rfl, HLr, HGr, HB, HKO⟩ := hrel
    by_cases hlt : k < ns.length
    · obtain ⟨n, hnk⟩ : ∃ n, ns[k]? = some n := ⟨_, List.getElem?_eq_getElem hlt⟩
      have hin := HN.out n (List.mem_of_getElem? hnk)
      have hck : wr.cell? ⟨g, k, none⟩ = some (.int .i64 n) := by
        rw [HGr.out.cell k]
        simp [hnk]
      have HNK : Hid ((ls ++ (ns.take (k + 1)).map itoa) = (ls ++ (ns.take k).map itoa) ++ [itoa n]) := Lib.hid (by rw [List.take_add_one, hnk]; simp)
      have hll2 : (ls ++ (ns.take k).map itoa).length ≤ 8 := by simp; omega
      have s1 : (str (itoa n)).size ≤ 20 := by rw [str_size]; exact itoa_len20 hin
      obtain ⟨lt, hlt'⟩ : ∃ lt, ls ++ (ns.take k).map itoa = lt := ⟨_, rfl⟩
      rw [hlt'] at HLr HNK hll2
      obtain ⟨v, hBR, hW, hO⟩ := HLr.out.is
      have hGr := HGr.out
      have HW := Lib.hid hW
      have HO := Lib.hid hO
      have hR := hW.lt
      have c0 : wr.cell? ⟨R, 0, none⟩ = some v := hW.cell 0
      have hno := hW.notRow hO (by decide)
      have hgR := hGr.apart hW (by decide)
      have hgO := hGr.notRow hO (by decide)
      have hBr := HB.out.size
      clear hnk hlt' hW hO hGr
      go_upto_region 3 with fail
      refine wp_region_ext_load (v := v) 3 (by kernel_rfl) (by kernel_rfl) rfl rfl (.inl ⟨rfl, ?_⟩) (fun _ _ _ h => h) ?_
      · rintro _ ⟨x, rfl⟩
        have cx := (x.cell ⟨R, 0, none⟩ hR).trans c0
        go_simp
      simp only [List.take_succ_cons, List.take_zero, List.drop_succ_cons, List.drop_zero, Act.put, List.setIfInBounds_toArray, List.set_cons_succ, List.set_cons_zero]
      repeat (go_big_quiet_step (first | (go_at_call 58; exact Ext.call (itoa_all _ _ hin.1 hin.2 (Ext.env _ (E0.out.below hB0 HB.out))))))
      refine wpQuiet_nil ?_
      rintro _ ⟨z, rfl⟩
      go_wp2
      have hb2 := z.below.size
      refine ⟨⟨⟨_, bel_alloc z.below _⟩, rfl⟩, ?_⟩
      have hown2 := own_below HO.out z.below
      go_wp2_with (at_builtin; refine wpList_push rfl _ _ 40 rfl B 9 info_str rfl (by decide) Tryz.underlying40 _ _ _ rfl hown2 rfl rfl (by omega) (by omega) ?_)
      intro v' w3 hown3 hg
      obtain ⟨g3, n3, k3, rfl, c3, f3, hL3, hB3, hK3⟩ := LinesIs.push' (l := itoa n) HW.out HO.out z.below hown3 hg hBR (by omega)
      have HL3 : Hid (LinesIs B R (lt ++ [itoa n]) (w3.setCell ⟨R, 0, none⟩ (.slice (some ⟨g3, 0, none⟩) n3 k3))) := Lib.hid hL3
      have HG3 : Hid (Whole (w3.setCell ⟨R, 0, none⟩ (.slice (some ⟨g3, 0, none⟩) n3 k3)) g 3 (ns.map (Value.int .i64)).toArray) := Lib.hid (((HGr.out.here z.below).kept hg (Ne.symm hgO)).far hgR _)
      have HB3 : Hid (Below B w (w3.setCell ⟨R, 0, none⟩ (.slice (some ⟨g3, 0, none⟩) n3 k3))) := Lib.hid (HB.out.trans hB3)
      have HK3 : Hid (KeepsOthers w (w3.setCell ⟨R, 0, none⟩ (.slice (some ⟨g3, 0, none⟩) n3 k3))) := Lib.hid (HKO.out.trans hK3)
      clear hown2 hown3 hg hL3 hB3 hK3 hno hgR hgO
      go_wp2
      go_roundw
      case rel => exact ⟨k + 1, by omega, by go_num, by rw [HNK.out]; exact HL3, HG3, HB3, HK3⟩
      case measure => simp [intOf]; omega
    · obtain rfl : k = ns.length := by omega
      have HLE : Hid (LinesIs B R (ls ++ ns.map itoa) wr) := Lib.hid (by have := HLr.out; rw [List.take_length] at this; exact this)
      go_wp2
      go_end0
      exact ⟨rfl, HLE.out, HB.out, HKO.out⟩
end Go.Proofs.YtfbangojgjcbcaaGreatDoor
