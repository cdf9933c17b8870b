/- Contracts of conf.Lines and its closure: a configuration's lines, in a box. -/
/- Contract of conf.Lines: it hands out a configuration's lines, or none. -/
/- conf.Lines, walked. -/
import Derived.Test.YtfbangojgjcbcaaGreatDoorConfS
import Derived.Test.YtfbangojgjcbcaaGreatDoorConfK
import Derived.Test.YtfbangojgjcbcaaGreatDoorLoadF
import Derived.Test.YtfbangojgjcbcaaGreatDoorPlainY
import Derived.Test.YtfbangojgjcbcaaGreatDoorConfC
import Derived.Test.YtfbangojgjcbcaaGreatDoorAddr
import Derived.WalkMore
namespace Go.Proofs.YtfbangojgjcbcaaGreatDoor
open Go.RowKit Pl

/-- Box R holds a slice of the call's own (from B on), which holds the lines ls. -/
structure LinesIs (B R : Nat) (ls : List (List UInt8)) (w : World) : Prop where
  is : ∃ v, B ≤ R ∧ Whole w R 40 #[v] ∧ w.ownsRow B 9 1 v ls.length (ls.map Sv)
theorem LinesIs.below {B R : Nat} {ls : List (List UInt8)} {w w' : World} (h : LinesIs B R ls w) (hb : Below w.heap.size w w') : LinesIs B R ls w' := by
  obtain ⟨v, h0, h1, h2⟩ := h.is
  exact ⟨v, h0, h1.here hb, own_below h2 hb⟩

set_option maxRecDepth 100000 in
set_option maxHeartbeats 4000000 in
theorem lines1_any (B R : Nat) (wd : List UInt8) (n : Int) (ls : List (List UInt8)) (w : World) (h : LinesIs B R ls w) (hl : ls.length ≤ 100000) (hw : wd.length ≤ 1000) (h0 : -1000000000 ≤ n) (h1 : n ≤ 1000000000) (E : Env w) (hBw : B ≤ w.heap.size) :
    Calls Tryz.prog 123 #[.string (str wd), .int .i64 n, .pointer (some ⟨R, 0, none⟩)] w fun e w' => e = .returned (.tuple #[]) ∧ LinesIs B R (ls ++ [lnNum wd n]) w' ∧ Below B w w' := by
  obtain ⟨v, hBR, hW, hO⟩ := h.is
  have hR := hW.lt
  have hWs : (str wd).size = wd.length := str_size wd
  have hno := hW.notRow hO (by decide)
  have HW := Lib.hid hW
  have HO := Lib.hid hO
  have c0 : w.cell? ⟨R, 0, none⟩ = some v := hW.cell 0
  obtain ⟨i0, hi0, hz0, hz1, hz2⟩ := info_parts info_str
  have q1 : ¬ 9223372036854775807 < wd.length + 1 := by omega
  have s1 : (str (Lib.itoa n)).size ≤ 20 := by rw [str_size]; exact itoa_len20 ⟨by omega, by omega⟩
  have q2 : ¬ 9223372036854775807 < wd.length + 1 + (str (Lib.itoa n)).size := by omega
  clear h hW hO
  go_enter Tryz.func123, Tryz.ntmps123
  go_wp2
  refine wp_region_ext_load (v := v) 6 (by kernel_rfl) (by kernel_rfl) rfl rfl (.inl ⟨rfl, ?_⟩) (fun _ _ _ h => h) ?_
  · rintro _ ⟨x, rfl⟩
    have cx := (x.cell ⟨R, 0, none⟩ hR).trans c0
    go_simp
  simp only [List.take_succ_cons, List.take_zero, List.drop_succ_cons, List.drop_zero, Act.put, List.setIfInBounds_toArray, List.set_cons_succ, List.set_cons_zero]
  repeat (go_big_quiet_step (first | (go_at_call 58; exact Ext.call (itoa_any _ _ (by omega) (by omega) (Ext.env _ E)))))
  refine wpQuiet_nil ?_
  rintro _ ⟨z, rfl⟩
  go_wp2
  have hb2 := z.below.size
  refine ⟨⟨⟨_, bel_alloc z.below _⟩, rfl⟩, ?_⟩
  have hown2 := own_below HO.out z.below
  go_wp2_with (at_builtin; refine wpList_push rfl _ _ 40 rfl B 9 info_str rfl (by decide) Tryz.underlying40 _ _ _ rfl hown2 rfl rfl (by omega) (by omega) ?_)
  intro v' w3 hown3 hg
  have hW3 := (HW.out.here z.below).kept hg (Ne.symm hno)
  have c3 : w3.cell? ⟨R, 0, none⟩ = some v := hW3.cell 0
  have f3 := hW3.frozen 0
  have e : Value.string (str wd ++ { data := #[32] } ++ str (Lib.itoa n)) = Sv (lnNum wd n) := by
    show Value.string (str wd ++ str [32] ++ str (Lib.itoa n)) = _
    unfold Sv lnNum
    simp only [str_append]
    congr 2
    simp
  rw [e] at hown3
  obtain ⟨g3, k3, rfl, _, _⟩ := hown3.form (by omega)
  have HO3 : Hid ((w3.setCell ⟨R, 0, none⟩ (.slice (some ⟨g3, 0, none⟩) (ls.length + 1) k3)).ownsRow B 9 1 (.slice (some ⟨g3, 0, none⟩) (ls.length + 1) k3) (ls ++ [lnNum wd n]).length ((ls ++ [lnNum wd n]).map Sv)) := Lib.hid (by
    rw [List.length_append, List.map_append]
    exact own_grown hW3 hown3 (by decide) (grown_set w3 R 0 _))
  have HW4 := Lib.hid (hW3.set 0 (.slice (some ⟨g3, 0, none⟩) (ls.length + 1) k3))
  have HB4 : Hid (Below B w (w3.setCell ⟨R, 0, none⟩ (.slice (some ⟨g3, 0, none⟩) (ls.length + 1) k3))) := Lib.hid ((((z.below.mono hBw).grown hg (by omega) fun g hg' => (hown2.lt g hg').1)).setCell (p := ⟨R, 0, none⟩) hBR _)
  clear hown2 hown3 hg hW3
  go_wp2
  go_end0
  exact ⟨rfl, ⟨_, hBR, HW4.out, HO3.out⟩, HB4.out⟩
end Go.Proofs.YtfbangojgjcbcaaGreatDoor
namespace Go.Proofs.YtfbangojgjcbcaaGreatDoor
open Go.RowKit Pl

/-- The slice value v holds the texts ls, in a block from lo on, below hi; or there are none. -/
def Ss (lo hi : Nat) (W : World) (v : Value) (ls : List (List UInt8)) : Prop :=
  ∃ (A : Option Addr) (c : Nat), v = .slice A ls.length c ∧ (0 < ls.length → ∃ b off, A = some ⟨b, off, none⟩ ∧ (lo ≤ b ∧ b < hi) ∧ ∀ j l, ls[j]? = some l → W.cell? ⟨b, off + j, none⟩ = some (.string (str l)))
theorem Ss.own {w : World} {base : Nat} {e : TypeId} {v : Value} {ls : List (List UInt8)} {n : Nat} (h : w.ownsRow base e 1 v n (ls.map Sv)) : Ss base w.heap.size w v ls := by
  have hn : n = ls.length := by have := h.1; simp at this; omega
  subst hn
  rcases h.2 with ⟨rfl, h0⟩ | ⟨g, cap, cur, rfl, hg, hh, hnc, _⟩
  · have h0' : ls = [] := by simpa using h0
    subst h0'; exact ⟨none, 0, rfl, fun h => absurd h (by simp)⟩
  · refine ⟨_, cap, rfl, fun hp => ⟨g, 0, rfl, ⟨(h.lt g rfl).1, (h.lt g rfl).2⟩, fun j l hl => ?_⟩⟩
    have := h.cells (g := g) rfl j (Sv l) (by rw [List.getElem?_map, hl]; rfl)
    rw [show ((⟨g, 0, none⟩ : Addr).add j) = ⟨g, 0 + j, none⟩ from by unfold Addr.add; by_cases hj : j = 0 <;> simp [hj]] at this
    exact this
theorem Ss.low {lo lo' hi : Nat} {W : World} {v : Value} {ls : List (List UInt8)} (h : Ss lo hi W v ls) (hl : lo' ≤ lo) : Ss lo' hi W v ls := by
  obtain ⟨A, c, rfl, hA⟩ := h
  refine ⟨A, c, rfl, fun hp => ?_⟩
  obtain ⟨b, off, h1, h2, h3⟩ := hA hp
  exact ⟨b, off, h1, ⟨by omega, h2.2⟩, h3⟩
theorem Ss.here {lo hi hi' : Nat} {w w' : World} {v : Value} {ls : List (List UInt8)} (h : Ss lo hi w v ls) (hh : hi ≤ w.heap.size) (hi2 : hi ≤ hi') (hb : Below w.heap.size w w') : Ss lo hi' w' v ls := by
  obtain ⟨A, c, rfl, hA⟩ := h
  refine ⟨A, c, rfl, fun hp => ?_⟩
  obtain ⟨b, off, h1, h2, h3⟩ := hA hp
  exact ⟨b, off, h1, ⟨h2.1, by omega⟩, fun j l hj => (hb.cell (p := ⟨b, off + j, none⟩) (show b < _ by omega)).trans (h3 j l hj)⟩

/-- What slices.Values answers: its closure over a box that holds the slice. -/
def SeqOf (lo : Nat) (ls : List (List UInt8)) (e : Ending) (w' : World) : Prop :=
  ∃ Bs v, e = .returned (.func (.func 160) #[] #[.pointer (some ⟨Bs, 0, none⟩)]) ∧ (lo ≤ Bs ∧ Bs < w'.heap.size) ∧ w'.cell? ⟨Bs, 0, none⟩ = some v ∧ Ss lo w'.heap.size w' v ls
set_option maxRecDepth 100000 in
theorem values_any (lo : Nat) (v : Value) (ls : List (List UInt8)) (w : World) (h : Ss lo w.heap.size w v ls) (hlo : lo ≤ w.heap.size) :
    Calls Tryz.prog 126 #[v] w fun e w' => SeqOf lo ls e w' ∧ Below w.heap.size w w' := by
  have HS := Lib.hid h
  obtain ⟨A, c, rfl, _⟩ := h
  go_enter Tryz.func126, Tryz.ntmps126
  go_wp2
  go_ret
  refine ⟨⟨_, _, rfl, ⟨hlo, by simp⟩, (Whole.new w 40 #[.slice A ls.length c]).cell 0, ?_⟩, (by repeat (first | exact Below.refl _ _ | apply Below.drew | apply below_drewN | apply bel_alloc | apply Ext.lift | apply bel_set0 | apply bel_set))⟩
  exact HS.out.here (Nat.le_refl _) (by simp) ((Below.refl _ _).alloc (Nat.le_refl _) _)

def linesC (c : Cfg) : List (List UInt8) := if mayC c then linesP c else []

theorem addrText_int (x : Int) (w : World) (hx : IsAddr x) (E : Env w) : Calls Tryz.prog 124 #[.int .u32 x] w fun e w' => e = .returned (.string (str (addrText x.toNat))) ∧ Below w.heap.size w w' := by
  have := addrText_any x.toNat w (by have := hx.1; have := hx.2; omega) E
  rwa [Int.toNat_of_nonneg hx.1] at this
theorem cprefixText_int (x n : Int) (w : World) (hx : IsAddr x) (hm : mayP x n = true) (E : Env w) :
    Calls Tryz.prog 125 #[.agg #[.int .u32 x, .int .i64 n]] w fun e w' => e = .returned (.tuple #[.string (str (prefixText x.toNat n.toNat)), .int .i64 0]) ∧ Below w.heap.size w w' := by
  have hn := mayP_len hm
  have := prefixText_ok x.toNat n.toNat w (by have := hx.1; have := hx.2; omega) (by rw [Int.toNat_of_nonneg hx.1, Int.toNat_of_nonneg hn.1]; exact hm) E
  rwa [Int.toNat_of_nonneg hx.1, Int.toNat_of_nonneg hn.1] at this
end Go.Proofs.YtfbangojgjcbcaaGreatDoor
namespace Go.Proofs.YtfbangojgjcbcaaGreatDoor
open Go.RowKit Pl

theorem LinesIs.push {B R : Nat} {ls : List (List UInt8)} {l : List UInt8} {w z w3 : World} {v v' : Value} (hW : Whole w R 40 #[v]) (hO : w.ownsRow B 9 1 v ls.length (ls.map Sv)) (hz : Below w.heap.size w z)
    (hO3 : w3.ownsRow B 9 1 v' (ls.length + 1) (ls.map Sv ++ [Sv l])) (hg : z.grownBy w3 v.ownBlock) (hBR : B ≤ R) (hBw : B ≤ w.heap.size) :
    ∃ g n k, v' = .slice (some ⟨g, 0, none⟩) n k ∧ w3.cell? ⟨R, 0, none⟩ = some v ∧ w3.frozen? ⟨R, 0, none⟩ = false ∧ LinesIs B R (ls ++ [l]) (w3.setCell ⟨R, 0, none⟩ v') ∧ Below B w (w3.setCell ⟨R, 0, none⟩ v') := by
  obtain ⟨g3, k3, rfl, _, _⟩ := hO3.form (by omega)
  have hno := hW.notRow hO (by decide)
  have hW3 := (hW.here hz).kept hg (Ne.symm hno)
  have hs := hz.size
  refine ⟨g3, _, k3, rfl, hW3.cell 0, hW3.frozen 0, ⟨_, hBR, hW3.set 0 _, ?_⟩, ?_⟩
  · rw [List.length_append, List.map_append]
    exact own_grown hW3 hO3 (by decide) (grown_set w3 R 0 _)
  · exact ((hz.mono hBw).grown hg (by omega) fun g hg' => (hO.lt g hg').1).setCell (p := ⟨R, 0, none⟩) hBR _
set_option maxRecDepth 100000 in
set_option maxHeartbeats 4000000 in
theorem lines_any (v : Value) (c : Cfg) (w : World) (h : CfgIs w v c) (hA : Addrs4 c) (hl : c.own.length ≤ 1000000) (hp : c.ports.length ≤ 1000000) (E : Env w) :
    Calls Tryz.prog 61 #[v] w fun e w' => SeqOf w.heap.size (linesC c) e w' ∧ Below w.heap.size w w' := by
  have HC := Lib.hid h
  obtain ⟨own, ports, rfl, hO, hP⟩ := h.is
  have HO := Lib.hid hO
  have HP := Lib.hid hP
  have HA := Lib.hid hA
  obtain ⟨A1, k1, rfl, -⟩ := hO
  obtain ⟨A2, k2, rfl, -⟩ := hP
  obtain ⟨W0, hW0⟩ : ∃ W0, w.alloc (.cells #[.int .i64 c.node, .int .u32 c.addr, .slice A1 c.own.length k1, .slice A2 c.ports.length k2, .int .i64 c.hello, .int .i64 c.dead, .int .i64 c.again, .int .i64 c.room, .int .i64 c.queue, .int .i64 c.tokens, .int .i64 c.refill] 28) = W0 := ⟨_, rfl⟩
  have HB0 : Hid (Below w.heap.size w W0) := Lib.hid (by rw [← hW0]; exact (Below.refl _ _).alloc (Nat.le_refl _) _)
  have HX : Hid (Whole W0 w.heap.size 28 #[.int .i64 c.node, .int .u32 c.addr, .slice A1 c.own.length k1, .slice A2 c.ports.length k2, .int .i64 c.hello, .int .i64 c.dead, .int .i64 c.again, .int .i64 c.room, .int .i64 c.queue, .int .i64 c.tokens, .int .i64 c.refill]) := Lib.hid (by rw [← hW0]; exact Whole.new _ _ _)
  have hs0 : W0.heap.size = w.heap.size + 1 := by rw [← hW0]; simp
  have HS0 := Lib.hid hs0
  have HW0 := Lib.hid hW0
  obtain ⟨W1, hW1⟩ : ∃ W1, W0.alloc (.cells #[.slice none 0 0] 40) = W1 := ⟨_, rfl⟩
  have HB1 : Hid (Below W0.heap.size W0 W1) := Lib.hid (by rw [← hW1]; exact (Below.refl _ _).alloc (Nat.le_refl _) _)
  have hs1 : W1.heap.size = w.heap.size + 2 := by rw [← hW1]; simp [hs0]
  have HR1 : Hid (LinesIs W0.heap.size (w.heap.size + 1) [] W1) := Lib.hid (by
    rw [← hW1, ← hs0]
    exact ⟨_, Nat.le_refl _, Whole.new _ _ _, World.ownsRow_nil _ _ _ _⟩)
  have HW1 := Lib.hid hW1
  have HS1 := Lib.hid hs1
  have hlt0 : w.heap.size < W0.heap.size := HX.out.lt
  have hlt1 : w.heap.size < W1.heap.size := by omega
  have E0 := Lib.hid (E.here HB0.out)
  have E1 := Lib.hid (E0.out.here HB1.out)
  have HMAY : Hid (Calls Tryz.prog 23 #[.agg #[.int .i64 c.node, .int .u32 c.addr, .slice A1 c.own.length k1, .slice A2 c.ports.length k2, .int .i64 c.hello, .int .i64 c.dead, .int .i64 c.again, .int .i64 c.room, .int .i64 c.queue, .int .i64 c.tokens, .int .i64 c.refill]] W1 fun e w' => e = .returned (.bool (mayC c)) ∧ Below W1.heap.size W1 w') := Lib.hid (may_any' _ c W1 ((HC.out.below HB0.out).below HB1.out) HA.out hl hp)
  have HX1 := Lib.hid (HX.out.here HB1.out)
  unfold cfgV
  clear h hA E hW0 hW1 hs0 hs1
  go_enter Tryz.func61, Tryz.ntmps61
  go_upto_region 1 with fail
  rw [HW0.out]
  go_upto_region 2 with fail
  rw [HW1.out, HS0.out]
  have c0 : W1.cell? ⟨w.heap.size, 0, none⟩ = some (.int .i64 c.node) := HX1.out.cell 0
  have c1 : W1.cell? ⟨w.heap.size, 1, none⟩ = some (.int .u32 c.addr) := HX1.out.cell 1
  have c2 : W1.cell? ⟨w.heap.size, 2, none⟩ = some (.slice A1 c.own.length k1) := HX1.out.cell 2
  have c3 : W1.cell? ⟨w.heap.size, 3, none⟩ = some (.slice A2 c.ports.length k2) := HX1.out.cell 3
  have c4 : W1.cell? ⟨w.heap.size, 4, none⟩ = some (.int .i64 c.hello) := HX1.out.cell 4
  have c5 : W1.cell? ⟨w.heap.size, 5, none⟩ = some (.int .i64 c.dead) := HX1.out.cell 5
  have c6 : W1.cell? ⟨w.heap.size, 6, none⟩ = some (.int .i64 c.again) := HX1.out.cell 6
  have c7 : W1.cell? ⟨w.heap.size, 7, none⟩ = some (.int .i64 c.room) := HX1.out.cell 7
  have c8 : W1.cell? ⟨w.heap.size, 8, none⟩ = some (.int .i64 c.queue) := HX1.out.cell 8
  have c9 : W1.cell? ⟨w.heap.size, 9, none⟩ = some (.int .i64 c.tokens) := HX1.out.cell 9
  have c10 : W1.cell? ⟨w.heap.size, 10, none⟩ = some (.int .i64 c.refill) := HX1.out.cell 10
  go_wp2_with fail
  refine HMAY.out.mono ?_
  rintro e w2 ⟨rfl, hb2⟩
  have HB2 : Hid (Below W0.heap.size W1 w2) := Lib.hid (hb2.mono HB1.out.size)
  have HR2 := Lib.hid (HR1.out.below hb2)
  have hz2 : W1.heap.size ≤ w2.heap.size := hb2.size
  have hs1' : W1.heap.size = w.heap.size + 2 := HS1.out
  have HFIN : Hid (∀ W, Below W0.heap.size W1 W → Below w.heap.size w W) := Lib.hid (fun W hW => (HB0.out.trans ((HB1.out.trans (hW.mono (Nat.le_refl _))).mono HB0.out.size)))
  have hz0 : W0.heap.size ≤ w2.heap.size := by have := HB1.out.size; omega
  have hz1 : w.heap.size + 1 < w2.heap.size := by omega
  have HS1' := Lib.hid hs1'
  clear hb2 HMAY hs1'
  cases hm : mayC c with
  | false =>
    have HM := Lib.hid hm
    obtain ⟨v0, -, hW0, hO0⟩ := HR2.out.is
    have d0 : w2.cell? ⟨w.heap.size + 1, 0, none⟩ = some v0 := hW0.cell 0
    have HSS : Hid (Ss w.heap.size w2.heap.size w2 v0 (linesC c)) := Lib.hid (by
      unfold linesC
      rw [HM.out]
      exact (Ss.own (ls := []) hO0).low (by omega))
    have hle : w.heap.size ≤ w2.heap.size := by omega
    clear hW0 hO0 hm
    go_wp2_with (go_at_call 126; refine (values_any w.heap.size _ (linesC c) _ HSS.out (by assumption)).mono ?_; rintro e w3 ⟨⟨Bs, v3, rfl, h31, h32, h33⟩, hb3⟩)
    have HB3 := Lib.hid hb3
    have H31 := Lib.hid h31
    have H32 := Lib.hid h32
    have H33 := Lib.hid h33
    clear hb3 h31 h32 h33
    go_wp2
    go_ret
    exact ⟨⟨Bs, v3, rfl, H31.out, H32.out, H33.out⟩, (HFIN.out _ HB2.out).trans (HB3.out.mono (by omega))⟩
  | true =>
    have HM := Lib.hid hm
    obtain ⟨m1, m2, m3, -, m5, m6, m7, m8, m9, m10, m11, m12⟩ := mayC_parts hm
    have hol : c.own.length ≤ 8 := ownOk_le m1
    have M1 := Lib.hid m1
    have M3 := Lib.hid m3
    have E2 := E1.out.below (B := W0.heap.size) (Nat.le_trans E0.out.size (Nat.le_refl _)) HB2.out
    have d0 : w2.cell? ⟨w.heap.size, 0, none⟩ = some (.int .i64 c.node) := (HX1.out.below HB2.out hlt0).cell 0
    clear hm m1 m3
    go_wp2_with fail
    refine (lines1_any W0.heap.size (w.heap.size + 1) wNode c.node [] w2 HR2.out (by simp) (by decide) (by omega) (by omega) E2 hz0).mono ?_
    rintro e w3 ⟨rfl, hL, hb⟩
    have HL3 := Lib.hid hL
    have HB3 := Lib.hid (HB2.out.trans hb)
    have hz3 := hb.size
    clear hL hb E2 d0
    have E3 := E1.out.below (B := W0.heap.size) E0.out.size HB3.out
    obtain ⟨v3, hBR, hW3, hO3⟩ := HL3.out.is
    have d1 : w3.cell? ⟨w.heap.size, 1, none⟩ = some (.int .u32 c.addr) := (HX1.out.below HB3.out hlt0).cell 1
    have dR : w3.cell? ⟨w.heap.size + 1, 0, none⟩ = some v3 := hW3.cell 0
    have hno := hW3.notRow hO3 (by decide)
    have HW3 := Lib.hid hW3
    have HO3 := Lib.hid hO3
    have hR3 : w.heap.size + 1 < w3.heap.size := by omega
    have hC3 : w.heap.size < w3.heap.size := by omega
    have n1 : (str (addrText c.addr.toNat)).size ≤ 15 := by rw [str_size]; exact addrText_len _
    have q1 : ¬ 9223372036854775807 < 8 + (str (addrText c.addr.toNat)).size := by omega
    clear hW3 hO3
    go_wp2
    refine wp_region_ext_load (v := v3) 5 (by kernel_rfl) (by kernel_rfl) rfl rfl (.inl ⟨rfl, ?_⟩) (fun _ _ _ h => h) ?_
    · rintro _ ⟨x, rfl⟩
      have cx := (x.cell ⟨w.heap.size + 1, 0, none⟩ hR3).trans dR
      go_simp
    simp only [List.take_succ_cons, List.take_zero, List.drop_succ_cons, List.drop_zero, Act.put, List.setIfInBounds_toArray, List.set_cons_succ, List.set_cons_zero]
    repeat (go_big_quiet_step (first | (go_at_call 124; exact Ext.call (addrText_int _ _ HA.out.1 (Ext.env _ E3)))))
    refine wpQuiet_nil ?_
    rintro _ ⟨z, rfl⟩
    go_wp2
    have hb2 := z.below.size
    refine ⟨⟨⟨_, bel_alloc z.below _⟩, rfl⟩, ?_⟩
    have hown2 := own_below HO3.out z.below
    go_wp2_with (at_builtin; refine wpList_push rfl _ _ 40 rfl W0.heap.size 9 info_str rfl (by decide) Tryz.underlying40 _ _ _ rfl hown2 rfl rfl (by simp) (by omega) ?_)
    intro v' w4 hown3 hg
    rw [show Value.string ({ data := #[97, 100, 100, 114, 101, 115, 115, 32] } ++ str (addrText c.addr.toNat)) = Sv (lnAddr c.addr) from sv_cat [97, 100, 100, 114, 101, 115, 115, 32] _ _ rfl] at hown3
    obtain ⟨g4, n4, k4, rfl, e4, f4, hL4, hb4⟩ := LinesIs.push HW3.out HO3.out z.below hown3 hg hBR (by omega)
    have HL4 : Hid (LinesIs W0.heap.size (w.heap.size + 1) ([lnNum wNode c.node, lnAddr c.addr] ++ (c.own.take 0).map lnOwn) _) := Lib.hid hL4
    have HB4 := Lib.hid (HB3.out.trans hb4)
    have hz4 := hb4.size
    clear hown2 hown3 hg hL4 hb4 hb2
    go_upto_region 6 with fail
    generalize w4.setCell ⟨w.heap.size + 1, 0, none⟩ (.slice (some ⟨g4, 0, none⟩) n4 k4) = w5 at *
    have d2 : w5.cell? ⟨w.heap.size, 2, none⟩ = some (.slice A1 c.own.length k1) := (HX1.out.below HB4.out hlt0).cell 2
    clear e4 f4 c0 c1 c2 c3 c4 c5 c6 c7 c8 c9 c10 d1 dR E3 hno n1 q1
    go_wp2
    go_loopw [28] (fun i wr => ∃ j : Nat, j ≤ c.own.length ∧ i = .int .i64 j ∧ Hid (LinesIs W0.heap.size (w.heap.size + 1) ([lnNum wNode c.node, lnAddr c.addr] ++ (c.own.take j).map lnOwn) wr) ∧ Hid (Below W0.heap.size W1 wr)) (fun i _ => c.own.length - (intOf i).toNat)
    case atStart => exact ⟨0, Nat.zero_le _, rfl, HL4, HB4⟩
    case round =>
      clear HL4 HB4
      obtain ⟨j, hj, rfl, HL4, HB4⟩ := hrel
      have E4 := E1.out.below (B := W0.heap.size) E0.out.size HB4.out
      have hz4 := HB4.out.size
      have hww := Lib.hid (HFIN.out _ HB4.out)
      have hs1' : W1.heap.size = w.heap.size + 2 := HS1.out
      have hs0' : W0.heap.size = w.heap.size + 1 := HS0.out
      have hzr1 : w.heap.size + 1 < wr.heap.size := by omega
      have hzr0 : W0.heap.size ≤ wr.heap.size := by omega
      clear hs1' hs0' hz4
      by_cases hjl : j < c.own.length
      · obtain ⟨⟨a, n⟩, hu⟩ : ∃ u, c.own[j]? = some u := ⟨_, List.getElem?_eq_getElem hjl⟩
        obtain ⟨b1, o1, rfl, hb1, p0, p1⟩ := (HO.out.below hww.out).at hu
        simp only at p0 p1
        have ha : IsAddr a := HA.out.2 _ (mem_at hu)
        have hmp := ownOk_may_all M1.out (mem_at hu)
        simp only at hmp
        have hsz := prefixText_size ha (mayP_len hmp)
        have HU := Lib.hid hu
        have HMP := Lib.hid hmp
        obtain ⟨ls, hls⟩ : ∃ ls, [lnNum wNode c.node, lnAddr c.addr] ++ (c.own.take j).map lnOwn = ls := ⟨_, rfl⟩
        rw [hls] at HL4
        have hll : ls.length ≤ 10 := by rw [← hls]; simp; omega
        have HLS := Lib.hid hls
        obtain ⟨v4, hBR4, hW4, hO4⟩ := HL4.out.is
        have HW4 := Lib.hid hW4
        have HO4 := Lib.hid hO4
        clear hu hmp hW4 hO4 hls
        go_wp2_with fail
        refine (cprefixText_int a n _ ha HMP.out (E4.alloc _)).mono ?_
        rintro e w5 ⟨rfl, hb5⟩
        have hz : Below wr.heap.size wr w5 := ((Below.refl _ wr).alloc (Nat.le_refl _) _).trans (hb5.mono (by simp))
        have hown2 := own_below HO4.out hz
        have d3 : w5.cell? ⟨w.heap.size + 1, 0, none⟩ = some v4 := (HW4.out.here hz).cell 0
        have hzs := hz.size
        have HZ := Lib.hid hz
        clear hz hb5
        go_wp2_with (at_builtin; refine wpList_push rfl _ _ 40 rfl W0.heap.size 9 info_str rfl (by decide) Tryz.underlying40 _ _ _ rfl hown2 rfl rfl (by omega) (by omega) ?_)
        intro v' w6 hown3 hg
        rw [show Value.string ({ data := #[111, 119, 110, 32] } ++ str (prefixText a.toNat n.toNat)) = Sv (lnOwn (a, n)) from sv_cat [111, 119, 110, 32] _ _ rfl] at hown3
        obtain ⟨g4, n4, k4, rfl, e4, f4, hL5, hb6⟩ := LinesIs.push HW4.out HO4.out HZ.out hown3 hg hBR4 hzr0
        have HL5 : Hid (LinesIs W0.heap.size (w.heap.size + 1) ([lnNum wNode c.node, lnAddr c.addr] ++ (c.own.take (j + 1)).map lnOwn) _) := Lib.hid (by
          rw [List.take_add_one, HU.out]
          rw [← HLS.out] at hL5
          simpa using hL5)
        have HB5 := Lib.hid (HB4.out.trans hb6)
        clear hown2 hown3 hg hL5 hb6 d3
        go_upto_region 11 with fail
        generalize w6.setCell ⟨w.heap.size + 1, 0, none⟩ (.slice (some ⟨g4, 0, none⟩) n4 k4) = w7 at *
        go_wp2
        go_roundw
        case rel => exact ⟨j + 1, by omega, by go_num, HL5, HB5⟩
        case measure => simp [intOf]; omega
      · obtain rfl : j = c.own.length := by omega
        have d2 : wr.cell? ⟨w.heap.size, 3, none⟩ = some (.slice A2 c.ports.length k2) := (HX1.out.below HB4.out hlt0).cell 3
        go_wp2
        go_loopw [46] (fun i wx => ∃ j : Nat, j ≤ c.ports.length ∧ i = .int .i64 j ∧ Hid (LinesIs W0.heap.size (w.heap.size + 1) ([lnNum wNode c.node, lnAddr c.addr] ++ c.own.map lnOwn ++ (c.ports.take j).map lnPort) wx) ∧ Hid (Below W0.heap.size W1 wx)) (fun i _ => c.ports.length - (intOf i).toNat)
        case atStart => exact ⟨0, Nat.zero_le _, rfl, Lib.hid (by have := HL4.out; rw [List.take_length] at this; simpa using this), HB4⟩
        case round =>
          clear HL4 HB4 E4 hww hzr1 hzr0 d2 hj hjl
          obtain ⟨j, hj, rfl, HL4, HB4⟩ := hrel
          have E4 := E1.out.below (B := W0.heap.size) E0.out.size HB4.out
          have hz4 := HB4.out.size
          have hww := Lib.hid (HFIN.out _ HB4.out)
          have hs1' : W1.heap.size = w.heap.size + 2 := HS1.out
          have hs0' : W0.heap.size = w.heap.size + 1 := HS0.out
          have hzr1 : w.heap.size + 1 < wr.heap.size := by omega
          have hzr0 : W0.heap.size ≤ wr.heap.size := by omega
          clear hs1' hs0' hz4
          by_cases hjl : j < c.ports.length
          · obtain ⟨⟨a, n⟩, hu⟩ : ∃ u, c.ports[j]? = some u := ⟨_, List.getElem?_eq_getElem hjl⟩
            obtain ⟨b1, o1, rfl, hb1, p0, p1⟩ := (HP.out.below hww.out).at hu
            simp only at p0 p1
            have hok := List.all_eq_true.1 M3.out _ (mem_at hu)
            unfold portOk at hok
            simp only [Bool.and_eq_true, inI_iff] at hok
            obtain ⟨⟨ha0, ha1⟩, hn0, hn1⟩ := hok
            have s1 := itoa_size9 (n := a) (by omega) (by omega)
            have HU := Lib.hid hu
            obtain ⟨ls, hls⟩ : ∃ ls, [lnNum wNode c.node, lnAddr c.addr] ++ c.own.map lnOwn ++ (c.ports.take j).map lnPort = ls := ⟨_, rfl⟩
            rw [hls] at HL4
            have hll : ls.length ≤ 20 := by rw [← hls]; simp; omega
            have HLS := Lib.hid hls
            clear hu hls
            have q1 : ¬ 9223372036854775807 < 5 + (str (Lib.itoa a)).size := by omega
            go_upto_region 15 with fail
            obtain ⟨w5, hw5⟩ : ∃ w5, wr.alloc (.cells #[.int .i64 a, .int .i64 n] 101) = w5 := ⟨_, rfl⟩
            have hz : Below wr.heap.size wr w5 := by rw [← hw5]; exact (Below.refl _ wr).alloc (Nat.le_refl _) _
            have hW5 : Whole w5 wr.heap.size 101 #[.int .i64 a, .int .i64 n] := by rw [← hw5]; exact Whole.new _ _ _
            have e0 : w5.cell? ⟨wr.heap.size, 0, none⟩ = some (.int .i64 a) := hW5.cell 0
            have e1 : w5.cell? ⟨wr.heap.size, 1, none⟩ = some (.int .i64 n) := hW5.cell 1
            have hlt5 := hW5.lt
            have HL5 := Lib.hid (HL4.out.below hz)
            have HB5 := Lib.hid (HB4.out.trans (hz.mono hzr0))
            have E5 := E4.here hz
            have hz5 := hz.size
            rw [hw5]
            clear hw5 hz hW5
            refine wp_region_ext_tail 7 (by kernel_rfl) (by kernel_rfl) ?_
            simp only [List.take_succ_cons, List.take_zero, List.drop_succ_cons, List.drop_zero]
            repeat (go_big_quiet_step (first | (go_at_call 58; exact Ext.call (itoa_any _ _ (by omega) (by omega) (Ext.env _ E5)))))
            refine wpQuiet_nil ?_
            rintro _ ⟨z, rfl⟩
            have hzz := z.below.size
            have ep : Value.string ({ data := #[112, 111, 114, 116, 32] } ++ str (Lib.itoa a)) = .string (str (wPort ++ 32 :: Lib.itoa a)) := sv_cat [112, 111, 114, 116, 32] _ _ (by simp [wPort])
            rw [ep]
            have hpl : (wPort ++ 32 :: Lib.itoa a).length ≤ 1000 := by rw [str_size] at s1; simp [wPort]; omega
            go_wp2_with fail
            refine (lines1_any W0.heap.size (w.heap.size + 1) (wPort ++ 32 :: Lib.itoa a) n ls z.w (HL5.out.below z.below) (by omega) hpl (by omega) (by omega) (Ext.env z E5) (by omega)).mono ?_
            rintro e w6 ⟨rfl, hL, hb⟩
            have HL6 : Hid (LinesIs W0.heap.size (w.heap.size + 1) ([lnNum wNode c.node, lnAddr c.addr] ++ c.own.map lnOwn ++ (c.ports.take (j + 1)).map lnPort) w6) := Lib.hid (by
              rw [List.take_add_one, HU.out]
              rw [← HLS.out] at hL
              have el : lnNum (wPort ++ 32 :: Lib.itoa a) n = lnPort (a, n) := by unfold lnNum lnPort; simp
              rw [el] at hL
              simpa using hL)
            have HB6 := Lib.hid (HB5.out.trans ((z.below.mono (by omega)).trans hb))
            clear hL hb
            go_wp2
            go_roundw
            case rel => exact ⟨j + 1, by omega, by go_num, HL6, HB6⟩
            case measure => simp [intOf]; omega
          · obtain rfl : j = c.ports.length := by omega
            have HL7 : Hid (LinesIs W0.heap.size (w.heap.size + 1) (heads c) wr) := Lib.hid (by have := HL4.out; rw [List.take_length] at this; exact this)
            have hhl : (heads c).length ≤ 18 := by unfold heads; simp; omega
            generalize hls7 : heads c = ls7 at HL7 hhl
            have HLS7 := Lib.hid hls7
            clear hls7 HL4
            have HB7 := HB4
            have d7 : wr.cell? ⟨w.heap.size, 4, none⟩ = some (.int .i64 c.hello) := (HX1.out.below HB7.out hlt0).cell 4
            go_wp2_with fail
            refine (lines1_any W0.heap.size (w.heap.size + 1) wHello c.hello ls7 wr HL7.out (by first | omega | (simp; omega)) (by decide) (by omega) (by omega) (E1.out.below (B := W0.heap.size) E0.out.size HB7.out) (by omega)).mono ?_
            rintro e w8 ⟨rfl, hL, hb⟩
            have HL8 := Lib.hid hL
            have HB8 := Lib.hid (HB7.out.trans hb)
            have hz8 := hb.size
            clear hL hb d7
            have d8 : w8.cell? ⟨w.heap.size, 5, none⟩ = some (.int .i64 c.dead) := (HX1.out.below HB8.out hlt0).cell 5
            go_wp2_with fail
            refine (lines1_any W0.heap.size (w.heap.size + 1) wDead c.dead (ls7 ++ [lnNum wHello c.hello]) w8 HL8.out (by first | omega | (simp; omega)) (by decide) (by omega) (by omega) (E1.out.below (B := W0.heap.size) E0.out.size HB8.out) (by omega)).mono ?_
            rintro e w9 ⟨rfl, hL, hb⟩
            have HL9 := Lib.hid hL
            have HB9 := Lib.hid (HB8.out.trans hb)
            have hz9 := hb.size
            clear hL hb d8
            have d9 : w9.cell? ⟨w.heap.size, 6, none⟩ = some (.int .i64 c.again) := (HX1.out.below HB9.out hlt0).cell 6
            go_wp2_with fail
            refine (lines1_any W0.heap.size (w.heap.size + 1) wAgain c.again (ls7 ++ [lnNum wHello c.hello] ++ [lnNum wDead c.dead]) w9 HL9.out (by first | omega | (simp; omega)) (by decide) (by omega) (by omega) (E1.out.below (B := W0.heap.size) E0.out.size HB9.out) (by omega)).mono ?_
            rintro e w10 ⟨rfl, hL, hb⟩
            have HL10 := Lib.hid hL
            have HB10 := Lib.hid (HB9.out.trans hb)
            have hz10 := hb.size
            clear hL hb d9
            have d10 : w10.cell? ⟨w.heap.size, 7, none⟩ = some (.int .i64 c.room) := (HX1.out.below HB10.out hlt0).cell 7
            go_wp2_with fail
            refine (lines1_any W0.heap.size (w.heap.size + 1) wRoom c.room (ls7 ++ [lnNum wHello c.hello] ++ [lnNum wDead c.dead] ++ [lnNum wAgain c.again]) w10 HL10.out (by first | omega | (simp; omega)) (by decide) (by omega) (by omega) (E1.out.below (B := W0.heap.size) E0.out.size HB10.out) (by omega)).mono ?_
            rintro e w11 ⟨rfl, hL, hb⟩
            have HL11 := Lib.hid hL
            have HB11 := Lib.hid (HB10.out.trans hb)
            have hz11 := hb.size
            clear hL hb d10
            have d11 : w11.cell? ⟨w.heap.size, 8, none⟩ = some (.int .i64 c.queue) := (HX1.out.below HB11.out hlt0).cell 8
            go_wp2_with fail
            refine (lines1_any W0.heap.size (w.heap.size + 1) wQueue c.queue (ls7 ++ [lnNum wHello c.hello] ++ [lnNum wDead c.dead] ++ [lnNum wAgain c.again] ++ [lnNum wRoom c.room]) w11 HL11.out (by first | omega | (simp; omega)) (by decide) (by omega) (by omega) (E1.out.below (B := W0.heap.size) E0.out.size HB11.out) (by omega)).mono ?_
            rintro e w12 ⟨rfl, hL, hb⟩
            have HL12 := Lib.hid hL
            have HB12 := Lib.hid (HB11.out.trans hb)
            have hz12 := hb.size
            clear hL hb d11
            have d12 : w12.cell? ⟨w.heap.size, 9, none⟩ = some (.int .i64 c.tokens) := (HX1.out.below HB12.out hlt0).cell 9
            go_wp2_with fail
            refine (lines1_any W0.heap.size (w.heap.size + 1) wTokens c.tokens (ls7 ++ [lnNum wHello c.hello] ++ [lnNum wDead c.dead] ++ [lnNum wAgain c.again] ++ [lnNum wRoom c.room] ++ [lnNum wQueue c.queue]) w12 HL12.out (by first | omega | (simp; omega)) (by decide) (by omega) (by omega) (E1.out.below (B := W0.heap.size) E0.out.size HB12.out) (by omega)).mono ?_
            rintro e w13 ⟨rfl, hL, hb⟩
            have HL13 := Lib.hid hL
            have HB13 := Lib.hid (HB12.out.trans hb)
            have hz13 := hb.size
            clear hL hb d12
            have d13 : w13.cell? ⟨w.heap.size, 10, none⟩ = some (.int .i64 c.refill) := (HX1.out.below HB13.out hlt0).cell 10
            go_wp2_with fail
            refine (lines1_any W0.heap.size (w.heap.size + 1) wRefill c.refill (ls7 ++ [lnNum wHello c.hello] ++ [lnNum wDead c.dead] ++ [lnNum wAgain c.again] ++ [lnNum wRoom c.room] ++ [lnNum wQueue c.queue] ++ [lnNum wTokens c.tokens]) w13 HL13.out (by first | omega | (simp; omega)) (by decide) (by omega) (by omega) (E1.out.below (B := W0.heap.size) E0.out.size HB13.out) (by omega)).mono ?_
            rintro e w14 ⟨rfl, hL, hb⟩
            have HL14 := Lib.hid hL
            have HB14 := Lib.hid (HB13.out.trans hb)
            have hz14 := hb.size
            clear hL hb d13
            obtain ⟨v9, -, hW9, hO9⟩ := HL14.out.is
            have d9 : w14.cell? ⟨w.heap.size + 1, 0, none⟩ = some v9 := hW9.cell 0
            have HSS : Hid (Ss w.heap.size w14.heap.size w14 v9 (linesC c)) := Lib.hid (by
              have e : linesC c = ls7 ++ [lnNum wHello c.hello] ++ [lnNum wDead c.dead] ++ [lnNum wAgain c.again] ++ [lnNum wRoom c.room] ++ [lnNum wQueue c.queue] ++ [lnNum wTokens c.tokens] ++ [lnNum wRefill c.refill] := by
                unfold linesC
                rw [HM.out, if_pos rfl]
                unfold linesP tails
                rw [HLS7.out]
                simp
              have hs0' : W0.heap.size = w.heap.size + 1 := HS0.out
              rw [e]
              exact (Ss.own hO9).low (by omega))
            have hle : w.heap.size ≤ w14.heap.size := by omega
            clear hW9 hO9
            go_wp2_with (go_at_call 126; refine (values_any w.heap.size _ (linesC c) _ HSS.out (by assumption)).mono ?_; rintro e w15 ⟨⟨Bs, v15, rfl, h31, h32, h33⟩, hb15⟩)
            have HB15 := Lib.hid hb15
            have H31 := Lib.hid h31
            have H32 := Lib.hid h32
            have H33 := Lib.hid h33
            clear hb15 h31 h32 h33
            go_wp2
            go_ret
            exact ⟨⟨Bs, v15, rfl, H31.out, H32.out, H33.out⟩, (HFIN.out _ HB14.out).trans (HB15.out.mono (by omega))⟩
end Go.Proofs.YtfbangojgjcbcaaGreatDoor
