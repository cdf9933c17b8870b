/- Contract of ref19.Lines, of one that may be. -/
import Derived.Test.YtfbangojgjcbcaaGreatDoorConfR
import Derived.Test.YtfbangojgjcbcaaGreatDoorPlainJ
import Derived.Test.YtfbangojgjcbcaaGreatDoorLoadF
namespace Go.Proofs.YtfbangojgjcbcaaGreatDoor.Pl
def wsL : List (List UInt8) := [wHello, wDead, wAgain, wRoom, wQueue, wTokens, wRefill]
def numsL (c : Cfg) : List Int := [c.hello, c.dead, c.again, c.room, c.queue, c.tokens, c.refill]
theorem tails_at (c : Cfg) {j : Nat} (hj : j < 7) : ∃ w n, wsL[j]? = some w ∧ (numsL c)[j]? = some n ∧ (tails c)[j]? = some (lnNum w n) ∧ w.length ≤ 6 :=
  match j, hj with
  | 0, _ => ⟨_, _, rfl, rfl, rfl, by decide⟩
  | 1, _ => ⟨_, _, rfl, rfl, rfl, by decide⟩
  | 2, _ => ⟨_, _, rfl, rfl, rfl, by decide⟩
  | 3, _ => ⟨_, _, rfl, rfl, rfl, by decide⟩
  | 4, _ => ⟨_, _, rfl, rfl, rfl, by decide⟩
  | 5, _ => ⟨_, _, rfl, rfl, rfl, by decide⟩
  | 6, _ => ⟨_, _, rfl, rfl, rfl, by decide⟩
theorem nums_bd {c : Cfg} (h : mayC c = true) {j : Nat} {n : Int} (hn : (numsL c)[j]? = some n) : 0 ≤ n ∧ n ≤ 100 := by
  obtain ⟨_, _, _, _, _, h5, h6, h7, h8, h9, h10, h11⟩ := mayC_parts h
  have hm := List.mem_of_getElem? hn
  simp only [numsL, List.mem_cons, List.not_mem_nil, or_false] at hm
  rcases hm with rfl | rfl | rfl | rfl | rfl | rfl | rfl <;> omega
theorem tails_len (c : Cfg) : (tails c).length = 7 := rfl
theorem ownOk_may_all {l : List Pr} (h : ownOk l = true) {p : Pr} (hp : p ∈ l) : mayP p.1 p.2 = true := by
  unfold ownOk at h
  simp only [Bool.and_eq_true, List.all_eq_true] at h
  exact h.1.2 p hp
end Go.Proofs.YtfbangojgjcbcaaGreatDoor.Pl
namespace Go.Proofs.YtfbangojgjcbcaaGreatDoor
open Go.RowKit Pl

def Sv (l : List UInt8) : Value := .string (str l)
theorem itoa_size9 {n : Int} (h0 : 0 ≤ n) (h1 : n < 1000000000) : (str (Lib.itoa n)).size ≤ 9 := by rw [str_size]; exact itoa_len h0 h1
theorem raddrText_int (x : Int) (w : World) (hx : IsAddr x) (E : Env w) :
    Calls Tryz.prog 59 #[.int .u32 x] w fun e w' => e = .returned (.string (str (addrText x.toNat))) ∧ Below w.heap.size w w' := by
  obtain ⟨a, rfl⟩ := Int.eq_ofNat_of_zero_le hx.1
  exact raddrText a w (by have := hx.2; omega) E
theorem rprefixText_int (x n : Int) (w : World) (hx : IsAddr x) (hn : 0 ≤ n ∧ n ≤ 32) (E : Env w) :
    Calls Tryz.prog 60 #[.agg #[.int .u32 x, .int .i64 n]] w fun e w' => e = .returned (.string (str (prefixText x.toNat n.toNat))) ∧ Below w.heap.size w w' := by
  obtain ⟨a, rfl⟩ := Int.eq_ofNat_of_zero_le hx.1
  obtain ⟨k, rfl⟩ := Int.eq_ofNat_of_zero_le hn.1
  exact rprefixText a k w (by have := hx.2; omega) (by have := hn.2; omega) E
theorem prefixText_size {x n : Int} (_hx : IsAddr x) (hn : 0 ≤ n ∧ n ≤ 32) : (str (prefixText x.toNat n.toNat)).size ≤ 30 := by
  have h1 := addrText_len x.toNat
  have h2 := itoa_len hn.1 (by omega : n < 1000000000)
  have h3 : (Go.Lib.decDigits n.toNat).length ≤ 9 := by
    rw [show n = ((n.toNat : Nat) : Int) by omega, itoa_nat] at h2; exact h2
  rw [str_size]
  unfold prefixText
  simp only [List.length_append, List.length_cons]
  omega
theorem sv_cat (l m r : List UInt8) (h : l ++ m = r) : Value.string (str l ++ str m) = Sv r := by unfold Sv; rw [← h, str_append]
theorem whole_ne {w : World} {g base n : Nat} {t e : TypeId} {cs : Array Value} {v : Value} {xs : List Value} (h : Whole w g t cs) (hown : w.ownsRow base e 1 v n xs) (hn : 0 < n) (hne : xs[0]? ≠ cs[0]?) : some g ≠ v.ownBlock := by
  intro he
  rcases hown.form hn with ⟨g', cap, rfl, _⟩
  simp only [Value.ownBlock, Option.some.injEq] at he
  subst he
  exact hne ((hown.cellAt 0 (by omega)).symm.trans (h.cell 0))

def wordsA : Array Value := (wsL.map fun w => Sv (w ++ [32])).toArray
def numsA (c : Cfg) : Array Value := ((numsL c).map fun n => Value.int .i64 n).toArray

set_option maxRecDepth 100000 in
set_option maxHeartbeats 4000000 in
theorem rlines19 (v : Value) (c : Cfg) (w : World) (h : CfgIs w v c) (hA : Addrs4 c) (hm : mayC c = true) (E : Env w) :
    Calls Tryz.prog 21 #[v] w fun e w' => ∃ v, e = .returned v ∧ w'.ownsRow (w.heap.size + 1) 9 1 v (linesP c).length ((linesP c).map Sv) ∧ Below w.heap.size w w' := by
  obtain ⟨own, ports, rfl, hO, hP⟩ := h.is
  have HO := Lib.hid hO
  have HP := Lib.hid hP
  have HA := Lib.hid hA
  have HM := Lib.hid hm
  obtain ⟨A1, k1, rfl, -⟩ := hO
  obtain ⟨A2, k2, rfl, -⟩ := hP
  obtain ⟨W1, hW1⟩ : ∃ W1, w.alloc (.cells #[.int .i64 c.node, .int .u32 c.addr, .slice A1 c.own.length k1, .slice A2 c.ports.length k2, .int .i64 c.hello, .int .i64 c.dead, .int .i64 c.again, .int .i64 c.room, .int .i64 c.queue, .int .i64 c.tokens, .int .i64 c.refill] 28) = W1 := ⟨_, rfl⟩
  have HB1 : Hid (Below w.heap.size w W1) := Lib.hid (by rw [← hW1]; exact (Below.refl _ _).alloc (Nat.le_refl _) _)
  have HX : Hid (Whole W1 w.heap.size 28 #[.int .i64 c.node, .int .u32 c.addr, .slice A1 c.own.length k1, .slice A2 c.ports.length k2, .int .i64 c.hello, .int .i64 c.dead, .int .i64 c.again, .int .i64 c.room, .int .i64 c.queue, .int .i64 c.tokens, .int .i64 c.refill]) := Lib.hid (by rw [← hW1]; exact Whole.new _ _ _)
  have hlt : w.heap.size < W1.heap.size := HX.out.lt
  have hs1 : W1.heap.size = w.heap.size + 1 := by rw [← hW1]; simp
  have E1 := Lib.hid (E.here HB1.out)
  have HW := Lib.hid hW1
  have c0 : W1.cell? ⟨w.heap.size, 0, none⟩ = some (.int .i64 c.node) := HX.out.cell 0
  have c1 : W1.cell? ⟨w.heap.size, 1, none⟩ = some (.int .u32 c.addr) := HX.out.cell 1
  obtain ⟨m1, m2, m3, -, m5, -, -, -, -, -, -, -⟩ := mayC_parts hm
  have hol : c.own.length ≤ 8 := ownOk_le m1
  have n0 := itoa_size9 (n := c.node) (by omega) (by omega)
  have n1 : (str (addrText c.addr.toNat)).size ≤ 15 := by rw [str_size]; exact addrText_len _
  have M1 := Lib.hid m1
  have M3 := Lib.hid m3
  clear hW1 h hA hm E m1 m3
  unfold cfgV
  go_enter Tryz.func21, Tryz.ntmps21
  go_upto_region 1 with fail
  rw [HW.out]
  refine wp_region_ext_tail 8 (by kernel_rfl) (by kernel_rfl) ?_
  simp only [List.take_succ_cons, List.take_zero, List.drop_succ_cons, List.drop_zero]
  repeat (go_big_quiet_step (first | (go_at_call 58; exact Ext.call (itoa_any _ _ (by omega) (by omega) (Ext.env _ E1.out))) | (go_at_call 59; exact Ext.call (raddrText_int _ _ HA.out.1 (Ext.env _ E1.out)))))
  refine wpQuiet_nil ?_
  rintro _ ⟨y, rfl⟩
  go_wp2
  have H0 : ∀ Y : Ext W1, (Y.w.alloc (.cells #[.string ({ data := #[110, 111, 100, 101, 32] } ++ str (Lib.itoa c.node)), .string ({ data := #[97, 100, 100, 114, 101, 115, 115, 32] } ++ str (addrText c.addr.toNat))] 9)).ownsRow W1.heap.size 9 1 (.slice (some ⟨Y.w.heap.size, 0, none⟩) 2 2) (2 + 0) (([lnNum wNode c.node, lnAddr c.addr] ++ (c.own.take 0).map lnOwn).map Sv) := fun Y => by
    have := World.ownsRow_lit (base := W1.heap.size) (e := 9) (size := 1) Y.w #[.string (str [110, 111, 100, 101, 32] ++ str (Lib.itoa c.node)), .string (str [97, 100, 100, 114, 101, 115, 115, 32] ++ str (addrText c.addr.toNat))] 2 Y.below.size (by decide) rfl
    rw [sv_cat [110, 111, 100, 101, 32] (Lib.itoa c.node) (lnNum wNode c.node) rfl, sv_cat [97, 100, 100, 114, 101, 115, 115, 32] (addrText c.addr.toNat) (lnAddr c.addr) rfl] at this
    rw [show Value.string ({ data := #[110, 111, 100, 101, 32] } ++ str (Lib.itoa c.node)) = Sv (lnNum wNode c.node) from sv_cat [110, 111, 100, 101, 32] _ _ rfl, show Value.string ({ data := #[97, 100, 100, 114, 101, 115, 115, 32] } ++ str (addrText c.addr.toNat)) = Sv (lnAddr c.addr) from sv_cat [97, 100, 100, 114, 101, 115, 115, 32] _ _ rfl]
    exact this
  go_loopw [3, 4] (fun s i wr => ∃ j : Nat, j ≤ c.own.length ∧ i = .int .i64 j ∧ Hid (wr.ownsRow W1.heap.size 9 1 s (2 + j) (([lnNum wNode c.node, lnAddr c.addr] ++ (c.own.take j).map lnOwn).map Sv)) ∧ Hid (Below W1.heap.size W1 wr)) (fun _ i _ => c.own.length - (intOf i).toNat)
  case atStart => exact ⟨0, Nat.zero_le _, rfl, Lib.hid (H0 y), Lib.hid (y.below.alloc y.below.size _)⟩
  case round =>
    obtain ⟨j, hj, rfl, HS, HB⟩ := hrel
    have x2 : wr.cell? ⟨w.heap.size, 2, none⟩ = some (.slice A1 c.own.length k1) := (HX.out.here HB.out).cell 2
    by_cases hjl : j < c.own.length
    · obtain ⟨⟨a, n⟩, hu⟩ : ∃ u, c.own[j]? = some u := ⟨_, List.getElem?_eq_getElem hjl⟩
      obtain ⟨b1, o1, rfl, hb1, p0, p1⟩ := ((HO.out.below HB1.out).below HB.out).at hu
      simp only at p0 p1
      have ha : IsAddr a := HA.out.2 _ (mem_at hu)
      have hn := mayP_len (ownOk_may_all M1.out (mem_at hu))
      simp only at hn
      have hsz := prefixText_size ha hn
      have HU := Lib.hid hu
      clear hu
      go_wp2_with (first
        | (go_at_call 60; refine (rprefixText_int a n _ ha hn (E1.out.here HB.out)).mono ?_; rintro e w2 ⟨rfl, hb2⟩; have hown2 := own_below HS.out hb2; have hb3 := HB.out.trans (hb2.mono HB.out.size); have hbs := hb3.size; clear hb2)
        | (at_builtin; refine wpList_push rfl _ _ 40 rfl W1.heap.size 9 info_str rfl (by decide) Tryz.underlying40 _ _ _ rfl hown2 rfl rfl (by omega) hbs ?_; intro v' w3 hown3 hg))
      have hb4 := Lib.hid (hb3.grown hg hbs (fun g hg' => (hown2.lt g hg').1))
      have hown4 : Hid (w3.ownsRow W1.heap.size 9 1 v' (2 + (j + 1)) (([lnNum wNode c.node, lnAddr c.addr] ++ (c.own.take (j + 1)).map lnOwn).map Sv)) := Lib.hid (by
        rw [List.take_add_one, HU.out]
        have e : Value.string ({ data := #[111, 119, 110, 32] } ++ str (prefixText a.toNat n.toNat)) = Sv (lnOwn (a, n)) := sv_cat [111, 119, 110, 32] _ _ rfl
        rw [e] at hown3
        show w3.ownsRow W1.heap.size 9 1 v' (2 + j + 1) _
        simpa using hown3)
      clear hown2 hown3 hg hb3 hbs
      go_wp2
      go_roundw
      case rel => exact ⟨j + 1, by omega, by go_num, hown4, hb4⟩
      case measure => simp [intOf]; omega
    · obtain rfl : j = c.own.length := by omega
      go_wp2
      go_loopw [3, 5] (fun s i wr => ∃ j : Nat, j ≤ c.ports.length ∧ i = .int .i64 j ∧ Hid (wr.ownsRow W1.heap.size 9 1 s (2 + c.own.length + j) (([lnNum wNode c.node, lnAddr c.addr] ++ c.own.map lnOwn ++ (c.ports.take j).map lnPort).map Sv)) ∧ Hid (Below W1.heap.size W1 wr)) (fun _ i _ => c.ports.length - (intOf i).toNat)
      case atStart => exact ⟨0, Nat.zero_le _, rfl, Lib.hid (by have := HS.out; rw [List.take_length] at this; simpa using this), HB⟩
      case round =>
        clear HS HB x2 hjl hj
        obtain ⟨j, hj, rfl, HS, HB⟩ := hrel
        have x3 : wr.cell? ⟨w.heap.size, 3, none⟩ = some (.slice A2 c.ports.length k2) := (HX.out.here HB.out).cell 3
        have hlt2 : w.heap.size < wr.heap.size := Nat.lt_of_lt_of_le hlt HB.out.size
        by_cases hjl : j < c.ports.length
        · obtain ⟨⟨a, n⟩, hu⟩ : ∃ u, c.ports[j]? = some u := ⟨_, List.getElem?_eq_getElem hjl⟩
          obtain ⟨b1, o1, rfl, hb1, p0, p1⟩ := ((HP.out.below HB1.out).below HB.out).at hu
          simp only at p0 p1
          have hok := List.all_eq_true.1 M3.out _ (mem_at hu)
          unfold portOk at hok
          simp only [Bool.and_eq_true, inI_iff] at hok
          obtain ⟨⟨ha0, ha1⟩, hn0, hn1⟩ := hok
          have s1 := itoa_size9 (n := a) (by omega) (by omega)
          have s2 := itoa_size9 (n := n) (by omega) (by omega)
          have HU := Lib.hid hu
          have E2 := E1.out.here HB.out
          clear hu
          go_wp2
          refine wp_region_ext_float 18 (by kernel_rfl) (by kernel_rfl) rfl (.inl ⟨rfl, fun _ => rfl⟩) (fun _ _ _ h => h) ?_
          simp only [List.take_succ_cons, List.take_zero, List.drop_succ_cons, List.drop_zero]
          repeat (go_big_quiet_step (first | (go_at_call 58; exact Ext.call (itoa_any _ _ (by omega) (by omega) (Ext.env _ E2)))))
          refine wpQuiet_nil ?_
          rintro _ ⟨z, rfl⟩
          have hown2 := own_below HS.out z.below
          have hb3 := HB.out.trans (z.below.mono HB.out.size)
          have hbs := hb3.size
          go_wp2_with (at_builtin; refine wpList_push rfl _ _ 40 rfl W1.heap.size 9 info_str rfl (by decide) Tryz.underlying40 _ _ _ rfl hown2 rfl rfl (by omega) hbs ?_; intro v' w3 hown3 hg)
          have hb4 := Lib.hid (hb3.grown hg hbs (fun g hg' => (hown2.lt g hg').1))
          have hown4 : Hid (w3.ownsRow W1.heap.size 9 1 v' (2 + c.own.length + (j + 1)) (([lnNum wNode c.node, lnAddr c.addr] ++ c.own.map lnOwn ++ (c.ports.take (j + 1)).map lnPort).map Sv)) := Lib.hid (by
            rw [List.take_add_one, HU.out]
            have e : Value.string ({ data := #[112, 111, 114, 116, 32] } ++ str (Lib.itoa a) ++ { data := #[32] } ++ str (Lib.itoa n)) = Sv (lnPort (a, n)) := by
              show Value.string (str [112, 111, 114, 116, 32] ++ str (Lib.itoa a) ++ str [32] ++ str (Lib.itoa n)) = _
              unfold Sv lnPort wPort
              simp only [str_append]
              congr 2
              simp
            rw [e] at hown3
            show w3.ownsRow W1.heap.size 9 1 v' (2 + c.own.length + j + 1) _
            simpa using hown3)
          clear hown2 hown3 hg hb3 hbs
          go_wp2
          go_roundw
          case rel => exact ⟨j + 1, by omega, by go_num, hown4, hb4⟩
          case measure => simp [intOf]; omega
        · obtain rfl : j = c.ports.length := by omega
          have x4 : wr.cell? ⟨w.heap.size, 4, none⟩ = some (.int .i64 c.hello) := (HX.out.here HB.out).cell 4
          have x5 : wr.cell? ⟨w.heap.size, 5, none⟩ = some (.int .i64 c.dead) := (HX.out.here HB.out).cell 5
          have x6 : wr.cell? ⟨w.heap.size, 6, none⟩ = some (.int .i64 c.again) := (HX.out.here HB.out).cell 6
          have x7 : wr.cell? ⟨w.heap.size, 7, none⟩ = some (.int .i64 c.room) := (HX.out.here HB.out).cell 7
          have x8 : wr.cell? ⟨w.heap.size, 8, none⟩ = some (.int .i64 c.queue) := (HX.out.here HB.out).cell 8
          have x9 : wr.cell? ⟨w.heap.size, 9, none⟩ = some (.int .i64 c.tokens) := (HX.out.here HB.out).cell 9
          have x10 : wr.cell? ⟨w.heap.size, 10, none⟩ = some (.int .i64 c.refill) := (HX.out.here HB.out).cell 10
          go_wp2
          obtain ⟨W3, hW3⟩ : ∃ W3, (wr.alloc (.cells #[.string { data := #[104, 101, 108, 108, 111, 32] }, .string { data := #[100, 101, 97, 100, 32] }, .string { data := #[97, 103, 97, 105, 110, 32] }, .string { data := #[114, 111, 111, 109, 32] }, .string { data := #[113, 117, 101, 117, 101, 32] }, .string { data := #[116, 111, 107, 101, 110, 115, 32] }, .string { data := #[114, 101, 102, 105, 108, 108, 32] }] 9)).alloc (.cells #[.int .i64 c.hello, .int .i64 c.dead, .int .i64 c.again, .int .i64 c.room, .int .i64 c.queue, .int .i64 c.tokens, .int .i64 c.refill] 3) = W3 := ⟨_, rfl⟩
          have HWS : Hid (Whole W3 wr.heap.size 9 wordsA) := Lib.hid (by rw [← hW3]; exact (Whole.new wr 9 wordsA).alloc _)
          have HNS : Hid (Whole W3 (wr.heap.size + 1) 3 (numsA c)) := Lib.hid (by
            rw [← hW3]
            have := Whole.new (wr.alloc (.cells #[.string { data := #[104, 101, 108, 108, 111, 32] }, .string { data := #[100, 101, 97, 100, 32] }, .string { data := #[97, 103, 97, 105, 110, 32] }, .string { data := #[114, 111, 111, 109, 32] }, .string { data := #[113, 117, 101, 117, 101, 32] }, .string { data := #[116, 111, 107, 101, 110, 115, 32] }, .string { data := #[114, 101, 102, 105, 108, 108, 32] }] 9)) 3 (numsA c)
            rw [World.size_alloc] at this
            exact this)
          have HS3 : Hid (W3.ownsRow W1.heap.size 9 1 u3 ((heads c).length + 0) ((heads c ++ (tails c).take 0).map Sv)) := Lib.hid (by
            rw [← hW3]
            have := (HS.out.alloc (.cells #[.string { data := #[104, 101, 108, 108, 111, 32] }, .string { data := #[100, 101, 97, 100, 32] }, .string { data := #[97, 103, 97, 105, 110, 32] }, .string { data := #[114, 111, 111, 109, 32] }, .string { data := #[113, 117, 101, 117, 101, 32] }, .string { data := #[116, 111, 107, 101, 110, 115, 32] }, .string { data := #[114, 101, 102, 105, 108, 108, 32] }] 9)).alloc (.cells #[.int .i64 c.hello, .int .i64 c.dead, .int .i64 c.again, .int .i64 c.room, .int .i64 c.queue, .int .i64 c.tokens, .int .i64 c.refill] 3)
            rw [List.take_length] at this
            have e1 : (heads c).length + 0 = 2 + c.own.length + c.ports.length := by unfold heads; simp; omega
            have e2 : heads c ++ (tails c).take 0 = [lnNum wNode c.node, lnAddr c.addr] ++ c.own.map lnOwn ++ c.ports.map lnPort := by unfold heads; simp
            rw [e1, e2]; exact this)
          have HB3 : Hid (Below W1.heap.size W1 W3) := Lib.hid (by rw [← hW3]; exact (HB.out.alloc HB.out.size _).alloc (Nat.le_trans HB.out.size (by simp)) _)
          rw [hW3]
          have hhl : (heads c).length ≤ 18 := by unfold heads; simp; omega
          clear hW3 HS HB x3 x4 x5 x6 x7 x8 x9 x10 hjl hj hlt2
          generalize wr.heap.size = Wb at HWS HNS ⊢
          go_loopw [3, 8] (fun s i wx => ∃ j : Nat, j ≤ 7 ∧ i = .int .i64 j ∧ Hid (wx.ownsRow W1.heap.size 9 1 s ((heads c).length + j) ((heads c ++ (tails c).take j).map Sv)) ∧ Hid (Below W1.heap.size W1 wx) ∧ Hid (Whole wx Wb 9 wordsA) ∧ Hid (Whole wx (Wb + 1) 3 (numsA c))) (fun _ i _ => 7 - (intOf i).toNat)
          case atStart => exact ⟨0, Nat.zero_le _, rfl, HS3, HB3, HWS, HNS⟩
          case round =>
            clear HS3 HB3 HWS HNS
            obtain ⟨j, hj, rfl, HS, HB, HWS, HNS⟩ := hrel
            by_cases hjl : j < 7
            · obtain ⟨wd, n, e1, e2, e3, hwl⟩ := tails_at c hjl
              have hn := nums_bd HM.out e2
              have d1 : wr.cell? ⟨Wb, j, none⟩ = some (.string (str (wd ++ [32]))) := by rw [HWS.out.cell j]; simp [wordsA, e1, Sv]
              have d2 : wr.cell? ⟨Wb + 1, j, none⟩ = some (.int .i64 n) := by rw [HNS.out.cell j]; simp [numsA, e2]
              have hl1 := HWS.out.lt
              have hl2 := HNS.out.lt
              have s1 := itoa_size9 (n := n) (by omega) (by omega)
              have s2 : (str (wd ++ [32])).size ≤ 7 := by rw [str_size]; simp; omega
              have E2 := E1.out.here HB.out
              have HT := Lib.hid e3
              clear e1 e2 e3
              go_wp2
              refine wp_region_ext_float 11 (by kernel_rfl) (by kernel_rfl) rfl (.inl ⟨rfl, fun _ => rfl⟩) (fun _ _ _ h => h) ?_
              simp only [List.take_succ_cons, List.take_zero, List.drop_succ_cons, List.drop_zero]
              repeat (go_big_quiet_step (first | (go_at_call 58; exact Ext.call (itoa_any _ _ (by omega) (by omega) (Ext.env _ E2)))))
              refine wpQuiet_nil ?_
              rintro _ ⟨z, rfl⟩
              have hown2 := own_below HS.out z.below
              have hb3 := HB.out.trans (z.below.mono HB.out.size)
              have hbs := hb3.size
              have hW2 := HWS.out.here z.below
              have hN2 := HNS.out.here z.below
              go_wp2_with (at_builtin; refine wpList_push rfl _ _ 40 rfl W1.heap.size 9 info_str rfl (by decide) Tryz.underlying40 _ _ _ rfl hown2 rfl rfl (by omega) hbs ?_; intro v' w3 hown3 hg)
              have hb4 := Lib.hid (hb3.grown hg hbs (fun g hg' => (hown2.lt g hg').1))
              have hW4 := Lib.hid (hW2.kept hg (whole_ne hW2 hown2 (by unfold heads; simp; omega) (by
                intro h
                have h : some (Sv (lnNum wNode c.node)) = some (Sv (wHello ++ [32])) := h
                simp only [Sv, Option.some.injEq, Value.string.injEq] at h
                have h := congrArg (fun b => b.data.toList) h
                simp only [str_data] at h
                simp [lnNum, wNode, wHello] at h)))
              have hN4 := Lib.hid (hN2.kept hg (Ne.symm (hN2.notRow hown2 (by decide))))
              have hown4 : Hid (w3.ownsRow W1.heap.size 9 1 v' ((heads c).length + (j + 1)) ((heads c ++ (tails c).take (j + 1)).map Sv)) := Lib.hid (by
                rw [List.take_add_one, HT.out]
                have e : Value.string (str (wd ++ [32]) ++ str (Lib.itoa n)) = Sv (lnNum wd n) := sv_cat _ _ _ (by unfold lnNum; simp)
                rw [e] at hown3
                show w3.ownsRow W1.heap.size 9 1 v' ((heads c).length + j + 1) _
                simpa using hown3)
              clear hown2 hown3 hg hb3 hbs hW2 hN2
              go_wp2
              go_roundw
              case rel => exact ⟨j + 1, by omega, by go_num, hown4, hb4, hW4, hN4⟩
              case measure => simp [intOf]; omega
            · obtain rfl : j = 7 := by omega
              go_wp2
              go_ret
              refine ⟨_, rfl, ?_, HB1.out.trans (HB.out.mono HB1.out.size)⟩
              have := HS.out
              rw [show (tails c).take 7 = tails c from rfl, hs1] at this
              have e : (linesP c).length = (heads c).length + 7 := by unfold linesP; rw [List.length_append]; rfl
              rw [e]
              exact this
end Go.Proofs.YtfbangojgjcbcaaGreatDoor
