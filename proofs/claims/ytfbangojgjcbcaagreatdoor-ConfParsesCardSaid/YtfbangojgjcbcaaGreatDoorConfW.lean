/- Contract of (*guidepostref19.reading).line: an own prefix's line; then all cases together: stepR. -/
import Derived.Test.YtfbangojgjcbcaaGreatDoorConfV
namespace Go.Proofs.YtfbangojgjcbcaaGreatDoor
open Go.RowKit Pl

/-- What PrefixOf answers, its parts named. -/
theorem rprefix_parts (s : List UInt8) : ∃ (pa pn : Int) (b : Bool), rprefixRes s = .tuple #[.agg #[.int .u32 pa, .int .i64 pn], .bool b] ∧ IsAddr pa ∧ (prefixOf s = none → b = false) ∧ (∀ a n, prefixOf s = some (a, n) → b = true ∧ pa = (a : Int) ∧ pn = (n : Int)) := by
  unfold rprefixRes
  cases h : prefixOf s with
  | none => exact ⟨0, 0, false, rfl, ⟨by decide, by decide⟩, (fun _ => rfl), (fun a n e => by cases e)⟩
  | some p =>
    obtain ⟨a, n⟩ := p
    refine ⟨a, n, true, rfl, ⟨by omega, ?_⟩, (fun e => by cases e), (fun a' n' e => by cases e; exact ⟨rfl, rfl, rfl⟩)⟩
    have := (prefixOf_some s a n h).2.1
    omega
def ownR (c : Cfg) (t : Nat) (s : List UInt8) : Option (Cfg × Nat) := match prefixOf s with
  | some (a, n) => if ownOk (c.own ++ [((a : Int), (n : Int))]) = true then some ({ c with own := c.own ++ [((a : Int), (n : Int))] }, t) else none
  | none => none

set_option maxRecDepth 100000 in
set_option maxHeartbeats 4000000 in
theorem rline_own (i : Nat) (wd s : List UInt8) (c : Cfg) (B R : Nat) (w : World) (h : Rd 98 w B R c ((0 : Nat) : Int)) (hBw : B ≤ w.heap.size) (hs : s.length ≤ 1000000) (hi : 2 ≤ i) (hwd : wd = wOwn) (hpe : c.ports = []) (hI : CInv c) :
    Calls Tryz.prog 54 #[.pointer (some ⟨R, 0, none⟩), .int .i64 (i : Int), .string (str wd), .string (str s)] w fun e w' => RgRes w B R (ownR c 0 s) e w' := by
  obtain ⟨own, ports, hW, hO, hP⟩ := h.is
  have hBR := h.ge
  obtain ⟨o, ho⟩ : ∃ o, ownR c 0 s = o := ⟨_, rfl⟩
  rw [ho]
  have HOO := Lib.hid ho
  obtain ⟨pa, pn, b, hres, hpa, hbn, hbs⟩ := rprefix_parts s
  have HPF : Hid (Calls Tryz.prog 116 #[.string (str s)] w fun e w' => e = .returned (.tuple #[.agg #[.int .u32 pa, .int .i64 pn], .bool b]) ∧ Below w.heap.size w w') := Lib.hid (by rw [← hres]; exact rprefixOf s w hs)
  have HBN := Lib.hid hbn
  have HBS := Lib.hid hbs
  have HWH := Lib.hid hW
  have HO := Lib.hid hO
  have HP := Lib.hid hP
  have HI := Lib.hid hI
  have hl := hI.own
  have dw : (str wd).toList = [111, 119, 110] := lit_own (by rw [hwd]; rfl)
  obtain ⟨A2, k2, rfl⟩ : ∃ A2 k2, ports = .slice A2 0 k2 := by
    obtain ⟨A2, k2, rfl⟩ := own_slice_n hP
    exact ⟨A2, k2, by rw [hpe]; rfl⟩
  have c3 : w.cell? ⟨R, 3, none⟩ = some (.slice A2 0 k2) := hW.cell 3
  have c11 : w.cell? ⟨R, 11, none⟩ = some (.int .i64 0) := hW.cell 11
  have d0 : ((i : Int) == 0) = false := by simp; omega
  have d1 : ((i : Int) == 1) = false := by simp; omega
  clear h hW hO hP hI ho hres hbn hbs hwd hpe
  go_enter Tryz.func54, Tryz.ntmps54
  go_wp2_with fail
  refine HPF.out.mono ?_
  rintro e w1 ⟨rfl, hb1⟩
  have h1 := HWH.out.here hb1
  have hO1 := own_below HO.out hb1
  have HP1 := Lib.hid (own_below HP.out hb1)
  have HB1 := Lib.hid hb1
  have c2 : (w1.alloc (.cells #[.int .u32 pa, .int .i64 pn] 86)).cell? ⟨R, 2, none⟩ = some own := (h1.alloc _).cell 2
  have HW1 := Lib.hid h1
  have hR1 := h1.lt
  have hsz := hb1.size
  have hno := h1.notRow hO1 (by decide)
  obtain ⟨i0, hi0, hz0, hz1, hz2⟩ := info_parts info_P
  have hnew : ((w1.alloc (.cells #[.int .u32 pa, .int .i64 pn] 86)).alloc (.cells #[.int .u32 pa, .int .i64 pn] 86)).drew.heap[w1.heap.size + 1]? = some (.cells #[.int .u32 pa, .int .i64 pn] 86 (0, 0)) := by
    have : ((w1.alloc (.cells #[.int .u32 pa, .int .i64 pn] 86)).alloc (.cells #[.int .u32 pa, .int .i64 pn] 86)).heap[w1.heap.size + 1]? = some (.cells #[.int .u32 pa, .int .i64 pn] 86 (0, 0)) := by
      have := heap_alloc_new (w1.alloc (.cells #[.int .u32 pa, .int .i64 pn] 86)) (.cells #[.int .u32 pa, .int .i64 pn] 86)
      simpa using this
    exact this
  have hne2 : own.ownBlock ≠ some w1.heap.size := fun e => by have := (hO1.lt _ e).2; omega
  have HPW : Hid (Whole ((w1.alloc (.cells #[.int .u32 pa, .int .i64 pn] 86)).alloc (.cells #[.int .u32 pa, .int .i64 pn] 86)).drew w1.heap.size 86 #[.int .u32 pa, .int .i64 pn]) := Lib.hid ((Whole.new w1 _ _).alloc _).drew
  clear h1 hb1 c3 c11
  go_upto_region 10 with fail
  go_region_law
    ((refine step_append_lies _ (by rfl) _ _ _ (by rfl) B 86 i0 _ 2 16 Tryz.underlying25 hi0 hz0 hz1 hz2 rfl (by omega) _ c.own.length _ (by rfl) (((hO1.alloc _).alloc _).drew)
        ⟨w1.heap.size + 1, 0, none⟩ 1 1 [.int .u32 pa, .int .i64 pn] (by rfl) (by rfl) (World.news_of_block (cs := #[.int .u32 pa, .int .i64 pn]) (t := 86) (fr := (0, 0)) hnew) (by simp [Value.oneCell'])
        (by omega) (by unfold maxLen; omega) (by omega) (by simp; omega) (w1.heap.size + 1 + 1) (by simp) ?_; intro gg cap w2 hown2 hgrow hat hlt2; have hW2 := (((HW1.out.alloc _).alloc _).drew).kept hgrow (Ne.symm hno); have c22 : w2.cell? ⟨R, 2, none⟩ = some own := hW2.cell 2; have f22 := hW2.frozen 2; have p20 : w2.cell? ⟨w1.heap.size, 0, none⟩ = some (.int .u32 pa) := (HPW.out.kept hgrow (Ne.symm hne2)).cell 0; have p21 : w2.cell? ⟨w1.heap.size, 1, none⟩ = some (.int .i64 pn) := (HPW.out.kept hgrow (Ne.symm hne2)).cell 1))
  all_goals
    have HW3 : Hid (Whole (w2.setCell ⟨R, 2, none⟩ (.slice (some ⟨gg, 0, none⟩) (c.own.length + 1) cap)) R 98 (rdCells { c with own := c.own ++ [(pa, pn)] } (.slice (some ⟨gg, 0, none⟩) (c.own.length + 1) cap) (.slice A2 0 k2) ((0 : Nat) : Int))) := Lib.hid (hW2.set 2 _)
    have hg3 := grown_set w2 R 2 (.slice (some ⟨gg, 0, none⟩) (c.own.length + 1) cap)
    have HO3 : Hid ((w2.setCell ⟨R, 2, none⟩ (.slice (some ⟨gg, 0, none⟩) (c.own.length + 1) cap)).ownsRow B 86 2 (.slice (some ⟨gg, 0, none⟩) (c.own.length + 1) cap) (c.own ++ [(pa, pn)]).length (cells2 .u32 (c.own ++ [(pa, pn)]))) := Lib.hid (by rw [cells2_snoc, List.length_append]; exact own_grown hW2 hown2 (by decide) hg3)
    have HP3 : Hid ((w2.setCell ⟨R, 2, none⟩ (.slice (some ⟨gg, 0, none⟩) (c.own.length + 1) cap)).ownsRow B 101 2 (.slice A2 0 k2) c.ports.length (cells2 .i64 c.ports)) := Lib.hid (own_grown hW2 ((((HP1.out.alloc _).alloc _).drew).kept hgrow (rows_apart hO1 HP1.out (by decide))) (by decide) hg3)
    have HB3 : Hid (Kb B R w (w2.setCell ⟨R, 2, none⟩ (.slice (some ⟨gg, 0, none⟩) (c.own.length + 1) cap))) := Lib.hid (by
      have hx : Below B w1 w2 := (((Below.refl _ w1).alloc (by omega) _).alloc (by simp; omega) _).drew.grown hgrow (by simp; omega) fun g hg => (hO1.lt g hg).1
      exact (Kb.of_below ((HB1.out.mono hBw).trans hx)).set 2 _ (Nat.le_trans hBw (Nat.le_trans hsz hx.size)))
    generalize w2.setCell ⟨R, 2, none⟩ (.slice (some ⟨gg, 0, none⟩) (c.own.length + 1) cap) = W3 at *
    have hl9 : (c.own ++ [(pa, pn)]).length ≤ 1000000 := by simp; omega
    have HAA : Hid (AddrsOk (c.own ++ [(pa, pn)])) := Lib.hid (fun p hp => by
      rcases List.mem_append.1 hp with h | h
      · exact HI.out.addrs.2 p h
      · have : p = (pa, pn) := by simpa using h
        subst this; exact hpa)
    have c23 : W3.cell? ⟨R, 2, none⟩ = some (.slice (some ⟨gg, 0, none⟩) (c.own.length + 1) cap) := HW3.out.cell 2
    clear hown2 hgrow hat hlt2 hW2 c22 f22 p20 p21 hg3 hO1 HP1 HB1 c2 HW1 hno hne2 HPW hnew hi0 hz0 hz1 hz2
    cases b with
    | false =>
      go_wp2
      go_ret
      refine RgRes.no ?_ rfl HB3.out
      rw [← HOO.out]
      unfold ownR
      cases hq : prefixOf s with
      | none => rfl
      | some p => have := (HBS.out p.1 p.2 hq).1; cases this
    | true =>
      go_wp2_with fail
      refine (rown19 _ (c.own ++ [(pa, pn)]) W3 (Rs.own rfl HO3.out) hl9 HAA.out).mono ?_
      rintro e w4 ⟨rfl, hb4⟩
      have HR4 : Hid (Rd 98 w4 B R { c with own := c.own ++ [(pa, pn)] } ((0 : Nat) : Int)) := Lib.hid ⟨hBR, _, _, HW3.out.here hb4, own_below HO3.out hb4, own_below HP3.out hb4⟩
      have HB4 := Lib.hid (HB3.out.trans (Kb.of_below (hb4.mono (Nat.le_trans hBw HB3.out.size))))
      clear hb4
      have HQ : Hid (o = if ownOk (c.own ++ [(pa, pn)]) = true then some ({ c with own := c.own ++ [(pa, pn)] }, 0) else none) := Lib.hid (by
        rw [← HOO.out]
        unfold ownR
        cases hq : prefixOf s with
        | none => have := HBN.out hq; cases this
        | some p =>
          obtain ⟨_, e1, e2⟩ := HBS.out p.1 p.2 hq
          rw [e1, e2])
      cases hok : ownOk (c.own ++ [(pa, pn)]) with
      | false =>
        rw [hok] at HQ
        go_wp2
        go_ret
        exact RgRes.no HQ.out rfl HB4.out
      | true =>
        rw [hok] at HQ
        go_wp2
        go_ret
        exact RgRes.yes _ 0 HQ.out rfl HR4.out HB4.out

/-- A line, as the document reads it. -/
theorem rline_any (i : Nat) (wd s : List UInt8) (c : Cfg) (t B R : Nat) (w : World) (h : Rd 98 w B R c (t : Int)) (hBw : B ≤ w.heap.size) (hs : s.length ≤ 1000000) (ht : t ≤ 7) (hI : CInv c) :
    Calls Tryz.prog 54 #[.pointer (some ⟨R, 0, none⟩), .int .i64 (i : Int), .string (str wd), .string (str s)] w fun e w' => RgRes w B R (stepR c i t wd s) e w' := by
  by_cases h0 : i = 0
  · subst h0
    have := rline_node wd s c t B R w h hBw hs
    unfold stepR
    rw [if_pos rfl]
    exact this
  by_cases h1 : i = 1
  · subst h1
    have := rline_addr wd s c t B R w h hBw hs
    unfold stepR
    rw [if_neg (by decide), if_pos rfl]
    exact this
  by_cases h2 : wd = wOwn ∧ c.ports = [] ∧ t = 0
  · obtain ⟨e1, e2, e3⟩ := h2
    subst e3
    have := rline_own i wd s c B R w h hBw hs (by omega) e1 e2 hI
    unfold stepR
    rw [if_neg h0, if_neg h1, if_pos ⟨e1, e2, rfl⟩]
    exact this
  · have := rline_rest i wd s c t B R w h hBw hs (by omega) ht h2 hI
    unfold stepR
    rw [if_neg h0, if_neg h1, if_neg h2]
    exact this
end Go.Proofs.YtfbangojgjcbcaaGreatDoor
