/- Part 13 of the proof: TextS, MuchR, PlainS2, OpenU2, ScrP, PlainW, RdrA. -/
import Derived.Test.YtfbangojgjcbcaaGreatDoorShelf4
import Derived.WalkMore
import Derived.Test.YtfbangojgjcbcaaGreatDoorSB02
import Derived.Test.YtfbangojgjcbcaaGreatDoorSB04
import Derived.Test.YtfbangojgjcbcaaGreatDoorSB08
import Derived.Test.YtfbangojgjcbcaaGreatDoorSB09
import Derived.Test.YtfbangojgjcbcaaGreatDoorSB10
import Derived.Test.YtfbangojgjcbcaaGreatDoorSB11
import Derived.Test.YtfbangojgjcbcaaGreatDoorSB12
namespace Go.Proofs.YtfbangojgjcbcaaGreatDoor
open Go.RowKit Pl
def linesL (ls : List Lk) : List UInt8 := ls.flatMap fun l => linkText l ++ [10]
def linesA (zs : List ActP) : List UInt8 := zs.flatMap fun a => actText a ++ [10]
def textS (cs : List Cfg) (ls : List Lk) (zs : List ActP) : List UInt8 := cs.flatMap textP ++ linesL ls ++ [114, 117, 110, 10] ++ linesA zs
def sText (cs : List Cfg) (ls : List Lk) (zs : List ActP) : List UInt8 × Int :=
  if maySet cs ls && zs.all mayA then (if 65536 < zs.length then ([], 3) else if 4194304 < (textS cs ls zs).length then ([], 3) else (textS cs ls zs, 0)) else ([], 2)
theorem flat_take {α : Type} (f : α → List UInt8) (xs : List α) (j : Nat) : ((xs.take j).flatMap f).length ≤ (xs.flatMap f).length := by
  have : (xs.flatMap f).length = ((xs.take j).flatMap f).length + ((xs.drop j).flatMap f).length := by
    rw [← List.length_append, ← List.flatMap_append, List.take_append_drop]
  omega
theorem flat_next {α : Type} (f : α → List UInt8) {xs : List α} {j : Nat} {x : α} (h : xs[j]? = some x) : (xs.take (j + 1)).flatMap f = (xs.take j).flatMap f ++ f x := by
  rw [take_at h, List.flatMap_append]
  simp
theorem flat_mem {α : Type} (f : α → List UInt8) {xs : List α} {x : α} (h : x ∈ xs) : (f x).length ≤ (xs.flatMap f).length := by
  obtain ⟨j, hj⟩ := List.getElem?_of_mem h
  have h1 := flat_take f xs (j + 1)
  rw [flat_next f hj, List.length_append] at h1
  omega
def TextRes (cs : List Cfg) (ls : List Lk) (zs : List ActP) (e : Ending) : Prop := e = .returned (.tuple #[.string (str (sText cs ls zs).1), .int .i64 (sText cs ls zs).2])
set_option maxRecDepth 100000 in
set_option maxHeartbeats 16000000 in
theorem stext_any (cv lv av : Value) (cs : List Cfg) (ls : List Lk) (zs : List ActP) (w : World) (h : ScrIs w cv lv av cs ls zs) (k : ScrOk cs ls zs) (E : Env w) (hlen : maySet cs ls = true → (∀ a ∈ zs, mayA a = true) → (textS cs ls zs).length ≤ 10000000) :
    Calls Tryz.prog 44 #[.agg #[cv, lv, av]] w fun e w' => TextRes cs ls zs e ∧ Below w.heap.size w w' := by
  have HS := Lib.hid h
  have HK := Lib.hid k
  have EE := Lib.hid E
  obtain ⟨A1, k1, rfl, -⟩ := h.confs
  obtain ⟨A2, k2, rfl, -⟩ := h.links
  obtain ⟨A3, k3, rfl, -⟩ := h.acts
  have hnc := k.nc
  have hnl := k.nl
  have hna := k.na
  have hNB := E.size
  have HLEN0 := Lib.hid hlen
  clear h k E hlen
  obtain ⟨W0, hW0⟩ : ∃ X, w.alloc (.cells #[.slice A1 cs.length k1, .slice A2 ls.length k2, .slice A3 zs.length k3] 76) = X := ⟨_, rfl⟩
  have hb0 : Below w.heap.size w W0 := by rw [← hW0]; exact (Below.refl _ _).alloc (Nat.le_refl _) _
  have HB0 := Lib.hid hb0
  have HX0 : Hid (Whole W0 w.heap.size 76 #[.slice A1 cs.length k1, .slice A2 ls.length k2, .slice A3 zs.length k3]) := Lib.hid (by rw [← hW0]; exact Whole.new w _ _)
  have HW0 := Lib.hid hW0
  have HMAY := Lib.hid (smay_any _ _ cs ls W0 (HS.out.confs.here hb0) (HS.out.links.here hb0) HK.out.addrs HK.out.confs HK.out.links hnc hnl)
  have HCON := Lib.hid (fun W (hb : Below w.heap.size w W) => containsA_any _ zs W (HS.out.acts.here hb) hna (fun a ha => by have := (HK.out.acts a ha).2; omega))
  clear hW0 hb0

  have x0 : W0.cell? ⟨w.heap.size, 0, none⟩ = some (.slice A1 cs.length k1) := HX0.out.cell 0
  have x1 : W0.cell? ⟨w.heap.size, 1, none⟩ = some (.slice A2 ls.length k2) := HX0.out.cell 1
  have x2 : W0.cell? ⟨w.heap.size, 2, none⟩ = some (.slice A3 zs.length k3) := HX0.out.cell 2
  have xl : w.heap.size < W0.heap.size := HX0.out.lt
  cases hm : maySet cs ls with
  | false =>
    have HT : Hid (sText cs ls zs = ([], 2)) := Lib.hid (by unfold sText; rw [hm]; rfl)
    rw [hm] at HMAY
    clear hm
    go_enter Tryz.func44, Tryz.ntmps44
    go_upto_region 1 with fail
    rw [HW0.out]
    go_wp2_with fail
    refine HMAY.out.mono ?_
    rintro e w1 ⟨rfl, hb⟩
    have HB1 := Lib.hid (HB0.out.trans (hb.mono HB0.out.size))
    have HX1 := Lib.hid (HX0.out.here hb)
    clear hb HMAY
    clear x0 x1 x2 xl
    go_wp2
    exact bodyPost_ret (v := .tuple #[.string ⟨#[]⟩, .int .i64 2]) (by simp [results, Tryz.results44, go_sem]) rfl ⟨by unfold TextRes; rw [HT.out]; rfl, HB1.out⟩
  | true =>
    have HM := Lib.hid hm
    rw [hm] at HMAY
    clear hm
    cases ha : zs.any fun a => !mayA a with
    | true =>
      have HT : Hid (sText cs ls zs = ([], 2)) := Lib.hid (by
        unfold sText
        have : zs.all mayA = false := by
          obtain ⟨a, h1, h2⟩ := List.any_eq_true.1 ha
          exact List.all_eq_false.2 ⟨a, h1, by simpa using h2⟩
        rw [this, Bool.and_false]
        rfl)
      rw [ha] at HCON
      clear ha
      go_enter Tryz.func44, Tryz.ntmps44
      go_upto_region 1 with fail
      rw [HW0.out]
      go_wp2_with fail
      refine HMAY.out.mono ?_
      rintro e w1 ⟨rfl, hb⟩
      have HB1 := Lib.hid (HB0.out.trans (hb.mono HB0.out.size))
      have HX1 := Lib.hid (HX0.out.here hb)
      clear hb HMAY
      clear x0 x1 x2 xl
      have x0 : w1.cell? ⟨w.heap.size, 0, none⟩ = some (.slice A1 cs.length k1) := HX1.out.cell 0
      have x1 : w1.cell? ⟨w.heap.size, 1, none⟩ = some (.slice A2 ls.length k2) := HX1.out.cell 1
      have x2 : w1.cell? ⟨w.heap.size, 2, none⟩ = some (.slice A3 zs.length k3) := HX1.out.cell 2
      have xl : w.heap.size < w1.heap.size := HX1.out.lt
      go_wp2_with fail
      refine (HCON.out _ HB1.out).mono ?_
      rintro e w2 ⟨rfl, hb⟩
      have HB2 := Lib.hid (HB1.out.trans (hb.mono HB1.out.size))
      clear hb
      go_wp2
      exact bodyPost_ret (v := .tuple #[.string ⟨#[]⟩, .int .i64 2]) (by simp [results, Tryz.results44, go_sem]) rfl ⟨by unfold TextRes; rw [HT.out]; rfl, HB2.out⟩
    | false =>
      have hall : zs.all mayA = true := by
        rw [List.all_eq_true]
        intro a h1
        have := (List.any_eq_false.1 ha) a h1
        simpa using this
      have HALL : Hid (∀ a ∈ zs, mayA a = true) := Lib.hid (List.all_eq_true.1 hall)
      have HT0 : Hid (sText cs ls zs = if 65536 < zs.length then ([], 3) else if 4194304 < (textS cs ls zs).length then ([], 3) else (textS cs ls zs, 0)) := Lib.hid (by unfold sText; rw [HM.out, hall]; rfl)
      rw [ha] at HCON
      clear ha hall
      by_cases h6 : 65536 < zs.length
      · have HT : Hid (sText cs ls zs = ([], 3)) := Lib.hid (by rw [HT0.out, if_pos h6])
        have d6 : decide ((65536 : Int) < (zs.length : Int)) = true := decide_eq_true (by omega)
        clear h6
        go_enter Tryz.func44, Tryz.ntmps44
        go_upto_region 1 with fail
        rw [HW0.out]
        go_wp2_with fail
        refine HMAY.out.mono ?_
        rintro e w1 ⟨rfl, hb⟩
        have HB1 := Lib.hid (HB0.out.trans (hb.mono HB0.out.size))
        have HX1 := Lib.hid (HX0.out.here hb)
        clear hb HMAY
        clear x0 x1 x2 xl
        have x0 : w1.cell? ⟨w.heap.size, 0, none⟩ = some (.slice A1 cs.length k1) := HX1.out.cell 0
        have x1 : w1.cell? ⟨w.heap.size, 1, none⟩ = some (.slice A2 ls.length k2) := HX1.out.cell 1
        have x2 : w1.cell? ⟨w.heap.size, 2, none⟩ = some (.slice A3 zs.length k3) := HX1.out.cell 2
        have xl : w.heap.size < w1.heap.size := HX1.out.lt
        go_wp2_with fail
        refine (HCON.out _ HB1.out).mono ?_
        rintro e w2 ⟨rfl, hb⟩
        have HB2 := Lib.hid (HB1.out.trans (hb.mono HB1.out.size))
        have HX2 := Lib.hid (HX1.out.here hb)
        clear hb HCON
        clear x0 x1 x2 xl
        have x0 : w2.cell? ⟨w.heap.size, 0, none⟩ = some (.slice A1 cs.length k1) := HX2.out.cell 0
        have x1 : w2.cell? ⟨w.heap.size, 1, none⟩ = some (.slice A2 ls.length k2) := HX2.out.cell 1
        have x2 : w2.cell? ⟨w.heap.size, 2, none⟩ = some (.slice A3 zs.length k3) := HX2.out.cell 2
        have xl : w.heap.size < w2.heap.size := HX2.out.lt
        go_wp2
        exact bodyPost_ret (v := .tuple #[.string ⟨#[]⟩, .int .i64 3]) (by simp [results, Tryz.results44, go_sem]) rfl ⟨by unfold TextRes; rw [HT.out]; rfl, HB2.out⟩
      · have HT1 : Hid (sText cs ls zs = if 4194304 < (textS cs ls zs).length then ([], 3) else (textS cs ls zs, 0)) := Lib.hid (by rw [HT0.out, if_neg h6])
        have d6 : decide ((65536 : Int) < (zs.length : Int)) = false := decide_eq_false (by omega)
        clear h6
        go_enter Tryz.func44, Tryz.ntmps44
        go_upto_region 1 with fail
        rw [HW0.out]
        go_wp2_with fail
        refine HMAY.out.mono ?_
        rintro e w1 ⟨rfl, hb⟩
        have HB1 := Lib.hid (HB0.out.trans (hb.mono HB0.out.size))
        have HX1 := Lib.hid (HX0.out.here hb)
        clear hb HMAY
        clear x0 x1 x2 xl
        have x0 : w1.cell? ⟨w.heap.size, 0, none⟩ = some (.slice A1 cs.length k1) := HX1.out.cell 0
        have x1 : w1.cell? ⟨w.heap.size, 1, none⟩ = some (.slice A2 ls.length k2) := HX1.out.cell 1
        have x2 : w1.cell? ⟨w.heap.size, 2, none⟩ = some (.slice A3 zs.length k3) := HX1.out.cell 2
        have xl : w.heap.size < w1.heap.size := HX1.out.lt
        go_wp2_with fail
        refine (HCON.out _ HB1.out).mono ?_
        rintro e w2 ⟨rfl, hb⟩
        have HB2 := Lib.hid (HB1.out.trans (hb.mono HB1.out.size))
        have HX2 := Lib.hid (HX1.out.here hb)
        clear hb HCON
        clear x0 x1 x2 xl
        have x0 : w2.cell? ⟨w.heap.size, 0, none⟩ = some (.slice A1 cs.length k1) := HX2.out.cell 0
        have x1 : w2.cell? ⟨w.heap.size, 1, none⟩ = some (.slice A2 ls.length k2) := HX2.out.cell 1
        have x2 : w2.cell? ⟨w.heap.size, 2, none⟩ = some (.slice A3 zs.length k3) := HX2.out.cell 2
        have xl : w.heap.size < w2.heap.size := HX2.out.lt
        have HMC : Hid (∀ c ∈ cs, mayC c = true) := Lib.hid (maySet_confs HM.out)
        have hlen := HLEN0.out HM.out HALL.out
        have hcl : (cs.flatMap textP).length ≤ 10000000 := by unfold textS at hlen; simp only [List.length_append] at hlen; omega
        have HLEN := Lib.hid hlen
        clear hlen
        obtain ⟨b, hb⟩ : ∃ b, w2.heap.size = b := ⟨_, rfl⟩
        obtain ⟨W3, hW3⟩ : ∃ X, w2.alloc (.cells #[.pointer none, .slice none 0 0] 111) = X := ⟨_, rfl⟩
        have HBA0 : Hid (BAt (b + 1) b [] W3) := Lib.hid (by rw [← hW3, ← hb]; exact BAt.fresh _ _)
        have HB3 : Hid (Below w.heap.size w W3) := Lib.hid (by rw [← hW3]; exact HB2.out.alloc HB2.out.size _)
        have HX3 : Hid (Whole W3 w.heap.size 76 #[.slice A1 cs.length k1, .slice A2 ls.length k2, .slice A3 zs.length k3]) := Lib.hid (by rw [← hW3]; exact HX2.out.alloc _)
        have HWB : Hid (w.heap.size < b) := Lib.hid (by rw [← hb]; exact xl)
        have HS3 : Hid (b + 1 ≤ W3.heap.size) := Lib.hid (by rw [← hW3, ← hb]; simp)
        have HW3 := Lib.hid hW3
        clear hW3 hcl
        go_upto_region 6 with fail
        rw [HW3.out]
        clear x0 x1 x2 xl
        clear d6 hb
        have x0 : W3.cell? ⟨w.heap.size, 0, none⟩ = some (.slice A1 cs.length k1) := HX3.out.cell 0
        have x1 : W3.cell? ⟨w.heap.size, 1, none⟩ = some (.slice A2 ls.length k2) := HX3.out.cell 1
        have x2 : W3.cell? ⟨w.heap.size, 2, none⟩ = some (.slice A3 zs.length k3) := HX3.out.cell 2
        have xl : w.heap.size < W3.heap.size := HX3.out.lt
        go_wp2
        go_loopw [6, 7, 8, 31] (fun _ _ _ i wr => ∃ j : Nat, j ≤ cs.length ∧ i = .int .i64 j ∧ Hid (BAt (b + 1) b ((cs.take j).flatMap textP) wr) ∧ Hid (Moves (b + 1) b W3 wr)) (fun _ _ _ i _ => cs.length - (intOf i).toNat)
        case atStart => exact ⟨0, Nat.zero_le _, rfl, HBA0, Lib.hid (Moves.refl _ _ _)⟩
        case round =>
          obtain ⟨j, hj, rfl, HBA, HMV⟩ := hrel
          have hwb := HWB.out
          have hs3 := HS3.out
          have hbw := HMV.out.below (B := w.heap.size) (by omega) (by omega) (by omega)
          have HBW := Lib.hid (HB3.out.trans hbw)
          have HBX := Lib.hid (HMV.out.below (B := w.heap.size + 1) (by omega) (by omega) (by omega))
          have HXR := Lib.hid (HX3.out.below HBX.out (by omega))
          have HSZ : Hid (b + 1 ≤ wr.heap.size) := Lib.hid (by have := HMV.out.size; omega)
          clear hbw
          try clear x0 x1 x2 xl
          have x0 : wr.cell? ⟨w.heap.size, 0, none⟩ = some (.slice A1 cs.length k1) := HXR.out.cell 0
          have x1 : wr.cell? ⟨w.heap.size, 1, none⟩ = some (.slice A2 ls.length k2) := HXR.out.cell 1
          have x2 : wr.cell? ⟨w.heap.size, 2, none⟩ = some (.slice A3 zs.length k3) := HXR.out.cell 2
          have xl : w.heap.size < wr.heap.size := HXR.out.lt
          by_cases hlt : j < cs.length
          · obtain ⟨x, hx⟩ : ∃ u, cs[j]? = some u := ⟨_, List.getElem?_eq_getElem hlt⟩
            obtain ⟨g, off, rfl, hg, hq⟩ := (HS.out.here HBW.out).confs.at hx
            obtain ⟨A4, k4, A5, k5, hcx, p0, p1, p2, p3, p4, p5, p6, p7, p8, p9, p10⟩ := hq.cfg
            have hmem := List.mem_of_getElem? hx
            obtain ⟨W4, hW4⟩ : ∃ X, wr.alloc (.cells #[.int .i64 x.node, .int .u32 x.addr, .slice A4 x.own.length k4, .slice A5 x.ports.length k5, .int .i64 x.hello, .int .i64 x.dead, .int .i64 x.again, .int .i64 x.room, .int .i64 x.queue, .int .i64 x.tokens, .int .i64 x.refill] 28) = X := ⟨_, rfl⟩
            have hb4 : Below wr.heap.size wr W4 := by rw [← hW4]; exact (Below.refl _ _).alloc (Nat.le_refl _) _
            have HX4 : Hid (Whole W4 wr.heap.size 28 #[.int .i64 x.node, .int .u32 x.addr, .slice A4 x.own.length k4, .slice A5 x.ports.length k5, .int .i64 x.hello, .int .i64 x.dead, .int .i64 x.again, .int .i64 x.room, .int .i64 x.queue, .int .i64 x.tokens, .int .i64 x.refill]) := Lib.hid (by rw [← hW4]; exact Whole.new wr _ _)
            have HB4 := Lib.hid hb4
            have HCT : Hid (Calls Tryz.prog 22 #[.agg #[.int .i64 x.node, .int .u32 x.addr, .slice A4 x.own.length k4, .slice A5 x.ports.length k5, .int .i64 x.hello, .int .i64 x.dead, .int .i64 x.again, .int .i64 x.room, .int .i64 x.queue, .int .i64 x.tokens, .int .i64 x.refill]] W4 fun e w' => e = .returned (.tuple #[.string (str (textP x)), .int .i64 0]) ∧ Below W4.heap.size W4 w') := Lib.hid (ctext_yes _ x W4 (hcx.below hb4) (HK.out.addrs x hmem) (HMC.out x hmem) (EE.out.here (HBW.out.trans (hb4.mono HBW.out.size))))
            have HNX := Lib.hid (flat_next textP hx)
            have HLN : Hid (((cs.take j).flatMap textP).length ≤ 10000000 ∧ (textP x).length ≤ 10000000) := Lib.hid (by
              have h1 := flat_take textP cs j
              have h2 := flat_mem textP hmem
              have h3 := HLEN.out
              unfold textS at h3
              simp only [List.length_append] at h3
              omega)
            have HW4 := Lib.hid hW4
            clear hx hq hcx hmem hW4 hb4
            go_upto_region 9 with fail
            rw [HW4.out]
            clear p0 p1 p2 p3 p4 p5 p6 p7 p8 p9 p10 hg x0 x1 x2 xl
            have p0 : W4.cell? ⟨wr.heap.size, 0, none⟩ = some (.int .i64 x.node) := HX4.out.cell 0
            have p1 : W4.cell? ⟨wr.heap.size, 1, none⟩ = some (.int .u32 x.addr) := HX4.out.cell 1
            have p2 : W4.cell? ⟨wr.heap.size, 2, none⟩ = some (.slice A4 x.own.length k4) := HX4.out.cell 2
            have p3 : W4.cell? ⟨wr.heap.size, 3, none⟩ = some (.slice A5 x.ports.length k5) := HX4.out.cell 3
            have p4 : W4.cell? ⟨wr.heap.size, 4, none⟩ = some (.int .i64 x.hello) := HX4.out.cell 4
            have p5 : W4.cell? ⟨wr.heap.size, 5, none⟩ = some (.int .i64 x.dead) := HX4.out.cell 5
            have p6 : W4.cell? ⟨wr.heap.size, 6, none⟩ = some (.int .i64 x.again) := HX4.out.cell 6
            have p7 : W4.cell? ⟨wr.heap.size, 7, none⟩ = some (.int .i64 x.room) := HX4.out.cell 7
            have p8 : W4.cell? ⟨wr.heap.size, 8, none⟩ = some (.int .i64 x.queue) := HX4.out.cell 8
            have p9 : W4.cell? ⟨wr.heap.size, 9, none⟩ = some (.int .i64 x.tokens) := HX4.out.cell 9
            have p10 : W4.cell? ⟨wr.heap.size, 10, none⟩ = some (.int .i64 x.refill) := HX4.out.cell 10
            have pl : wr.heap.size < W4.heap.size := HX4.out.lt
            go_wp2_with fail
            refine HCT.out.mono ?_
            rintro e w5 ⟨rfl, hb5⟩
            have HB5 := Lib.hid (HB4.out.trans (hb5.mono HB4.out.size))
            clear hb5 p0 p1 p2 p3 p4 p5 p6 p7 p8 p9 p10 pl
            go_wp2_with fail
            refine (writeString_any (b + 1) b _ (textP x) w5 (HBA.out.here HB5.out) (by have := HLN.out; omega) (by have := HLN.out; omega) (Nat.le_trans HSZ.out HB5.out.size)).mono ?_
            rintro e w6 ⟨rfl, hba, hmv⟩
            have HBA6 := Lib.hid hba
            have HMV6 := Lib.hid (HMV.out.trans ((Moves.of_below HB5.out).trans hmv))
            clear hba hmv
            go_wp2
            go_roundw
            case rel => exact ⟨j + 1, by omega, by go_num, Lib.hid (by rw [HNX.out]; exact HBA6.out), HMV6⟩
            case measure => simp [intOf]; omega
          · obtain rfl : j = cs.length := by omega
            have hba := HBA.out
            rw [List.take_length] at hba
            have HBAC := Lib.hid hba
            have HMVC := HMV
            clear hba hlt
            go_wp2
            go_loopw [11, 48] (fun _ i wz => ∃ j : Nat, j ≤ ls.length ∧ i = .int .i64 j ∧ Hid (BAt (b + 1) b (cs.flatMap textP ++ linesL (ls.take j)) wz) ∧ Hid (Moves (b + 1) b W3 wz)) (fun _ i _ => ls.length - (intOf i).toNat)
            case atStart => exact ⟨0, Nat.zero_le _, rfl, Lib.hid (by have := HBAC.out; simpa [linesL] using this), HMVC⟩
            case round =>
              obtain ⟨j, hj, rfl, HBA, HMV⟩ := hrel
              have hwb := HWB.out
              have hs3 := HS3.out
              have hbw := HMV.out.below (B := w.heap.size) (by omega) (by omega) (by omega)
              have HBW := Lib.hid (HB3.out.trans hbw)
              have HBX := Lib.hid (HMV.out.below (B := w.heap.size + 1) (by omega) (by omega) (by omega))
              have HXR := Lib.hid (HX3.out.below HBX.out (by omega))
              have HSZ : Hid (b + 1 ≤ wr.heap.size) := Lib.hid (by have := HMV.out.size; omega)
              clear hbw
              try clear x0 x1 x2 xl
              have x0 : wr.cell? ⟨w.heap.size, 0, none⟩ = some (.slice A1 cs.length k1) := HXR.out.cell 0
              have x1 : wr.cell? ⟨w.heap.size, 1, none⟩ = some (.slice A2 ls.length k2) := HXR.out.cell 1
              have x2 : wr.cell? ⟨w.heap.size, 2, none⟩ = some (.slice A3 zs.length k3) := HXR.out.cell 2
              have xl : w.heap.size < wr.heap.size := HXR.out.lt
              by_cases hlt : j < ls.length
              · obtain ⟨⟨n1, n2, n3, n4⟩, hx⟩ : ∃ u, ls[j]? = some u := ⟨_, List.getElem?_eq_getElem hlt⟩
                obtain ⟨g, off, rfl, hg, p0, p1, p2, p3⟩ := (HS.out.here HBW.out).links.at hx
                simp only at p0 p1 p2 p3
                have hmem := List.mem_of_getElem? hx
                obtain ⟨W4, hW4⟩ : ∃ X, wr.alloc (.cells #[.int .i64 n1, .int .i64 n2, .int .i64 n3, .int .i64 n4] 63) = X := ⟨_, rfl⟩
                have hb4 : Below wr.heap.size wr W4 := by rw [← hW4]; exact (Below.refl _ _).alloc (Nat.le_refl _) _
                have HX4 : Hid (Whole W4 wr.heap.size 63 #[.int .i64 n1, .int .i64 n2, .int .i64 n3, .int .i64 n4]) := Lib.hid (by rw [← hW4]; exact Whole.new wr _ _)
                have HB4 := Lib.hid hb4
                have HCT : Hid (Calls Tryz.prog 41 #[.agg #[.int .i64 n1, .int .i64 n2, .int .i64 n3, .int .i64 n4]] W4 fun e w' => e = .returned (.string (str (linkText (n1, n2, n3, n4)))) ∧ Below W4.heap.size W4 w') := Lib.hid (clinkText_any (n1, n2, n3, n4) W4 (HK.out.links _ hmem) (EE.out.here (HBW.out.trans (hb4.mono HBW.out.size))))
                have HNX : Hid (linesL (ls.take (j + 1)) = linesL (ls.take j) ++ (linkText (n1, n2, n3, n4) ++ [10])) := Lib.hid (flat_next _ hx)
                have HLN : Hid ((cs.flatMap textP ++ linesL (ls.take j)).length ≤ 10000000 ∧ (linkText (n1, n2, n3, n4)).length ≤ 10000000) := Lib.hid (by
                  have h1 : (linesL (ls.take j)).length ≤ (linesL ls).length := flat_take _ ls j
                  have h2 : (linkText (n1, n2, n3, n4) ++ [10]).length ≤ (linesL ls).length := flat_mem (fun l => linkText l ++ [10]) hmem
                  have h3 := HLEN.out
                  unfold textS at h3
                  simp only [List.length_append] at h3 h2 ⊢
                  omega)
                have HW4 := Lib.hid hW4
                clear hx hmem hW4 hb4
                go_upto_region 16 with fail
                rw [HW4.out]
                clear p0 p1 p2 p3 hg x0 x1 x2 xl
                have p0 : W4.cell? ⟨wr.heap.size, 0, none⟩ = some (.int .i64 n1) := HX4.out.cell 0
                have p1 : W4.cell? ⟨wr.heap.size, 1, none⟩ = some (.int .i64 n2) := HX4.out.cell 1
                have p2 : W4.cell? ⟨wr.heap.size, 2, none⟩ = some (.int .i64 n3) := HX4.out.cell 2
                have p3 : W4.cell? ⟨wr.heap.size, 3, none⟩ = some (.int .i64 n4) := HX4.out.cell 3
                have pl : wr.heap.size < W4.heap.size := HX4.out.lt
                go_wp2_with fail
                refine HCT.out.mono ?_
                rintro e w5 ⟨rfl, hb5⟩
                have HB5 := Lib.hid (HB4.out.trans (hb5.mono HB4.out.size))
                clear hb5 p0 p1 p2 p3 pl
                go_wp2_with fail
                refine (put2_any (b + 1) b _ (linkText (n1, n2, n3, n4)) w5 (HBA.out.here HB5.out) (by have := HLN.out; omega) (by have := HLN.out; omega) (Nat.le_trans HSZ.out HB5.out.size)).mono ?_
                rintro e w6 ⟨rfl, hba, hmv⟩
                have HBA6 := Lib.hid hba
                have HMV6 := Lib.hid (HMV.out.trans ((Moves.of_below HB5.out).trans hmv))
                clear hba hmv
                go_wp2
                go_roundw
                case rel => exact ⟨j + 1, by omega, by go_num, Lib.hid (by rw [HNX.out, ← List.append_assoc]; exact HBA6.out), HMV6⟩
                case measure => simp [intOf]; omega
              · obtain rfl : j = ls.length := by omega
                have hba := HBA.out
                rw [List.take_length] at hba
                have HBAL := Lib.hid hba
                have HLN : Hid ((cs.flatMap textP ++ linesL ls).length ≤ 10000000) := Lib.hid (by
                  have h3 := HLEN.out
                  unfold textS at h3
                  simp only [List.length_append] at h3 ⊢
                  omega)
                clear hba hlt
                go_wp2_with fail
                refine (put2_any (b + 1) b _ [114, 117, 110] wr HBAL.out (by have := HLN.out; omega) (by decide) HSZ.out).mono ?_
                rintro e w6 ⟨rfl, hba, hmv⟩
                have HBAR := Lib.hid hba
                have HMVR := Lib.hid (HMV.out.trans hmv)
                have HXS : Hid (Whole w6 w.heap.size 76 #[.slice A1 cs.length k1, .slice A2 ls.length k2, .slice A3 zs.length k3]) := Lib.hid (HX3.out.below (HMVR.out.below (B := w.heap.size + 1) (by omega) (by omega) (by omega)) (by omega))
                clear hba hmv x0 x1 x2 xl
                have x0 : w6.cell? ⟨w.heap.size, 0, none⟩ = some (.slice A1 cs.length k1) := HXS.out.cell 0
                have x1 : w6.cell? ⟨w.heap.size, 1, none⟩ = some (.slice A2 ls.length k2) := HXS.out.cell 1
                have x2 : w6.cell? ⟨w.heap.size, 2, none⟩ = some (.slice A3 zs.length k3) := HXS.out.cell 2
                have xl : w.heap.size < w6.heap.size := HXS.out.lt
                go_wp2
                go_loopw [13, 62] (fun _ i wz => ∃ j : Nat, j ≤ zs.length ∧ i = .int .i64 j ∧ Hid (BAt (b + 1) b (cs.flatMap textP ++ linesL ls ++ ([114, 117, 110] ++ [10]) ++ linesA (zs.take j)) wz) ∧ Hid (Moves (b + 1) b W3 wz)) (fun _ i _ => zs.length - (intOf i).toNat)
                case atStart => exact ⟨0, Nat.zero_le _, rfl, Lib.hid (by have := HBAR.out; simpa [linesA] using this), HMVR⟩
                case round =>
                  obtain ⟨j, hj, rfl, HBA, HMV⟩ := hrel
                  have hwb := HWB.out
                  have hs3 := HS3.out
                  have hbw := HMV.out.below (B := w.heap.size) (by omega) (by omega) (by omega)
                  have HBW := Lib.hid (HB3.out.trans hbw)
                  have HBX := Lib.hid (HMV.out.below (B := w.heap.size + 1) (by omega) (by omega) (by omega))
                  have HXR := Lib.hid (HX3.out.below HBX.out (by omega))
                  have HSZ : Hid (b + 1 ≤ wr.heap.size) := Lib.hid (by have := HMV.out.size; omega)
                  clear hbw
                  try clear x0 x1 x2 xl
                  have x0 : wr.cell? ⟨w.heap.size, 0, none⟩ = some (.slice A1 cs.length k1) := HXR.out.cell 0
                  have x1 : wr.cell? ⟨w.heap.size, 1, none⟩ = some (.slice A2 ls.length k2) := HXR.out.cell 1
                  have x2 : wr.cell? ⟨w.heap.size, 2, none⟩ = some (.slice A3 zs.length k3) := HXR.out.cell 2
                  have xl : w.heap.size < wr.heap.size := HXR.out.lt
                  by_cases hlt : j < zs.length
                  · obtain ⟨x, hx⟩ : ∃ u, zs[j]? = some u := ⟨_, List.getElem?_eq_getElem hlt⟩
                    obtain ⟨g, off, rfl, hg, bv, hbv, p0, p1, p2, p3, p4, p5, p6, p7, p8⟩ := (HS.out.here HBW.out).acts.at hx
                    obtain ⟨A4, k4, rfl, -⟩ := id hbv
                    have hmem := List.mem_of_getElem? hx
                    obtain ⟨W4, hW4⟩ : ∃ X, wr.alloc (.cells #[.int .i64 x.kind, .int .i64 x.node, .int .i64 x.port, .int .i64 x.cost, .int .i64 x.n, .bool x.up, .int .u8 (x.by_.toNat : Int), .bool x.unread, .slice A4 x.bytes.length k4] 51) = X := ⟨_, rfl⟩
                    have hb4 : Below wr.heap.size wr W4 := by rw [← hW4]; exact (Below.refl _ _).alloc (Nat.le_refl _) _
                    have HX4 : Hid (Whole W4 wr.heap.size 51 #[.int .i64 x.kind, .int .i64 x.node, .int .i64 x.port, .int .i64 x.cost, .int .i64 x.n, .bool x.up, .int .u8 (x.by_.toNat : Int), .bool x.unread, .slice A4 x.bytes.length k4]) := Lib.hid (by rw [← hW4]; exact Whole.new wr _ _)
                    have HB4 := Lib.hid hb4
                    have hmx := HALL.out x hmem
                    have HK9 : Hid (K9 x ∧ x.bytes.length ≤ 2048) := Lib.hid (by unfold mayA at hmx; simp only [Bool.and_eq_true, decide_eq_true_eq] at hmx; exact ⟨⟨hmx.1.1.1, hmx.1.1.2⟩, hmx.2⟩)
                    have HCT : Hid (Calls Tryz.prog 75 #[.agg #[.int .i64 x.kind, .int .i64 x.node, .int .i64 x.port, .int .i64 x.cost, .int .i64 x.n, .bool x.up, .int .u8 (x.by_.toNat : Int), .bool x.unread, .slice A4 x.bytes.length k4]] W4 fun e w' => e = .returned (.string (str (actText x))) ∧ Below W4.heap.size W4 w') := Lib.hid (cactText_any x _ W4 HK9.out.1 (hbv.below hb4) (HK.out.acts x hmem).1 (by have := HK9.out.2; omega) (EE.out.here (HBW.out.trans (hb4.mono HBW.out.size))))
                    have HNX : Hid (linesA (zs.take (j + 1)) = linesA (zs.take j) ++ (actText x ++ [10])) := Lib.hid (flat_next _ hx)
                    have HLN : Hid ((cs.flatMap textP ++ linesL ls ++ ([114, 117, 110] ++ [10]) ++ linesA (zs.take j)).length ≤ 10000000 ∧ (actText x).length ≤ 10000000) := Lib.hid (by
                      have h1 : (linesA (zs.take j)).length ≤ (linesA zs).length := flat_take _ zs j
                      have h2 : (actText x ++ [10]).length ≤ (linesA zs).length := flat_mem (fun a => actText a ++ [10]) hmem
                      have h3 := HLEN.out
                      unfold textS at h3
                      simp only [List.length_append, List.length_cons, List.length_nil] at h3 h2 ⊢
                      omega)
                    have HW4 := Lib.hid hW4
                    clear hx hmem hW4 hb4 hbv hmx
                    go_upto_region 22 with fail
                    rw [HW4.out]
                    clear p0 p1 p2 p3 p4 p5 p6 p7 p8 hg x0 x1 x2 xl
                    have p0 : W4.cell? ⟨wr.heap.size, 0, none⟩ = some (.int .i64 x.kind) := HX4.out.cell 0
                    have p1 : W4.cell? ⟨wr.heap.size, 1, none⟩ = some (.int .i64 x.node) := HX4.out.cell 1
                    have p2 : W4.cell? ⟨wr.heap.size, 2, none⟩ = some (.int .i64 x.port) := HX4.out.cell 2
                    have p3 : W4.cell? ⟨wr.heap.size, 3, none⟩ = some (.int .i64 x.cost) := HX4.out.cell 3
                    have p4 : W4.cell? ⟨wr.heap.size, 4, none⟩ = some (.int .i64 x.n) := HX4.out.cell 4
                    have p5 : W4.cell? ⟨wr.heap.size, 5, none⟩ = some (.bool x.up) := HX4.out.cell 5
                    have p6 : W4.cell? ⟨wr.heap.size, 6, none⟩ = some (.int .u8 (x.by_.toNat : Int)) := HX4.out.cell 6
                    have p7 : W4.cell? ⟨wr.heap.size, 7, none⟩ = some (.bool x.unread) := HX4.out.cell 7
                    have p8 : W4.cell? ⟨wr.heap.size, 8, none⟩ = some (.slice A4 x.bytes.length k4) := HX4.out.cell 8
                    have pl : wr.heap.size < W4.heap.size := HX4.out.lt
                    go_wp2_with fail
                    refine HCT.out.mono ?_
                    rintro e w5 ⟨rfl, hb5⟩
                    have HB5 := Lib.hid (HB4.out.trans (hb5.mono HB4.out.size))
                    clear hb5 p0 p1 p2 p3 p4 p5 p6 p7 p8 pl
                    go_wp2_with fail
                    refine (put2_any (b + 1) b _ (actText x) w5 (HBA.out.here HB5.out) (by have := HLN.out; omega) (by have := HLN.out; omega) (Nat.le_trans HSZ.out HB5.out.size)).mono ?_
                    rintro e w7 ⟨rfl, hba, hmv⟩
                    have HBA6 := Lib.hid hba
                    have HMV6 := Lib.hid (HMV.out.trans ((Moves.of_below HB5.out).trans hmv))
                    clear hba hmv
                    go_wp2
                    go_roundw
                    case rel => exact ⟨j + 1, by omega, by go_num, Lib.hid (by rw [HNX.out, ← List.append_assoc]; exact HBA6.out), HMV6⟩
                    case measure => simp [intOf]; omega
                  · obtain rfl : j = zs.length := by omega
                    have hba := HBA.out
                    rw [List.take_length, show cs.flatMap textP ++ linesL ls ++ ([114, 117, 110] ++ [10]) ++ linesA zs = textS cs ls zs from rfl] at hba
                    have HBAZ := Lib.hid hba
                    have hne : textS cs ls zs ≠ [] := by unfold textS; simp
                    have HLC : Hid (Calls Tryz.prog 96 #[.pointer (some ⟨b, 0, none⟩)] wr fun e w' => e = .returned (.int .i64 ((textS cs ls zs).length : Int)) ∧ w' = wr) := Lib.hid (by
                      have := Tryz.Builder_Len b b _ wr (hba.kit (by omega))
                      rw [cellsB_length] at this
                      exact this)
                    have HSC := Lib.hid (bString_any (b + 1) b _ wr hba hne)
                    clear hba hne hlt
                    by_cases h4 : 4194304 < (textS cs ls zs).length
                    · have HT : Hid (sText cs ls zs = ([], 3)) := Lib.hid (by rw [HT1.out, if_pos h4])
                      have d4 : decide ((4194304 : Int) < ((textS cs ls zs).length : Int)) = true := decide_eq_true (by omega)
                      clear h4
                      go_wp2_with fail
                      refine HLC.out.mono ?_
                      rintro e w7 ⟨rfl, rfl⟩
                      go_wp2
                      exact bodyPost_ret (v := .tuple #[.string ⟨#[]⟩, .int .i64 3]) (by simp [results, Tryz.results44, go_sem]) rfl ⟨by unfold TextRes; rw [HT.out]; rfl, HBW.out⟩
                    · have HT : Hid (sText cs ls zs = (textS cs ls zs, 0)) := Lib.hid (by rw [HT1.out, if_neg h4])
                      have d4 : decide ((4194304 : Int) < ((textS cs ls zs).length : Int)) = false := decide_eq_false (by omega)
                      clear h4
                      go_wp2_with fail
                      refine HLC.out.mono ?_
                      rintro e w7 ⟨rfl, rfl⟩
                      go_wp2_with fail
                      refine HSC.out.mono ?_
                      rintro e w8 ⟨rfl, hmv⟩
                      have HBZ := Lib.hid (HB3.out.trans ((HMV.out.trans hmv).below (B := w.heap.size) (by omega) (by omega) (by omega)))
                      go_wp2
                      exact bodyPost_ret (v := .tuple #[.string (str (textS cs ls zs)), .int .i64 0]) (by simp [results, Tryz.results44, go_sem]) rfl ⟨by unfold TextRes; rw [HT.out], HBZ.out⟩
end Go.Proofs.YtfbangojgjcbcaaGreatDoor
namespace Go.Proofs.YtfbangojgjcbcaaGreatDoor
open Go.RowKit Pl
structure SmallSet (cs : List Cfg) (ls : List Lk) : Prop where
  nc : cs.length ≤ 40
  nl : ls.length ≤ 300
  confs : ∀ c ∈ cs, c.own.length ≤ 300 ∧ c.ports.length ≤ 300
def GreatRes (cs : List Cfg) (ls : List Lk) (e : Ending) : Prop := ∃ b, e = .returned (.bool b) ∧ (b = false → SmallSet cs ls)
theorem all_next {α : Type} {P : α → Prop} {xs : List α} {j : Nat} {x : α} (hx : xs[j]? = some x) (h : ∀ y ∈ xs.take j, P y) (hp : P x) : ∀ y ∈ xs.take (j + 1), P y := fun y hy => by
  rw [take_at hx] at hy
  rcases List.mem_append.1 hy with h' | h'
  · exact h y h'
  · simp only [List.mem_singleton] at h'
    rw [h']; exact hp
set_option maxRecDepth 100000 in
set_option maxHeartbeats 2000000 in
theorem rgreat_any (cv lv : Value) (cs : List Cfg) (ls : List Lk) (w : World) (hc : Confs w cv cs) (hl : Links w lv ls) (hcl : cs.length ≤ 9223372036854775807) :
    Calls Tryz.prog 97 #[.agg #[cv, lv]] w fun e w' => GreatRes cs ls e ∧ Below w.heap.size w w' := by
  obtain ⟨A1, k1, rfl, -⟩ := id hc
  obtain ⟨A2, k2, rfl, -⟩ := id hl
  obtain ⟨W0, hW0⟩ : ∃ W0, w.alloc (.cells #[.slice A1 cs.length k1, .slice A2 ls.length k2] 73) = W0 := ⟨_, rfl⟩
  have hb0 : Below w.heap.size w W0 := by rw [← hW0]; exact (Below.refl _ _).alloc (Nat.le_refl _) _
  have HB0 := Lib.hid hb0
  have HC0 := Lib.hid (hc.here hb0)
  have HX0 : Hid (Whole W0 w.heap.size 73 #[.slice A1 cs.length k1, .slice A2 ls.length k2]) := Lib.hid (by rw [← hW0]; exact Whole.new w _ _)
  have HW0 := Lib.hid hW0
  have b0 : W0.cell? ⟨w.heap.size, 0, none⟩ = some (.slice A1 cs.length k1) := HX0.out.cell 0
  have b1 : W0.cell? ⟨w.heap.size, 1, none⟩ = some (.slice A2 ls.length k2) := HX0.out.cell 1
  have bl : w.heap.size < W0.heap.size := HX0.out.lt
  clear hW0 hc hb0 hl
  by_cases h40 : 40 < cs.length
  · have d1 : decide ((40 : Int) < (cs.length : Int)) = true := decide_eq_true (by omega)
    clear h40
    go_enter Tryz.func97, Tryz.ntmps97
    go_upto_region 1 with fail
    rw [HW0.out]
    go_wp2
    go_ret
    exact ⟨⟨true, rfl, fun h => by cases h⟩, HB0.out⟩
  · have d1 : decide ((40 : Int) < (cs.length : Int)) = false := decide_eq_false (by omega)
    by_cases h300 : 300 < ls.length
    · have d2 : decide ((300 : Int) < (ls.length : Int)) = true := decide_eq_true (by omega)
      clear h300 h40
      go_enter Tryz.func97, Tryz.ntmps97
      go_upto_region 1 with fail
      rw [HW0.out]
      go_wp2
      go_ret
      exact ⟨⟨true, rfl, fun h => by cases h⟩, HB0.out⟩
    · have d2 : decide ((300 : Int) < (ls.length : Int)) = false := decide_eq_false (by omega)
      have HN : Hid (cs.length ≤ 40 ∧ ls.length ≤ 300) := Lib.hid ⟨by omega, by omega⟩
      clear h300 h40
      go_enter Tryz.func97, Tryz.ntmps97
      go_upto_region 1 with fail
      rw [HW0.out]
      go_wp2
      go_loop [3] (fun i => ∃ j : Nat, j ≤ cs.length ∧ i = .int .i64 j ∧ Hid (∀ c ∈ cs.take j, c.own.length ≤ 300 ∧ c.ports.length ≤ 300)) (fun i => cs.length - (intOf i).toNat)
      case atStart => exact ⟨0, Nat.zero_le _, rfl, Lib.hid (fun c h => by simp at h)⟩
      case round =>
        obtain ⟨j, hj, rfl, HF⟩ := hrel
        by_cases hlt : j < cs.length
        · obtain ⟨c, hcj⟩ : ∃ c, cs[j]? = some c := ⟨_, List.getElem?_eq_getElem hlt⟩
          obtain ⟨b, off, rfl, hbl, hq⟩ := HC0.out.at hcj
          obtain ⟨A3, k3, A4, k4, -, c0, c1, c2, c3, c4, c5, c6, c7, c8, c9, c10⟩ := hq.cfg
          have HCJ := Lib.hid hcj
          clear hcj hq c0 c1 c4 c5 c6 c7 c8 c9 c10
          by_cases ho : 300 < c.own.length
          · have d3 : decide ((300 : Int) < (c.own.length : Int)) = true := decide_eq_true (by omega)
            clear ho
            go_wp2
            go_ret
            exact ⟨⟨true, rfl, fun h => by cases h⟩, HB0.out⟩
          · have d3 : decide ((300 : Int) < (c.own.length : Int)) = false := decide_eq_false (by omega)
            by_cases hp : 300 < c.ports.length
            · have d4 : decide ((300 : Int) < (c.ports.length : Int)) = true := decide_eq_true (by omega)
              clear hp ho
              go_wp2
              go_ret
              exact ⟨⟨true, rfl, fun h => by cases h⟩, HB0.out⟩
            · have d4 : decide ((300 : Int) < (c.ports.length : Int)) = false := decide_eq_false (by omega)
              have HN2 := Lib.hid (all_next HCJ.out HF.out ⟨by omega, by omega⟩)
              clear hp ho
              go_wp2
              go_round
              case rel => exact ⟨j + 1, by omega, by go_num, HN2⟩
              case measure => simp [intOf]; omega
        · obtain rfl : j = cs.length := by omega
          have HP : Hid (SmallSet cs ls) := Lib.hid ⟨HN.out.1, HN.out.2, by have := HF.out; rwa [List.take_length] at this⟩
          go_wp2
          go_ret
          exact ⟨⟨false, rfl, fun _ => HP.out⟩, HB0.out⟩
/-- How many bytes acts bear. -/
def bytesA (zs : List ActP) : Nat := (zs.map fun a => a.bytes.length).sum
structure SmallScr (cs : List Cfg) (ls : List Lk) (zs : List ActP) : Prop where
  set : SmallSet cs ls
  na : zs.length ≤ 200
  bytes : bytesA zs ≤ 60000
def MuchRes (cs : List Cfg) (ls : List Lk) (zs : List ActP) (e : Ending) : Prop := ∃ b, e = .returned (.bool b) ∧ (b = false → SmallScr cs ls zs)
theorem bytesA_step {zs : List ActP} {j : Nat} {a : ActP} (h : zs[j]? = some a) : bytesA (zs.take (j + 1)) = bytesA (zs.take j) + a.bytes.length := by
  unfold bytesA
  rw [take_at h, List.map_append, List.sum_append]
  simp
set_option maxRecDepth 100000 in
set_option maxHeartbeats 4000000 in
theorem rmuch_any (cv lv av : Value) (cs : List Cfg) (ls : List Lk) (zs : List ActP) (w : World) (h : ScrIs w cv lv av cs ls zs) (hcl : cs.length ≤ 9223372036854775807) (hal : zs.length ≤ 9223372036854775807) :
    Calls Tryz.prog 46 #[.agg #[cv, lv, av]] w fun e w' => MuchRes cs ls zs e ∧ Below w.heap.size w w' := by
  have HS := Lib.hid h
  obtain ⟨A1, k1, rfl, -⟩ := h.confs
  obtain ⟨A2, k2, rfl, -⟩ := h.links
  obtain ⟨A3, k3, rfl, -⟩ := h.acts
  obtain ⟨W0, hW0⟩ : ∃ W0, w.alloc (.cells #[.slice A1 cs.length k1, .slice A2 ls.length k2, .slice A3 zs.length k3] 76) = W0 := ⟨_, rfl⟩
  have hb0 : Below w.heap.size w W0 := by rw [← hW0]; exact (Below.refl _ _).alloc (Nat.le_refl _) _
  have HB0 := Lib.hid hb0
  have HX0 : Hid (Whole W0 w.heap.size 76 #[.slice A1 cs.length k1, .slice A2 ls.length k2, .slice A3 zs.length k3]) := Lib.hid (by rw [← hW0]; exact Whole.new w _ _)
  have HGR := Lib.hid (rgreat_any _ _ cs ls W0 (h.confs.here hb0) (h.links.here hb0) hcl)
  have HW0 := Lib.hid hW0
  have b0 : W0.cell? ⟨w.heap.size, 0, none⟩ = some (.slice A1 cs.length k1) := HX0.out.cell 0
  have b1 : W0.cell? ⟨w.heap.size, 1, none⟩ = some (.slice A2 ls.length k2) := HX0.out.cell 1
  have b2 : W0.cell? ⟨w.heap.size, 2, none⟩ = some (.slice A3 zs.length k3) := HX0.out.cell 2
  have bl : w.heap.size < W0.heap.size := HX0.out.lt
  clear hW0 hb0 h
  go_enter Tryz.func46, Tryz.ntmps46
  go_upto_region 1 with fail
  rw [HW0.out]
  go_wp2
  go_loop [3, 4] (fun n i => ∃ j : Nat, j ≤ zs.length ∧ j ≤ 201 ∧ i = .int .i64 j ∧ n = .int .i64 (bytesA (zs.take j) : Nat) ∧ bytesA (zs.take j) ≤ 60000) (fun _ i => zs.length - (intOf i).toNat)
  case atStart => exact ⟨0, Nat.zero_le _, by omega, rfl, rfl, by simp [bytesA]⟩
  case round =>
    obtain ⟨j, hj, hj2, rfl, rfl, hn⟩ := hrel
    by_cases hlt : j < zs.length
    · by_cases h201 : j < 201
      · have d1 : decide ((j : Int) < 201) = true := decide_eq_true (by omega)
        obtain ⟨a, haj⟩ : ∃ c, zs[j]? = some c := ⟨_, List.getElem?_eq_getElem hlt⟩
        obtain ⟨b, off, rfl, hbl, bv, hbv, c0, c1, c2, c3, c4, c5, c6, c7, c8⟩ := (HS.out.here HB0.out).acts.at haj
        obtain ⟨A4, k4, rfl, -⟩ := id hbv
        have HAJ := Lib.hid (bytesA_step haj)
        have hj200 : j ≤ 200 := by omega
        clear haj hbv c0 c1 c2 c3 c4 c5 c6 c7 h201
        by_cases hbig : 60000 < bytesA (zs.take j) + a.bytes.length
        · have d2 : decide ((60000 : Int) < (bytesA (zs.take j) : Int) + min (a.bytes.length : Int) 60001) = true := decide_eq_true (by omega)
          clear hbig
          go_wp2
          go_ret
          exact ⟨⟨true, rfl, fun h => by cases h⟩, HB0.out⟩
        · have d2 : decide ((60000 : Int) < (bytesA (zs.take j) : Int) + (a.bytes.length : Int)) = false := decide_eq_false (by omega)
          have d3 : min (a.bytes.length : Int) 60001 = (a.bytes.length : Int) := by omega
          have HN : Hid (bytesA (zs.take (j + 1)) ≤ 60000) := Lib.hid (by rw [HAJ.out]; omega)
          clear hbig
          go_wp2
          go_round
          case rel => exact ⟨j + 1, by omega, by omega, by go_num, by rw [HAJ.out]; go_num, HN.out⟩
          case measure => simp [intOf]; omega
      · have d1 : decide ((j : Int) < 201) = false := decide_eq_false (by omega)
        have d2 : decide ((200 : Int) < (zs.length : Int)) = true := decide_eq_true (by omega)
        clear h201
        go_wp2
        go_ret
        exact ⟨⟨true, rfl, fun h => by cases h⟩, HB0.out⟩
    · obtain rfl : j = zs.length := by omega
      by_cases h200 : 200 < zs.length
      · have d2 : decide ((200 : Int) < (zs.length : Int)) = true := decide_eq_true (by omega)
        clear h200
        go_wp2
        go_ret
        exact ⟨⟨true, rfl, fun h => by cases h⟩, HB0.out⟩
      · have d2 : decide ((200 : Int) < (zs.length : Int)) = false := decide_eq_false (by omega)
        rw [List.take_length] at hn
        have HNN : Hid (zs.length ≤ 200 ∧ bytesA zs ≤ 60000) := Lib.hid ⟨by omega, hn⟩
        clear h200 hn
        go_wp2_with fail
        refine HGR.out.mono ?_
        rintro e w1 ⟨⟨b, rfl, hb⟩, hB⟩
        have HB := Lib.hid hb
        have HBB := Lib.hid (HB0.out.trans (hB.mono HB0.out.size))
        clear hb hB
        go_wp2
        go_ret
        exact ⟨⟨b, rfl, fun h => ⟨HB.out h, HNN.out.1, HNN.out.2⟩⟩, HBB.out⟩
end Go.Proofs.YtfbangojgjcbcaaGreatDoor
namespace Go.Proofs.YtfbangojgjcbcaaGreatDoor
open Go.RowKit Pl
theorem flat_bound {α : Type} (f : α → List UInt8) (m : Nat) : ∀ xs : List α, (∀ x ∈ xs, (f x).length ≤ m) → (xs.flatMap f).length ≤ xs.length * m
  | [], _ => by simp
  | x :: xs, h => by
    have h1 := h x (List.mem_cons_self ..)
    have h2 := flat_bound f m xs (fun y hy => h y (List.mem_cons_of_mem _ hy))
    rw [List.flatMap_cons, List.length_append, List.length_cons, Nat.succ_mul]
    omega
theorem textP_len {c : Cfg} (h : mayC c = true) : (textP c).length ≤ 1025 := by
  obtain ⟨h1, h2⟩ := lines_len h
  have := flat_bound (fun l : List UInt8 => l ++ [10]) 41 (linesP c) (fun l hl => by have := h1 l hl; simp; omega)
  unfold textP
  have h3 : (linesP c).length * 41 ≤ 25 * 41 := Nat.mul_le_mul_right _ h2
  omega
theorem mayA_parts {a : ActP} (h : mayA a = true) : K9 a ∧ a.bytes.length ≤ 2048 := by
  unfold mayA at h
  simp only [Bool.and_eq_true, decide_eq_true_eq] at h
  exact ⟨⟨h.1.1.1, h.1.1.2⟩, h.2⟩
theorem actText_len {a : ActP} (h : mayA a = true) (hi : InA a) : (actText a).length ≤ 20505 := by
  have h1 := firstA_len hi (mayA_parts h).2 (partsA a.kind.toNat).length
  rw [firstA_all] at h1
  have h2 := partsA_len a.kind.toNat
  have h3 : 4101 * (1 + (partsA a.kind.toNat).length) ≤ 4101 * 5 := Nat.mul_le_mul_left _ (by omega)
  omega
theorem small_len {cs : List Cfg} {ls : List Lk} {zs : List ActP} (hs : SmallScr cs ls zs) (hI : ∀ l ∈ ls, In4 l) (hi : ∀ a ∈ zs, InA a) (hm : maySet cs ls = true) (ha : ∀ a ∈ zs, mayA a = true) : (textS cs ls zs).length ≤ 4194304 := by
  have h1 := flat_bound textP 1025 cs (fun c hc => textP_len (maySet_confs hm c hc))
  have h2 := flat_bound (fun l => linkText l ++ [10]) 101 ls (fun l hl => by have := linkText_len (hI l hl); simp; omega)
  have h3 := flat_bound (fun a => actText a ++ [10]) 20506 zs (fun a hz => by have := actText_len (ha a hz) (hi a hz); simp; omega)
  have n1 : cs.length * 1025 ≤ 16 * 1025 := Nat.mul_le_mul_right _ (maySet_len hm)
  have n2 : ls.length * 101 ≤ 300 * 101 := Nat.mul_le_mul_right _ hs.set.nl
  have n3 : zs.length * 20506 ≤ 200 * 20506 := Nat.mul_le_mul_right _ hs.na
  unfold textS linesL linesA
  simp only [List.length_append, List.length_cons, List.length_nil]
  omega
theorem bytesA_mem : ∀ {zs : List ActP} {a : ActP}, a ∈ zs → a.bytes.length ≤ bytesA zs
  | x :: zs, a, h => by
    have e : bytesA (x :: zs) = x.bytes.length + bytesA zs := by simp [bytesA]
    rw [e]
    rcases List.mem_cons.1 h with rfl | h'
    · omega
    · have := bytesA_mem h'
      omega
/-- What is known of any script. -/
structure ScrAny (cs : List Cfg) (ls : List Lk) (zs : List ActP) : Prop where
  confs : ∀ c ∈ cs, Addrs4 c ∧ In64 c.node
  links : ∀ l ∈ ls, In4 l
  acts : ∀ a ∈ zs, InA a
  nc : cs.length ≤ 9223372036854775807
  na : zs.length ≤ 9223372036854775807
theorem small_ok {cs : List Cfg} {ls : List Lk} {zs : List ActP} (hs : SmallScr cs ls zs) (hA : ∀ c ∈ cs, Addrs4 c ∧ In64 c.node) (hI : ∀ l ∈ ls, In4 l) (hi : ∀ a ∈ zs, InA a) : ScrOk cs ls zs where
  addrs c hc := (hA c hc).1
  confs c hc := by have := hs.set.confs c hc; exact ⟨by omega, by omega, (hA c hc).2⟩
  links := hI
  acts a ha := ⟨hi a ha, by have := bytesA_mem ha; have := hs.bytes; omega⟩
  nc := by have := hs.set.nc; omega
  nl := by have := hs.set.nl; omega
  na := by have := hs.na; omega
end Go.Proofs.YtfbangojgjcbcaaGreatDoor
namespace Go.Proofs.YtfbangojgjcbcaaGreatDoor
open Go.ChangeShapes Go.WideShapes Go.ChangeAt Go.RowKit Pl
theorem arrayT3 {cs : Array Value} (h : cs.size = 3) : ∃ c0 c1 c2, cs = #[c0, c1, c2] := by
  obtain ⟨l⟩ := cs
  match l, h with
  | [c0, c1, c2], _ => exact ⟨c0, c1, c2, rfl⟩
section
variable {H : Type} {enc : TypeId × Value → H} {W : World} {base b0 : Nat} {sp : Nat → Bool} {held : Bool} {r : Reach}
theorem tCellsC : Tryz.prog.cellsOf 70 = 1 := by kernel_rfl
theorem tCellsL : Tryz.prog.cellsOf 71 = 1 := by kernel_rfl
theorem tCellsA : Tryz.prog.cellsOf 74 = 1 := by kernel_rfl
theorem tCellsS : Tryz.prog.cellsOf 73 = 2 := by kernel_rfl
theorem tCellsX : Tryz.prog.cellsOf 76 = 3 := by kernel_rfl
set_option maxRecDepth 100000 in
theorem open_script {v : Value} {d : DataW H} {p : List MemPlace} (hv : Value.okWide Tryz.prog W r b0 76 v) (h : DataW.Trod enc Tryz.prog W base sp held 76 v d p) :
    ∃ cv lv av cs ls zs, v = .agg #[cv, lv, av] ∧ ScrIs W cv lv av cs ls zs ∧ ScrAny cs ls zs := by
  obtain ⟨cs, rfl, hsz⟩ := okWide_struct Tryz.underlying76 hv
  obtain ⟨c0, c1, c2, rfl⟩ := arrayT3 (hsz.trans tCellsX)
  obtain ⟨fuel, hf⟩ := h
  obtain ⟨y0, y1, m, _, _, h0, h1⟩ := trod_struct2 Tryz.underlying76 hf
  simp only [Value.cells, tCellsS, tCellsA, List.drop_zero, List.drop_succ_cons, List.take_succ_cons, List.take_zero] at h0 h1
  obtain ⟨z0, z1, m2, _, _, g0, g1⟩ := trod_struct2 Tryz.underlying73 h0
  simp only [tCellsC, tCellsL, List.drop_zero, List.drop_succ_cons, List.take_succ_cons, List.take_zero] at g0 g1
  obtain ⟨cs, hc, hcl, hcp⟩ := openT_confs g0
  obtain ⟨ls, hl, hll, hlp⟩ := openT_links g1
  obtain ⟨zs, ha, hal, hap⟩ := openT_acts h1
  refine ⟨c0, c1, c2, cs, ls, zs, rfl, ⟨hc, hl, ha⟩, ⟨hcp, hlp, hap, hcl, hal⟩⟩
end
end Go.Proofs.YtfbangojgjcbcaaGreatDoor
namespace Go.Proofs.YtfbangojgjcbcaaGreatDoor
open Go.RowKit Pl Go.Shelf
/-- A text's lines, each with its end. -/
def afterL (l : List UInt8) : List (List UInt8) := Lib.splitK [10] 1 (l.count 10) l
set_option maxRecDepth 100000 in
set_option maxHeartbeats 1000000 in
theorem splitAfter_any (l : List UInt8) (w : World) (hl : l.length ≤ 1000000000) (E : Env w) :
    Calls Tryz.prog 88 #[.string (str l), .string ⟨#[10]⟩] w fun e w' => (∃ v, e = .returned v ∧ Parts w' v (afterL l)) ∧ Below w.heap.size w w' := by
  obtain ⟨m, hm⟩ := E.maxlen
  have hc : Lib.countB (str l) (str [10]) = l.count 10 := by show Lib.count _ _ = _; rw [str_data, str_data, Lib.count_one]
  have hle := Lib.countB_le (str [10]) (by rw [str_size]; simp) _ (str l) (Nat.le_refl _)
  have hlen := Lib.splitB_all (str [10]) (by rw [str_size]; simp) 1 _ (str l) rfl
  have hd := Lib.splitB_data (str [10]) 1 (l.count 10) (str l)
  rw [str_data, str_data] at hd
  have hsp : Lib.splitB (str [10]) 1 (Lib.countB (str l) (str [10])) (str l) = (afterL l).map str := by
    rw [hc]
    unfold afterL
    rw [← hd, List.map_map]
    have : (str ∘ fun x : ByteArray => x.data.toList) = id := by funext x; simp [str]
    rw [this, List.map_id]
  have HG := Lib.hid (Tryz.strings_genSplit (str l) (str [10]) 1 (-1) (Lib.countB (str l) (str [10]) + 1) m w (by rw [str_size]; omega) hm (by rw [str_size]; simp) (by rw [str_size]; simp) (by decide) (by decide) (by simp; omega))
  have hal : (afterL l).length = Lib.countB (str l) (str [10]) + 1 := by rw [← hlen, hsp, List.length_map]
  have HL := Lib.hid hlen
  have HS := Lib.hid hsp
  have HA := Lib.hid hal
  clear hm hc hle hlen hd hsp hal
  go_enter Tryz.func88, Tryz.ntmps88
  go_wp2_with fail
  refine HG.out.mono ?_
  rintro e w' ⟨rfl, rfl⟩
  go_wp2
  go_ret
  rw [HS.out]
  refine ⟨⟨_, rfl, w.heap.size, ?_, by simp, fun j x hx => ?_⟩, (Below.refl _ _).alloc (Nat.le_refl _) _⟩
  · rw [List.length_map, HA.out]; rfl
  · have : (Lib.cellsOf ((afterL l).map str) (Lib.countB (str l) (str [10]) + 1)) = (((afterL l).map str).map Value.string).toArray := by
      have := Lib.cellsOf_full ((afterL l).map str)
      rw [List.length_map, HA.out] at this
      exact this
    rw [this]
    have hj := (List.getElem?_eq_some_iff.1 hx).1
    have := (Whole.new w 9 (((afterL l).map str).map Value.string).toArray).cell j
    rw [this]
    simp [hx]
theorem cline_none (b : Nat) (s : ByteArray) (w : World) (hb : Whole w b 146 #[.slice none 0 0, .slice none 0 0, .slice none 0 0, .bool false]) :
    Calls Tryz.prog 91 #[.pointer (some ⟨b, 0, none⟩), .string s] w fun e w' => e = .returned (.bool false) ∧ w = w' := by
  have r0 := hb.cell 0
  have r1 := hb.cell 1
  have r2 := hb.cell 2
  have r3 := hb.cell 3
  simp only [List.getElem?_toArray, List.getElem?_cons_succ, List.getElem?_cons_zero] at r0 r1 r2 r3
  have hlt := hb.lt
  clear hb
  go_enter Tryz.func91, Tryz.ntmps91
  go_wp2
  go_ret
  exact ⟨rfl, rfl⟩
theorem cutS_run (w : World) : Calls Tryz.prog 89 #[.string (str [114, 117, 110, 10]), .string ⟨#[10]⟩] w fun e w' => e = .returned (.tuple #[.string ⟨#[114, 117, 110]⟩, .bool true]) ∧ w = w' := by
  refine (Tryz.strings_CutSuffix (str [114, 117, 110, 10]) ⟨#[10]⟩ w (by decide)).mono ?_
  rintro e w' ⟨rfl, rfl⟩
  exact ⟨rfl, rfl⟩
theorem cutW_run (w : World) (E : Env w) : Calls Tryz.prog 52 #[.string ⟨#[114, 117, 110]⟩, .string ⟨#[32]⟩] w fun e w' => (∃ f, e = .returned (.tuple #[.string ⟨#[114, 117, 110]⟩, .string ⟨#[]⟩, .bool f])) ∧ Below w.heap.size w w' := by
  have := cut_any 32 [114, 117, 110] w (by decide) E
  rw [show cutA 32 [114, 117, 110] = [114, 117, 110] by decide +kernel, show cutB 32 [114, 117, 110] = [] by decide +kernel] at this
  exact this
set_option maxRecDepth 100000 in
set_option maxHeartbeats 1000000 in
theorem sparse_empty (w : World) (E : Env w) :
    Calls Tryz.prog 43 #[.string ⟨#[]⟩] w fun e w' => e = .returned (.tuple #[.agg #[.slice none 0 0, .slice none 0 0, .slice none 0 0], .int .i64 0, .int .i64 4]) ∧ Below w.heap.size w w' := by
  obtain ⟨W0, hW0⟩ : ∃ W0, (w.alloc (.cells #[.slice none 0 0, .slice none 0 0, .slice none 0 0] 76)).alloc (.cells #[.slice none 0 0, .slice none 0 0, .slice none 0 0, .bool false] 146) = W0 := ⟨_, rfl⟩
  have HB0 : Hid (Below w.heap.size w W0) := Lib.hid (by rw [← hW0]; exact ((Below.refl _ _).alloc (Nat.le_refl _) _).alloc (by simp) _)
  have HX0 : Hid (Whole W0 w.heap.size 76 #[.slice none 0 0, .slice none 0 0, .slice none 0 0]) := Lib.hid (by rw [← hW0]; exact (Whole.new w _ _).alloc _)
  have HR0 : Hid (Whole W0 (w.heap.size + 1) 146 #[.slice none 0 0, .slice none 0 0, .slice none 0 0, .bool false]) := Lib.hid (by
    rw [← hW0]
    have := Whole.new (w.alloc (.cells #[.slice none 0 0, .slice none 0 0, .slice none 0 0] 76)) 146 #[.slice none 0 0, .slice none 0 0, .slice none 0 0, .bool false]
    simpa using this)
  have HW0 := Lib.hid hW0
  have E0 := Lib.hid (E.here HB0.out)
  have HS := Lib.hid (splitAfter_any [] W0 (by decide) E0.out)
  have hal : afterL [] = [[]] := by decide +kernel
  rw [hal] at HS
  clear hW0 E hal
  go_enter Tryz.func43, Tryz.ntmps43
  go_wp2
  go_step3
  go_wp2_with fail
  rw [HW0.out]
  refine HS.out.mono ?_
  rintro e w1 ⟨⟨v, rfl, g, rfl, hg, hc⟩, hb1⟩
  have HB1 := Lib.hid (HB0.out.trans (hb1.mono HB0.out.size))
  have E1 := Lib.hid (E0.out.here hb1)
  have HX1 := Lib.hid (HX0.out.here hb1)
  have HR1 := Lib.hid (HR0.out.here hb1)
  have c0 : w1.cell? ⟨g, 0, none⟩ = some (.string (str [])) := hc 0 [] rfl
  have z0 : w1.cell? ⟨w.heap.size, 0, none⟩ = some (.slice none 0 0) := HX1.out.cell 0
  have z1 : w1.cell? ⟨w.heap.size, 1, none⟩ = some (.slice none 0 0) := HX1.out.cell 1
  have z2 : w1.cell? ⟨w.heap.size, 2, none⟩ = some (.slice none 0 0) := HX1.out.cell 2
  have f0 : w1.frozen? ⟨w.heap.size, 0, none⟩ = false := HX1.out.frozen 0
  have f1 : w1.frozen? ⟨w.heap.size, 1, none⟩ = false := HX1.out.frozen 1
  have f2 : w1.frozen? ⟨w.heap.size, 2, none⟩ = false := HX1.out.frozen 2
  have r3 : w1.cell? ⟨w.heap.size + 1, 3, none⟩ = some (.bool false) := HR1.out.cell 3
  have hlt := HX1.out.lt
  have hlt2 := HR1.out.lt
  have hstr : (str []).size = 0 := rfl
  clear hb1 hc
  go_wp2
  go_step3
  go_wp2
  go_loopw [7, 8] (fun i g wr => i = .int .i64 0 ∧ g = .bool true ∧ wr = w1) (fun _ _ _ => 0)
  case atStart => exact ⟨rfl, rfl, rfl⟩
  case round =>
    obtain ⟨rfl, rfl, rfl⟩ := hrel
    go_wp2
    try rw [Exit.noGoto_ret]
    exact bodyPost_ret (v := .tuple #[.agg #[.slice none 0 0, .slice none 0 0, .slice none 0 0], .int .i64 0, .int .i64 4]) (by simp [results, Tryz.results43, go_sem, z0, z1, z2]) rfl ⟨rfl, ((HB1.out.setCell (p := ⟨w.heap.size, 0, none⟩) (Nat.le_refl _) _).setCell (p := ⟨w.heap.size, 1, none⟩) (Nat.le_refl _) _).setCell (p := ⟨w.heap.size, 2, none⟩) (Nat.le_refl _) _⟩
set_option maxRecDepth 100000 in
set_option maxHeartbeats 1000000 in
theorem sparse_run (w : World) (E : Env w) :
    Calls Tryz.prog 43 #[.string ⟨#[114, 117, 110, 10]⟩] w fun e w' => e = .returned (.tuple #[.agg #[.slice none 0 0, .slice none 0 0, .slice none 0 0], .int .i64 0, .int .i64 4]) ∧ Below w.heap.size w w' := by
  obtain ⟨W0, hW0⟩ : ∃ W0, (w.alloc (.cells #[.slice none 0 0, .slice none 0 0, .slice none 0 0] 76)).alloc (.cells #[.slice none 0 0, .slice none 0 0, .slice none 0 0, .bool false] 146) = W0 := ⟨_, rfl⟩
  have HB0 : Hid (Below w.heap.size w W0) := Lib.hid (by rw [← hW0]; exact ((Below.refl _ _).alloc (Nat.le_refl _) _).alloc (by simp) _)
  have HX0 : Hid (Whole W0 w.heap.size 76 #[.slice none 0 0, .slice none 0 0, .slice none 0 0]) := Lib.hid (by rw [← hW0]; exact (Whole.new w _ _).alloc _)
  have HR0 : Hid (Whole W0 (w.heap.size + 1) 146 #[.slice none 0 0, .slice none 0 0, .slice none 0 0, .bool false]) := Lib.hid (by
    rw [← hW0]
    have := Whole.new (w.alloc (.cells #[.slice none 0 0, .slice none 0 0, .slice none 0 0] 76)) 146 #[.slice none 0 0, .slice none 0 0, .slice none 0 0, .bool false]
    simpa using this)
  have HW0 := Lib.hid hW0
  have E0 := Lib.hid (E.here HB0.out)
  have HS := Lib.hid (splitAfter_any [114, 117, 110, 10] W0 (by decide) E0.out)
  have hal : afterL [114, 117, 110, 10] = [[114, 117, 110, 10], []] := by decide +kernel
  rw [hal] at HS
  clear hW0 E hal
  go_enter Tryz.func43, Tryz.ntmps43
  go_wp2
  go_step3
  go_wp2_with fail
  rw [HW0.out]
  refine HS.out.mono ?_
  rintro e w1 ⟨⟨v, rfl, g, rfl, hg, hc⟩, hb1⟩
  have HB1 := Lib.hid (HB0.out.trans (hb1.mono HB0.out.size))
  have E1 := Lib.hid (E0.out.here hb1)
  have HX1 := Lib.hid (HX0.out.here hb1)
  have HR1 := Lib.hid (HR0.out.here hb1)
  have c0 : w1.cell? ⟨g, 0, none⟩ = some (.string (str [114, 117, 110, 10])) := hc 0 _ rfl
  have c1 : w1.cell? ⟨g, 1, none⟩ = some (.string (str [])) := hc 1 _ rfl
  have z0 : w1.cell? ⟨w.heap.size, 0, none⟩ = some (.slice none 0 0) := HX1.out.cell 0
  have z1 : w1.cell? ⟨w.heap.size, 1, none⟩ = some (.slice none 0 0) := HX1.out.cell 1
  have z2 : w1.cell? ⟨w.heap.size, 2, none⟩ = some (.slice none 0 0) := HX1.out.cell 2
  have f0 : w1.frozen? ⟨w.heap.size, 0, none⟩ = false := HX1.out.frozen 0
  have f1 : w1.frozen? ⟨w.heap.size, 1, none⟩ = false := HX1.out.frozen 1
  have f2 : w1.frozen? ⟨w.heap.size, 2, none⟩ = false := HX1.out.frozen 2
  have r3 : w1.cell? ⟨w.heap.size + 1, 3, none⟩ = some (.bool false) := HR1.out.cell 3
  have hlt := HX1.out.lt
  have hlt2 := HR1.out.lt
  have hstr : (str []).size = 0 := rfl
  clear hb1 hc
  go_wp2
  go_step3
  go_wp2
  go_loopw [7, 8] (fun i g wr => i = .int .i64 0 ∧ g = .bool true ∧ wr = w1) (fun _ _ _ => 0)
  case atStart => exact ⟨rfl, rfl, rfl⟩
  case round =>
    obtain ⟨rfl, rfl, rfl⟩ := hrel
    go_wp2_with fail
    refine (cutS_run _).mono ?_
    rintro e w2 ⟨rfl, rfl⟩
    go_wp2_with fail
    refine (cutW_run _ E1.out).mono ?_
    rintro e w2 ⟨⟨f, rfl⟩, hb2⟩
    have HB2 := Lib.hid (HB1.out.trans (hb2.mono HB1.out.size))
    have HX2 := Lib.hid (HX1.out.here hb2)
    have HR2 := Lib.hid (HR1.out.here hb2)
    clear hb2 z0 z1 z2 f0 f1 f2 r3 hlt hlt2 c0 c1
    have z0 : w2.cell? ⟨w.heap.size, 0, none⟩ = some (.slice none 0 0) := HX2.out.cell 0
    have f0 : w2.frozen? ⟨w.heap.size, 0, none⟩ = false := HX2.out.frozen 0
    have z1 : w2.cell? ⟨w.heap.size, 1, none⟩ = some (.slice none 0 0) := HX2.out.cell 1
    have f1 : w2.frozen? ⟨w.heap.size, 1, none⟩ = false := HX2.out.frozen 1
    have z2 : w2.cell? ⟨w.heap.size, 2, none⟩ = some (.slice none 0 0) := HX2.out.cell 2
    have f2 : w2.frozen? ⟨w.heap.size, 2, none⟩ = false := HX2.out.frozen 2
    have r3 : w2.cell? ⟨w.heap.size + 1, 3, none⟩ = some (.bool false) := HR2.out.cell 3
    have hlt := HX2.out.lt
    have hlt2 := HR2.out.lt
    go_wp2_with (go_at_call 91; refine (cline_none _ _ _ HR2.out).mono ?_; rintro e w3 ⟨rfl, rfl⟩)
    try rw [Exit.noGoto_ret]
    exact bodyPost_ret (v := .tuple #[.agg #[.slice none 0 0, .slice none 0 0, .slice none 0 0], .int .i64 0, .int .i64 4]) (by simp [results, Tryz.results43, go_sem, z0, z1, z2]) rfl ⟨rfl, ((HB2.out.setCell (p := ⟨w.heap.size, 0, none⟩) (Nat.le_refl _) _).setCell (p := ⟨w.heap.size, 1, none⟩) (Nat.le_refl _) _).setCell (p := ⟨w.heap.size, 2, none⟩) (Nat.le_refl _) _⟩
end Go.Proofs.YtfbangojgjcbcaaGreatDoor
namespace Go.Proofs.YtfbangojgjcbcaaGreatDoor.Pl
abbrev Ln := List UInt8
/-- A text's lines, each with its end; the last is what is behind the last end. -/
def afterP : Ln → List Ln
  | [] => [[]]
  | x :: r => if x = 10 then [10] :: afterP r else consHd x (afterP r)
/-- A text's lines. -/
def linesT : Ln → List Ln
  | [] => []
  | x :: r => if x = 10 then [10] :: linesT r else consHd x (linesT r)
theorem after_eq : ∀ s : List UInt8, Lib.splitK [10] 1 (Lib.count s [10]) s = afterP s := by
  intro s
  induction s with
  | nil => rw [Lib.count_one]; rfl
  | cons x r ih =>
    by_cases h : x = 10
    · subst h
      rw [Lib.count_cons_eq, Nat.add_comm, Lib.splitK, index_cons]
      simp [afterP, ih]
    · rw [Lib.count_cons_ne x 10 r h]
      simp only [afterP, if_neg h]
      rw [← ih]
      cases hk : Lib.count r [10] with
      | zero => rfl
      | succ k =>
        have hge := Lib.index_ge r [10]
        rw [Lib.splitK, Lib.splitK, index_cons, if_neg h]
        by_cases hi : Lib.index r [10] = -1
        · simp [hi, consHd]
        · have hi' : (Lib.index r [10] == -1) = false := by simpa using hi
          have hn : (Lib.index r [10] + 1 == -1) = false := by simp; omega
          rw [hi']
          simp only [Bool.false_eq_true, if_false, hn, List.length_singleton]
          have e1 : (Lib.index r [10] + 1).toNat = (Lib.index r [10]).toNat + 1 := by omega
          rw [e1]
          simp [Nat.add_assoc, Nat.add_comm 1, consHd, List.take_succ_cons]
theorem after_lines : ∀ l : Ln, afterP l = linesT l ++ [[]] ∨ (afterP l = linesT l ∧ ∃ i z, linesT l = i ++ [z] ∧ z ≠ [])
  | [] => .inl rfl
  | x :: r => by
    have ih := after_lines r
    by_cases h : x = 10
    · simp only [afterP, linesT, if_pos h]
      rcases ih with e | ⟨e, i, z, e2, hz⟩
      · exact .inl (by rw [e]; rfl)
      · exact .inr ⟨by rw [e], [10] :: i, z, by rw [e2]; rfl, hz⟩
    · simp only [afterP, linesT, if_neg h]
      rcases ih with e | ⟨e, i, z, e2, hz⟩
      · rw [e]
        cases linesT r with
        | nil => exact .inr ⟨rfl, [], [x], rfl, by simp⟩
        | cons a t => exact .inl rfl
      · rw [e, e2]
        cases i with
        | nil => exact .inr ⟨rfl, [], x :: z, rfl, by simp⟩
        | cons a t => exact .inr ⟨rfl, (x :: a) :: t, z, rfl, hz⟩
theorem lines_flat : ∀ l : Ln, (linesT l).flatten = l
  | [] => rfl
  | x :: r => by
    have ih := lines_flat r
    by_cases h : x = 10
    · rw [linesT, if_pos h, List.flatten_cons, ih, h]; rfl
    · simp only [linesT, if_neg h]
      cases e : linesT r with
      | nil => rw [e] at ih; simp [consHd] at ih ⊢; exact ih
      | cons a t => rw [e] at ih; simp [consHd] at ih ⊢; exact ih
theorem lines_one : ∀ (l r : Ln), noNl l → linesT (l ++ 10 :: r) = (l ++ [10]) :: linesT r
  | [], r, _ => by simp [linesT]
  | x :: l, r, h => by
    unfold noNl at h
    simp only [List.mem_cons, not_or] at h
    have hx : ¬ x = 10 := fun e => h.1 e.symm
    rw [List.cons_append, linesT, if_neg hx, lines_one l r h.2]
    rfl
def ends (ls : List Ln) : List Ln := ls.map (· ++ [10])
theorem lines_all : ∀ (ls : List Ln) (r : Ln), (∀ l ∈ ls, noNl l) → linesT (ls.flatMap (· ++ [10]) ++ r) = ends ls ++ linesT r
  | [], r, _ => rfl
  | l :: ls, r, h => by
    have h1 := lines_all ls r fun x hx => h x (List.mem_cons_of_mem _ hx)
    have h2 := lines_one l (ls.flatMap (· ++ [10]) ++ r) (h l (List.mem_cons_self ..))
    rw [List.flatMap_cons, List.append_assoc, List.append_assoc, List.singleton_append, h2, h1]
    rfl
/-- Has the line its end? What is ahead of it. -/
def whole (l : Ln) : Bool := l.getLast? == some 10
def body (l : Ln) : Ln := if whole l then l.dropLast else l
theorem whole_end (l : Ln) : whole (l ++ [10]) = true := by unfold whole; simp
theorem body_end (l : Ln) : body (l ++ [10]) = l := by unfold body; rw [if_pos (whole_end l)]; simp
theorem whole_body {l : Ln} (h : whole l = true) : body l ++ [10] = l := by
  unfold body
  rw [if_pos h]
  unfold whole at h
  have h1 : l.getLast? = some 10 := by simpa using h
  obtain ⟨i, rfl⟩ := List.getLast?_eq_some_iff.1 h1
  simp
/-- A configuration's lines, of lines that begin with it. -/
def blockP : List Ln → List Ln
  | [] => []
  | l :: r => if cutA 32 l = wRefill then [l] else l :: blockP r
theorem block_take : ∀ L : List Ln, L.take (blockP L).length = blockP L
  | [] => rfl
  | l :: r => by
    unfold blockP
    split
    · simp
    · simp [block_take r]
theorem block_pos {l : Ln} {r : List Ln} : 1 ≤ (blockP (l :: r)).length := by
  unfold blockP
  split
  · simp
  · simp
theorem block_flat (L : List Ln) : (blockP L).flatten ++ (L.drop (blockP L).length).flatten = L.flatten := by
  rw [← List.flatten_append]
  congr 1
  have h := List.take_append_drop (blockP L).length L
  rw [block_take] at h
  exact h
theorem block_app : ∀ (a : List Ln) (z : Ln) (r : List Ln), (∀ l ∈ a, ¬ cutA 32 l = wRefill) → cutA 32 z = wRefill → blockP (a ++ z :: r) = a ++ [z]
  | [], z, r, _, hz => by simp [blockP, hz]
  | x :: a, z, r, h, hz => by
    rw [List.cons_append, blockP, if_neg (h x (List.mem_cons_self ..)), block_app a z r (fun l hl => h l (List.mem_cons_of_mem _ hl)) hz]
    rfl
/-- What is read so far. -/
structure St where
  cs : List Cfg := []
  ls : List Lk := []
  zs : List ActP := []
  run : Bool := false
def wRun : Ln := [114, 117, 110]
/-- A line that is no configuration's. -/
def lineS (st : St) (s : Ln) : Option St :=
  if st.run then (match actC s with
    | some a => if st.zs.length + 1 ≤ 65536 then some { st with zs := st.zs ++ [a] } else none
    | none => none)
  else if st.cs.isEmpty then none
  else if s = wRun then some { st with run := true }
  else match linkC s with
    | some l => if maySet st.cs (st.ls ++ [l]) then some { st with ls := st.ls ++ [l] } else none
    | none => none
/-- The first wrong line of lines that are, together, too long. -/
def firstLn (l : List Ln) : Nat → Nat
  | 0 => 0
  | n + 1 => if (parseC (l.take (n + 1)).flatten).2.2 = 3 then firstLn l n else (parseC (l.take (n + 1)).flatten).2.1
/-- A configuration that is to be taken: it, or none; how many lines. -/
def confS (st : St) (L : List Ln) : Option Cfg × Nat :=
  if (parseC (blockP L).flatten).2.2 = 3 then (none, firstLn (blockP L) (blockP L).length)
  else if (parseC (blockP L).flatten).2.2 = 0 then
    (if maySet (st.cs ++ [(parseC (blockP L).flatten).1]) st.ls && st.ls.isEmpty then (some (parseC (blockP L).flatten).1, (blockP L).length) else (none, 0))
  else (none, (parseC (blockP L).flatten).2.1)
/-- The lines; k of them are read already. -/
def goS : List Ln → Nat → St → Nat → Option St × Nat
  | [], _, st, n => (some st, n)
  | _ :: r, k + 1, st, n => goS r k st n
  | l :: r, 0, st, n =>
    if !st.run && decide (cutA 32 (body l) = wNode) then
      (match confS st (l :: r) with
      | (some c, k) => goS r (k - 1) { st with cs := st.cs ++ [c] } (n + k)
      | (none, k) => (none, n + k))
    else if whole l then (match lineS st (body l) with
      | some st' => goS r 0 st' (n + 1)
      | none => (none, n))
    else (none, n)
def parseS (text : Ln) : Option St × Nat × Int :=
  if 4194304 < text.length then (none, 0, 3) else
  match goS (linesT text) 0 {} 0 with
  | (some st, n) => if st.run then (some st, 0, 0) else (none, n, 4)
  | (none, n) => (none, n, 4)
theorem goS_drop : ∀ (L : List Ln) (k : Nat) (st : St) (n : Nat), goS L k st n = goS (L.drop k) 0 st n
  | [], 0, _, _ => rfl
  | [], _ + 1, _, _ => rfl
  | _ :: _, 0, _, _ => rfl
  | _ :: r, k + 1, st, n => by
    rw [goS, List.drop_succ_cons]
    exact goS_drop r k st n
/-- What is known of what is read. -/
structure SOk (st : St) : Prop where
  zs : st.run = false → st.zs = []
  none : st.cs = [] → st.ls = [] ∧ st.run = false
  may : st.cs ≠ [] → maySet st.cs st.ls = true
  acts : ∀ a ∈ st.zs, mayA a = true ∧ InA a
  na : st.zs.length ≤ 65536
  confs : ∀ c ∈ st.cs, Addrs4 c ∧ In64 c.node
  links : ∀ l ∈ st.ls, In4 l
theorem SOk.start : SOk {} := ⟨fun _ => rfl, fun _ => ⟨rfl, rfl⟩, fun h => absurd rfl h, by simp, by simp, by simp, by simp⟩
/-- What is read, as a text. -/
def partS (st : St) : Ln := st.cs.flatMap textP ++ st.ls.flatMap (fun l => linkText l ++ [10]) ++ (if st.run then [114, 117, 110, 10] ++ st.zs.flatMap (fun a => actText a ++ [10]) else [])
theorem node_in {c : Cfg} (h : mayC c = true) : In64 c.node := by
  have := (mayC_parts h).2.2.2.2.1
  unfold In64
  omega
theorem lineS_sound {st st' : St} {s : Ln} (h : lineS st s = some st') (hs : SOk st) : SOk st' ∧ partS st' = partS st ++ (s ++ [10]) := by
  unfold lineS at h
  split at h
  · rename_i hr
    cases ha : actC s with
    | none => rw [ha] at h; cases h
    | some a =>
      rw [ha] at h
      simp only at h
      split at h
      · rename_i hl
        injection h with h
        subst h
        obtain ⟨h1, h2, h3⟩ := actW_some (f := numC) numC_in ha
        refine ⟨⟨fun e => by simp [hr] at e, hs.none, hs.may, fun x hx => ?_, by simp; omega, hs.confs, hs.links⟩, ?_⟩
        · rcases List.mem_append.1 hx with hx | hx
          · exact hs.acts x hx
          · have : x = a := by simpa using hx
            subst this; exact ⟨h1, h3⟩
        · unfold partS
          simp [hr, h2]
      · cases h
  · rename_i hr
    have hr' : st.run = false := by simpa using hr
    split at h
    · cases h
    · rename_i hc
      have hc' : st.cs ≠ [] := by simpa using hc
      split at h
      · rename_i hw
        injection h with h
        subst h
        refine ⟨⟨fun e => by simp at e, fun e => absurd e hc', hs.may, hs.acts, hs.na, hs.confs, hs.links⟩, ?_⟩
        unfold partS
        simp [hr', hs.zs hr', hw, wRun]
      · cases hl : linkC s with
        | none => rw [hl] at h; cases h
        | some l =>
          rw [hl] at h
          simp only at h
          split at h
          · rename_i hm
            injection h with h
            subst h
            obtain ⟨h1, h2⟩ := linkW_some (f := numC) numC_in hl
            refine ⟨⟨hs.zs, fun e => absurd e hc', fun _ => hm, hs.acts, hs.na, hs.confs, fun x hx => ?_⟩, ?_⟩
            · rcases List.mem_append.1 hx with hx | hx
              · exact hs.links x hx
              · have : x = l := by simpa using hx
                subst this; exact h2
            · unfold partS
              simp [hr', h1]
          · cases h
theorem confS_sound {st : St} {L : List Ln} {c : Cfg} {k : Nat} (h : confS st L = (some c, k)) (hs : SOk st) (hr : st.run = false) :
    SOk { st with cs := st.cs ++ [c] } ∧ k = (blockP L).length ∧ partS { st with cs := st.cs ++ [c] } = partS st ++ (blockP L).flatten := by
  unfold confS at h
  split at h
  · cases h
  · split at h
    · rename_i _ he
      split at h
      · rename_i hm
        have h1 := congrArg Prod.fst h
        have h2 := congrArg Prod.snd h
        simp only [Option.some.injEq] at h1 h2
        obtain ⟨d, m, e, hp⟩ : ∃ d m e, parseC (blockP L).flatten = (d, m, e) := ⟨_, _, _, rfl⟩
        rw [hp] at h1 he hm
        simp only at h1 he
        subst h1
        subst he
        obtain ⟨-, q1, q2, q3⟩ := parse_sound hp
        simp only [Bool.and_eq_true, List.isEmpty_iff] at hm
        refine ⟨⟨hs.zs, fun e => by simp at e, fun _ => hm.1, hs.acts, hs.na, fun x hx => ?_, hs.links⟩, h2.symm, ?_⟩
        · rcases List.mem_append.1 hx with hx | hx
          · exact hs.confs x hx
          · have : x = d := by simpa using hx
            subst this; exact ⟨q2, node_in q1⟩
        · unfold partS
          simp [hr, hm.2, q3]
      · cases h
    · cases h
theorem goS_sound : ∀ (L : List Ln) (k : Nat) (st st' : St) (n m : Nat), goS L k st n = (some st', m) → SOk st → SOk st' ∧ partS st' = partS st ++ (L.drop k).flatten
  | [], k, st, st', n, m, h, hs => by
    rw [goS] at h
    injection h with h1 _
    injection h1 with h1
    subst h1
    exact ⟨hs, by simp⟩
  | l :: r, k + 1, st, st', n, m, h, hs => by
    rw [goS] at h
    rw [List.drop_succ_cons]
    exact goS_sound r k st st' n m h hs
  | l :: r, 0, st, st', n, m, h, hs => by
    rw [goS] at h
    split at h
    · rename_i hb
      simp only [Bool.and_eq_true, Bool.not_eq_true', decide_eq_true_eq] at hb
      obtain ⟨o, k, hc⟩ : ∃ o k, confS st (l :: r) = (o, k) := ⟨_, _, rfl⟩
      rw [hc] at h
      cases o with
      | none => cases h
      | some c =>
        simp only at h
        obtain ⟨q1, q2, q3⟩ := confS_sound hc hs hb.1
        obtain ⟨p1, p2⟩ := goS_sound r (k - 1) _ st' _ m h q1
        refine ⟨p1, ?_⟩
        rw [p2, q3, List.append_assoc]
        congr 1
        have hk : 1 ≤ k := by rw [q2]; exact block_pos
        obtain ⟨k', rfl⟩ : ∃ k', k = k' + 1 := ⟨k - 1, by omega⟩
        have := block_flat (l :: r)
        rw [← q2, List.drop_succ_cons] at this
        simpa using this
    · split at h
      · rename_i hw
        cases hl : lineS st (body l) with
        | none => rw [hl] at h; cases h
        | some s1 =>
          rw [hl] at h
          simp only at h
          obtain ⟨q1, q2⟩ := lineS_sound hl hs
          obtain ⟨p1, p2⟩ := goS_sound r 0 _ st' _ m h q1
          refine ⟨p1, ?_⟩
          rw [p2, q2, whole_body hw]
          simp
      · cases h
/-- What a text is read as has that text. -/
theorem parseS_sound {text : Ln} {st : St} {n : Nat} {e : Int} (h : parseS text = (some st, n, e)) : SOk st ∧ st.run = true ∧ partS st = text ∧ text.length ≤ 4194304 ∧ n = 0 ∧ e = 0 := by
  unfold parseS at h
  split at h
  · cases h
  · rename_i hl
    obtain ⟨o, m, hg⟩ : ∃ o m, goS (linesT text) 0 {} 0 = (o, m) := ⟨_, _, rfl⟩
    rw [hg] at h
    cases o with
    | none => cases h
    | some s1 =>
      simp only at h
      split at h
      · rename_i hr
        injection h with h1 h2
        injection h1 with h1
        injection h2 with h2 h3
        subst h1
        obtain ⟨p1, p2⟩ := goS_sound _ _ _ _ _ _ hg SOk.start
        refine ⟨p1, hr, ?_, by omega, h2.symm, h3.symm⟩
        rw [p2, List.drop_zero, lines_flat]
        rfl
      · cases h
end Go.Proofs.YtfbangojgjcbcaaGreatDoor.Pl
namespace Go.Proofs.YtfbangojgjcbcaaGreatDoor
open Go.RowKit Pl
def StrRow (w : World) (b off : Nat) (L : List Ln) : Prop := b < w.heap.size ∧ ∀ j x, L[j]? = some x → w.cell? ⟨b, off + j, none⟩ = some (.string (str x))
theorem StrRow.here {w w' : World} {b off : Nat} {L : List Ln} (h : StrRow w b off L) (hb : Below w.heap.size w w') : StrRow w' b off L :=
  ⟨Nat.lt_of_lt_of_le h.1 hb.size, fun j x hx => (hb.cell h.1).trans (h.2 j x hx)⟩
theorem StrRow.drop {w : World} {b off : Nat} {L : List Ln} (h : StrRow w b off L) (k : Nat) : StrRow w b (off + k) (L.drop k) :=
  ⟨h.1, fun j x hx => by rw [Nat.add_assoc]; exact h.2 (k + j) x (by rw [List.getElem?_drop] at hx; exact hx)⟩
theorem StrRow.take {w : World} {b off : Nat} {L : List Ln} (h : StrRow w b off L) (k : Nat) : StrRow w b off (L.take k) :=
  ⟨h.1, fun j x hx => h.2 j x (by rw [List.getElem?_take] at hx; split at hx; exact hx; cases hx)⟩
theorem join_nil : ∀ L : List Ln, Lib.join L [] = L.flatten
  | [] => rfl
  | [x] => by simp [Lib.join]
  | x :: y :: L => by
    have h := join_nil (y :: L)
    have e : Lib.join (x :: y :: L) [] = x ++ Lib.join (y :: L) [] := by simp [Lib.join, List.intercalate, List.intersperse]
    rw [e, h]; rfl
theorem joinE_any (b off c n : Nat) (L : List Ln) (w : World) (h : StrRow w b off L) (hn : n = L.length) (hc : L.length ≤ c) (hl : L.length ≤ 1000000000) (hs : L.flatten.length ≤ 1000000000) :
    Calls Tryz.prog 139 #[.slice (some ⟨b, off, none⟩) n c, .string ⟨#[]⟩] w fun e w' => e = .returned (.string (str L.flatten)) ∧ Below w.heap.size w w' := by
  subst hn
  have e1 : (L.map str).map (·.data.toList) = L := by rw [List.map_map]; exact (List.map_congr_left (fun l _ => str_data l)).trans (List.map_id _)
  have e2 : Lib.join ((L.map str).map (·.data.toList)) (str []).data.toList = L.flatten := by rw [e1, str_data, join_nil]
  have key := Tryz.strings_Join b off c (L.map str) (str []) w (fun j x hx => by
      simp only [List.getElem?_map, Option.map_eq_some_iff] at hx
      obtain ⟨l, h1, h2⟩ := hx
      rw [← h2]
      exact h.2 j l h1) h.1 (by simp; omega) (by simp; omega) (by rw [e2]; omega)
  rw [e2, List.length_map] at key
  exact key
theorem block_at {L : List Ln} {j : Nat} {l : Ln} (h : blockP L = L.take j ++ blockP (L.drop j)) (hl : L[j]? = some l) : blockP L = if cutA 32 l = wRefill then L.take (j + 1) else L.take (j + 1) ++ blockP (L.drop (j + 1)) := by
  rw [h, drop_at hl, blockP]
  split
  · rw [take_at hl]
  · rw [take_at hl]; simp
theorem lit_refill {l : Ln} (h : l = wRefill) : ((str l).toList == [114, 101, 102, 105, 108, 108]) = true := by subst h; rw [str_toList]; rfl
theorem lit_refill_no {l : Ln} (h : ¬ l = wRefill) : ((str l).toList == [114, 101, 102, 105, 108, 108]) = false := by rw [str_toList]; exact beq_eq_false_iff_ne.2 h
set_option maxRecDepth 100000 in
set_option maxHeartbeats 2000000 in
theorem block_any (b off c n : Nat) (L : List Ln) (w : World) (h : StrRow w b off L) (hn : n = L.length) (hc : L.length ≤ c) (hl : L.length ≤ 1000000000) (hx : ∀ l ∈ L, l.length ≤ 1000000) (E : Env w) :
    Calls Tryz.prog 148 #[.slice (some ⟨b, off, none⟩) n c] w fun e w' => e = .returned (.slice (some ⟨b, off, none⟩) (blockP L).length c) ∧ Below w.heap.size w w' := by
  have HS := Lib.hid h
  have HN := Lib.hid hn
  have HX := Lib.hid hx
  have hnc : n ≤ c := by omega
  have hn9 : n ≤ 1000000000 := by omega
  clear h hx hn hc hl
  go_enter Tryz.func148, Tryz.ntmps148
  go_wp2
  go_loopw [10] (fun i wr => ∃ j : Nat, j ≤ n ∧ i = .int .i64 j ∧ Hid (blockP L = L.take j ++ blockP (L.drop j)) ∧ Hid (Below w.heap.size w wr)) (fun i _ => n - (intOf i).toNat)
  case atStart => exact ⟨0, Nat.zero_le _, rfl, Lib.hid (by simp), Lib.hid (Below.refl _ _)⟩
  case round =>
    obtain ⟨j, hj, rfl, HBL, HB⟩ := hrel
    by_cases hlt : j < n
    · obtain ⟨l, hlj⟩ : ∃ l, L[j]? = some l := ⟨_, List.getElem?_eq_getElem (by have := HN.out; omega)⟩
      have HLJ := Lib.hid hlj
      have hcell : wr.cell? ⟨b, off + j, none⟩ = some (.string (str l)) := (HS.out.here HB.out).2 j l hlj
      have hbs : b < wr.heap.size := (HS.out.here HB.out).1
      have HC := Lib.hid (cut_any 32 l wr (HX.out l (List.mem_of_getElem? hlj)) (E.here HB.out))
      have hcut := block_at HBL.out hlj
      clear hlj
      by_cases hw : cutA 32 l = wRefill
      · have hlit := lit_refill hw
        rw [if_pos hw] at hcut
        have HT : Hid ((blockP L).length = j + 1) := Lib.hid (by rw [hcut, List.length_take]; have := HN.out; omega)
        clear hcut hw
        go_wp2_with fail
        refine HC.out.mono ?_
        rintro e w2 ⟨⟨f, rfl⟩, hb2⟩
        have HB2 := Lib.hid (HB.out.trans (hb2.mono HB.out.size))
        clear hb2
        go_wp2
        go_ret
        exact ⟨by rw [HT.out]; rfl, HB2.out⟩
      · have hlit := lit_refill_no hw
        rw [if_neg hw] at hcut
        have HT := Lib.hid hcut
        clear hcut hw
        go_wp2_with fail
        refine HC.out.mono ?_
        rintro e w2 ⟨⟨f, rfl⟩, hb2⟩
        have HB2 := Lib.hid (HB.out.trans (hb2.mono HB.out.size))
        clear hb2
        go_wp2
        go_roundw
        case rel => exact ⟨j + 1, by omega, by go_num, HT, HB2⟩
        case measure => simp [intOf]; omega
    · have hjn : j = n := by omega
      have HT : Hid (blockP L = L) := Lib.hid (by
        have := HBL.out
        rw [hjn, HN.out, List.take_length, List.drop_length] at this
        rw [this]; simp [blockP])
      subst hjn
      go_wp2
      go_ret
      exact ⟨by rw [HT.out, ← HN.out]; rfl, HB.out⟩
end Go.Proofs.YtfbangojgjcbcaaGreatDoor
