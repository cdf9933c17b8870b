/- Part 15 of the proof: TextS, PlainS2, PlainB3, RdrD, RdrE. -/
import Derived.Test.YtfbangojgjcbcaaGreatDoorSC03
import Derived.Test.YtfbangojgjcbcaaGreatDoorSC09
import Derived.Test.YtfbangojgjcbcaaGreatDoorSC10
import Derived.Test.YtfbangojgjcbcaaGreatDoorSC11
import Derived.Test.YtfbangojgjcbcaaGreatDoorSC13
import Derived.Test.YtfbangojgjcbcaaGreatDoorSC14
namespace Go.Proofs.YtfbangojgjcbcaaGreatDoor
open Go.RowKit Pl
def linesL (ls : List Lk) : List UInt8 := ls.flatMap fun l => linkText l ++ [10]
def linesA (zs : List ActP) : List UInt8 := zs.flatMap fun a => actText a ++ [10]
def textS (cs : List Cfg) (ls : List Lk) (zs : List ActP) : List UInt8 := cs.flatMap textP ++ linesL ls ++ [114, 117, 110, 10] ++ linesA zs
def sText (cs : List Cfg) (ls : List Lk) (zs : List ActP) : List UInt8 × Int :=
  if maySet cs ls && zs.all mayA then (if 65536 < zs.length then ([], 3) else if 4194304 < (textS cs ls zs).length then ([], 3) else (textS cs ls zs, 0)) else ([], 2)
theorem flat_take {α : Type} (f : α → List UInt8) (xs : List α) (j : Nat) : ((xs.take j).flatMap f).length ≤ (xs.flatMap f).length := by
  have : (xs.flatMap f).length = ((xs.take j).flatMap f).length + ((xs.drop j).flatMap f).length := by
    rw [← List.length_append, ← List.flatMap_append, List.take_append_drop]
  omega
theorem flat_next {α : Type} (f : α → List UInt8) {xs : List α} {j : Nat} {x : α} (h : xs[j]? = some x) : (xs.take (j + 1)).flatMap f = (xs.take j).flatMap f ++ f x := by
  rw [take_at h, List.flatMap_append]
  simp
theorem flat_mem {α : Type} (f : α → List UInt8) {xs : List α} {x : α} (h : x ∈ xs) : (f x).length ≤ (xs.flatMap f).length := by
  obtain ⟨j, hj⟩ := List.getElem?_of_mem h
  have h1 := flat_take f xs (j + 1)
  rw [flat_next f hj, List.length_append] at h1
  omega
def TextRes (cs : List Cfg) (ls : List Lk) (zs : List ActP) (e : Ending) : Prop := e = .returned (.tuple #[.string (str (sText cs ls zs).1), .int .i64 (sText cs ls zs).2])
set_option maxRecDepth 100000 in
set_option maxHeartbeats 16000000 in
theorem stext_any (cv lv av : Value) (cs : List Cfg) (ls : List Lk) (zs : List ActP) (w : World) (h : ScrIs w cv lv av cs ls zs) (k : ScrOk cs ls zs) (E : Env w) (hlen : maySet cs ls = true → (∀ a ∈ zs, mayA a = true) → (textS cs ls zs).length ≤ 10000000) :
    Calls Tryz.prog 44 #[.agg #[cv, lv, av]] w fun e w' => TextRes cs ls zs e ∧ Below w.heap.size w w' := by
  have HS := Lib.hid h
  have HK := Lib.hid k
  have EE := Lib.hid E
  obtain ⟨A1, k1, rfl, -⟩ := h.confs
  obtain ⟨A2, k2, rfl, -⟩ := h.links
  obtain ⟨A3, k3, rfl, -⟩ := h.acts
  have hnc := k.nc
  have hnl := k.nl
  have hna := k.na
  have hNB := E.size
  have HLEN0 := Lib.hid hlen
  clear h k E hlen
  obtain ⟨W0, hW0⟩ : ∃ X, w.alloc (.cells #[.slice A1 cs.length k1, .slice A2 ls.length k2, .slice A3 zs.length k3] 76) = X := ⟨_, rfl⟩
  have hb0 : Below w.heap.size w W0 := by rw [← hW0]; exact (Below.refl _ _).alloc (Nat.le_refl _) _
  have HB0 := Lib.hid hb0
  have HX0 : Hid (Whole W0 w.heap.size 76 #[.slice A1 cs.length k1, .slice A2 ls.length k2, .slice A3 zs.length k3]) := Lib.hid (by rw [← hW0]; exact Whole.new w _ _)
  have HW0 := Lib.hid hW0
  have HMAY := Lib.hid (smay_any _ _ cs ls W0 (HS.out.confs.here hb0) (HS.out.links.here hb0) HK.out.addrs HK.out.confs HK.out.links hnc hnl)
  have HCON := Lib.hid (fun W (hb : Below w.heap.size w W) => containsA_any _ zs W (HS.out.acts.here hb) hna (fun a ha => by have := (HK.out.acts a ha).2; omega))
  clear hW0 hb0

  have x0 : W0.cell? ⟨w.heap.size, 0, none⟩ = some (.slice A1 cs.length k1) := HX0.out.cell 0
  have x1 : W0.cell? ⟨w.heap.size, 1, none⟩ = some (.slice A2 ls.length k2) := HX0.out.cell 1
  have x2 : W0.cell? ⟨w.heap.size, 2, none⟩ = some (.slice A3 zs.length k3) := HX0.out.cell 2
  have xl : w.heap.size < W0.heap.size := HX0.out.lt
  cases hm : maySet cs ls with
  | false =>
    have HT : Hid (sText cs ls zs = ([], 2)) := Lib.hid (by unfold sText; rw [hm]; rfl)
    rw [hm] at HMAY
    clear hm
    go_enter Tryz.func44, Tryz.ntmps44
    go_upto_region 1 with fail
    rw [HW0.out]
    go_wp2_with fail
    refine HMAY.out.mono ?_
    rintro e w1 ⟨rfl, hb⟩
    have HB1 := Lib.hid (HB0.out.trans (hb.mono HB0.out.size))
    have HX1 := Lib.hid (HX0.out.here hb)
    clear hb HMAY
    clear x0 x1 x2 xl
    go_wp2
    exact bodyPost_ret (v := .tuple #[.string ⟨#[]⟩, .int .i64 2]) (by simp [results, Tryz.results44, go_sem]) rfl ⟨by unfold TextRes; rw [HT.out]; rfl, HB1.out⟩
  | true =>
    have HM := Lib.hid hm
    rw [hm] at HMAY
    clear hm
    cases ha : zs.any fun a => !mayA a with
    | true =>
      have HT : Hid (sText cs ls zs = ([], 2)) := Lib.hid (by
        unfold sText
        have : zs.all mayA = false := by
          obtain ⟨a, h1, h2⟩ := List.any_eq_true.1 ha
          exact List.all_eq_false.2 ⟨a, h1, by simpa using h2⟩
        rw [this, Bool.and_false]
        rfl)
      rw [ha] at HCON
      clear ha
      go_enter Tryz.func44, Tryz.ntmps44
      go_upto_region 1 with fail
      rw [HW0.out]
      go_wp2_with fail
      refine HMAY.out.mono ?_
      rintro e w1 ⟨rfl, hb⟩
      have HB1 := Lib.hid (HB0.out.trans (hb.mono HB0.out.size))
      have HX1 := Lib.hid (HX0.out.here hb)
      clear hb HMAY
      clear x0 x1 x2 xl
      have x0 : w1.cell? ⟨w.heap.size, 0, none⟩ = some (.slice A1 cs.length k1) := HX1.out.cell 0
      have x1 : w1.cell? ⟨w.heap.size, 1, none⟩ = some (.slice A2 ls.length k2) := HX1.out.cell 1
      have x2 : w1.cell? ⟨w.heap.size, 2, none⟩ = some (.slice A3 zs.length k3) := HX1.out.cell 2
      have xl : w.heap.size < w1.heap.size := HX1.out.lt
      go_wp2_with fail
      refine (HCON.out _ HB1.out).mono ?_
      rintro e w2 ⟨rfl, hb⟩
      have HB2 := Lib.hid (HB1.out.trans (hb.mono HB1.out.size))
      clear hb
      go_wp2
      exact bodyPost_ret (v := .tuple #[.string ⟨#[]⟩, .int .i64 2]) (by simp [results, Tryz.results44, go_sem]) rfl ⟨by unfold TextRes; rw [HT.out]; rfl, HB2.out⟩
    | false =>
      have hall : zs.all mayA = true := by
        rw [List.all_eq_true]
        intro a h1
        have := (List.any_eq_false.1 ha) a h1
        simpa using this
      have HALL : Hid (∀ a ∈ zs, mayA a = true) := Lib.hid (List.all_eq_true.1 hall)
      have HT0 : Hid (sText cs ls zs = if 65536 < zs.length then ([], 3) else if 4194304 < (textS cs ls zs).length then ([], 3) else (textS cs ls zs, 0)) := Lib.hid (by unfold sText; rw [HM.out, hall]; rfl)
      rw [ha] at HCON
      clear ha hall
      by_cases h6 : 65536 < zs.length
      · have HT : Hid (sText cs ls zs = ([], 3)) := Lib.hid (by rw [HT0.out, if_pos h6])
        have d6 : decide ((65536 : Int) < (zs.length : Int)) = true := decide_eq_true (by omega)
        clear h6
        go_enter Tryz.func44, Tryz.ntmps44
        go_upto_region 1 with fail
        rw [HW0.out]
        go_wp2_with fail
        refine HMAY.out.mono ?_
        rintro e w1 ⟨rfl, hb⟩
        have HB1 := Lib.hid (HB0.out.trans (hb.mono HB0.out.size))
        have HX1 := Lib.hid (HX0.out.here hb)
        clear hb HMAY
        clear x0 x1 x2 xl
        have x0 : w1.cell? ⟨w.heap.size, 0, none⟩ = some (.slice A1 cs.length k1) := HX1.out.cell 0
        have x1 : w1.cell? ⟨w.heap.size, 1, none⟩ = some (.slice A2 ls.length k2) := HX1.out.cell 1
        have x2 : w1.cell? ⟨w.heap.size, 2, none⟩ = some (.slice A3 zs.length k3) := HX1.out.cell 2
        have xl : w.heap.size < w1.heap.size := HX1.out.lt
        go_wp2_with fail
        refine (HCON.out _ HB1.out).mono ?_
        rintro e w2 ⟨rfl, hb⟩
        have HB2 := Lib.hid (HB1.out.trans (hb.mono HB1.out.size))
        have HX2 := Lib.hid (HX1.out.here hb)
        clear hb HCON
        clear x0 x1 x2 xl
        have x0 : w2.cell? ⟨w.heap.size, 0, none⟩ = some (.slice A1 cs.length k1) := HX2.out.cell 0
        have x1 : w2.cell? ⟨w.heap.size, 1, none⟩ = some (.slice A2 ls.length k2) := HX2.out.cell 1
        have x2 : w2.cell? ⟨w.heap.size, 2, none⟩ = some (.slice A3 zs.length k3) := HX2.out.cell 2
        have xl : w.heap.size < w2.heap.size := HX2.out.lt
        go_wp2
        exact bodyPost_ret (v := .tuple #[.string ⟨#[]⟩, .int .i64 3]) (by simp [results, Tryz.results44, go_sem]) rfl ⟨by unfold TextRes; rw [HT.out]; rfl, HB2.out⟩
      · have HT1 : Hid (sText cs ls zs = if 4194304 < (textS cs ls zs).length then ([], 3) else (textS cs ls zs, 0)) := Lib.hid (by rw [HT0.out, if_neg h6])
        have d6 : decide ((65536 : Int) < (zs.length : Int)) = false := decide_eq_false (by omega)
        clear h6
        go_enter Tryz.func44, Tryz.ntmps44
        go_upto_region 1 with fail
        rw [HW0.out]
        go_wp2_with fail
        refine HMAY.out.mono ?_
        rintro e w1 ⟨rfl, hb⟩
        have HB1 := Lib.hid (HB0.out.trans (hb.mono HB0.out.size))
        have HX1 := Lib.hid (HX0.out.here hb)
        clear hb HMAY
        clear x0 x1 x2 xl
        have x0 : w1.cell? ⟨w.heap.size, 0, none⟩ = some (.slice A1 cs.length k1) := HX1.out.cell 0
        have x1 : w1.cell? ⟨w.heap.size, 1, none⟩ = some (.slice A2 ls.length k2) := HX1.out.cell 1
        have x2 : w1.cell? ⟨w.heap.size, 2, none⟩ = some (.slice A3 zs.length k3) := HX1.out.cell 2
        have xl : w.heap.size < w1.heap.size := HX1.out.lt
        go_wp2_with fail
        refine (HCON.out _ HB1.out).mono ?_
        rintro e w2 ⟨rfl, hb⟩
        have HB2 := Lib.hid (HB1.out.trans (hb.mono HB1.out.size))
        have HX2 := Lib.hid (HX1.out.here hb)
        clear hb HCON
        clear x0 x1 x2 xl
        have x0 : w2.cell? ⟨w.heap.size, 0, none⟩ = some (.slice A1 cs.length k1) := HX2.out.cell 0
        have x1 : w2.cell? ⟨w.heap.size, 1, none⟩ = some (.slice A2 ls.length k2) := HX2.out.cell 1
        have x2 : w2.cell? ⟨w.heap.size, 2, none⟩ = some (.slice A3 zs.length k3) := HX2.out.cell 2
        have xl : w.heap.size < w2.heap.size := HX2.out.lt
        have HMC : Hid (∀ c ∈ cs, mayC c = true) := Lib.hid (maySet_confs HM.out)
        have hlen := HLEN0.out HM.out HALL.out
        have hcl : (cs.flatMap textP).length ≤ 10000000 := by unfold textS at hlen; simp only [List.length_append] at hlen; omega
        have HLEN := Lib.hid hlen
        clear hlen
        obtain ⟨b, hb⟩ : ∃ b, w2.heap.size = b := ⟨_, rfl⟩
        obtain ⟨W3, hW3⟩ : ∃ X, w2.alloc (.cells #[.pointer none, .slice none 0 0] 111) = X := ⟨_, rfl⟩
        have HBA0 : Hid (BAt (b + 1) b [] W3) := Lib.hid (by rw [← hW3, ← hb]; exact BAt.fresh _ _)
        have HB3 : Hid (Below w.heap.size w W3) := Lib.hid (by rw [← hW3]; exact HB2.out.alloc HB2.out.size _)
        have HX3 : Hid (Whole W3 w.heap.size 76 #[.slice A1 cs.length k1, .slice A2 ls.length k2, .slice A3 zs.length k3]) := Lib.hid (by rw [← hW3]; exact HX2.out.alloc _)
        have HWB : Hid (w.heap.size < b) := Lib.hid (by rw [← hb]; exact xl)
        have HS3 : Hid (b + 1 ≤ W3.heap.size) := Lib.hid (by rw [← hW3, ← hb]; simp)
        have HW3 := Lib.hid hW3
        clear hW3 hcl
        go_upto_region 6 with fail
        rw [HW3.out]
        clear x0 x1 x2 xl
        clear d6 hb
        have x0 : W3.cell? ⟨w.heap.size, 0, none⟩ = some (.slice A1 cs.length k1) := HX3.out.cell 0
        have x1 : W3.cell? ⟨w.heap.size, 1, none⟩ = some (.slice A2 ls.length k2) := HX3.out.cell 1
        have x2 : W3.cell? ⟨w.heap.size, 2, none⟩ = some (.slice A3 zs.length k3) := HX3.out.cell 2
        have xl : w.heap.size < W3.heap.size := HX3.out.lt
        go_wp2
        go_loopw [6, 7, 8, 31] (fun _ _ _ i wr => ∃ j : Nat, j ≤ cs.length ∧ i = .int .i64 j ∧ Hid (BAt (b + 1) b ((cs.take j).flatMap textP) wr) ∧ Hid (Moves (b + 1) b W3 wr)) (fun _ _ _ i _ => cs.length - (intOf i).toNat)
        case atStart => exact ⟨0, Nat.zero_le _, rfl, HBA0, Lib.hid (Moves.refl _ _ _)⟩
        case round =>
          obtain ⟨j, hj, rfl, HBA, HMV⟩ := hrel
          have hwb := HWB.out
          have hs3 := HS3.out
          have hbw := HMV.out.below (B := w.heap.size) (by omega) (by omega) (by omega)
          have HBW := Lib.hid (HB3.out.trans hbw)
          have HBX := Lib.hid (HMV.out.below (B := w.heap.size + 1) (by omega) (by omega) (by omega))
          have HXR := Lib.hid (HX3.out.below HBX.out (by omega))
          have HSZ : Hid (b + 1 ≤ wr.heap.size) := Lib.hid (by have := HMV.out.size; omega)
          clear hbw
          try clear x0 x1 x2 xl
          have x0 : wr.cell? ⟨w.heap.size, 0, none⟩ = some (.slice A1 cs.length k1) := HXR.out.cell 0
          have x1 : wr.cell? ⟨w.heap.size, 1, none⟩ = some (.slice A2 ls.length k2) := HXR.out.cell 1
          have x2 : wr.cell? ⟨w.heap.size, 2, none⟩ = some (.slice A3 zs.length k3) := HXR.out.cell 2
          have xl : w.heap.size < wr.heap.size := HXR.out.lt
          by_cases hlt : j < cs.length
          · obtain ⟨x, hx⟩ : ∃ u, cs[j]? = some u := ⟨_, List.getElem?_eq_getElem hlt⟩
            obtain ⟨g, off, rfl, hg, hq⟩ := (HS.out.here HBW.out).confs.at hx
            obtain ⟨A4, k4, A5, k5, hcx, p0, p1, p2, p3, p4, p5, p6, p7, p8, p9, p10⟩ := hq.cfg
            have hmem := List.mem_of_getElem? hx
            obtain ⟨W4, hW4⟩ : ∃ X, wr.alloc (.cells #[.int .i64 x.node, .int .u32 x.addr, .slice A4 x.own.length k4, .slice A5 x.ports.length k5, .int .i64 x.hello, .int .i64 x.dead, .int .i64 x.again, .int .i64 x.room, .int .i64 x.queue, .int .i64 x.tokens, .int .i64 x.refill] 28) = X := ⟨_, rfl⟩
            have hb4 : Below wr.heap.size wr W4 := by rw [← hW4]; exact (Below.refl _ _).alloc (Nat.le_refl _) _
            have HX4 : Hid (Whole W4 wr.heap.size 28 #[.int .i64 x.node, .int .u32 x.addr, .slice A4 x.own.length k4, .slice A5 x.ports.length k5, .int .i64 x.hello, .int .i64 x.dead, .int .i64 x.again, .int .i64 x.room, .int .i64 x.queue, .int .i64 x.tokens, .int .i64 x.refill]) := Lib.hid (by rw [← hW4]; exact Whole.new wr _ _)
            have HB4 := Lib.hid hb4
            have HCT : Hid (Calls Tryz.prog 22 #[.agg #[.int .i64 x.node, .int .u32 x.addr, .slice A4 x.own.length k4, .slice A5 x.ports.length k5, .int .i64 x.hello, .int .i64 x.dead, .int .i64 x.again, .int .i64 x.room, .int .i64 x.queue, .int .i64 x.tokens, .int .i64 x.refill]] W4 fun e w' => e = .returned (.tuple #[.string (str (textP x)), .int .i64 0]) ∧ Below W4.heap.size W4 w') := Lib.hid (ctext_yes _ x W4 (hcx.below hb4) (HK.out.addrs x hmem) (HMC.out x hmem) (EE.out.here (HBW.out.trans (hb4.mono HBW.out.size))))
            have HNX := Lib.hid (flat_next textP hx)
            have HLN : Hid (((cs.take j).flatMap textP).length ≤ 10000000 ∧ (textP x).length ≤ 10000000) := Lib.hid (by
              have h1 := flat_take textP cs j
              have h2 := flat_mem textP hmem
              have h3 := HLEN.out
              unfold textS at h3
              simp only [List.length_append] at h3
              omega)
            have HW4 := Lib.hid hW4
            clear hx hq hcx hmem hW4 hb4
            go_upto_region 9 with fail
            rw [HW4.out]
            clear p0 p1 p2 p3 p4 p5 p6 p7 p8 p9 p10 hg x0 x1 x2 xl
            have p0 : W4.cell? ⟨wr.heap.size, 0, none⟩ = some (.int .i64 x.node) := HX4.out.cell 0
            have p1 : W4.cell? ⟨wr.heap.size, 1, none⟩ = some (.int .u32 x.addr) := HX4.out.cell 1
            have p2 : W4.cell? ⟨wr.heap.size, 2, none⟩ = some (.slice A4 x.own.length k4) := HX4.out.cell 2
            have p3 : W4.cell? ⟨wr.heap.size, 3, none⟩ = some (.slice A5 x.ports.length k5) := HX4.out.cell 3
            have p4 : W4.cell? ⟨wr.heap.size, 4, none⟩ = some (.int .i64 x.hello) := HX4.out.cell 4
            have p5 : W4.cell? ⟨wr.heap.size, 5, none⟩ = some (.int .i64 x.dead) := HX4.out.cell 5
            have p6 : W4.cell? ⟨wr.heap.size, 6, none⟩ = some (.int .i64 x.again) := HX4.out.cell 6
            have p7 : W4.cell? ⟨wr.heap.size, 7, none⟩ = some (.int .i64 x.room) := HX4.out.cell 7
            have p8 : W4.cell? ⟨wr.heap.size, 8, none⟩ = some (.int .i64 x.queue) := HX4.out.cell 8
            have p9 : W4.cell? ⟨wr.heap.size, 9, none⟩ = some (.int .i64 x.tokens) := HX4.out.cell 9
            have p10 : W4.cell? ⟨wr.heap.size, 10, none⟩ = some (.int .i64 x.refill) := HX4.out.cell 10
            have pl : wr.heap.size < W4.heap.size := HX4.out.lt
            go_wp2_with fail
            refine HCT.out.mono ?_
            rintro e w5 ⟨rfl, hb5⟩
            have HB5 := Lib.hid (HB4.out.trans (hb5.mono HB4.out.size))
            clear hb5 p0 p1 p2 p3 p4 p5 p6 p7 p8 p9 p10 pl
            go_wp2_with fail
            refine (writeString_any (b + 1) b _ (textP x) w5 (HBA.out.here HB5.out) (by have := HLN.out; omega) (by have := HLN.out; omega) (Nat.le_trans HSZ.out HB5.out.size)).mono ?_
            rintro e w6 ⟨rfl, hba, hmv⟩
            have HBA6 := Lib.hid hba
            have HMV6 := Lib.hid (HMV.out.trans ((Moves.of_below HB5.out).trans hmv))
            clear hba hmv
            go_wp2
            go_roundw
            case rel => exact ⟨j + 1, by omega, by go_num, Lib.hid (by rw [HNX.out]; exact HBA6.out), HMV6⟩
            case measure => simp [intOf]; omega
          · obtain rfl : j = cs.length := by omega
            have hba := HBA.out
            rw [List.take_length] at hba
            have HBAC := Lib.hid hba
            have HMVC := HMV
            clear hba hlt
            go_wp2
            go_loopw [11, 48] (fun _ i wz => ∃ j : Nat, j ≤ ls.length ∧ i = .int .i64 j ∧ Hid (BAt (b + 1) b (cs.flatMap textP ++ linesL (ls.take j)) wz) ∧ Hid (Moves (b + 1) b W3 wz)) (fun _ i _ => ls.length - (intOf i).toNat)
            case atStart => exact ⟨0, Nat.zero_le _, rfl, Lib.hid (by have := HBAC.out; simpa [linesL] using this), HMVC⟩
            case round =>
              obtain ⟨j, hj, rfl, HBA, HMV⟩ := hrel
              have hwb := HWB.out
              have hs3 := HS3.out
              have hbw := HMV.out.below (B := w.heap.size) (by omega) (by omega) (by omega)
              have HBW := Lib.hid (HB3.out.trans hbw)
              have HBX := Lib.hid (HMV.out.below (B := w.heap.size + 1) (by omega) (by omega) (by omega))
              have HXR := Lib.hid (HX3.out.below HBX.out (by omega))
              have HSZ : Hid (b + 1 ≤ wr.heap.size) := Lib.hid (by have := HMV.out.size; omega)
              clear hbw
              try clear x0 x1 x2 xl
              have x0 : wr.cell? ⟨w.heap.size, 0, none⟩ = some (.slice A1 cs.length k1) := HXR.out.cell 0
              have x1 : wr.cell? ⟨w.heap.size, 1, none⟩ = some (.slice A2 ls.length k2) := HXR.out.cell 1
              have x2 : wr.cell? ⟨w.heap.size, 2, none⟩ = some (.slice A3 zs.length k3) := HXR.out.cell 2
              have xl : w.heap.size < wr.heap.size := HXR.out.lt
              by_cases hlt : j < ls.length
              · obtain ⟨⟨n1, n2, n3, n4⟩, hx⟩ : ∃ u, ls[j]? = some u := ⟨_, List.getElem?_eq_getElem hlt⟩
                obtain ⟨g, off, rfl, hg, p0, p1, p2, p3⟩ := (HS.out.here HBW.out).links.at hx
                simp only at p0 p1 p2 p3
                have hmem := List.mem_of_getElem? hx
                obtain ⟨W4, hW4⟩ : ∃ X, wr.alloc (.cells #[.int .i64 n1, .int .i64 n2, .int .i64 n3, .int .i64 n4] 63) = X := ⟨_, rfl⟩
                have hb4 : Below wr.heap.size wr W4 := by rw [← hW4]; exact (Below.refl _ _).alloc (Nat.le_refl _) _
                have HX4 : Hid (Whole W4 wr.heap.size 63 #[.int .i64 n1, .int .i64 n2, .int .i64 n3, .int .i64 n4]) := Lib.hid (by rw [← hW4]; exact Whole.new wr _ _)
                have HB4 := Lib.hid hb4
                have HCT : Hid (Calls Tryz.prog 41 #[.agg #[.int .i64 n1, .int .i64 n2, .int .i64 n3, .int .i64 n4]] W4 fun e w' => e = .returned (.string (str (linkText (n1, n2, n3, n4)))) ∧ Below W4.heap.size W4 w') := Lib.hid (clinkText_any (n1, n2, n3, n4) W4 (HK.out.links _ hmem) (EE.out.here (HBW.out.trans (hb4.mono HBW.out.size))))
                have HNX : Hid (linesL (ls.take (j + 1)) = linesL (ls.take j) ++ (linkText (n1, n2, n3, n4) ++ [10])) := Lib.hid (flat_next _ hx)
                have HLN : Hid ((cs.flatMap textP ++ linesL (ls.take j)).length ≤ 10000000 ∧ (linkText (n1, n2, n3, n4)).length ≤ 10000000) := Lib.hid (by
                  have h1 : (linesL (ls.take j)).length ≤ (linesL ls).length := flat_take _ ls j
                  have h2 : (linkText (n1, n2, n3, n4) ++ [10]).length ≤ (linesL ls).length := flat_mem (fun l => linkText l ++ [10]) hmem
                  have h3 := HLEN.out
                  unfold textS at h3
                  simp only [List.length_append] at h3 h2 ⊢
                  omega)
                have HW4 := Lib.hid hW4
                clear hx hmem hW4 hb4
                go_upto_region 16 with fail
                rw [HW4.out]
                clear p0 p1 p2 p3 hg x0 x1 x2 xl
                have p0 : W4.cell? ⟨wr.heap.size, 0, none⟩ = some (.int .i64 n1) := HX4.out.cell 0
                have p1 : W4.cell? ⟨wr.heap.size, 1, none⟩ = some (.int .i64 n2) := HX4.out.cell 1
                have p2 : W4.cell? ⟨wr.heap.size, 2, none⟩ = some (.int .i64 n3) := HX4.out.cell 2
                have p3 : W4.cell? ⟨wr.heap.size, 3, none⟩ = some (.int .i64 n4) := HX4.out.cell 3
                have pl : wr.heap.size < W4.heap.size := HX4.out.lt
                go_wp2_with fail
                refine HCT.out.mono ?_
                rintro e w5 ⟨rfl, hb5⟩
                have HB5 := Lib.hid (HB4.out.trans (hb5.mono HB4.out.size))
                clear hb5 p0 p1 p2 p3 pl
                go_wp2_with fail
                refine (put2_any (b + 1) b _ (linkText (n1, n2, n3, n4)) w5 (HBA.out.here HB5.out) (by have := HLN.out; omega) (by have := HLN.out; omega) (Nat.le_trans HSZ.out HB5.out.size)).mono ?_
                rintro e w6 ⟨rfl, hba, hmv⟩
                have HBA6 := Lib.hid hba
                have HMV6 := Lib.hid (HMV.out.trans ((Moves.of_below HB5.out).trans hmv))
                clear hba hmv
                go_wp2
                go_roundw
                case rel => exact ⟨j + 1, by omega, by go_num, Lib.hid (by rw [HNX.out, ← List.append_assoc]; exact HBA6.out), HMV6⟩
                case measure => simp [intOf]; omega
              · obtain rfl : j = ls.length := by omega
                have hba := HBA.out
                rw [List.take_length] at hba
                have HBAL := Lib.hid hba
                have HLN : Hid ((cs.flatMap textP ++ linesL ls).length ≤ 10000000) := Lib.hid (by
                  have h3 := HLEN.out
                  unfold textS at h3
                  simp only [List.length_append] at h3 ⊢
                  omega)
                clear hba hlt
                go_wp2_with fail
                refine (put2_any (b + 1) b _ [114, 117, 110] wr HBAL.out (by have := HLN.out; omega) (by decide) HSZ.out).mono ?_
                rintro e w6 ⟨rfl, hba, hmv⟩
                have HBAR := Lib.hid hba
                have HMVR := Lib.hid (HMV.out.trans hmv)
                have HXS : Hid (Whole w6 w.heap.size 76 #[.slice A1 cs.length k1, .slice A2 ls.length k2, .slice A3 zs.length k3]) := Lib.hid (HX3.out.below (HMVR.out.below (B := w.heap.size + 1) (by omega) (by omega) (by omega)) (by omega))
                clear hba hmv x0 x1 x2 xl
                have x0 : w6.cell? ⟨w.heap.size, 0, none⟩ = some (.slice A1 cs.length k1) := HXS.out.cell 0
                have x1 : w6.cell? ⟨w.heap.size, 1, none⟩ = some (.slice A2 ls.length k2) := HXS.out.cell 1
                have x2 : w6.cell? ⟨w.heap.size, 2, none⟩ = some (.slice A3 zs.length k3) := HXS.out.cell 2
                have xl : w.heap.size < w6.heap.size := HXS.out.lt
                go_wp2
                go_loopw [13, 62] (fun _ i wz => ∃ j : Nat, j ≤ zs.length ∧ i = .int .i64 j ∧ Hid (BAt (b + 1) b (cs.flatMap textP ++ linesL ls ++ ([114, 117, 110] ++ [10]) ++ linesA (zs.take j)) wz) ∧ Hid (Moves (b + 1) b W3 wz)) (fun _ i _ => zs.length - (intOf i).toNat)
                case atStart => exact ⟨0, Nat.zero_le _, rfl, Lib.hid (by have := HBAR.out; simpa [linesA] using this), HMVR⟩
                case round =>
                  obtain ⟨j, hj, rfl, HBA, HMV⟩ := hrel
                  have hwb := HWB.out
                  have hs3 := HS3.out
                  have hbw := HMV.out.below (B := w.heap.size) (by omega) (by omega) (by omega)
                  have HBW := Lib.hid (HB3.out.trans hbw)
                  have HBX := Lib.hid (HMV.out.below (B := w.heap.size + 1) (by omega) (by omega) (by omega))
                  have HXR := Lib.hid (HX3.out.below HBX.out (by omega))
                  have HSZ : Hid (b + 1 ≤ wr.heap.size) := Lib.hid (by have := HMV.out.size; omega)
                  clear hbw
                  try clear x0 x1 x2 xl
                  have x0 : wr.cell? ⟨w.heap.size, 0, none⟩ = some (.slice A1 cs.length k1) := HXR.out.cell 0
                  have x1 : wr.cell? ⟨w.heap.size, 1, none⟩ = some (.slice A2 ls.length k2) := HXR.out.cell 1
                  have x2 : wr.cell? ⟨w.heap.size, 2, none⟩ = some (.slice A3 zs.length k3) := HXR.out.cell 2
                  have xl : w.heap.size < wr.heap.size := HXR.out.lt
                  by_cases hlt : j < zs.length
                  · obtain ⟨x, hx⟩ : ∃ u, zs[j]? = some u := ⟨_, List.getElem?_eq_getElem hlt⟩
                    obtain ⟨g, off, rfl, hg, bv, hbv, p0, p1, p2, p3, p4, p5, p6, p7, p8⟩ := (HS.out.here HBW.out).acts.at hx
                    obtain ⟨A4, k4, rfl, -⟩ := id hbv
                    have hmem := List.mem_of_getElem? hx
                    obtain ⟨W4, hW4⟩ : ∃ X, wr.alloc (.cells #[.int .i64 x.kind, .int .i64 x.node, .int .i64 x.port, .int .i64 x.cost, .int .i64 x.n, .bool x.up, .int .u8 (x.by_.toNat : Int), .bool x.unread, .slice A4 x.bytes.length k4] 51) = X := ⟨_, rfl⟩
                    have hb4 : Below wr.heap.size wr W4 := by rw [← hW4]; exact (Below.refl _ _).alloc (Nat.le_refl _) _
                    have HX4 : Hid (Whole W4 wr.heap.size 51 #[.int .i64 x.kind, .int .i64 x.node, .int .i64 x.port, .int .i64 x.cost, .int .i64 x.n, .bool x.up, .int .u8 (x.by_.toNat : Int), .bool x.unread, .slice A4 x.bytes.length k4]) := Lib.hid (by rw [← hW4]; exact Whole.new wr _ _)
                    have HB4 := Lib.hid hb4
                    have hmx := HALL.out x hmem
                    have HK9 : Hid (K9 x ∧ x.bytes.length ≤ 2048) := Lib.hid (by unfold mayA at hmx; simp only [Bool.and_eq_true, decide_eq_true_eq] at hmx; exact ⟨⟨hmx.1.1.1, hmx.1.1.2⟩, hmx.2⟩)
                    have HCT : Hid (Calls Tryz.prog 75 #[.agg #[.int .i64 x.kind, .int .i64 x.node, .int .i64 x.port, .int .i64 x.cost, .int .i64 x.n, .bool x.up, .int .u8 (x.by_.toNat : Int), .bool x.unread, .slice A4 x.bytes.length k4]] W4 fun e w' => e = .returned (.string (str (actText x))) ∧ Below W4.heap.size W4 w') := Lib.hid (cactText_any x _ W4 HK9.out.1 (hbv.below hb4) (HK.out.acts x hmem).1 (by have := HK9.out.2; omega) (EE.out.here (HBW.out.trans (hb4.mono HBW.out.size))))
                    have HNX : Hid (linesA (zs.take (j + 1)) = linesA (zs.take j) ++ (actText x ++ [10])) := Lib.hid (flat_next _ hx)
                    have HLN : Hid ((cs.flatMap textP ++ linesL ls ++ ([114, 117, 110] ++ [10]) ++ linesA (zs.take j)).length ≤ 10000000 ∧ (actText x).length ≤ 10000000) := Lib.hid (by
                      have h1 : (linesA (zs.take j)).length ≤ (linesA zs).length := flat_take _ zs j
                      have h2 : (actText x ++ [10]).length ≤ (linesA zs).length := flat_mem (fun a => actText a ++ [10]) hmem
                      have h3 := HLEN.out
                      unfold textS at h3
                      simp only [List.length_append, List.length_cons, List.length_nil] at h3 h2 ⊢
                      omega)
                    have HW4 := Lib.hid hW4
                    clear hx hmem hW4 hb4 hbv hmx
                    go_upto_region 22 with fail
                    rw [HW4.out]
                    clear p0 p1 p2 p3 p4 p5 p6 p7 p8 hg x0 x1 x2 xl
                    have p0 : W4.cell? ⟨wr.heap.size, 0, none⟩ = some (.int .i64 x.kind) := HX4.out.cell 0
                    have p1 : W4.cell? ⟨wr.heap.size, 1, none⟩ = some (.int .i64 x.node) := HX4.out.cell 1
                    have p2 : W4.cell? ⟨wr.heap.size, 2, none⟩ = some (.int .i64 x.port) := HX4.out.cell 2
                    have p3 : W4.cell? ⟨wr.heap.size, 3, none⟩ = some (.int .i64 x.cost) := HX4.out.cell 3
                    have p4 : W4.cell? ⟨wr.heap.size, 4, none⟩ = some (.int .i64 x.n) := HX4.out.cell 4
                    have p5 : W4.cell? ⟨wr.heap.size, 5, none⟩ = some (.bool x.up) := HX4.out.cell 5
                    have p6 : W4.cell? ⟨wr.heap.size, 6, none⟩ = some (.int .u8 (x.by_.toNat : Int)) := HX4.out.cell 6
                    have p7 : W4.cell? ⟨wr.heap.size, 7, none⟩ = some (.bool x.unread) := HX4.out.cell 7
                    have p8 : W4.cell? ⟨wr.heap.size, 8, none⟩ = some (.slice A4 x.bytes.length k4) := HX4.out.cell 8
                    have pl : wr.heap.size < W4.heap.size := HX4.out.lt
                    go_wp2_with fail
                    refine HCT.out.mono ?_
                    rintro e w5 ⟨rfl, hb5⟩
                    have HB5 := Lib.hid (HB4.out.trans (hb5.mono HB4.out.size))
                    clear hb5 p0 p1 p2 p3 p4 p5 p6 p7 p8 pl
                    go_wp2_with fail
                    refine (put2_any (b + 1) b _ (actText x) w5 (HBA.out.here HB5.out) (by have := HLN.out; omega) (by have := HLN.out; omega) (Nat.le_trans HSZ.out HB5.out.size)).mono ?_
                    rintro e w7 ⟨rfl, hba, hmv⟩
                    have HBA6 := Lib.hid hba
                    have HMV6 := Lib.hid (HMV.out.trans ((Moves.of_below HB5.out).trans hmv))
                    clear hba hmv
                    go_wp2
                    go_roundw
                    case rel => exact ⟨j + 1, by omega, by go_num, Lib.hid (by rw [HNX.out, ← List.append_assoc]; exact HBA6.out), HMV6⟩
                    case measure => simp [intOf]; omega
                  · obtain rfl : j = zs.length := by omega
                    have hba := HBA.out
                    rw [List.take_length, show cs.flatMap textP ++ linesL ls ++ ([114, 117, 110] ++ [10]) ++ linesA zs = textS cs ls zs from rfl] at hba
                    have HBAZ := Lib.hid hba
                    have hne : textS cs ls zs ≠ [] := by unfold textS; simp
                    have HLC : Hid (Calls Tryz.prog 96 #[.pointer (some ⟨b, 0, none⟩)] wr fun e w' => e = .returned (.int .i64 ((textS cs ls zs).length : Int)) ∧ w' = wr) := Lib.hid (by
                      have := Tryz.Builder_Len b b _ wr (hba.kit (by omega))
                      rw [cellsB_length] at this
                      exact this)
                    have HSC := Lib.hid (bString_any (b + 1) b _ wr hba hne)
                    clear hba hne hlt
                    by_cases h4 : 4194304 < (textS cs ls zs).length
                    · have HT : Hid (sText cs ls zs = ([], 3)) := Lib.hid (by rw [HT1.out, if_pos h4])
                      have d4 : decide ((4194304 : Int) < ((textS cs ls zs).length : Int)) = true := decide_eq_true (by omega)
                      clear h4
                      go_wp2_with fail
                      refine HLC.out.mono ?_
                      rintro e w7 ⟨rfl, rfl⟩
                      go_wp2
                      exact bodyPost_ret (v := .tuple #[.string ⟨#[]⟩, .int .i64 3]) (by simp [results, Tryz.results44, go_sem]) rfl ⟨by unfold TextRes; rw [HT.out]; rfl, HBW.out⟩
                    · have HT : Hid (sText cs ls zs = (textS cs ls zs, 0)) := Lib.hid (by rw [HT1.out, if_neg h4])
                      have d4 : decide ((4194304 : Int) < ((textS cs ls zs).length : Int)) = false := decide_eq_false (by omega)
                      clear h4
                      go_wp2_with fail
                      refine HLC.out.mono ?_
                      rintro e w7 ⟨rfl, rfl⟩
                      go_wp2_with fail
                      refine HSC.out.mono ?_
                      rintro e w8 ⟨rfl, hmv⟩
                      have HBZ := Lib.hid (HB3.out.trans ((HMV.out.trans hmv).below (B := w.heap.size) (by omega) (by omega) (by omega)))
                      go_wp2
                      exact bodyPost_ret (v := .tuple #[.string (str (textS cs ls zs)), .int .i64 0]) (by simp [results, Tryz.results44, go_sem]) rfl ⟨by unfold TextRes; rw [HT.out], HBZ.out⟩
end Go.Proofs.YtfbangojgjcbcaaGreatDoor
namespace Go.Proofs.YtfbangojgjcbcaaGreatDoor
open Go.RowKit Pl
theorem flat_bound {α : Type} (f : α → List UInt8) (m : Nat) : ∀ xs : List α, (∀ x ∈ xs, (f x).length ≤ m) → (xs.flatMap f).length ≤ xs.length * m
  | [], _ => by simp
  | x :: xs, h => by
    have h1 := h x (List.mem_cons_self ..)
    have h2 := flat_bound f m xs (fun y hy => h y (List.mem_cons_of_mem _ hy))
    rw [List.flatMap_cons, List.length_append, List.length_cons, Nat.succ_mul]
    omega
theorem textP_len {c : Cfg} (h : mayC c = true) : (textP c).length ≤ 1025 := by
  obtain ⟨h1, h2⟩ := lines_len h
  have := flat_bound (fun l : List UInt8 => l ++ [10]) 41 (linesP c) (fun l hl => by have := h1 l hl; simp; omega)
  unfold textP
  have h3 : (linesP c).length * 41 ≤ 25 * 41 := Nat.mul_le_mul_right _ h2
  omega
theorem mayA_parts {a : ActP} (h : mayA a = true) : K9 a ∧ a.bytes.length ≤ 2048 := by
  unfold mayA at h
  simp only [Bool.and_eq_true, decide_eq_true_eq] at h
  exact ⟨⟨h.1.1.1, h.1.1.2⟩, h.2⟩
end Go.Proofs.YtfbangojgjcbcaaGreatDoor
namespace Go.Proofs.YtfbangojgjcbcaaGreatDoor
open Go.RowKit Pl
theorem textS_part (cs : List Cfg) (ls : List Lk) (zs : List ActP) : textS cs ls zs = partS ⟨cs, ls, zs, true⟩ := by
  unfold textS partS linesL linesA
  simp
theorem flat_low {α : Type} (f : α → List UInt8) (m : Nat) : ∀ xs : List α, (∀ x ∈ xs, m ≤ (f x).length) → xs.length * m ≤ (xs.flatMap f).length
  | [], _ => by simp
  | x :: xs, h => by
    have h1 := h x (List.mem_cons_self ..)
    have h2 := flat_low f m xs (fun y hy => h y (List.mem_cons_of_mem _ hy))
    rw [List.flatMap_cons, List.length_append, List.length_cons, Nat.succ_mul]
    omega
theorem link_low (l : Lk) : 5 ≤ (linkText l ++ [10]).length := by
  unfold linkText
  simp [wLink]
theorem part_links (st : St) : st.ls.length * 5 ≤ (partS st).length := by
  have := flat_low (fun l => linkText l ++ [10]) 5 st.ls fun l _ => link_low l
  unfold partS
  simp only [List.length_append] at this ⊢
  omega
/-- How much a reader may hold. -/
structure StOk (st : St) : Prop where
  ok : SOk st
  nc : st.cs.length ≤ 100
  nl : st.ls.length ≤ 900000
theorem StOk.of {st : St} (hs : SOk st) (ht : (partS st).length ≤ 4194304) : StOk st where
  ok := hs
  nc := by
    by_cases h : st.cs = []
    · rw [h]; simp
    · have := maySet_len (hs.may h); omega
  nl := by have := part_links st; omega
theorem may_sizes {cs : List Cfg} {ls : List Lk} (hm : maySet cs ls = true) (hk : ∀ c ∈ cs, Addrs4 c ∧ In64 c.node) : ∀ c ∈ cs, c.own.length ≤ 1000000 ∧ c.ports.length ≤ 1000000 ∧ In64 c.node := fun c hc => by
  have h1 := maySet_confs hm c hc
  have h2 := (mayC_parts h1).1
  have h3 := (mayC_parts h1).2.1
  simp only [ownOk, Bool.and_eq_true, decide_eq_true_eq] at h2
  exact ⟨by omega, by omega, (hk c hc).2⟩
/-- What a text is read as has that text. -/
theorem parsed_ok {text : Ln} {st : St} {n : Nat} {e : Int} (h : parseS text = (some st, n, e)) : ScrOk st.cs st.ls st.zs ∧ sText st.cs st.ls st.zs = (text, 0) := by
  obtain ⟨hs, hr, hp, hl, -, -⟩ := parseS_sound h
  have hne : st.cs ≠ [] := fun e => by have := (hs.none e).2; rw [hr] at this; cases this
  have hm := hs.may hne
  have hk := StOk.of hs (by rw [hp]; omega)
  have hnl := hk.nl
  have hnc := hk.nc
  have hna := hs.na
  have ht : textS st.cs st.ls st.zs = text := by
    rw [textS_part]
    obtain ⟨cs, ls, zs, run⟩ := st
    simp only at hr
    subst hr
    exact hp
  refine ⟨⟨fun c hc => (hs.confs c hc).1, may_sizes hm hs.confs, hs.links, fun a ha => ⟨(hs.acts a ha).2, ?_⟩, by omega, by omega, by omega⟩, ?_⟩
  · have := (mayA_parts (hs.acts a ha).1).2; omega
  · have hall : st.zs.all mayA = true := List.all_eq_true.2 fun a ha => (hs.acts a ha).1
    unfold sText
    rw [hm, hall, ht]
    simp only [Bool.and_self, if_true]
    rw [if_neg (by omega), if_neg (by omega)]
end Go.Proofs.YtfbangojgjcbcaaGreatDoor
namespace Go.Proofs.YtfbangojgjcbcaaGreatDoor
open Go.RowKit Pl
theorem info_NA : (Tryz.prog.info? 51).map (fun i => (i.zero, i.size, i.bytes)) = some (some (.agg #[.int .i64 0, .int .i64 0, .int .i64 0, .int .i64 0, .int .i64 0, .bool false, .int .u8 0, .bool false, .slice none 0 0]), 9, 72) := by kernel_rfl
theorem info_LK : (Tryz.prog.info? 63).map (fun i => (i.zero, i.size, i.bytes)) = some (some (.agg #[.int .i64 0, .int .i64 0, .int .i64 0, .int .i64 0]), 4, 32) := by kernel_rfl
theorem info_CF : (Tryz.prog.info? 28).map (fun i => (i.zero, i.size, i.bytes)) = some (some (.agg #[.int .i64 0, .int .u32 0, .slice none 0 0, .slice none 0 0, .int .i64 0, .int .i64 0, .int .i64 0, .int .i64 0, .int .i64 0, .int .i64 0, .int .i64 0]), 11, 120) := by kernel_rfl
theorem RdX.drew {w : World} {B R : Nat} {st : St} {cv lv av : Value} {xs : List CRow} {ys : List ARow} (h : RdX w B R st cv lv av xs ys) : RdX w.drew B R st cv lv av xs ys := h.here (Below.refl _ w).drew
theorem RdX.alloc {w : World} {B R : Nat} {st : St} {cv lv av : Value} {xs : List CRow} {ys : List ARow} (h : RdX w B R st cv lv av xs ys) (o : Obj) : RdX (w.alloc o) B R st cv lv av xs ys := h.here ((Below.refl _ _).alloc (Nat.le_refl _) o)
/-- What a line does to the reader. -/
def LineRes (w : World) (B R : Nat) (o : Option St) (e : Ending) (w' : World) : Prop :=
  (match o with
    | some st' => e = .returned (.bool true) ∧ RdS w' B R st'
    | none => e = .returned (.bool false)) ∧ Kb B R w w'
theorem LineRes.no {w w' : World} {B R : Nat} {o : Option St} {e : Ending} (h : o = none) (he : e = .returned (.bool false)) (hb : Kb B R w w') : LineRes w B R o e w' := by
  subst h; exact ⟨he, hb⟩
theorem LineRes.yes {w w' : World} {B R : Nat} {o : Option St} {e : Ending} (st : St) (h : o = some st) (he : e = .returned (.bool true)) (hr : RdS w' B R st) (hb : Kb B R w w') : LineRes w B R o e w' := by
  subst h; exact ⟨⟨he, hr⟩, hb⟩
/-- An act, or what stands for none. -/
theorem act_row {s : List UInt8} {base : Nat} {e : Ending} {w : World} (h : ActOfFrom (actC s) base e w) : ∃ (y : ARow) (code : Int), e = .returned (.tuple #[actV y.a y.bv, .int .i64 code]) ∧ Bs w y.bv y.a.bytes ∧ BlkFrom base y.bv ∧
    ((actC s = some y.a ∧ code = 0) ∨ (actC s = none ∧ code = 4)) := by
  cases ha : actC s with
  | none =>
    rw [ha] at h
    exact ⟨⟨{ kind := 0 }, .slice none 0 0⟩, 4, h, Bs.nil _, BlkFrom.nil _, .inr ⟨rfl, rfl⟩⟩
  | some a =>
    rw [ha] at h
    obtain ⟨bv, h1, h2, h3⟩ := h
    exact ⟨⟨a, bv⟩, 0, h1, h2, h3, .inl ⟨rfl, rfl⟩⟩
set_option maxRecDepth 100000 in
set_option maxHeartbeats 4000000 in
theorem line_run (s : List UInt8) (st : St) (B R : Nat) (w : World) (h : RdS w B R st) (E : Env w) (hBw : B ≤ w.heap.size) (hs : s.length ≤ 100000) (hk : StOk st) (hr : st.run = true) :
    Calls Tryz.prog 91 #[.pointer (some ⟨R, 0, none⟩), .string (str s)] w fun e w' => LineRes w B R (lineS st s) e w' := by
  obtain ⟨cv, lv, av, xs, ys, hx⟩ := h
  have hzl : st.zs.length = ys.length := by rw [hx.zs, List.length_map]
  have hna := hk.ok.na
  obtain ⟨o, ho⟩ : ∃ o, lineS st s = o := ⟨_, rfl⟩
  have HO : Hid (o = match actC s with
    | some a => if st.zs.length + 1 ≤ 65536 then some { st with zs := st.zs ++ [a] } else none
    | none => none) := Lib.hid (by rw [← ho]; unfold lineS; rw [if_pos hr]; rfl)
  rw [ho]
  clear ho
  have HX := Lib.hid hx
  have q3 : w.cell? ⟨R, 3, none⟩ = some (.bool st.run) := hx.whole.cell 3
  rw [hr] at q3
  have hRw := hx.whole.lt
  have EE := Lib.hid E
  clear hx E
  go_enter Tryz.func91, Tryz.ntmps91
  go_wp2_with fail
  refine (cactOf_from s w hs EE.out).mono ?_
  rintro e w1 ⟨hres, hb1⟩
  obtain ⟨⟨a9, bv⟩, code, rfl, hbs, hbf, hcode⟩ := act_row hres
  simp only at hbs hbf hcode ⊢
  obtain ⟨A9, k9, rfl⟩ : ∃ A k, bv = .slice A a9.bytes.length k := by
    obtain ⟨A, k, hbv, -⟩ := hbs
    exact ⟨A, k, hbv⟩
  have HC := Lib.hid hcode
  have HX1 := Lib.hid (HX.out.here hb1)
  have HI : Hid (Inn w1 B R [cv, lv, av] (.slice A9 a9.bytes.length k9)) := Lib.hid (HX.out.fresh hBw hbf hbs.lt_of)
  have HBS := Lib.hid hbs
  have HB1 := Lib.hid hb1
  have hsz := hb1.size
  clear hres hb1 hbs hbf hcode q3
  obtain ⟨W1, hW1⟩ : ∃ X, ((w1.alloc (.cells #[.int .i64 a9.kind, .int .i64 a9.node, .int .i64 a9.port, .int .i64 a9.cost, .int .i64 a9.n, .bool a9.up, .int .u8 (a9.by_.toNat : Int), .bool a9.unread, .slice A9 a9.bytes.length k9] 51)).alloc (.cells #[.int .i64 a9.kind, .int .i64 a9.node, .int .i64 a9.port, .int .i64 a9.cost, .int .i64 a9.n, .bool a9.up, .int .u8 (a9.by_.toNat : Int), .bool a9.unread, .slice A9 a9.bytes.length k9] 51)).drew = X := ⟨_, rfl⟩
  have hnew : W1.heap[w1.heap.size + 1]? = some (.cells #[.int .i64 a9.kind, .int .i64 a9.node, .int .i64 a9.port, .int .i64 a9.cost, .int .i64 a9.n, .bool a9.up, .int .u8 (a9.by_.toNat : Int), .bool a9.unread, .slice A9 a9.bytes.length k9] 51 (0, 0)) := by
    rw [← hW1]
    have := heap_alloc_new (w1.alloc (.cells #[.int .i64 a9.kind, .int .i64 a9.node, .int .i64 a9.port, .int .i64 a9.cost, .int .i64 a9.n, .bool a9.up, .int .u8 (a9.by_.toNat : Int), .bool a9.unread, .slice A9 a9.bytes.length k9] 51)) (.cells #[.int .i64 a9.kind, .int .i64 a9.node, .int .i64 a9.port, .int .i64 a9.cost, .int .i64 a9.n, .bool a9.up, .int .u8 (a9.by_.toNat : Int), .bool a9.unread, .slice A9 a9.bytes.length k9] 51)
    rw [World.size_alloc] at this
    exact this
  have hP : Whole W1 w1.heap.size 51 #[.int .i64 a9.kind, .int .i64 a9.node, .int .i64 a9.port, .int .i64 a9.cost, .int .i64 a9.n, .bool a9.up, .int .u8 (a9.by_.toNat : Int), .bool a9.unread, .slice A9 a9.bytes.length k9] := by rw [← hW1]; exact ((Whole.new w1 _ _).alloc _).drew
  have hxx : RdX W1 B R st cv lv av xs ys := by rw [← hW1]; exact ((HX1.out.alloc _).alloc _).drew
  have hbW : Below w1.heap.size w1 W1 := by rw [← hW1]; exact (((Below.refl _ w1).alloc (Nat.le_refl _) _).alloc (by simp) _).drew
  have hszW : W1.heap.size = w1.heap.size + 1 + 1 := by rw [← hW1]; simp
  have hne : av.ownBlock ≠ some w1.heap.size := fun e => by have := (HX1.out.ra.lt _ e).2; omega
  have c2 : (w1.alloc (.cells #[.int .i64 a9.kind, .int .i64 a9.node, .int .i64 a9.port, .int .i64 a9.cost, .int .i64 a9.n, .bool a9.up, .int .u8 (a9.by_.toNat : Int), .bool a9.unread, .slice A9 a9.bytes.length k9] 51)).cell? ⟨R, 2, none⟩ = some av := (HX1.out.alloc _).whole.cell 2
  have c2b : ((w1.alloc (.cells #[.int .i64 a9.kind, .int .i64 a9.node, .int .i64 a9.port, .int .i64 a9.cost, .int .i64 a9.n, .bool a9.up, .int .u8 (a9.by_.toNat : Int), .bool a9.unread, .slice A9 a9.bytes.length k9] 51)).alloc (.cells #[.int .i64 a9.kind, .int .i64 a9.node, .int .i64 a9.port, .int .i64 a9.cost, .int .i64 a9.n, .bool a9.up, .int .u8 (a9.by_.toNat : Int), .bool a9.unread, .slice A9 a9.bytes.length k9] 51)).cell? ⟨R, 2, none⟩ = some av := ((HX1.out.alloc _).alloc _).whole.cell 2
  have hno := hxx.whole.notRow hxx.ra (by decide)
  obtain ⟨i0, hi0, hz0, hz1, hz2⟩ := info_parts info_NA
  have HW1 := Lib.hid hW1
  clear hW1
  unfold actV
  go_upto_region 3 with fail
  go_region_law
    ((rw [HW1.out]; refine step_append_lies _ (by rfl) _ _ _ (by rfl) B 51 i0 _ 9 72 Tryz.underlying74 hi0 hz0 hz1 hz2 rfl (by omega) _ ys.length _ (by rfl) hxx.ra
        ⟨w1.heap.size + 1, 0, none⟩ 1 1 [.int .i64 a9.kind, .int .i64 a9.node, .int .i64 a9.port, .int .i64 a9.cost, .int .i64 a9.n, .bool a9.up, .int .u8 (a9.by_.toNat : Int), .bool a9.unread, .slice A9 a9.bytes.length k9] (by rfl) (by rfl) (World.news_of_block (cs := #[.int .i64 a9.kind, .int .i64 a9.node, .int .i64 a9.port, .int .i64 a9.cost, .int .i64 a9.n, .bool a9.up, .int .u8 (a9.by_.toNat : Int), .bool a9.unread, .slice A9 a9.bytes.length k9]) (t := 51) (fr := (0, 0)) hnew) (by simp [Value.oneCell'])
        (by omega) (by unfold maxLen; omega) (by omega) (by omega) (w1.heap.size + 1 + 1) hszW ?_; intro gg cap w2 hown2 hgrow hat hlt2; have hW2 := hxx.whole.kept hgrow (Ne.symm hno); have c22 : w2.cell? ⟨R, 2, none⟩ = some av := hW2.cell 2; have f22 := hW2.frozen 2; have hP2 := hP.kept hgrow (Ne.symm hne); have p0 := hP2.cell 0; have p1 := hP2.cell 1; have p2 := hP2.cell 2; have p3 := hP2.cell 3; have p4 := hP2.cell 4; have p5 := hP2.cell 5; have p6 := hP2.cell 6; have p7 := hP2.cell 7; have p8 := hP2.cell 8))
  all_goals
    have HX3 : Hid (RdX (w2.setCell ⟨R, 2, none⟩ (.slice (some ⟨gg, 0, none⟩) (ys.length + 1) cap)) B R { st with zs := st.zs ++ [a9] } cv lv (.slice (some ⟨gg, 0, none⟩) (ys.length + 1) cap) xs (ys ++ [⟨a9, .slice A9 a9.bytes.length k9⟩])) := Lib.hid (hxx.pushA hgrow ⟨a9, .slice A9 a9.bytes.length k9⟩ rfl hown2 (Went.of hat (Nat.le_of_eq hszW)) ⟨HBS.out.below hbW, HI.out.below hbW.size⟩)
    have HB3 : Hid (Kb B R w (w2.setCell ⟨R, 2, none⟩ (.slice (some ⟨gg, 0, none⟩) (ys.length + 1) cap))) := Lib.hid (by
      have hx : Below B w1 w2 := (hbW.mono (by omega)).grown hgrow (by omega) fun g hg => (hxx.ra.lt g hg).1
      exact (Kb.of_below ((HB1.out.mono hBw).trans hx)).set 2 _ (by have := hx.size; omega))
    generalize w2.setCell ⟨R, 2, none⟩ (.slice (some ⟨gg, 0, none⟩) (ys.length + 1) cap) = W3 at *
    have c32 : W3.cell? ⟨R, 2, none⟩ = some (.slice (some ⟨gg, 0, none⟩) (ys.length + 1) cap) := HX3.out.whole.cell 2
    have HZL := Lib.hid hzl
    clear hown2 hgrow hat hlt2 hW2 c22 f22 hP2 p0 p1 p2 p3 p4 p5 p6 p7 p8 hno hne hP hnew hbW hszW c2 c2b hzl
    rcases HC.out with ⟨hl, rfl⟩ | ⟨hl, rfl⟩
    · have HL := Lib.hid hl
      clear hl
      by_cases hm : ys.length + 1 ≤ 65536
      · have hd : decide ((ys.length : Int) + 1 ≤ 65536) = true := decide_eq_true (by omega)
        go_wp2
        go_ret
        exact LineRes.yes _ (by rw [HO.out, HL.out]; simp only; rw [if_pos (by rw [HZL.out]; exact hm)]) rfl ⟨_, _, _, _, _, HX3.out⟩ HB3.out
      · have hd : decide ((ys.length : Int) + 1 ≤ 65536) = false := decide_eq_false (by omega)
        go_wp2
        go_ret
        exact LineRes.no (by rw [HO.out, HL.out]; simp only; rw [if_neg (by rw [HZL.out]; exact hm)]) rfl HB3.out
    · have HL := Lib.hid hl
      clear hl
      go_wp2
      go_ret
      exact LineRes.no (by rw [HO.out, HL.out]) rfl HB3.out
theorem RdX.setRun {w : World} {B R : Nat} {st : St} {cv lv av : Value} {xs : List CRow} {ys : List ARow} (h : RdX w B R st cv lv av xs ys) : RdX (w.setCell ⟨R, 3, none⟩ (.bool true)) B R { st with run := true } cv lv av xs ys := by
  have hgs := grown_set w R 3 (.bool true)
  exact {
    whole := h.whole.set 3 _
    cs := h.cs
    zs := h.zs
    rc := own_grown h.whole h.rc (by decide) hgs
    rl := own_grown h.whole h.rl (by decide) hgs
    ra := own_grown h.whole h.ra (by decide) hgs
    ic := fun y hy => by
      obtain ⟨h1, h2, h3, h4⟩ := h.ic y hy
      exact ⟨h1.stay (h3.setR _ _), h2.stay (h4.setR _ _), h3.below hgs.size, h4.below hgs.size⟩
    ia := fun y hy => by
      obtain ⟨h1, h2⟩ := h.ia y hy
      exact ⟨h1.stay (h2.setR _ _), h2.below hgs.size⟩ }
theorem link_row (s : List UInt8) : ∃ (l : Lk) (code : Int), clkRes s = .tuple #[lkV l, .int .i64 code] ∧ In4 l ∧ ((linkC s = some l ∧ code = 0) ∨ (linkC s = none ∧ code = 4)) := by
  cases hl : linkC s with
  | none => exact ⟨(0, 0, 0, 0), 4, by unfold clkRes; rw [hl], by simp [In4, In64], .inr ⟨rfl, rfl⟩⟩
  | some l => exact ⟨l, 0, by unfold clkRes; rw [hl], (linkW_some (f := numC) numC_in hl).2, .inl ⟨rfl, rfl⟩⟩
set_option maxRecDepth 100000 in
set_option maxHeartbeats 4000000 in
theorem line_none (s : List UInt8) (st : St) (B R : Nat) (w : World) (h : RdS w B R st) (hr : st.run = false) (hc : st.cs = []) :
    Calls Tryz.prog 91 #[.pointer (some ⟨R, 0, none⟩), .string (str s)] w fun e w' => LineRes w B R (lineS st s) e w' := by
  obtain ⟨cv, lv, av, xs, ys, hx⟩ := h
  have ho : lineS st s = none := by unfold lineS; rw [if_neg (by simp [hr]), if_pos (by simp [hc])]
  rw [ho]
  have hx0 : xs.length = 0 := by have := congrArg List.length hx.cs; rw [hc, List.length_map] at this; exact this.symm
  obtain ⟨A0, k0, hcv⟩ := own_slice_n hx.rc
  have r0 : w.cell? ⟨R, 0, none⟩ = some cv := hx.whole.cell 0
  have r3 : w.cell? ⟨R, 3, none⟩ = some (.bool st.run) := hx.whole.cell 3
  rw [hcv, hx0] at r0
  rw [hr] at r3
  have hRw := hx.whole.lt
  clear ho hx hcv hx0
  go_enter Tryz.func91, Tryz.ntmps91
  go_wp2
  go_ret
  exact LineRes.no rfl rfl (Kb.of_below (Below.refl _ _))
theorem lit_run {l : Ln} (h : l = wRun) : ((str l).toList == [114, 117, 110]) = true := by subst h; rw [str_toList]; rfl
theorem lit_run_no {l : Ln} (h : ¬ l = wRun) : ((str l).toList == [114, 117, 110]) = false := by rw [str_toList]; exact beq_eq_false_iff_ne.2 h
theorem lit_run' {l : Ln} (h : l = wRun) : (str l).toList = [114, 117, 110] := by subst h; rw [str_toList]; rfl
theorem lit_run_no' {l : Ln} (h : ¬ l = wRun) : ((str l).toList = [114, 117, 110]) = False := by rw [str_toList]; exact eq_false h
set_option maxRecDepth 100000 in
set_option maxHeartbeats 4000000 in
theorem line_go (s : List UInt8) (st : St) (B R : Nat) (w : World) (h : RdS w B R st) (hr : st.run = false) (hBw : B ≤ w.heap.size) (hc : st.cs ≠ []) (hcl : st.cs.length ≤ 1000) (hw : s = wRun) :
    Calls Tryz.prog 91 #[.pointer (some ⟨R, 0, none⟩), .string (str s)] w fun e w' => LineRes w B R (lineS st s) e w' := by
  obtain ⟨cv, lv, av, xs, ys, hx⟩ := h
  have ho : lineS st s = some { st with run := true } := by unfold lineS; rw [if_neg (by simp [hr]), if_neg (by simpa using hc), if_pos hw]
  rw [ho]
  have hxl : xs.length = st.cs.length := by rw [hx.cs, List.length_map]
  have hx0 : ((st.cs.length : Int) == 0) = false := by
    cases hcc : st.cs with
    | nil => exact absurd hcc hc
    | cons a b => exact beq_eq_false_iff_ne.2 (by simp only [List.length_cons]; omega)
  obtain ⟨A0, k0, hcv⟩ := own_slice_n hx.rc
  have r0 : w.cell? ⟨R, 0, none⟩ = some cv := hx.whole.cell 0
  have r3 : w.cell? ⟨R, 3, none⟩ = some (.bool st.run) := hx.whole.cell 3
  have f3 := hx.whole.frozen 3
  rw [hcv, hxl] at r0
  rw [hr] at r3
  have hRw := hx.whole.lt
  have HX := Lib.hid hx
  have l1 := lit_run hw
  have l2 := lit_run' hw
  clear ho hx hcv hxl hc hw
  go_enter Tryz.func91, Tryz.ntmps91
  go_wp2
  go_ret
  refine LineRes.yes _ rfl rfl ⟨cv, lv, av, xs, ys, HX.out.setRun⟩ ((Kb.of_below (Below.refl _ _)).set 3 _ hBw)
set_option maxRecDepth 100000 in
set_option maxHeartbeats 4000000 in
theorem line_link (s : List UInt8) (st : St) (B R : Nat) (w : World) (h : RdS w B R st) (E : Env w) (hBw : B ≤ w.heap.size) (hs : s.length ≤ 100000) (hk : StOk st) (hr : st.run = false) (hc : st.cs ≠ []) (hw : ¬ s = wRun) :
    Calls Tryz.prog 91 #[.pointer (some ⟨R, 0, none⟩), .string (str s)] w fun e w' => LineRes w B R (lineS st s) e w' := by
  obtain ⟨cv, lv, av, xs, ys, hx⟩ := h
  have hnl := hk.nl
  obtain ⟨o, ho⟩ : ∃ o, lineS st s = o := ⟨_, rfl⟩
  have HO : Hid (o = match linkC s with
    | some l => if maySet st.cs (st.ls ++ [l]) then some { st with ls := st.ls ++ [l] } else none
    | none => none) := Lib.hid (by rw [← ho]; unfold lineS; rw [if_neg (by simp [hr]), if_neg (by simpa using hc), if_neg hw]; rfl)
  rw [ho]
  clear ho
  have hxl : xs.length = st.cs.length := by rw [hx.cs, List.length_map]
  have hx0 : ((st.cs.length : Int) == 0) = false := by
    cases hcc : st.cs with
    | nil => exact absurd hcc hc
    | cons a b => exact beq_eq_false_iff_ne.2 (by simp only [List.length_cons]; omega)
  have hcl := hk.nc
  obtain ⟨A0, k0, hcv⟩ := own_slice_n hx.rc
  have q0 : w.cell? ⟨R, 0, none⟩ = some cv := hx.whole.cell 0
  have q3 : w.cell? ⟨R, 3, none⟩ = some (.bool st.run) := hx.whole.cell 3
  rw [hcv, hxl] at q0
  rw [hr] at q3
  have hRw := hx.whole.lt
  have l1 := lit_run_no hw
  have l2 := lit_run_no' hw
  have HX := Lib.hid hx
  have EE := Lib.hid E
  have HK := Lib.hid hk
  have HMS : Hid (∀ c ∈ st.cs, c.own.length ≤ 1000000 ∧ c.ports.length ≤ 1000000 ∧ In64 c.node) := Lib.hid (may_sizes (hk.ok.may hc) hk.ok.confs)
  clear hx E hcv hxl hc hw hk hr
  obtain ⟨⟨m1, m2, m3, m4⟩, code, hcr, hin, hcode⟩ := link_row s
  have HC := Lib.hid hcode
  have HIN := Lib.hid hin
  have HCR := Lib.hid hcr
  clear hcode hin hcr
  go_enter Tryz.func91, Tryz.ntmps91
  go_wp2_with fail
  refine (clinkOf_any s w (by omega) EE.out).mono ?_
  rintro e w1 ⟨he, hb1⟩
  rw [HCR.out] at he
  subst he
  have HX1 := Lib.hid (HX.out.here hb1)
  have HB1 := Lib.hid hb1
  have hsz := hb1.size
  clear hb1 q3 q0
  obtain ⟨W1, hW1⟩ : ∃ X, ((w1.alloc (.cells #[.int .i64 m1, .int .i64 m2, .int .i64 m3, .int .i64 m4] 63)).alloc (.cells #[.int .i64 m1, .int .i64 m2, .int .i64 m3, .int .i64 m4] 63)).drew = X := ⟨_, rfl⟩
  have hnew : W1.heap[w1.heap.size + 1]? = some (.cells #[.int .i64 m1, .int .i64 m2, .int .i64 m3, .int .i64 m4] 63 (0, 0)) := by
    rw [← hW1]
    have := heap_alloc_new (w1.alloc (.cells #[.int .i64 m1, .int .i64 m2, .int .i64 m3, .int .i64 m4] 63)) (.cells #[.int .i64 m1, .int .i64 m2, .int .i64 m3, .int .i64 m4] 63)
    rw [World.size_alloc] at this
    exact this
  have hP : Whole W1 w1.heap.size 63 #[.int .i64 m1, .int .i64 m2, .int .i64 m3, .int .i64 m4] := by rw [← hW1]; exact ((Whole.new w1 _ _).alloc _).drew
  have hxx : RdX W1 B R st cv lv av xs ys := by rw [← hW1]; exact ((HX1.out.alloc _).alloc _).drew
  have hbW : Below w1.heap.size w1 W1 := by rw [← hW1]; exact (((Below.refl _ w1).alloc (Nat.le_refl _) _).alloc (by simp) _).drew
  have hszW : W1.heap.size = w1.heap.size + 1 + 1 := by rw [← hW1]; simp
  have hne : lv.ownBlock ≠ some w1.heap.size := fun e => by have := (HX1.out.rl.lt _ e).2; omega
  have c2 : (w1.alloc (.cells #[.int .i64 m1, .int .i64 m2, .int .i64 m3, .int .i64 m4] 63)).cell? ⟨R, 1, none⟩ = some lv := (HX1.out.alloc _).whole.cell 1
  have c2b : ((w1.alloc (.cells #[.int .i64 m1, .int .i64 m2, .int .i64 m3, .int .i64 m4] 63)).alloc (.cells #[.int .i64 m1, .int .i64 m2, .int .i64 m3, .int .i64 m4] 63)).cell? ⟨R, 1, none⟩ = some lv := ((HX1.out.alloc _).alloc _).whole.cell 1
  have hno := hxx.whole.notRow hxx.rl (by decide)
  obtain ⟨i0, hi0, hz0, hz1, hz2⟩ := info_parts info_LK
  have HW1 := Lib.hid hW1
  clear hW1
  go_upto_region 11 with fail
  go_region_law
    ((rw [HW1.out]; refine step_append_lies _ (by rfl) _ _ _ (by rfl) B 63 i0 _ 4 32 Tryz.underlying71 hi0 hz0 hz1 hz2 rfl (by omega) _ st.ls.length _ (by rfl) hxx.rl
        ⟨w1.heap.size + 1, 0, none⟩ 1 1 [.int .i64 m1, .int .i64 m2, .int .i64 m3, .int .i64 m4] (by rfl) (by rfl) (World.news_of_block (cs := #[.int .i64 m1, .int .i64 m2, .int .i64 m3, .int .i64 m4]) (t := 63) (fr := (0, 0)) hnew) (by simp [Value.oneCell'])
        (by omega) (by unfold maxLen; omega) (by omega) (by omega) (w1.heap.size + 1 + 1) hszW ?_; intro gg cap w2 hown2 hgrow hat hlt2; have hW2 := hxx.whole.kept hgrow (Ne.symm hno); have c22 : w2.cell? ⟨R, 1, none⟩ = some lv := hW2.cell 1; have f22 := hW2.frozen 1; have hP2 := hP.kept hgrow (Ne.symm hne); have p0 := hP2.cell 0; have p1 := hP2.cell 1; have p2 := hP2.cell 2; have p3 := hP2.cell 3))
  all_goals
    have HX3 : Hid (RdX (w2.setCell ⟨R, 1, none⟩ (.slice (some ⟨gg, 0, none⟩) (st.ls.length + 1) cap)) B R { st with ls := st.ls ++ [(m1, m2, m3, m4)] } cv (.slice (some ⟨gg, 0, none⟩) (st.ls.length + 1) cap) av xs ys) := Lib.hid (hxx.pushL hgrow (m1, m2, m3, m4) rfl hown2 (Went.of hat (Nat.le_of_eq hszW)))
    have HB3 : Hid (Kb B R w (w2.setCell ⟨R, 1, none⟩ (.slice (some ⟨gg, 0, none⟩) (st.ls.length + 1) cap))) := Lib.hid (by
      have hx : Below B w1 w2 := (hbW.mono (by omega)).grown hgrow (by omega) fun g hg => (hxx.rl.lt g hg).1
      exact (Kb.of_below ((HB1.out.mono hBw).trans hx)).set 1 _ (by have := hx.size; omega))
    generalize w2.setCell ⟨R, 1, none⟩ (.slice (some ⟨gg, 0, none⟩) (st.ls.length + 1) cap) = W3 at *
    have c30 : W3.cell? ⟨R, 0, none⟩ = some cv := HX3.out.whole.cell 0
    have c31 : W3.cell? ⟨R, 1, none⟩ = some (.slice (some ⟨gg, 0, none⟩) (st.ls.length + 1) cap) := HX3.out.whole.cell 1
    clear hown2 hgrow hat hlt2 hW2 c22 f22 hP2 p0 p1 p2 p3 hno hne hP hnew hbW hszW c2 c2b
    rcases HC.out with ⟨hl, rfl⟩ | ⟨hl, rfl⟩
    · have HS := Lib.hid HX3.out.scr
      have HMAY : Hid (Calls Tryz.prog 92 #[.agg #[cv, .slice (some ⟨gg, 0, none⟩) (st.ls.length + 1) cap]] W3 fun e w' => e = .returned (.bool (maySet st.cs (st.ls ++ [(m1, m2, m3, m4)]))) ∧ Below W3.heap.size W3 w') := Lib.hid
        (smay_any _ _ _ _ W3 HS.out.confs HS.out.links (fun c hc' => (HK.out.ok.confs c hc').1) HMS.out (fun l hl' => by
          rcases List.mem_append.1 hl' with hl' | hl'
          · exact HK.out.ok.links l hl'
          · have : l = (m1, m2, m3, m4) := by simpa using hl'
            subst this; exact HIN.out) (by have := HK.out.nc; omega) (by have := HK.out.nl; simp; omega))
      have HL := Lib.hid hl
      clear hl
      go_wp2_with fail
      refine HMAY.out.mono ?_
      rintro e w4 ⟨rfl, hb4⟩
      have HB4 := Lib.hid (HB3.out.trans (Kb.of_below (hb4.mono (Nat.le_trans hBw HB3.out.size))))
      have HX4 := Lib.hid (HX3.out.here hb4)
      clear hb4
      go_wp2
      go_ret
      rw [HL.out] at HO
      simp only at HO
      cases hm : maySet st.cs (st.ls ++ [(m1, m2, m3, m4)]) with
      | false => exact LineRes.no (by rw [HO.out, hm]; rfl) rfl HB4.out
      | true => exact LineRes.yes _ (by rw [HO.out, hm]; rfl) rfl ⟨_, _, _, _, _, HX4.out⟩ HB4.out
    · have HL := Lib.hid hl
      clear hl
      go_wp2
      go_ret
      rw [HL.out] at HO
      exact LineRes.no HO.out rfl HB3.out
/-- The reader's line, whatever it is. -/
theorem line_any (s : List UInt8) (st : St) (B R : Nat) (w : World) (h : RdS w B R st) (E : Env w) (hBw : B ≤ w.heap.size) (hs : s.length ≤ 100000) (hk : StOk st) :
    Calls Tryz.prog 91 #[.pointer (some ⟨R, 0, none⟩), .string (str s)] w fun e w' => LineRes w B R (lineS st s) e w' := by
  cases hr : st.run with
  | true => exact line_run s st B R w h E hBw hs hk hr
  | false =>
    by_cases hc : st.cs = []
    · exact line_none s st B R w h hr hc
    · by_cases hw : s = wRun
      · exact line_go s st B R w h hr hBw hc (by have := hk.nc; omega) hw
      · exact line_link s st B R w h E hBw hs hk hr hc hw
end Go.Proofs.YtfbangojgjcbcaaGreatDoor
namespace Go.Proofs.YtfbangojgjcbcaaGreatDoor
open Go.RowKit Pl
theorem confS_eq {st : St} {L : List Ln} {q : Cfg} {m : Nat} {ec : Int} (hP : parseC (blockP L).flatten = (q, m, ec)) : confS st L = if ec = 3 then (none, firstLn (blockP L) (blockP L).length) else if ec = 0 then (if maySet (st.cs ++ [q]) st.ls && st.ls.isEmpty then (some q, (blockP L).length) else (none, 0)) else (none, m) := by
  unfold confS
  rw [hP]
/-- What a configuration's lines do to the reader. -/
def ConfRes (w : World) (B R : Nat) (st : St) (o : Option Cfg × Nat) (e : Ending) (w' : World) : Prop :=
  (match o.1 with
    | some c => e = .returned (.tuple #[.int .i64 (o.2 : Int), .bool true]) ∧ RdS w' B R { st with cs := st.cs ++ [c] }
    | none => e = .returned (.tuple #[.int .i64 (o.2 : Int), .bool false])) ∧ Kb B R w w'
theorem ConfRes.no {w w' : World} {B R : Nat} {st : St} {o : Option Cfg × Nat} {e : Ending} (n : Nat) (h : o = (none, n)) (he : e = .returned (.tuple #[.int .i64 (n : Int), .bool false])) (hb : Kb B R w w') : ConfRes w B R st o e w' := by
  subst h; exact ⟨he, hb⟩
theorem ConfRes.yes {w w' : World} {B R : Nat} {st : St} {o : Option Cfg × Nat} {e : Ending} (c : Cfg) (n : Nat) (h : o = (some c, n)) (he : e = .returned (.tuple #[.int .i64 (n : Int), .bool true])) (hr : RdS w' B R { st with cs := st.cs ++ [c] }) (hb : Kb B R w w') : ConfRes w B R st o e w' := by
  subst h; exact ⟨⟨he, hr⟩, hb⟩
set_option maxRecDepth 100000 in
set_option maxHeartbeats 8000000 in
theorem rconf_any (b off c n : Nat) (L : List Ln) (st : St) (B R : Nat) (w : World) (h : RdS w B R st) (E : Env w) (hBw : B ≤ w.heap.size) (hk : StOk st) (hs : StrRow w b off L) (hn : n = L.length) (hc : L.length ≤ c)
    (hl : L.length ≤ 100000000) (hx : ∀ l ∈ L, l.length ≤ 1000000) (hf : L.flatten.length ≤ 100000000) :
    Calls Tryz.prog 90 #[.pointer (some ⟨R, 0, none⟩), .slice (some ⟨b, off, none⟩) n c] w fun e w' => ConfRes w B R st (confS st L) e w' := by
  obtain ⟨cv, lv, av, xs, ys, hr⟩ := h
  have hcl := hk.nc
  have hnl := hk.nl
  have hxl : xs.length = st.cs.length := by rw [hr.cs, List.length_map]
  obtain ⟨AL, kL, hlv⟩ := own_slice_n hr.rl
  have HLV := Lib.hid hlv
  have hRw := hr.whole.lt
  have hbt : blockP L = L.take (blockP L).length := (block_take L).symm
  have hbl : (blockP L).length ≤ L.length := by have := congrArg List.length hbt; rw [List.length_take] at this; omega
  have hbf : (blockP L).flatten.length ≤ L.flatten.length := by have := block_flat L; have := congrArg List.length this; simp only [List.length_append] at this; omega
  have HSB : Hid (StrRow w b off (blockP L)) := Lib.hid (by rw [hbt]; exact hs.take _)
  have HBK := Lib.hid (block_any b off c n L w hs hn hc (by omega) hx E)
  have HMS : Hid (∀ c ∈ st.cs, Addrs4 c ∧ c.own.length ≤ 1000000 ∧ c.ports.length ≤ 1000000 ∧ In64 c.node) := Lib.hid (fun c hc => by
    have hne : st.cs ≠ [] := fun e => by rw [e] at hc; cases hc
    exact ⟨(hk.ok.confs c hc).1, may_sizes (hk.ok.may hne) hk.ok.confs c hc⟩)
  have HLK := Lib.hid hk.ok.links
  have HR := Lib.hid hr
  have EE := Lib.hid E
  have HXL := Lib.hid hxl
  have hbl9 : (blockP L).length ≤ 100000000 := by omega
  have hblc : (blockP L).length ≤ c := by omega
  have hbf9 : (blockP L).flatten.length ≤ 100000000 := by omega
  obtain ⟨q, m, ec, hP⟩ : ∃ q m ec, parseC (blockP L).flatten = (q, m, ec) := ⟨_, _, _, rfl⟩
  have HO := Lib.hid (confS_eq (st := st) hP)
  obtain ⟨o, ho⟩ : ∃ o, confS st L = o := ⟨_, rfl⟩
  rw [ho] at HO ⊢
  have HP := Lib.hid hP
  generalize hBL : blockP L = BL at *
  clear ho hP hBL hr E hs hn hc hl hx hf hk hbt hbl hbf hlv hxl
  have hx9 : xs.length ≤ 100 := by rw [HXL.out]; exact hcl
  go_enter Tryz.func90, Tryz.ntmps90
  go_wp2_with fail
  refine HBK.out.mono ?_
  rintro e w1 ⟨rfl, hb1⟩
  have HB1 := Lib.hid hb1
  have HJ := Lib.hid (joinE_any b off c BL.length BL w1 (HSB.out.here hb1) rfl hblc (by omega) (by omega))
  clear hb1
  go_wp2_with fail
  refine HJ.out.mono ?_
  rintro e w2 ⟨rfl, hb2⟩
  have HB2 := Lib.hid (HB1.out.trans (hb2.mono HB1.out.size))
  have HR2 := Lib.hid (HR.out.here HB2.out)
  have E2 := Lib.hid (EE.out.here HB2.out)
  clear hb2
  go_wp2_with fail
  refine (parse_from _ w2 (by omega) E2.out).mono ?_
  rintro e w3 ⟨⟨v, rfl, hcf, hcn⟩, hb3⟩
  rw [HP.out] at hcf ⊢
  obtain ⟨⟨own, ports, rfl, ho, hp⟩⟩ := hcf
  obtain ⟨q', own', ports', hv', hfo, hfp⟩ := hcn
  obtain ⟨rfl, rfl⟩ : own = own' ∧ ports = ports' := by unfold cfgV at hv'; simp at hv'; exact ⟨hv'.2.2.1, hv'.2.2.2.1⟩
  clear hv'
  have HB3 := Lib.hid (HB2.out.trans (hb3.mono HB2.out.size))
  have HR3 := Lib.hid (HR2.out.here hb3)
  have HIO : Hid (Inn w3 B R [cv, lv, av] own) := Lib.hid (HR2.out.fresh (Nat.le_trans hBw HB2.out.size) hfo ho.lt_of)
  have HIP : Hid (Inn w3 B R [cv, lv, av] ports) := Lib.hid (HR2.out.fresh (Nat.le_trans hBw HB2.out.size) hfp hp.lt_of)
  have HQO := Lib.hid ho
  have HQP := Lib.hid hp
  obtain ⟨A1, k1, rfl, -⟩ := ho
  obtain ⟨A2, k2, rfl, -⟩ := hp
  have hsz := HB3.out.size
  have E3 := Lib.hid (EE.out.here HB3.out)
  clear hb3 hfo hfp
  unfold cfgV
  by_cases h3 : ec = 3
  · subst h3
    have HO3 : Hid (o = (none, firstLn BL BL.length)) := Lib.hid (by rw [HO.out, if_pos rfl])
    obtain ⟨W4, hW4⟩ : ∃ X, w3.alloc (.cells #[.int .i64 q.node, .int .u32 q.addr, .slice A1 q.own.length k1, .slice A2 q.ports.length k2, .int .i64 q.hello, .int .i64 q.dead, .int .i64 q.again, .int .i64 q.room, .int .i64 q.queue, .int .i64 q.tokens, .int .i64 q.refill] 28) = X := ⟨_, rfl⟩
    have HB4 : Hid (Below w.heap.size w W4) := Lib.hid (by rw [← hW4]; exact HB3.out.alloc HB3.out.size _)
    have HY4 : Hid (Whole W4 w3.heap.size 28 #[.int .i64 q.node, .int .u32 q.addr, .slice A1 q.own.length k1, .slice A2 q.ports.length k2, .int .i64 q.hello, .int .i64 q.dead, .int .i64 q.again, .int .i64 q.room, .int .i64 q.queue, .int .i64 q.tokens, .int .i64 q.refill]) := Lib.hid (by rw [← hW4]; exact Whole.new w3 _ _)
    have HW4 := Lib.hid hW4
    clear hW4
    have HF := Lib.hid (first_any b off c BL.length BL W4 (HSB.out.here HB4.out) rfl hblc hbl9 hbf9 (EE.out.here HB4.out))
    go_wp2_with fail
    rw [HW4.out]
    refine HF.out.mono ?_
    rintro e w5 ⟨⟨q2, A3, k3, A4, k4, rfl⟩, hb5⟩
    have HB5 := Lib.hid (HB4.out.trans (hb5.mono HB4.out.size))
    have HY5 := Lib.hid (HY4.out.here hb5)
    clear hb5
    unfold cfgV
    have b0 : w5.cell? ⟨w3.heap.size, 0, none⟩ = some (.int .i64 q.node) := HY5.out.cell 0
    have f0 := HY5.out.frozen 0
    have b1 : w5.cell? ⟨w3.heap.size, 1, none⟩ = some (.int .u32 q.addr) := HY5.out.cell 1
    have f1 := HY5.out.frozen 1
    have b2 : w5.cell? ⟨w3.heap.size, 2, none⟩ = some (.slice A1 q.own.length k1) := HY5.out.cell 2
    have f2 := HY5.out.frozen 2
    have b3 : w5.cell? ⟨w3.heap.size, 3, none⟩ = some (.slice A2 q.ports.length k2) := HY5.out.cell 3
    have f3 := HY5.out.frozen 3
    have b4 : w5.cell? ⟨w3.heap.size, 4, none⟩ = some (.int .i64 q.hello) := HY5.out.cell 4
    have f4 := HY5.out.frozen 4
    have b5 : w5.cell? ⟨w3.heap.size, 5, none⟩ = some (.int .i64 q.dead) := HY5.out.cell 5
    have f5 := HY5.out.frozen 5
    have b6 : w5.cell? ⟨w3.heap.size, 6, none⟩ = some (.int .i64 q.again) := HY5.out.cell 6
    have f6 := HY5.out.frozen 6
    have b7 : w5.cell? ⟨w3.heap.size, 7, none⟩ = some (.int .i64 q.room) := HY5.out.cell 7
    have f7 := HY5.out.frozen 7
    have b8 : w5.cell? ⟨w3.heap.size, 8, none⟩ = some (.int .i64 q.queue) := HY5.out.cell 8
    have f8 := HY5.out.frozen 8
    have b9 : w5.cell? ⟨w3.heap.size, 9, none⟩ = some (.int .i64 q.tokens) := HY5.out.cell 9
    have f9 := HY5.out.frozen 9
    have b10 : w5.cell? ⟨w3.heap.size, 10, none⟩ = some (.int .i64 q.refill) := HY5.out.cell 10
    have f10 := HY5.out.frozen 10
    go_wp2
    go_ret2
    have hbq := box_below (.int .i64 q2.node) (.int .u32 q2.addr) (.slice A3 q2.own.length k3) (.slice A4 q2.ports.length k4) (.int .i64 q2.hello) (.int .i64 q2.dead) (.int .i64 q2.again) (.int .i64 q2.room) (.int .i64 q2.queue) (.int .i64 q2.tokens) (.int .i64 q2.refill) HB5.out (show w.heap.size ≤ w3.heap.size from hsz)
    exact ConfRes.no _ HO3.out rfl (Kb.of_below (hbq.mono hBw))
  · have h3' : (ec == 3) = false := by simpa using h3
    by_cases h0 : ec = 0
    · subst h0
      have HO0 : Hid (o = if maySet (st.cs ++ [q]) st.ls && st.ls.isEmpty then (some q, BL.length) else (none, 0)) := Lib.hid (by rw [HO.out, if_neg (by decide), if_pos rfl])
      have HQ : Hid (Addrs4 q ∧ q.own.length ≤ 1000000 ∧ q.ports.length ≤ 1000000 ∧ In64 q.node) := Lib.hid (by
        obtain ⟨-, q1, q2, -⟩ := parse_sound HP.out
        have g1 := (mayC_parts q1).1
        have g2 := (mayC_parts q1).2.1
        simp only [ownOk, Bool.and_eq_true, decide_eq_true_eq] at g1
        exact ⟨q2, by omega, by omega, node_in q1⟩)
      obtain ⟨W1, hW1⟩ : ∃ X, ((w3.alloc (.cells #[.int .i64 q.node, .int .u32 q.addr, .slice A1 q.own.length k1, .slice A2 q.ports.length k2, .int .i64 q.hello, .int .i64 q.dead, .int .i64 q.again, .int .i64 q.room, .int .i64 q.queue, .int .i64 q.tokens, .int .i64 q.refill] 28)).alloc (.cells #[.int .i64 q.node, .int .u32 q.addr, .slice A1 q.own.length k1, .slice A2 q.ports.length k2, .int .i64 q.hello, .int .i64 q.dead, .int .i64 q.again, .int .i64 q.room, .int .i64 q.queue, .int .i64 q.tokens, .int .i64 q.refill] 28)).drew = X := ⟨_, rfl⟩
      have hnew : W1.heap[w3.heap.size + 1]? = some (.cells #[.int .i64 q.node, .int .u32 q.addr, .slice A1 q.own.length k1, .slice A2 q.ports.length k2, .int .i64 q.hello, .int .i64 q.dead, .int .i64 q.again, .int .i64 q.room, .int .i64 q.queue, .int .i64 q.tokens, .int .i64 q.refill] 28 (0, 0)) := by
        rw [← hW1]
        have := heap_alloc_new (w3.alloc (.cells #[.int .i64 q.node, .int .u32 q.addr, .slice A1 q.own.length k1, .slice A2 q.ports.length k2, .int .i64 q.hello, .int .i64 q.dead, .int .i64 q.again, .int .i64 q.room, .int .i64 q.queue, .int .i64 q.tokens, .int .i64 q.refill] 28)) (.cells #[.int .i64 q.node, .int .u32 q.addr, .slice A1 q.own.length k1, .slice A2 q.ports.length k2, .int .i64 q.hello, .int .i64 q.dead, .int .i64 q.again, .int .i64 q.room, .int .i64 q.queue, .int .i64 q.tokens, .int .i64 q.refill] 28)
        rw [World.size_alloc] at this
        exact this
      have hP : Whole W1 w3.heap.size 28 #[.int .i64 q.node, .int .u32 q.addr, .slice A1 q.own.length k1, .slice A2 q.ports.length k2, .int .i64 q.hello, .int .i64 q.dead, .int .i64 q.again, .int .i64 q.room, .int .i64 q.queue, .int .i64 q.tokens, .int .i64 q.refill] := by rw [← hW1]; exact ((Whole.new w3 _ _).alloc _).drew
      have hxx : RdX W1 B R st cv lv av xs ys := by rw [← hW1]; exact ((HR3.out.alloc _).alloc _).drew
      have hbW : Below w3.heap.size w3 W1 := by rw [← hW1]; exact (((Below.refl _ w3).alloc (Nat.le_refl _) _).alloc (by simp) _).drew
      have hszW : W1.heap.size = w3.heap.size + 1 + 1 := by rw [← hW1]; simp
      have hne : cv.ownBlock ≠ some w3.heap.size := fun e => by have := (HR3.out.rc.lt _ e).2; omega
      have c0 : (w3.alloc (.cells #[.int .i64 q.node, .int .u32 q.addr, .slice A1 q.own.length k1, .slice A2 q.ports.length k2, .int .i64 q.hello, .int .i64 q.dead, .int .i64 q.again, .int .i64 q.room, .int .i64 q.queue, .int .i64 q.tokens, .int .i64 q.refill] 28)).cell? ⟨R, 0, none⟩ = some cv := (HR3.out.alloc _).whole.cell 0
      have c0b : ((w3.alloc (.cells #[.int .i64 q.node, .int .u32 q.addr, .slice A1 q.own.length k1, .slice A2 q.ports.length k2, .int .i64 q.hello, .int .i64 q.dead, .int .i64 q.again, .int .i64 q.room, .int .i64 q.queue, .int .i64 q.tokens, .int .i64 q.refill] 28)).alloc (.cells #[.int .i64 q.node, .int .u32 q.addr, .slice A1 q.own.length k1, .slice A2 q.ports.length k2, .int .i64 q.hello, .int .i64 q.dead, .int .i64 q.again, .int .i64 q.room, .int .i64 q.queue, .int .i64 q.tokens, .int .i64 q.refill] 28)).cell? ⟨R, 0, none⟩ = some cv := ((HR3.out.alloc _).alloc _).whole.cell 0
      have hno := hxx.whole.notRow hxx.rc (by decide)
      obtain ⟨i0, hi0, hz0, hz1, hz2⟩ := info_parts info_CF
      have HW1 := Lib.hid hW1
      clear hW1
      go_upto_region 7 with fail
      go_region_law
        ((rw [HW1.out]; refine step_append_lies _ (by rfl) _ _ _ (by rfl) B 28 i0 _ 11 120 Tryz.underlying70 hi0 hz0 hz1 hz2 rfl (by omega) _ xs.length _ (by rfl) hxx.rc
            ⟨w3.heap.size + 1, 0, none⟩ 1 1 [.int .i64 q.node, .int .u32 q.addr, .slice A1 q.own.length k1, .slice A2 q.ports.length k2, .int .i64 q.hello, .int .i64 q.dead, .int .i64 q.again, .int .i64 q.room, .int .i64 q.queue, .int .i64 q.tokens, .int .i64 q.refill] (by rfl) (by rfl) (World.news_of_block (cs := #[.int .i64 q.node, .int .u32 q.addr, .slice A1 q.own.length k1, .slice A2 q.ports.length k2, .int .i64 q.hello, .int .i64 q.dead, .int .i64 q.again, .int .i64 q.room, .int .i64 q.queue, .int .i64 q.tokens, .int .i64 q.refill]) (t := 28) (fr := (0, 0)) hnew) (by simp [Value.oneCell'])
            (by omega) (by unfold maxLen; omega) (by omega) (by omega) (w3.heap.size + 1 + 1) hszW ?_; intro gg cap w4 hown4 hgrow hat hlt4; have hW4 := hxx.whole.kept hgrow (Ne.symm hno); have c04 : w4.cell? ⟨R, 0, none⟩ = some cv := hW4.cell 0; have f04 := hW4.frozen 0; have hP4 := hP.kept hgrow (Ne.symm hne); have p0 := hP4.cell 0; have p1 := hP4.cell 1; have p2 := hP4.cell 2; have p3 := hP4.cell 3; have p4 := hP4.cell 4; have p5 := hP4.cell 5; have p6 := hP4.cell 6; have p7 := hP4.cell 7; have p8 := hP4.cell 8; have p9 := hP4.cell 9; have p10 := hP4.cell 10))
      all_goals
        have HX3 : Hid (RdX (w4.setCell ⟨R, 0, none⟩ (.slice (some ⟨gg, 0, none⟩) (xs.length + 1) cap)) B R { st with cs := st.cs ++ [q] } (.slice (some ⟨gg, 0, none⟩) (xs.length + 1) cap) lv av (xs ++ [⟨q, .slice A1 q.own.length k1, .slice A2 q.ports.length k2⟩]) ys) := Lib.hid (hxx.pushC hgrow ⟨q, .slice A1 q.own.length k1, .slice A2 q.ports.length k2⟩ rfl hown4 (Went.of hat (Nat.le_of_eq hszW)) ⟨HQO.out.stay (HIO.out.here hbW), HQP.out.stay (HIP.out.here hbW), HIO.out.below hbW.size, HIP.out.below hbW.size⟩)
        have HK3 : Hid (Kb B R w (w4.setCell ⟨R, 0, none⟩ (.slice (some ⟨gg, 0, none⟩) (xs.length + 1) cap))) := Lib.hid (by
          have hx : Below B w3 w4 := (hbW.mono (by omega)).grown hgrow (by omega) fun g hg => (hxx.rc.lt g hg).1
          exact (Kb.of_below ((HB3.out.mono hBw).trans hx)).set 0 _ (by have := hx.size; omega))
        generalize w4.setCell ⟨R, 0, none⟩ (.slice (some ⟨gg, 0, none⟩) (xs.length + 1) cap) = W3 at *
        have c30 : W3.cell? ⟨R, 0, none⟩ = some (.slice (some ⟨gg, 0, none⟩) (xs.length + 1) cap) := HX3.out.whole.cell 0
        have c31 : W3.cell? ⟨R, 1, none⟩ = some lv := HX3.out.whole.cell 1
        clear hown4 hgrow hat hlt4 hW4 c04 f04 hP4 hno hne hP hnew hbW hszW c0 c0b p0 p1 p2 p3 p4 p5 p6 p7 p8 p9 p10
        have HS := Lib.hid HX3.out.scr
        obtain ⟨bm, hbm⟩ : ∃ bm, maySet (st.cs ++ [q]) st.ls = bm := ⟨_, rfl⟩
        have HMAY : Hid (Calls Tryz.prog 92 #[.agg #[.slice (some ⟨gg, 0, none⟩) (xs.length + 1) cap, lv]] W3 fun e w' => e = .returned (.bool bm) ∧ Below W3.heap.size W3 w') := Lib.hid (by
          rw [← hbm]
          refine smay_any _ _ _ _ W3 HS.out.confs HS.out.links (fun c hc' => ?_) (fun c hc' => ?_) HLK.out (by simp; omega) (by omega)
          · rcases List.mem_append.1 hc' with hc' | hc'
            · exact (HMS.out c hc').1
            · have : c = q := by simpa using hc'
              subst this; exact HQ.out.1
          · rcases List.mem_append.1 hc' with hc' | hc'
            · exact (HMS.out c hc').2
            · have : c = q := by simpa using hc'
              subst this; exact HQ.out.2)
        rw [hbm] at HO0
        clear hbm
        rw [HLV.out] at c31 HMAY
        cases bm with
        | false =>
          go_wp2_with fail
          (with_reducible refine HMAY.out.mono ?_)
          rintro e w5 ⟨rfl, hb5⟩
          have HB5 := Lib.hid (HK3.out.trans (Kb.of_below (hb5.mono (Nat.le_trans hBw HK3.out.size))))
          clear hb5
          go_wp2
          go_ret2
          exact ConfRes.no 0 HO0.out rfl HB5.out
        | true =>
          by_cases hls : st.ls = []
          · have HLS := Lib.hid hls
            have hz : st.ls.length = 0 := by rw [hls]; rfl
            rw [hz] at c31 HMAY
            clear hls hz
            go_wp2_with fail
            (with_reducible refine HMAY.out.mono ?_)
            rintro e w5 ⟨rfl, hb5⟩
            have HB5 := Lib.hid (HK3.out.trans (Kb.of_below (hb5.mono (Nat.le_trans hBw HK3.out.size))))
            have HX5 := Lib.hid (HX3.out.here hb5)
            have c51 : w5.cell? ⟨R, 1, none⟩ = some (.slice AL 0 kL) := (hb5.cell (p := ⟨R, 1, none⟩) HX3.out.whole.lt).trans c31
            clear hb5
            go_wp2
            go_ret2
            exact ConfRes.yes q BL.length (by rw [HO0.out, HLS.out]; rfl) rfl ⟨_, _, _, _, _, HX5.out⟩ HB5.out
          · have hz : 0 < st.ls.length := List.length_pos_iff.2 hls
            have HLS := Lib.hid hls
            clear hls
            go_wp2_with fail
            (with_reducible refine HMAY.out.mono ?_)
            rintro e w5 ⟨rfl, hb5⟩
            have HB5 := Lib.hid (HK3.out.trans (Kb.of_below (hb5.mono (Nat.le_trans hBw HK3.out.size))))
            have c51 : w5.cell? ⟨R, 1, none⟩ = some (.slice AL st.ls.length kL) := (hb5.cell (p := ⟨R, 1, none⟩) HX3.out.whole.lt).trans c31
            clear hb5
            go_wp2
            go_ret2
            exact ConfRes.no 0 (by rw [HO0.out, if_neg (by simpa using HLS.out)]) rfl HB5.out
    · have h0' : (ec == 0) = false := by simpa using h0
      have h0'' : (ec != 0) = true := by simpa using h0
      have HON : Hid (o = (none, m)) := Lib.hid (by rw [HO.out, if_neg h3, if_neg h0])
      clear h3 h0
      go_wp2
      go_ret2
      exact ConfRes.no m HON.out rfl (Kb.of_below ((HB3.out.alloc HB3.out.size _).mono hBw))
end Go.Proofs.YtfbangojgjcbcaaGreatDoor
