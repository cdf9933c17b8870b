/- ScriptBack answers true for any script and any text, and leaves its arguments as they were. Conditions: those of the given card (the listed package-level variables hold what the program's text lays). -/
import Derived.Test.YtfbangojgjcbcaaGreatDoorSB13
import Derived.Test.YtfbangojgjcbcaaGreatDoorSB17
namespace Go.Proofs.YtfbangojgjcbcaaGreatDoor
open Go.RowKit Pl
theorem sText_len {cs : List Cfg} {ls : List Lk} {zs : List ActP} {t : Ln} (h : sText cs ls zs = (t, 0)) : (textS cs ls zs).length ≤ 4194304 := by
  unfold sText at h
  split at h
  · split at h
    · injection h with _ h; cases h
    · split at h
      · injection h with _ h; cases h
      · omega
  · injection h with _ h; cases h
theorem sameS_refl (cs : List Cfg) (ls : List Lk) (zs : List ActP) : sameS cs cs ls ls zs zs = true := by unfold sameS; simp
theorem short_lines (text : Ln) (n : Nat) (h : text.length ≤ n) : ∀ l ∈ linesT text, l.length ≤ n := fun l hl => by
  have h1 := congrArg List.length (lines_flat text)
  have h2 : ∀ M : List Ln, ∀ x ∈ M, x.length ≤ M.flatten.length := fun M => by
    induction M with
    | nil => intro x hx; cases hx
    | cons a M ih =>
      intro x hx
      rw [List.flatten_cons, List.length_append]
      rcases List.mem_cons.1 hx with rfl | hx
      · omega
      · have := ih x hx; omega
  have := h2 _ l hl
  omega
theorem parseS_no {text : Ln} {n : Nat} {c : Int} (h : parseS text = (none, n, c)) : ¬ c = 0 := by
  rintro rfl
  unfold parseS at h
  split at h
  · cases h
  · split at h
    · split at h
      · cases h
      · cases h
    · cases h
set_option maxRecDepth 100000 in
set_option maxHeartbeats 16000000 in
theorem scriptBack_walk (cv lv av : Value) (cs : List Cfg) (ls : List Lk) (zs : List ActP) (text : Ln) (w : World) (h : ScrIs w cv lv av cs ls zs) (g : ScrAny cs ls zs) (htl : text.length ≤ maxLen) (E : Env w) :
    Calls Tryz.prog 12 #[.agg #[cv, lv, av], .string (str text)] w fun e w' => e = .returned (.bool true) ∧ Below w.heap.size w w' := by
  have HG := Lib.hid g
  have HS := Lib.hid h
  obtain ⟨A1, k1, rfl, -⟩ := h.confs
  obtain ⟨A2, k2, rfl, -⟩ := h.links
  obtain ⟨A3, k3, rfl, -⟩ := h.acts
  obtain ⟨W0, hW0⟩ : ∃ X, w.alloc (.cells #[.slice A1 cs.length k1, .slice A2 ls.length k2, .slice A3 zs.length k3] 76) = X := ⟨_, rfl⟩
  have hb0 : Below w.heap.size w W0 := by rw [← hW0]; exact (Below.refl _ _).alloc (Nat.le_refl _) _
  have HZ0 := Lib.hid hb0
  have HB0 := Lib.hid (Below.refl W0.heap.size W0)
  have HX0 : Hid (Whole W0 w.heap.size 76 #[.slice A1 cs.length k1, .slice A2 ls.length k2, .slice A3 zs.length k3]) := Lib.hid (by rw [← hW0]; exact Whole.new w _ _)
  have EE := Lib.hid (E.here HZ0.out)
  have HS0 := Lib.hid (HS.out.here HZ0.out)
  have hsz := str_size text
  have HW0 := Lib.hid hW0
  have htm : text.length ≤ 9223372036854775807 := htl
  clear hW0 hb0 h g E htl
  go_enter Tryz.func12, Tryz.ntmps12
  go_wp2_with fail
  rw [HW0.out]
  refine (known25_any _ (EE.out.here HB0.out)).mono ?_
  rintro e w1 ⟨rfl, hb⟩
  have HB1 := Lib.hid (HB0.out.trans (hb.mono HB0.out.size))
  have HX1 := Lib.hid (HX0.out.here hb)
  clear hb
  have hsz1 := HB1.out.size
  go_upto_if 24 with (fail)
  go_cut [4] (fun s wx => s = .bool false ∧ Hid (Below W0.heap.size W0 wx))
  case first =>
    by_cases h2 : text.length ≤ 20000
    · have h2' : decide (((str text).size : Int) ≤ 20000) = true := decide_eq_true (by rw [hsz]; omega)
      have HPA := Lib.hid (sparse_any text w1 (by omega) (fun l hl => by have := short_lines text 20000 h2 l hl; omega) (EE.out.here HB1.out))
      obtain ⟨⟨o, n, c⟩, hp⟩ : ∃ r, parseS text = r := ⟨_, rfl⟩
      rw [hp] at HPA
      have HP := Lib.hid hp
      clear hp hsz
      go_wp2_with fail
      (with_reducible refine HPA.out.mono ?_)
      rintro e w2 ⟨hres, hb⟩
      cases o with
      | none =>
        have hc0 := parseS_no HP.out
        have hc1 : (c == 0) = false := by simpa using hc0
        unfold ParseSRes at hres
        simp only at hres
        subst hres
        have HB2 := Lib.hid (HB1.out.trans (hb.mono HB1.out.size))
        clear hb hc0
        go_wp2_with (go_at_call 35; refine (num25_any _ _).mono ?_; rintro e w' ⟨rfl, rfl⟩)
        go_meet
        exact ⟨rfl, Lib.hid (HB2.out.alloc HB2.out.size _)⟩
      | some st =>
        unfold ParseSRes at hres
        simp only at hres
        obtain ⟨cv2, lv2, av2, rfl, hsi⟩ := hres
        obtain ⟨hok, hst⟩ := parsed_ok HP.out
        have hc0 : c = 0 := (parseS_sound HP.out).2.2.2.2.2
        subst hc0
        have HSI := Lib.hid hsi
        obtain ⟨B1, l1, rfl, -⟩ := hsi.confs
        obtain ⟨B2, l2, rfl, -⟩ := hsi.links
        obtain ⟨B3, l3, rfl, -⟩ := hsi.acts
        have HB2 := Lib.hid (HB1.out.trans (hb.mono HB1.out.size))
        obtain ⟨W2, hW2⟩ : ∃ X, w2.alloc (.cells #[.slice B1 st.cs.length l1, .slice B2 st.ls.length l2, .slice B3 st.zs.length l3] 76) = X := ⟨_, rfl⟩
        have HB3 : Hid (Below W0.heap.size W0 W2) := Lib.hid (by rw [← hW2]; exact HB2.out.alloc HB2.out.size _)
        have HSI3 : Hid (ScrIs W2 (.slice B1 st.cs.length l1) (.slice B2 st.ls.length l2) (.slice B3 st.zs.length l3) st.cs st.ls st.zs) := Lib.hid (by rw [← hW2]; exact HSI.out.here ((Below.refl _ _).alloc (Nat.le_refl _) _))
        have HTX := Lib.hid (stext_any _ _ _ st.cs st.ls st.zs W2 HSI3.out hok (EE.out.here HB3.out) (fun _ _ => by have := sText_len hst; omega))
        have HST := Lib.hid hst
        have HW2 := Lib.hid hW2
        clear hb hsi hok hst hW2
        have hq1 : ((str text).toList == (str text).toList) = true := beq_self_eq_true _
        go_wp2_with (first
          | (go_at_call 35; refine (num25_any _ _).mono ?_; rintro e w' ⟨rfl, rfl⟩)
          | fail)
        rw [HW2.out]
        refine HTX.out.mono ?_
        rintro e w3 ⟨ht, hb⟩
        unfold TextRes at ht
        rw [HST.out] at ht
        subst ht
        have HB4 := Lib.hid (HB3.out.trans (hb.mono HB3.out.size))
        clear hb
        go_wp2_with (go_at_call 35; refine (num25_any _ _).mono ?_; rintro e w' ⟨rfl, rfl⟩)
        go_meet
        exact ⟨rfl, HB4⟩
    · have h2' : decide (((str text).size : Int) ≤ 20000) = false := decide_eq_false (by rw [hsz]; omega)
      go_wp2
      go_meet
      exact ⟨rfl, HB1⟩
  case rest =>
    obtain ⟨rfl, HB2⟩ := hcut
    have HX2 := Lib.hid (HX0.out.here HB2.out)
    clear hsz htm hsz1 HB1 HX1
    try clear x0 x1 x2 xl
    have x0 : wc.cell? ⟨w.heap.size, 0, none⟩ = some (.slice A1 cs.length k1) := HX2.out.cell 0
    have x1 : wc.cell? ⟨w.heap.size, 1, none⟩ = some (.slice A2 ls.length k2) := HX2.out.cell 1
    have x2 : wc.cell? ⟨w.heap.size, 2, none⟩ = some (.slice A3 zs.length k3) := HX2.out.cell 2
    have xl : w.heap.size < wc.heap.size := HX2.out.lt
    have HMA := Lib.hid (rmuch_any _ _ _ cs ls zs wc (HS0.out.here HB2.out) HG.out.nc HG.out.na)
    go_wp2_with fail
    refine HMA.out.mono ?_
    rintro e w3 ⟨⟨bm, rfl, hsm⟩, hb⟩
    have HB3 := Lib.hid (HB2.out.trans (hb.mono HB2.out.size))
    have HX3 := Lib.hid (HX2.out.here hb)
    clear hb
    try clear x0 x1 x2 xl
    have x0 : w3.cell? ⟨w.heap.size, 0, none⟩ = some (.slice A1 cs.length k1) := HX3.out.cell 0
    have x1 : w3.cell? ⟨w.heap.size, 1, none⟩ = some (.slice A2 ls.length k2) := HX3.out.cell 1
    have x2 : w3.cell? ⟨w.heap.size, 2, none⟩ = some (.slice A3 zs.length k3) := HX3.out.cell 2
    have xl : w.heap.size < w3.heap.size := HX3.out.lt
    cases bm with
    | true =>
      go_wp2
      go_ret
      exact ⟨by rfl, HZ0.out.trans (HB3.out.mono HZ0.out.size)⟩
    | false =>
      have HSM := Lib.hid (hsm rfl)
      have HK := Lib.hid (small_ok HSM.out HG.out.confs HG.out.links HG.out.acts)
      have hna := HSM.out.na
      clear hsm
      go_wp2
      go_loopw [10] (fun i wr => ∃ j : Nat, j ≤ zs.length ∧ i = .int .i64 j ∧ Hid (Below W0.heap.size W0 wr)) (fun i _ => zs.length - (intOf i).toNat)
      case atStart => exact ⟨0, Nat.zero_le _, rfl, HB3⟩
      case round =>
        obtain ⟨j, hj, rfl, HB4⟩ := hrel
        have HX4 := Lib.hid (HX0.out.here HB4.out)
        clear HB3 HX3 HB2 HX2
        try clear x0 x1 x2 xl
        have x0 : wr.cell? ⟨w.heap.size, 0, none⟩ = some (.slice A1 cs.length k1) := HX4.out.cell 0
        have x1 : wr.cell? ⟨w.heap.size, 1, none⟩ = some (.slice A2 ls.length k2) := HX4.out.cell 1
        have x2 : wr.cell? ⟨w.heap.size, 2, none⟩ = some (.slice A3 zs.length k3) := HX4.out.cell 2
        have xl : w.heap.size < wr.heap.size := HX4.out.lt
        by_cases hlt : j < zs.length
        · obtain ⟨x, hx⟩ : ∃ u, zs[j]? = some u := ⟨_, List.getElem?_eq_getElem hlt⟩
          have HIA := Lib.hid (HG.out.acts x (List.mem_of_getElem? hx))
          have hbl := (HK.out.acts x (List.mem_of_getElem? hx)).2
          obtain ⟨g, off, rfl, hg, bv, hbv, p0, p1, p2, p3, p4, p5, p6, p7, p8⟩ := (HS0.out.here HB4.out).acts.at hx
          obtain ⟨A4, k4, rfl, -⟩ := id hbv
          have HBV := Lib.hid hbv
          have HJ := Lib.hid hx
          clear hx hbv
          cases hm : mayA x with
          | false =>
            have HCM := Lib.hid (cActText_no x _ wr HBV.out hm (by omega))
            unfold actV at HCM
            clear hm
            go_wp2_with fail
            (with_reducible refine HCM.out.mono ?_)
            rintro e w5 ⟨rfl, hb5⟩
            have HB5 := Lib.hid (HB4.out.trans (hb5.mono HB4.out.size))
            clear hb5
            go_wp2_with (go_at_call 35; refine (num25_any _ _).mono ?_; rintro e w' ⟨rfl, rfl⟩)
            go_roundw
            case rel => exact ⟨j + 1, by omega, by go_num, HB5⟩
            case measure => simp [intOf]; omega
          | true =>
            have hlen := actText_len hm HIA.out
            have hmb := (mayA_parts hm).2
            have HCM := Lib.hid (cActText_yes x _ wr HBV.out HIA.out hm (by omega) (EE.out.here HB4.out))
            have HAC := Lib.hid (actC_text hm HIA.out)
            have hal : (actText x).length ≤ 100000 := by omega
            unfold actV at HCM
            clear hm hlen
            go_wp2_with fail
            (with_reducible refine HCM.out.mono ?_)
            rintro e w5 ⟨rfl, hb⟩
            have HB5 := Lib.hid (HB4.out.trans (hb.mono HB4.out.size))
            have HX5 := Lib.hid (HX4.out.here hb)
            have HC5 := Lib.hid hb
            have HAO := Lib.hid (cactOf_from (actText x) w5 hal (EE.out.here HB5.out))
            clear hb
            rw [HAC.out] at HAO
            try clear x0 x1 x2 xl
            have x0 : w5.cell? ⟨w.heap.size, 0, none⟩ = some (.slice A1 cs.length k1) := HX5.out.cell 0
            have x1 : w5.cell? ⟨w.heap.size, 1, none⟩ = some (.slice A2 ls.length k2) := HX5.out.cell 1
            have x2 : w5.cell? ⟨w.heap.size, 2, none⟩ = some (.slice (some ⟨g, off, none⟩) zs.length k3) := HX5.out.cell 2
            have xl : w.heap.size < w5.heap.size := HX5.out.lt
            go_wp2_with (go_at_call 35; refine (num25_any _ _).mono ?_; rintro e w' ⟨rfl, rfl⟩)
            refine HAO.out.mono ?_
            rintro e w6 ⟨⟨bv6, rfl, hbs6, hbf6⟩, hb⟩
            obtain ⟨A5, k5, rfl, -⟩ := id hbs6
            have HBS6 := Lib.hid hbs6
            have HB6 := Lib.hid (HB5.out.trans (hb.mono HB5.out.size))
            have HC6 := Lib.hid (HC5.out.trans (hb.mono HC5.out.size))
            unfold actV
            clear hbs6 hbf6 hb
            obtain ⟨W6, hW6⟩ : ∃ X, w6.alloc (.cells #[.int .i64 x.kind, .int .i64 x.node, .int .i64 x.port, .int .i64 x.cost, .int .i64 x.n, .bool x.up, .int .u8 (x.by_.toNat : Int), .bool x.unread, .slice A5 x.bytes.length k5] 51) = X := ⟨_, rfl⟩
            have HB7 : Hid (Below W0.heap.size W0 W6) := Lib.hid (by rw [← hW6]; exact HB6.out.alloc HB6.out.size _)
            have HY7 : Hid (Whole W6 w6.heap.size 51 #[.int .i64 x.kind, .int .i64 x.node, .int .i64 x.port, .int .i64 x.cost, .int .i64 x.n, .bool x.up, .int .u8 (x.by_.toNat : Int), .bool x.unread, .slice A5 x.bytes.length k5]) := Lib.hid (by rw [← hW6]; exact Whole.new w6 _ _)
            have HBY : Hid (Bs W6 (.slice A5 x.bytes.length k5) x.bytes) := Lib.hid (by rw [← hW6]; exact HBS6.out.alloc _)
            have HX7 := Lib.hid (HX0.out.here HB7.out)
            have HC7 : Hid (Below wr.heap.size wr W6) := Lib.hid (by rw [← hW6]; exact HC6.out.alloc HC6.out.size _)
            have HW6 := Lib.hid hW6
            clear hW6
            have hg7 : g < W6.heap.size := Nat.lt_of_lt_of_le hg HC7.out.size
            have q0 := (HC7.out.cell hg).trans p0
            have y0 : W6.cell? ⟨w6.heap.size, 0, none⟩ = some _ := HY7.out.cell 0
            have q1 := (HC7.out.cell hg).trans p1
            have y1 : W6.cell? ⟨w6.heap.size, 1, none⟩ = some _ := HY7.out.cell 1
            have q2 := (HC7.out.cell hg).trans p2
            have y2 : W6.cell? ⟨w6.heap.size, 2, none⟩ = some _ := HY7.out.cell 2
            have q3 := (HC7.out.cell hg).trans p3
            have y3 : W6.cell? ⟨w6.heap.size, 3, none⟩ = some _ := HY7.out.cell 3
            have q4 := (HC7.out.cell hg).trans p4
            have y4 : W6.cell? ⟨w6.heap.size, 4, none⟩ = some _ := HY7.out.cell 4
            have q5 := (HC7.out.cell hg).trans p5
            have y5 : W6.cell? ⟨w6.heap.size, 5, none⟩ = some _ := HY7.out.cell 5
            have q6 := (HC7.out.cell hg).trans p6
            have y6 : W6.cell? ⟨w6.heap.size, 6, none⟩ = some _ := HY7.out.cell 6
            have q7 := (HC7.out.cell hg).trans p7
            have y7 : W6.cell? ⟨w6.heap.size, 7, none⟩ = some _ := HY7.out.cell 7
            have q8 := (HC7.out.cell hg).trans p8
            have y8 : W6.cell? ⟨w6.heap.size, 8, none⟩ = some _ := HY7.out.cell 8
            have yl := HY7.out.lt
            clear p0 p1 p2 p3 p4 p5 p6 p7 p8
            try clear x0 x1 x2 xl
            have x0 : W6.cell? ⟨w.heap.size, 0, none⟩ = some (.slice A1 cs.length k1) := HX7.out.cell 0
            have x1 : W6.cell? ⟨w.heap.size, 1, none⟩ = some (.slice A2 ls.length k2) := HX7.out.cell 1
            have x2 : W6.cell? ⟨w.heap.size, 2, none⟩ = some (.slice (some ⟨g, off, none⟩) zs.length k3) := HX7.out.cell 2
            have xl : w.heap.size < W6.heap.size := HX7.out.lt
            have HSA : Hid (∀ y : Ext W6, Calls Tryz.prog 38 #[.agg #[.int .i64 x.kind, .int .i64 x.node, .int .i64 x.port, .int .i64 x.cost, .int .i64 x.n, .bool x.up, .int .u8 (x.by_.toNat : Int), .bool x.unread, .slice A5 x.bytes.length k5], .agg #[.int .i64 x.kind, .int .i64 x.node, .int .i64 x.port, .int .i64 x.cost, .int .i64 x.n, .bool x.up, .int .u8 (x.by_.toNat : Int), .bool x.unread, .slice A4 x.bytes.length k4]] y.w fun e w' => e = .returned (.bool true) ∧ Below y.w.heap.size y.w w') := Lib.hid (fun y => by
              have := rsameAct_any x x _ _ y.w (HBY.out.ext y) ((HBV.out.below HC7.out).ext y)
              rw [sameA_refl] at this
              exact this)
            go_upto_region 17 with fail
            rw [HW6.out]
            refine wp_region_ext (by kernel_rfl) (by kernel_rfl) ?_
            repeat (go_big_quiet_step (first | (go_at_call 35; exact Ext.callq (num25_any _ _)) | (go_at_call 38; exact Ext.call (HSA.out _))))
            refine wpQuiet_nil ?_
            rintro _ ⟨y, rfl⟩
            have HB8 := Lib.hid (HB7.out.trans (y.below.mono HB7.out.size))
            go_wp2
            go_roundw
            case rel => exact ⟨j + 1, by omega, by go_num, HB8⟩
            case measure => simp [intOf]; omega
        · obtain rfl : j = zs.length := by omega
          have HTX := Lib.hid (stext_any _ _ _ cs ls zs wr (HS0.out.here HB4.out) HK.out (EE.out.here HB4.out) (fun h1 h2 => by have := small_len HSM.out HG.out.links HG.out.acts h1 h2; omega))
          obtain ⟨t1, t2, hT⟩ : ∃ a b, sText cs ls zs = (a, b) := ⟨_, _, rfl⟩
          have HT := Lib.hid hT
          clear hT hlt
          go_wp2_with fail
          refine HTX.out.mono ?_
          rintro e w5 ⟨ht, hb⟩
          unfold TextRes at ht
          rw [HT.out] at ht
          subst ht
          have HB5 := Lib.hid (HB4.out.trans (hb.mono HB4.out.size))
          have HX5 := Lib.hid (HX4.out.here hb)
          clear hb HTX
          try clear x0 x1 x2 xl
          have x0 : w5.cell? ⟨w.heap.size, 0, none⟩ = some (.slice A1 cs.length k1) := HX5.out.cell 0
          have x1 : w5.cell? ⟨w.heap.size, 1, none⟩ = some (.slice A2 ls.length k2) := HX5.out.cell 1
          have x2 : w5.cell? ⟨w.heap.size, 2, none⟩ = some (.slice A3 zs.length k3) := HX5.out.cell 2
          have xl : w.heap.size < w5.heap.size := HX5.out.lt
          by_cases h0 : t2 = 0
          · subst h0
            obtain ⟨hp, hlen, hlx⟩ := text_read HT.out HG.out.confs HG.out.links HG.out.acts
            have HPA := Lib.hid (sparse_any t1 w5 hlen hlx (EE.out.here HB5.out))
            rw [hp] at HPA
            clear hp hlen hlx
            go_wp2_with (go_at_call 35; refine (num25_any _ _).mono ?_; rintro e w' ⟨rfl, rfl⟩)
            refine HPA.out.mono ?_
            rintro e w6 ⟨⟨cv2, lv2, av2, rfl, hsi⟩, hb⟩
            have HSI := Lib.hid hsi
            obtain ⟨B1, l1, rfl, -⟩ := hsi.confs
            obtain ⟨B2, l2, rfl, -⟩ := hsi.links
            obtain ⟨B3, l3, rfl, -⟩ := hsi.acts
            have HB6 := Lib.hid (HB5.out.trans (hb.mono HB5.out.size))
            have HX6 := Lib.hid (HX5.out.here hb)
            clear hb hsi
            obtain ⟨W6, hW6⟩ : ∃ X, w6.alloc (.cells #[.slice B1 cs.length l1, .slice B2 ls.length l2, .slice B3 zs.length l3] 76) = X := ⟨_, rfl⟩
            have HB7 : Hid (Below W0.heap.size W0 W6) := Lib.hid (by rw [← hW6]; exact HB6.out.alloc HB6.out.size _)
            have HY7 : Hid (Whole W6 w6.heap.size 76 #[.slice B1 cs.length l1, .slice B2 ls.length l2, .slice B3 zs.length l3]) := Lib.hid (by rw [← hW6]; exact Whole.new w6 _ _)
            have HSI7 : Hid (ScrIs W6 (.slice B1 cs.length l1) (.slice B2 ls.length l2) (.slice B3 zs.length l3) cs ls zs) := Lib.hid (by rw [← hW6]; exact HSI.out.here ((Below.refl _ _).alloc (Nat.le_refl _) _))
            have HX7 := Lib.hid (HX0.out.here HB7.out)
            have HW6 := Lib.hid hW6
            clear hW6
            try clear x0 x1 x2 xl
            have x0 : W6.cell? ⟨w.heap.size, 0, none⟩ = some (.slice A1 cs.length k1) := HX7.out.cell 0
            have x1 : W6.cell? ⟨w.heap.size, 1, none⟩ = some (.slice A2 ls.length k2) := HX7.out.cell 1
            have x2 : W6.cell? ⟨w.heap.size, 2, none⟩ = some (.slice A3 zs.length k3) := HX7.out.cell 2
            have xl : w.heap.size < W6.heap.size := HX7.out.lt
            have y0 : W6.cell? ⟨w6.heap.size, 0, none⟩ = some (.slice B1 cs.length l1) := HY7.out.cell 0
            have y1 : W6.cell? ⟨w6.heap.size, 1, none⟩ = some (.slice B2 ls.length l2) := HY7.out.cell 1
            have y2 : W6.cell? ⟨w6.heap.size, 2, none⟩ = some (.slice B3 zs.length l3) := HY7.out.cell 2
            have yl := HY7.out.lt
            have HR := Lib.hid (rsame25_any _ _ _ _ _ _ cs cs ls ls zs zs W6 HSI7.out (HS0.out.here HB7.out) HK.out HK.out)
            rw [sameS_refl] at HR
            go_upto_region 23 with fail
            rw [HW6.out]
            go_wp2_with (go_at_call 35; refine (num25_any _ _).mono ?_; rintro e w' ⟨rfl, rfl⟩)
            refine HR.out.mono ?_
            rintro e w8 ⟨rfl, hb⟩
            have HB8 := Lib.hid (HB7.out.trans (hb.mono HB7.out.size))
            have HX8 := Lib.hid (HX0.out.here HB8.out)
            have HY8 := Lib.hid (HY7.out.here hb)
            have HC := Lib.hid (ssame_any _ _ _ _ _ _ cs cs ls ls zs zs w8 (HSI7.out.here hb) (HS0.out.here HB8.out) HK.out HK.out)
            rw [sameS_refl] at HC
            clear hb y0 y1 y2 yl
            try clear x0 x1 x2 xl
            have x0 : w8.cell? ⟨w.heap.size, 0, none⟩ = some (.slice A1 cs.length k1) := HX8.out.cell 0
            have x1 : w8.cell? ⟨w.heap.size, 1, none⟩ = some (.slice A2 ls.length k2) := HX8.out.cell 1
            have x2 : w8.cell? ⟨w.heap.size, 2, none⟩ = some (.slice A3 zs.length k3) := HX8.out.cell 2
            have xl : w.heap.size < w8.heap.size := HX8.out.lt
            have y0 : w8.cell? ⟨w6.heap.size, 0, none⟩ = some (.slice B1 cs.length l1) := HY8.out.cell 0
            have y1 : w8.cell? ⟨w6.heap.size, 1, none⟩ = some (.slice B2 ls.length l2) := HY8.out.cell 1
            have y2 : w8.cell? ⟨w6.heap.size, 2, none⟩ = some (.slice B3 zs.length l3) := HY8.out.cell 2
            have yl := HY8.out.lt
            go_wp2_with fail
            refine HC.out.mono ?_
            rintro e w9 ⟨rfl, hb⟩
            have HB9 := Lib.hid (HB8.out.trans (hb.mono HB8.out.size))
            clear hb
            go_wp2
            go_ret
            exact ⟨by rfl, HZ0.out.trans (HB9.out.mono HZ0.out.size)⟩
          · have h1 : (t2 != 0) = true := by simpa using h0
            clear h0
            go_wp2_with (go_at_call 35; refine (num25_any _ _).mono ?_; rintro e w' ⟨rfl, rfl⟩)
            go_ret
            exact ⟨by rfl, HZ0.out.trans (HB5.out.mono HZ0.out.size)⟩
end Go.Proofs.YtfbangojgjcbcaaGreatDoor
namespace Go.Proofs.YtfbangojgjcbcaaGreatDoor.scriptBack
open Go.ChangeShapes Go.WideShapes Go.ChangeAt Go.RowKit Go.Joins
set_option maxRecDepth 100000 in
theorem contract (H : Type) (enc : TypeId × Value → H) (W : World) (base : Nat) (args : Array Value) (ds gs : List (DataW H)) (before : List MemPlace)
    (hval : ∀ (j : Nat) t v, Tryz.f12.params[j]? = some t → args[j]? = some v → Value.okWide Tryz.prog W .any base t v)
    (hW : DataW.Whole enc Tryz.prog Tryz.f12.params.toList Rows.scriptBackSpec.vars false W args.toList ds gs before) (hL : laidMetH Tryz.prog Rows.scriptBackRow.laid W) (hsh : W.ShapedOpen Tryz.prog) :
    Calls Tryz.prog 12 args W fun e W' => ∃ v, e = .returned v ∧ Rows.scriptBackSpec.post enc Tryz.prog Tryz.f12 false true false false W args v W' := by
  have hW' := hW
  obtain ⟨p, q, hA0, hV, rfl, hfz, hnd⟩ := hW
  have hA : DataW.TrodAll enc Tryz.prog W 0 (fun _ => true) true Tryz.f12.params.toList args.toList ds p := hA0
  rw [Tryz.params12] at hA hval
  obtain ⟨v0, vs0, d0, ds0, p0, q0, hargs, rfl, rfl, h0, r0⟩ := trodAll_cons hA
  obtain ⟨v1, vs1, d1, ds1, p1, q1, rfl, rfl, rfl, h1, r1⟩ := trodAll_cons r0
  obtain ⟨rfl, rfl, rfl⟩ := trodAll_nil r1
  obtain rfl : args = #[v0, v1] := by cases args; simp_all
  obtain ⟨rfl, rfl⟩ := trodVars_none hV
  have k0 := h0
  have lt0 : ∀ x ∈ p0, x.block < W.heap.size := by obtain ⟨m, hm⟩ := k0; exact DataW.trod_lt m _ _ _ hm
  have k1 := h1
  have lt1 : ∀ x ∈ p1, x.block < W.heap.size := by obtain ⟨m, hm⟩ := k1; exact DataW.trod_lt m _ _ _ hm
  obtain ⟨cv0, lv0, av0, cs0, ls0, zs0, rfl, hs0, ga0⟩ := open_script (hval 0 76 v0 rfl rfl) h0
  obtain ⟨l1, rfl, hb1⟩ := open_str (hval 1 9 v1 rfl rfl) h1
  clear hA0
  refine (scriptBack_walk cv0 lv0 av0 cs0 ls0 zs0 l1 W hs0 ga0 hb1 (env_of hL hsh)).mono fun e W' ⟨he, bel⟩ => ?_
  subst he
  exact ⟨_, rfl, _, _, _, [], _, [], hW', trodAll_mk1 (shut_bool Tryz.underlying4 _), (trodAll_cons_mk (Below.trod laidOut (by kernel_rfl) (of_decide_eq_true (by kernel_rfl)) k0 bel lt0) (trodAll_cons_mk (Below.trod laidOut (by kernel_rfl) (of_decide_eq_true (by kernel_rfl)) k1 bel lt1) trodAll_mk0)), rfl, bel.frame _, fun h => by cases h⟩
theorem reads (os : Os) {H : Type} (enc : TypeId × Value → H) : ∃ places, DataW.whole enc Tryz.prog ((laidWorld os).forCall (fun _ _ => 0) ⟨#[], #[.agg #[.slice none 0 0, .slice none 0 0, .slice none 0 0], .string ⟨#[]⟩], []⟩).memory Tryz.f12.params.toList Rows.scriptBackSpec.vars false (#[.agg #[.slice none 0 0, .slice none 0 0, .slice none 0 0], .string ⟨#[]⟩] : Array Value).toList 8 = some ([.agg [.agg [.nil, .nil], .nil], .lit (.string [])], [], places) :=
  ⟨[], by kernel_rfl⟩
set_option maxRecDepth 100000 in
theorem lifted (os : Os) (started : os.Started) (H : Type) (enc : TypeId × Value → H) (F : Stop.Interp) :
    ReturnsInHanded {} Tryz.checked os 12 .any ((OpenSpec.ofChange Rows.scriptBackSpec).preRow enc Tryz.prog Tryz.f12 Rows.scriptBackRow.domain false Rows.scriptBackRow.laid) (((OpenSpec.ofChange Rows.scriptBackSpec).at F).post enc Tryz.prog Tryz.f12 false true false false) := by
  obtain ⟨places, hx⟩ := reads os enc
  refine returnsInHanded_of_row (C := Tryz.checked) (s := OpenSpec.ofChange Rows.scriptBackSpec) own started (by kernel_rfl) Tryz.func12
    (witness_row_atRef (enc := enc) (C := Tryz.checked) false (laidWorld os) #[.agg #[.slice none 0 0, .slice none 0 0, .slice none 0 0], .string ⟨#[]⟩] rfl (by kernel_rfl) (by kernel_rfl) (by kernel_rfl)
      (OpenSpec.preRow_of_cond 8 hx (by kernel_rfl) (fun k hk => by cases hk) (by kernel_rfl) (laid_met os _))) ?_
  intro W base args ds gs before hval hW _ _ _ hL hsh _
  exact contract H enc W base args ds gs before hval hW hL hsh
set_option maxHeartbeats 4000000 in
theorem said : Rows.ScriptBackSaid :=
  OpenClaim.holds_of_cond 12 Tryz.f12 rfl rfl rfl rfl rfl rfl rfl ⟨rfl, rfl, rfl, rfl, rfl⟩ rfl rfl rfl rfl rfl (by as_aux_lemma => kernel_rfl) Tryz.func12 (by as_aux_lemma => kernel_rfl)
    (of_decide_eq_true (by as_aux_lemma => kernel_rfl)) (by as_aux_lemma => unfold Func.isWrapper; first | (rw [if_pos (by decide +kernel)]; kernel_rfl) | (rw [if_neg (by decide +kernel)]; exact ⟨rfl, rfl⟩))
    (fun os started H enc _ F => by rw [OpenClaim.pre_eq_preRow]; exact lifted os started H enc F)
theorem plain (f : FuncId) (fn : Func) (hf : Tryz.pinned.checked.prog.funcNamed "guidepost/guidepostlaw25.ScriptBack" = some f) (hfn : Tryz.pinned.checked.prog.funcs[f]? = some fn) :
    true = Tryz.pinned.checked.prog.looks [] ∧ ∀ (j : Nat) t, fn.params[j]? = some t → Tryz.pinned.checked.prog.wantsStandIn t = false := by
  obtain rfl : f = 12 := Option.some.inj ((show Tryz.prog.funcNamed "guidepost/guidepostlaw25.ScriptBack" = some 12 by kernel_rfl).symm.trans hf) |>.symm
  obtain rfl : fn = Tryz.f12 := (Option.some.inj (Tryz.func12.symm.trans hfn)).symm
  refine ⟨by kernel_rfl, fun j t ht => ?_⟩
  rw [Tryz.params12] at ht
  have hm : t ∈ [76, 9] := by have := Array.mem_of_getElem? ht; simp at this ⊢; omega
  simp only [List.mem_cons, List.not_mem_nil, or_false] at hm
  rcases hm with rfl | rfl
  · exact (show Tryz.prog.wantsStandIn 76 = false by kernel_rfl)
  · exact (show Tryz.prog.wantsStandIn 9 = false by kernel_rfl)
/-- The card. -/
theorem card : Rows.ScriptBackCardSaid :=
  Claim7.holds_tied_plain_at .later [] _ _ _ _ said (fun _ h => by cases h) (by kernel_rfl) (fun _ h => by cases h) scriptBack_row_tie rfl ⟨rfl, rfl⟩ (by kernel_rfl) rfl plain (by kernel_rfl)
#print axioms card
end Go.Proofs.YtfbangojgjcbcaaGreatDoor.scriptBack
