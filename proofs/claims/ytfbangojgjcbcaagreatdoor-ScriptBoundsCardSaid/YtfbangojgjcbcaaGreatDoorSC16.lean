/- Part 16 of the proof: RdrF, RSamS, KnownS, LScriptBack, LScriptBounds. -/
import Derived.Test.YtfbangojgjcbcaaGreatDoorSC03
import Derived.Test.YtfbangojgjcbcaaGreatDoorSC10
import Derived.Test.YtfbangojgjcbcaaGreatDoorSC11
import Derived.Test.YtfbangojgjcbcaaGreatDoorSC13
import Derived.Test.YtfbangojgjcbcaaGreatDoorSC14
import Derived.Test.YtfbangojgjcbcaaGreatDoorSC15
namespace Go.Proofs.YtfbangojgjcbcaaGreatDoor
open Go.RowKit Pl
theorem hasSuffix_whole (l : Ln) : Lib.hasSuffix l [10] = whole l := by
  unfold Lib.hasSuffix whole
  rcases List.eq_nil_or_concat l with rfl | ⟨i, x, rfl⟩
  · rfl
  · simp [List.isSuffixOf, List.isPrefixOf, BEq.comm]
theorem trimSuffix_body (l : Ln) : Lib.trimSuffix l [10] = body l := by
  unfold Lib.trimSuffix body
  rw [hasSuffix_whole]
  split
  · simp [List.dropLast_eq_take]
  · rfl
theorem cutS_any (l : Ln) (w : World) (hl : l.length ≤ 1000000000) : Calls Tryz.prog 89 #[.string (str l), .string ⟨#[10]⟩] w fun e w' => e = .returned (.tuple #[.string (str (body l)), .bool (whole l)]) ∧ w = w' := by
  refine (Tryz.strings_CutSuffix (str l) ⟨#[10]⟩ w (by rw [str_size]; omega)).mono ?_
  rintro e w' ⟨rfl, rfl⟩
  refine ⟨?_, rfl⟩
  rw [str_data, show (ByteArray.data ⟨#[10]⟩).toList = [10] from rfl, hasSuffix_whole, trimSuffix_body]
  rfl
theorem lit_nodeS {l : Ln} (h : l = wNode) : ((str l).toList == [110, 111, 100, 101]) = true := by subst h; rw [str_toList]; rfl
theorem lit_nodeS_no {l : Ln} (h : ¬ l = wNode) : ((str l).toList == [110, 111, 100, 101]) = false := by rw [str_toList]; exact beq_eq_false_iff_ne.2 h
theorem lit_nodeS' {l : Ln} (h : l = wNode) : (str l).toList = [110, 111, 100, 101] := by subst h; rw [str_toList]; rfl
theorem lit_nodeS_no' {l : Ln} (h : ¬ l = wNode) : ((str l).toList = [110, 111, 100, 101]) = False := by rw [str_toList]; exact eq_false h
theorem lines_ne : ∀ l : Ln, ∀ x ∈ linesT l, x ≠ []
  | [], x, h => by cases h
  | a :: r, x, h => by
    have ih := lines_ne r
    rw [linesT] at h
    split at h
    · rcases List.mem_cons.1 h with rfl | h
      · simp
      · exact ih x h
    · cases e : linesT r with
      | nil => rw [e] at h; simp [consHd] at h; subst h; simp
      | cons b t =>
        rw [e] at h
        simp only [consHd] at h
        rcases List.mem_cons.1 h with rfl | h
        · simp
        · exact ih x (by rw [e]; exact List.mem_cons_of_mem _ h)
theorem body_len (l : Ln) : (body l).length ≤ l.length := by unfold body; split <;> simp
theorem runC_at : ∀ (ls : List (List UInt8)) (c : Cfg) (st n : Nat), (runC ls c st n).2.1 ≤ n + ls.length
  | [], _, _, n => by simp [runC]
  | [l], c, st, n => by
    rw [runC]
    split
    · simp
    · simp
  | l :: l' :: ls, c, st, n => by
    rw [runC]
    split
    · cases h : stepC c st (cutA 32 l) (cutB 32 l) with
      | none => simp
      | some q =>
        obtain ⟨c', st'⟩ := q
        have := runC_at (l' :: ls) c' st' (n + 1)
        simp only [List.length_cons] at this ⊢
        omega
    · simp
theorem parseC_at (text : Ln) : (parseC text).2.1 ≤ 4097 := by
  unfold parseC
  split
  · simp
  · have h1 := runC_at (splitOn 10 text) {} 0 0
    have h2 := (splitOn_len 10 text).1
    omega
theorem firstLn_at (L : List Ln) : ∀ n, firstLn L n ≤ 4097
  | 0 => by simp [firstLn]
  | n + 1 => by
    rw [firstLn]
    split
    · exact firstLn_at L n
    · exact parseC_at _
theorem confS_at {st : St} {L : List Ln} {n : Nat} (h : confS st L = (none, n)) : n ≤ 4097 := by
  unfold confS at h
  have h1 := firstLn_at (blockP L) (blockP L).length
  have h2 := parseC_at (blockP L).flatten
  split at h
  · injection h with _ h; omega
  · split at h
    · split at h
      · injection h with h _; cases h
      · injection h with _ h; omega
    · injection h with _ h; omega
def ParseSRes (r : Option St × Nat × Int) (e : Ending) (w' : World) : Prop :=
  match r.1 with
  | some st => ∃ cv lv av, e = .returned (.tuple #[.agg #[cv, lv, av], .int .i64 0, .int .i64 0]) ∧ ScrIs w' cv lv av st.cs st.ls st.zs
  | none => e = .returned (.tuple #[.agg #[.slice none 0 0, .slice none 0 0, .slice none 0 0], .int .i64 (r.2.1 : Int), .int .i64 r.2.2])
theorem ParseSRes.no {r : Option St × Nat × Int} {w' : World} (n : Nat) (c : Int) (h : r = (none, n, c)) : ParseSRes r (.returned (.tuple #[.agg #[.slice none 0 0, .slice none 0 0, .slice none 0 0], .int .i64 (n : Int), .int .i64 c])) w' := by
  subst h; rfl
theorem ParseSRes.yes {r : Option St × Nat × Int} {w' : World} {cv lv av : Value} (st : St) (n : Nat) (c : Int) (h : r = (some st, n, c)) (hs : ScrIs w' cv lv av st.cs st.ls st.zs) : ParseSRes r (.returned (.tuple #[.agg #[cv, lv, av], .int .i64 0, .int .i64 0])) w' := by
  subst h; exact ⟨_, _, _, rfl, hs⟩
/-- Where the reader stands. -/
structure At (L : List Ln) (st : St) (k : Nat) (X : Option St × Nat) : Prop where
  ok : SOk st
  part : partS st = (L.take k).flatten
  go : goS (L.drop k) 0 st k = X
  le : k ≤ L.length
theorem At.stOk {L : List Ln} {st : St} {k : Nat} {X : Option St × Nat} (h : At L st k X) (hl : L.flatten.length ≤ 4194304) : StOk st :=
  StOk.of h.ok (by rw [h.part]; have := take_flat L k; omega)
theorem At.ended {L : List Ln} {st : St} {X : Option St × Nat} (h : At L st L.length X) : X = (some st, L.length) := by
  have := h.go
  rw [List.drop_length] at this
  rw [← this, goS]
theorem At.node {L : List Ln} {st : St} {k : Nat} {X : Option St × Nat} {l : Ln} (h : At L st k X) (hl : L[k]? = some l) (hr : st.run = false) (hw : cutA 32 (body l) = wNode) :
    (∀ c n, confS st (L.drop k) = (some c, n) → At L { st with cs := st.cs ++ [c] } (k + n) X ∧ 1 ≤ n) ∧ (∀ n, confS st (L.drop k) = (none, n) → X = (none, k + n)) := by
  have hg := h.go
  have hk := (List.getElem?_eq_some_iff.1 hl).1
  rw [drop_at hl, goS, hr, hw] at hg
  simp only [Bool.not_false, decide_true, Bool.and_true, if_true] at hg
  rw [← drop_at hl] at hg
  refine ⟨fun c n hc => ?_, fun n hc => ?_⟩
  · rw [hc] at hg
    simp only at hg
    obtain ⟨h1, h2, h3⟩ := confS_sound hc h.ok hr
    have hn : 1 ≤ n := by rw [h2, drop_at hl]; exact block_pos
    have hb : (blockP (L.drop k)) = (L.drop k).take n := by rw [h2]; exact (block_take _).symm
    have hle : n ≤ (L.drop k).length := by
      have := congrArg List.length hb
      rw [← h2, List.length_take] at this
      omega
    rw [List.length_drop] at hle
    refine ⟨⟨h1, ?_, ?_, by omega⟩, hn⟩
    · rw [h3, h.part, hb, ← List.flatten_append, List.take_add]
    · rw [goS_drop, List.drop_drop] at hg
      rw [show k + 1 + (n - 1) = k + n by omega] at hg
      rw [hr]
      exact hg
  · rw [hc] at hg
    exact hg.symm
theorem At.line {L : List Ln} {st : St} {k : Nat} {X : Option St × Nat} {l : Ln} (h : At L st k X) (hl : L[k]? = some l) (hw : st.run = true ∨ ¬ cutA 32 (body l) = wNode) :
    (whole l = false → X = (none, k)) ∧ (whole l = true → lineS st (body l) = none → X = (none, k)) ∧ (whole l = true → ∀ st', lineS st (body l) = some st' → At L st' (k + 1) X) := by
  have hg := h.go
  have hk := (List.getElem?_eq_some_iff.1 hl).1
  have hq : (!st.run && decide (cutA 32 (body l) = wNode)) = false := by
    rcases hw with hw | hw
    · rw [hw]; rfl
    · simp [hw]
  rw [drop_at hl, goS, hq] at hg
  simp only [Bool.false_eq_true, if_false] at hg
  refine ⟨fun hf => ?_, fun ht hn => ?_, fun ht st' hs => ?_⟩
  · rw [hf] at hg
    simpa using hg.symm
  · rw [ht, hn] at hg
    simpa using hg.symm
  · rw [ht, hs] at hg
    simp only [if_true] at hg
    obtain ⟨h1, h2⟩ := lineS_sound hs h.ok
    refine ⟨h1, ?_, hg, by omega⟩
    rw [h2, h.part, take_at hl, List.flatten_append, whole_body ht]
    simp
def finS (X : Option St × Nat) : Option St × Nat × Int :=
  match X with
  | (some st, n) => if st.run then (some st, 0, 0) else (none, n, 4)
  | (none, n) => (none, n, 4)
theorem parseS_go {text : Ln} {X : Option St × Nat} (hl : text.length ≤ 4194304) (hX : goS (linesT text) 0 {} 0 = X) : parseS text = finS X := by
  unfold parseS finS
  rw [if_neg (by omega), hX]
  rcases X with ⟨o, n⟩
  cases o <;> rfl
set_option maxRecDepth 100000 in
set_option maxHeartbeats 1000000 in
theorem sparse_long (text : Ln) (w : World) (hl : 4194304 < text.length) (hl2 : text.length ≤ 1000000000) :
    Calls Tryz.prog 43 #[.string (str text)] w fun e w' => e = .returned (.tuple #[.agg #[.slice none 0 0, .slice none 0 0, .slice none 0 0], .int .i64 0, .int .i64 3]) ∧ Below w.heap.size w w' := by
  have hsz : (str text).size = text.length := str_size _
  go_enter Tryz.func43, Tryz.ntmps43
  go_wp2
  go_step3
  go_wp2
  try rw [Exit.noGoto_ret]
  exact bodyPost_ret (v := .tuple #[.agg #[.slice none 0 0, .slice none 0 0, .slice none 0 0], .int .i64 0, .int .i64 3]) (by simp [results, Tryz.results43, go_sem]) rfl ⟨rfl, (Below.refl _ _).alloc (Nat.le_refl _) _⟩
set_option maxRecDepth 100000 in
set_option maxHeartbeats 8000000 in
theorem sparse_any (text : Ln) (w : World) (hl : text.length ≤ 4194304) (hx : ∀ l ∈ linesT text, l.length ≤ 100000) (E : Env w) :
    Calls Tryz.prog 43 #[.string (str text)] w fun e w' => ParseSRes (parseS text) e w' ∧ Below w.heap.size w w' := by
  obtain ⟨W0, hW0⟩ : ∃ W0, (w.alloc (.cells #[.slice none 0 0, .slice none 0 0, .slice none 0 0] 76)).alloc (.cells #[.slice none 0 0, .slice none 0 0, .slice none 0 0, .bool false] 146) = W0 := ⟨_, rfl⟩
  have HB0 : Hid (Below w.heap.size w W0) := Lib.hid (by rw [← hW0]; exact ((Below.refl _ _).alloc (Nat.le_refl _) _).alloc (by simp) _)
  have HX0 : Hid (Whole W0 w.heap.size 76 #[.slice none 0 0, .slice none 0 0, .slice none 0 0]) := Lib.hid (by rw [← hW0]; exact (Whole.new w _ _).alloc _)
  have HR0 : Hid (Whole W0 (w.heap.size + 1) 146 #[.slice none 0 0, .slice none 0 0, .slice none 0 0, .bool false]) := Lib.hid (by
    rw [← hW0]
    have := Whole.new (w.alloc (.cells #[.slice none 0 0, .slice none 0 0, .slice none 0 0] 76)) 146 #[.slice none 0 0, .slice none 0 0, .slice none 0 0, .bool false]
    simpa using this)
  have HW0 := Lib.hid hW0
  have E0 := Lib.hid (E.here HB0.out)
  have EE := Lib.hid E
  have HS := Lib.hid (splitAfter_any text W0 (by omega) E0.out)
  have hal : afterL text = afterP text := by unfold afterL; rw [← Lib.count_one, after_eq]
  rw [hal] at HS
  obtain ⟨L, hL⟩ : ∃ L, linesT text = L := ⟨_, rfl⟩
  have hflat := lines_flat text
  obtain ⟨X, hX⟩ : ∃ X, goS (linesT text) 0 {} 0 = X := ⟨_, rfl⟩
  have HPX := Lib.hid (parseS_go hl hX)
  have HAL := Lib.hid (after_lines text)
  have hlen := text.length
  have hsz : (str text).size = text.length := str_size _
  obtain ⟨RES, hRES⟩ : ∃ r, parseS text = r := ⟨_, rfl⟩
  rw [hRES] at HPX ⊢
  rw [hL] at hX hx hflat HAL
  have hLf : L.flatten.length ≤ 4194304 := by rw [hflat]; exact hl
  have hLn : L.length ≤ 4194304 := by
    have h1 : ∀ M : List Ln, (∀ l ∈ M, l ≠ []) → M.length ≤ M.flatten.length := fun M => by
      induction M with
      | nil => intro _; simp
      | cons a M ih =>
        intro h
        have h2 := ih fun l hl => h l (List.mem_cons_of_mem _ hl)
        have h3 : 0 < a.length := List.length_pos_iff.2 (h a (List.mem_cons_self ..))
        simp only [List.length_cons, List.flatten_cons, List.length_append]
        omega
    have := h1 L (by rw [← hL]; exact lines_ne text)
    omega
  have HLX := Lib.hid hx
  have HLF := Lib.hid hLf
  have HST : Hid (At L {} 0 X) := Lib.hid ⟨SOk.start, rfl, by rw [List.drop_zero]; exact hX, Nat.zero_le _⟩
  generalize hAP : afterP text = AP at *
  clear hW0 E hal hAP hX hRES hx hflat hLf hL
  go_enter Tryz.func43, Tryz.ntmps43
  go_wp2
  go_step3
  go_wp2_with fail
  rw [HW0.out]
  refine HS.out.mono ?_
  rintro e w1 ⟨⟨v, rfl, g, rfl, hg, hc⟩, hb1⟩
  have HB1 := Lib.hid (HB0.out.trans (hb1.mono HB0.out.size))
  have HX1 := Lib.hid (HX0.out.here hb1)
  have HR1 := Lib.hid (HR0.out.here hb1)
  have HSR : Hid (StrRow w1 g 0 AP) := Lib.hid ⟨hg, fun j x hx => by rw [Nat.zero_add]; exact hc j x hx⟩
  have hR1 := HR1.out.lt
  have hgR : g ≠ w.heap.size + 1 := by
    rintro rfl
    have hne : AP ≠ [] := by
      rcases HAL.out with e | ⟨e, i, z, e2, _⟩
      · rw [e]; simp
      · rw [e, e2]; simp
    obtain ⟨x, hx⟩ : ∃ x, AP[0]? = some x := ⟨_, List.getElem?_eq_getElem (List.length_pos_iff.2 hne)⟩
    have h1 := hc 0 x hx
    have h2 : w1.cell? ⟨w.heap.size + 1, 0, none⟩ = some (.slice none 0 0) := HR1.out.cell 0
    rw [h2] at h1
    cases h1
  clear hb1 hc
  go_upto_region 5 with fail
  go_cut [6] (fun s wx => s = .slice (some ⟨g, 0, none⟩) L.length AP.length ∧ w1 = wx)
  case first =>
    rcases HAL.out with e | ⟨e, i, z, e2, hz⟩
    · subst e
      have c0 : w1.cell? ⟨g, 0 + L.length, none⟩ = some (.string (str [])) := HSR.out.2 L.length [] (by rw [List.getElem?_append_right (Nat.le_refl _)]; simp)
      rw [Nat.zero_add] at c0
      have h0 : (str []).size = 0 := rfl
      have hlen1 : (L ++ [[]]).length = L.length + 1 := by simp
      rw [hlen1]
      go_wp2
      go_meet
      exact ⟨by simp <;> omega, rfl⟩
    · subst e
      have c0 : w1.cell? ⟨g, 0 + i.length, none⟩ = some (.string (str z)) := HSR.out.2 i.length z (by rw [e2]; simp)
      rw [Nat.zero_add] at c0
      have hlen1 : AP.length = i.length + 1 := by rw [e2]; simp
      have h0 : (str z).size = z.length := str_size _
      have hz1 : 1 ≤ z.length := List.length_pos_iff.2 hz
      have hin : i.length ≤ 4194304 := by omega
      have hmin : min (1 : Int) (z.length : Int) = 1 := by omega
      have HL1 := Lib.hid hlen1
      rw [hlen1]
      clear hlen1 e2
      go_wp2
      go_meet
      exact ⟨by have := HL1.out; simp <;> omega, rfl⟩
  case rest =>
    obtain ⟨rfl, rfl⟩ := hcut
    have HRD : Hid (RdS w1 w1.heap.size (w.heap.size + 1) {}) := Lib.hid ⟨_, _, _, [], [], ⟨HR1.out, rfl, rfl, World.ownsRow_nil _ _ _ _, World.ownsRow_nil _ _ _ _, World.ownsRow_nil _ _ _ _, (fun x hx => by cases hx), (fun y hy => by cases hy)⟩⟩
    have HSL : Hid (StrRow w1 g 0 L) := Lib.hid (by
      rcases HAL.out with e | ⟨e, _⟩
      · have := HSR.out.take L.length
        rw [e, List.take_left' rfl] at this
        exact this
      · rw [← e]; exact HSR.out)
    have hapl : L.length ≤ AP.length := by
      rcases HAL.out with e | ⟨e, _⟩
      · rw [e]; simp
      · rw [e]; exact Nat.le_refl _
    have hsz1 := HB1.out.size
    have hlt1 := HX1.out.lt
    clear hlen
    go_wp2
    go_step3
    go_wp2
    go_loopw [7, 8] (fun i good wr => ∃ (k : Nat) (st : St), k ≤ L.length ∧ i = .int .i64 k ∧ good = .bool true ∧ Hid (At L st k X) ∧ Hid (RdS wr w1.heap.size (w.heap.size + 1) st) ∧ Hid (Kb w1.heap.size (w.heap.size + 1) w1 wr)) (fun i _ _ => L.length - (intOf i).toNat)
    case atStart => exact ⟨0, {}, Nat.zero_le _, rfl, rfl, HST, HRD, Lib.hid (Kb.refl _ _ _)⟩
    case round =>
      obtain ⟨k, st, hk, rfl, rfl, HAT, HRD, HK⟩ := hrel
      have HXA : Hid (Whole wr w.heap.size 76 #[.slice none 0 0, .slice none 0 0, .slice none 0 0]) := Lib.hid ⟨(HK.out.block w.heap.size (by omega) (by omega)).trans HX1.out.is⟩
      have HBA : Hid (Below w.heap.size w wr) := Lib.hid (HB1.out.trans (HK.out.below (by omega) (by omega)))
      have EA := Lib.hid (EE.out.here HBA.out)
      have HSLA : Hid (StrRow wr g 0 L) := Lib.hid (by
        have hbl := HK.out.block g HSR.out.1 hgR
        exact ⟨lt_same hbl HSR.out.1, fun j x hx => (cell_same hbl _).trans (HSL.out.2 j x hx)⟩)
      have hszA := HK.out.size
      have HSO := Lib.hid (HAT.out.stOk HLF.out)
      by_cases hlt : k < L.length
      · obtain ⟨l, hlk⟩ : ∃ l, L[k]? = some l := ⟨_, List.getElem?_eq_getElem hlt⟩
        have hcell : wr.cell? ⟨g, 0 + k, none⟩ = some (.string (str l)) := HSLA.out.2 k l hlk
        rw [Nat.zero_add] at hcell
        have hll : l.length ≤ 100000 := HLX.out l (List.mem_of_getElem? hlk)
        have hbl := body_len l
        have HLK := Lib.hid hlk
        have HCS := Lib.hid (cutS_any l wr (by omega))
        have HCW := Lib.hid (cut_any 32 (body l) wr (by omega) EA.out)
        have hgA := HSLA.out.1
        clear hlk
        go_wp2_with fail
        (with_reducible refine HCS.out.mono ?_)
        rintro e wq ⟨rfl, rfl⟩
        go_wp2_with fail
        refine HCW.out.mono ?_
        rintro e w2 ⟨⟨f, rfl⟩, hb2⟩
        have HK2 := Lib.hid (HK.out.trans (Kb.of_below (hb2.mono hszA)))
        have HRD2 := Lib.hid (HRD.out.here hb2)
        have HSL2 := Lib.hid (HSLA.out.here hb2)
        have HX2 : Hid (Whole w2 w.heap.size 76 #[.slice none 0 0, .slice none 0 0, .slice none 0 0]) := Lib.hid ⟨(HK2.out.block w.heap.size (by omega) (by omega)).trans HX1.out.is⟩
        have HB2 : Hid (Below w.heap.size w w2) := Lib.hid (HB1.out.trans (HK2.out.below (by omega) (by omega)))
        have E2 := Lib.hid (EE.out.here HB2.out)
        have hszr := HK2.out.size
        have r3 : w2.cell? ⟨w.heap.size + 1, 3, none⟩ = some (.bool st.run) := by
          obtain ⟨cv, lv, av, xs, ys, hrd⟩ := HRD2.out
          exact hrd.whole.cell 3
        have hRlt : w.heap.size + 1 < w2.heap.size := by omega
        clear hb2 hcell
        by_cases hnode : cutA 32 (body l) = wNode
        · have n1 := lit_nodeS hnode
          have n2 := lit_nodeS' hnode
          cases hrn : st.run with
          | false =>
            rw [hrn] at r3
            have HND := Lib.hid (HAT.out.node HLK.out hrn hnode)
            clear hnode hrn
            obtain ⟨o, ho⟩ : ∃ o, confS st (L.drop k) = o := ⟨_, rfl⟩
            obtain ⟨oc, n⟩ := o
            have hdl : (L.drop k).length = L.length - k := List.length_drop
            have HCF := Lib.hid (rconf_any g (0 + k) (AP.length - k) (L.length - k) (L.drop k) st w1.heap.size (w.heap.size + 1) w2 HRD2.out E2.out hszr HSO.out (HSL2.out.drop k) hdl.symm (by omega) (by omega) (fun x hx => by have := HLX.out x (List.mem_of_mem_drop hx); omega)
              (by
                have h1 := congrArg (fun M : List Ln => M.flatten.length) (List.take_append_drop k L)
                simp only [List.flatten_append, List.length_append] at h1
                have := HLF.out
                omega))
            rw [ho, Nat.zero_add] at HCF
            have HO := Lib.hid ho
            clear ho hdl
            go_wp2_with fail
            (with_reducible refine HCF.out.mono ?_)
            rintro e w3 ⟨hres, hk3⟩
            have HK3 := Lib.hid (HK2.out.trans hk3)
            have HX3 : Hid (Whole w3 w.heap.size 76 #[.slice none 0 0, .slice none 0 0, .slice none 0 0]) := Lib.hid ⟨(HK3.out.block w.heap.size (by omega) (by omega)).trans HX1.out.is⟩
            have HB3 : Hid (Below w.heap.size w w3) := Lib.hid (HB1.out.trans (HK3.out.below (by omega) (by omega)))
            clear hk3
            cases oc with
            | none =>
              simp only at hres
              subst hres
              have hn4 := confS_at HO.out
              have HRES : Hid (RES = (none, k + n, 4)) := Lib.hid (by rw [HPX.out, HND.out.2 n HO.out]; rfl)
              have b0 : w3.cell? ⟨w.heap.size, 0, none⟩ = some (.slice none 0 0) := HX3.out.cell 0
              have b1 : w3.cell? ⟨w.heap.size, 1, none⟩ = some (.slice none 0 0) := HX3.out.cell 1
              have b2 : w3.cell? ⟨w.heap.size, 2, none⟩ = some (.slice none 0 0) := HX3.out.cell 2
              have f0 := HX3.out.frozen 0
              have f1 := HX3.out.frozen 1
              have f2 := HX3.out.frozen 2
              have hlt := HX3.out.lt
              go_wp2
              try rw [Exit.noGoto_ret]
              have hbq := ((HB3.out.setCell (p := ⟨w.heap.size, 0, none⟩) (Nat.le_refl _) (.slice none 0 0)).setCell (p := ⟨w.heap.size, 1, none⟩) (Nat.le_refl _) (.slice none 0 0)).setCell (p := ⟨w.heap.size, 2, none⟩) (Nat.le_refl _) (.slice none 0 0)
              exact bodyPost_ret (v := .tuple #[.agg #[.slice none 0 0, .slice none 0 0, .slice none 0 0], .int .i64 ((k + n : Nat) : Int), .int .i64 4]) (by simp [results, Tryz.results43, go_sem, b0, b1, b2]) rfl ⟨ParseSRes.no (k + n) 4 HRES.out, hbq⟩
            | some c =>
              simp only at hres
              obtain ⟨rfl, hrd3⟩ := hres
              have HAT3 := Lib.hid (HND.out.1 c n HO.out).1
              have hn1 := (HND.out.1 c n HO.out).2
              have hkn := HAT3.out.le
              have HRD3 := Lib.hid hrd3
              clear hrd3
              go_wp2
              go_roundw
              case rel => exact ⟨k + n, _, hkn, by go_num, rfl, HAT3, HRD3, HK3⟩
              case measure => simp [intOf]; omega
          | true =>
            rw [hrn] at r3
            have HLN := Lib.hid (HAT.out.line HLK.out (.inl hrn))
            clear hnode hrn
            cases hwh : whole l with
            | false =>
              have HRES : Hid (RES = (none, k, 4)) := Lib.hid (by rw [HPX.out, show X = (none, k) from HLN.out.1 hwh]; rfl)
              clear hwh
              have b0 : w2.cell? ⟨w.heap.size, 0, none⟩ = some (.slice none 0 0) := HX2.out.cell 0
              have b1 : w2.cell? ⟨w.heap.size, 1, none⟩ = some (.slice none 0 0) := HX2.out.cell 1
              have b2 : w2.cell? ⟨w.heap.size, 2, none⟩ = some (.slice none 0 0) := HX2.out.cell 2
              have f0 := HX2.out.frozen 0
              have f1 := HX2.out.frozen 1
              have f2 := HX2.out.frozen 2
              have hlt := HX2.out.lt
              go_wp2
              try rw [Exit.noGoto_ret]
              have hbq := ((HB2.out.setCell (p := ⟨w.heap.size, 0, none⟩) (Nat.le_refl _) (.slice none 0 0)).setCell (p := ⟨w.heap.size, 1, none⟩) (Nat.le_refl _) (.slice none 0 0)).setCell (p := ⟨w.heap.size, 2, none⟩) (Nat.le_refl _) (.slice none 0 0)
              exact bodyPost_ret (v := .tuple #[.agg #[.slice none 0 0, .slice none 0 0, .slice none 0 0], .int .i64 (k : Int), .int .i64 4]) (by simp [results, Tryz.results43, go_sem, b0, b1, b2]) rfl ⟨ParseSRes.no k 4 HRES.out, hbq⟩
            | true =>
              have HWH := Lib.hid hwh
              clear hwh
              obtain ⟨o, ho⟩ : ∃ o, lineS st (body l) = o := ⟨_, rfl⟩
              have HLI := Lib.hid (line_any (body l) st w1.heap.size (w.heap.size + 1) w2 HRD2.out E2.out hszr (by omega) HSO.out)
              rw [ho] at HLI
              have HO := Lib.hid ho
              clear ho
              go_wp2_with fail
              (with_reducible refine HLI.out.mono ?_)
              rintro e w3 ⟨hres, hk3⟩
              have HK3 := Lib.hid (HK2.out.trans hk3)
              have HX3 : Hid (Whole w3 w.heap.size 76 #[.slice none 0 0, .slice none 0 0, .slice none 0 0]) := Lib.hid ⟨(HK3.out.block w.heap.size (by omega) (by omega)).trans HX1.out.is⟩
              have HB3 : Hid (Below w.heap.size w w3) := Lib.hid (HB1.out.trans (HK3.out.below (by omega) (by omega)))
              clear hk3
              cases o with
              | none =>
                simp only at hres
                subst hres
                have HRES : Hid (RES = (none, k, 4)) := Lib.hid (by rw [HPX.out, show X = (none, k) from HLN.out.2.1 HWH.out HO.out]; rfl)
                have b0 : w3.cell? ⟨w.heap.size, 0, none⟩ = some (.slice none 0 0) := HX3.out.cell 0
                have b1 : w3.cell? ⟨w.heap.size, 1, none⟩ = some (.slice none 0 0) := HX3.out.cell 1
                have b2 : w3.cell? ⟨w.heap.size, 2, none⟩ = some (.slice none 0 0) := HX3.out.cell 2
                have f0 := HX3.out.frozen 0
                have f1 := HX3.out.frozen 1
                have f2 := HX3.out.frozen 2
                have hlt := HX3.out.lt
                go_wp2
                try rw [Exit.noGoto_ret]
                have hbq := ((HB3.out.setCell (p := ⟨w.heap.size, 0, none⟩) (Nat.le_refl _) (.slice none 0 0)).setCell (p := ⟨w.heap.size, 1, none⟩) (Nat.le_refl _) (.slice none 0 0)).setCell (p := ⟨w.heap.size, 2, none⟩) (Nat.le_refl _) (.slice none 0 0)
                exact bodyPost_ret (v := .tuple #[.agg #[.slice none 0 0, .slice none 0 0, .slice none 0 0], .int .i64 (k : Int), .int .i64 4]) (by simp [results, Tryz.results43, go_sem, b0, b1, b2]) rfl ⟨ParseSRes.no k 4 HRES.out, hbq⟩
              | some st' =>
                simp only at hres
                obtain ⟨rfl, hrd3⟩ := hres
                have HAT3 := Lib.hid (HLN.out.2.2 HWH.out st' HO.out)
                have HRD3 := Lib.hid hrd3
                have hk1 : k + 1 ≤ L.length := by omega
                clear hrd3
                go_wp2
                go_roundw
                case rel => exact ⟨k + 1, st', hk1, by go_num, rfl, HAT3, HRD3, HK3⟩
                case measure => simp [intOf]; omega
        · have n1 := lit_nodeS_no hnode
          have n2 := lit_nodeS_no' hnode
          have HLN := Lib.hid (HAT.out.line HLK.out (.inr hnode))
          clear hnode
          cases hwh : whole l with
          | false =>
            have HRES : Hid (RES = (none, k, 4)) := Lib.hid (by rw [HPX.out, show X = (none, k) from HLN.out.1 hwh]; rfl)
            clear hwh
            have b0 : w2.cell? ⟨w.heap.size, 0, none⟩ = some (.slice none 0 0) := HX2.out.cell 0
            have b1 : w2.cell? ⟨w.heap.size, 1, none⟩ = some (.slice none 0 0) := HX2.out.cell 1
            have b2 : w2.cell? ⟨w.heap.size, 2, none⟩ = some (.slice none 0 0) := HX2.out.cell 2
            have f0 := HX2.out.frozen 0
            have f1 := HX2.out.frozen 1
            have f2 := HX2.out.frozen 2
            have hlt := HX2.out.lt
            go_wp2
            try rw [Exit.noGoto_ret]
            have hbq := ((HB2.out.setCell (p := ⟨w.heap.size, 0, none⟩) (Nat.le_refl _) (.slice none 0 0)).setCell (p := ⟨w.heap.size, 1, none⟩) (Nat.le_refl _) (.slice none 0 0)).setCell (p := ⟨w.heap.size, 2, none⟩) (Nat.le_refl _) (.slice none 0 0)
            exact bodyPost_ret (v := .tuple #[.agg #[.slice none 0 0, .slice none 0 0, .slice none 0 0], .int .i64 (k : Int), .int .i64 4]) (by simp [results, Tryz.results43, go_sem, b0, b1, b2]) rfl ⟨ParseSRes.no k 4 HRES.out, hbq⟩
          | true =>
            have HWH := Lib.hid hwh
            clear hwh
            obtain ⟨o, ho⟩ : ∃ o, lineS st (body l) = o := ⟨_, rfl⟩
            have HLI := Lib.hid (line_any (body l) st w1.heap.size (w.heap.size + 1) w2 HRD2.out E2.out hszr (by omega) HSO.out)
            rw [ho] at HLI
            have HO := Lib.hid ho
            clear ho
            go_wp2_with fail
            (with_reducible refine HLI.out.mono ?_)
            rintro e w3 ⟨hres, hk3⟩
            have HK3 := Lib.hid (HK2.out.trans hk3)
            have HX3 : Hid (Whole w3 w.heap.size 76 #[.slice none 0 0, .slice none 0 0, .slice none 0 0]) := Lib.hid ⟨(HK3.out.block w.heap.size (by omega) (by omega)).trans HX1.out.is⟩
            have HB3 : Hid (Below w.heap.size w w3) := Lib.hid (HB1.out.trans (HK3.out.below (by omega) (by omega)))
            clear hk3
            cases o with
            | none =>
              simp only at hres
              subst hres
              have HRES : Hid (RES = (none, k, 4)) := Lib.hid (by rw [HPX.out, show X = (none, k) from HLN.out.2.1 HWH.out HO.out]; rfl)
              have b0 : w3.cell? ⟨w.heap.size, 0, none⟩ = some (.slice none 0 0) := HX3.out.cell 0
              have b1 : w3.cell? ⟨w.heap.size, 1, none⟩ = some (.slice none 0 0) := HX3.out.cell 1
              have b2 : w3.cell? ⟨w.heap.size, 2, none⟩ = some (.slice none 0 0) := HX3.out.cell 2
              have f0 := HX3.out.frozen 0
              have f1 := HX3.out.frozen 1
              have f2 := HX3.out.frozen 2
              have hlt := HX3.out.lt
              go_wp2
              try rw [Exit.noGoto_ret]
              have hbq := ((HB3.out.setCell (p := ⟨w.heap.size, 0, none⟩) (Nat.le_refl _) (.slice none 0 0)).setCell (p := ⟨w.heap.size, 1, none⟩) (Nat.le_refl _) (.slice none 0 0)).setCell (p := ⟨w.heap.size, 2, none⟩) (Nat.le_refl _) (.slice none 0 0)
              exact bodyPost_ret (v := .tuple #[.agg #[.slice none 0 0, .slice none 0 0, .slice none 0 0], .int .i64 (k : Int), .int .i64 4]) (by simp [results, Tryz.results43, go_sem, b0, b1, b2]) rfl ⟨ParseSRes.no k 4 HRES.out, hbq⟩
            | some st' =>
              simp only at hres
              obtain ⟨rfl, hrd3⟩ := hres
              have HAT3 := Lib.hid (HLN.out.2.2 HWH.out st' HO.out)
              have HRD3 := Lib.hid hrd3
              have hk1 : k + 1 ≤ L.length := by omega
              clear hrd3
              go_wp2
              go_roundw
              case rel => exact ⟨k + 1, st', hk1, by go_num, rfl, HAT3, HRD3, HK3⟩
              case measure => simp [intOf]; omega
      · obtain rfl : k = L.length := by omega
        have HXE := Lib.hid HAT.out.ended
        obtain ⟨cv, lv, av, xs, ys, hrd⟩ := HRD.out
        have r3 : wr.cell? ⟨w.heap.size + 1, 3, none⟩ = some (.bool st.run) := hrd.whole.cell 3
        have HRX := Lib.hid hrd
        clear hrd
        cases hrn : st.run with
        | false =>
          rw [hrn] at r3
          have HRES : Hid (RES = (none, L.length, 4)) := Lib.hid (by rw [HPX.out, HXE.out]; unfold finS; simp only; rw [hrn]; rfl)
          clear hrn
          have b0 : wr.cell? ⟨w.heap.size, 0, none⟩ = some (.slice none 0 0) := HXA.out.cell 0
          have b1 : wr.cell? ⟨w.heap.size, 1, none⟩ = some (.slice none 0 0) := HXA.out.cell 1
          have b2 : wr.cell? ⟨w.heap.size, 2, none⟩ = some (.slice none 0 0) := HXA.out.cell 2
          have f0 := HXA.out.frozen 0
          have f1 := HXA.out.frozen 1
          have f2 := HXA.out.frozen 2
          have hlt := HXA.out.lt
          go_wp2
          try rw [Exit.noGoto_ret]
          have hbq := ((HBA.out.setCell (p := ⟨w.heap.size, 0, none⟩) (Nat.le_refl _) (.slice none 0 0)).setCell (p := ⟨w.heap.size, 1, none⟩) (Nat.le_refl _) (.slice none 0 0)).setCell (p := ⟨w.heap.size, 2, none⟩) (Nat.le_refl _) (.slice none 0 0)
          exact bodyPost_ret (v := .tuple #[.agg #[.slice none 0 0, .slice none 0 0, .slice none 0 0], .int .i64 (L.length : Int), .int .i64 4]) (by simp [results, Tryz.results43, go_sem, b0, b1, b2]) rfl ⟨ParseSRes.no L.length 4 HRES.out, hbq⟩
        | true =>
          rw [hrn] at r3
          have HRES : Hid (RES = (some st, 0, 0)) := Lib.hid (by rw [HPX.out, HXE.out]; unfold finS; simp only; rw [hrn]; rfl)
          clear hrn
          have q0 : wr.cell? ⟨w.heap.size + 1, 0, none⟩ = some cv := HRX.out.whole.cell 0
          have q1 : wr.cell? ⟨w.heap.size + 1, 1, none⟩ = some lv := HRX.out.whole.cell 1
          have q2 : wr.cell? ⟨w.heap.size + 1, 2, none⟩ = some av := HRX.out.whole.cell 2
          obtain ⟨A1, k1, rfl⟩ := own_slice_n HRX.out.rc
          obtain ⟨A2, k2, rfl⟩ := own_slice_n HRX.out.rl
          obtain ⟨A3, k3, rfl⟩ := own_slice_n HRX.out.ra
          have b0 : wr.cell? ⟨w.heap.size, 0, none⟩ = some (.slice none 0 0) := HXA.out.cell 0
          have b1 : wr.cell? ⟨w.heap.size, 1, none⟩ = some (.slice none 0 0) := HXA.out.cell 1
          have b2 : wr.cell? ⟨w.heap.size, 2, none⟩ = some (.slice none 0 0) := HXA.out.cell 2
          have f0 := HXA.out.frozen 0
          have f1 := HXA.out.frozen 1
          have f2 := HXA.out.frozen 2
          have hlt := HXA.out.lt
          go_wp2
          try rw [Exit.noGoto_ret]
          have hbq := ((HBA.out.setCell (p := ⟨w.heap.size, 0, none⟩) (Nat.le_refl _) (.slice A1 xs.length k1)).setCell (p := ⟨w.heap.size, 1, none⟩) (Nat.le_refl _) (.slice A2 st.ls.length k2)).setCell (p := ⟨w.heap.size, 2, none⟩) (Nat.le_refl _) (.slice A3 ys.length k3)
          have hqq := ((HXA.out.set 0 (.slice A1 xs.length k1)).set 1 (.slice A2 st.ls.length k2)).set 2 (.slice A3 ys.length k3)
          have z0 := hqq.cell 0
          have z1 := hqq.cell 1
          have z2 := hqq.cell 2
          simp at z0 z1 z2
          refine bodyPost_ret (v := .tuple #[.agg #[.slice A1 xs.length k1, .slice A2 st.ls.length k2, .slice A3 ys.length k3], .int .i64 0, .int .i64 0]) (by simp [results, Tryz.results43, go_sem, z0, z1, z2]) rfl ⟨ParseSRes.yes st 0 0 HRES.out ?_, hbq⟩
          have hgr := grown_trans (grown_trans (grown_set wr w.heap.size 0 (.slice A1 xs.length k1)) (grown_set _ w.heap.size 1 (.slice A2 st.ls.length k2))) (grown_set _ w.heap.size 2 (.slice A3 ys.length k3))
          exact HRX.out.far hgr.size fun b hb hlt => hgr.block b hlt (by intro e; injection e with e; omega)
end Go.Proofs.YtfbangojgjcbcaaGreatDoor
namespace Go.Proofs.YtfbangojgjcbcaaGreatDoor
open Go.RowKit Pl
set_option maxRecDepth 100000 in
set_option maxHeartbeats 8000000 in
theorem rsame25_any (cv lv av cv' lv' av' : Value) (cs cs' : List Cfg) (ls ls' : List Lk) (zs zs' : List ActP) (w : World) (h : ScrIs w cv lv av cs ls zs) (h' : ScrIs w cv' lv' av' cs' ls' zs') (k : ScrOk cs ls zs) (k' : ScrOk cs' ls' zs') :
    Calls Tryz.prog 48 #[.agg #[cv, lv, av], .agg #[cv', lv', av']] w fun e w' => e = .returned (.bool (sameS cs cs' ls ls' zs zs')) ∧ Below w.heap.size w w' := by
  have HS := Lib.hid h
  have HS' := Lib.hid h'
  have HK := Lib.hid k
  have HK' := Lib.hid k'
  obtain ⟨A1, k1, rfl, -⟩ := h.confs
  obtain ⟨A2, k2, rfl, -⟩ := h.links
  obtain ⟨A3, k3, rfl, -⟩ := h.acts
  obtain ⟨B1, l1, rfl, -⟩ := h'.confs
  obtain ⟨B2, l2, rfl, -⟩ := h'.links
  obtain ⟨B3, l3, rfl, -⟩ := h'.acts
  have hnc := k.nc
  have hnl := k.nl
  have hna := k.na
  clear h h' k k'
  obtain ⟨W0, hW0⟩ : ∃ X, (w.alloc (.cells #[.slice A1 cs.length k1, .slice A2 ls.length k2, .slice A3 zs.length k3] 76)).alloc (.cells #[.slice B1 cs'.length l1, .slice B2 ls'.length l2, .slice B3 zs'.length l3] 76) = X := ⟨_, rfl⟩
  have hb0 : Below w.heap.size w W0 := by rw [← hW0]; exact ((Below.refl _ _).alloc (Nat.le_refl _) _).alloc (by simp) _
  have HB0 := Lib.hid hb0
  have HX0 : Hid (Whole W0 w.heap.size 76 #[.slice A1 cs.length k1, .slice A2 ls.length k2, .slice A3 zs.length k3]) := Lib.hid (by rw [← hW0]; exact (Whole.new w _ _).alloc _)
  have HY0 : Hid (Whole W0 (w.heap.size + 1) 76 #[.slice B1 cs'.length l1, .slice B2 ls'.length l2, .slice B3 zs'.length l3]) := Lib.hid (by
    rw [← hW0]
    have := Whole.new (w.alloc (.cells #[.slice A1 cs.length k1, .slice A2 ls.length k2, .slice A3 zs.length k3] 76)) 76 #[.slice B1 cs'.length l1, .slice B2 ls'.length l2, .slice B3 zs'.length l3]
    rw [World.size_alloc] at this
    exact this)
  have HW0 := Lib.hid hW0
  clear hW0 hb0
  have HOUT : Hid (∀ b, sameS cs cs' ls ls' zs zs' = b → Ending.returned (.bool b) = .returned (.bool (sameS cs cs' ls ls' zs zs'))) := Lib.hid (fun b e => by rw [e])

  have HXx := Lib.hid (HX0.out.here (Below.refl _ _))
  have HYx := Lib.hid (HY0.out.here (Below.refl _ _))
  have x0 : W0.cell? ⟨w.heap.size, 0, none⟩ = some (.slice A1 cs.length k1) := HXx.out.cell 0
  have xq0 : W0.cell? ⟨w.heap.size + 1, 0, none⟩ = some (.slice B1 cs'.length l1) := HYx.out.cell 0
  have x1 : W0.cell? ⟨w.heap.size, 1, none⟩ = some (.slice A2 ls.length k2) := HXx.out.cell 1
  have xq1 : W0.cell? ⟨w.heap.size + 1, 1, none⟩ = some (.slice B2 ls'.length l2) := HYx.out.cell 1
  have x2 : W0.cell? ⟨w.heap.size, 2, none⟩ = some (.slice A3 zs.length k3) := HXx.out.cell 2
  have xq2 : W0.cell? ⟨w.heap.size + 1, 2, none⟩ = some (.slice B3 zs'.length l3) := HYx.out.cell 2
  have xl : w.heap.size < W0.heap.size := HXx.out.lt
  have xm : w.heap.size + 1 < W0.heap.size := HYx.out.lt
  by_cases n0 : cs.length = cs'.length
  · have d0 : ((cs.length : Int) != (cs'.length : Int)) = false := by simp [n0]
    have HN0 := Lib.hid n0
    clear n0
    by_cases n1 : ls.length = ls'.length
    · have d1 : ((ls.length : Int) != (ls'.length : Int)) = false := by simp [n1]
      have HN1 := Lib.hid n1
      clear n1
      by_cases n2 : zs.length = zs'.length
      · have d2 : ((zs.length : Int) != (zs'.length : Int)) = false := by simp [n2]
        have HN2 := Lib.hid n2
        clear n2
        go_enter Tryz.func48, Tryz.ntmps48
        go_upto_region 1 with fail
        rw [HW0.out]
        go_wp2
        go_loopw [5] (fun i wr => ∃ j : Nat, j ≤ cs.length ∧ i = .int .i64 j ∧ Hid (cs.take j = cs'.take j) ∧ Hid (Below W0.heap.size W0 wr)) (fun i _ => cs.length - (intOf i).toNat)
        case atStart => exact ⟨0, Nat.zero_le _, rfl, Lib.hid rfl, Lib.hid (Below.refl _ _)⟩
        case round =>
          obtain ⟨j, hj, rfl, HT, HB⟩ := hrel
          try clear x0 xq0 x1 xq1 x2 xq2 xl xm
          have HXx := Lib.hid (HX0.out.here (HB.out))
          have HYx := Lib.hid (HY0.out.here (HB.out))
          have x0 : wr.cell? ⟨w.heap.size, 0, none⟩ = some (.slice A1 cs.length k1) := HXx.out.cell 0
          have xq0 : wr.cell? ⟨w.heap.size + 1, 0, none⟩ = some (.slice B1 cs'.length l1) := HYx.out.cell 0
          have x1 : wr.cell? ⟨w.heap.size, 1, none⟩ = some (.slice A2 ls.length k2) := HXx.out.cell 1
          have xq1 : wr.cell? ⟨w.heap.size + 1, 1, none⟩ = some (.slice B2 ls'.length l2) := HYx.out.cell 1
          have x2 : wr.cell? ⟨w.heap.size, 2, none⟩ = some (.slice A3 zs.length k3) := HXx.out.cell 2
          have xq2 : wr.cell? ⟨w.heap.size + 1, 2, none⟩ = some (.slice B3 zs'.length l3) := HYx.out.cell 2
          have xl : w.heap.size < wr.heap.size := HXx.out.lt
          have xm : w.heap.size + 1 < wr.heap.size := HYx.out.lt
          by_cases hlt : j < cs.length
          · have hlt' : j < cs'.length := by have := HN0.out; omega
            obtain ⟨x, hu⟩ : ∃ u, cs[j]? = some u := ⟨_, List.getElem?_eq_getElem hlt⟩
            obtain ⟨y, hv⟩ : ∃ u, cs'[j]? = some u := ⟨_, List.getElem?_eq_getElem hlt'⟩
            have HBW := Lib.hid (HB0.out.trans (HB.out.mono HB0.out.size))
            obtain ⟨b1, o1, rfl, hb1, hq1⟩ := (HS.out.here HBW.out).confs.at hu
            obtain ⟨b2, o2, rfl, hb2, hq2⟩ := (HS'.out.here HBW.out).confs.at hv
            obtain ⟨A4, k4, A5, k5, hcx, p0, p1, p2, p3, p4, p5, p6, p7, p8, p9, p10⟩ := hq1.cfg
            obtain ⟨B4, l4, B5, l5, hcy, q0, q1, q2, q3, q4, q5, q6, q7, q8, q9, q10⟩ := hq2.cfg
            have hkx := HK.out.confs x (List.mem_of_getElem? hu)
            have hky := HK'.out.confs y (List.mem_of_getElem? hv)
            have HCL : Hid (∀ z : Ext wr, Calls Tryz.prog 16 #[.agg #[.int .i64 x.node, .int .u32 x.addr, .slice A4 x.own.length k4, .slice A5 x.ports.length k5, .int .i64 x.hello, .int .i64 x.dead, .int .i64 x.again, .int .i64 x.room, .int .i64 x.queue, .int .i64 x.tokens, .int .i64 x.refill], .agg #[.int .i64 y.node, .int .u32 y.addr, .slice B4 y.own.length l4, .slice B5 y.ports.length l5, .int .i64 y.hello, .int .i64 y.dead, .int .i64 y.again, .int .i64 y.room, .int .i64 y.queue, .int .i64 y.tokens, .int .i64 y.refill]] z.w fun e w' => e = .returned (.bool (sameC x y)) ∧ Below z.w.heap.size z.w w') := Lib.hid (fun z => rsame_any _ _ x y z.w (hcx.below z.below) (hcy.below z.below) hkx.1 hkx.2.1 hky.1 hky.2.1)
            clear hkx hky hcx hcy hq1 hq2
            have HU := Lib.hid hu
            have HV := Lib.hid hv
            clear hu hv
            by_cases hxy : x = y
            · have HT2 : Hid (cs.take (j + 1) = cs'.take (j + 1)) := Lib.hid (takeG_next HU.out (by rw [hxy]; exact HV.out) HT.out)
              rw [show sameC x y = true by rw [hxy]; exact sameC_self y] at HCL
              clear hxy
              go_wp2
              refine wp_region_ext (by kernel_rfl) (by kernel_rfl) ?_
              repeat (go_big_quiet_step (first | (go_at_call 16; exact Ext.call (HCL.out _))))
              refine wpQuiet_nil ?_
              rintro _ ⟨z, rfl⟩
              go_wp2
              go_roundw
              case rel => exact ⟨j + 1, by omega, by go_num, HT2, Lib.hid (HB.out.trans (z.below.mono HB.out.size))⟩
              case measure => simp [intOf]; omega
            · have HF := Lib.hid (takeG_ne HU.out HV.out hxy)
              have hne : sameC x y = false := by
                cases hs : sameC x y with
                | true => exact absurd (sameC_eq hs) hxy
                | false => rfl
              rw [hne] at HCL
              clear hxy hne
              go_wp2
              refine wp_region_ext (by kernel_rfl) (by kernel_rfl) ?_
              repeat (go_big_quiet_step (first | (go_at_call 16; exact Ext.call (HCL.out _))))
              refine wpQuiet_nil ?_
              rintro _ ⟨z, rfl⟩
              go_wp2
              go_ret
              exact ⟨HOUT.out _ (by unfold sameS; simp [HF.out]), HBW.out.trans (z.below.mono HBW.out.size)⟩
          · obtain rfl : j = cs.length := by omega
            have HE0 := Lib.hid (takeG_all HN0.out HT.out)
            have HBW := Lib.hid (HB0.out.trans (HB.out.mono HB0.out.size))
            have HBK := HB
            clear hlt
            go_wp2
            go_loopw [6] (fun i wz => ∃ j : Nat, j ≤ ls.length ∧ i = .int .i64 j ∧ Hid (ls.take j = ls'.take j) ∧ Hid (Below W0.heap.size W0 wz)) (fun i _ => ls.length - (intOf i).toNat)
            case atStart => exact ⟨0, Nat.zero_le _, rfl, Lib.hid rfl, HBK⟩
            case round =>
              obtain ⟨j, hj, rfl, HT, HB⟩ := hrel
              try clear x0 xq0 x1 xq1 x2 xq2 xl xm
              have HXx := Lib.hid (HX0.out.here (HB.out))
              have HYx := Lib.hid (HY0.out.here (HB.out))
              have x0 : wr.cell? ⟨w.heap.size, 0, none⟩ = some (.slice A1 cs.length k1) := HXx.out.cell 0
              have xq0 : wr.cell? ⟨w.heap.size + 1, 0, none⟩ = some (.slice B1 cs'.length l1) := HYx.out.cell 0
              have x1 : wr.cell? ⟨w.heap.size, 1, none⟩ = some (.slice A2 ls.length k2) := HXx.out.cell 1
              have xq1 : wr.cell? ⟨w.heap.size + 1, 1, none⟩ = some (.slice B2 ls'.length l2) := HYx.out.cell 1
              have x2 : wr.cell? ⟨w.heap.size, 2, none⟩ = some (.slice A3 zs.length k3) := HXx.out.cell 2
              have xq2 : wr.cell? ⟨w.heap.size + 1, 2, none⟩ = some (.slice B3 zs'.length l3) := HYx.out.cell 2
              have xl : w.heap.size < wr.heap.size := HXx.out.lt
              have xm : w.heap.size + 1 < wr.heap.size := HYx.out.lt
              by_cases hlt : j < ls.length
              · have hlt' : j < ls'.length := by have := HN1.out; omega
                obtain ⟨⟨u1, u2, u3, u4⟩, hu⟩ : ∃ u, ls[j]? = some u := ⟨_, List.getElem?_eq_getElem hlt⟩
                obtain ⟨⟨v1, v2, v3, v4⟩, hv⟩ : ∃ u, ls'[j]? = some u := ⟨_, List.getElem?_eq_getElem hlt'⟩
                have HBW := Lib.hid (HB0.out.trans (HB.out.mono HB0.out.size))
                obtain ⟨b1, o1, rfl, hb1, p0, p1, p2, p3⟩ := (HS.out.here HBW.out).links.at hu
                obtain ⟨b2, o2, rfl, hb2, q0, q1, q2, q3⟩ := (HS'.out.here HBW.out).links.at hv
                simp only at p0 p1 p2 p3 q0 q1 q2 q3
                have HU := Lib.hid hu
                have HV := Lib.hid hv
                clear hu hv
                by_cases e0 : u1 = v1
                · subst e0
                  by_cases e1 : u2 = v2
                  · subst e1
                    by_cases e2 : u3 = v3
                    · subst e2
                      by_cases e3 : u4 = v4
                      · subst e3
                        have HT2 := Lib.hid (takeG_next HU.out HV.out HT.out)
                        go_wp2
                        go_region
                        go_wp2
                        go_roundw
                        case rel => exact ⟨j + 1, by omega, by go_num, HT2, Lib.hid HB.out.drew⟩
                        case measure => simp [intOf]; omega
                      · have HF := Lib.hid (takeG_ne HU.out HV.out (fun e => e3 (by injections)))
                        have dd : (u4 == v4) = false := by simpa using e3
                        clear e3
                        go_wp2
                        go_region
                        go_wp2
                        go_ret
                        exact ⟨HOUT.out _ (by unfold sameS; simp [HF.out]), HBW.out.drew⟩
                    · have HF := Lib.hid (takeG_ne HU.out HV.out (fun e => e2 (by injections)))
                      have dd : (u3 == v3) = false := by simpa using e2
                      clear e2
                      go_wp2
                      go_region
                      go_wp2
                      go_ret
                      exact ⟨HOUT.out _ (by unfold sameS; simp [HF.out]), HBW.out.drew⟩
                  · have HF := Lib.hid (takeG_ne HU.out HV.out (fun e => e1 (by injections)))
                    have dd : (u2 == v2) = false := by simpa using e1
                    clear e1
                    go_wp2
                    go_region
                    go_wp2
                    go_ret
                    exact ⟨HOUT.out _ (by unfold sameS; simp [HF.out]), HBW.out.drew⟩
                · have HF := Lib.hid (takeG_ne HU.out HV.out (fun e => e0 (by injections)))
                  have dd : (u1 == v1) = false := by simpa using e0
                  clear e0
                  go_wp2
                  go_region
                  go_wp2
                  go_ret
                  exact ⟨HOUT.out _ (by unfold sameS; simp [HF.out]), HBW.out.drew⟩
              · obtain rfl : j = ls.length := by omega
                have HE1 := Lib.hid (takeG_all HN1.out HT.out)
                have HBW := Lib.hid (HB0.out.trans (HB.out.mono HB0.out.size))
                have HBK := HB
                clear hlt
                go_wp2
                go_loopw [7] (fun i wz => ∃ j : Nat, j ≤ zs.length ∧ i = .int .i64 j ∧ Hid (zs.take j = zs'.take j) ∧ Hid (Below W0.heap.size W0 wz)) (fun i _ => zs.length - (intOf i).toNat)
                case atStart => exact ⟨0, Nat.zero_le _, rfl, Lib.hid rfl, HBK⟩
                case round =>
                  obtain ⟨j, hj, rfl, HT, HB⟩ := hrel
                  try clear x0 xq0 x1 xq1 x2 xq2 xl xm
                  have HXx := Lib.hid (HX0.out.here (HB.out))
                  have HYx := Lib.hid (HY0.out.here (HB.out))
                  have x0 : wr.cell? ⟨w.heap.size, 0, none⟩ = some (.slice A1 cs.length k1) := HXx.out.cell 0
                  have xq0 : wr.cell? ⟨w.heap.size + 1, 0, none⟩ = some (.slice B1 cs'.length l1) := HYx.out.cell 0
                  have x1 : wr.cell? ⟨w.heap.size, 1, none⟩ = some (.slice A2 ls.length k2) := HXx.out.cell 1
                  have xq1 : wr.cell? ⟨w.heap.size + 1, 1, none⟩ = some (.slice B2 ls'.length l2) := HYx.out.cell 1
                  have x2 : wr.cell? ⟨w.heap.size, 2, none⟩ = some (.slice A3 zs.length k3) := HXx.out.cell 2
                  have xq2 : wr.cell? ⟨w.heap.size + 1, 2, none⟩ = some (.slice B3 zs'.length l3) := HYx.out.cell 2
                  have xl : w.heap.size < wr.heap.size := HXx.out.lt
                  have xm : w.heap.size + 1 < wr.heap.size := HYx.out.lt
                  by_cases hlt : j < zs.length
                  · have hlt' : j < zs'.length := by have := HN2.out; omega
                    obtain ⟨x, hu⟩ : ∃ u, zs[j]? = some u := ⟨_, List.getElem?_eq_getElem hlt⟩
                    obtain ⟨y, hv⟩ : ∃ u, zs'[j]? = some u := ⟨_, List.getElem?_eq_getElem hlt'⟩
                    have HBW := Lib.hid (HB0.out.trans (HB.out.mono HB0.out.size))
                    obtain ⟨b1, o1, rfl, hb1, hq1⟩ := (HS.out.here HBW.out).acts.at hu
                    obtain ⟨b2, o2, rfl, hb2, hq2⟩ := (HS'.out.here HBW.out).acts.at hv
                    obtain ⟨bvx, hbx, p0, p1, p2, p3, p4, p5, p6, p7, p8⟩ := hq1
                    obtain ⟨bvy, hby, q0, q1, q2, q3, q4, q5, q6, q7, q8⟩ := hq2
                    obtain ⟨A4, k4, rfl, -⟩ := id hbx
                    obtain ⟨B4, l4, rfl, -⟩ := id hby
                    have HCL : Hid (∀ z : Ext wr, Calls Tryz.prog 38 #[.agg #[.int .i64 x.kind, .int .i64 x.node, .int .i64 x.port, .int .i64 x.cost, .int .i64 x.n, .bool x.up, .int .u8 (x.by_.toNat : Int), .bool x.unread, .slice A4 x.bytes.length k4], .agg #[.int .i64 y.kind, .int .i64 y.node, .int .i64 y.port, .int .i64 y.cost, .int .i64 y.n, .bool y.up, .int .u8 (y.by_.toNat : Int), .bool y.unread, .slice B4 y.bytes.length l4]] z.w fun e w' => e = .returned (.bool (sameA x y)) ∧ Below z.w.heap.size z.w w') := Lib.hid (fun z => rsameAct_any x y _ _ z.w (hbx.below z.below) (hby.below z.below))
                    clear hbx hby
                    have HU := Lib.hid hu
                    have HV := Lib.hid hv
                    clear hu hv
                    by_cases hxy : x = y
                    · have HT2 : Hid (zs.take (j + 1) = zs'.take (j + 1)) := Lib.hid (takeG_next HU.out (by rw [hxy]; exact HV.out) HT.out)
                      rw [show sameA x y = true by rw [hxy]; exact sameA_refl y] at HCL
                      clear hxy
                      go_wp2
                      refine wp_region_ext (by kernel_rfl) (by kernel_rfl) ?_
                      repeat (go_big_quiet_step (first | (go_at_call 38; exact Ext.call (HCL.out _))))
                      refine wpQuiet_nil ?_
                      rintro _ ⟨z, rfl⟩
                      go_wp2
                      go_roundw
                      case rel => exact ⟨j + 1, by omega, by go_num, HT2, Lib.hid (HB.out.trans (z.below.mono HB.out.size))⟩
                      case measure => simp [intOf]; omega
                    · have HF := Lib.hid (takeG_ne HU.out HV.out hxy)
                      have hne : sameA x y = false := by
                        cases hs : sameA x y with
                        | true => exact absurd (sameA_eq hs) hxy
                        | false => rfl
                      rw [hne] at HCL
                      clear hxy hne
                      go_wp2
                      refine wp_region_ext (by kernel_rfl) (by kernel_rfl) ?_
                      repeat (go_big_quiet_step (first | (go_at_call 38; exact Ext.call (HCL.out _))))
                      refine wpQuiet_nil ?_
                      rintro _ ⟨z, rfl⟩
                      go_wp2
                      go_ret
                      exact ⟨HOUT.out _ (by unfold sameS; simp [HF.out]), HBW.out.trans (z.below.mono HBW.out.size)⟩
                  · obtain rfl : j = zs.length := by omega
                    have HE2 := Lib.hid (takeG_all HN2.out HT.out)
                    have HBW := Lib.hid (HB0.out.trans (HB.out.mono HB0.out.size))
                    go_wp2
                    go_ret
                    exact ⟨HOUT.out _ (by unfold sameS; rw [HE0.out, HE1.out, HE2.out]; rfl), HBW.out⟩
      · have d2 : ((zs.length : Int) != (zs'.length : Int)) = true := by simp; omega
        have HF : Hid (decide (zs = zs') = false) := Lib.hid (decide_eq_false fun e => n2 (by rw [e]))
        clear n2
        go_enter Tryz.func48, Tryz.ntmps48
        go_upto_region 1 with fail
        rw [HW0.out]
        go_wp2
        go_ret
        exact ⟨HOUT.out _ (by unfold sameS; simp [HF.out]), HB0.out⟩
    · have d1 : ((ls.length : Int) != (ls'.length : Int)) = true := by simp; omega
      have HF : Hid (decide (ls = ls') = false) := Lib.hid (decide_eq_false fun e => n1 (by rw [e]))
      clear n1
      go_enter Tryz.func48, Tryz.ntmps48
      go_upto_region 1 with fail
      rw [HW0.out]
      go_wp2
      go_ret
      exact ⟨HOUT.out _ (by unfold sameS; simp [HF.out]), HB0.out⟩
  · have d0 : ((cs.length : Int) != (cs'.length : Int)) = true := by simp; omega
    have HF : Hid (decide (cs = cs') = false) := Lib.hid (decide_eq_false fun e => n0 (by rw [e]))
    clear n0
    go_enter Tryz.func48, Tryz.ntmps48
    go_upto_region 1 with fail
    rw [HW0.out]
    go_wp2
    go_ret
    exact ⟨HOUT.out _ (by unfold sameS; simp [HF.out]), HB0.out⟩
end Go.Proofs.YtfbangojgjcbcaaGreatDoor
namespace Go.Proofs.YtfbangojgjcbcaaGreatDoor
open Go.RowKit Pl
theorem num25_any (n : Int) (w : World) : Calls Tryz.prog 35 #[.int .i64 n] w fun e w' => e = .returned (.int .i64 n) ∧ w = w' := by
  go_enter Tryz.func35, Tryz.ntmps35
  go_wp2
  go_ret
  exact ⟨rfl, rfl⟩
def aK1 : ActP := { kind := 8, node := 3, n := -1 }
def aK2 : ActP := { kind := 6, up := true }
def aK4 : ActP := { kind := 9, node := 1 }
def aK5 : ActP := { kind := 1, n := 1 }
theorem ks1 (w : World) (E : Env w) : Calls Tryz.prog 30 #[.agg #[.int .i64 8, .int .i64 3, .int .i64 0, .int .i64 0, .int .i64 (-1), .bool false, .int .u8 0, .bool false, .slice none 0 0]] w fun e w' => e = .returned (.tuple #[.string ⟨#[115, 116, 97, 114, 116, 32, 51, 32, 45, 49, 32, 48, 32, 114, 101, 97, 100]⟩, .int .i64 0]) ∧ Below w.heap.size w w' := by
  have := cActText_yes aK1 (.slice none 0 0) w (Bs.nil w) (by unfold InA In64; decide) (by decide +kernel) (by decide) E
  rw [show actText aK1 = [115, 116, 97, 114, 116, 32, 51, 32, 45, 49, 32, 48, 32, 114, 101, 97, 100] by decide +kernel] at this
  exact this
theorem ks4 (w : World) (E : Env w) : Calls Tryz.prog 30 #[.agg #[.int .i64 9, .int .i64 1, .int .i64 0, .int .i64 0, .int .i64 0, .bool false, .int .u8 0, .bool false, .slice none 0 0]] w fun e w' => e = .returned (.tuple #[.string ⟨#[112, 97, 99, 107, 101, 116, 32, 49, 32, 45]⟩, .int .i64 0]) ∧ Below w.heap.size w w' := by
  have := cActText_yes aK4 (.slice none 0 0) w (Bs.nil w) (by unfold InA In64; decide) (by decide +kernel) (by decide) E
  rw [show actText aK4 = [112, 97, 99, 107, 101, 116, 32, 49, 32, 45] by decide +kernel] at this
  exact this
theorem ks5 (w : World) : Calls Tryz.prog 30 #[.agg #[.int .i64 1, .int .i64 0, .int .i64 0, .int .i64 0, .int .i64 1, .bool false, .int .u8 0, .bool false, .slice none 0 0]] w fun e w' => e = .returned (.tuple #[.string ⟨#[]⟩, .int .i64 2]) ∧ Below w.heap.size w w' :=
  cActText_no aK5 (.slice none 0 0) w (Bs.nil w) (by decide +kernel) (by decide)
theorem ks2 (w : World) (E : Env w) : Calls Tryz.prog 36 #[.string ⟨#[108, 105, 110, 107, 32, 48, 32, 117, 112]⟩] w fun e w' => (∃ A c, e = .returned (.tuple #[.agg #[.int .i64 6, .int .i64 0, .int .i64 0, .int .i64 0, .int .i64 0, .bool true, .int .u8 0, .bool false, .slice A 0 c], .int .i64 0])) ∧ Below w.heap.size w w' := by
  have := cactOf_any [108, 105, 110, 107, 32, 48, 32, 117, 112] w (by decide) E
  rw [show actC [108, 105, 110, 107, 32, 48, 32, 117, 112] = some aK2 by decide +kernel] at this
  refine this.mono ?_
  rintro e w' ⟨⟨bv, rfl, hb⟩, hB⟩
  obtain ⟨A, c, rfl, -⟩ := hb
  exact ⟨⟨A, c, rfl⟩, hB⟩
theorem ks3 (w : World) (E : Env w) : Calls Tryz.prog 36 #[.string ⟨#[116, 105, 99, 107, 32, 48, 49]⟩] w fun e w' => e = .returned (.tuple #[.agg #[.int .i64 0, .int .i64 0, .int .i64 0, .int .i64 0, .int .i64 0, .bool false, .int .u8 0, .bool false, .slice none 0 0], .int .i64 4]) ∧ Below w.heap.size w w' := by
  have := cactOf_any [116, 105, 99, 107, 32, 48, 49] w (by decide) E
  rw [show actC [116, 105, 99, 107, 32, 48, 49] = none by decide +kernel] at this
  exact this
theorem ks6 (w : World) (E : Env w) : Calls Tryz.prog 39 #[.string ⟨#[49, 32, 48, 32, 50, 32, 48]⟩] w fun e w' => e = .returned (.tuple #[.agg #[.int .i64 0, .int .i64 0, .int .i64 0, .int .i64 0], .int .i64 4]) ∧ Below w.heap.size w w' := by
  have := clinkOf_any [49, 32, 48, 32, 50, 32, 48] w (by decide) E
  rw [show clkRes [49, 32, 48, 32, 50, 32, 48] = .tuple #[.agg #[.int .i64 0, .int .i64 0, .int .i64 0, .int .i64 0], .int .i64 4] by unfold clkRes; rw [show linkC [49, 32, 48, 32, 50, 32, 48] = none by decide +kernel]] at this
  exact this
theorem ks7 (w : World) (E : Env w) : Calls Tryz.prog 39 #[.string ⟨#[108, 105, 110, 107, 32, 49, 32, 48, 32, 50, 32, 48]⟩] w fun e w' => e = .returned (.tuple #[.agg #[.int .i64 1, .int .i64 0, .int .i64 2, .int .i64 0], .int .i64 0]) ∧ Below w.heap.size w w' := by
  have := clinkOf_any [108, 105, 110, 107, 32, 49, 32, 48, 32, 50, 32, 48] w (by decide) E
  rw [show clkRes [108, 105, 110, 107, 32, 49, 32, 48, 32, 50, 32, 48] = .tuple #[.agg #[.int .i64 1, .int .i64 0, .int .i64 2, .int .i64 0], .int .i64 0] by unfold clkRes; rw [show linkC [108, 105, 110, 107, 32, 49, 32, 48, 32, 50, 32, 48] = some (1, 0, 2, 0) by decide +kernel]] at this
  exact this
set_option maxRecDepth 100000 in
set_option maxHeartbeats 8000000 in
theorem known25_any (w : World) (E : Env w) : Calls Tryz.prog 29 #[] w fun e w' => e = .returned (.bool true) ∧ Below w.heap.size w w' := by
  have E0 := Lib.hid E
  have HB0 := Lib.hid (Below.refl w.heap.size w)
  clear E
  go_enter Tryz.func29, Tryz.ntmps29
  go_wp2_with fail
  refine (ks1 _ E0.out).mono ?_
  rintro e w1 ⟨rfl, hb⟩
  have HB1 := Lib.hid (HB0.out.trans (hb.mono HB0.out.size))
  have E1 := Lib.hid (E0.out.here hb)
  clear hb
  go_wp2_with fail
  refine (ks2 _ E1.out).mono ?_
  rintro e w2 ⟨⟨A, c, rfl⟩, hb⟩
  have HB2 := Lib.hid (HB1.out.trans (hb.mono HB1.out.size))
  have E2 := Lib.hid (E1.out.here hb)
  clear hb
  obtain ⟨W2, hW2⟩ : ∃ W2, w2.alloc (.cells #[.int .i64 6, .int .i64 0, .int .i64 0, .int .i64 0, .int .i64 0, .bool true, .int .u8 0, .bool false, .slice A 0 c] 51) = W2 := ⟨_, rfl⟩
  have HB3 : Hid (Below w.heap.size w W2) := Lib.hid (by rw [← hW2]; exact HB2.out.alloc HB2.out.size _)
  have E3 : Hid (Env W2) := Lib.hid (by rw [← hW2]; exact E2.out.alloc _)
  have b2 : Hid (Whole W2 w2.heap.size 51 #[.int .i64 6, .int .i64 0, .int .i64 0, .int .i64 0, .int .i64 0, .bool true, .int .u8 0, .bool false, .slice A 0 c]) := Lib.hid (by rw [← hW2]; exact Whole.new w2 _ _)
  have HW2 := Lib.hid hW2
  clear hW2
  go_wp2_with fail
  rw [HW2.out]
  refine (ks3 _ E3.out).mono ?_
  rintro e w4 ⟨rfl, hb⟩
  have HB4 := Lib.hid (HB3.out.trans (hb.mono HB3.out.size))
  have E4 := Lib.hid (E3.out.here hb)
  have b2' := Lib.hid (b2.out.here hb)
  clear hb
  obtain ⟨W4, hW4⟩ : ∃ W4, w4.alloc (.cells #[.int .i64 0, .int .i64 0, .int .i64 0, .int .i64 0, .int .i64 0, .bool false, .int .u8 0, .bool false, .slice none 0 0] 51) = W4 := ⟨_, rfl⟩
  have HB5 : Hid (Below w.heap.size w W4) := Lib.hid (by rw [← hW4]; exact HB4.out.alloc HB4.out.size _)
  have E5 : Hid (Env W4) := Lib.hid (by rw [← hW4]; exact E4.out.alloc _)
  have b2'' : Hid (Whole W4 w2.heap.size 51 #[.int .i64 6, .int .i64 0, .int .i64 0, .int .i64 0, .int .i64 0, .bool true, .int .u8 0, .bool false, .slice A 0 c]) := Lib.hid (by rw [← hW4]; exact b2'.out.alloc _)
  have HW4 := Lib.hid hW4
  clear hW4
  go_wp2_with fail
  rw [HW4.out]
  refine (ks4 _ E5.out).mono ?_
  rintro e w6 ⟨rfl, hb⟩
  have HB6 := Lib.hid (HB5.out.trans (hb.mono HB5.out.size))
  have E6 := Lib.hid (E5.out.here hb)
  have b2''' := Lib.hid (b2''.out.here hb)
  clear hb
  go_wp2_with fail
  refine (ks5 _).mono ?_
  rintro e w7 ⟨rfl, hb⟩
  have HB7 := Lib.hid (HB6.out.trans (hb.mono HB6.out.size))
  have E7 := Lib.hid (E6.out.here hb)
  have b2'''' := Lib.hid (b2'''.out.here hb)
  clear hb
  go_wp2_with fail
  refine (ks6 _ E7.out).mono ?_
  rintro e w8 ⟨rfl, hb⟩
  have HB8 := Lib.hid (HB7.out.trans (hb.mono HB7.out.size))
  have E8 := Lib.hid (E7.out.here hb)
  have b2''''' := Lib.hid (b2''''.out.here hb)
  clear hb
  obtain ⟨W8, hW8⟩ : ∃ W8, w8.alloc (.cells #[.int .i64 0, .int .i64 0, .int .i64 0, .int .i64 0] 63) = W8 := ⟨_, rfl⟩
  have HB9 : Hid (Below w.heap.size w W8) := Lib.hid (by rw [← hW8]; exact HB8.out.alloc HB8.out.size _)
  have E9 : Hid (Env W8) := Lib.hid (by rw [← hW8]; exact E8.out.alloc _)
  have b2'''''' : Hid (Whole W8 w2.heap.size 51 #[.int .i64 6, .int .i64 0, .int .i64 0, .int .i64 0, .int .i64 0, .bool true, .int .u8 0, .bool false, .slice A 0 c]) := Lib.hid (by rw [← hW8]; exact b2'''''.out.alloc _)
  have HW8 := Lib.hid hW8
  clear hW8
  go_wp2_with fail
  rw [HW8.out]
  refine (ks7 _ E9.out).mono ?_
  rintro e w10 ⟨rfl, hb⟩
  have HB10 := Lib.hid (HB9.out.trans (hb.mono HB9.out.size))
  have E10 := Lib.hid (E9.out.here hb)
  have b2''''''' := Lib.hid (b2''''''.out.here hb)
  clear hb
  obtain ⟨W10, hW10⟩ : ∃ W10, w10.alloc (.cells #[.int .i64 1, .int .i64 0, .int .i64 2, .int .i64 0] 63) = W10 := ⟨_, rfl⟩
  have HB11 : Hid (Below w.heap.size w W10) := Lib.hid (by rw [← hW10]; exact HB10.out.alloc HB10.out.size _)
  have E11 : Hid (Env W10) := Lib.hid (by rw [← hW10]; exact E10.out.alloc _)
  have b2'''''''' : Hid (Whole W10 w2.heap.size 51 #[.int .i64 6, .int .i64 0, .int .i64 0, .int .i64 0, .int .i64 0, .bool true, .int .u8 0, .bool false, .slice A 0 c]) := Lib.hid (by rw [← hW10]; exact b2'''''''.out.alloc _)
  have b7 : Hid (Whole W10 w10.heap.size 63 #[.int .i64 1, .int .i64 0, .int .i64 2, .int .i64 0]) := Lib.hid (by rw [← hW10]; exact Whole.new w10 _ _)
  have HW10 := Lib.hid hW10
  clear hW10
  go_wp2_with fail
  rw [HW10.out]
  refine (sparse_empty _ E11.out).mono ?_
  rintro e w12 ⟨rfl, hb⟩
  have HB12 := Lib.hid (HB11.out.trans (hb.mono HB11.out.size))
  have E12 := Lib.hid (E11.out.here hb)
  have b2''''''''' := Lib.hid (b2''''''''.out.here hb)
  have b7' := Lib.hid (b7.out.here hb)
  clear hb
  obtain ⟨W12, hW12⟩ : ∃ W12, w12.alloc (.cells #[.slice none 0 0, .slice none 0 0, .slice none 0 0] 76) = W12 := ⟨_, rfl⟩
  have HB13 : Hid (Below w.heap.size w W12) := Lib.hid (by rw [← hW12]; exact HB12.out.alloc HB12.out.size _)
  have E13 : Hid (Env W12) := Lib.hid (by rw [← hW12]; exact E12.out.alloc _)
  have b2'''''''''' : Hid (Whole W12 w2.heap.size 51 #[.int .i64 6, .int .i64 0, .int .i64 0, .int .i64 0, .int .i64 0, .bool true, .int .u8 0, .bool false, .slice A 0 c]) := Lib.hid (by rw [← hW12]; exact b2'''''''''.out.alloc _)
  have b7'' : Hid (Whole W12 w10.heap.size 63 #[.int .i64 1, .int .i64 0, .int .i64 2, .int .i64 0]) := Lib.hid (by rw [← hW12]; exact b7'.out.alloc _)
  have HW12 := Lib.hid hW12
  clear hW12
  go_wp2_with fail
  rw [HW12.out]
  refine (sparse_run _ E13.out).mono ?_
  rintro e w14 ⟨rfl, hb⟩
  have HB14 := Lib.hid (HB13.out.trans (hb.mono HB13.out.size))
  have E14 := Lib.hid (E13.out.here hb)
  have b2''''''''''' := Lib.hid (b2''''''''''.out.here hb)
  have b7''' := Lib.hid (b7''.out.here hb)
  clear hb
  obtain ⟨W14, hW14⟩ : ∃ W14, w14.alloc (.cells #[.slice none 0 0, .slice none 0 0, .slice none 0 0] 76) = W14 := ⟨_, rfl⟩
  have HB15 : Hid (Below w.heap.size w W14) := Lib.hid (by rw [← hW14]; exact HB14.out.alloc HB14.out.size _)
  have E15 : Hid (Env W14) := Lib.hid (by rw [← hW14]; exact E14.out.alloc _)
  have b2'''''''''''' : Hid (Whole W14 w2.heap.size 51 #[.int .i64 6, .int .i64 0, .int .i64 0, .int .i64 0, .int .i64 0, .bool true, .int .u8 0, .bool false, .slice A 0 c]) := Lib.hid (by rw [← hW14]; exact b2'''''''''''.out.alloc _)
  have b7'''' : Hid (Whole W14 w10.heap.size 63 #[.int .i64 1, .int .i64 0, .int .i64 2, .int .i64 0]) := Lib.hid (by rw [← hW14]; exact b7'''.out.alloc _)
  have HW14 := Lib.hid hW14
  clear hW14
  have u5 : W14.cell? ⟨w2.heap.size, 5, none⟩ = some (.bool true) := b2''''''''''''.out.cell 5
  have ul : w2.heap.size < W14.heap.size := b2''''''''''''.out.lt
  have m0 : W14.cell? ⟨w10.heap.size, 0, none⟩ = some (.int .i64 1) := b7''''.out.cell 0
  have m1 : W14.cell? ⟨w10.heap.size, 1, none⟩ = some (.int .i64 0) := b7''''.out.cell 1
  have m2 : W14.cell? ⟨w10.heap.size, 2, none⟩ = some (.int .i64 2) := b7''''.out.cell 2
  have m3 : W14.cell? ⟨w10.heap.size, 3, none⟩ = some (.int .i64 0) := b7''''.out.cell 3
  have ml : w10.heap.size < W14.heap.size := b7''''.out.lt
  go_upto_region 10 with fail
  rw [HW14.out]
  go_wp2_with (go_at_call 35; refine (num25_any _ _).mono ?_; rintro e w' ⟨rfl, rfl⟩)
  go_ret
  exact ⟨by rfl, HB15.out⟩
end Go.Proofs.YtfbangojgjcbcaaGreatDoor
namespace Go.Proofs.YtfbangojgjcbcaaGreatDoor
open Go.RowKit Pl
theorem sameS_refl (cs : List Cfg) (ls : List Lk) (zs : List ActP) : sameS cs cs ls ls zs zs = true := by unfold sameS; simp
theorem short_lines (text : Ln) (n : Nat) (h : text.length ≤ n) : ∀ l ∈ linesT text, l.length ≤ n := fun l hl => by
  have h1 := congrArg List.length (lines_flat text)
  have h2 : ∀ M : List Ln, ∀ x ∈ M, x.length ≤ M.flatten.length := fun M => by
    induction M with
    | nil => intro x hx; cases hx
    | cons a M ih =>
      intro x hx
      rw [List.flatten_cons, List.length_append]
      rcases List.mem_cons.1 hx with rfl | hx
      · omega
      · have := ih x hx; omega
  have := h2 _ l hl
  omega
end Go.Proofs.YtfbangojgjcbcaaGreatDoor
namespace Go.Proofs.YtfbangojgjcbcaaGreatDoor
open Go.RowKit Pl
theorem scrOk_nil : ScrOk [] [] [] := ⟨by simp, by simp, by simp, by simp, by simp, by simp, by simp⟩
theorem scrIs_nil (w : World) : ScrIs w (.slice none 0 0) (.slice none 0 0) (.slice none 0 0) [] [] [] := ⟨Seqs.nil _ _ _, Seqs.nil _ _ _, Seqs.nil _ _ _⟩
set_option maxRecDepth 100000 in
set_option maxHeartbeats 4000000 in
theorem wrong25_any (text : Ln) (n : Nat) (w : World) (hl : text.length ≤ 4194304) (hx : ∀ l ∈ linesT text, l.length ≤ 100000) (E : Env w) (h : parseS text = (none, n, 4)) :
    Calls Tryz.prog 45 #[.string (str text), .int .i64 (n : Int)] w fun e w' => e = .returned (.bool true) ∧ Below w.heap.size w w' := by
  have HP := Lib.hid (sparse_any text w hl hx E)
  rw [h] at HP
  have HS := Lib.hid (fun W => rsame25_any _ _ _ _ _ _ [] [] [] [] [] [] W (scrIs_nil W) (scrIs_nil W) scrOk_nil scrOk_nil)
  rw [sameS_refl] at HS
  clear h hl hx E
  go_enter Tryz.func45, Tryz.ntmps45
  go_wp2_with fail
  refine HP.out.mono ?_
  rintro e w1 ⟨hres, hb⟩
  unfold ParseSRes at hres
  simp only at hres
  subst hres
  have HB1 := Lib.hid hb
  clear hb
  go_wp2_with fail
  refine (HS.out _).mono ?_
  rintro e w2 ⟨rfl, hb⟩
  have HB2 := Lib.hid ((HB1.out.alloc HB1.out.size (.cells #[.slice none 0 0, .slice none 0 0, .slice none 0 0] 76)).trans (hb.mono (by have := HB1.out.size; simp; omega)))
  clear hb
  go_wp2_with (go_at_call 35; refine (num25_any _ _).mono ?_; rintro e w' ⟨rfl, rfl⟩)
  go_ret
  exact ⟨by rfl, HB2.out⟩
def wrongS (l : Ln) (n : Nat) : Bool := (match parseS l with
  | (none, m, c) => decide (m = n) && decide (c = 4)
  | (some _, _, _) => false) && decide (l.length ≤ 20000)
theorem wrongS_eq {l : Ln} {n : Nat} (h : wrongS l n = true) : parseS l = (none, n, 4) ∧ l.length ≤ 20000 := by
  unfold wrongS at h
  simp only [Bool.and_eq_true, decide_eq_true_eq] at h
  refine ⟨?_, h.2⟩
  have h1 := h.1
  split at h1
  · rename_i m c hp
    simp only [Bool.and_eq_true, decide_eq_true_eq] at h1
    rw [hp, h1.1, h1.2]
  · cases h1
theorem wrong25_str (s : ByteArray) (n : Int) (w : World) (E : Env w) (hn : 0 ≤ n) (h : wrongS s.data.toList n.toNat = true) :
    Calls Tryz.prog 45 #[.string s, .int .i64 n] w fun e w' => e = .returned (.bool true) ∧ Below w.heap.size w w' := by
  obtain ⟨h1, h2⟩ := wrongS_eq h
  have := wrong25_any s.data.toList n.toNat w (by omega) (fun l hl => by have := short_lines _ 20000 h2 l hl; omega) E h1
  rw [Int.toNat_of_nonneg hn] at this
  have e : str s.data.toList = s := by cases s; simp [str]
  rw [e] at this; exact this
theorem sparse_zeros (n : Nat) (w : World) (h : n = 4194305) : Calls Tryz.prog 43 #[.string ⟨Array.replicate n 0⟩] w fun e w' => e = .returned (.tuple #[.agg #[.slice none 0 0, .slice none 0 0, .slice none 0 0], .int .i64 0, .int .i64 3]) ∧ Below w.heap.size w w' := by
  have e : (⟨Array.replicate n 0⟩ : ByteArray) = str (List.replicate n 0) := by unfold str; rw [List.toArray_replicate]
  rw [e]
  exact sparse_long _ w (by rw [List.length_replicate]; omega) (by rw [List.length_replicate]; omega)
/-- A text that is a script's with two nodes. -/
def twoS (l : Ln) : Bool := (match parseS l with
  | (some st, _, _) => decide (st.cs.length = 2) && decide (st.ls.length = 1)
  | (none, _, _) => false) && decide (l.length ≤ 20000)
theorem twoS_eq {l : Ln} (h : twoS l = true) : ∃ st, parseS l = (some st, 0, 0) ∧ st.cs.length = 2 ∧ st.ls.length = 1 ∧ maySet st.cs st.ls = true ∧ ScrOk st.cs st.ls st.zs ∧ (∀ l ∈ st.ls, In4 l) ∧ l.length ≤ 20000 := by
  unfold twoS at h
  simp only [Bool.and_eq_true, decide_eq_true_eq] at h
  have h1 := h.1
  split at h1
  · rename_i st m c hp
    simp only [Bool.and_eq_true, decide_eq_true_eq] at h1
    obtain ⟨hs, hr, -, -, rfl, rfl⟩ := parseS_sound hp
    have hne : st.cs ≠ [] := fun e => by rw [e] at h1; simp at h1
    exact ⟨st, hp, h1.1, h1.2, hs.may hne, (parsed_ok hp).1, hs.links, h.2⟩
  · cases h1
theorem sparse_two (s : ByteArray) (w : World) (E : Env w) (h : twoS s.data.toList = true) :
    Calls Tryz.prog 43 #[.string s] w fun e w' => (∃ (st : St) (cv lv av : Value), e = .returned (.tuple #[.agg #[cv, lv, av], .int .i64 0, .int .i64 0]) ∧ ScrIs w' cv lv av st.cs st.ls st.zs ∧ st.cs.length = 2 ∧ st.ls.length = 1 ∧ maySet st.cs st.ls = true ∧ ScrOk st.cs st.ls st.zs) ∧ Below w.heap.size w w' := by
  obtain ⟨st, hp, h1, h2, h3, h4, h5, h6⟩ := twoS_eq h
  have := sparse_any s.data.toList w (by omega) (fun l hl => by have := short_lines _ 20000 h6 l hl; omega) E
  have e : str s.data.toList = s := by cases s; simp [str]
  rw [e, hp] at this
  refine this.mono ?_
  rintro e w' ⟨⟨cv, lv, av, he, hs⟩, hb⟩
  exact ⟨⟨st, cv, lv, av, he, hs, h1, h2, h3, h4⟩, hb⟩
theorem made_bytesS {w : World} {base n N : Nat} {v : Value} (hN : N = n) (h : w.ownsRow base 5 1 v n (madeCells (Value.int .u8 0).cells (n * 1)).toList) : Bs w v (List.replicate N 0) := by
  subst hN
  refine Bs.own (n := N) (base := base) ?_
  rw [Nat.mul_one] at h
  have e : (madeCells (Value.int .u8 0).cells N).toList = cellsB (List.replicate N 0) := by
    show (madeCells #[Value.int .u8 0] N).toList = _
    rw [toList_madeCells_one]; simp [cellsB]
  rw [e] at h; exact h
def tick0 : ActP := { kind := 1 }
def rowZ : ARow := ⟨{ kind := 0 }, .slice none 0 0⟩
def rowT : ARow := ⟨tick0, .slice none 0 0⟩
theorem flat_set9 (y : ARow) : ∀ (xs : List ARow) (i : Nat), i < xs.length →
    (((((((((xs.flatMap cells9).set (i * 9) (.int .i64 y.a.kind)).set (i * 9 + 1) (.int .i64 y.a.node)).set (i * 9 + 2) (.int .i64 y.a.port)).set (i * 9 + 3) (.int .i64 y.a.cost)).set (i * 9 + 4) (.int .i64 y.a.n)).set (i * 9 + 5) (.bool y.a.up)).set (i * 9 + 6) (.int .u8 (y.a.by_.toNat : Int))).set (i * 9 + 7) (.bool y.a.unread)).set (i * 9 + 8) y.bv = (xs.set i y).flatMap cells9
  | [], i, h => by simp at h
  | x :: xs, 0, _ => by simp [cells9]
  | x :: xs, i + 1, h => by
    have ih := flat_set9 y xs i (by simpa using h)
    have key : ∀ (k : Nat) (u : Value) (l : List Value), (cells9 x ++ l).set ((i + 1) * 9 + k) u = cells9 x ++ l.set (i * 9 + k) u := fun k u l => by
      have hlen : (cells9 x).length = 9 := rfl
      rw [List.set_append_right _ _ (by rw [hlen]; omega), hlen, show (i + 1) * 9 + k - 9 = i * 9 + k by omega]
    have key0 : ∀ (u : Value) (l : List Value), (cells9 x ++ l).set ((i + 1) * 9) u = cells9 x ++ l.set (i * 9) u := fun u l => key 0 u l
    rw [List.flatMap_cons, key0, key, key, key, key, key, key, key, key, ih]
    rfl
theorem made_acts (n : Nat) : (madeCells #[.int .i64 0, .int .i64 0, .int .i64 0, .int .i64 0, .int .i64 0, .bool false, .int .u8 0, .bool false, .slice none 0 0] (n * 9)).toList = (List.replicate n rowZ).flatMap cells9 := by
  apply List.ext_getElem?
  intro j
  by_cases hj : j < n * 9
  · have h1 : j / 9 < n := by omega
    have h2 : j % 9 < 9 := Nat.mod_lt _ (by decide)
    have h3 : (cells9 rowZ)[j % 9]? = some ((cells9 rowZ)[j % 9]'h2) := List.getElem?_eq_getElem h2
    have := flat_at cells9 9 (fun _ => rfl) (List.replicate n rowZ) (j / 9) rowZ (j % 9) _ (by rw [List.getElem?_replicate, if_pos h1]) h3
    rw [show j / 9 * 9 + j % 9 = j by omega] at this
    rw [this]
    simp only [madeCells]
    simp [hj]
    have : ∀ k (hk : k < 9), ([Value.int .i64 0, .int .i64 0, .int .i64 0, .int .i64 0, .int .i64 0, .bool false, .int .u8 0, .bool false, .slice none 0 0] : List Value)[k]?.getD default = (cells9 rowZ)[k]'hk := fun k hk => match k, hk with
      | 0, _ => rfl
      | 1, _ => rfl
      | 2, _ => rfl
      | 3, _ => rfl
      | 4, _ => rfl
      | 5, _ => rfl
      | 6, _ => rfl
      | 7, _ => rfl
      | 8, _ => rfl
    exact this _ h2
  · rw [List.getElem?_eq_none (by simp [madeCells]; omega), List.getElem?_eq_none]
    rw [List.length_flatMap]
    simp [cells9]
    omega
def rowsT (M k : Nat) : List ARow := List.replicate k rowT ++ List.replicate (M - k) rowZ
theorem rowsT_len {M k : Nat} (h : k ≤ M) : (rowsT M k).length = M := by unfold rowsT; simp; omega
theorem rowsT_at {M k : Nat} (h : k < M) : (rowsT M k)[k]? = some rowZ := by
  unfold rowsT
  rw [List.getElem?_append_right (by simp), List.length_replicate, Nat.sub_self, List.getElem?_replicate, if_pos (by omega)]
theorem rowsT_set {M k : Nat} (h : k < M) : (rowsT M k).set k rowT = rowsT M (k + 1) := by
  unfold rowsT
  rw [List.set_append_right _ _ (by simp), List.length_replicate, Nat.sub_self, show M - k = (M - (k + 1)) + 1 by omega, List.replicate_succ, List.set_cons_zero, List.replicate_succ', List.append_assoc]
  rfl
theorem rowsT_full (M : Nat) : rowsT M M = List.replicate M rowT := by unfold rowsT; simp
theorem made_acts' {M n : Nat} (h : M = n) : (madeCells #[.int .i64 0, .int .i64 0, .int .i64 0, .int .i64 0, .int .i64 0, .bool false, .int .u8 0, .bool false, .slice none 0 0] (n * 9)).toList = (rowsT M 0).flatMap cells9 := by
  subst h
  rw [made_acts]
  unfold rowsT
  simp
theorem ticks_all (n : Nat) : (List.replicate n tick0).all mayA = true := List.all_eq_true.2 fun a ha => by
  rw [List.eq_of_mem_replicate ha]; decide +kernel
theorem ticks_len (n : Nat) : ((List.replicate n tick0).flatMap (fun a => actText a ++ [10])).length ≤ n * 7 := by
  have := flat_bound (fun a => actText a ++ [10]) 7 (List.replicate n tick0) (fun a ha => by rw [List.eq_of_mem_replicate ha]; decide +kernel)
  rw [List.length_replicate] at this
  exact this
theorem ticks_ok {st : St} (hok : ScrOk st.cs st.ls st.zs) (n : Nat) (hn : n ≤ 1000000) : ScrOk st.cs st.ls (List.replicate n tick0) :=
  ⟨hok.addrs, hok.confs, hok.links, fun a ha => by rw [List.eq_of_mem_replicate ha]; exact ⟨by unfold InA In64; decide, by decide⟩, hok.nc, hok.nl, by rw [List.length_replicate]; exact hn⟩
theorem ticks_textS {st : St} (hm : maySet st.cs st.ls = true) (hl : ∀ l ∈ st.ls, In4 l) (hc : st.cs.length = 2) (h1 : st.ls.length = 1) (n : Nat) : (textS st.cs st.ls (List.replicate n tick0)).length ≤ 3000 + n * 7 := by
  have h1 := flat_bound textP 1025 st.cs (fun c hc => textP_len (maySet_confs hm c hc))
  have h2 := flat_bound (fun l => linkText l ++ [10]) 101 st.ls (fun l h => by have := linkText_len (hl l h); simp; omega)
  have h3 := ticks_len n
  unfold textS linesL linesA
  simp only [List.length_append, List.length_cons, List.length_nil]
  omega
theorem ticks_long {st : St} (hm : maySet st.cs st.ls = true) (n : Nat) (hn : 65536 < n) : sText st.cs st.ls (List.replicate n tick0) = ([], 3) := by
  unfold sText
  rw [hm, ticks_all]
  simp only [Bool.and_self, if_true]
  rw [if_pos (by rw [List.length_replicate]; exact hn)]
theorem ticks_fine {st : St} (hm : maySet st.cs st.ls = true) (hl : ∀ l ∈ st.ls, In4 l) (hc : st.cs.length = 2) (h1 : st.ls.length = 1) (n : Nat) (hn : n ≤ 65536) : (sText st.cs st.ls (List.replicate n tick0)).2 = 0 := by
  have := ticks_textS hm hl hc h1 n
  unfold sText
  rw [hm, ticks_all]
  simp only [Bool.and_self, if_true]
  rw [if_neg (by rw [List.length_replicate]; omega), if_neg (by omega)]
theorem Seqs.tail {α : Type} {z : Nat} {Q : World → Nat → Nat → α → Prop} {w : World} {g n c : Nat} {x : α} {xs : List α} (h : Seqs z Q w (.slice (some ⟨g, 0, none⟩) n c) (x :: xs)) : Seqs z Q w (.slice (some ⟨g, z, none⟩) (n - 1) (c - 1)) xs := by
  obtain ⟨A, c', hv, hc, _, hA⟩ := h
  injection hv with e1 e2 e3
  subst e1 e2 e3
  obtain ⟨b, off, e, hlt, hcell⟩ := hA (by simp)
  injection e with e
  injection e with e1 e2
  subst e1 e2
  refine ⟨_, _, rfl, by simp at hc; omega, (fun h => by cases h), fun _ => ⟨g, z, rfl, hlt, fun j y hy => ?_⟩⟩
  have := hcell (j + 1) y (by simpa using hy)
  rw [show 0 + (j + 1) * z = z + j * z by rw [Nat.succ_mul]; omega] at this
  exact this
set_option maxRecDepth 100000 in
set_option maxHeartbeats 16000000 in
theorem scriptBounds_walk (w : World) (E : Env w) :
    Calls Tryz.prog 10 #[] w fun e w' => e = .returned (.bool true) ∧ Below w.heap.size w w' := by
  obtain ⟨N, hN⟩ : ∃ N, N = 4194305 := ⟨_, rfl⟩
  have HN := Lib.hid hN
  obtain ⟨M, hM⟩ : ∃ M, M = 65537 := ⟨_, rfl⟩
  have HM := Lib.hid hM
  clear hN hM
  obtain ⟨i0, hi0, hz0, hz1, hz2⟩ := info_parts info_u8
  obtain ⟨j0, hj0, hy0, hy1, hy2⟩ := info_parts info_NA
  have hb0 : i0.bytes * 4194305 ≤ 281474976710656 := by rw [hz2]; decide
  have hc0 : j0.bytes * M ≤ 281474976710656 := by rw [hy2, HM.out]; decide
  have EE := Lib.hid E
  clear E
  go_enter Tryz.func10, Tryz.ntmps10
  go_wp2_with (at_make; refine wpList_make_full _ rfl _ _ 37 rfl w.heap.size 5 i0 _ 1 Tryz.underlying37 hi0 hz0 hz1 _ _ _ _ 4194305 rfl rfl (by decide) (by decide) hb0 (by decide) (Nat.le_refl _) ?_; intro w1 hown hgrow; have HB := Lib.hid (made_bytesS HN.out hown); have hcv := HB.out.conv; have HG := Lib.hid hgrow; clear hown hgrow)
  have HB1 := Lib.hid (show Below w.heap.size w w1 from (Below.refl _ _).grown HG.out (Nat.le_refl _) (fun g h => by cases h))
  refine (sparse_zeros N w1 HN.out).mono ?_
  rintro e w2 ⟨rfl, hb2⟩
  have HB2 := Lib.hid (HB1.out.trans (hb2.mono HB1.out.size))
  clear hb2 hcv HB HG HB1 hi0 hz0 hz1 hz2 hb0
  go_wp2_with fail
  refine (sparse_two _ _ ((EE.out.here HB2.out).alloc _) (by decide +kernel)).mono ?_
  rintro e w3 ⟨⟨st, cv, lv, av, rfl, hs3, hcs, hls, hm, hok⟩, hb3⟩
  have HB3 := Lib.hid (HB2.out.trans (((Below.refl _ w2).alloc (Nat.le_refl _) _).trans (hb3.mono (by simp)) |>.mono HB2.out.size))
  have HLI : Hid (∀ l ∈ st.ls, In4 l) := Lib.hid hok.links
  have HSI := Lib.hid hs3
  have HCS := Lib.hid hcs
  have HLS := Lib.hid hls
  have HMS := Lib.hid hm
  have HOK := Lib.hid hok
  obtain ⟨C1, c1, rfl, -⟩ := hs3.confs
  obtain ⟨C2, c2, rfl, -⟩ := hs3.links
  obtain ⟨C3, c3, rfl, -⟩ := hs3.acts
  obtain ⟨W3, hW3⟩ : ∃ X, w3.alloc (.cells #[.slice C1 st.cs.length c1, .slice C2 st.ls.length c2, .slice C3 st.zs.length c3] 76) = X := ⟨_, rfl⟩
  have HB4 : Hid (Below w.heap.size w W3) := Lib.hid (by rw [← hW3]; exact HB3.out.alloc HB3.out.size _)
  have HX3 : Hid (Whole W3 w3.heap.size 76 #[.slice C1 st.cs.length c1, .slice C2 st.ls.length c2, .slice C3 st.zs.length c3]) := Lib.hid (by rw [← hW3]; exact Whole.new w3 _ _)
  have HS3 : Hid (ScrIs W3 (.slice C1 st.cs.length c1) (.slice C2 st.ls.length c2) (.slice C3 st.zs.length c3) st.cs st.ls st.zs) := Lib.hid (by rw [← hW3]; exact HSI.out.here ((Below.refl _ _).alloc (Nat.le_refl _) _))
  have HW3 := Lib.hid hW3
  clear hb3 hs3 hcs hls hm hok hW3 HSI
  go_upto_region 5 with fail
  rw [HW3.out]
  obtain ⟨G, hG⟩ : ∃ G, W3.heap.size = G := ⟨_, rfl⟩
  have HG := Lib.hid hG
  have hxG : w3.heap.size < G := by rw [← hG]; exact HX3.out.lt
  go_wp2_with (at_make; refine wpList_make_full _ rfl _ _ 74 rfl G 51 j0 _ 9 Tryz.underlying74 hj0 hy0 hy1 _ _ _ _ M rfl rfl (by rw [HM.out]; rfl) (by rw [HM.out]; rfl) hc0 (by rw [HM.out]; decide) (by rw [hG]; exact Nat.le_refl _) ?_; intro w4 hown hgrow; have HOW := Lib.hid hown; have HGR := Lib.hid hgrow; clear hown hgrow)
  rw [HG.out] at HOW
  have HOW0 : Hid (w4.ownsRow G 51 9 (.slice (some ⟨G, 0, none⟩) M M) M ((rowsT M 0).flatMap cells9)) := Lib.hid (by
    have := HOW.out
    rw [show (Value.agg #[.int .i64 0, .int .i64 0, .int .i64 0, .int .i64 0, .int .i64 0, .bool false, .int .u8 0, .bool false, .slice none 0 0]).cells = #[.int .i64 0, .int .i64 0, .int .i64 0, .int .i64 0, .int .i64 0, .bool false, .int .u8 0, .bool false, .slice none 0 0] from rfl, made_acts' rfl] at this
    exact this)
  have HB5 : Hid (Below G W3 w4) := Lib.hid (by rw [← HG.out]; exact (Below.refl _ _).grown HGR.out (Nat.le_refl _) (fun g h => by cases h))
  have hMb : M ≤ 65537 := by rw [HM.out]; exact Nat.le_refl _
  clear hG HOW HGR hj0 hy0 hy1 hy2 hc0
  go_wp2
  go_loopw [10] (fun i wr => ∃ k : Nat, k ≤ M ∧ i = .int .i64 k ∧ Hid (wr.ownsRow G 51 9 (.slice (some ⟨G, 0, none⟩) M M) M ((rowsT M k).flatMap cells9)) ∧ Hid (Below G W3 wr)) (fun i _ => M - (intOf i).toNat)
  case atStart => exact ⟨0, Nat.zero_le _, rfl, HOW0, HB5⟩
  case round =>
    obtain ⟨k, hk, rfl, HO, HB⟩ := hrel
    have HXr : Hid (Whole wr w3.heap.size 76 #[.slice C1 st.cs.length c1, .slice C2 st.ls.length c2, .slice C3 st.zs.length c3]) := Lib.hid (HX3.out.below HB.out hxG)
    by_cases hkm : k < M
    · have HKM := Lib.hid hkm
      have p0 : wr.cell? ⟨G, k * 9 + 0, none⟩ = some (.int .i64 0) := by
        have := HO.out.cells (g := G) rfl (k * 9 + 0) _ (flat_at cells9 9 (fun _ => rfl) (rowsT M k) k rowZ 0 _ (rowsT_at HKM.out) rfl)
        rw [addC, Nat.zero_add] at this
        exact this
      have f0 : wr.frozen? ⟨G, k * 9 + 0, none⟩ = false := HO.out.frozenAt (k * 9 + 0)
      have p1 : wr.cell? ⟨G, k * 9 + 1, none⟩ = some (.int .i64 0) := by
        have := HO.out.cells (g := G) rfl (k * 9 + 1) _ (flat_at cells9 9 (fun _ => rfl) (rowsT M k) k rowZ 1 _ (rowsT_at HKM.out) rfl)
        rw [addC, Nat.zero_add] at this
        exact this
      have f1 : wr.frozen? ⟨G, k * 9 + 1, none⟩ = false := HO.out.frozenAt (k * 9 + 1)
      have p2 : wr.cell? ⟨G, k * 9 + 2, none⟩ = some (.int .i64 0) := by
        have := HO.out.cells (g := G) rfl (k * 9 + 2) _ (flat_at cells9 9 (fun _ => rfl) (rowsT M k) k rowZ 2 _ (rowsT_at HKM.out) rfl)
        rw [addC, Nat.zero_add] at this
        exact this
      have f2 : wr.frozen? ⟨G, k * 9 + 2, none⟩ = false := HO.out.frozenAt (k * 9 + 2)
      have p3 : wr.cell? ⟨G, k * 9 + 3, none⟩ = some (.int .i64 0) := by
        have := HO.out.cells (g := G) rfl (k * 9 + 3) _ (flat_at cells9 9 (fun _ => rfl) (rowsT M k) k rowZ 3 _ (rowsT_at HKM.out) rfl)
        rw [addC, Nat.zero_add] at this
        exact this
      have f3 : wr.frozen? ⟨G, k * 9 + 3, none⟩ = false := HO.out.frozenAt (k * 9 + 3)
      have p4 : wr.cell? ⟨G, k * 9 + 4, none⟩ = some (.int .i64 0) := by
        have := HO.out.cells (g := G) rfl (k * 9 + 4) _ (flat_at cells9 9 (fun _ => rfl) (rowsT M k) k rowZ 4 _ (rowsT_at HKM.out) rfl)
        rw [addC, Nat.zero_add] at this
        exact this
      have f4 : wr.frozen? ⟨G, k * 9 + 4, none⟩ = false := HO.out.frozenAt (k * 9 + 4)
      have p5 : wr.cell? ⟨G, k * 9 + 5, none⟩ = some (.bool false) := by
        have := HO.out.cells (g := G) rfl (k * 9 + 5) _ (flat_at cells9 9 (fun _ => rfl) (rowsT M k) k rowZ 5 _ (rowsT_at HKM.out) rfl)
        rw [addC, Nat.zero_add] at this
        exact this
      have f5 : wr.frozen? ⟨G, k * 9 + 5, none⟩ = false := HO.out.frozenAt (k * 9 + 5)
      have p6 : wr.cell? ⟨G, k * 9 + 6, none⟩ = some (.int .u8 0) := by
        have := HO.out.cells (g := G) rfl (k * 9 + 6) _ (flat_at cells9 9 (fun _ => rfl) (rowsT M k) k rowZ 6 _ (rowsT_at HKM.out) rfl)
        rw [addC, Nat.zero_add] at this
        exact this
      have f6 : wr.frozen? ⟨G, k * 9 + 6, none⟩ = false := HO.out.frozenAt (k * 9 + 6)
      have p7 : wr.cell? ⟨G, k * 9 + 7, none⟩ = some (.bool false) := by
        have := HO.out.cells (g := G) rfl (k * 9 + 7) _ (flat_at cells9 9 (fun _ => rfl) (rowsT M k) k rowZ 7 _ (rowsT_at HKM.out) rfl)
        rw [addC, Nat.zero_add] at this
        exact this
      have f7 : wr.frozen? ⟨G, k * 9 + 7, none⟩ = false := HO.out.frozenAt (k * 9 + 7)
      have p8 : wr.cell? ⟨G, k * 9 + 8, none⟩ = some (.slice none 0 0) := by
        have := HO.out.cells (g := G) rfl (k * 9 + 8) _ (flat_at cells9 9 (fun _ => rfl) (rowsT M k) k rowZ 8 _ (rowsT_at HKM.out) rfl)
        rw [addC, Nat.zero_add] at this
        exact this
      have f8 : wr.frozen? ⟨G, k * 9 + 8, none⟩ = false := HO.out.frozenAt (k * 9 + 8)
      rw [Nat.add_zero] at p0 f0
      go_wp2
      go_roundw
      case rel =>
        refine ⟨k + 1, by omega, by go_num, Lib.hid ?_, Lib.hid ?_⟩
        · have e := flat_set9 rowT (rowsT M k) k (by rw [rowsT_len (Nat.le_of_lt HKM.out)]; exact HKM.out)
          rw [rowsT_set HKM.out] at e
          rw [← e]
          exact (((((((((HO.out.stored (k * 9) (.int .i64 1)).1.stored (k * 9 + 1) (.int .i64 0)).1.stored (k * 9 + 2) (.int .i64 0)).1.stored (k * 9 + 3) (.int .i64 0)).1.stored (k * 9 + 4) (.int .i64 0)).1.stored (k * 9 + 5) (.bool false)).1.stored (k * 9 + 6) (.int .u8 0)).1.stored (k * 9 + 7) (.bool false)).1.stored (k * 9 + 8) (.slice none 0 0)).1
        · exact (((((((((HB.out.setCell (p := ⟨G, k * 9, none⟩) (Nat.le_refl _) (.int .i64 1)).setCell (p := ⟨G, k * 9 + 1, none⟩) (Nat.le_refl _) (.int .i64 0)).setCell (p := ⟨G, k * 9 + 2, none⟩) (Nat.le_refl _) (.int .i64 0)).setCell (p := ⟨G, k * 9 + 3, none⟩) (Nat.le_refl _) (.int .i64 0)).setCell (p := ⟨G, k * 9 + 4, none⟩) (Nat.le_refl _) (.int .i64 0)).setCell (p := ⟨G, k * 9 + 5, none⟩) (Nat.le_refl _) (.bool false)).setCell (p := ⟨G, k * 9 + 6, none⟩) (Nat.le_refl _) (.int .u8 0)).setCell (p := ⟨G, k * 9 + 7, none⟩) (Nat.le_refl _) (.bool false)).setCell (p := ⟨G, k * 9 + 8, none⟩) (Nat.le_refl _) (.slice none 0 0))
      case measure => simp [intOf]; omega
    · obtain rfl : k = M := by omega
      have hG : W3.heap.size = G := HG.out
      have HB6 : Hid (Below W3.heap.size W3 wr) := Lib.hid (by rw [hG]; exact HB.out)
      have HAC : Hid (Acts wr (.slice (some ⟨G, 0, none⟩) k k) (List.replicate k tick0)) := Lib.hid (by
        have := Seqs.own (β := ActP) (Q := actQ) (w := wr) (xs := List.replicate k rowT) cells9 (·.a) (fun _ => rfl) (by rw [List.length_replicate, ← rowsT_full]; exact HO.out) (fun g o y hy hc => by
          rw [List.eq_of_mem_replicate hy] at hc ⊢
          exact ⟨.slice none 0 0, Bs.nil _, hc 0 _ rfl, hc 1 _ rfl, hc 2 _ rfl, hc 3 _ rfl, hc 4 _ rfl, hc 5 _ rfl, hc 6 _ rfl, hc 7 _ rfl, hc 8 _ rfl⟩)
        rw [List.map_replicate] at this
        exact this)
      have HAT : Hid (Acts wr (.slice (some ⟨G, 9, none⟩) (k - 1) (k - 1)) (List.replicate (k - 1) tick0)) := Lib.hid (by
        have := HAC.out
        rw [show List.replicate k tick0 = tick0 :: List.replicate (k - 1) tick0 by rw [← List.replicate_succ]; congr 1; have := HM.out; omega] at this
        exact Seqs.tail this)
      have HSr := Lib.hid (HS3.out.here HB6.out)
      have HT1 := Lib.hid (stext_any _ _ _ st.cs st.ls (List.replicate k tick0) wr ⟨HSr.out.confs, HSr.out.links, HAC.out⟩ (ticks_ok HOK.out k (by omega)) (EE.out.here (HB4.out.trans (HB6.out.mono HB4.out.size))) (fun _ _ => by have := ticks_textS HMS.out HLI.out HCS.out HLS.out k; omega))
      have HR1 := Lib.hid (ticks_long (st := st) HMS.out k (by have := HM.out; omega))
      have HR2 := Lib.hid (ticks_fine (st := st) HMS.out HLI.out HCS.out HLS.out (k - 1) (by have := HM.out; omega))
      have hk2 : 2 ≤ k := by have := HM.out; omega
      clear hkm hG
      have x0 : wr.cell? ⟨w3.heap.size, 0, none⟩ = some (.slice C1 st.cs.length c1) := HXr.out.cell 0
      have x1 : wr.cell? ⟨w3.heap.size, 1, none⟩ = some (.slice C2 st.ls.length c2) := HXr.out.cell 1
      go_wp2_with fail
      refine HT1.out.mono ?_
      rintro e w5 ⟨ht, hb⟩
      unfold TextRes at ht
      rw [HR1.out] at ht
      subst ht
      have HB7 := Lib.hid (HB6.out.trans (hb.mono HB6.out.size))
      have HX5 : Hid (Whole w5 w3.heap.size 76 #[.slice C1 st.cs.length c1, .slice C2 st.ls.length c2, .slice C3 st.zs.length c3]) := Lib.hid (HXr.out.here hb)
      have HT2 : Hid (∀ y : Ext w5, Calls Tryz.prog 44 #[.agg #[.slice C1 st.cs.length c1, .slice C2 st.ls.length c2, .slice (some ⟨G, 9, none⟩) (k - 1) (k - 1)]] y.w fun e w' => e = .returned (.tuple #[.string (str (sText st.cs st.ls (List.replicate (k - 1) tick0)).1), .int .i64 0]) ∧ Below y.w.heap.size y.w w') := Lib.hid (fun y => by
        have hbb := hb.trans (y.below.mono hb.size)
        have := stext_any _ _ _ st.cs st.ls (List.replicate (k - 1) tick0) y.w ⟨HSr.out.confs.here hbb, HSr.out.links.here hbb, HAT.out.here hbb⟩ (ticks_ok HOK.out (k - 1) (by omega)) (EE.out.here (HB4.out.trans ((HB6.out.trans (hbb.mono HB6.out.size)).mono HB4.out.size))) (fun _ _ => by have := ticks_textS HMS.out HLI.out HCS.out HLS.out (k - 1); omega)
        unfold TextRes at this
        rw [HR2.out] at this
        exact this)
      clear x0 x1 hb HT1
      have x0 : w5.cell? ⟨w3.heap.size, 0, none⟩ = some (.slice C1 st.cs.length c1) := HX5.out.cell 0
      have x1 : w5.cell? ⟨w3.heap.size, 1, none⟩ = some (.slice C2 st.ls.length c2) := HX5.out.cell 1
      have xl := HX5.out.lt
      go_upto_region 11 with fail
      refine wp_region_ext (by kernel_rfl) (by kernel_rfl) ?_
      repeat (go_big_quiet_step ((go_at_call 44; exact Ext.call (HT2.out _))))
      refine wpQuiet_nil ?_
      rintro _ ⟨y, rfl⟩
      have HB8 := Lib.hid (HB4.out.trans (HB7.out.mono HB4.out.size))
      have E5 := EE.out.here HB8.out
      clear x0 x1 HT2
      have x0 : w5.cell? ⟨w3.heap.size, 0, none⟩ = some (.slice C1 2 c1) := by
        have := HX5.out.cell 0
        rw [HCS.out] at this
        exact this
      go_wp2_with (first
        | (go_at_call 45; refine (Ext.call (wrong25_str _ _ _ (Ext.env _ E5) (by decide) (by decide +kernel))).mono ?_; rintro e w' ⟨rfl, z, rfl⟩)
        | (go_at_call 35; refine (num25_any _ _).mono ?_; rintro e w' ⟨rfl, rfl⟩)
        | (go_at_call 29; refine (Ext.call (known25_any _ (Ext.env _ E5))).mono ?_; rintro e w' ⟨rfl, z, rfl⟩))
      go_ret
      exact ⟨by rfl, HB8.out.trans (z.below.mono HB8.out.size)⟩
end Go.Proofs.YtfbangojgjcbcaaGreatDoor
