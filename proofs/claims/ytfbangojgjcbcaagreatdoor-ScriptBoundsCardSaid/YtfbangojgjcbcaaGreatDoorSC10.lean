/- Part 10 of the proof: ActF, ScrP, PlainV, PlainW, RdrA. -/
import Derived.OwnWalkIn
import Derived.Test.YtfbangojgjcbcaaGreatDoorShelf4
import Derived.WalkMore
import Derived.Test.YtfbangojgjcbcaaGreatDoorSC01
import Derived.Test.YtfbangojgjcbcaaGreatDoorSC08
import Derived.Test.YtfbangojgjcbcaaGreatDoorSC09
namespace Go.Proofs.YtfbangojgjcbcaaGreatDoor
open Go.RowKit Pl Go.Shelf
open Go.Lib (itoa)
attribute [local go_sem] Oper.semAt_some
/-- 'out = append(out, x)' within a fence. -/
theorem wpListIn_push {F : Fence} {n : Nat} {P : Program} {ops : Array Oper} {rest : List Oper} {o : Oper} {a : Act} {Q : Exit → Act → World → Prop} {w0 : World} {e0 : TypeId} {u : Value} (hgd : o.guard = none) (s x : Operand) (t : TypeId)
    (ho : o.op = .call { callee := .builtin .append, args := #[s, x], argTypes := #[t, t] })
    (base : Nat) (e : TypeId) {z : Value} {bytes : Nat} (hinfo : (P.info? e).map (fun i => (i.zero, i.size, i.bytes)) = some (some z, 1, bytes)) (hzs : z.cells.size = 1) (hby : bytes ≤ 1000) (ht : P.underlying t = some (.slice e))
    (v : Value) (k : Nat) (xs : List Value) (hs : a.eval s = v) (hown : w0.ownsRow base e 1 v k xs) (hx : a.eval x = .slice (some ⟨w0.heap.size, 0, none⟩) 1 1) (hu : u.oneCell' = true)
    (hk : k ≤ 1000000000) (hbase : base ≤ w0.heap.size)
    (h : ∀ v' w', w'.ownsRow base e 1 v' (k + 1) (xs ++ [u]) → w0.grownBy w' v.ownBlock → wpListIn F n P ops Q rest (a.put o.dst v') w') : wpListIn F n P ops Q (o :: rest) a (w0.alloc (.cells #[u] e0)) := by
  obtain ⟨i0, hi, hz0, hz1, hz2⟩ := info_parts hinfo
  refine wpListIn_append_own _ hgd s x t ho base e i0 z 1 bytes ht hi hz0 hz1 hz2 hzs (by decide) v k xs hs (hown.alloc _) ⟨w0.heap.size, 0, none⟩ 1 1 [u] hx rfl (cell_one_new _ _ _) (by intro y hy; simp at hy; subst hy; exact hu) (by unfold maxLen; omega) ?_ (by simp; omega) fun v' w' h1 h2 _ => h v' w' h1 (grownBy_alloc h2)
  have : (k + 1) * bytes ≤ (k + 1) * 1000 := Nat.mul_le_mul_left _ hby
  omega
/-- Box R holds a slice of the words ls, its row from base on. -/
structure WordsAt (base R : Nat) (ls : List (List UInt8)) (w : World) : Prop where
  is : ∃ v, Whole w R 40 #[v] ∧ w.ownsRow base 9 1 v ls.length (ls.map Sv)
theorem WordsAt.own {α : Type} (base R : Nat) (f : α → List (List UInt8)) : Own (fun s W => WordsAt base R (f s) W) := fun s X Y row hs hg hr => by
  obtain ⟨v, h1, h2⟩ := hs.is
  refine ⟨v, whole_own R _ (fun (_ : Unit) => #[v]) () X Y row h1 hg hr, h2.kept hg ?_⟩
  rcases h2.2 with ⟨rfl, _⟩ | ⟨g, cap, cur, rfl, _, hh, _⟩
  · exact .inl rfl
  · right
    intro e
    obtain ⟨o, ho, hc⟩ := hr g e.symm
    rw [hh] at ho
    injection ho with ho
    subst ho
    simp [Obj.isCells] at hc
theorem WordsAt.lines {base B R : Nat} {ls : List (List UInt8)} {w : World} (h : WordsAt base R ls w) (hB : B ≤ base) (hR : B ≤ R := by omega) : LinesIs B R ls w := by
  obtain ⟨v, h1, h2⟩ := h.is
  refine ⟨v, hR, h1, h2.1, ?_⟩
  rcases h2.2 with h3 | ⟨g, cap, cur, a1, a2, a3⟩
  · exact .inl h3
  · exact .inr ⟨g, cap, cur, a1, Nat.le_trans hB a2, a3⟩
theorem join_len (c : UInt8) (M : Nat) : ∀ ls : List (List UInt8), (∀ l ∈ ls, l.length ≤ M) → (Lib.join ls [c]).length ≤ (M + 1) * ls.length
  | [], _ => by simp [Lib.join]
  | [x], h => by have := h x (by simp); simp [Lib.join]; omega
  | x :: y :: r, h => by
    have ih := join_len c M (y :: r) (fun l hl => h l (List.mem_cons_of_mem _ hl))
    have hx := h x (by simp)
    rw [Pl.join_two, List.length_append, List.length_cons, List.length_cons, Nat.mul_add]
    omega
theorem in_byte (b : UInt8) : In64 (b.toNat : Int) := by
  have := b.toNat_lt
  constructor <;> omega
theorem name_len : ∀ k : Nat, (nameA k).length ≤ 6
  | 0 | 1 | 2 | 3 | 4 | 5 | 6 | 7 | 8 | 9 => by decide
  | _ + 10 => by simp [nameA]
theorem words_len {k : Nat} {ns : List Int} (hn : ∀ x ∈ ns, In64 x) : ∀ l ∈ [nameA k] ++ ns.map itoa, l.length ≤ 100 := by
  intro l hl
  rcases List.mem_append.1 hl with h | h
  · simp only [List.mem_singleton] at h
    subst h
    have := name_len k
    omega
  · obtain ⟨x, hx, rfl⟩ := List.mem_map.1 h
    have := itoa_len20 (hn x hx)
    omega
/-- A region that ends in no other way than behind itself. -/
theorem wp_calm {P : Program} {c : Code} {Q : Exit → Act → World → Prop} {a : Act} {w : World} (h : c.wp P (Exit.then (fun a w => Q .normal a w) (fun _ _ _ => False)) a w) : c.wp P Q a w :=
  wp_mono h fun e _ _ h => by cases e <;> first | exact h | exact h.elim
theorem words_more {M : Nat} {ws : List (List UInt8)} {x : List UInt8} (h : ∀ l ∈ ws, l.length ≤ M) (hx : x.length ≤ M) : ∀ l ∈ ws ++ [x], l.length ≤ M := by
  intro l hl
  rcases List.mem_append.1 hl with h' | h'
  · exact h l h'
  · simp only [List.mem_singleton] at h'
    rw [h']; exact hx
theorem hexD_len (l : List UInt8) : (hexD l).length ≤ 2 * l.length + 1 := by
  unfold hexD
  split
  · simp
  · have : (hexText l).length = 2 * l.length := by
      unfold hexText
      induction l with
      | nil => rfl
      | cons x r ih =>
        rw [List.flatMap_cons, List.length_append]
        by_cases hr : r = []
        · subst hr; rfl
        · rw [ih hr]
          simp [hex1]; omega
    omega
/-- The first word, once it has come. -/
def wordOf (k : Int) (pre : List Nat) : List (List UInt8) := (pre.filter fun (x : Nat) => decide ((x : Int) = k)).map nameA
theorem wordOf_next (k : Int) (pre : List Nat) (x : Nat) : wordOf k (pre ++ [x]) = if (x : Int) = k then wordOf k pre ++ [nameA x] else wordOf k pre := by
  unfold wordOf
  rw [List.filter_append, List.map_append]
  by_cases h : (x : Int) = k <;> simp [h]
theorem wordOf_len (k : Int) (pre : List Nat) : (wordOf k pre).length ≤ pre.length := by
  unfold wordOf
  rw [List.length_map]
  exact List.length_filter_le _ _
theorem wordOf_all {k : Int} (h0 : 1 ≤ k) (h1 : k ≤ 9) : wordOf k kinds9 = [nameA k.toNat] := by
  rcases (by omega : k = 1 ∨ k = 2 ∨ k = 3 ∨ k = 4 ∨ k = 5 ∨ k = 6 ∨ k = 7 ∨ k = 8 ∨ k = 9) with rfl | rfl | rfl | rfl | rfl | rfl | rfl | rfl | rfl <;> rfl
/-- One word more. -/
theorem WordsAt.push {base R : Nat} {ls : List (List UInt8)} {l : List UInt8} {w w3 : World} {v v' : Value} (hW : Whole w R 40 #[v]) (hO : w.ownsRow base 9 1 v ls.length (ls.map Sv))
    (hO3 : w3.ownsRow base 9 1 v' (ls.length + 1) (ls.map Sv ++ [Sv l])) (hg : w.grownBy w3 v.ownBlock) (hRb : R < base) (hbw : base ≤ w.heap.size) :
    ∃ g n k, v' = .slice (some ⟨g, 0, none⟩) n k ∧ w3.cell? ⟨R, 0, none⟩ = some v ∧ w3.frozen? ⟨R, 0, none⟩ = false ∧ WordsAt base R (ls ++ [l]) (w3.setCell ⟨R, 0, none⟩ v') ∧ Below R w (w3.setCell ⟨R, 0, none⟩ v') ∧
      KeepsOthers w (w3.setCell ⟨R, 0, none⟩ v') ∧ (∀ lo hi, R < lo → hi ≤ base → hi ≤ w.heap.size → Between lo hi w (w3.setCell ⟨R, 0, none⟩ v')) ∧ w.heap.size ≤ (w3.setCell ⟨R, 0, none⟩ v').heap.size := by
  obtain ⟨g3, k3, rfl, _, _⟩ := hO3.form (by omega)
  have hno := hW.notRow hO (by decide)
  have hW3 := hW.kept hg (Ne.symm hno)
  refine ⟨g3, _, k3, rfl, hW3.cell 0, hW3.frozen 0, ⟨_, hW3.set 0 _, ?_⟩, ?_, (keeps_row hO hg).trans (KeepsOthers.setCell _ _ _), fun lo hi h1 h2 h3 => ⟨by rw [size_setCell]; exact hg.size, fun g ha hb => ?_⟩, by rw [size_setCell]; exact hg.size⟩
  · rw [List.length_append, List.map_append]
    exact own_grown hW3 hO3 (by decide) (grown_set w3 R 0 _)
  · exact ((Below.refl R w).grown hg (by omega) fun g hg' => by have := (hO.lt g hg').1; omega).setCell (p := ⟨R, 0, none⟩) (Nat.le_refl _) _
  · rw [Below.heap_setCell w3 _ _ g (by show g ≠ R; omega)]
    refine hg.block g (by omega) ?_
    intro he
    have := (hO.lt g he.symm).1
    omega
set_option maxRecDepth 100000 in
set_option maxHeartbeats 8000000 in
theorem cactText_any (a : ActP) (bv : Value) (w : World) (hk : K9 a) (h : Bs w bv a.bytes) (hi : InA a) (hl : a.bytes.length ≤ 100000) (E : Env w) :
    Calls Tryz.prog 75 #[actV a bv] w fun e w' => e = .returned (.string (str (actText a))) ∧ Below w.heap.size w w' := by
  have HBV := Lib.hid h
  have HI := Lib.hid hi
  obtain ⟨A, c, rfl, -⟩ := h
  obtain ⟨k, node, port, cost, n, up, by_, unread, bytes⟩ := a
  obtain ⟨W0, hW0⟩ : ∃ W0, (w.alloc (.cells #[.int .i64 k, .int .i64 node, .int .i64 port, .int .i64 cost, .int .i64 n, .bool up, .int .u8 (by_.toNat : Int), .bool unread, .slice A bytes.length c] 51)).alloc (.cells #[.slice none 0 0] 40) = W0 := ⟨_, rfl⟩
  have HB0 : Hid (Below w.heap.size w W0) := Lib.hid (by rw [← hW0]; exact ((Below.refl _ _).alloc (Nat.le_refl _) _).alloc (by simp) _)
  have HX : Hid (Whole W0 w.heap.size 51 #[.int .i64 k, .int .i64 node, .int .i64 port, .int .i64 cost, .int .i64 n, .bool up, .int .u8 (by_.toNat : Int), .bool unread, .slice A bytes.length c]) := Lib.hid (by rw [← hW0]; exact (Whole.new w _ _).alloc _)
  have HR : Hid (Whole W0 (w.heap.size + 1) 40 #[.slice none 0 0]) := Lib.hid (by
    rw [← hW0]
    have := Whole.new (w.alloc (.cells #[.int .i64 k, .int .i64 node, .int .i64 port, .int .i64 cost, .int .i64 n, .bool up, .int .u8 (by_.toNat : Int), .bool unread, .slice A bytes.length c] 51)) 40 #[.slice none 0 0]
    simpa using this)
  have hs0 : W0.heap.size = w.heap.size + 2 := by rw [← hW0]; simp
  have HW0 := Lib.hid hW0
  have E0 := Lib.hid (E.here HB0.out)
  have hNB := E.size
  have HK := Lib.hid hk
  clear hW0 E hi hk
  refine (callsIn_wide (n := 3)).1 ?_
  refine callsIn_of_wp_marks Tryz.func75 rfl trivial ?_ rfl
  simp only [Tryz.ntmps75, List.size_toArray, List.length_cons, List.length_nil, Nat.reduceAdd, Nat.reduceSub, Array.replicate_succ, Array.replicate_zero, List.push_toArray, List.append_toArray, List.nil_append, List.cons_append]
  gi_wp2
  rw [HW0.out]
  refine ⟨trivial, (callsIn_wide.2 (names_any W0)).mono ?_⟩
  rintro e W3 ⟨⟨Bq, vs, rfl, ⟨hlo, hBq⟩, hc, hS⟩, hb3⟩
  have HB3 := Lib.hid hb3
  have HS := Lib.hid hS
  have HBW : Hid (Below (w.heap.size + 1) W0 W3) := Lib.hid (hb3.mono (by omega))
  have HX3 := Lib.hid (HX.out.here hb3)
  have HR3 := Lib.hid (HR.out.here hb3)
  have hs3 := hb3.size
  have HW3 : Hid (WordsAt W3.heap.size (w.heap.size + 1) [] W3) := Lib.hid ⟨_, HR3.out, by simpa using World.ownsRow_nil _ _ _ _⟩
  clear hb3 hS
  gi_wp2
  refine wpIn_rangeFunc_ownH (F := Fence.wide) rfl (by decide) (gf := 141) (lb := #[.pointer (some ⟨Bq, 0, none⟩)]) rfl trivial (enters_of Tryz.func141 (by kernel_rfl) rfl)
    (names1_stops Fence.wide 2 trivial rfl (by decide) Bq W0.heap.size W3.heap.size vs W3 hBq (Nat.le_refl _) hc HS.out) Between.trans (fun W l o o' hl _ _ _ => Between.put hl) (Below.refl _ _) (fun _ => rfl)
    (fun pre W => (WordsAt W3.heap.size (w.heap.size + 1) (wordOf k pre) W ∧ Below (w.heap.size + 1) W3 W) ∧ W3.heap.size ≤ W.heap.size)
    (fun _ _ _ => False)
    (OwnFrom.and (OwnFrom.and (Own.from (WordsAt.own _ _ (fun pre : List Nat => wordOf k pre)) _) (ownFrom_below (by omega) (by omega))) (fun _ _ _ _ hs hg _ => Nat.le_trans hs hg.size))
    (fun _ _ _ _ _ hs _ _ => hs)
    ⟨⟨HW3.out, Below.refl _ _⟩, Nat.le_refl _⟩
    (fun x a' _ => a' = { tmps := #[.agg #[.int .i64 k, .int .i64 node, .int .i64 port, .int .i64 cost, .int .i64 n, .bool up, .int .u8 (by_.toNat : Int), .bool unread, .slice A bytes.length c], .pointer (some ⟨w.heap.size, 0, none⟩), .string ⟨#[]⟩, .pointer (some ⟨w.heap.size + 1, 0, none⟩), .int .i64 (x : Int), .string (str (nameA x)), undef, .func (.func 141) #[] #[.pointer (some ⟨Bq, 0, none⟩)], .int .i64 (x : Int), .string (str (nameA x)), undef, undef, undef, undef, undef, undef, undef, undef, undef, undef, undef, undef, undef, undef, undef, undef, undef, undef, undef, undef, undef, undef, undef, undef, undef, undef, undef, undef, undef, undef, undef, undef, undef, undef, undef, undef, undef, undef, undef, undef, undef, undef, undef, undef, undef, undef, undef, undef, undef, undef, undef, undef, undef, undef, undef, undef, undef, undef, undef, undef, undef, undef, undef, undef, undef, undef, undef, undef, undef, undef, undef, undef, undef, undef, undef, undef, undef, undef, undef, undef, undef], defers := [] })
    (fun x a' _ X Y row hs hg hr => hs)
    ?assign ?body ?done ?stop
  case assign =>
    rintro l pre x W K hI hK
    gi_wp2
    exact hK _ _ ((KeepsOthers.refl _).from _) (Between.refl W) hI rfl
  case body =>
    rintro l pre x a' W hl _ ⟨⟨hA, hB⟩, hz⟩ rfl hlt
    have HKW := Lib.hid (wordOf_next k pre x)
    have hwl := wordOf_len k pre
    have x0 : W.cell? ⟨w.heap.size, 0, none⟩ = some (.int .i64 k) := (HX3.out.below hB (by omega)).cell 0
    have hWz : w.heap.size < W.heap.size := by omega
    dsimp only
    by_cases he : (x : Int) = k
    · have HE : Hid (wordOf k (pre ++ [x]) = wordOf k pre ++ [nameA x]) := Lib.hid (by rw [HKW.out, if_pos he])
      have q : ((x : Int) == k) = true := by simpa using he
      obtain ⟨v, hW, hO⟩ := hA.is
      have c0 : W.cell? ⟨w.heap.size + 1, 0, none⟩ = some v := hW.cell 0
      have HWW := Lib.hid hW
      have HOO := Lib.hid hO
      have HBB := Lib.hid hB
      clear he hA hW hO hB
      gi_wp2_with (gi_at_builtin; refine wpListIn_push rfl _ _ 40 rfl W3.heap.size 9 info_str rfl (by decide) Tryz.underlying40 _ _ _ rfl HOO.out rfl rfl (by omega) hz ?_)
      intro v' w3 hown3 hg
      obtain ⟨g3, n3, k3, rfl, c3, f3, hW3, hB3, hK3, hBt, hsz⟩ := WordsAt.push (l := nameA x) HWW.out HOO.out hown3 hg (by omega) hz
      have HW4 := Lib.hid hW3
      have HB4 := Lib.hid (HBB.out.trans (hB3.mono (Nat.le_refl _)))
      have HK4 := Lib.hid hK3
      have HBT := Lib.hid (hBt W0.heap.size W3.heap.size (by omega) (Nat.le_refl _) hz)
      have HSZ := Lib.hid (Nat.le_trans hz hsz)
      clear hown3 hg hW3 hB3 hK3 hBt hsz
      gi_wp2
      refine ⟨HK4.out.from _, HBT.out, ⟨⟨?_, HB4.out⟩, HSZ.out⟩⟩
      rw [HE.out]
      exact HW4.out
    · have HE : Hid (wordOf k (pre ++ [x]) = wordOf k pre) := Lib.hid (by rw [HKW.out, if_neg he])
      have q : ((x : Int) == k) = false := by simpa using he
      clear he
      gi_wp2
      refine ⟨(KeepsOthers.refl _).from _, Between.refl _, ⟨⟨?_, hB⟩, hz⟩⟩
      rw [HE.out]
      exact hA
  case done =>
    rintro D ys W hD rfl ⟨⟨hA, hB⟩, hzW⟩ hKD
    obtain ⟨k0, k1⟩ := HK.out
    simp only at k0 k1
    rw [wordOf_all k0 k1] at hA
    have HLW : Hid (LinesIs (w.heap.size + 1) (w.heap.size + 1) [nameA k.toNat] W) := Lib.hid (hA.lines (by omega))
    have HBW2 : Hid (Below (w.heap.size + 1) W0 W) := Lib.hid (HBW.out.trans hB)
    have HKDW := Lib.hid hKD
    have HXW := Lib.hid (HX3.out.below hB (by omega))
    have x0 : W.cell? ⟨w.heap.size, 0, none⟩ = some (.int .i64 k) := HXW.out.cell 0
    have x1 : W.cell? ⟨w.heap.size, 1, none⟩ = some (.int .i64 node) := HXW.out.cell 1
    have x2 : W.cell? ⟨w.heap.size, 2, none⟩ = some (.int .i64 port) := HXW.out.cell 2
    have x3 : W.cell? ⟨w.heap.size, 3, none⟩ = some (.int .i64 cost) := HXW.out.cell 3
    have x4 : W.cell? ⟨w.heap.size, 4, none⟩ = some (.int .i64 n) := HXW.out.cell 4
    have x6 : W.cell? ⟨w.heap.size, 6, none⟩ = some (.int .u8 (by_.toNat : Int)) := HXW.out.cell 6
    have hWz : w.heap.size < W.heap.size := by omega
    have hby : by_.toNat < 256 := by_.toNat_lt
    have EW := Lib.hid (E0.out.below (by omega) HBW2.out)
    clear HBW hKD
    have HBW := HBW2
    clear HBW2
    dsimp only
    rcases (by omega : k = 1 ∨ k = 2 ∨ k = 3 ∨ k = 4 ∨ k = 5 ∨ k = 6 ∨ k = 7 ∨ k = 8 ∨ k = 9) with rfl | rfl | rfl | rfl | rfl | rfl | rfl | rfl | rfl
    · have HIN : Hid (∀ y ∈ [node], In64 y) := Lib.hid (by
        intro y hy
        simp only [List.mem_cons, List.not_mem_nil, or_false] at hy
        rcases hy with rfl <;> first | exact HI.out.2.1 | exact HI.out.2.2.1 | exact HI.out.2.2.2.1 | exact HI.out.2.2.2.2 | exact in_byte _)
      have HWL : Hid (∀ l ∈ ([nameA (Int.toNat 1)] ++ [node].map itoa), l.length ≤ 100) := Lib.hid (words_len HIN.out)
      clear HR HW0 HB3 HS HR3 HW3 HX3 HXW hA hB hc
      gi_wp2
      refine ⟨trivial, (callsIn_wide.2 (put_any (w.heap.size + 1) (w.heap.size + 1) W.heap.size 1 [node] ([nameA (Int.toNat 1)]) _ (HLW.out.below ((Below.refl _ _).alloc (Nat.le_refl _) _)) (Whole.new W 3 #[.int .i64 node]) HIN.out (by simp) (by simp) (by simp) (EW.out.here ((Below.refl _ _).alloc (Nat.le_refl _) _)) (by omega) (by simp; omega))).mono ?_⟩
      rintro e w5 ⟨rfl, hLw5, hBw5, hOw5⟩
      have HLw5 := Lib.hid hLw5
      have HBw5 : Hid (Below (w.heap.size + 1) W0 w5) := Lib.hid ((HBW.out.alloc (by omega) _).trans hBw5)
      have HKDw5 : Hid (w5.heap[D]? = some (.deferred (some []))) := Lib.hid (hOw5.same D _ ((Below.heap_alloc W _ D (Array.getElem?_eq_some_iff.1 HKDW.out).1).trans HKDW.out) rfl)
      have hzw5 : W3.heap.size ≤ w5.heap.size := by have := hOw5.size; simp at this; omega
      have Ew5 := Lib.hid (E0.out.below (by omega) HBw5.out)
      clear hLw5 hBw5 hOw5
      obtain ⟨vJ, -, hWJ, hOJ⟩ := HLw5.out.is
      have cJ : w5.cell? ⟨w.heap.size + 1, 0, none⟩ = some vJ := hWJ.cell 0
      have hRJ : w.heap.size + 1 < w5.heap.size := by omega
      have HJ := Lib.hid (join_own (sep := [32]) w5 hOJ (by simp) (by simp) (by
        refine Nat.le_trans (join_len 32 100 _ ?_) (by simp)
        exact HWL.out))
      clear hWJ hOJ
      gi_wp2
      refine ⟨trivial, (callsIn_wide.2 HJ.out).mono ?_⟩
      rintro e WE ⟨rfl, hbE⟩
      have hkE : WE.heap[D]? = some (.deferred (some [])) := (hbE.block D (Array.getElem?_eq_some_iff.1 HKDw5.out).1).trans HKDw5.out
      have HBE : Hid (Below w.heap.size w WE) := Lib.hid ((HB0.out.trans (HBw5.out.mono (by omega))).trans (hbE.mono (by omega)))
      clear hbE
      gi_wp2
      refine ⟨by simp, .inl ⟨_, _, rfl, run_takeDeferred hkE, ?_⟩⟩
      refine ⟨.string (str (actText ⟨1, node, port, cost, n, up, by_, unread, bytes⟩)), ?_, rfl, HBE.out.trans (belowK_b (w := w) (Nat.le_refl _) WE D _ _ (by omega) hkE rfl rfl)⟩
      simp [results, Tryz.results75, go_sem]
      rfl
    · have HIN : Hid (∀ y ∈ [n], In64 y) := Lib.hid (by
        intro y hy
        simp only [List.mem_cons, List.not_mem_nil, or_false] at hy
        rcases hy with rfl <;> first | exact HI.out.2.1 | exact HI.out.2.2.1 | exact HI.out.2.2.2.1 | exact HI.out.2.2.2.2 | exact in_byte _)
      have HWL : Hid (∀ l ∈ ([nameA (Int.toNat 2)] ++ [n].map itoa), l.length ≤ 100) := Lib.hid (words_len HIN.out)
      clear HR HW0 HB3 HS HR3 HW3 HX3 HXW hA hB hc
      gi_wp2
      refine ⟨trivial, (callsIn_wide.2 (put_any (w.heap.size + 1) (w.heap.size + 1) W.heap.size 1 [n] ([nameA (Int.toNat 2)]) _ (HLW.out.below ((Below.refl _ _).alloc (Nat.le_refl _) _)) (Whole.new W 3 #[.int .i64 n]) HIN.out (by simp) (by simp) (by simp) (EW.out.here ((Below.refl _ _).alloc (Nat.le_refl _) _)) (by omega) (by simp; omega))).mono ?_⟩
      rintro e w5 ⟨rfl, hLw5, hBw5, hOw5⟩
      have HLw5 := Lib.hid hLw5
      have HBw5 : Hid (Below (w.heap.size + 1) W0 w5) := Lib.hid ((HBW.out.alloc (by omega) _).trans hBw5)
      have HKDw5 : Hid (w5.heap[D]? = some (.deferred (some []))) := Lib.hid (hOw5.same D _ ((Below.heap_alloc W _ D (Array.getElem?_eq_some_iff.1 HKDW.out).1).trans HKDW.out) rfl)
      have hzw5 : W3.heap.size ≤ w5.heap.size := by have := hOw5.size; simp at this; omega
      have Ew5 := Lib.hid (E0.out.below (by omega) HBw5.out)
      clear hLw5 hBw5 hOw5
      obtain ⟨vJ, -, hWJ, hOJ⟩ := HLw5.out.is
      have cJ : w5.cell? ⟨w.heap.size + 1, 0, none⟩ = some vJ := hWJ.cell 0
      have hRJ : w.heap.size + 1 < w5.heap.size := by omega
      have HJ := Lib.hid (join_own (sep := [32]) w5 hOJ (by simp) (by simp) (by
        refine Nat.le_trans (join_len 32 100 _ ?_) (by simp)
        exact HWL.out))
      clear hWJ hOJ
      gi_wp2
      refine ⟨trivial, (callsIn_wide.2 HJ.out).mono ?_⟩
      rintro e WE ⟨rfl, hbE⟩
      have hkE : WE.heap[D]? = some (.deferred (some [])) := (hbE.block D (Array.getElem?_eq_some_iff.1 HKDw5.out).1).trans HKDw5.out
      have HBE : Hid (Below w.heap.size w WE) := Lib.hid ((HB0.out.trans (HBw5.out.mono (by omega))).trans (hbE.mono (by omega)))
      clear hbE
      gi_wp2
      refine ⟨by simp, .inl ⟨_, _, rfl, run_takeDeferred hkE, ?_⟩⟩
      refine ⟨.string (str (actText ⟨2, node, port, cost, n, up, by_, unread, bytes⟩)), ?_, rfl, HBE.out.trans (belowK_b (w := w) (Nat.le_refl _) WE D _ _ (by omega) hkE rfl rfl)⟩
      simp [results, Tryz.results75, go_sem]
      rfl
    · have HIN : Hid (∀ y ∈ [n], In64 y) := Lib.hid (by
        intro y hy
        simp only [List.mem_cons, List.not_mem_nil, or_false] at hy
        rcases hy with rfl <;> first | exact HI.out.2.1 | exact HI.out.2.2.1 | exact HI.out.2.2.2.1 | exact HI.out.2.2.2.2 | exact in_byte _)
      have HWL : Hid (∀ l ∈ ([nameA (Int.toNat 3)] ++ [n].map itoa), l.length ≤ 100) := Lib.hid (words_len HIN.out)
      clear HR HW0 HB3 HS HR3 HW3 HX3 HXW hA hB hc
      gi_wp2
      refine ⟨trivial, (callsIn_wide.2 (put_any (w.heap.size + 1) (w.heap.size + 1) W.heap.size 1 [n] ([nameA (Int.toNat 3)]) _ (HLW.out.below ((Below.refl _ _).alloc (Nat.le_refl _) _)) (Whole.new W 3 #[.int .i64 n]) HIN.out (by simp) (by simp) (by simp) (EW.out.here ((Below.refl _ _).alloc (Nat.le_refl _) _)) (by omega) (by simp; omega))).mono ?_⟩
      rintro e w5 ⟨rfl, hLw5, hBw5, hOw5⟩
      have HLw5 := Lib.hid hLw5
      have HBw5 : Hid (Below (w.heap.size + 1) W0 w5) := Lib.hid ((HBW.out.alloc (by omega) _).trans hBw5)
      have HKDw5 : Hid (w5.heap[D]? = some (.deferred (some []))) := Lib.hid (hOw5.same D _ ((Below.heap_alloc W _ D (Array.getElem?_eq_some_iff.1 HKDW.out).1).trans HKDW.out) rfl)
      have hzw5 : W3.heap.size ≤ w5.heap.size := by have := hOw5.size; simp at this; omega
      have Ew5 := Lib.hid (E0.out.below (by omega) HBw5.out)
      clear hLw5 hBw5 hOw5
      obtain ⟨vJ, -, hWJ, hOJ⟩ := HLw5.out.is
      have cJ : w5.cell? ⟨w.heap.size + 1, 0, none⟩ = some vJ := hWJ.cell 0
      have hRJ : w.heap.size + 1 < w5.heap.size := by omega
      have HJ := Lib.hid (join_own (sep := [32]) w5 hOJ (by simp) (by simp) (by
        refine Nat.le_trans (join_len 32 100 _ ?_) (by simp)
        exact HWL.out))
      clear hWJ hOJ
      gi_wp2
      refine ⟨trivial, (callsIn_wide.2 HJ.out).mono ?_⟩
      rintro e WE ⟨rfl, hbE⟩
      have hkE : WE.heap[D]? = some (.deferred (some [])) := (hbE.block D (Array.getElem?_eq_some_iff.1 HKDw5.out).1).trans HKDw5.out
      have HBE : Hid (Below w.heap.size w WE) := Lib.hid ((HB0.out.trans (HBw5.out.mono (by omega))).trans (hbE.mono (by omega)))
      clear hbE
      gi_wp2
      refine ⟨by simp, .inl ⟨_, _, rfl, run_takeDeferred hkE, ?_⟩⟩
      refine ⟨.string (str (actText ⟨3, node, port, cost, n, up, by_, unread, bytes⟩)), ?_, rfl, HBE.out.trans (belowK_b (w := w) (Nat.le_refl _) WE D _ _ (by omega) hkE rfl rfl)⟩
      simp [results, Tryz.results75, go_sem]
      rfl
    · have HIN : Hid (∀ y ∈ [n], In64 y) := Lib.hid (by
        intro y hy
        simp only [List.mem_cons, List.not_mem_nil, or_false] at hy
        rcases hy with rfl <;> first | exact HI.out.2.1 | exact HI.out.2.2.1 | exact HI.out.2.2.2.1 | exact HI.out.2.2.2.2 | exact in_byte _)
      have HWL : Hid (∀ l ∈ ([nameA (Int.toNat 4)] ++ [n].map itoa), l.length ≤ 100) := Lib.hid (words_len HIN.out)
      clear HR HW0 HB3 HS HR3 HW3 HX3 HXW hA hB hc
      gi_wp2
      refine ⟨trivial, (callsIn_wide.2 (put_any (w.heap.size + 1) (w.heap.size + 1) W.heap.size 1 [n] ([nameA (Int.toNat 4)]) _ (HLW.out.below ((Below.refl _ _).alloc (Nat.le_refl _) _)) (Whole.new W 3 #[.int .i64 n]) HIN.out (by simp) (by simp) (by simp) (EW.out.here ((Below.refl _ _).alloc (Nat.le_refl _) _)) (by omega) (by simp; omega))).mono ?_⟩
      rintro e w5 ⟨rfl, hLw5, hBw5, hOw5⟩
      have HLw5 := Lib.hid hLw5
      have HBw5 : Hid (Below (w.heap.size + 1) W0 w5) := Lib.hid ((HBW.out.alloc (by omega) _).trans hBw5)
      have HKDw5 : Hid (w5.heap[D]? = some (.deferred (some []))) := Lib.hid (hOw5.same D _ ((Below.heap_alloc W _ D (Array.getElem?_eq_some_iff.1 HKDW.out).1).trans HKDW.out) rfl)
      have hzw5 : W3.heap.size ≤ w5.heap.size := by have := hOw5.size; simp at this; omega
      have Ew5 := Lib.hid (E0.out.below (by omega) HBw5.out)
      clear hLw5 hBw5 hOw5
      obtain ⟨vJ, -, hWJ, hOJ⟩ := HLw5.out.is
      have cJ : w5.cell? ⟨w.heap.size + 1, 0, none⟩ = some vJ := hWJ.cell 0
      have hRJ : w.heap.size + 1 < w5.heap.size := by omega
      have HJ := Lib.hid (join_own (sep := [32]) w5 hOJ (by simp) (by simp) (by
        refine Nat.le_trans (join_len 32 100 _ ?_) (by simp)
        exact HWL.out))
      clear hWJ hOJ
      gi_wp2
      refine ⟨trivial, (callsIn_wide.2 HJ.out).mono ?_⟩
      rintro e WE ⟨rfl, hbE⟩
      have hkE : WE.heap[D]? = some (.deferred (some [])) := (hbE.block D (Array.getElem?_eq_some_iff.1 HKDw5.out).1).trans HKDw5.out
      have HBE : Hid (Below w.heap.size w WE) := Lib.hid ((HB0.out.trans (HBw5.out.mono (by omega))).trans (hbE.mono (by omega)))
      clear hbE
      gi_wp2
      refine ⟨by simp, .inl ⟨_, _, rfl, run_takeDeferred hkE, ?_⟩⟩
      refine ⟨.string (str (actText ⟨4, node, port, cost, n, up, by_, unread, bytes⟩)), ?_, rfl, HBE.out.trans (belowK_b (w := w) (Nat.le_refl _) WE D _ _ (by omega) hkE rfl rfl)⟩
      simp [results, Tryz.results75, go_sem]
      rfl
    · have HIN : Hid (∀ y ∈ [node, port, cost], In64 y) := Lib.hid (by
        intro y hy
        simp only [List.mem_cons, List.not_mem_nil, or_false] at hy
        rcases hy with rfl | rfl | rfl <;> first | exact HI.out.2.1 | exact HI.out.2.2.1 | exact HI.out.2.2.2.1 | exact HI.out.2.2.2.2 | exact in_byte _)
      have HWL : Hid (∀ l ∈ ([nameA (Int.toNat 5)] ++ [node, port, cost].map itoa), l.length ≤ 100) := Lib.hid (words_len HIN.out)
      clear HR HW0 HB3 HS HR3 HW3 HX3 HXW hA hB hc
      gi_wp2
      refine ⟨trivial, (callsIn_wide.2 (put_any (w.heap.size + 1) (w.heap.size + 1) W.heap.size 3 [node, port, cost] ([nameA (Int.toNat 5)]) _ (HLW.out.below ((Below.refl _ _).alloc (Nat.le_refl _) _)) (Whole.new W 3 #[.int .i64 node, .int .i64 port, .int .i64 cost]) HIN.out (by simp) (by simp) (by simp) (EW.out.here ((Below.refl _ _).alloc (Nat.le_refl _) _)) (by omega) (by simp; omega))).mono ?_⟩
      rintro e w5 ⟨rfl, hLw5, hBw5, hOw5⟩
      have HLw5 := Lib.hid hLw5
      have HBw5 : Hid (Below (w.heap.size + 1) W0 w5) := Lib.hid ((HBW.out.alloc (by omega) _).trans hBw5)
      have HKDw5 : Hid (w5.heap[D]? = some (.deferred (some []))) := Lib.hid (hOw5.same D _ ((Below.heap_alloc W _ D (Array.getElem?_eq_some_iff.1 HKDW.out).1).trans HKDW.out) rfl)
      have hzw5 : W3.heap.size ≤ w5.heap.size := by have := hOw5.size; simp at this; omega
      have Ew5 := Lib.hid (E0.out.below (by omega) HBw5.out)
      clear hLw5 hBw5 hOw5
      obtain ⟨vJ, -, hWJ, hOJ⟩ := HLw5.out.is
      have cJ : w5.cell? ⟨w.heap.size + 1, 0, none⟩ = some vJ := hWJ.cell 0
      have hRJ : w.heap.size + 1 < w5.heap.size := by omega
      have HJ := Lib.hid (join_own (sep := [32]) w5 hOJ (by simp) (by simp) (by
        refine Nat.le_trans (join_len 32 100 _ ?_) (by simp)
        exact HWL.out))
      clear hWJ hOJ
      gi_wp2
      refine ⟨trivial, (callsIn_wide.2 HJ.out).mono ?_⟩
      rintro e WE ⟨rfl, hbE⟩
      have hkE : WE.heap[D]? = some (.deferred (some [])) := (hbE.block D (Array.getElem?_eq_some_iff.1 HKDw5.out).1).trans HKDw5.out
      have HBE : Hid (Below w.heap.size w WE) := Lib.hid ((HB0.out.trans (HBw5.out.mono (by omega))).trans (hbE.mono (by omega)))
      clear hbE
      gi_wp2
      refine ⟨by simp, .inl ⟨_, _, rfl, run_takeDeferred hkE, ?_⟩⟩
      refine ⟨.string (str (actText ⟨5, node, port, cost, n, up, by_, unread, bytes⟩)), ?_, rfl, HBE.out.trans (belowK_b (w := w) (Nat.le_refl _) WE D _ _ (by omega) hkE rfl rfl)⟩
      simp [results, Tryz.results75, go_sem]
      rfl
    · have HIN : Hid (∀ y ∈ [n], In64 y) := Lib.hid (by
        intro y hy
        simp only [List.mem_cons, List.not_mem_nil, or_false] at hy
        rcases hy with rfl <;> first | exact HI.out.2.1 | exact HI.out.2.2.1 | exact HI.out.2.2.2.1 | exact HI.out.2.2.2.2 | exact in_byte _)
      have HWL : Hid (∀ l ∈ ([nameA (Int.toNat 6)] ++ [n].map itoa), l.length ≤ 100) := Lib.hid (words_len HIN.out)
      clear HR HW0 HB3 HS HR3 HW3 HX3 HXW hA hB hc
      cases up with
      | false =>
        gi_wp2
        refine ⟨trivial, (callsIn_wide.2 (put_any (w.heap.size + 1) (w.heap.size + 1) W.heap.size 1 [n] ([nameA (Int.toNat 6)]) _ (HLW.out.below ((Below.refl _ _).alloc (Nat.le_refl _) _)) (Whole.new W 3 #[.int .i64 n]) HIN.out (by simp) (by simp) (by simp) (EW.out.here ((Below.refl _ _).alloc (Nat.le_refl _) _)) (by omega) (by simp; omega))).mono ?_⟩
        rintro e w5 ⟨rfl, hLw5, hBw5, hOw5⟩
        have HLw5 := Lib.hid hLw5
        have HBw5 : Hid (Below (w.heap.size + 1) W0 w5) := Lib.hid ((HBW.out.alloc (by omega) _).trans hBw5)
        have HKDw5 : Hid (w5.heap[D]? = some (.deferred (some []))) := Lib.hid (hOw5.same D _ ((Below.heap_alloc W _ D (Array.getElem?_eq_some_iff.1 HKDW.out).1).trans HKDW.out) rfl)
        have hzw5 : W3.heap.size ≤ w5.heap.size := by have := hOw5.size; simp at this; omega
        have Ew5 := Lib.hid (E0.out.below (by omega) HBw5.out)
        clear hLw5 hBw5 hOw5
        obtain ⟨vw6, hBRw6, hWw6, hOw6⟩ := HLw5.out.is
        have cRw6 : w5.cell? ⟨w.heap.size + 1, 0, none⟩ = some vw6 := hWw6.cell 0
        have hXw6 := HX.out.below HBw5.out (by omega)
        have xFw6 : w5.cell? ⟨w.heap.size, 5, none⟩ = some (.bool false) := hXw6.cell 5
        have hRw6 : w.heap.size + 1 < w5.heap.size := by omega
        have hFw6 : w.heap.size < w5.heap.size := by omega
        have HWw6 := Lib.hid hWw6
        have HOw6 := Lib.hid hOw6
        have HBVw6 : Hid (Bs w5 (.slice A bytes.length c) bytes) := Lib.hid (HBV.out.keep (by omega) fun p hp => (HBw5.out.cell (show p.block < _ by omega)).trans (HB0.out.cell hp))
        clear hWw6 hOw6 hXw6
        gi_wp2
        refine wpIn_wide.2 (wp_calm ?_)
        refine wp_region_ext_load (v := vw6) 4 (by kernel_rfl) (by kernel_rfl) rfl rfl (.inl ⟨rfl, ?_⟩) (fun _ _ _ h => h) ?_
        · rintro _ ⟨x, rfl⟩
          have cx := (x.cell ⟨w.heap.size + 1, 0, none⟩ hRw6).trans cRw6
          go_simp
        simp only [List.take_succ_cons, List.take_zero, List.drop_succ_cons, List.drop_zero, Act.put, List.setIfInBounds_toArray, List.set_cons_succ, List.set_cons_zero]
        repeat (go_big_quiet_step (first | (go_at_call 137; exact Ext.callq (either_any _ _ _ _))))
        refine wpQuiet_nil ?_
        rintro _ ⟨zw6, rfl⟩
        go_wp2
        have hzb := zw6.below.size
        refine ⟨⟨⟨_, bel_alloc zw6.below _⟩, rfl⟩, ?_⟩
        have hown2 := own_below HOw6.out zw6.below
        go_wp2_with (at_builtin; refine wpList_push rfl _ _ 40 rfl (w.heap.size + 1) 9 info_str rfl (by decide) Tryz.underlying40 _ _ _ rfl hown2 rfl rfl (by simp) (by omega) ?_)
        intro v' ww6' hown3 hg
        rw [show Value.string { data := #[100, 111, 119, 110] } = Sv (wDown) from rfl] at hown3
        obtain ⟨g3, n3, k3, rfl, c3, f3, hL3, hB3, hK3⟩ := LinesIs.push' (l := wDown) HWw6.out HOw6.out zw6.below hown3 hg hBRw6 (by omega)
        obtain ⟨w6, hnw6⟩ : ∃ X, ww6'.setCell ⟨w.heap.size + 1, 0, none⟩ (.slice (some ⟨g3, 0, none⟩) n3 k3) = X := ⟨_, rfl⟩
        rw [hnw6] at hL3 hB3 hK3
        have HNw6 := Lib.hid hnw6
        have HLw6 := Lib.hid hL3
        have HBw6 : Hid (Below (w.heap.size + 1) W0 w6) := Lib.hid (HBw5.out.trans hB3)
        have HKDw6 : Hid (w6.heap[D]? = some (.deferred (some []))) := Lib.hid (hK3.same D _ HKDw5.out rfl)
        have hzw6 : W3.heap.size ≤ w6.heap.size := by have := hK3.size; omega
        clear hown2 hown3 hg hL3 hB3 hK3 hnw6
        go_wp2
        rw [HNw6.out]
        have HWL6 : Hid (∀ l ∈ [nameA (Int.toNat 6)] ++ [n].map itoa ++ [wDown], l.length ≤ 100) := Lib.hid (words_more HWL.out (by decide))
        obtain ⟨vJ, -, hWJ, hOJ⟩ := HLw6.out.is
        have cJ : w6.cell? ⟨w.heap.size + 1, 0, none⟩ = some vJ := hWJ.cell 0
        have hRJ : w.heap.size + 1 < w6.heap.size := by omega
        have HJ := Lib.hid (join_own (sep := [32]) w6 hOJ (by simp) (by simp) (by
          refine Nat.le_trans (join_len 32 100 _ ?_) (by simp)
          exact HWL6.out))
        clear hWJ hOJ
        gi_wp2
        refine ⟨trivial, (callsIn_wide.2 HJ.out).mono ?_⟩
        rintro e WE ⟨rfl, hbE⟩
        have hkE : WE.heap[D]? = some (.deferred (some [])) := (hbE.block D (Array.getElem?_eq_some_iff.1 HKDw6.out).1).trans HKDw6.out
        have HBE : Hid (Below w.heap.size w WE) := Lib.hid ((HB0.out.trans (HBw6.out.mono (by omega))).trans (hbE.mono (by omega)))
        clear hbE
        gi_wp2
        refine ⟨by simp, .inl ⟨_, _, rfl, run_takeDeferred hkE, ?_⟩⟩
        refine ⟨.string (str (actText ⟨6, node, port, cost, n, false, by_, unread, bytes⟩)), ?_, rfl, HBE.out.trans (belowK_b (w := w) (Nat.le_refl _) WE D _ _ (by omega) hkE rfl rfl)⟩
        simp [results, Tryz.results75, go_sem]
        rfl
      | true =>
        gi_wp2
        refine ⟨trivial, (callsIn_wide.2 (put_any (w.heap.size + 1) (w.heap.size + 1) W.heap.size 1 [n] ([nameA (Int.toNat 6)]) _ (HLW.out.below ((Below.refl _ _).alloc (Nat.le_refl _) _)) (Whole.new W 3 #[.int .i64 n]) HIN.out (by simp) (by simp) (by simp) (EW.out.here ((Below.refl _ _).alloc (Nat.le_refl _) _)) (by omega) (by simp; omega))).mono ?_⟩
        rintro e w5 ⟨rfl, hLw5, hBw5, hOw5⟩
        have HLw5 := Lib.hid hLw5
        have HBw5 : Hid (Below (w.heap.size + 1) W0 w5) := Lib.hid ((HBW.out.alloc (by omega) _).trans hBw5)
        have HKDw5 : Hid (w5.heap[D]? = some (.deferred (some []))) := Lib.hid (hOw5.same D _ ((Below.heap_alloc W _ D (Array.getElem?_eq_some_iff.1 HKDW.out).1).trans HKDW.out) rfl)
        have hzw5 : W3.heap.size ≤ w5.heap.size := by have := hOw5.size; simp at this; omega
        have Ew5 := Lib.hid (E0.out.below (by omega) HBw5.out)
        clear hLw5 hBw5 hOw5
        obtain ⟨vw6, hBRw6, hWw6, hOw6⟩ := HLw5.out.is
        have cRw6 : w5.cell? ⟨w.heap.size + 1, 0, none⟩ = some vw6 := hWw6.cell 0
        have hXw6 := HX.out.below HBw5.out (by omega)
        have xFw6 : w5.cell? ⟨w.heap.size, 5, none⟩ = some (.bool true) := hXw6.cell 5
        have hRw6 : w.heap.size + 1 < w5.heap.size := by omega
        have hFw6 : w.heap.size < w5.heap.size := by omega
        have HWw6 := Lib.hid hWw6
        have HOw6 := Lib.hid hOw6
        have HBVw6 : Hid (Bs w5 (.slice A bytes.length c) bytes) := Lib.hid (HBV.out.keep (by omega) fun p hp => (HBw5.out.cell (show p.block < _ by omega)).trans (HB0.out.cell hp))
        clear hWw6 hOw6 hXw6
        gi_wp2
        refine wpIn_wide.2 (wp_calm ?_)
        refine wp_region_ext_load (v := vw6) 4 (by kernel_rfl) (by kernel_rfl) rfl rfl (.inl ⟨rfl, ?_⟩) (fun _ _ _ h => h) ?_
        · rintro _ ⟨x, rfl⟩
          have cx := (x.cell ⟨w.heap.size + 1, 0, none⟩ hRw6).trans cRw6
          go_simp
        simp only [List.take_succ_cons, List.take_zero, List.drop_succ_cons, List.drop_zero, Act.put, List.setIfInBounds_toArray, List.set_cons_succ, List.set_cons_zero]
        repeat (go_big_quiet_step (first | (go_at_call 137; exact Ext.callq (either_any _ _ _ _))))
        refine wpQuiet_nil ?_
        rintro _ ⟨zw6, rfl⟩
        go_wp2
        have hzb := zw6.below.size
        refine ⟨⟨⟨_, bel_alloc zw6.below _⟩, rfl⟩, ?_⟩
        have hown2 := own_below HOw6.out zw6.below
        go_wp2_with (at_builtin; refine wpList_push rfl _ _ 40 rfl (w.heap.size + 1) 9 info_str rfl (by decide) Tryz.underlying40 _ _ _ rfl hown2 rfl rfl (by simp) (by omega) ?_)
        intro v' ww6' hown3 hg
        rw [show Value.string { data := #[117, 112] } = Sv (wUp) from rfl] at hown3
        obtain ⟨g3, n3, k3, rfl, c3, f3, hL3, hB3, hK3⟩ := LinesIs.push' (l := wUp) HWw6.out HOw6.out zw6.below hown3 hg hBRw6 (by omega)
        obtain ⟨w6, hnw6⟩ : ∃ X, ww6'.setCell ⟨w.heap.size + 1, 0, none⟩ (.slice (some ⟨g3, 0, none⟩) n3 k3) = X := ⟨_, rfl⟩
        rw [hnw6] at hL3 hB3 hK3
        have HNw6 := Lib.hid hnw6
        have HLw6 := Lib.hid hL3
        have HBw6 : Hid (Below (w.heap.size + 1) W0 w6) := Lib.hid (HBw5.out.trans hB3)
        have HKDw6 : Hid (w6.heap[D]? = some (.deferred (some []))) := Lib.hid (hK3.same D _ HKDw5.out rfl)
        have hzw6 : W3.heap.size ≤ w6.heap.size := by have := hK3.size; omega
        clear hown2 hown3 hg hL3 hB3 hK3 hnw6
        go_wp2
        rw [HNw6.out]
        have HWL6 : Hid (∀ l ∈ [nameA (Int.toNat 6)] ++ [n].map itoa ++ [wUp], l.length ≤ 100) := Lib.hid (words_more HWL.out (by decide))
        obtain ⟨vJ, -, hWJ, hOJ⟩ := HLw6.out.is
        have cJ : w6.cell? ⟨w.heap.size + 1, 0, none⟩ = some vJ := hWJ.cell 0
        have hRJ : w.heap.size + 1 < w6.heap.size := by omega
        have HJ := Lib.hid (join_own (sep := [32]) w6 hOJ (by simp) (by simp) (by
          refine Nat.le_trans (join_len 32 100 _ ?_) (by simp)
          exact HWL6.out))
        clear hWJ hOJ
        gi_wp2
        refine ⟨trivial, (callsIn_wide.2 HJ.out).mono ?_⟩
        rintro e WE ⟨rfl, hbE⟩
        have hkE : WE.heap[D]? = some (.deferred (some [])) := (hbE.block D (Array.getElem?_eq_some_iff.1 HKDw6.out).1).trans HKDw6.out
        have HBE : Hid (Below w.heap.size w WE) := Lib.hid ((HB0.out.trans (HBw6.out.mono (by omega))).trans (hbE.mono (by omega)))
        clear hbE
        gi_wp2
        refine ⟨by simp, .inl ⟨_, _, rfl, run_takeDeferred hkE, ?_⟩⟩
        refine ⟨.string (str (actText ⟨6, node, port, cost, n, true, by_, unread, bytes⟩)), ?_, rfl, HBE.out.trans (belowK_b (w := w) (Nat.le_refl _) WE D _ _ (by omega) hkE rfl rfl)⟩
        simp [results, Tryz.results75, go_sem]
        rfl
    · have HIN : Hid (∀ y ∈ [node], In64 y) := Lib.hid (by
        intro y hy
        simp only [List.mem_cons, List.not_mem_nil, or_false] at hy
        rcases hy with rfl <;> first | exact HI.out.2.1 | exact HI.out.2.2.1 | exact HI.out.2.2.2.1 | exact HI.out.2.2.2.2 | exact in_byte _)
      have HWL : Hid (∀ l ∈ ([nameA (Int.toNat 7)] ++ [node].map itoa), l.length ≤ 100) := Lib.hid (words_len HIN.out)
      clear HR HW0 HB3 HS HR3 HW3 HX3 HXW hA hB hc
      gi_wp2
      refine ⟨trivial, (callsIn_wide.2 (put_any (w.heap.size + 1) (w.heap.size + 1) W.heap.size 1 [node] ([nameA (Int.toNat 7)]) _ (HLW.out.below ((Below.refl _ _).alloc (Nat.le_refl _) _)) (Whole.new W 3 #[.int .i64 node]) HIN.out (by simp) (by simp) (by simp) (EW.out.here ((Below.refl _ _).alloc (Nat.le_refl _) _)) (by omega) (by simp; omega))).mono ?_⟩
      rintro e w5 ⟨rfl, hLw5, hBw5, hOw5⟩
      have HLw5 := Lib.hid hLw5
      have HBw5 : Hid (Below (w.heap.size + 1) W0 w5) := Lib.hid ((HBW.out.alloc (by omega) _).trans hBw5)
      have HKDw5 : Hid (w5.heap[D]? = some (.deferred (some []))) := Lib.hid (hOw5.same D _ ((Below.heap_alloc W _ D (Array.getElem?_eq_some_iff.1 HKDW.out).1).trans HKDW.out) rfl)
      have hzw5 : W3.heap.size ≤ w5.heap.size := by have := hOw5.size; simp at this; omega
      have Ew5 := Lib.hid (E0.out.below (by omega) HBw5.out)
      clear hLw5 hBw5 hOw5
      obtain ⟨vJ, -, hWJ, hOJ⟩ := HLw5.out.is
      have cJ : w5.cell? ⟨w.heap.size + 1, 0, none⟩ = some vJ := hWJ.cell 0
      have hRJ : w.heap.size + 1 < w5.heap.size := by omega
      have HJ := Lib.hid (join_own (sep := [32]) w5 hOJ (by simp) (by simp) (by
        refine Nat.le_trans (join_len 32 100 _ ?_) (by simp)
        exact HWL.out))
      clear hWJ hOJ
      gi_wp2
      refine ⟨trivial, (callsIn_wide.2 HJ.out).mono ?_⟩
      rintro e WE ⟨rfl, hbE⟩
      have hkE : WE.heap[D]? = some (.deferred (some [])) := (hbE.block D (Array.getElem?_eq_some_iff.1 HKDw5.out).1).trans HKDw5.out
      have HBE : Hid (Below w.heap.size w WE) := Lib.hid ((HB0.out.trans (HBw5.out.mono (by omega))).trans (hbE.mono (by omega)))
      clear hbE
      gi_wp2
      refine ⟨by simp, .inl ⟨_, _, rfl, run_takeDeferred hkE, ?_⟩⟩
      refine ⟨.string (str (actText ⟨7, node, port, cost, n, up, by_, unread, bytes⟩)), ?_, rfl, HBE.out.trans (belowK_b (w := w) (Nat.le_refl _) WE D _ _ (by omega) hkE rfl rfl)⟩
      simp [results, Tryz.results75, go_sem]
      rfl
    · have HIN : Hid (∀ y ∈ [node, n, (by_.toNat : Int)], In64 y) := Lib.hid (by
        intro y hy
        simp only [List.mem_cons, List.not_mem_nil, or_false] at hy
        rcases hy with rfl | rfl | rfl <;> first | exact HI.out.2.1 | exact HI.out.2.2.1 | exact HI.out.2.2.2.1 | exact HI.out.2.2.2.2 | exact in_byte _)
      have HWL : Hid (∀ l ∈ ([nameA (Int.toNat 8)] ++ [node, n, (by_.toNat : Int)].map itoa), l.length ≤ 100) := Lib.hid (words_len HIN.out)
      clear HR HW0 HB3 HS HR3 HW3 HX3 HXW hA hB hc
      cases unread with
      | false =>
        gi_wp2
        refine ⟨trivial, (callsIn_wide.2 (put_any (w.heap.size + 1) (w.heap.size + 1) W.heap.size 3 [node, n, (by_.toNat : Int)] ([nameA (Int.toNat 8)]) _ (HLW.out.below ((Below.refl _ _).alloc (Nat.le_refl _) _)) (Whole.new W 3 #[.int .i64 node, .int .i64 n, .int .i64 (by_.toNat : Int)]) HIN.out (by simp) (by simp) (by simp) (EW.out.here ((Below.refl _ _).alloc (Nat.le_refl _) _)) (by omega) (by simp; omega))).mono ?_⟩
        rintro e w5 ⟨rfl, hLw5, hBw5, hOw5⟩
        have HLw5 := Lib.hid hLw5
        have HBw5 : Hid (Below (w.heap.size + 1) W0 w5) := Lib.hid ((HBW.out.alloc (by omega) _).trans hBw5)
        have HKDw5 : Hid (w5.heap[D]? = some (.deferred (some []))) := Lib.hid (hOw5.same D _ ((Below.heap_alloc W _ D (Array.getElem?_eq_some_iff.1 HKDW.out).1).trans HKDW.out) rfl)
        have hzw5 : W3.heap.size ≤ w5.heap.size := by have := hOw5.size; simp at this; omega
        have Ew5 := Lib.hid (E0.out.below (by omega) HBw5.out)
        clear hLw5 hBw5 hOw5
        obtain ⟨vw6, hBRw6, hWw6, hOw6⟩ := HLw5.out.is
        have cRw6 : w5.cell? ⟨w.heap.size + 1, 0, none⟩ = some vw6 := hWw6.cell 0
        have hXw6 := HX.out.below HBw5.out (by omega)
        have xFw6 : w5.cell? ⟨w.heap.size, 7, none⟩ = some (.bool false) := hXw6.cell 7
        have hRw6 : w.heap.size + 1 < w5.heap.size := by omega
        have hFw6 : w.heap.size < w5.heap.size := by omega
        have HWw6 := Lib.hid hWw6
        have HOw6 := Lib.hid hOw6
        have HBVw6 : Hid (Bs w5 (.slice A bytes.length c) bytes) := Lib.hid (HBV.out.keep (by omega) fun p hp => (HBw5.out.cell (show p.block < _ by omega)).trans (HB0.out.cell hp))
        clear hWw6 hOw6 hXw6
        gi_wp2
        refine wpIn_wide.2 (wp_calm ?_)
        refine wp_region_ext_load (v := vw6) 4 (by kernel_rfl) (by kernel_rfl) rfl rfl (.inl ⟨rfl, ?_⟩) (fun _ _ _ h => h) ?_
        · rintro _ ⟨x, rfl⟩
          have cx := (x.cell ⟨w.heap.size + 1, 0, none⟩ hRw6).trans cRw6
          go_simp
        simp only [List.take_succ_cons, List.take_zero, List.drop_succ_cons, List.drop_zero, Act.put, List.setIfInBounds_toArray, List.set_cons_succ, List.set_cons_zero]
        repeat (go_big_quiet_step (first | (go_at_call 137; exact Ext.callq (either_any _ _ _ _))))
        refine wpQuiet_nil ?_
        rintro _ ⟨zw6, rfl⟩
        go_wp2
        have hzb := zw6.below.size
        refine ⟨⟨⟨_, bel_alloc zw6.below _⟩, rfl⟩, ?_⟩
        have hown2 := own_below HOw6.out zw6.below
        go_wp2_with (at_builtin; refine wpList_push rfl _ _ 40 rfl (w.heap.size + 1) 9 info_str rfl (by decide) Tryz.underlying40 _ _ _ rfl hown2 rfl rfl (by simp) (by omega) ?_)
        intro v' ww6' hown3 hg
        rw [show Value.string { data := #[114, 101, 97, 100] } = Sv (wRead) from rfl] at hown3
        obtain ⟨g3, n3, k3, rfl, c3, f3, hL3, hB3, hK3⟩ := LinesIs.push' (l := wRead) HWw6.out HOw6.out zw6.below hown3 hg hBRw6 (by omega)
        obtain ⟨w6, hnw6⟩ : ∃ X, ww6'.setCell ⟨w.heap.size + 1, 0, none⟩ (.slice (some ⟨g3, 0, none⟩) n3 k3) = X := ⟨_, rfl⟩
        rw [hnw6] at hL3 hB3 hK3
        have HNw6 := Lib.hid hnw6
        have HLw6 := Lib.hid hL3
        have HBw6 : Hid (Below (w.heap.size + 1) W0 w6) := Lib.hid (HBw5.out.trans hB3)
        have HKDw6 : Hid (w6.heap[D]? = some (.deferred (some []))) := Lib.hid (hK3.same D _ HKDw5.out rfl)
        have hzw6 : W3.heap.size ≤ w6.heap.size := by have := hK3.size; omega
        clear hown2 hown3 hg hL3 hB3 hK3 hnw6
        go_wp2
        rw [HNw6.out]
        have HWL6 : Hid (∀ l ∈ [nameA (Int.toNat 8)] ++ [node, n, (by_.toNat : Int)].map itoa ++ [wRead], l.length ≤ 100) := Lib.hid (words_more HWL.out (by decide))
        obtain ⟨vJ, -, hWJ, hOJ⟩ := HLw6.out.is
        have cJ : w6.cell? ⟨w.heap.size + 1, 0, none⟩ = some vJ := hWJ.cell 0
        have hRJ : w.heap.size + 1 < w6.heap.size := by omega
        have HJ := Lib.hid (join_own (sep := [32]) w6 hOJ (by simp) (by simp) (by
          refine Nat.le_trans (join_len 32 100 _ ?_) (by simp)
          exact HWL6.out))
        clear hWJ hOJ
        gi_wp2
        refine ⟨trivial, (callsIn_wide.2 HJ.out).mono ?_⟩
        rintro e WE ⟨rfl, hbE⟩
        have hkE : WE.heap[D]? = some (.deferred (some [])) := (hbE.block D (Array.getElem?_eq_some_iff.1 HKDw6.out).1).trans HKDw6.out
        have HBE : Hid (Below w.heap.size w WE) := Lib.hid ((HB0.out.trans (HBw6.out.mono (by omega))).trans (hbE.mono (by omega)))
        clear hbE
        gi_wp2
        refine ⟨by simp, .inl ⟨_, _, rfl, run_takeDeferred hkE, ?_⟩⟩
        refine ⟨.string (str (actText ⟨8, node, port, cost, n, up, by_, false, bytes⟩)), ?_, rfl, HBE.out.trans (belowK_b (w := w) (Nat.le_refl _) WE D _ _ (by omega) hkE rfl rfl)⟩
        simp [results, Tryz.results75, go_sem]
        rfl
      | true =>
        gi_wp2
        refine ⟨trivial, (callsIn_wide.2 (put_any (w.heap.size + 1) (w.heap.size + 1) W.heap.size 3 [node, n, (by_.toNat : Int)] ([nameA (Int.toNat 8)]) _ (HLW.out.below ((Below.refl _ _).alloc (Nat.le_refl _) _)) (Whole.new W 3 #[.int .i64 node, .int .i64 n, .int .i64 (by_.toNat : Int)]) HIN.out (by simp) (by simp) (by simp) (EW.out.here ((Below.refl _ _).alloc (Nat.le_refl _) _)) (by omega) (by simp; omega))).mono ?_⟩
        rintro e w5 ⟨rfl, hLw5, hBw5, hOw5⟩
        have HLw5 := Lib.hid hLw5
        have HBw5 : Hid (Below (w.heap.size + 1) W0 w5) := Lib.hid ((HBW.out.alloc (by omega) _).trans hBw5)
        have HKDw5 : Hid (w5.heap[D]? = some (.deferred (some []))) := Lib.hid (hOw5.same D _ ((Below.heap_alloc W _ D (Array.getElem?_eq_some_iff.1 HKDW.out).1).trans HKDW.out) rfl)
        have hzw5 : W3.heap.size ≤ w5.heap.size := by have := hOw5.size; simp at this; omega
        have Ew5 := Lib.hid (E0.out.below (by omega) HBw5.out)
        clear hLw5 hBw5 hOw5
        obtain ⟨vw6, hBRw6, hWw6, hOw6⟩ := HLw5.out.is
        have cRw6 : w5.cell? ⟨w.heap.size + 1, 0, none⟩ = some vw6 := hWw6.cell 0
        have hXw6 := HX.out.below HBw5.out (by omega)
        have xFw6 : w5.cell? ⟨w.heap.size, 7, none⟩ = some (.bool true) := hXw6.cell 7
        have hRw6 : w.heap.size + 1 < w5.heap.size := by omega
        have hFw6 : w.heap.size < w5.heap.size := by omega
        have HWw6 := Lib.hid hWw6
        have HOw6 := Lib.hid hOw6
        have HBVw6 : Hid (Bs w5 (.slice A bytes.length c) bytes) := Lib.hid (HBV.out.keep (by omega) fun p hp => (HBw5.out.cell (show p.block < _ by omega)).trans (HB0.out.cell hp))
        clear hWw6 hOw6 hXw6
        gi_wp2
        refine wpIn_wide.2 (wp_calm ?_)
        refine wp_region_ext_load (v := vw6) 4 (by kernel_rfl) (by kernel_rfl) rfl rfl (.inl ⟨rfl, ?_⟩) (fun _ _ _ h => h) ?_
        · rintro _ ⟨x, rfl⟩
          have cx := (x.cell ⟨w.heap.size + 1, 0, none⟩ hRw6).trans cRw6
          go_simp
        simp only [List.take_succ_cons, List.take_zero, List.drop_succ_cons, List.drop_zero, Act.put, List.setIfInBounds_toArray, List.set_cons_succ, List.set_cons_zero]
        repeat (go_big_quiet_step (first | (go_at_call 137; exact Ext.callq (either_any _ _ _ _))))
        refine wpQuiet_nil ?_
        rintro _ ⟨zw6, rfl⟩
        go_wp2
        have hzb := zw6.below.size
        refine ⟨⟨⟨_, bel_alloc zw6.below _⟩, rfl⟩, ?_⟩
        have hown2 := own_below HOw6.out zw6.below
        go_wp2_with (at_builtin; refine wpList_push rfl _ _ 40 rfl (w.heap.size + 1) 9 info_str rfl (by decide) Tryz.underlying40 _ _ _ rfl hown2 rfl rfl (by simp) (by omega) ?_)
        intro v' ww6' hown3 hg
        rw [show Value.string { data := #[117, 110, 114, 101, 97, 100] } = Sv (wUnread) from rfl] at hown3
        obtain ⟨g3, n3, k3, rfl, c3, f3, hL3, hB3, hK3⟩ := LinesIs.push' (l := wUnread) HWw6.out HOw6.out zw6.below hown3 hg hBRw6 (by omega)
        obtain ⟨w6, hnw6⟩ : ∃ X, ww6'.setCell ⟨w.heap.size + 1, 0, none⟩ (.slice (some ⟨g3, 0, none⟩) n3 k3) = X := ⟨_, rfl⟩
        rw [hnw6] at hL3 hB3 hK3
        have HNw6 := Lib.hid hnw6
        have HLw6 := Lib.hid hL3
        have HBw6 : Hid (Below (w.heap.size + 1) W0 w6) := Lib.hid (HBw5.out.trans hB3)
        have HKDw6 : Hid (w6.heap[D]? = some (.deferred (some []))) := Lib.hid (hK3.same D _ HKDw5.out rfl)
        have hzw6 : W3.heap.size ≤ w6.heap.size := by have := hK3.size; omega
        clear hown2 hown3 hg hL3 hB3 hK3 hnw6
        go_wp2
        rw [HNw6.out]
        have HWL6 : Hid (∀ l ∈ [nameA (Int.toNat 8)] ++ [node, n, (by_.toNat : Int)].map itoa ++ [wUnread], l.length ≤ 100) := Lib.hid (words_more HWL.out (by decide))
        obtain ⟨vJ, -, hWJ, hOJ⟩ := HLw6.out.is
        have cJ : w6.cell? ⟨w.heap.size + 1, 0, none⟩ = some vJ := hWJ.cell 0
        have hRJ : w.heap.size + 1 < w6.heap.size := by omega
        have HJ := Lib.hid (join_own (sep := [32]) w6 hOJ (by simp) (by simp) (by
          refine Nat.le_trans (join_len 32 100 _ ?_) (by simp)
          exact HWL6.out))
        clear hWJ hOJ
        gi_wp2
        refine ⟨trivial, (callsIn_wide.2 HJ.out).mono ?_⟩
        rintro e WE ⟨rfl, hbE⟩
        have hkE : WE.heap[D]? = some (.deferred (some [])) := (hbE.block D (Array.getElem?_eq_some_iff.1 HKDw6.out).1).trans HKDw6.out
        have HBE : Hid (Below w.heap.size w WE) := Lib.hid ((HB0.out.trans (HBw6.out.mono (by omega))).trans (hbE.mono (by omega)))
        clear hbE
        gi_wp2
        refine ⟨by simp, .inl ⟨_, _, rfl, run_takeDeferred hkE, ?_⟩⟩
        refine ⟨.string (str (actText ⟨8, node, port, cost, n, up, by_, true, bytes⟩)), ?_, rfl, HBE.out.trans (belowK_b (w := w) (Nat.le_refl _) WE D _ _ (by omega) hkE rfl rfl)⟩
        simp [results, Tryz.results75, go_sem]
        rfl
    · have HIN : Hid (∀ y ∈ [node], In64 y) := Lib.hid (by
        intro y hy
        simp only [List.mem_cons, List.not_mem_nil, or_false] at hy
        rcases hy with rfl <;> first | exact HI.out.2.1 | exact HI.out.2.2.1 | exact HI.out.2.2.2.1 | exact HI.out.2.2.2.2 | exact in_byte _)
      have HWL : Hid (∀ l ∈ ([nameA (Int.toNat 9)] ++ [node].map itoa), l.length ≤ 100) := Lib.hid (words_len HIN.out)
      clear HR HW0 HB3 HS HR3 HW3 HX3 HXW hA hB hc
      gi_wp2
      refine ⟨trivial, (callsIn_wide.2 (put_any (w.heap.size + 1) (w.heap.size + 1) W.heap.size 1 [node] ([nameA (Int.toNat 9)]) _ (HLW.out.below ((Below.refl _ _).alloc (Nat.le_refl _) _)) (Whole.new W 3 #[.int .i64 node]) HIN.out (by simp) (by simp) (by simp) (EW.out.here ((Below.refl _ _).alloc (Nat.le_refl _) _)) (by omega) (by simp; omega))).mono ?_⟩
      rintro e w5 ⟨rfl, hLw5, hBw5, hOw5⟩
      have HLw5 := Lib.hid hLw5
      have HBw5 : Hid (Below (w.heap.size + 1) W0 w5) := Lib.hid ((HBW.out.alloc (by omega) _).trans hBw5)
      have HKDw5 : Hid (w5.heap[D]? = some (.deferred (some []))) := Lib.hid (hOw5.same D _ ((Below.heap_alloc W _ D (Array.getElem?_eq_some_iff.1 HKDW.out).1).trans HKDW.out) rfl)
      have hzw5 : W3.heap.size ≤ w5.heap.size := by have := hOw5.size; simp at this; omega
      have Ew5 := Lib.hid (E0.out.below (by omega) HBw5.out)
      clear hLw5 hBw5 hOw5
      obtain ⟨vw6, hBRw6, hWw6, hOw6⟩ := HLw5.out.is
      have cRw6 : w5.cell? ⟨w.heap.size + 1, 0, none⟩ = some vw6 := hWw6.cell 0
      have hXw6 := HX.out.below HBw5.out (by omega)
      have xFw6 : w5.cell? ⟨w.heap.size, 8, none⟩ = some (.slice A bytes.length c) := hXw6.cell 8
      have hRw6 : w.heap.size + 1 < w5.heap.size := by omega
      have hFw6 : w.heap.size < w5.heap.size := by omega
      have HWw6 := Lib.hid hWw6
      have HOw6 := Lib.hid hOw6
      have HBVw6 : Hid (Bs w5 (.slice A bytes.length c) bytes) := Lib.hid (HBV.out.keep (by omega) fun p hp => (HBw5.out.cell (show p.block < _ by omega)).trans (HB0.out.cell hp))
      clear hWw6 hOw6 hXw6
      gi_wp2
      refine wpIn_wide.2 (wp_calm ?_)
      refine wp_region_ext_load (v := vw6) 4 (by kernel_rfl) (by kernel_rfl) rfl rfl (.inl ⟨rfl, ?_⟩) (fun _ _ _ h => h) ?_
      · rintro _ ⟨x, rfl⟩
        have cx := (x.cell ⟨w.heap.size + 1, 0, none⟩ hRw6).trans cRw6
        go_simp
      simp only [List.take_succ_cons, List.take_zero, List.drop_succ_cons, List.drop_zero, Act.put, List.setIfInBounds_toArray, List.set_cons_succ, List.set_cons_zero]
      repeat (go_big_quiet_step (first | (go_at_call 138; exact Ext.call (chex_any _ bytes _ (HBVw6.out.ext _) (by omega)))))
      refine wpQuiet_nil ?_
      rintro _ ⟨zw6, rfl⟩
      go_wp2
      have hzb := zw6.below.size
      refine ⟨⟨⟨_, bel_alloc zw6.below _⟩, rfl⟩, ?_⟩
      have hown2 := own_below HOw6.out zw6.below
      go_wp2_with (at_builtin; refine wpList_push rfl _ _ 40 rfl (w.heap.size + 1) 9 info_str rfl (by decide) Tryz.underlying40 _ _ _ rfl hown2 rfl rfl (by simp) (by omega) ?_)
      intro v' ww6' hown3 hg
      rw [show Value.string (str (hexD bytes)) = Sv (hexD bytes) from rfl] at hown3
      obtain ⟨g3, n3, k3, rfl, c3, f3, hL3, hB3, hK3⟩ := LinesIs.push' (l := hexD bytes) HWw6.out HOw6.out zw6.below hown3 hg hBRw6 (by omega)
      obtain ⟨w6, hnw6⟩ : ∃ X, ww6'.setCell ⟨w.heap.size + 1, 0, none⟩ (.slice (some ⟨g3, 0, none⟩) n3 k3) = X := ⟨_, rfl⟩
      rw [hnw6] at hL3 hB3 hK3
      have HNw6 := Lib.hid hnw6
      have HLw6 := Lib.hid hL3
      have HBw6 : Hid (Below (w.heap.size + 1) W0 w6) := Lib.hid (HBw5.out.trans hB3)
      have HKDw6 : Hid (w6.heap[D]? = some (.deferred (some []))) := Lib.hid (hK3.same D _ HKDw5.out rfl)
      have hzw6 : W3.heap.size ≤ w6.heap.size := by have := hK3.size; omega
      clear hown2 hown3 hg hL3 hB3 hK3 hnw6
      go_wp2
      rw [HNw6.out]
      have HWL6 : Hid (∀ l ∈ [nameA (Int.toNat 9)] ++ [node].map itoa ++ [hexD bytes], l.length ≤ 200001) := Lib.hid (words_more (fun l hl => Nat.le_trans (HWL.out l hl) (by omega)) (by have := hexD_len bytes; omega))
      obtain ⟨vJ, -, hWJ, hOJ⟩ := HLw6.out.is
      have cJ : w6.cell? ⟨w.heap.size + 1, 0, none⟩ = some vJ := hWJ.cell 0
      have hRJ : w.heap.size + 1 < w6.heap.size := by omega
      have HJ := Lib.hid (join_own (sep := [32]) w6 hOJ (by simp) (by simp) (by
        refine Nat.le_trans (join_len 32 200001 _ ?_) (by simp)
        exact HWL6.out))
      clear hWJ hOJ
      gi_wp2
      refine ⟨trivial, (callsIn_wide.2 HJ.out).mono ?_⟩
      rintro e WE ⟨rfl, hbE⟩
      have hkE : WE.heap[D]? = some (.deferred (some [])) := (hbE.block D (Array.getElem?_eq_some_iff.1 HKDw6.out).1).trans HKDw6.out
      have HBE : Hid (Below w.heap.size w WE) := Lib.hid ((HB0.out.trans (HBw6.out.mono (by omega))).trans (hbE.mono (by omega)))
      clear hbE
      gi_wp2
      refine ⟨by simp, .inl ⟨_, _, rfl, run_takeDeferred hkE, ?_⟩⟩
      refine ⟨.string (str (actText ⟨9, node, port, cost, n, up, by_, unread, bytes⟩)), ?_, rfl, HBE.out.trans (belowK_b (w := w) (Nat.le_refl _) WE D _ _ (by omega) hkE rfl rfl)⟩
      simp [results, Tryz.results75, go_sem]
      rfl
  case stop =>
    rintro D c pre W _ _ h _
    exact h.elim
end Go.Proofs.YtfbangojgjcbcaaGreatDoor
namespace Go.Proofs.YtfbangojgjcbcaaGreatDoor
open Go.RowKit Pl Go.Shelf
/-- A text's lines, each with its end. -/
def afterL (l : List UInt8) : List (List UInt8) := Lib.splitK [10] 1 (l.count 10) l
set_option maxRecDepth 100000 in
set_option maxHeartbeats 1000000 in
theorem splitAfter_any (l : List UInt8) (w : World) (hl : l.length ≤ 1000000000) (E : Env w) :
    Calls Tryz.prog 88 #[.string (str l), .string ⟨#[10]⟩] w fun e w' => (∃ v, e = .returned v ∧ Parts w' v (afterL l)) ∧ Below w.heap.size w w' := by
  obtain ⟨m, hm⟩ := E.maxlen
  have hc : Lib.countB (str l) (str [10]) = l.count 10 := by show Lib.count _ _ = _; rw [str_data, str_data, Lib.count_one]
  have hle := Lib.countB_le (str [10]) (by rw [str_size]; simp) _ (str l) (Nat.le_refl _)
  have hlen := Lib.splitB_all (str [10]) (by rw [str_size]; simp) 1 _ (str l) rfl
  have hd := Lib.splitB_data (str [10]) 1 (l.count 10) (str l)
  rw [str_data, str_data] at hd
  have hsp : Lib.splitB (str [10]) 1 (Lib.countB (str l) (str [10])) (str l) = (afterL l).map str := by
    rw [hc]
    unfold afterL
    rw [← hd, List.map_map]
    have : (str ∘ fun x : ByteArray => x.data.toList) = id := by funext x; simp [str]
    rw [this, List.map_id]
  have HG := Lib.hid (Tryz.strings_genSplit (str l) (str [10]) 1 (-1) (Lib.countB (str l) (str [10]) + 1) m w (by rw [str_size]; omega) hm (by rw [str_size]; simp) (by rw [str_size]; simp) (by decide) (by decide) (by simp; omega))
  have hal : (afterL l).length = Lib.countB (str l) (str [10]) + 1 := by rw [← hlen, hsp, List.length_map]
  have HL := Lib.hid hlen
  have HS := Lib.hid hsp
  have HA := Lib.hid hal
  clear hm hc hle hlen hd hsp hal
  go_enter Tryz.func88, Tryz.ntmps88
  go_wp2_with fail
  refine HG.out.mono ?_
  rintro e w' ⟨rfl, rfl⟩
  go_wp2
  go_ret
  rw [HS.out]
  refine ⟨⟨_, rfl, w.heap.size, ?_, by simp, fun j x hx => ?_⟩, (Below.refl _ _).alloc (Nat.le_refl _) _⟩
  · rw [List.length_map, HA.out]; rfl
  · have : (Lib.cellsOf ((afterL l).map str) (Lib.countB (str l) (str [10]) + 1)) = (((afterL l).map str).map Value.string).toArray := by
      have := Lib.cellsOf_full ((afterL l).map str)
      rw [List.length_map, HA.out] at this
      exact this
    rw [this]
    have hj := (List.getElem?_eq_some_iff.1 hx).1
    have := (Whole.new w 9 (((afterL l).map str).map Value.string).toArray).cell j
    rw [this]
    simp [hx]
theorem cline_none (b : Nat) (s : ByteArray) (w : World) (hb : Whole w b 146 #[.slice none 0 0, .slice none 0 0, .slice none 0 0, .bool false]) :
    Calls Tryz.prog 91 #[.pointer (some ⟨b, 0, none⟩), .string s] w fun e w' => e = .returned (.bool false) ∧ w = w' := by
  have r0 := hb.cell 0
  have r1 := hb.cell 1
  have r2 := hb.cell 2
  have r3 := hb.cell 3
  simp only [List.getElem?_toArray, List.getElem?_cons_succ, List.getElem?_cons_zero] at r0 r1 r2 r3
  have hlt := hb.lt
  clear hb
  go_enter Tryz.func91, Tryz.ntmps91
  go_wp2
  go_ret
  exact ⟨rfl, rfl⟩
theorem cutS_run (w : World) : Calls Tryz.prog 89 #[.string (str [114, 117, 110, 10]), .string ⟨#[10]⟩] w fun e w' => e = .returned (.tuple #[.string ⟨#[114, 117, 110]⟩, .bool true]) ∧ w = w' := by
  refine (Tryz.strings_CutSuffix (str [114, 117, 110, 10]) ⟨#[10]⟩ w (by decide)).mono ?_
  rintro e w' ⟨rfl, rfl⟩
  exact ⟨rfl, rfl⟩
theorem cutW_run (w : World) (E : Env w) : Calls Tryz.prog 52 #[.string ⟨#[114, 117, 110]⟩, .string ⟨#[32]⟩] w fun e w' => (∃ f, e = .returned (.tuple #[.string ⟨#[114, 117, 110]⟩, .string ⟨#[]⟩, .bool f])) ∧ Below w.heap.size w w' := by
  have := cut_any 32 [114, 117, 110] w (by decide) E
  rw [show cutA 32 [114, 117, 110] = [114, 117, 110] by decide +kernel, show cutB 32 [114, 117, 110] = [] by decide +kernel] at this
  exact this
set_option maxRecDepth 100000 in
set_option maxHeartbeats 1000000 in
theorem sparse_empty (w : World) (E : Env w) :
    Calls Tryz.prog 43 #[.string ⟨#[]⟩] w fun e w' => e = .returned (.tuple #[.agg #[.slice none 0 0, .slice none 0 0, .slice none 0 0], .int .i64 0, .int .i64 4]) ∧ Below w.heap.size w w' := by
  obtain ⟨W0, hW0⟩ : ∃ W0, (w.alloc (.cells #[.slice none 0 0, .slice none 0 0, .slice none 0 0] 76)).alloc (.cells #[.slice none 0 0, .slice none 0 0, .slice none 0 0, .bool false] 146) = W0 := ⟨_, rfl⟩
  have HB0 : Hid (Below w.heap.size w W0) := Lib.hid (by rw [← hW0]; exact ((Below.refl _ _).alloc (Nat.le_refl _) _).alloc (by simp) _)
  have HX0 : Hid (Whole W0 w.heap.size 76 #[.slice none 0 0, .slice none 0 0, .slice none 0 0]) := Lib.hid (by rw [← hW0]; exact (Whole.new w _ _).alloc _)
  have HR0 : Hid (Whole W0 (w.heap.size + 1) 146 #[.slice none 0 0, .slice none 0 0, .slice none 0 0, .bool false]) := Lib.hid (by
    rw [← hW0]
    have := Whole.new (w.alloc (.cells #[.slice none 0 0, .slice none 0 0, .slice none 0 0] 76)) 146 #[.slice none 0 0, .slice none 0 0, .slice none 0 0, .bool false]
    simpa using this)
  have HW0 := Lib.hid hW0
  have E0 := Lib.hid (E.here HB0.out)
  have HS := Lib.hid (splitAfter_any [] W0 (by decide) E0.out)
  have hal : afterL [] = [[]] := by decide +kernel
  rw [hal] at HS
  clear hW0 E hal
  go_enter Tryz.func43, Tryz.ntmps43
  go_wp2
  go_step3
  go_wp2_with fail
  rw [HW0.out]
  refine HS.out.mono ?_
  rintro e w1 ⟨⟨v, rfl, g, rfl, hg, hc⟩, hb1⟩
  have HB1 := Lib.hid (HB0.out.trans (hb1.mono HB0.out.size))
  have E1 := Lib.hid (E0.out.here hb1)
  have HX1 := Lib.hid (HX0.out.here hb1)
  have HR1 := Lib.hid (HR0.out.here hb1)
  have c0 : w1.cell? ⟨g, 0, none⟩ = some (.string (str [])) := hc 0 [] rfl
  have z0 : w1.cell? ⟨w.heap.size, 0, none⟩ = some (.slice none 0 0) := HX1.out.cell 0
  have z1 : w1.cell? ⟨w.heap.size, 1, none⟩ = some (.slice none 0 0) := HX1.out.cell 1
  have z2 : w1.cell? ⟨w.heap.size, 2, none⟩ = some (.slice none 0 0) := HX1.out.cell 2
  have f0 : w1.frozen? ⟨w.heap.size, 0, none⟩ = false := HX1.out.frozen 0
  have f1 : w1.frozen? ⟨w.heap.size, 1, none⟩ = false := HX1.out.frozen 1
  have f2 : w1.frozen? ⟨w.heap.size, 2, none⟩ = false := HX1.out.frozen 2
  have r3 : w1.cell? ⟨w.heap.size + 1, 3, none⟩ = some (.bool false) := HR1.out.cell 3
  have hlt := HX1.out.lt
  have hlt2 := HR1.out.lt
  have hstr : (str []).size = 0 := rfl
  clear hb1 hc
  go_wp2
  go_step3
  go_wp2
  go_loopw [7, 8] (fun i g wr => i = .int .i64 0 ∧ g = .bool true ∧ wr = w1) (fun _ _ _ => 0)
  case atStart => exact ⟨rfl, rfl, rfl⟩
  case round =>
    obtain ⟨rfl, rfl, rfl⟩ := hrel
    go_wp2
    try rw [Exit.noGoto_ret]
    exact bodyPost_ret (v := .tuple #[.agg #[.slice none 0 0, .slice none 0 0, .slice none 0 0], .int .i64 0, .int .i64 4]) (by simp [results, Tryz.results43, go_sem, z0, z1, z2]) rfl ⟨rfl, ((HB1.out.setCell (p := ⟨w.heap.size, 0, none⟩) (Nat.le_refl _) _).setCell (p := ⟨w.heap.size, 1, none⟩) (Nat.le_refl _) _).setCell (p := ⟨w.heap.size, 2, none⟩) (Nat.le_refl _) _⟩
set_option maxRecDepth 100000 in
set_option maxHeartbeats 1000000 in
theorem sparse_run (w : World) (E : Env w) :
    Calls Tryz.prog 43 #[.string ⟨#[114, 117, 110, 10]⟩] w fun e w' => e = .returned (.tuple #[.agg #[.slice none 0 0, .slice none 0 0, .slice none 0 0], .int .i64 0, .int .i64 4]) ∧ Below w.heap.size w w' := by
  obtain ⟨W0, hW0⟩ : ∃ W0, (w.alloc (.cells #[.slice none 0 0, .slice none 0 0, .slice none 0 0] 76)).alloc (.cells #[.slice none 0 0, .slice none 0 0, .slice none 0 0, .bool false] 146) = W0 := ⟨_, rfl⟩
  have HB0 : Hid (Below w.heap.size w W0) := Lib.hid (by rw [← hW0]; exact ((Below.refl _ _).alloc (Nat.le_refl _) _).alloc (by simp) _)
  have HX0 : Hid (Whole W0 w.heap.size 76 #[.slice none 0 0, .slice none 0 0, .slice none 0 0]) := Lib.hid (by rw [← hW0]; exact (Whole.new w _ _).alloc _)
  have HR0 : Hid (Whole W0 (w.heap.size + 1) 146 #[.slice none 0 0, .slice none 0 0, .slice none 0 0, .bool false]) := Lib.hid (by
    rw [← hW0]
    have := Whole.new (w.alloc (.cells #[.slice none 0 0, .slice none 0 0, .slice none 0 0] 76)) 146 #[.slice none 0 0, .slice none 0 0, .slice none 0 0, .bool false]
    simpa using this)
  have HW0 := Lib.hid hW0
  have E0 := Lib.hid (E.here HB0.out)
  have HS := Lib.hid (splitAfter_any [114, 117, 110, 10] W0 (by decide) E0.out)
  have hal : afterL [114, 117, 110, 10] = [[114, 117, 110, 10], []] := by decide +kernel
  rw [hal] at HS
  clear hW0 E hal
  go_enter Tryz.func43, Tryz.ntmps43
  go_wp2
  go_step3
  go_wp2_with fail
  rw [HW0.out]
  refine HS.out.mono ?_
  rintro e w1 ⟨⟨v, rfl, g, rfl, hg, hc⟩, hb1⟩
  have HB1 := Lib.hid (HB0.out.trans (hb1.mono HB0.out.size))
  have E1 := Lib.hid (E0.out.here hb1)
  have HX1 := Lib.hid (HX0.out.here hb1)
  have HR1 := Lib.hid (HR0.out.here hb1)
  have c0 : w1.cell? ⟨g, 0, none⟩ = some (.string (str [114, 117, 110, 10])) := hc 0 _ rfl
  have c1 : w1.cell? ⟨g, 1, none⟩ = some (.string (str [])) := hc 1 _ rfl
  have z0 : w1.cell? ⟨w.heap.size, 0, none⟩ = some (.slice none 0 0) := HX1.out.cell 0
  have z1 : w1.cell? ⟨w.heap.size, 1, none⟩ = some (.slice none 0 0) := HX1.out.cell 1
  have z2 : w1.cell? ⟨w.heap.size, 2, none⟩ = some (.slice none 0 0) := HX1.out.cell 2
  have f0 : w1.frozen? ⟨w.heap.size, 0, none⟩ = false := HX1.out.frozen 0
  have f1 : w1.frozen? ⟨w.heap.size, 1, none⟩ = false := HX1.out.frozen 1
  have f2 : w1.frozen? ⟨w.heap.size, 2, none⟩ = false := HX1.out.frozen 2
  have r3 : w1.cell? ⟨w.heap.size + 1, 3, none⟩ = some (.bool false) := HR1.out.cell 3
  have hlt := HX1.out.lt
  have hlt2 := HR1.out.lt
  have hstr : (str []).size = 0 := rfl
  clear hb1 hc
  go_wp2
  go_step3
  go_wp2
  go_loopw [7, 8] (fun i g wr => i = .int .i64 0 ∧ g = .bool true ∧ wr = w1) (fun _ _ _ => 0)
  case atStart => exact ⟨rfl, rfl, rfl⟩
  case round =>
    obtain ⟨rfl, rfl, rfl⟩ := hrel
    go_wp2_with fail
    refine (cutS_run _).mono ?_
    rintro e w2 ⟨rfl, rfl⟩
    go_wp2_with fail
    refine (cutW_run _ E1.out).mono ?_
    rintro e w2 ⟨⟨f, rfl⟩, hb2⟩
    have HB2 := Lib.hid (HB1.out.trans (hb2.mono HB1.out.size))
    have HX2 := Lib.hid (HX1.out.here hb2)
    have HR2 := Lib.hid (HR1.out.here hb2)
    clear hb2 z0 z1 z2 f0 f1 f2 r3 hlt hlt2 c0 c1
    have z0 : w2.cell? ⟨w.heap.size, 0, none⟩ = some (.slice none 0 0) := HX2.out.cell 0
    have f0 : w2.frozen? ⟨w.heap.size, 0, none⟩ = false := HX2.out.frozen 0
    have z1 : w2.cell? ⟨w.heap.size, 1, none⟩ = some (.slice none 0 0) := HX2.out.cell 1
    have f1 : w2.frozen? ⟨w.heap.size, 1, none⟩ = false := HX2.out.frozen 1
    have z2 : w2.cell? ⟨w.heap.size, 2, none⟩ = some (.slice none 0 0) := HX2.out.cell 2
    have f2 : w2.frozen? ⟨w.heap.size, 2, none⟩ = false := HX2.out.frozen 2
    have r3 : w2.cell? ⟨w.heap.size + 1, 3, none⟩ = some (.bool false) := HR2.out.cell 3
    have hlt := HX2.out.lt
    have hlt2 := HR2.out.lt
    go_wp2_with (go_at_call 91; refine (cline_none _ _ _ HR2.out).mono ?_; rintro e w3 ⟨rfl, rfl⟩)
    try rw [Exit.noGoto_ret]
    exact bodyPost_ret (v := .tuple #[.agg #[.slice none 0 0, .slice none 0 0, .slice none 0 0], .int .i64 0, .int .i64 4]) (by simp [results, Tryz.results43, go_sem, z0, z1, z2]) rfl ⟨rfl, ((HB2.out.setCell (p := ⟨w.heap.size, 0, none⟩) (Nat.le_refl _) _).setCell (p := ⟨w.heap.size, 1, none⟩) (Nat.le_refl _) _).setCell (p := ⟨w.heap.size, 2, none⟩) (Nat.le_refl _) _⟩
end Go.Proofs.YtfbangojgjcbcaaGreatDoor
namespace Go.Proofs.YtfbangojgjcbcaaGreatDoor.Pl
/-- The configurations behind those of pre. -/
def okC (pre : List Cfg) : List Cfg → Bool
  | [] => true
  | c :: r => (mayC c && !(pre.any fun x => x.node == c.node)) && okC (pre ++ [c]) r
def confsOk (cs : List Cfg) : Bool := decide (1 ≤ cs.length) && decide (cs.length ≤ 16) && okC [] cs
def findN (cs : List Cfg) (n : Int) : Option Cfg := cs.find? fun c => c.node == n
def hasPort (cs : List Cfg) (n p : Int) : Bool := match findN cs n with
  | some c => decide (0 ≤ p) && decide (p < c.ports.length)
  | none => false
abbrev endA (l : Lk) : Int × Int := (l.1, l.2.1)
abbrev endB (l : Lk) : Int × Int := (l.2.2.1, l.2.2.2)
def linkOk (cs : List Cfg) (used : List (Int × Int)) (l : Lk) : Bool :=
  !(l.1 == l.2.2.1) && hasPort cs l.1 l.2.1 && hasPort cs l.2.2.1 l.2.2.2 && !(used.contains (endA l)) && !(used.contains (endB l))
/-- The links, of which the ends in used are taken. -/
def okL (cs : List Cfg) (used : List (Int × Int)) : List Lk → Bool
  | [] => true
  | l :: r => linkOk cs used l && okL cs (endB l :: endA l :: used) r
def maySet (cs : List Cfg) (ls : List Lk) : Bool := confsOk cs && okL cs [] ls
theorem drop_at {α : Type} {cs : List α} {j : Nat} {c : α} (h : cs[j]? = some c) : cs.drop j = c :: cs.drop (j + 1) := by
  obtain ⟨hj, rfl⟩ := List.getElem?_eq_some_iff.1 h
  exact List.drop_eq_getElem_cons hj
theorem take_at {α : Type} {cs : List α} {j : Nat} {c : α} (h : cs[j]? = some c) : cs.take (j + 1) = cs.take j ++ [c] := by
  rw [List.take_add_one, h]; rfl
theorem okC_step {cs : List Cfg} {j : Nat} {c : Cfg} (h : cs[j]? = some c) : okC (cs.take j) (cs.drop j) = ((mayC c && !((cs.take j).any fun x => x.node == c.node)) && okC (cs.take (j + 1)) (cs.drop (j + 1))) := by
  rw [drop_at h, take_at h]
  rfl
/-- A setup's ends, of the links ahead. -/
def usedL (ls : List Lk) : List (Int × Int) := ls.foldl (fun u l => endB l :: endA l :: u) []
theorem usedL_step {ls : List Lk} {j : Nat} {l : Lk} (h : ls[j]? = some l) : usedL (ls.take (j + 1)) = endB l :: endA l :: usedL (ls.take j) := by
  rw [take_at h]
  unfold usedL
  rw [List.foldl_append]
  rfl
theorem okL_step {cs : List Cfg} {ls : List Lk} {j : Nat} {l : Lk} (h : ls[j]? = some l) : okL cs (usedL (ls.take j)) (ls.drop j) = (linkOk cs (usedL (ls.take j)) l && okL cs (usedL (ls.take (j + 1))) (ls.drop (j + 1))) := by
  rw [drop_at h, usedL_step h]
  rfl
theorem findN_snoc (cs : List Cfg) (c : Cfg) (n : Int) : findN (cs ++ [c]) n = (findN cs n).or (if c.node = n then some c else none) := by
  unfold findN
  rw [List.find?_append]
  congr 1
  by_cases h : c.node = n
  · simp [List.find?, h]
  · have h2 : (c.node == n) = false := by simpa using h
    simp [List.find?, h2, h]
theorem findN_none {cs : List Cfg} {n : Int} : findN cs n = none ↔ (cs.any fun x => x.node == n) = false := by
  unfold findN
  rw [List.find?_eq_none, List.any_eq_false]
theorem okC_may : ∀ (cs pre : List Cfg), okC pre cs = true → ∀ c ∈ cs, mayC c = true
  | [], _, _, c, h => by cases h
  | x :: r, pre, h, c, hc => by
    unfold okC at h
    simp only [Bool.and_eq_true] at h
    rcases List.mem_cons.1 hc with rfl | h'
    · exact h.1.1
    · exact okC_may r _ h.2 c h'
theorem maySet_confs {cs : List Cfg} {ls : List Lk} (h : maySet cs ls = true) : ∀ c ∈ cs, mayC c = true := by
  unfold maySet confsOk at h
  simp only [Bool.and_eq_true] at h
  exact okC_may cs [] h.1.2
theorem maySet_len {cs : List Cfg} {ls : List Lk} (h : maySet cs ls = true) : cs.length ≤ 16 := by
  unfold maySet confsOk at h
  simp only [Bool.and_eq_true, decide_eq_true_eq] at h
  exact h.1.1.2
end Go.Proofs.YtfbangojgjcbcaaGreatDoor.Pl
namespace Go.Proofs.YtfbangojgjcbcaaGreatDoor.Pl
abbrev Ln := List UInt8
/-- A text's lines, each with its end; the last is what is behind the last end. -/
def afterP : Ln → List Ln
  | [] => [[]]
  | x :: r => if x = 10 then [10] :: afterP r else consHd x (afterP r)
/-- A text's lines. -/
def linesT : Ln → List Ln
  | [] => []
  | x :: r => if x = 10 then [10] :: linesT r else consHd x (linesT r)
theorem after_eq : ∀ s : List UInt8, Lib.splitK [10] 1 (Lib.count s [10]) s = afterP s := by
  intro s
  induction s with
  | nil => rw [Lib.count_one]; rfl
  | cons x r ih =>
    by_cases h : x = 10
    · subst h
      rw [Lib.count_cons_eq, Nat.add_comm, Lib.splitK, index_cons]
      simp [afterP, ih]
    · rw [Lib.count_cons_ne x 10 r h]
      simp only [afterP, if_neg h]
      rw [← ih]
      cases hk : Lib.count r [10] with
      | zero => rfl
      | succ k =>
        have hge := Lib.index_ge r [10]
        rw [Lib.splitK, Lib.splitK, index_cons, if_neg h]
        by_cases hi : Lib.index r [10] = -1
        · simp [hi, consHd]
        · have hi' : (Lib.index r [10] == -1) = false := by simpa using hi
          have hn : (Lib.index r [10] + 1 == -1) = false := by simp; omega
          rw [hi']
          simp only [Bool.false_eq_true, if_false, hn, List.length_singleton]
          have e1 : (Lib.index r [10] + 1).toNat = (Lib.index r [10]).toNat + 1 := by omega
          rw [e1]
          simp [Nat.add_assoc, Nat.add_comm 1, consHd, List.take_succ_cons]
theorem after_lines : ∀ l : Ln, afterP l = linesT l ++ [[]] ∨ (afterP l = linesT l ∧ ∃ i z, linesT l = i ++ [z] ∧ z ≠ [])
  | [] => .inl rfl
  | x :: r => by
    have ih := after_lines r
    by_cases h : x = 10
    · simp only [afterP, linesT, if_pos h]
      rcases ih with e | ⟨e, i, z, e2, hz⟩
      · exact .inl (by rw [e]; rfl)
      · exact .inr ⟨by rw [e], [10] :: i, z, by rw [e2]; rfl, hz⟩
    · simp only [afterP, linesT, if_neg h]
      rcases ih with e | ⟨e, i, z, e2, hz⟩
      · rw [e]
        cases linesT r with
        | nil => exact .inr ⟨rfl, [], [x], rfl, by simp⟩
        | cons a t => exact .inl rfl
      · rw [e, e2]
        cases i with
        | nil => exact .inr ⟨rfl, [], x :: z, rfl, by simp⟩
        | cons a t => exact .inr ⟨rfl, (x :: a) :: t, z, rfl, hz⟩
theorem lines_flat : ∀ l : Ln, (linesT l).flatten = l
  | [] => rfl
  | x :: r => by
    have ih := lines_flat r
    by_cases h : x = 10
    · rw [linesT, if_pos h, List.flatten_cons, ih, h]; rfl
    · simp only [linesT, if_neg h]
      cases e : linesT r with
      | nil => rw [e] at ih; simp [consHd] at ih ⊢; exact ih
      | cons a t => rw [e] at ih; simp [consHd] at ih ⊢; exact ih
def ends (ls : List Ln) : List Ln := ls.map (· ++ [10])
/-- Has the line its end? What is ahead of it. -/
def whole (l : Ln) : Bool := l.getLast? == some 10
def body (l : Ln) : Ln := if whole l then l.dropLast else l
theorem whole_body {l : Ln} (h : whole l = true) : body l ++ [10] = l := by
  unfold body
  rw [if_pos h]
  unfold whole at h
  have h1 : l.getLast? = some 10 := by simpa using h
  obtain ⟨i, rfl⟩ := List.getLast?_eq_some_iff.1 h1
  simp
/-- A configuration's lines, of lines that begin with it. -/
def blockP : List Ln → List Ln
  | [] => []
  | l :: r => if cutA 32 l = wRefill then [l] else l :: blockP r
theorem block_take : ∀ L : List Ln, L.take (blockP L).length = blockP L
  | [] => rfl
  | l :: r => by
    unfold blockP
    split
    · simp
    · simp [block_take r]
theorem block_pos {l : Ln} {r : List Ln} : 1 ≤ (blockP (l :: r)).length := by
  unfold blockP
  split
  · simp
  · simp
theorem block_flat (L : List Ln) : (blockP L).flatten ++ (L.drop (blockP L).length).flatten = L.flatten := by
  rw [← List.flatten_append]
  congr 1
  have h := List.take_append_drop (blockP L).length L
  rw [block_take] at h
  exact h
/-- What is read so far. -/
structure St where
  cs : List Cfg := []
  ls : List Lk := []
  zs : List ActP := []
  run : Bool := false
def wRun : Ln := [114, 117, 110]
/-- A line that is no configuration's. -/
def lineS (st : St) (s : Ln) : Option St :=
  if st.run then (match actC s with
    | some a => if st.zs.length + 1 ≤ 65536 then some { st with zs := st.zs ++ [a] } else none
    | none => none)
  else if st.cs.isEmpty then none
  else if s = wRun then some { st with run := true }
  else match linkC s with
    | some l => if maySet st.cs (st.ls ++ [l]) then some { st with ls := st.ls ++ [l] } else none
    | none => none
/-- The first wrong line of lines that are, together, too long. -/
def firstLn (l : List Ln) : Nat → Nat
  | 0 => 0
  | n + 1 => if (parseC (l.take (n + 1)).flatten).2.2 = 3 then firstLn l n else (parseC (l.take (n + 1)).flatten).2.1
/-- A configuration that is to be taken: it, or none; how many lines. -/
def confS (st : St) (L : List Ln) : Option Cfg × Nat :=
  if (parseC (blockP L).flatten).2.2 = 3 then (none, firstLn (blockP L) (blockP L).length)
  else if (parseC (blockP L).flatten).2.2 = 0 then
    (if maySet (st.cs ++ [(parseC (blockP L).flatten).1]) st.ls && st.ls.isEmpty then (some (parseC (blockP L).flatten).1, (blockP L).length) else (none, 0))
  else (none, (parseC (blockP L).flatten).2.1)
/-- The lines; k of them are read already. -/
def goS : List Ln → Nat → St → Nat → Option St × Nat
  | [], _, st, n => (some st, n)
  | _ :: r, k + 1, st, n => goS r k st n
  | l :: r, 0, st, n =>
    if !st.run && decide (cutA 32 (body l) = wNode) then
      (match confS st (l :: r) with
      | (some c, k) => goS r (k - 1) { st with cs := st.cs ++ [c] } (n + k)
      | (none, k) => (none, n + k))
    else if whole l then (match lineS st (body l) with
      | some st' => goS r 0 st' (n + 1)
      | none => (none, n))
    else (none, n)
def parseS (text : Ln) : Option St × Nat × Int :=
  if 4194304 < text.length then (none, 0, 3) else
  match goS (linesT text) 0 {} 0 with
  | (some st, n) => if st.run then (some st, 0, 0) else (none, n, 4)
  | (none, n) => (none, n, 4)
theorem goS_drop : ∀ (L : List Ln) (k : Nat) (st : St) (n : Nat), goS L k st n = goS (L.drop k) 0 st n
  | [], 0, _, _ => rfl
  | [], _ + 1, _, _ => rfl
  | _ :: _, 0, _, _ => rfl
  | _ :: r, k + 1, st, n => by
    rw [goS, List.drop_succ_cons]
    exact goS_drop r k st n
/-- What is known of what is read. -/
structure SOk (st : St) : Prop where
  zs : st.run = false → st.zs = []
  none : st.cs = [] → st.ls = [] ∧ st.run = false
  may : st.cs ≠ [] → maySet st.cs st.ls = true
  acts : ∀ a ∈ st.zs, mayA a = true ∧ InA a
  na : st.zs.length ≤ 65536
  confs : ∀ c ∈ st.cs, Addrs4 c ∧ In64 c.node
  links : ∀ l ∈ st.ls, In4 l
theorem SOk.start : SOk {} := ⟨fun _ => rfl, fun _ => ⟨rfl, rfl⟩, fun h => absurd rfl h, by simp, by simp, by simp, by simp⟩
/-- What is read, as a text. -/
def partS (st : St) : Ln := st.cs.flatMap textP ++ st.ls.flatMap (fun l => linkText l ++ [10]) ++ (if st.run then [114, 117, 110, 10] ++ st.zs.flatMap (fun a => actText a ++ [10]) else [])
theorem node_in {c : Cfg} (h : mayC c = true) : In64 c.node := by
  have := (mayC_parts h).2.2.2.2.1
  unfold In64
  omega
theorem lineS_sound {st st' : St} {s : Ln} (h : lineS st s = some st') (hs : SOk st) : SOk st' ∧ partS st' = partS st ++ (s ++ [10]) := by
  unfold lineS at h
  split at h
  · rename_i hr
    cases ha : actC s with
    | none => rw [ha] at h; cases h
    | some a =>
      rw [ha] at h
      simp only at h
      split at h
      · rename_i hl
        injection h with h
        subst h
        obtain ⟨h1, h2, h3⟩ := actW_some (f := numC) numC_in ha
        refine ⟨⟨fun e => by simp [hr] at e, hs.none, hs.may, fun x hx => ?_, by simp; omega, hs.confs, hs.links⟩, ?_⟩
        · rcases List.mem_append.1 hx with hx | hx
          · exact hs.acts x hx
          · have : x = a := by simpa using hx
            subst this; exact ⟨h1, h3⟩
        · unfold partS
          simp [hr, h2]
      · cases h
  · rename_i hr
    have hr' : st.run = false := by simpa using hr
    split at h
    · cases h
    · rename_i hc
      have hc' : st.cs ≠ [] := by simpa using hc
      split at h
      · rename_i hw
        injection h with h
        subst h
        refine ⟨⟨fun e => by simp at e, fun e => absurd e hc', hs.may, hs.acts, hs.na, hs.confs, hs.links⟩, ?_⟩
        unfold partS
        simp [hr', hs.zs hr', hw, wRun]
      · cases hl : linkC s with
        | none => rw [hl] at h; cases h
        | some l =>
          rw [hl] at h
          simp only at h
          split at h
          · rename_i hm
            injection h with h
            subst h
            obtain ⟨h1, h2⟩ := linkW_some (f := numC) numC_in hl
            refine ⟨⟨hs.zs, fun e => absurd e hc', fun _ => hm, hs.acts, hs.na, hs.confs, fun x hx => ?_⟩, ?_⟩
            · rcases List.mem_append.1 hx with hx | hx
              · exact hs.links x hx
              · have : x = l := by simpa using hx
                subst this; exact h2
            · unfold partS
              simp [hr', h1]
          · cases h
theorem confS_sound {st : St} {L : List Ln} {c : Cfg} {k : Nat} (h : confS st L = (some c, k)) (hs : SOk st) (hr : st.run = false) :
    SOk { st with cs := st.cs ++ [c] } ∧ k = (blockP L).length ∧ partS { st with cs := st.cs ++ [c] } = partS st ++ (blockP L).flatten := by
  unfold confS at h
  split at h
  · cases h
  · split at h
    · rename_i _ he
      split at h
      · rename_i hm
        have h1 := congrArg Prod.fst h
        have h2 := congrArg Prod.snd h
        simp only [Option.some.injEq] at h1 h2
        obtain ⟨d, m, e, hp⟩ : ∃ d m e, parseC (blockP L).flatten = (d, m, e) := ⟨_, _, _, rfl⟩
        rw [hp] at h1 he hm
        simp only at h1 he
        subst h1
        subst he
        obtain ⟨-, q1, q2, q3⟩ := parse_sound hp
        simp only [Bool.and_eq_true, List.isEmpty_iff] at hm
        refine ⟨⟨hs.zs, fun e => by simp at e, fun _ => hm.1, hs.acts, hs.na, fun x hx => ?_, hs.links⟩, h2.symm, ?_⟩
        · rcases List.mem_append.1 hx with hx | hx
          · exact hs.confs x hx
          · have : x = d := by simpa using hx
            subst this; exact ⟨q2, node_in q1⟩
        · unfold partS
          simp [hr, hm.2, q3]
      · cases h
    · cases h
theorem goS_sound : ∀ (L : List Ln) (k : Nat) (st st' : St) (n m : Nat), goS L k st n = (some st', m) → SOk st → SOk st' ∧ partS st' = partS st ++ (L.drop k).flatten
  | [], k, st, st', n, m, h, hs => by
    rw [goS] at h
    injection h with h1 _
    injection h1 with h1
    subst h1
    exact ⟨hs, by simp⟩
  | l :: r, k + 1, st, st', n, m, h, hs => by
    rw [goS] at h
    rw [List.drop_succ_cons]
    exact goS_sound r k st st' n m h hs
  | l :: r, 0, st, st', n, m, h, hs => by
    rw [goS] at h
    split at h
    · rename_i hb
      simp only [Bool.and_eq_true, Bool.not_eq_true', decide_eq_true_eq] at hb
      obtain ⟨o, k, hc⟩ : ∃ o k, confS st (l :: r) = (o, k) := ⟨_, _, rfl⟩
      rw [hc] at h
      cases o with
      | none => cases h
      | some c =>
        simp only at h
        obtain ⟨q1, q2, q3⟩ := confS_sound hc hs hb.1
        obtain ⟨p1, p2⟩ := goS_sound r (k - 1) _ st' _ m h q1
        refine ⟨p1, ?_⟩
        rw [p2, q3, List.append_assoc]
        congr 1
        have hk : 1 ≤ k := by rw [q2]; exact block_pos
        obtain ⟨k', rfl⟩ : ∃ k', k = k' + 1 := ⟨k - 1, by omega⟩
        have := block_flat (l :: r)
        rw [← q2, List.drop_succ_cons] at this
        simpa using this
    · split at h
      · rename_i hw
        cases hl : lineS st (body l) with
        | none => rw [hl] at h; cases h
        | some s1 =>
          rw [hl] at h
          simp only at h
          obtain ⟨q1, q2⟩ := lineS_sound hl hs
          obtain ⟨p1, p2⟩ := goS_sound r 0 _ st' _ m h q1
          refine ⟨p1, ?_⟩
          rw [p2, q2, whole_body hw]
          simp
      · cases h
/-- What a text is read as has that text. -/
theorem parseS_sound {text : Ln} {st : St} {n : Nat} {e : Int} (h : parseS text = (some st, n, e)) : SOk st ∧ st.run = true ∧ partS st = text ∧ text.length ≤ 4194304 ∧ n = 0 ∧ e = 0 := by
  unfold parseS at h
  split at h
  · cases h
  · rename_i hl
    obtain ⟨o, m, hg⟩ : ∃ o m, goS (linesT text) 0 {} 0 = (o, m) := ⟨_, _, rfl⟩
    rw [hg] at h
    cases o with
    | none => cases h
    | some s1 =>
      simp only at h
      split at h
      · rename_i hr
        injection h with h1 h2
        injection h1 with h1
        injection h2 with h2 h3
        subst h1
        obtain ⟨p1, p2⟩ := goS_sound _ _ _ _ _ _ hg SOk.start
        refine ⟨p1, hr, ?_, by omega, h2.symm, h3.symm⟩
        rw [p2, List.drop_zero, lines_flat]
        rfl
      · cases h
end Go.Proofs.YtfbangojgjcbcaaGreatDoor.Pl
namespace Go.Proofs.YtfbangojgjcbcaaGreatDoor
open Go.RowKit Pl
def StrRow (w : World) (b off : Nat) (L : List Ln) : Prop := b < w.heap.size ∧ ∀ j x, L[j]? = some x → w.cell? ⟨b, off + j, none⟩ = some (.string (str x))
theorem StrRow.here {w w' : World} {b off : Nat} {L : List Ln} (h : StrRow w b off L) (hb : Below w.heap.size w w') : StrRow w' b off L :=
  ⟨Nat.lt_of_lt_of_le h.1 hb.size, fun j x hx => (hb.cell h.1).trans (h.2 j x hx)⟩
theorem StrRow.drop {w : World} {b off : Nat} {L : List Ln} (h : StrRow w b off L) (k : Nat) : StrRow w b (off + k) (L.drop k) :=
  ⟨h.1, fun j x hx => by rw [Nat.add_assoc]; exact h.2 (k + j) x (by rw [List.getElem?_drop] at hx; exact hx)⟩
theorem StrRow.take {w : World} {b off : Nat} {L : List Ln} (h : StrRow w b off L) (k : Nat) : StrRow w b off (L.take k) :=
  ⟨h.1, fun j x hx => h.2 j x (by rw [List.getElem?_take] at hx; split at hx; exact hx; cases hx)⟩
theorem join_nil : ∀ L : List Ln, Lib.join L [] = L.flatten
  | [] => rfl
  | [x] => by simp [Lib.join]
  | x :: y :: L => by
    have h := join_nil (y :: L)
    have e : Lib.join (x :: y :: L) [] = x ++ Lib.join (y :: L) [] := by simp [Lib.join, List.intercalate, List.intersperse]
    rw [e, h]; rfl
theorem joinE_any (b off c n : Nat) (L : List Ln) (w : World) (h : StrRow w b off L) (hn : n = L.length) (hc : L.length ≤ c) (hl : L.length ≤ 1000000000) (hs : L.flatten.length ≤ 1000000000) :
    Calls Tryz.prog 139 #[.slice (some ⟨b, off, none⟩) n c, .string ⟨#[]⟩] w fun e w' => e = .returned (.string (str L.flatten)) ∧ Below w.heap.size w w' := by
  subst hn
  have e1 : (L.map str).map (·.data.toList) = L := by rw [List.map_map]; exact (List.map_congr_left (fun l _ => str_data l)).trans (List.map_id _)
  have e2 : Lib.join ((L.map str).map (·.data.toList)) (str []).data.toList = L.flatten := by rw [e1, str_data, join_nil]
  have key := Tryz.strings_Join b off c (L.map str) (str []) w (fun j x hx => by
      simp only [List.getElem?_map, Option.map_eq_some_iff] at hx
      obtain ⟨l, h1, h2⟩ := hx
      rw [← h2]
      exact h.2 j l h1) h.1 (by simp; omega) (by simp; omega) (by rw [e2]; omega)
  rw [e2, List.length_map] at key
  exact key
theorem block_at {L : List Ln} {j : Nat} {l : Ln} (h : blockP L = L.take j ++ blockP (L.drop j)) (hl : L[j]? = some l) : blockP L = if cutA 32 l = wRefill then L.take (j + 1) else L.take (j + 1) ++ blockP (L.drop (j + 1)) := by
  rw [h, drop_at hl, blockP]
  split
  · rw [take_at hl]
  · rw [take_at hl]; simp
theorem lit_refill {l : Ln} (h : l = wRefill) : ((str l).toList == [114, 101, 102, 105, 108, 108]) = true := by subst h; rw [str_toList]; rfl
theorem lit_refill_no {l : Ln} (h : ¬ l = wRefill) : ((str l).toList == [114, 101, 102, 105, 108, 108]) = false := by rw [str_toList]; exact beq_eq_false_iff_ne.2 h
set_option maxRecDepth 100000 in
set_option maxHeartbeats 2000000 in
theorem block_any (b off c n : Nat) (L : List Ln) (w : World) (h : StrRow w b off L) (hn : n = L.length) (hc : L.length ≤ c) (hl : L.length ≤ 1000000000) (hx : ∀ l ∈ L, l.length ≤ 1000000) (E : Env w) :
    Calls Tryz.prog 148 #[.slice (some ⟨b, off, none⟩) n c] w fun e w' => e = .returned (.slice (some ⟨b, off, none⟩) (blockP L).length c) ∧ Below w.heap.size w w' := by
  have HS := Lib.hid h
  have HN := Lib.hid hn
  have HX := Lib.hid hx
  have hnc : n ≤ c := by omega
  have hn9 : n ≤ 1000000000 := by omega
  clear h hx hn hc hl
  go_enter Tryz.func148, Tryz.ntmps148
  go_wp2
  go_loopw [10] (fun i wr => ∃ j : Nat, j ≤ n ∧ i = .int .i64 j ∧ Hid (blockP L = L.take j ++ blockP (L.drop j)) ∧ Hid (Below w.heap.size w wr)) (fun i _ => n - (intOf i).toNat)
  case atStart => exact ⟨0, Nat.zero_le _, rfl, Lib.hid (by simp), Lib.hid (Below.refl _ _)⟩
  case round =>
    obtain ⟨j, hj, rfl, HBL, HB⟩ := hrel
    by_cases hlt : j < n
    · obtain ⟨l, hlj⟩ : ∃ l, L[j]? = some l := ⟨_, List.getElem?_eq_getElem (by have := HN.out; omega)⟩
      have HLJ := Lib.hid hlj
      have hcell : wr.cell? ⟨b, off + j, none⟩ = some (.string (str l)) := (HS.out.here HB.out).2 j l hlj
      have hbs : b < wr.heap.size := (HS.out.here HB.out).1
      have HC := Lib.hid (cut_any 32 l wr (HX.out l (List.mem_of_getElem? hlj)) (E.here HB.out))
      have hcut := block_at HBL.out hlj
      clear hlj
      by_cases hw : cutA 32 l = wRefill
      · have hlit := lit_refill hw
        rw [if_pos hw] at hcut
        have HT : Hid ((blockP L).length = j + 1) := Lib.hid (by rw [hcut, List.length_take]; have := HN.out; omega)
        clear hcut hw
        go_wp2_with fail
        refine HC.out.mono ?_
        rintro e w2 ⟨⟨f, rfl⟩, hb2⟩
        have HB2 := Lib.hid (HB.out.trans (hb2.mono HB.out.size))
        clear hb2
        go_wp2
        go_ret
        exact ⟨by rw [HT.out]; rfl, HB2.out⟩
      · have hlit := lit_refill_no hw
        rw [if_neg hw] at hcut
        have HT := Lib.hid hcut
        clear hcut hw
        go_wp2_with fail
        refine HC.out.mono ?_
        rintro e w2 ⟨⟨f, rfl⟩, hb2⟩
        have HB2 := Lib.hid (HB.out.trans (hb2.mono HB.out.size))
        clear hb2
        go_wp2
        go_roundw
        case rel => exact ⟨j + 1, by omega, by go_num, HT, HB2⟩
        case measure => simp [intOf]; omega
    · have hjn : j = n := by omega
      have HT : Hid (blockP L = L) := Lib.hid (by
        have := HBL.out
        rw [hjn, HN.out, List.take_length, List.drop_length] at this
        rw [this]; simp [blockP])
      subst hjn
      go_wp2
      go_ret
      exact ⟨by rw [HT.out, ← HN.out]; rfl, HB.out⟩
end Go.Proofs.YtfbangojgjcbcaaGreatDoor
