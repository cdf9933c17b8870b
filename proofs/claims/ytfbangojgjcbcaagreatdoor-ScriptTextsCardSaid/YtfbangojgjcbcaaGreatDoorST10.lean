/- Part 10 of the proof: ActF, ActK, ActL, ActM. -/
import Derived.OwnWalkIn
import Derived.Test.YtfbangojgjcbcaaGreatDoorST02
import Derived.Test.YtfbangojgjcbcaaGreatDoorST03
import Derived.Test.YtfbangojgjcbcaaGreatDoorST09
namespace Go.Proofs.YtfbangojgjcbcaaGreatDoor
open Go.RowKit Pl Go.Shelf
open Go.Lib (itoa)
attribute [local go_sem] Oper.semAt_some
/-- 'out = append(out, x)' within a fence. -/
theorem wpListIn_push {F : Fence} {n : Nat} {P : Program} {ops : Array Oper} {rest : List Oper} {o : Oper} {a : Act} {Q : Exit → Act → World → Prop} {w0 : World} {e0 : TypeId} {u : Value} (hgd : o.guard = none) (s x : Operand) (t : TypeId)
    (ho : o.op = .call { callee := .builtin .append, args := #[s, x], argTypes := #[t, t] })
    (base : Nat) (e : TypeId) {z : Value} {bytes : Nat} (hinfo : (P.info? e).map (fun i => (i.zero, i.size, i.bytes)) = some (some z, 1, bytes)) (hzs : z.cells.size = 1) (hby : bytes ≤ 1000) (ht : P.underlying t = some (.slice e))
    (v : Value) (k : Nat) (xs : List Value) (hs : a.eval s = v) (hown : w0.ownsRow base e 1 v k xs) (hx : a.eval x = .slice (some ⟨w0.heap.size, 0, none⟩) 1 1) (hu : u.oneCell' = true)
    (hk : k ≤ 1000000000) (hbase : base ≤ w0.heap.size)
    (h : ∀ v' w', w'.ownsRow base e 1 v' (k + 1) (xs ++ [u]) → w0.grownBy w' v.ownBlock → wpListIn F n P ops Q rest (a.put o.dst v') w') : wpListIn F n P ops Q (o :: rest) a (w0.alloc (.cells #[u] e0)) := by
  obtain ⟨i0, hi, hz0, hz1, hz2⟩ := info_parts hinfo
  refine wpListIn_append_own _ hgd s x t ho base e i0 z 1 bytes ht hi hz0 hz1 hz2 hzs (by decide) v k xs hs (hown.alloc _) ⟨w0.heap.size, 0, none⟩ 1 1 [u] hx rfl (cell_one_new _ _ _) (by intro y hy; simp at hy; subst hy; exact hu) (by unfold maxLen; omega) ?_ (by simp; omega) fun v' w' h1 h2 _ => h v' w' h1 (grownBy_alloc h2)
  have : (k + 1) * bytes ≤ (k + 1) * 1000 := Nat.mul_le_mul_left _ hby
  omega
/-- Box R holds a slice of the words ls, its row from base on. -/
structure WordsAt (base R : Nat) (ls : List (List UInt8)) (w : World) : Prop where
  is : ∃ v, Whole w R 40 #[v] ∧ w.ownsRow base 9 1 v ls.length (ls.map Sv)
theorem WordsAt.own {α : Type} (base R : Nat) (f : α → List (List UInt8)) : Own (fun s W => WordsAt base R (f s) W) := fun s X Y row hs hg hr => by
  obtain ⟨v, h1, h2⟩ := hs.is
  refine ⟨v, whole_own R _ (fun (_ : Unit) => #[v]) () X Y row h1 hg hr, h2.kept hg ?_⟩
  rcases h2.2 with ⟨rfl, _⟩ | ⟨g, cap, cur, rfl, _, hh, _⟩
  · exact .inl rfl
  · right
    intro e
    obtain ⟨o, ho, hc⟩ := hr g e.symm
    rw [hh] at ho
    injection ho with ho
    subst ho
    simp [Obj.isCells] at hc
theorem WordsAt.lines {base B R : Nat} {ls : List (List UInt8)} {w : World} (h : WordsAt base R ls w) (hB : B ≤ base) (hR : B ≤ R := by omega) : LinesIs B R ls w := by
  obtain ⟨v, h1, h2⟩ := h.is
  refine ⟨v, hR, h1, h2.1, ?_⟩
  rcases h2.2 with h3 | ⟨g, cap, cur, a1, a2, a3⟩
  · exact .inl h3
  · exact .inr ⟨g, cap, cur, a1, Nat.le_trans hB a2, a3⟩
theorem join_len (c : UInt8) (M : Nat) : ∀ ls : List (List UInt8), (∀ l ∈ ls, l.length ≤ M) → (Lib.join ls [c]).length ≤ (M + 1) * ls.length
  | [], _ => by simp [Lib.join]
  | [x], h => by have := h x (by simp); simp [Lib.join]; omega
  | x :: y :: r, h => by
    have ih := join_len c M (y :: r) (fun l hl => h l (List.mem_cons_of_mem _ hl))
    have hx := h x (by simp)
    rw [Pl.join_two, List.length_append, List.length_cons, List.length_cons, Nat.mul_add]
    omega
theorem in_byte (b : UInt8) : In64 (b.toNat : Int) := by
  have := b.toNat_lt
  constructor <;> omega
theorem name_len : ∀ k : Nat, (nameA k).length ≤ 6
  | 0 | 1 | 2 | 3 | 4 | 5 | 6 | 7 | 8 | 9 => by decide
  | _ + 10 => by simp [nameA]
theorem words_len {k : Nat} {ns : List Int} (hn : ∀ x ∈ ns, In64 x) : ∀ l ∈ [nameA k] ++ ns.map itoa, l.length ≤ 100 := by
  intro l hl
  rcases List.mem_append.1 hl with h | h
  · simp only [List.mem_singleton] at h
    subst h
    have := name_len k
    omega
  · obtain ⟨x, hx, rfl⟩ := List.mem_map.1 h
    have := itoa_len20 (hn x hx)
    omega
/-- A region that ends in no other way than behind itself. -/
theorem wp_calm {P : Program} {c : Code} {Q : Exit → Act → World → Prop} {a : Act} {w : World} (h : c.wp P (Exit.then (fun a w => Q .normal a w) (fun _ _ _ => False)) a w) : c.wp P Q a w :=
  wp_mono h fun e _ _ h => by cases e <;> first | exact h | exact h.elim
theorem words_more {M : Nat} {ws : List (List UInt8)} {x : List UInt8} (h : ∀ l ∈ ws, l.length ≤ M) (hx : x.length ≤ M) : ∀ l ∈ ws ++ [x], l.length ≤ M := by
  intro l hl
  rcases List.mem_append.1 hl with h' | h'
  · exact h l h'
  · simp only [List.mem_singleton] at h'
    rw [h']; exact hx
theorem hexD_len (l : List UInt8) : (hexD l).length ≤ 2 * l.length + 1 := by
  unfold hexD
  split
  · simp
  · have : (hexText l).length = 2 * l.length := by
      unfold hexText
      induction l with
      | nil => rfl
      | cons x r ih =>
        rw [List.flatMap_cons, List.length_append]
        by_cases hr : r = []
        · subst hr; rfl
        · rw [ih hr]
          simp [hex1]; omega
    omega
/-- The first word, once it has come. -/
def wordOf (k : Int) (pre : List Nat) : List (List UInt8) := (pre.filter fun (x : Nat) => decide ((x : Int) = k)).map nameA
theorem wordOf_next (k : Int) (pre : List Nat) (x : Nat) : wordOf k (pre ++ [x]) = if (x : Int) = k then wordOf k pre ++ [nameA x] else wordOf k pre := by
  unfold wordOf
  rw [List.filter_append, List.map_append]
  by_cases h : (x : Int) = k <;> simp [h]
theorem wordOf_len (k : Int) (pre : List Nat) : (wordOf k pre).length ≤ pre.length := by
  unfold wordOf
  rw [List.length_map]
  exact List.length_filter_le _ _
theorem wordOf_all {k : Int} (h0 : 1 ≤ k) (h1 : k ≤ 9) : wordOf k kinds9 = [nameA k.toNat] := by
  rcases (by omega : k = 1 ∨ k = 2 ∨ k = 3 ∨ k = 4 ∨ k = 5 ∨ k = 6 ∨ k = 7 ∨ k = 8 ∨ k = 9) with rfl | rfl | rfl | rfl | rfl | rfl | rfl | rfl | rfl <;> rfl
/-- One word more. -/
theorem WordsAt.push {base R : Nat} {ls : List (List UInt8)} {l : List UInt8} {w w3 : World} {v v' : Value} (hW : Whole w R 40 #[v]) (hO : w.ownsRow base 9 1 v ls.length (ls.map Sv))
    (hO3 : w3.ownsRow base 9 1 v' (ls.length + 1) (ls.map Sv ++ [Sv l])) (hg : w.grownBy w3 v.ownBlock) (hRb : R < base) (hbw : base ≤ w.heap.size) :
    ∃ g n k, v' = .slice (some ⟨g, 0, none⟩) n k ∧ w3.cell? ⟨R, 0, none⟩ = some v ∧ w3.frozen? ⟨R, 0, none⟩ = false ∧ WordsAt base R (ls ++ [l]) (w3.setCell ⟨R, 0, none⟩ v') ∧ Below R w (w3.setCell ⟨R, 0, none⟩ v') ∧
      KeepsOthers w (w3.setCell ⟨R, 0, none⟩ v') ∧ (∀ lo hi, R < lo → hi ≤ base → hi ≤ w.heap.size → Between lo hi w (w3.setCell ⟨R, 0, none⟩ v')) ∧ w.heap.size ≤ (w3.setCell ⟨R, 0, none⟩ v').heap.size := by
  obtain ⟨g3, k3, rfl, _, _⟩ := hO3.form (by omega)
  have hno := hW.notRow hO (by decide)
  have hW3 := hW.kept hg (Ne.symm hno)
  refine ⟨g3, _, k3, rfl, hW3.cell 0, hW3.frozen 0, ⟨_, hW3.set 0 _, ?_⟩, ?_, (keeps_row hO hg).trans (KeepsOthers.setCell _ _ _), fun lo hi h1 h2 h3 => ⟨by rw [size_setCell]; exact hg.size, fun g ha hb => ?_⟩, by rw [size_setCell]; exact hg.size⟩
  · rw [List.length_append, List.map_append]
    exact own_grown hW3 hO3 (by decide) (grown_set w3 R 0 _)
  · exact ((Below.refl R w).grown hg (by omega) fun g hg' => by have := (hO.lt g hg').1; omega).setCell (p := ⟨R, 0, none⟩) (Nat.le_refl _) _
  · rw [Below.heap_setCell w3 _ _ g (by show g ≠ R; omega)]
    refine hg.block g (by omega) ?_
    intro he
    have := (hO.lt g he.symm).1
    omega
set_option maxRecDepth 100000 in
set_option maxHeartbeats 8000000 in
theorem cactText_any (a : ActP) (bv : Value) (w : World) (hk : K9 a) (h : Bs w bv a.bytes) (hi : InA a) (hl : a.bytes.length ≤ 100000) (E : Env w) :
    Calls Tryz.prog 75 #[actV a bv] w fun e w' => e = .returned (.string (str (actText a))) ∧ Below w.heap.size w w' := by
  have HBV := Lib.hid h
  have HI := Lib.hid hi
  obtain ⟨A, c, rfl, -⟩ := h
  obtain ⟨k, node, port, cost, n, up, by_, unread, bytes⟩ := a
  obtain ⟨W0, hW0⟩ : ∃ W0, (w.alloc (.cells #[.int .i64 k, .int .i64 node, .int .i64 port, .int .i64 cost, .int .i64 n, .bool up, .int .u8 (by_.toNat : Int), .bool unread, .slice A bytes.length c] 51)).alloc (.cells #[.slice none 0 0] 40) = W0 := ⟨_, rfl⟩
  have HB0 : Hid (Below w.heap.size w W0) := Lib.hid (by rw [← hW0]; exact ((Below.refl _ _).alloc (Nat.le_refl _) _).alloc (by simp) _)
  have HX : Hid (Whole W0 w.heap.size 51 #[.int .i64 k, .int .i64 node, .int .i64 port, .int .i64 cost, .int .i64 n, .bool up, .int .u8 (by_.toNat : Int), .bool unread, .slice A bytes.length c]) := Lib.hid (by rw [← hW0]; exact (Whole.new w _ _).alloc _)
  have HR : Hid (Whole W0 (w.heap.size + 1) 40 #[.slice none 0 0]) := Lib.hid (by
    rw [← hW0]
    have := Whole.new (w.alloc (.cells #[.int .i64 k, .int .i64 node, .int .i64 port, .int .i64 cost, .int .i64 n, .bool up, .int .u8 (by_.toNat : Int), .bool unread, .slice A bytes.length c] 51)) 40 #[.slice none 0 0]
    simpa using this)
  have hs0 : W0.heap.size = w.heap.size + 2 := by rw [← hW0]; simp
  have HW0 := Lib.hid hW0
  have E0 := Lib.hid (E.here HB0.out)
  have hNB := E.size
  have HK := Lib.hid hk
  clear hW0 E hi hk
  refine (callsIn_wide (n := 3)).1 ?_
  refine callsIn_of_wp_marks Tryz.func75 rfl trivial ?_ rfl
  simp only [Tryz.ntmps75, List.size_toArray, List.length_cons, List.length_nil, Nat.reduceAdd, Nat.reduceSub, Array.replicate_succ, Array.replicate_zero, List.push_toArray, List.append_toArray, List.nil_append, List.cons_append]
  gi_wp2
  rw [HW0.out]
  refine ⟨trivial, (callsIn_wide.2 (names_any W0)).mono ?_⟩
  rintro e W3 ⟨⟨Bq, vs, rfl, ⟨hlo, hBq⟩, hc, hS⟩, hb3⟩
  have HB3 := Lib.hid hb3
  have HS := Lib.hid hS
  have HBW : Hid (Below (w.heap.size + 1) W0 W3) := Lib.hid (hb3.mono (by omega))
  have HX3 := Lib.hid (HX.out.here hb3)
  have HR3 := Lib.hid (HR.out.here hb3)
  have hs3 := hb3.size
  have HW3 : Hid (WordsAt W3.heap.size (w.heap.size + 1) [] W3) := Lib.hid ⟨_, HR3.out, by simpa using World.ownsRow_nil _ _ _ _⟩
  clear hb3 hS
  gi_wp2
  refine wpIn_rangeFunc_ownH (F := Fence.wide) rfl (by decide) (gf := 141) (lb := #[.pointer (some ⟨Bq, 0, none⟩)]) rfl trivial (enters_of Tryz.func141 (by kernel_rfl) rfl)
    (names1_stops Fence.wide 2 trivial rfl (by decide) Bq W0.heap.size W3.heap.size vs W3 hBq (Nat.le_refl _) hc HS.out) Between.trans (fun W l o o' hl _ _ _ => Between.put hl) (Below.refl _ _) (fun _ => rfl)
    (fun pre W => (WordsAt W3.heap.size (w.heap.size + 1) (wordOf k pre) W ∧ Below (w.heap.size + 1) W3 W) ∧ W3.heap.size ≤ W.heap.size)
    (fun _ _ _ => False)
    (OwnFrom.and (OwnFrom.and (Own.from (WordsAt.own _ _ (fun pre : List Nat => wordOf k pre)) _) (ownFrom_below (by omega) (by omega))) (fun _ _ _ _ hs hg _ => Nat.le_trans hs hg.size))
    (fun _ _ _ _ _ hs _ _ => hs)
    ⟨⟨HW3.out, Below.refl _ _⟩, Nat.le_refl _⟩
    (fun x a' _ => a' = { tmps := #[.agg #[.int .i64 k, .int .i64 node, .int .i64 port, .int .i64 cost, .int .i64 n, .bool up, .int .u8 (by_.toNat : Int), .bool unread, .slice A bytes.length c], .pointer (some ⟨w.heap.size, 0, none⟩), .string ⟨#[]⟩, .pointer (some ⟨w.heap.size + 1, 0, none⟩), .int .i64 (x : Int), .string (str (nameA x)), undef, .func (.func 141) #[] #[.pointer (some ⟨Bq, 0, none⟩)], .int .i64 (x : Int), .string (str (nameA x)), undef, undef, undef, undef, undef, undef, undef, undef, undef, undef, undef, undef, undef, undef, undef, undef, undef, undef, undef, undef, undef, undef, undef, undef, undef, undef, undef, undef, undef, undef, undef, undef, undef, undef, undef, undef, undef, undef, undef, undef, undef, undef, undef, undef, undef, undef, undef, undef, undef, undef, undef, undef, undef, undef, undef, undef, undef, undef, undef, undef, undef, undef, undef, undef, undef, undef, undef, undef, undef, undef, undef, undef, undef, undef, undef, undef, undef, undef, undef, undef, undef], defers := [] })
    (fun x a' _ X Y row hs hg hr => hs)
    ?assign ?body ?done ?stop
  case assign =>
    rintro l pre x W K hI hK
    gi_wp2
    exact hK _ _ ((KeepsOthers.refl _).from _) (Between.refl W) hI rfl
  case body =>
    rintro l pre x a' W hl _ ⟨⟨hA, hB⟩, hz⟩ rfl hlt
    have HKW := Lib.hid (wordOf_next k pre x)
    have hwl := wordOf_len k pre
    have x0 : W.cell? ⟨w.heap.size, 0, none⟩ = some (.int .i64 k) := (HX3.out.below hB (by omega)).cell 0
    have hWz : w.heap.size < W.heap.size := by omega
    dsimp only
    by_cases he : (x : Int) = k
    · have HE : Hid (wordOf k (pre ++ [x]) = wordOf k pre ++ [nameA x]) := Lib.hid (by rw [HKW.out, if_pos he])
      have q : ((x : Int) == k) = true := by simpa using he
      obtain ⟨v, hW, hO⟩ := hA.is
      have c0 : W.cell? ⟨w.heap.size + 1, 0, none⟩ = some v := hW.cell 0
      have HWW := Lib.hid hW
      have HOO := Lib.hid hO
      have HBB := Lib.hid hB
      clear he hA hW hO hB
      gi_wp2_with (gi_at_builtin; refine wpListIn_push rfl _ _ 40 rfl W3.heap.size 9 info_str rfl (by decide) Tryz.underlying40 _ _ _ rfl HOO.out rfl rfl (by omega) hz ?_)
      intro v' w3 hown3 hg
      obtain ⟨g3, n3, k3, rfl, c3, f3, hW3, hB3, hK3, hBt, hsz⟩ := WordsAt.push (l := nameA x) HWW.out HOO.out hown3 hg (by omega) hz
      have HW4 := Lib.hid hW3
      have HB4 := Lib.hid (HBB.out.trans (hB3.mono (Nat.le_refl _)))
      have HK4 := Lib.hid hK3
      have HBT := Lib.hid (hBt W0.heap.size W3.heap.size (by omega) (Nat.le_refl _) hz)
      have HSZ := Lib.hid (Nat.le_trans hz hsz)
      clear hown3 hg hW3 hB3 hK3 hBt hsz
      gi_wp2
      refine ⟨HK4.out.from _, HBT.out, ⟨⟨?_, HB4.out⟩, HSZ.out⟩⟩
      rw [HE.out]
      exact HW4.out
    · have HE : Hid (wordOf k (pre ++ [x]) = wordOf k pre) := Lib.hid (by rw [HKW.out, if_neg he])
      have q : ((x : Int) == k) = false := by simpa using he
      clear he
      gi_wp2
      refine ⟨(KeepsOthers.refl _).from _, Between.refl _, ⟨⟨?_, hB⟩, hz⟩⟩
      rw [HE.out]
      exact hA
  case done =>
    rintro D ys W hD rfl ⟨⟨hA, hB⟩, hzW⟩ hKD
    obtain ⟨k0, k1⟩ := HK.out
    simp only at k0 k1
    rw [wordOf_all k0 k1] at hA
    have HLW : Hid (LinesIs (w.heap.size + 1) (w.heap.size + 1) [nameA k.toNat] W) := Lib.hid (hA.lines (by omega))
    have HBW2 : Hid (Below (w.heap.size + 1) W0 W) := Lib.hid (HBW.out.trans hB)
    have HKDW := Lib.hid hKD
    have HXW := Lib.hid (HX3.out.below hB (by omega))
    have x0 : W.cell? ⟨w.heap.size, 0, none⟩ = some (.int .i64 k) := HXW.out.cell 0
    have x1 : W.cell? ⟨w.heap.size, 1, none⟩ = some (.int .i64 node) := HXW.out.cell 1
    have x2 : W.cell? ⟨w.heap.size, 2, none⟩ = some (.int .i64 port) := HXW.out.cell 2
    have x3 : W.cell? ⟨w.heap.size, 3, none⟩ = some (.int .i64 cost) := HXW.out.cell 3
    have x4 : W.cell? ⟨w.heap.size, 4, none⟩ = some (.int .i64 n) := HXW.out.cell 4
    have x6 : W.cell? ⟨w.heap.size, 6, none⟩ = some (.int .u8 (by_.toNat : Int)) := HXW.out.cell 6
    have hWz : w.heap.size < W.heap.size := by omega
    have hby : by_.toNat < 256 := by_.toNat_lt
    have EW := Lib.hid (E0.out.below (by omega) HBW2.out)
    clear HBW hKD
    have HBW := HBW2
    clear HBW2
    dsimp only
    rcases (by omega : k = 1 ∨ k = 2 ∨ k = 3 ∨ k = 4 ∨ k = 5 ∨ k = 6 ∨ k = 7 ∨ k = 8 ∨ k = 9) with rfl | rfl | rfl | rfl | rfl | rfl | rfl | rfl | rfl
    · have HIN : Hid (∀ y ∈ [node], In64 y) := Lib.hid (by
        intro y hy
        simp only [List.mem_cons, List.not_mem_nil, or_false] at hy
        rcases hy with rfl <;> first | exact HI.out.2.1 | exact HI.out.2.2.1 | exact HI.out.2.2.2.1 | exact HI.out.2.2.2.2 | exact in_byte _)
      have HWL : Hid (∀ l ∈ ([nameA (Int.toNat 1)] ++ [node].map itoa), l.length ≤ 100) := Lib.hid (words_len HIN.out)
      clear HR HW0 HB3 HS HR3 HW3 HX3 HXW hA hB hc
      gi_wp2
      refine ⟨trivial, (callsIn_wide.2 (put_any (w.heap.size + 1) (w.heap.size + 1) W.heap.size 1 [node] ([nameA (Int.toNat 1)]) _ (HLW.out.below ((Below.refl _ _).alloc (Nat.le_refl _) _)) (Whole.new W 3 #[.int .i64 node]) HIN.out (by simp) (by simp) (by simp) (EW.out.here ((Below.refl _ _).alloc (Nat.le_refl _) _)) (by omega) (by simp; omega))).mono ?_⟩
      rintro e w5 ⟨rfl, hLw5, hBw5, hOw5⟩
      have HLw5 := Lib.hid hLw5
      have HBw5 : Hid (Below (w.heap.size + 1) W0 w5) := Lib.hid ((HBW.out.alloc (by omega) _).trans hBw5)
      have HKDw5 : Hid (w5.heap[D]? = some (.deferred (some []))) := Lib.hid (hOw5.same D _ ((Below.heap_alloc W _ D (Array.getElem?_eq_some_iff.1 HKDW.out).1).trans HKDW.out) rfl)
      have hzw5 : W3.heap.size ≤ w5.heap.size := by have := hOw5.size; simp at this; omega
      have Ew5 := Lib.hid (E0.out.below (by omega) HBw5.out)
      clear hLw5 hBw5 hOw5
      obtain ⟨vJ, -, hWJ, hOJ⟩ := HLw5.out.is
      have cJ : w5.cell? ⟨w.heap.size + 1, 0, none⟩ = some vJ := hWJ.cell 0
      have hRJ : w.heap.size + 1 < w5.heap.size := by omega
      have HJ := Lib.hid (join_own (sep := [32]) w5 hOJ (by simp) (by simp) (by
        refine Nat.le_trans (join_len 32 100 _ ?_) (by simp)
        exact HWL.out))
      clear hWJ hOJ
      gi_wp2
      refine ⟨trivial, (callsIn_wide.2 HJ.out).mono ?_⟩
      rintro e WE ⟨rfl, hbE⟩
      have hkE : WE.heap[D]? = some (.deferred (some [])) := (hbE.block D (Array.getElem?_eq_some_iff.1 HKDw5.out).1).trans HKDw5.out
      have HBE : Hid (Below w.heap.size w WE) := Lib.hid ((HB0.out.trans (HBw5.out.mono (by omega))).trans (hbE.mono (by omega)))
      clear hbE
      gi_wp2
      refine ⟨by simp, .inl ⟨_, _, rfl, run_takeDeferred hkE, ?_⟩⟩
      refine ⟨.string (str (actText ⟨1, node, port, cost, n, up, by_, unread, bytes⟩)), ?_, rfl, HBE.out.trans (belowK_b (w := w) (Nat.le_refl _) WE D _ _ (by omega) hkE rfl rfl)⟩
      simp [results, Tryz.results75, go_sem]
      rfl
    · have HIN : Hid (∀ y ∈ [n], In64 y) := Lib.hid (by
        intro y hy
        simp only [List.mem_cons, List.not_mem_nil, or_false] at hy
        rcases hy with rfl <;> first | exact HI.out.2.1 | exact HI.out.2.2.1 | exact HI.out.2.2.2.1 | exact HI.out.2.2.2.2 | exact in_byte _)
      have HWL : Hid (∀ l ∈ ([nameA (Int.toNat 2)] ++ [n].map itoa), l.length ≤ 100) := Lib.hid (words_len HIN.out)
      clear HR HW0 HB3 HS HR3 HW3 HX3 HXW hA hB hc
      gi_wp2
      refine ⟨trivial, (callsIn_wide.2 (put_any (w.heap.size + 1) (w.heap.size + 1) W.heap.size 1 [n] ([nameA (Int.toNat 2)]) _ (HLW.out.below ((Below.refl _ _).alloc (Nat.le_refl _) _)) (Whole.new W 3 #[.int .i64 n]) HIN.out (by simp) (by simp) (by simp) (EW.out.here ((Below.refl _ _).alloc (Nat.le_refl _) _)) (by omega) (by simp; omega))).mono ?_⟩
      rintro e w5 ⟨rfl, hLw5, hBw5, hOw5⟩
      have HLw5 := Lib.hid hLw5
      have HBw5 : Hid (Below (w.heap.size + 1) W0 w5) := Lib.hid ((HBW.out.alloc (by omega) _).trans hBw5)
      have HKDw5 : Hid (w5.heap[D]? = some (.deferred (some []))) := Lib.hid (hOw5.same D _ ((Below.heap_alloc W _ D (Array.getElem?_eq_some_iff.1 HKDW.out).1).trans HKDW.out) rfl)
      have hzw5 : W3.heap.size ≤ w5.heap.size := by have := hOw5.size; simp at this; omega
      have Ew5 := Lib.hid (E0.out.below (by omega) HBw5.out)
      clear hLw5 hBw5 hOw5
      obtain ⟨vJ, -, hWJ, hOJ⟩ := HLw5.out.is
      have cJ : w5.cell? ⟨w.heap.size + 1, 0, none⟩ = some vJ := hWJ.cell 0
      have hRJ : w.heap.size + 1 < w5.heap.size := by omega
      have HJ := Lib.hid (join_own (sep := [32]) w5 hOJ (by simp) (by simp) (by
        refine Nat.le_trans (join_len 32 100 _ ?_) (by simp)
        exact HWL.out))
      clear hWJ hOJ
      gi_wp2
      refine ⟨trivial, (callsIn_wide.2 HJ.out).mono ?_⟩
      rintro e WE ⟨rfl, hbE⟩
      have hkE : WE.heap[D]? = some (.deferred (some [])) := (hbE.block D (Array.getElem?_eq_some_iff.1 HKDw5.out).1).trans HKDw5.out
      have HBE : Hid (Below w.heap.size w WE) := Lib.hid ((HB0.out.trans (HBw5.out.mono (by omega))).trans (hbE.mono (by omega)))
      clear hbE
      gi_wp2
      refine ⟨by simp, .inl ⟨_, _, rfl, run_takeDeferred hkE, ?_⟩⟩
      refine ⟨.string (str (actText ⟨2, node, port, cost, n, up, by_, unread, bytes⟩)), ?_, rfl, HBE.out.trans (belowK_b (w := w) (Nat.le_refl _) WE D _ _ (by omega) hkE rfl rfl)⟩
      simp [results, Tryz.results75, go_sem]
      rfl
    · have HIN : Hid (∀ y ∈ [n], In64 y) := Lib.hid (by
        intro y hy
        simp only [List.mem_cons, List.not_mem_nil, or_false] at hy
        rcases hy with rfl <;> first | exact HI.out.2.1 | exact HI.out.2.2.1 | exact HI.out.2.2.2.1 | exact HI.out.2.2.2.2 | exact in_byte _)
      have HWL : Hid (∀ l ∈ ([nameA (Int.toNat 3)] ++ [n].map itoa), l.length ≤ 100) := Lib.hid (words_len HIN.out)
      clear HR HW0 HB3 HS HR3 HW3 HX3 HXW hA hB hc
      gi_wp2
      refine ⟨trivial, (callsIn_wide.2 (put_any (w.heap.size + 1) (w.heap.size + 1) W.heap.size 1 [n] ([nameA (Int.toNat 3)]) _ (HLW.out.below ((Below.refl _ _).alloc (Nat.le_refl _) _)) (Whole.new W 3 #[.int .i64 n]) HIN.out (by simp) (by simp) (by simp) (EW.out.here ((Below.refl _ _).alloc (Nat.le_refl _) _)) (by omega) (by simp; omega))).mono ?_⟩
      rintro e w5 ⟨rfl, hLw5, hBw5, hOw5⟩
      have HLw5 := Lib.hid hLw5
      have HBw5 : Hid (Below (w.heap.size + 1) W0 w5) := Lib.hid ((HBW.out.alloc (by omega) _).trans hBw5)
      have HKDw5 : Hid (w5.heap[D]? = some (.deferred (some []))) := Lib.hid (hOw5.same D _ ((Below.heap_alloc W _ D (Array.getElem?_eq_some_iff.1 HKDW.out).1).trans HKDW.out) rfl)
      have hzw5 : W3.heap.size ≤ w5.heap.size := by have := hOw5.size; simp at this; omega
      have Ew5 := Lib.hid (E0.out.below (by omega) HBw5.out)
      clear hLw5 hBw5 hOw5
      obtain ⟨vJ, -, hWJ, hOJ⟩ := HLw5.out.is
      have cJ : w5.cell? ⟨w.heap.size + 1, 0, none⟩ = some vJ := hWJ.cell 0
      have hRJ : w.heap.size + 1 < w5.heap.size := by omega
      have HJ := Lib.hid (join_own (sep := [32]) w5 hOJ (by simp) (by simp) (by
        refine Nat.le_trans (join_len 32 100 _ ?_) (by simp)
        exact HWL.out))
      clear hWJ hOJ
      gi_wp2
      refine ⟨trivial, (callsIn_wide.2 HJ.out).mono ?_⟩
      rintro e WE ⟨rfl, hbE⟩
      have hkE : WE.heap[D]? = some (.deferred (some [])) := (hbE.block D (Array.getElem?_eq_some_iff.1 HKDw5.out).1).trans HKDw5.out
      have HBE : Hid (Below w.heap.size w WE) := Lib.hid ((HB0.out.trans (HBw5.out.mono (by omega))).trans (hbE.mono (by omega)))
      clear hbE
      gi_wp2
      refine ⟨by simp, .inl ⟨_, _, rfl, run_takeDeferred hkE, ?_⟩⟩
      refine ⟨.string (str (actText ⟨3, node, port, cost, n, up, by_, unread, bytes⟩)), ?_, rfl, HBE.out.trans (belowK_b (w := w) (Nat.le_refl _) WE D _ _ (by omega) hkE rfl rfl)⟩
      simp [results, Tryz.results75, go_sem]
      rfl
    · have HIN : Hid (∀ y ∈ [n], In64 y) := Lib.hid (by
        intro y hy
        simp only [List.mem_cons, List.not_mem_nil, or_false] at hy
        rcases hy with rfl <;> first | exact HI.out.2.1 | exact HI.out.2.2.1 | exact HI.out.2.2.2.1 | exact HI.out.2.2.2.2 | exact in_byte _)
      have HWL : Hid (∀ l ∈ ([nameA (Int.toNat 4)] ++ [n].map itoa), l.length ≤ 100) := Lib.hid (words_len HIN.out)
      clear HR HW0 HB3 HS HR3 HW3 HX3 HXW hA hB hc
      gi_wp2
      refine ⟨trivial, (callsIn_wide.2 (put_any (w.heap.size + 1) (w.heap.size + 1) W.heap.size 1 [n] ([nameA (Int.toNat 4)]) _ (HLW.out.below ((Below.refl _ _).alloc (Nat.le_refl _) _)) (Whole.new W 3 #[.int .i64 n]) HIN.out (by simp) (by simp) (by simp) (EW.out.here ((Below.refl _ _).alloc (Nat.le_refl _) _)) (by omega) (by simp; omega))).mono ?_⟩
      rintro e w5 ⟨rfl, hLw5, hBw5, hOw5⟩
      have HLw5 := Lib.hid hLw5
      have HBw5 : Hid (Below (w.heap.size + 1) W0 w5) := Lib.hid ((HBW.out.alloc (by omega) _).trans hBw5)
      have HKDw5 : Hid (w5.heap[D]? = some (.deferred (some []))) := Lib.hid (hOw5.same D _ ((Below.heap_alloc W _ D (Array.getElem?_eq_some_iff.1 HKDW.out).1).trans HKDW.out) rfl)
      have hzw5 : W3.heap.size ≤ w5.heap.size := by have := hOw5.size; simp at this; omega
      have Ew5 := Lib.hid (E0.out.below (by omega) HBw5.out)
      clear hLw5 hBw5 hOw5
      obtain ⟨vJ, -, hWJ, hOJ⟩ := HLw5.out.is
      have cJ : w5.cell? ⟨w.heap.size + 1, 0, none⟩ = some vJ := hWJ.cell 0
      have hRJ : w.heap.size + 1 < w5.heap.size := by omega
      have HJ := Lib.hid (join_own (sep := [32]) w5 hOJ (by simp) (by simp) (by
        refine Nat.le_trans (join_len 32 100 _ ?_) (by simp)
        exact HWL.out))
      clear hWJ hOJ
      gi_wp2
      refine ⟨trivial, (callsIn_wide.2 HJ.out).mono ?_⟩
      rintro e WE ⟨rfl, hbE⟩
      have hkE : WE.heap[D]? = some (.deferred (some [])) := (hbE.block D (Array.getElem?_eq_some_iff.1 HKDw5.out).1).trans HKDw5.out
      have HBE : Hid (Below w.heap.size w WE) := Lib.hid ((HB0.out.trans (HBw5.out.mono (by omega))).trans (hbE.mono (by omega)))
      clear hbE
      gi_wp2
      refine ⟨by simp, .inl ⟨_, _, rfl, run_takeDeferred hkE, ?_⟩⟩
      refine ⟨.string (str (actText ⟨4, node, port, cost, n, up, by_, unread, bytes⟩)), ?_, rfl, HBE.out.trans (belowK_b (w := w) (Nat.le_refl _) WE D _ _ (by omega) hkE rfl rfl)⟩
      simp [results, Tryz.results75, go_sem]
      rfl
    · have HIN : Hid (∀ y ∈ [node, port, cost], In64 y) := Lib.hid (by
        intro y hy
        simp only [List.mem_cons, List.not_mem_nil, or_false] at hy
        rcases hy with rfl | rfl | rfl <;> first | exact HI.out.2.1 | exact HI.out.2.2.1 | exact HI.out.2.2.2.1 | exact HI.out.2.2.2.2 | exact in_byte _)
      have HWL : Hid (∀ l ∈ ([nameA (Int.toNat 5)] ++ [node, port, cost].map itoa), l.length ≤ 100) := Lib.hid (words_len HIN.out)
      clear HR HW0 HB3 HS HR3 HW3 HX3 HXW hA hB hc
      gi_wp2
      refine ⟨trivial, (callsIn_wide.2 (put_any (w.heap.size + 1) (w.heap.size + 1) W.heap.size 3 [node, port, cost] ([nameA (Int.toNat 5)]) _ (HLW.out.below ((Below.refl _ _).alloc (Nat.le_refl _) _)) (Whole.new W 3 #[.int .i64 node, .int .i64 port, .int .i64 cost]) HIN.out (by simp) (by simp) (by simp) (EW.out.here ((Below.refl _ _).alloc (Nat.le_refl _) _)) (by omega) (by simp; omega))).mono ?_⟩
      rintro e w5 ⟨rfl, hLw5, hBw5, hOw5⟩
      have HLw5 := Lib.hid hLw5
      have HBw5 : Hid (Below (w.heap.size + 1) W0 w5) := Lib.hid ((HBW.out.alloc (by omega) _).trans hBw5)
      have HKDw5 : Hid (w5.heap[D]? = some (.deferred (some []))) := Lib.hid (hOw5.same D _ ((Below.heap_alloc W _ D (Array.getElem?_eq_some_iff.1 HKDW.out).1).trans HKDW.out) rfl)
      have hzw5 : W3.heap.size ≤ w5.heap.size := by have := hOw5.size; simp at this; omega
      have Ew5 := Lib.hid (E0.out.below (by omega) HBw5.out)
      clear hLw5 hBw5 hOw5
      obtain ⟨vJ, -, hWJ, hOJ⟩ := HLw5.out.is
      have cJ : w5.cell? ⟨w.heap.size + 1, 0, none⟩ = some vJ := hWJ.cell 0
      have hRJ : w.heap.size + 1 < w5.heap.size := by omega
      have HJ := Lib.hid (join_own (sep := [32]) w5 hOJ (by simp) (by simp) (by
        refine Nat.le_trans (join_len 32 100 _ ?_) (by simp)
        exact HWL.out))
      clear hWJ hOJ
      gi_wp2
      refine ⟨trivial, (callsIn_wide.2 HJ.out).mono ?_⟩
      rintro e WE ⟨rfl, hbE⟩
      have hkE : WE.heap[D]? = some (.deferred (some [])) := (hbE.block D (Array.getElem?_eq_some_iff.1 HKDw5.out).1).trans HKDw5.out
      have HBE : Hid (Below w.heap.size w WE) := Lib.hid ((HB0.out.trans (HBw5.out.mono (by omega))).trans (hbE.mono (by omega)))
      clear hbE
      gi_wp2
      refine ⟨by simp, .inl ⟨_, _, rfl, run_takeDeferred hkE, ?_⟩⟩
      refine ⟨.string (str (actText ⟨5, node, port, cost, n, up, by_, unread, bytes⟩)), ?_, rfl, HBE.out.trans (belowK_b (w := w) (Nat.le_refl _) WE D _ _ (by omega) hkE rfl rfl)⟩
      simp [results, Tryz.results75, go_sem]
      rfl
    · have HIN : Hid (∀ y ∈ [n], In64 y) := Lib.hid (by
        intro y hy
        simp only [List.mem_cons, List.not_mem_nil, or_false] at hy
        rcases hy with rfl <;> first | exact HI.out.2.1 | exact HI.out.2.2.1 | exact HI.out.2.2.2.1 | exact HI.out.2.2.2.2 | exact in_byte _)
      have HWL : Hid (∀ l ∈ ([nameA (Int.toNat 6)] ++ [n].map itoa), l.length ≤ 100) := Lib.hid (words_len HIN.out)
      clear HR HW0 HB3 HS HR3 HW3 HX3 HXW hA hB hc
      cases up with
      | false =>
        gi_wp2
        refine ⟨trivial, (callsIn_wide.2 (put_any (w.heap.size + 1) (w.heap.size + 1) W.heap.size 1 [n] ([nameA (Int.toNat 6)]) _ (HLW.out.below ((Below.refl _ _).alloc (Nat.le_refl _) _)) (Whole.new W 3 #[.int .i64 n]) HIN.out (by simp) (by simp) (by simp) (EW.out.here ((Below.refl _ _).alloc (Nat.le_refl _) _)) (by omega) (by simp; omega))).mono ?_⟩
        rintro e w5 ⟨rfl, hLw5, hBw5, hOw5⟩
        have HLw5 := Lib.hid hLw5
        have HBw5 : Hid (Below (w.heap.size + 1) W0 w5) := Lib.hid ((HBW.out.alloc (by omega) _).trans hBw5)
        have HKDw5 : Hid (w5.heap[D]? = some (.deferred (some []))) := Lib.hid (hOw5.same D _ ((Below.heap_alloc W _ D (Array.getElem?_eq_some_iff.1 HKDW.out).1).trans HKDW.out) rfl)
        have hzw5 : W3.heap.size ≤ w5.heap.size := by have := hOw5.size; simp at this; omega
        have Ew5 := Lib.hid (E0.out.below (by omega) HBw5.out)
        clear hLw5 hBw5 hOw5
        obtain ⟨vw6, hBRw6, hWw6, hOw6⟩ := HLw5.out.is
        have cRw6 : w5.cell? ⟨w.heap.size + 1, 0, none⟩ = some vw6 := hWw6.cell 0
        have hXw6 := HX.out.below HBw5.out (by omega)
        have xFw6 : w5.cell? ⟨w.heap.size, 5, none⟩ = some (.bool false) := hXw6.cell 5
        have hRw6 : w.heap.size + 1 < w5.heap.size := by omega
        have hFw6 : w.heap.size < w5.heap.size := by omega
        have HWw6 := Lib.hid hWw6
        have HOw6 := Lib.hid hOw6
        have HBVw6 : Hid (Bs w5 (.slice A bytes.length c) bytes) := Lib.hid (HBV.out.keep (by omega) fun p hp => (HBw5.out.cell (show p.block < _ by omega)).trans (HB0.out.cell hp))
        clear hWw6 hOw6 hXw6
        gi_wp2
        refine wpIn_wide.2 (wp_calm ?_)
        refine wp_region_ext_load (v := vw6) 4 (by kernel_rfl) (by kernel_rfl) rfl rfl (.inl ⟨rfl, ?_⟩) (fun _ _ _ h => h) ?_
        · rintro _ ⟨x, rfl⟩
          have cx := (x.cell ⟨w.heap.size + 1, 0, none⟩ hRw6).trans cRw6
          go_simp
        simp only [List.take_succ_cons, List.take_zero, List.drop_succ_cons, List.drop_zero, Act.put, List.setIfInBounds_toArray, List.set_cons_succ, List.set_cons_zero]
        repeat (go_big_quiet_step (first | (go_at_call 137; exact Ext.callq (either_any _ _ _ _))))
        refine wpQuiet_nil ?_
        rintro _ ⟨zw6, rfl⟩
        go_wp2
        have hzb := zw6.below.size
        refine ⟨⟨⟨_, bel_alloc zw6.below _⟩, rfl⟩, ?_⟩
        have hown2 := own_below HOw6.out zw6.below
        go_wp2_with (at_builtin; refine wpList_push rfl _ _ 40 rfl (w.heap.size + 1) 9 info_str rfl (by decide) Tryz.underlying40 _ _ _ rfl hown2 rfl rfl (by simp) (by omega) ?_)
        intro v' ww6' hown3 hg
        rw [show Value.string { data := #[100, 111, 119, 110] } = Sv (wDown) from rfl] at hown3
        obtain ⟨g3, n3, k3, rfl, c3, f3, hL3, hB3, hK3⟩ := LinesIs.push' (l := wDown) HWw6.out HOw6.out zw6.below hown3 hg hBRw6 (by omega)
        obtain ⟨w6, hnw6⟩ : ∃ X, ww6'.setCell ⟨w.heap.size + 1, 0, none⟩ (.slice (some ⟨g3, 0, none⟩) n3 k3) = X := ⟨_, rfl⟩
        rw [hnw6] at hL3 hB3 hK3
        have HNw6 := Lib.hid hnw6
        have HLw6 := Lib.hid hL3
        have HBw6 : Hid (Below (w.heap.size + 1) W0 w6) := Lib.hid (HBw5.out.trans hB3)
        have HKDw6 : Hid (w6.heap[D]? = some (.deferred (some []))) := Lib.hid (hK3.same D _ HKDw5.out rfl)
        have hzw6 : W3.heap.size ≤ w6.heap.size := by have := hK3.size; omega
        clear hown2 hown3 hg hL3 hB3 hK3 hnw6
        go_wp2
        rw [HNw6.out]
        have HWL6 : Hid (∀ l ∈ [nameA (Int.toNat 6)] ++ [n].map itoa ++ [wDown], l.length ≤ 100) := Lib.hid (words_more HWL.out (by decide))
        obtain ⟨vJ, -, hWJ, hOJ⟩ := HLw6.out.is
        have cJ : w6.cell? ⟨w.heap.size + 1, 0, none⟩ = some vJ := hWJ.cell 0
        have hRJ : w.heap.size + 1 < w6.heap.size := by omega
        have HJ := Lib.hid (join_own (sep := [32]) w6 hOJ (by simp) (by simp) (by
          refine Nat.le_trans (join_len 32 100 _ ?_) (by simp)
          exact HWL6.out))
        clear hWJ hOJ
        gi_wp2
        refine ⟨trivial, (callsIn_wide.2 HJ.out).mono ?_⟩
        rintro e WE ⟨rfl, hbE⟩
        have hkE : WE.heap[D]? = some (.deferred (some [])) := (hbE.block D (Array.getElem?_eq_some_iff.1 HKDw6.out).1).trans HKDw6.out
        have HBE : Hid (Below w.heap.size w WE) := Lib.hid ((HB0.out.trans (HBw6.out.mono (by omega))).trans (hbE.mono (by omega)))
        clear hbE
        gi_wp2
        refine ⟨by simp, .inl ⟨_, _, rfl, run_takeDeferred hkE, ?_⟩⟩
        refine ⟨.string (str (actText ⟨6, node, port, cost, n, false, by_, unread, bytes⟩)), ?_, rfl, HBE.out.trans (belowK_b (w := w) (Nat.le_refl _) WE D _ _ (by omega) hkE rfl rfl)⟩
        simp [results, Tryz.results75, go_sem]
        rfl
      | true =>
        gi_wp2
        refine ⟨trivial, (callsIn_wide.2 (put_any (w.heap.size + 1) (w.heap.size + 1) W.heap.size 1 [n] ([nameA (Int.toNat 6)]) _ (HLW.out.below ((Below.refl _ _).alloc (Nat.le_refl _) _)) (Whole.new W 3 #[.int .i64 n]) HIN.out (by simp) (by simp) (by simp) (EW.out.here ((Below.refl _ _).alloc (Nat.le_refl _) _)) (by omega) (by simp; omega))).mono ?_⟩
        rintro e w5 ⟨rfl, hLw5, hBw5, hOw5⟩
        have HLw5 := Lib.hid hLw5
        have HBw5 : Hid (Below (w.heap.size + 1) W0 w5) := Lib.hid ((HBW.out.alloc (by omega) _).trans hBw5)
        have HKDw5 : Hid (w5.heap[D]? = some (.deferred (some []))) := Lib.hid (hOw5.same D _ ((Below.heap_alloc W _ D (Array.getElem?_eq_some_iff.1 HKDW.out).1).trans HKDW.out) rfl)
        have hzw5 : W3.heap.size ≤ w5.heap.size := by have := hOw5.size; simp at this; omega
        have Ew5 := Lib.hid (E0.out.below (by omega) HBw5.out)
        clear hLw5 hBw5 hOw5
        obtain ⟨vw6, hBRw6, hWw6, hOw6⟩ := HLw5.out.is
        have cRw6 : w5.cell? ⟨w.heap.size + 1, 0, none⟩ = some vw6 := hWw6.cell 0
        have hXw6 := HX.out.below HBw5.out (by omega)
        have xFw6 : w5.cell? ⟨w.heap.size, 5, none⟩ = some (.bool true) := hXw6.cell 5
        have hRw6 : w.heap.size + 1 < w5.heap.size := by omega
        have hFw6 : w.heap.size < w5.heap.size := by omega
        have HWw6 := Lib.hid hWw6
        have HOw6 := Lib.hid hOw6
        have HBVw6 : Hid (Bs w5 (.slice A bytes.length c) bytes) := Lib.hid (HBV.out.keep (by omega) fun p hp => (HBw5.out.cell (show p.block < _ by omega)).trans (HB0.out.cell hp))
        clear hWw6 hOw6 hXw6
        gi_wp2
        refine wpIn_wide.2 (wp_calm ?_)
        refine wp_region_ext_load (v := vw6) 4 (by kernel_rfl) (by kernel_rfl) rfl rfl (.inl ⟨rfl, ?_⟩) (fun _ _ _ h => h) ?_
        · rintro _ ⟨x, rfl⟩
          have cx := (x.cell ⟨w.heap.size + 1, 0, none⟩ hRw6).trans cRw6
          go_simp
        simp only [List.take_succ_cons, List.take_zero, List.drop_succ_cons, List.drop_zero, Act.put, List.setIfInBounds_toArray, List.set_cons_succ, List.set_cons_zero]
        repeat (go_big_quiet_step (first | (go_at_call 137; exact Ext.callq (either_any _ _ _ _))))
        refine wpQuiet_nil ?_
        rintro _ ⟨zw6, rfl⟩
        go_wp2
        have hzb := zw6.below.size
        refine ⟨⟨⟨_, bel_alloc zw6.below _⟩, rfl⟩, ?_⟩
        have hown2 := own_below HOw6.out zw6.below
        go_wp2_with (at_builtin; refine wpList_push rfl _ _ 40 rfl (w.heap.size + 1) 9 info_str rfl (by decide) Tryz.underlying40 _ _ _ rfl hown2 rfl rfl (by simp) (by omega) ?_)
        intro v' ww6' hown3 hg
        rw [show Value.string { data := #[117, 112] } = Sv (wUp) from rfl] at hown3
        obtain ⟨g3, n3, k3, rfl, c3, f3, hL3, hB3, hK3⟩ := LinesIs.push' (l := wUp) HWw6.out HOw6.out zw6.below hown3 hg hBRw6 (by omega)
        obtain ⟨w6, hnw6⟩ : ∃ X, ww6'.setCell ⟨w.heap.size + 1, 0, none⟩ (.slice (some ⟨g3, 0, none⟩) n3 k3) = X := ⟨_, rfl⟩
        rw [hnw6] at hL3 hB3 hK3
        have HNw6 := Lib.hid hnw6
        have HLw6 := Lib.hid hL3
        have HBw6 : Hid (Below (w.heap.size + 1) W0 w6) := Lib.hid (HBw5.out.trans hB3)
        have HKDw6 : Hid (w6.heap[D]? = some (.deferred (some []))) := Lib.hid (hK3.same D _ HKDw5.out rfl)
        have hzw6 : W3.heap.size ≤ w6.heap.size := by have := hK3.size; omega
        clear hown2 hown3 hg hL3 hB3 hK3 hnw6
        go_wp2
        rw [HNw6.out]
        have HWL6 : Hid (∀ l ∈ [nameA (Int.toNat 6)] ++ [n].map itoa ++ [wUp], l.length ≤ 100) := Lib.hid (words_more HWL.out (by decide))
        obtain ⟨vJ, -, hWJ, hOJ⟩ := HLw6.out.is
        have cJ : w6.cell? ⟨w.heap.size + 1, 0, none⟩ = some vJ := hWJ.cell 0
        have hRJ : w.heap.size + 1 < w6.heap.size := by omega
        have HJ := Lib.hid (join_own (sep := [32]) w6 hOJ (by simp) (by simp) (by
          refine Nat.le_trans (join_len 32 100 _ ?_) (by simp)
          exact HWL6.out))
        clear hWJ hOJ
        gi_wp2
        refine ⟨trivial, (callsIn_wide.2 HJ.out).mono ?_⟩
        rintro e WE ⟨rfl, hbE⟩
        have hkE : WE.heap[D]? = some (.deferred (some [])) := (hbE.block D (Array.getElem?_eq_some_iff.1 HKDw6.out).1).trans HKDw6.out
        have HBE : Hid (Below w.heap.size w WE) := Lib.hid ((HB0.out.trans (HBw6.out.mono (by omega))).trans (hbE.mono (by omega)))
        clear hbE
        gi_wp2
        refine ⟨by simp, .inl ⟨_, _, rfl, run_takeDeferred hkE, ?_⟩⟩
        refine ⟨.string (str (actText ⟨6, node, port, cost, n, true, by_, unread, bytes⟩)), ?_, rfl, HBE.out.trans (belowK_b (w := w) (Nat.le_refl _) WE D _ _ (by omega) hkE rfl rfl)⟩
        simp [results, Tryz.results75, go_sem]
        rfl
    · have HIN : Hid (∀ y ∈ [node], In64 y) := Lib.hid (by
        intro y hy
        simp only [List.mem_cons, List.not_mem_nil, or_false] at hy
        rcases hy with rfl <;> first | exact HI.out.2.1 | exact HI.out.2.2.1 | exact HI.out.2.2.2.1 | exact HI.out.2.2.2.2 | exact in_byte _)
      have HWL : Hid (∀ l ∈ ([nameA (Int.toNat 7)] ++ [node].map itoa), l.length ≤ 100) := Lib.hid (words_len HIN.out)
      clear HR HW0 HB3 HS HR3 HW3 HX3 HXW hA hB hc
      gi_wp2
      refine ⟨trivial, (callsIn_wide.2 (put_any (w.heap.size + 1) (w.heap.size + 1) W.heap.size 1 [node] ([nameA (Int.toNat 7)]) _ (HLW.out.below ((Below.refl _ _).alloc (Nat.le_refl _) _)) (Whole.new W 3 #[.int .i64 node]) HIN.out (by simp) (by simp) (by simp) (EW.out.here ((Below.refl _ _).alloc (Nat.le_refl _) _)) (by omega) (by simp; omega))).mono ?_⟩
      rintro e w5 ⟨rfl, hLw5, hBw5, hOw5⟩
      have HLw5 := Lib.hid hLw5
      have HBw5 : Hid (Below (w.heap.size + 1) W0 w5) := Lib.hid ((HBW.out.alloc (by omega) _).trans hBw5)
      have HKDw5 : Hid (w5.heap[D]? = some (.deferred (some []))) := Lib.hid (hOw5.same D _ ((Below.heap_alloc W _ D (Array.getElem?_eq_some_iff.1 HKDW.out).1).trans HKDW.out) rfl)
      have hzw5 : W3.heap.size ≤ w5.heap.size := by have := hOw5.size; simp at this; omega
      have Ew5 := Lib.hid (E0.out.below (by omega) HBw5.out)
      clear hLw5 hBw5 hOw5
      obtain ⟨vJ, -, hWJ, hOJ⟩ := HLw5.out.is
      have cJ : w5.cell? ⟨w.heap.size + 1, 0, none⟩ = some vJ := hWJ.cell 0
      have hRJ : w.heap.size + 1 < w5.heap.size := by omega
      have HJ := Lib.hid (join_own (sep := [32]) w5 hOJ (by simp) (by simp) (by
        refine Nat.le_trans (join_len 32 100 _ ?_) (by simp)
        exact HWL.out))
      clear hWJ hOJ
      gi_wp2
      refine ⟨trivial, (callsIn_wide.2 HJ.out).mono ?_⟩
      rintro e WE ⟨rfl, hbE⟩
      have hkE : WE.heap[D]? = some (.deferred (some [])) := (hbE.block D (Array.getElem?_eq_some_iff.1 HKDw5.out).1).trans HKDw5.out
      have HBE : Hid (Below w.heap.size w WE) := Lib.hid ((HB0.out.trans (HBw5.out.mono (by omega))).trans (hbE.mono (by omega)))
      clear hbE
      gi_wp2
      refine ⟨by simp, .inl ⟨_, _, rfl, run_takeDeferred hkE, ?_⟩⟩
      refine ⟨.string (str (actText ⟨7, node, port, cost, n, up, by_, unread, bytes⟩)), ?_, rfl, HBE.out.trans (belowK_b (w := w) (Nat.le_refl _) WE D _ _ (by omega) hkE rfl rfl)⟩
      simp [results, Tryz.results75, go_sem]
      rfl
    · have HIN : Hid (∀ y ∈ [node, n, (by_.toNat : Int)], In64 y) := Lib.hid (by
        intro y hy
        simp only [List.mem_cons, List.not_mem_nil, or_false] at hy
        rcases hy with rfl | rfl | rfl <;> first | exact HI.out.2.1 | exact HI.out.2.2.1 | exact HI.out.2.2.2.1 | exact HI.out.2.2.2.2 | exact in_byte _)
      have HWL : Hid (∀ l ∈ ([nameA (Int.toNat 8)] ++ [node, n, (by_.toNat : Int)].map itoa), l.length ≤ 100) := Lib.hid (words_len HIN.out)
      clear HR HW0 HB3 HS HR3 HW3 HX3 HXW hA hB hc
      cases unread with
      | false =>
        gi_wp2
        refine ⟨trivial, (callsIn_wide.2 (put_any (w.heap.size + 1) (w.heap.size + 1) W.heap.size 3 [node, n, (by_.toNat : Int)] ([nameA (Int.toNat 8)]) _ (HLW.out.below ((Below.refl _ _).alloc (Nat.le_refl _) _)) (Whole.new W 3 #[.int .i64 node, .int .i64 n, .int .i64 (by_.toNat : Int)]) HIN.out (by simp) (by simp) (by simp) (EW.out.here ((Below.refl _ _).alloc (Nat.le_refl _) _)) (by omega) (by simp; omega))).mono ?_⟩
        rintro e w5 ⟨rfl, hLw5, hBw5, hOw5⟩
        have HLw5 := Lib.hid hLw5
        have HBw5 : Hid (Below (w.heap.size + 1) W0 w5) := Lib.hid ((HBW.out.alloc (by omega) _).trans hBw5)
        have HKDw5 : Hid (w5.heap[D]? = some (.deferred (some []))) := Lib.hid (hOw5.same D _ ((Below.heap_alloc W _ D (Array.getElem?_eq_some_iff.1 HKDW.out).1).trans HKDW.out) rfl)
        have hzw5 : W3.heap.size ≤ w5.heap.size := by have := hOw5.size; simp at this; omega
        have Ew5 := Lib.hid (E0.out.below (by omega) HBw5.out)
        clear hLw5 hBw5 hOw5
        obtain ⟨vw6, hBRw6, hWw6, hOw6⟩ := HLw5.out.is
        have cRw6 : w5.cell? ⟨w.heap.size + 1, 0, none⟩ = some vw6 := hWw6.cell 0
        have hXw6 := HX.out.below HBw5.out (by omega)
        have xFw6 : w5.cell? ⟨w.heap.size, 7, none⟩ = some (.bool false) := hXw6.cell 7
        have hRw6 : w.heap.size + 1 < w5.heap.size := by omega
        have hFw6 : w.heap.size < w5.heap.size := by omega
        have HWw6 := Lib.hid hWw6
        have HOw6 := Lib.hid hOw6
        have HBVw6 : Hid (Bs w5 (.slice A bytes.length c) bytes) := Lib.hid (HBV.out.keep (by omega) fun p hp => (HBw5.out.cell (show p.block < _ by omega)).trans (HB0.out.cell hp))
        clear hWw6 hOw6 hXw6
        gi_wp2
        refine wpIn_wide.2 (wp_calm ?_)
        refine wp_region_ext_load (v := vw6) 4 (by kernel_rfl) (by kernel_rfl) rfl rfl (.inl ⟨rfl, ?_⟩) (fun _ _ _ h => h) ?_
        · rintro _ ⟨x, rfl⟩
          have cx := (x.cell ⟨w.heap.size + 1, 0, none⟩ hRw6).trans cRw6
          go_simp
        simp only [List.take_succ_cons, List.take_zero, List.drop_succ_cons, List.drop_zero, Act.put, List.setIfInBounds_toArray, List.set_cons_succ, List.set_cons_zero]
        repeat (go_big_quiet_step (first | (go_at_call 137; exact Ext.callq (either_any _ _ _ _))))
        refine wpQuiet_nil ?_
        rintro _ ⟨zw6, rfl⟩
        go_wp2
        have hzb := zw6.below.size
        refine ⟨⟨⟨_, bel_alloc zw6.below _⟩, rfl⟩, ?_⟩
        have hown2 := own_below HOw6.out zw6.below
        go_wp2_with (at_builtin; refine wpList_push rfl _ _ 40 rfl (w.heap.size + 1) 9 info_str rfl (by decide) Tryz.underlying40 _ _ _ rfl hown2 rfl rfl (by simp) (by omega) ?_)
        intro v' ww6' hown3 hg
        rw [show Value.string { data := #[114, 101, 97, 100] } = Sv (wRead) from rfl] at hown3
        obtain ⟨g3, n3, k3, rfl, c3, f3, hL3, hB3, hK3⟩ := LinesIs.push' (l := wRead) HWw6.out HOw6.out zw6.below hown3 hg hBRw6 (by omega)
        obtain ⟨w6, hnw6⟩ : ∃ X, ww6'.setCell ⟨w.heap.size + 1, 0, none⟩ (.slice (some ⟨g3, 0, none⟩) n3 k3) = X := ⟨_, rfl⟩
        rw [hnw6] at hL3 hB3 hK3
        have HNw6 := Lib.hid hnw6
        have HLw6 := Lib.hid hL3
        have HBw6 : Hid (Below (w.heap.size + 1) W0 w6) := Lib.hid (HBw5.out.trans hB3)
        have HKDw6 : Hid (w6.heap[D]? = some (.deferred (some []))) := Lib.hid (hK3.same D _ HKDw5.out rfl)
        have hzw6 : W3.heap.size ≤ w6.heap.size := by have := hK3.size; omega
        clear hown2 hown3 hg hL3 hB3 hK3 hnw6
        go_wp2
        rw [HNw6.out]
        have HWL6 : Hid (∀ l ∈ [nameA (Int.toNat 8)] ++ [node, n, (by_.toNat : Int)].map itoa ++ [wRead], l.length ≤ 100) := Lib.hid (words_more HWL.out (by decide))
        obtain ⟨vJ, -, hWJ, hOJ⟩ := HLw6.out.is
        have cJ : w6.cell? ⟨w.heap.size + 1, 0, none⟩ = some vJ := hWJ.cell 0
        have hRJ : w.heap.size + 1 < w6.heap.size := by omega
        have HJ := Lib.hid (join_own (sep := [32]) w6 hOJ (by simp) (by simp) (by
          refine Nat.le_trans (join_len 32 100 _ ?_) (by simp)
          exact HWL6.out))
        clear hWJ hOJ
        gi_wp2
        refine ⟨trivial, (callsIn_wide.2 HJ.out).mono ?_⟩
        rintro e WE ⟨rfl, hbE⟩
        have hkE : WE.heap[D]? = some (.deferred (some [])) := (hbE.block D (Array.getElem?_eq_some_iff.1 HKDw6.out).1).trans HKDw6.out
        have HBE : Hid (Below w.heap.size w WE) := Lib.hid ((HB0.out.trans (HBw6.out.mono (by omega))).trans (hbE.mono (by omega)))
        clear hbE
        gi_wp2
        refine ⟨by simp, .inl ⟨_, _, rfl, run_takeDeferred hkE, ?_⟩⟩
        refine ⟨.string (str (actText ⟨8, node, port, cost, n, up, by_, false, bytes⟩)), ?_, rfl, HBE.out.trans (belowK_b (w := w) (Nat.le_refl _) WE D _ _ (by omega) hkE rfl rfl)⟩
        simp [results, Tryz.results75, go_sem]
        rfl
      | true =>
        gi_wp2
        refine ⟨trivial, (callsIn_wide.2 (put_any (w.heap.size + 1) (w.heap.size + 1) W.heap.size 3 [node, n, (by_.toNat : Int)] ([nameA (Int.toNat 8)]) _ (HLW.out.below ((Below.refl _ _).alloc (Nat.le_refl _) _)) (Whole.new W 3 #[.int .i64 node, .int .i64 n, .int .i64 (by_.toNat : Int)]) HIN.out (by simp) (by simp) (by simp) (EW.out.here ((Below.refl _ _).alloc (Nat.le_refl _) _)) (by omega) (by simp; omega))).mono ?_⟩
        rintro e w5 ⟨rfl, hLw5, hBw5, hOw5⟩
        have HLw5 := Lib.hid hLw5
        have HBw5 : Hid (Below (w.heap.size + 1) W0 w5) := Lib.hid ((HBW.out.alloc (by omega) _).trans hBw5)
        have HKDw5 : Hid (w5.heap[D]? = some (.deferred (some []))) := Lib.hid (hOw5.same D _ ((Below.heap_alloc W _ D (Array.getElem?_eq_some_iff.1 HKDW.out).1).trans HKDW.out) rfl)
        have hzw5 : W3.heap.size ≤ w5.heap.size := by have := hOw5.size; simp at this; omega
        have Ew5 := Lib.hid (E0.out.below (by omega) HBw5.out)
        clear hLw5 hBw5 hOw5
        obtain ⟨vw6, hBRw6, hWw6, hOw6⟩ := HLw5.out.is
        have cRw6 : w5.cell? ⟨w.heap.size + 1, 0, none⟩ = some vw6 := hWw6.cell 0
        have hXw6 := HX.out.below HBw5.out (by omega)
        have xFw6 : w5.cell? ⟨w.heap.size, 7, none⟩ = some (.bool true) := hXw6.cell 7
        have hRw6 : w.heap.size + 1 < w5.heap.size := by omega
        have hFw6 : w.heap.size < w5.heap.size := by omega
        have HWw6 := Lib.hid hWw6
        have HOw6 := Lib.hid hOw6
        have HBVw6 : Hid (Bs w5 (.slice A bytes.length c) bytes) := Lib.hid (HBV.out.keep (by omega) fun p hp => (HBw5.out.cell (show p.block < _ by omega)).trans (HB0.out.cell hp))
        clear hWw6 hOw6 hXw6
        gi_wp2
        refine wpIn_wide.2 (wp_calm ?_)
        refine wp_region_ext_load (v := vw6) 4 (by kernel_rfl) (by kernel_rfl) rfl rfl (.inl ⟨rfl, ?_⟩) (fun _ _ _ h => h) ?_
        · rintro _ ⟨x, rfl⟩
          have cx := (x.cell ⟨w.heap.size + 1, 0, none⟩ hRw6).trans cRw6
          go_simp
        simp only [List.take_succ_cons, List.take_zero, List.drop_succ_cons, List.drop_zero, Act.put, List.setIfInBounds_toArray, List.set_cons_succ, List.set_cons_zero]
        repeat (go_big_quiet_step (first | (go_at_call 137; exact Ext.callq (either_any _ _ _ _))))
        refine wpQuiet_nil ?_
        rintro _ ⟨zw6, rfl⟩
        go_wp2
        have hzb := zw6.below.size
        refine ⟨⟨⟨_, bel_alloc zw6.below _⟩, rfl⟩, ?_⟩
        have hown2 := own_below HOw6.out zw6.below
        go_wp2_with (at_builtin; refine wpList_push rfl _ _ 40 rfl (w.heap.size + 1) 9 info_str rfl (by decide) Tryz.underlying40 _ _ _ rfl hown2 rfl rfl (by simp) (by omega) ?_)
        intro v' ww6' hown3 hg
        rw [show Value.string { data := #[117, 110, 114, 101, 97, 100] } = Sv (wUnread) from rfl] at hown3
        obtain ⟨g3, n3, k3, rfl, c3, f3, hL3, hB3, hK3⟩ := LinesIs.push' (l := wUnread) HWw6.out HOw6.out zw6.below hown3 hg hBRw6 (by omega)
        obtain ⟨w6, hnw6⟩ : ∃ X, ww6'.setCell ⟨w.heap.size + 1, 0, none⟩ (.slice (some ⟨g3, 0, none⟩) n3 k3) = X := ⟨_, rfl⟩
        rw [hnw6] at hL3 hB3 hK3
        have HNw6 := Lib.hid hnw6
        have HLw6 := Lib.hid hL3
        have HBw6 : Hid (Below (w.heap.size + 1) W0 w6) := Lib.hid (HBw5.out.trans hB3)
        have HKDw6 : Hid (w6.heap[D]? = some (.deferred (some []))) := Lib.hid (hK3.same D _ HKDw5.out rfl)
        have hzw6 : W3.heap.size ≤ w6.heap.size := by have := hK3.size; omega
        clear hown2 hown3 hg hL3 hB3 hK3 hnw6
        go_wp2
        rw [HNw6.out]
        have HWL6 : Hid (∀ l ∈ [nameA (Int.toNat 8)] ++ [node, n, (by_.toNat : Int)].map itoa ++ [wUnread], l.length ≤ 100) := Lib.hid (words_more HWL.out (by decide))
        obtain ⟨vJ, -, hWJ, hOJ⟩ := HLw6.out.is
        have cJ : w6.cell? ⟨w.heap.size + 1, 0, none⟩ = some vJ := hWJ.cell 0
        have hRJ : w.heap.size + 1 < w6.heap.size := by omega
        have HJ := Lib.hid (join_own (sep := [32]) w6 hOJ (by simp) (by simp) (by
          refine Nat.le_trans (join_len 32 100 _ ?_) (by simp)
          exact HWL6.out))
        clear hWJ hOJ
        gi_wp2
        refine ⟨trivial, (callsIn_wide.2 HJ.out).mono ?_⟩
        rintro e WE ⟨rfl, hbE⟩
        have hkE : WE.heap[D]? = some (.deferred (some [])) := (hbE.block D (Array.getElem?_eq_some_iff.1 HKDw6.out).1).trans HKDw6.out
        have HBE : Hid (Below w.heap.size w WE) := Lib.hid ((HB0.out.trans (HBw6.out.mono (by omega))).trans (hbE.mono (by omega)))
        clear hbE
        gi_wp2
        refine ⟨by simp, .inl ⟨_, _, rfl, run_takeDeferred hkE, ?_⟩⟩
        refine ⟨.string (str (actText ⟨8, node, port, cost, n, up, by_, true, bytes⟩)), ?_, rfl, HBE.out.trans (belowK_b (w := w) (Nat.le_refl _) WE D _ _ (by omega) hkE rfl rfl)⟩
        simp [results, Tryz.results75, go_sem]
        rfl
    · have HIN : Hid (∀ y ∈ [node], In64 y) := Lib.hid (by
        intro y hy
        simp only [List.mem_cons, List.not_mem_nil, or_false] at hy
        rcases hy with rfl <;> first | exact HI.out.2.1 | exact HI.out.2.2.1 | exact HI.out.2.2.2.1 | exact HI.out.2.2.2.2 | exact in_byte _)
      have HWL : Hid (∀ l ∈ ([nameA (Int.toNat 9)] ++ [node].map itoa), l.length ≤ 100) := Lib.hid (words_len HIN.out)
      clear HR HW0 HB3 HS HR3 HW3 HX3 HXW hA hB hc
      gi_wp2
      refine ⟨trivial, (callsIn_wide.2 (put_any (w.heap.size + 1) (w.heap.size + 1) W.heap.size 1 [node] ([nameA (Int.toNat 9)]) _ (HLW.out.below ((Below.refl _ _).alloc (Nat.le_refl _) _)) (Whole.new W 3 #[.int .i64 node]) HIN.out (by simp) (by simp) (by simp) (EW.out.here ((Below.refl _ _).alloc (Nat.le_refl _) _)) (by omega) (by simp; omega))).mono ?_⟩
      rintro e w5 ⟨rfl, hLw5, hBw5, hOw5⟩
      have HLw5 := Lib.hid hLw5
      have HBw5 : Hid (Below (w.heap.size + 1) W0 w5) := Lib.hid ((HBW.out.alloc (by omega) _).trans hBw5)
      have HKDw5 : Hid (w5.heap[D]? = some (.deferred (some []))) := Lib.hid (hOw5.same D _ ((Below.heap_alloc W _ D (Array.getElem?_eq_some_iff.1 HKDW.out).1).trans HKDW.out) rfl)
      have hzw5 : W3.heap.size ≤ w5.heap.size := by have := hOw5.size; simp at this; omega
      have Ew5 := Lib.hid (E0.out.below (by omega) HBw5.out)
      clear hLw5 hBw5 hOw5
      obtain ⟨vw6, hBRw6, hWw6, hOw6⟩ := HLw5.out.is
      have cRw6 : w5.cell? ⟨w.heap.size + 1, 0, none⟩ = some vw6 := hWw6.cell 0
      have hXw6 := HX.out.below HBw5.out (by omega)
      have xFw6 : w5.cell? ⟨w.heap.size, 8, none⟩ = some (.slice A bytes.length c) := hXw6.cell 8
      have hRw6 : w.heap.size + 1 < w5.heap.size := by omega
      have hFw6 : w.heap.size < w5.heap.size := by omega
      have HWw6 := Lib.hid hWw6
      have HOw6 := Lib.hid hOw6
      have HBVw6 : Hid (Bs w5 (.slice A bytes.length c) bytes) := Lib.hid (HBV.out.keep (by omega) fun p hp => (HBw5.out.cell (show p.block < _ by omega)).trans (HB0.out.cell hp))
      clear hWw6 hOw6 hXw6
      gi_wp2
      refine wpIn_wide.2 (wp_calm ?_)
      refine wp_region_ext_load (v := vw6) 4 (by kernel_rfl) (by kernel_rfl) rfl rfl (.inl ⟨rfl, ?_⟩) (fun _ _ _ h => h) ?_
      · rintro _ ⟨x, rfl⟩
        have cx := (x.cell ⟨w.heap.size + 1, 0, none⟩ hRw6).trans cRw6
        go_simp
      simp only [List.take_succ_cons, List.take_zero, List.drop_succ_cons, List.drop_zero, Act.put, List.setIfInBounds_toArray, List.set_cons_succ, List.set_cons_zero]
      repeat (go_big_quiet_step (first | (go_at_call 138; exact Ext.call (chex_any _ bytes _ (HBVw6.out.ext _) (by omega)))))
      refine wpQuiet_nil ?_
      rintro _ ⟨zw6, rfl⟩
      go_wp2
      have hzb := zw6.below.size
      refine ⟨⟨⟨_, bel_alloc zw6.below _⟩, rfl⟩, ?_⟩
      have hown2 := own_below HOw6.out zw6.below
      go_wp2_with (at_builtin; refine wpList_push rfl _ _ 40 rfl (w.heap.size + 1) 9 info_str rfl (by decide) Tryz.underlying40 _ _ _ rfl hown2 rfl rfl (by simp) (by omega) ?_)
      intro v' ww6' hown3 hg
      rw [show Value.string (str (hexD bytes)) = Sv (hexD bytes) from rfl] at hown3
      obtain ⟨g3, n3, k3, rfl, c3, f3, hL3, hB3, hK3⟩ := LinesIs.push' (l := hexD bytes) HWw6.out HOw6.out zw6.below hown3 hg hBRw6 (by omega)
      obtain ⟨w6, hnw6⟩ : ∃ X, ww6'.setCell ⟨w.heap.size + 1, 0, none⟩ (.slice (some ⟨g3, 0, none⟩) n3 k3) = X := ⟨_, rfl⟩
      rw [hnw6] at hL3 hB3 hK3
      have HNw6 := Lib.hid hnw6
      have HLw6 := Lib.hid hL3
      have HBw6 : Hid (Below (w.heap.size + 1) W0 w6) := Lib.hid (HBw5.out.trans hB3)
      have HKDw6 : Hid (w6.heap[D]? = some (.deferred (some []))) := Lib.hid (hK3.same D _ HKDw5.out rfl)
      have hzw6 : W3.heap.size ≤ w6.heap.size := by have := hK3.size; omega
      clear hown2 hown3 hg hL3 hB3 hK3 hnw6
      go_wp2
      rw [HNw6.out]
      have HWL6 : Hid (∀ l ∈ [nameA (Int.toNat 9)] ++ [node].map itoa ++ [hexD bytes], l.length ≤ 200001) := Lib.hid (words_more (fun l hl => Nat.le_trans (HWL.out l hl) (by omega)) (by have := hexD_len bytes; omega))
      obtain ⟨vJ, -, hWJ, hOJ⟩ := HLw6.out.is
      have cJ : w6.cell? ⟨w.heap.size + 1, 0, none⟩ = some vJ := hWJ.cell 0
      have hRJ : w.heap.size + 1 < w6.heap.size := by omega
      have HJ := Lib.hid (join_own (sep := [32]) w6 hOJ (by simp) (by simp) (by
        refine Nat.le_trans (join_len 32 200001 _ ?_) (by simp)
        exact HWL6.out))
      clear hWJ hOJ
      gi_wp2
      refine ⟨trivial, (callsIn_wide.2 HJ.out).mono ?_⟩
      rintro e WE ⟨rfl, hbE⟩
      have hkE : WE.heap[D]? = some (.deferred (some [])) := (hbE.block D (Array.getElem?_eq_some_iff.1 HKDw6.out).1).trans HKDw6.out
      have HBE : Hid (Below w.heap.size w WE) := Lib.hid ((HB0.out.trans (HBw6.out.mono (by omega))).trans (hbE.mono (by omega)))
      clear hbE
      gi_wp2
      refine ⟨by simp, .inl ⟨_, _, rfl, run_takeDeferred hkE, ?_⟩⟩
      refine ⟨.string (str (actText ⟨9, node, port, cost, n, up, by_, unread, bytes⟩)), ?_, rfl, HBE.out.trans (belowK_b (w := w) (Nat.le_refl _) WE D _ _ (by omega) hkE rfl rfl)⟩
      simp [results, Tryz.results75, go_sem]
      rfl
  case stop =>
    rintro D c pre W _ _ h _
    exact h.elim
end Go.Proofs.YtfbangojgjcbcaaGreatDoor
namespace Go.Proofs.YtfbangojgjcbcaaGreatDoor
open Go.RowKit Pl
/-- A part's letter. -/
def letter : Pt → UInt8
  | .n => 110
  | .p => 112
  | .c => 99
  | .i => 105
  | .u => 117
  | .b => 98
  | .r => 114
  | .x => 120
/-- Is a letter in a text? -/
def hasB (l : List UInt8) (c : UInt8) : Bool := l.contains c
def lettersA (k : Nat) : List UInt8 := (partsA k).map letter
set_option maxRecDepth 100000 in
set_option maxHeartbeats 2000000 in
theorem rparts_in (k : Int) (w : World) (h1 : 1 ≤ k) (h9 : k ≤ 9) :
    Calls Tryz.prog 78 #[.int .i64 k] w fun e w' => e = .returned (.string (str (lettersA k.toNat))) ∧ Below w.heap.size w w' := by
  rcases (by omega : k = 1 ∨ k = 2 ∨ k = 3 ∨ k = 4 ∨ k = 5 ∨ k = 6 ∨ k = 7 ∨ k = 8 ∨ k = 9) with rfl | rfl | rfl | rfl | rfl | rfl | rfl | rfl | rfl
  all_goals
    go_enter Tryz.func78, Tryz.ntmps78
    go_wp2
    go_ret
    exact ⟨rfl, (by repeat (first | exact Below.refl _ _ | apply Below.drew | apply Go.below_drewN | apply bel_alloc | apply Ext.lift | apply bel_set0 | apply bel_set))⟩
set_option maxRecDepth 100000 in
theorem rparts_out (k : Int) (w : World) (h : k < 1 ∨ 9 < k) :
    Calls Tryz.prog 78 #[.int .i64 k] w fun e w' => e = .returned (.string (str [63])) ∧ Below w.heap.size w w' := by
  rcases h with h | h
  · have d1 : decide (k < 1) = true := decide_eq_true h
    go_enter Tryz.func78, Tryz.ntmps78
    go_wp2
    go_ret
    exact ⟨rfl, (by repeat (first | exact Below.refl _ _ | apply Below.drew | apply Go.below_drewN | apply bel_alloc | apply Ext.lift | apply bel_set0 | apply bel_set))⟩
  · have d1 : decide (k < 1) = false := decide_eq_false (by omega)
    go_enter Tryz.func78, Tryz.ntmps78
    go_wp2
    go_ret
    exact ⟨rfl, (by repeat (first | exact Below.refl _ _ | apply Below.drew | apply Go.below_drewN | apply bel_alloc | apply Ext.lift | apply bel_set0 | apply bel_set))⟩
set_option maxRecDepth 100000 in
set_option maxHeartbeats 2000000 in
theorem rname_in (k : Int) (w : World) (h1 : 1 ≤ k) (h9 : k ≤ 9) :
    Calls Tryz.prog 81 #[.int .i64 k] w fun e w' => e = .returned (.string (str (nameA k.toNat))) ∧ Below w.heap.size w w' := by
  rcases (by omega : k = 1 ∨ k = 2 ∨ k = 3 ∨ k = 4 ∨ k = 5 ∨ k = 6 ∨ k = 7 ∨ k = 8 ∨ k = 9) with rfl | rfl | rfl | rfl | rfl | rfl | rfl | rfl | rfl
  all_goals
    go_enter Tryz.func81, Tryz.ntmps81
    go_wp2
    go_ret
    exact ⟨rfl, (by repeat (first | exact Below.refl _ _ | apply Below.drew | apply Go.below_drewN | apply bel_alloc | apply Ext.lift | apply bel_set0 | apply bel_set))⟩
set_option maxRecDepth 100000 in
set_option maxHeartbeats 1000000 in
theorem rhas25 (l : List UInt8) (c : UInt8) (w : World) (hl : l.length ≤ 1000000) :
    Calls Tryz.prog 79 #[.string (str l), .int .u8 (c.toNat : Int)] w fun e w' => e = .returned (.bool (hasB l c)) ∧ w = w' := by
  have hz := str_size l
  go_enter Tryz.func79, Tryz.ntmps79
  go_wp2
  go_loop [5] (fun i => ∃ k : Nat, k ≤ l.length ∧ i = .int .i64 k ∧ Hid ((l.take k).contains c = false)) (fun i => l.length - (intOf i).toNat)
  case atStart => exact ⟨0, Nat.zero_le _, rfl, Lib.hid (by simp)⟩
  case round =>
    obtain ⟨k, hk, rfl, HC⟩ := hrel
    by_cases hlt : k < l.length
    · obtain ⟨b, hb⟩ : ∃ b, l[k]'hlt = b := ⟨_, rfl⟩
      have hlt' := str_lt hlt
      have ej : (str l)[k]'hlt' = b := by rw [str_at l k hlt, hb]
      have hgk : l[k]? = some b := by rw [List.getElem?_eq_getElem hlt, hb]
      by_cases he : b = c
      · have d : (((str l)[k]'hlt').toNat : Int) = (c.toNat : Int) := by rw [ej, he]
        have HT : Hid (hasB l c = true) := Lib.hid (by unfold hasB; rw [List.contains_iff_mem]; rw [← he]; exact List.mem_of_getElem? hgk)
        clear hb ej hgk he
        go_wp2
        go_ret
        exact ⟨by rw [HT.out]; rfl, rfl⟩
      · have d : ((((str l)[k]'hlt').toNat : Int) == (c.toNat : Int)) = false := by
          rw [ej, beq_eq_false_iff_ne]
          intro h
          exact he (UInt8.toNat_inj.1 (by omega))
        have HN : Hid ((l.take (k + 1)).contains c = false) := Lib.hid (by
          rw [List.take_add_one, hgk]
          have h1 := HC.out
          rw [Bool.eq_false_iff, ne_eq, List.contains_iff_mem] at h1 ⊢
          intro hm
          rcases List.mem_append.1 hm with h | h
          · exact h1 h
          · simp at h; exact he h.symm)
        clear hb ej hgk he
        go_wp2
        go_round
        case rel => exact ⟨k + 1, by omega, by go_num, HN⟩
        case measure => simp [intOf]; omega
    · obtain rfl : k = l.length := by omega
      have HT : Hid (hasB l c = false) := Lib.hid (by have := HC.out; rwa [List.take_length] at this)
      go_wp2
      go_ret
      exact ⟨by rw [HT.out]; rfl, rfl⟩
end Go.Proofs.YtfbangojgjcbcaaGreatDoor
namespace Go.Proofs.YtfbangojgjcbcaaGreatDoor
open Go.RowKit Pl
/-- A long piece of a walk, cut. -/
theorem wpList_cut {P : Program} {ops : Array Oper} {Q : Exit → Act → World → Prop} (R : Act → World → Prop) : ∀ (n : Nat) (l : List Oper) (a : Act) (w : World),
    wpList P ops (Exit.then R Q) (l.take n) a w → (∀ a' w', R a' w' → wpList P ops Q (l.drop n) a' w') → wpList P ops Q l a w
  | 0, _, a, w, h, h2 => h2 a w h
  | _ + 1, [], a, w, h, h2 => h2 a w h
  | n + 1, o :: l, a, w, h, h2 => by
    rw [List.take_succ_cons] at h
    unfold wpList at h ⊢
    split
    · rename_i hw
      rw [if_pos hw] at h
      rcases h with h | h
      · exact .inl (Oper.wp_mono (fun a' w' ha' => wpList_cut R n l a' w' ha' h2) (wp_then h))
      · exact .inr h
    · rename_i hw
      rw [if_neg hw] at h
      exact wpList_cut R n l _ w h h2
theorem frame_open {t : Array Value} (n : Nat) (h : t.size = n) : ∃ u : Nat → Value, (∀ i v, t[i]? = some v → u i = v) ∧ t = ((List.range n).map u).toArray := by
  refine ⟨fun i => t.getD i undef, fun i v hv => by simp [hv], ?_⟩
  subst h
  apply Array.ext (by simp)
  intro i h1 h2
  simp [Array.getD, h1]
/-- What stands between two pieces of the walk. -/
def MidM (x y s : Value) (k : Nat) (v : Bool) (w1 : World) (a' : Act) (w' : World) : Prop :=
  ∃ b : Bool, Hid (b = v) ∧ a'.defers = [] ∧ a'.tmps.size = 86 ∧ a'.tmps[0]? = some x ∧ a'.tmps[1]? = some y ∧ a'.tmps[3]? = some s ∧ a'.tmps[k]? = some (.bool b) ∧ w' = w1
theorem has_part {k : Nat} (h1 : 1 ≤ k) (h9 : k ≤ 9) (q : Pt) : hasB (lettersA k) (letter q) = (partsA k).contains q := by
  rcases (by omega : k = 1 ∨ k = 2 ∨ k = 3 ∨ k = 4 ∨ k = 5 ∨ k = 6 ∨ k = 7 ∨ k = 8 ∨ k = 9) with rfl | rfl | rfl | rfl | rfl | rfl | rfl | rfl | rfl <;> cases q <;> decide
def accA0 (a : ActP) (ps : List UInt8) : Bool := (decide (a.node = 0) || hasB ps 110)
def accA1 (a : ActP) (ps : List UInt8) : Bool := accA0 a ps && (decide (a.port = 0) || hasB ps 112)
def accA2 (a : ActP) (ps : List UInt8) : Bool := accA1 a ps && (decide (a.cost = 0) || hasB ps 99)
def accA3 (a : ActP) (ps : List UInt8) : Bool := accA2 a ps && (decide (a.n = 0) || hasB ps 105)
def accA4 (a : ActP) (ps : List UInt8) : Bool := accA3 a ps && (!a.up || hasB ps 117)
def accA5 (a : ActP) (ps : List UInt8) : Bool := accA4 a ps && (decide (a.by_ = 0) || hasB ps 98)
def accA6 (a : ActP) (ps : List UInt8) : Bool := accA5 a ps && (!a.unread || hasB ps 114)
def accA7 (a : ActP) (ps : List UInt8) : Bool := accA6 a ps && (decide (a.bytes = []) || hasB ps 120)
theorem acc_bare {a : ActP} (hk : K9 a) : accA7 a (lettersA a.kind.toNat) = bareOk a := by
  have h1 : 1 ≤ a.kind.toNat := by have := hk.1; omega
  have h9 : a.kind.toNat ≤ 9 := by have := hk.2; omega
  have e := fun q => has_part h1 h9 q
  unfold accA7 accA6 accA5 accA4 accA3 accA2 accA1 accA0 bareOk
  dsimp only
  rw [← e .n, ← e .p, ← e .c, ← e .i, ← e .u, ← e .b, ← e .r, ← e .x]
  rfl
set_option maxRecDepth 100000 in
set_option maxHeartbeats 8000000 in
theorem rmayAct_in (a : ActP) (bv : Value) (w : World) (hk : K9 a) (h : Bs w bv a.bytes) (hl : a.bytes.length ≤ 2048) :
    Calls Tryz.prog 32 #[actV a bv] w fun e w' => e = .returned (.bool (bareOk a)) ∧ Below w.heap.size w w' := by
  obtain ⟨A, c, rfl, -⟩ := h
  have HP := Lib.hid (fun W => rparts_in a.kind W hk.1 hk.2)
  have HAB := Lib.hid (acc_bare hk)
  obtain ⟨W0, hW0⟩ : ∃ W0, w.alloc (.cells #[.int .i64 a.kind, .int .i64 a.node, .int .i64 a.port, .int .i64 a.cost, .int .i64 a.n, .bool a.up, .int .u8 (a.by_.toNat : Int), .bool a.unread, .slice A a.bytes.length c] 51) = W0 := ⟨_, rfl⟩
  have HB0 : Hid (Below w.heap.size w W0) := Lib.hid (by rw [← hW0]; exact (Below.refl _ _).alloc (Nat.le_refl _) _)
  have HX : Whole W0 w.heap.size 51 #[.int .i64 a.kind, .int .i64 a.node, .int .i64 a.port, .int .i64 a.cost, .int .i64 a.n, .bool a.up, .int .u8 (a.by_.toNat : Int), .bool a.unread, .slice A a.bytes.length c] := by rw [← hW0]; exact Whole.new w _ _
  have hlt1 := HX.lt
  have y0 : W0.cell? ⟨w.heap.size, 0, none⟩ = some (.int .i64 a.kind) := HX.cell 0
  have HXX := Lib.hid HX
  have HW0 := Lib.hid hW0
  have hps : lettersA a.kind.toNat ≠ [63] := by
    rcases hk.cases with e | e | e | e | e | e | e | e | e <;> rw [e] <;> decide
  have hpl : (lettersA a.kind.toNat).length ≤ 10 := by
    rcases hk.cases with e | e | e | e | e | e | e | e | e <;> rw [e] <;> decide
  obtain ⟨ps, hp⟩ : ∃ ps, lettersA a.kind.toNat = ps := ⟨_, rfl⟩
  rw [hp] at HP hps hpl HAB
  have d1 : ((str ps).toList == [63]) = false := by rw [str_toList]; exact beq_eq_false_iff_ne.2 hps
  have d2 : ¬ (str ps).toList = [63] := by rw [str_toList]; exact hps
  have d3 : decide ((2048 : Int) < (a.bytes.length : Int)) = false := decide_eq_false (by omega)
  clear hW0 HX hp hps hk
  go_enter Tryz.func32, Tryz.ntmps32
  go_upto_region 1 with fail
  rw [HW0.out]
  go_wp2_with fail
  refine (HP.out W0).mono ?_
  rintro e w1 ⟨rfl, hb1⟩
  have y8 : w1.cell? ⟨w.heap.size, 8, none⟩ = some (.slice A a.bytes.length c) := (HXX.out.here hb1).cell 8
  have y1 : w1.cell? ⟨w.heap.size, 1, none⟩ = some (.int .i64 a.node) := (HXX.out.here hb1).cell 1
  have y2 : w1.cell? ⟨w.heap.size, 2, none⟩ = some (.int .i64 a.port) := (HXX.out.here hb1).cell 2
  have y3 : w1.cell? ⟨w.heap.size, 3, none⟩ = some (.int .i64 a.cost) := (HXX.out.here hb1).cell 3
  have y4 : w1.cell? ⟨w.heap.size, 4, none⟩ = some (.int .i64 a.n) := (HXX.out.here hb1).cell 4
  have y5 : w1.cell? ⟨w.heap.size, 5, none⟩ = some (.bool a.up) := (HXX.out.here hb1).cell 5
  have y6 : w1.cell? ⟨w.heap.size, 6, none⟩ = some (.int .u8 (a.by_.toNat : Int)) := (HXX.out.here hb1).cell 6
  have y7 : w1.cell? ⟨w.heap.size, 7, none⟩ = some (.bool a.unread) := (HXX.out.here hb1).cell 7
  have HB1 := Lib.hid (HB0.out.trans (hb1.mono HB0.out.size))
  clear hb1 y0
  go_upto_region 4 with fail
  refine wp_region_lit ?_
  simp only [List.append_eq, List.cons_append, List.nil_append]
  refine wpList_cut (MidM (actV a (.slice A a.bytes.length c)) (.pointer (some ⟨w.heap.size, 0, none⟩)) (.string (str ps)) 21 (accA0 a ps) w1) 7 _ _ _ ?_ ?_
  · simp only [List.take_succ_cons, List.take_zero]
    by_cases hf : a.node = 0
    · have q : (a.node == 0) = true := by rw [beq_iff_eq]; exact hf
      have HF := Lib.hid hf
      clear hf
      go_wp2
      exact ⟨true, Lib.hid (by unfold accA0; rw [decide_eq_true HF.out]; rfl), rfl, rfl, rfl, rfl, rfl, rfl, rfl⟩
    · have q : (a.node == 0) = false := by rw [beq_eq_false_iff_ne]; exact hf
      have HF := Lib.hid hf
      clear hf
      have HH : Hid (Calls Tryz.prog 79 #[.string (str ps), .int .u8 110] w1 fun e w' => e = .returned (.bool (hasB ps 110)) ∧ w1 = w') := Lib.hid (rhas25 ps 110 w1 (by omega))
      cases hh : hasB ps 110 with
      | false =>
        rw [hh] at HH
        go_wp2_with (go_at_call 79; with_reducible refine HH.out.mono ?_; rintro e w' ⟨rfl, rfl⟩)
        exact ⟨false, Lib.hid (by unfold accA0; rw [decide_eq_false HF.out]; rw [hh]; rfl), rfl, rfl, rfl, rfl, rfl, rfl, rfl⟩
      | true =>
        rw [hh] at HH
        go_wp2_with (go_at_call 79; with_reducible refine HH.out.mono ?_; rintro e w' ⟨rfl, rfl⟩)
        exact ⟨true, Lib.hid (by unfold accA0; rw [decide_eq_false HF.out]; rw [hh]; rfl), rfl, rfl, rfl, rfl, rfl, rfl, rfl⟩
  rintro ⟨t, ds⟩ w1 ⟨b, HA, q1, q2, q3, q4, q5, q6, rfl⟩
  dsimp only at q1 q2 q3 q4 q5 q6
  subst q1
  obtain ⟨u, hu, rfl⟩ := frame_open 86 q2
  replace q3 := hu _ _ q3
  replace q4 := hu _ _ q4
  replace q5 := hu _ _ q5
  replace q6 := hu _ _ q6
  simp only [List.drop_succ_cons, List.drop_zero, List.range, List.range.loop, List.map_cons, List.map_nil, q3, q4, q5, q6]
  clear q2 q3 q4 q5 q6 hu
  refine wpList_cut (MidM (actV a (.slice A a.bytes.length c)) (.pointer (some ⟨w.heap.size, 0, none⟩)) (.string (str ps)) 30 (accA1 a ps) w1) 9 _ _ _ ?_ ?_
  · simp only [List.take_succ_cons, List.take_zero]
    cases b with
    | false =>
      go_wp2
      exact ⟨false, Lib.hid (by unfold accA1; rw [← HA.out]; rfl), rfl, rfl, rfl, rfl, rfl, rfl, rfl⟩
    | true =>
      by_cases hf : a.port = 0
      · have q : (a.port == 0) = true := by rw [beq_iff_eq]; exact hf
        have HF := Lib.hid hf
        clear hf
        go_wp2
        exact ⟨true, Lib.hid (by unfold accA1; rw [← HA.out]; rw [decide_eq_true HF.out]; rfl), rfl, rfl, rfl, rfl, rfl, rfl, rfl⟩
      · have q : (a.port == 0) = false := by rw [beq_eq_false_iff_ne]; exact hf
        have HF := Lib.hid hf
        clear hf
        have HH : Hid (Calls Tryz.prog 79 #[.string (str ps), .int .u8 112] w1 fun e w' => e = .returned (.bool (hasB ps 112)) ∧ w1 = w') := Lib.hid (rhas25 ps 112 w1 (by omega))
        cases hh : hasB ps 112 with
        | false =>
          rw [hh] at HH
          go_wp2_with (go_at_call 79; with_reducible refine HH.out.mono ?_; rintro e w' ⟨rfl, rfl⟩)
          exact ⟨false, Lib.hid (by unfold accA1; rw [← HA.out]; rw [decide_eq_false HF.out]; rw [hh]; rfl), rfl, rfl, rfl, rfl, rfl, rfl, rfl⟩
        | true =>
          rw [hh] at HH
          go_wp2_with (go_at_call 79; with_reducible refine HH.out.mono ?_; rintro e w' ⟨rfl, rfl⟩)
          exact ⟨true, Lib.hid (by unfold accA1; rw [← HA.out]; rw [decide_eq_false HF.out]; rw [hh]; rfl), rfl, rfl, rfl, rfl, rfl, rfl, rfl⟩
  rintro ⟨t, ds⟩ w1 ⟨b, HA, q1, q2, q3, q4, q5, q6, rfl⟩
  dsimp only at q1 q2 q3 q4 q5 q6
  subst q1
  obtain ⟨u, hu, rfl⟩ := frame_open 86 q2
  replace q3 := hu _ _ q3
  replace q4 := hu _ _ q4
  replace q5 := hu _ _ q5
  replace q6 := hu _ _ q6
  simp only [List.drop_succ_cons, List.drop_zero, List.range, List.range.loop, List.map_cons, List.map_nil, q3, q4, q5, q6]
  clear q2 q3 q4 q5 q6 hu
  refine wpList_cut (MidM (actV a (.slice A a.bytes.length c)) (.pointer (some ⟨w.heap.size, 0, none⟩)) (.string (str ps)) 39 (accA2 a ps) w1) 9 _ _ _ ?_ ?_
  · simp only [List.take_succ_cons, List.take_zero]
    cases b with
    | false =>
      go_wp2
      exact ⟨false, Lib.hid (by unfold accA2; rw [← HA.out]; rfl), rfl, rfl, rfl, rfl, rfl, rfl, rfl⟩
    | true =>
      by_cases hf : a.cost = 0
      · have q : (a.cost == 0) = true := by rw [beq_iff_eq]; exact hf
        have HF := Lib.hid hf
        clear hf
        go_wp2
        exact ⟨true, Lib.hid (by unfold accA2; rw [← HA.out]; rw [decide_eq_true HF.out]; rfl), rfl, rfl, rfl, rfl, rfl, rfl, rfl⟩
      · have q : (a.cost == 0) = false := by rw [beq_eq_false_iff_ne]; exact hf
        have HF := Lib.hid hf
        clear hf
        have HH : Hid (Calls Tryz.prog 79 #[.string (str ps), .int .u8 99] w1 fun e w' => e = .returned (.bool (hasB ps 99)) ∧ w1 = w') := Lib.hid (rhas25 ps 99 w1 (by omega))
        cases hh : hasB ps 99 with
        | false =>
          rw [hh] at HH
          go_wp2_with (go_at_call 79; with_reducible refine HH.out.mono ?_; rintro e w' ⟨rfl, rfl⟩)
          exact ⟨false, Lib.hid (by unfold accA2; rw [← HA.out]; rw [decide_eq_false HF.out]; rw [hh]; rfl), rfl, rfl, rfl, rfl, rfl, rfl, rfl⟩
        | true =>
          rw [hh] at HH
          go_wp2_with (go_at_call 79; with_reducible refine HH.out.mono ?_; rintro e w' ⟨rfl, rfl⟩)
          exact ⟨true, Lib.hid (by unfold accA2; rw [← HA.out]; rw [decide_eq_false HF.out]; rw [hh]; rfl), rfl, rfl, rfl, rfl, rfl, rfl, rfl⟩
  rintro ⟨t, ds⟩ w1 ⟨b, HA, q1, q2, q3, q4, q5, q6, rfl⟩
  dsimp only at q1 q2 q3 q4 q5 q6
  subst q1
  obtain ⟨u, hu, rfl⟩ := frame_open 86 q2
  replace q3 := hu _ _ q3
  replace q4 := hu _ _ q4
  replace q5 := hu _ _ q5
  replace q6 := hu _ _ q6
  simp only [List.drop_succ_cons, List.drop_zero, List.range, List.range.loop, List.map_cons, List.map_nil, q3, q4, q5, q6]
  clear q2 q3 q4 q5 q6 hu
  refine wpList_cut (MidM (actV a (.slice A a.bytes.length c)) (.pointer (some ⟨w.heap.size, 0, none⟩)) (.string (str ps)) 48 (accA3 a ps) w1) 9 _ _ _ ?_ ?_
  · simp only [List.take_succ_cons, List.take_zero]
    cases b with
    | false =>
      go_wp2
      exact ⟨false, Lib.hid (by unfold accA3; rw [← HA.out]; rfl), rfl, rfl, rfl, rfl, rfl, rfl, rfl⟩
    | true =>
      by_cases hf : a.n = 0
      · have q : (a.n == 0) = true := by rw [beq_iff_eq]; exact hf
        have HF := Lib.hid hf
        clear hf
        go_wp2
        exact ⟨true, Lib.hid (by unfold accA3; rw [← HA.out]; rw [decide_eq_true HF.out]; rfl), rfl, rfl, rfl, rfl, rfl, rfl, rfl⟩
      · have q : (a.n == 0) = false := by rw [beq_eq_false_iff_ne]; exact hf
        have HF := Lib.hid hf
        clear hf
        have HH : Hid (Calls Tryz.prog 79 #[.string (str ps), .int .u8 105] w1 fun e w' => e = .returned (.bool (hasB ps 105)) ∧ w1 = w') := Lib.hid (rhas25 ps 105 w1 (by omega))
        cases hh : hasB ps 105 with
        | false =>
          rw [hh] at HH
          go_wp2_with (go_at_call 79; with_reducible refine HH.out.mono ?_; rintro e w' ⟨rfl, rfl⟩)
          exact ⟨false, Lib.hid (by unfold accA3; rw [← HA.out]; rw [decide_eq_false HF.out]; rw [hh]; rfl), rfl, rfl, rfl, rfl, rfl, rfl, rfl⟩
        | true =>
          rw [hh] at HH
          go_wp2_with (go_at_call 79; with_reducible refine HH.out.mono ?_; rintro e w' ⟨rfl, rfl⟩)
          exact ⟨true, Lib.hid (by unfold accA3; rw [← HA.out]; rw [decide_eq_false HF.out]; rw [hh]; rfl), rfl, rfl, rfl, rfl, rfl, rfl, rfl⟩
  rintro ⟨t, ds⟩ w1 ⟨b, HA, q1, q2, q3, q4, q5, q6, rfl⟩
  dsimp only at q1 q2 q3 q4 q5 q6
  subst q1
  obtain ⟨u, hu, rfl⟩ := frame_open 86 q2
  replace q3 := hu _ _ q3
  replace q4 := hu _ _ q4
  replace q5 := hu _ _ q5
  replace q6 := hu _ _ q6
  simp only [List.drop_succ_cons, List.drop_zero, List.range, List.range.loop, List.map_cons, List.map_nil, q3, q4, q5, q6]
  clear q2 q3 q4 q5 q6 hu
  refine wpList_cut (MidM (actV a (.slice A a.bytes.length c)) (.pointer (some ⟨w.heap.size, 0, none⟩)) (.string (str ps)) 57 (accA4 a ps) w1) 9 _ _ _ ?_ ?_
  · simp only [List.take_succ_cons, List.take_zero]
    cases b with
    | false =>
      go_wp2
      exact ⟨false, Lib.hid (by unfold accA4; rw [← HA.out]; rfl), rfl, rfl, rfl, rfl, rfl, rfl, rfl⟩
    | true =>
      cases hf : a.up with
      | false =>
        rw [hf] at y5
        go_wp2
        exact ⟨true, Lib.hid (by unfold accA4; rw [← HA.out]; rw [hf]; rfl), rfl, rfl, rfl, rfl, rfl, rfl, rfl⟩
      | true =>
        rw [hf] at y5
        have HH : Hid (Calls Tryz.prog 79 #[.string (str ps), .int .u8 117] w1 fun e w' => e = .returned (.bool (hasB ps 117)) ∧ w1 = w') := Lib.hid (rhas25 ps 117 w1 (by omega))
        cases hh : hasB ps 117 with
        | false =>
          rw [hh] at HH
          go_wp2_with (go_at_call 79; with_reducible refine HH.out.mono ?_; rintro e w' ⟨rfl, rfl⟩)
          exact ⟨false, Lib.hid (by unfold accA4; rw [← HA.out]; rw [hf]; rw [hh]; rfl), rfl, rfl, rfl, rfl, rfl, rfl, rfl⟩
        | true =>
          rw [hh] at HH
          go_wp2_with (go_at_call 79; with_reducible refine HH.out.mono ?_; rintro e w' ⟨rfl, rfl⟩)
          exact ⟨true, Lib.hid (by unfold accA4; rw [← HA.out]; rw [hf]; rw [hh]; rfl), rfl, rfl, rfl, rfl, rfl, rfl, rfl⟩
  rintro ⟨t, ds⟩ w1 ⟨b, HA, q1, q2, q3, q4, q5, q6, rfl⟩
  dsimp only at q1 q2 q3 q4 q5 q6
  subst q1
  obtain ⟨u, hu, rfl⟩ := frame_open 86 q2
  replace q3 := hu _ _ q3
  replace q4 := hu _ _ q4
  replace q5 := hu _ _ q5
  replace q6 := hu _ _ q6
  simp only [List.drop_succ_cons, List.drop_zero, List.range, List.range.loop, List.map_cons, List.map_nil, q3, q4, q5, q6]
  clear q2 q3 q4 q5 q6 hu
  refine wpList_cut (MidM (actV a (.slice A a.bytes.length c)) (.pointer (some ⟨w.heap.size, 0, none⟩)) (.string (str ps)) 66 (accA5 a ps) w1) 9 _ _ _ ?_ ?_
  · simp only [List.take_succ_cons, List.take_zero]
    cases b with
    | false =>
      go_wp2
      exact ⟨false, Lib.hid (by unfold accA5; rw [← HA.out]; rfl), rfl, rfl, rfl, rfl, rfl, rfl, rfl⟩
    | true =>
      by_cases hf : a.by_ = 0
      · have q : ((a.by_.toNat : Int) == 0) = true := by rw [beq_iff_eq]; rw [hf]; rfl
        have HF := Lib.hid hf
        clear hf
        go_wp2
        exact ⟨true, Lib.hid (by unfold accA5; rw [← HA.out]; rw [decide_eq_true HF.out]; rfl), rfl, rfl, rfl, rfl, rfl, rfl, rfl⟩
      · have q : ((a.by_.toNat : Int) == 0) = false := by rw [beq_eq_false_iff_ne]; intro h; exact hf (UInt8.toNat_inj.1 (by simpa using (by omega : a.by_.toNat = 0)))
        have HF := Lib.hid hf
        clear hf
        have HH : Hid (Calls Tryz.prog 79 #[.string (str ps), .int .u8 98] w1 fun e w' => e = .returned (.bool (hasB ps 98)) ∧ w1 = w') := Lib.hid (rhas25 ps 98 w1 (by omega))
        cases hh : hasB ps 98 with
        | false =>
          rw [hh] at HH
          go_wp2_with (go_at_call 79; with_reducible refine HH.out.mono ?_; rintro e w' ⟨rfl, rfl⟩)
          exact ⟨false, Lib.hid (by unfold accA5; rw [← HA.out]; rw [decide_eq_false HF.out]; rw [hh]; rfl), rfl, rfl, rfl, rfl, rfl, rfl, rfl⟩
        | true =>
          rw [hh] at HH
          go_wp2_with (go_at_call 79; with_reducible refine HH.out.mono ?_; rintro e w' ⟨rfl, rfl⟩)
          exact ⟨true, Lib.hid (by unfold accA5; rw [← HA.out]; rw [decide_eq_false HF.out]; rw [hh]; rfl), rfl, rfl, rfl, rfl, rfl, rfl, rfl⟩
  rintro ⟨t, ds⟩ w1 ⟨b, HA, q1, q2, q3, q4, q5, q6, rfl⟩
  dsimp only at q1 q2 q3 q4 q5 q6
  subst q1
  obtain ⟨u, hu, rfl⟩ := frame_open 86 q2
  replace q3 := hu _ _ q3
  replace q4 := hu _ _ q4
  replace q5 := hu _ _ q5
  replace q6 := hu _ _ q6
  simp only [List.drop_succ_cons, List.drop_zero, List.range, List.range.loop, List.map_cons, List.map_nil, q3, q4, q5, q6]
  clear q2 q3 q4 q5 q6 hu
  refine wpList_cut (MidM (actV a (.slice A a.bytes.length c)) (.pointer (some ⟨w.heap.size, 0, none⟩)) (.string (str ps)) 75 (accA6 a ps) w1) 9 _ _ _ ?_ ?_
  · simp only [List.take_succ_cons, List.take_zero]
    cases b with
    | false =>
      go_wp2
      exact ⟨false, Lib.hid (by unfold accA6; rw [← HA.out]; rfl), rfl, rfl, rfl, rfl, rfl, rfl, rfl⟩
    | true =>
      cases hf : a.unread with
      | false =>
        rw [hf] at y7
        go_wp2
        exact ⟨true, Lib.hid (by unfold accA6; rw [← HA.out]; rw [hf]; rfl), rfl, rfl, rfl, rfl, rfl, rfl, rfl⟩
      | true =>
        rw [hf] at y7
        have HH : Hid (Calls Tryz.prog 79 #[.string (str ps), .int .u8 114] w1 fun e w' => e = .returned (.bool (hasB ps 114)) ∧ w1 = w') := Lib.hid (rhas25 ps 114 w1 (by omega))
        cases hh : hasB ps 114 with
        | false =>
          rw [hh] at HH
          go_wp2_with (go_at_call 79; with_reducible refine HH.out.mono ?_; rintro e w' ⟨rfl, rfl⟩)
          exact ⟨false, Lib.hid (by unfold accA6; rw [← HA.out]; rw [hf]; rw [hh]; rfl), rfl, rfl, rfl, rfl, rfl, rfl, rfl⟩
        | true =>
          rw [hh] at HH
          go_wp2_with (go_at_call 79; with_reducible refine HH.out.mono ?_; rintro e w' ⟨rfl, rfl⟩)
          exact ⟨true, Lib.hid (by unfold accA6; rw [← HA.out]; rw [hf]; rw [hh]; rfl), rfl, rfl, rfl, rfl, rfl, rfl, rfl⟩
  rintro ⟨t, ds⟩ w1 ⟨b, HA, q1, q2, q3, q4, q5, q6, rfl⟩
  dsimp only at q1 q2 q3 q4 q5 q6
  subst q1
  obtain ⟨u, hu, rfl⟩ := frame_open 86 q2
  replace q3 := hu _ _ q3
  replace q4 := hu _ _ q4
  replace q5 := hu _ _ q5
  replace q6 := hu _ _ q6
  simp only [List.drop_succ_cons, List.drop_zero, List.range, List.range.loop, List.map_cons, List.map_nil, q3, q4, q5, q6]
  clear q2 q3 q4 q5 q6 hu
  refine wpList_cut (MidM (actV a (.slice A a.bytes.length c)) (.pointer (some ⟨w.heap.size, 0, none⟩)) (.string (str ps)) 85 (accA7 a ps) w1) 10 _ _ _ ?_ ?_
  · simp only [List.take_succ_cons, List.take_zero]
    cases b with
    | false =>
      go_wp2
      exact ⟨false, Lib.hid (by unfold accA7; rw [← HA.out]; rfl), rfl, rfl, rfl, rfl, rfl, rfl, rfl⟩
    | true =>
      by_cases hf : a.bytes = []
      · have q : ((a.bytes.length : Int) == 0) = true := by rw [beq_iff_eq]; rw [hf]; rfl
        have HF := Lib.hid hf
        clear hf
        go_wp2
        exact ⟨true, Lib.hid (by unfold accA7; rw [← HA.out]; rw [decide_eq_true HF.out]; rfl), rfl, rfl, rfl, rfl, rfl, rfl, rfl⟩
      · have q : ((a.bytes.length : Int) == 0) = false := by rw [beq_eq_false_iff_ne]; intro h; exact hf (List.eq_nil_of_length_eq_zero (by omega))
        have HF := Lib.hid hf
        clear hf
        have HH : Hid (Calls Tryz.prog 79 #[.string (str ps), .int .u8 120] w1 fun e w' => e = .returned (.bool (hasB ps 120)) ∧ w1 = w') := Lib.hid (rhas25 ps 120 w1 (by omega))
        cases hh : hasB ps 120 with
        | false =>
          rw [hh] at HH
          go_wp2_with (go_at_call 79; with_reducible refine HH.out.mono ?_; rintro e w' ⟨rfl, rfl⟩)
          exact ⟨false, Lib.hid (by unfold accA7; rw [← HA.out]; rw [decide_eq_false HF.out]; rw [hh]; rfl), rfl, rfl, rfl, rfl, rfl, rfl, rfl⟩
        | true =>
          rw [hh] at HH
          go_wp2_with (go_at_call 79; with_reducible refine HH.out.mono ?_; rintro e w' ⟨rfl, rfl⟩)
          exact ⟨true, Lib.hid (by unfold accA7; rw [← HA.out]; rw [decide_eq_false HF.out]; rw [hh]; rfl), rfl, rfl, rfl, rfl, rfl, rfl, rfl⟩
  rintro ⟨t, ds⟩ w1 ⟨b, HA, q1, q2, q3, q4, q5, q6, rfl⟩
  dsimp only at q1 q2 q3 q4 q5 q6
  subst q1
  obtain ⟨u, hu, rfl⟩ := frame_open 86 q2
  replace q3 := hu _ _ q3
  replace q4 := hu _ _ q4
  replace q5 := hu _ _ q5
  replace q6 := hu _ _ q6
  simp only [List.drop_succ_cons, List.drop_zero, List.range, List.range.loop, List.map_cons, List.map_nil, q3, q4, q5, q6]
  clear q2 q3 q4 q5 q6 hu
  go_wp2
  go_ret
  exact ⟨by rw [← HAB.out, ← HA.out]; rfl, HB1.out⟩
end Go.Proofs.YtfbangojgjcbcaaGreatDoor
namespace Go.Proofs.YtfbangojgjcbcaaGreatDoor
open Go.RowKit Pl
set_option maxRecDepth 100000 in
set_option maxHeartbeats 8000000 in
theorem rmayAct_off (a : ActP) (bv : Value) (w : World) (h : Bs w bv a.bytes) (hk : (a.kind < 1 ∨ 9 < a.kind) ∨ (1 ≤ a.kind ∧ a.kind ≤ 9 ∧ 2048 < a.bytes.length)) :
    Calls Tryz.prog 32 #[actV a bv] w fun e w' => e = .returned (.bool false) ∧ Below w.heap.size w w' := by
  obtain ⟨A, c, rfl, -⟩ := h
  obtain ⟨W0, hW0⟩ : ∃ W0, w.alloc (.cells #[.int .i64 a.kind, .int .i64 a.node, .int .i64 a.port, .int .i64 a.cost, .int .i64 a.n, .bool a.up, .int .u8 (a.by_.toNat : Int), .bool a.unread, .slice A a.bytes.length c] 51) = W0 := ⟨_, rfl⟩
  have HB0 : Hid (Below w.heap.size w W0) := Lib.hid (by rw [← hW0]; exact (Below.refl _ _).alloc (Nat.le_refl _) _)
  have HX : Whole W0 w.heap.size 51 #[.int .i64 a.kind, .int .i64 a.node, .int .i64 a.port, .int .i64 a.cost, .int .i64 a.n, .bool a.up, .int .u8 (a.by_.toNat : Int), .bool a.unread, .slice A a.bytes.length c] := by rw [← hW0]; exact Whole.new w _ _
  have hlt1 := HX.lt
  have y0 : W0.cell? ⟨w.heap.size, 0, none⟩ = some (.int .i64 a.kind) := HX.cell 0
  have HXX := Lib.hid HX
  have HW0 := Lib.hid hW0
  rcases hk with hk | ⟨h1, h9, hl⟩
  · have HP := Lib.hid (fun W => rparts_out a.kind W hk)
    have d1 : ((str [63]).toList == [63]) = true := by rw [str_toList]; rfl
    have d2 : (str [63]).toList = [63] := str_toList _
    clear hW0 HX hk
    go_enter Tryz.func32, Tryz.ntmps32
    go_upto_region 1 with fail
    rw [HW0.out]
    go_wp2_with fail
    refine (HP.out W0).mono ?_
    rintro e w1 ⟨rfl, hb1⟩
    have HB1 := Lib.hid (HB0.out.trans (hb1.mono HB0.out.size))
    clear hb1 y0
    go_wp2
    go_ret
    exact ⟨rfl, HB1.out⟩
  · have HP := Lib.hid (fun W => rparts_in a.kind W h1 h9)
    have hps : lettersA a.kind.toNat ≠ [63] := by
      rcases K9.cases (a := a) ⟨h1, h9⟩ with e | e | e | e | e | e | e | e | e <;> rw [e] <;> decide
    obtain ⟨ps, hp⟩ : ∃ ps, lettersA a.kind.toNat = ps := ⟨_, rfl⟩
    rw [hp] at HP hps
    have d1 : ((str ps).toList == [63]) = false := by rw [str_toList]; exact beq_eq_false_iff_ne.2 hps
    have d2 : ¬ (str ps).toList = [63] := by rw [str_toList]; exact hps
    have d3 : decide ((2048 : Int) < (a.bytes.length : Int)) = true := decide_eq_true (by omega)
    clear hW0 HX hp hps
    go_enter Tryz.func32, Tryz.ntmps32
    go_upto_region 1 with fail
    rw [HW0.out]
    go_wp2_with fail
    refine (HP.out W0).mono ?_
    rintro e w1 ⟨rfl, hb1⟩
    have y8 : w1.cell? ⟨w.heap.size, 8, none⟩ = some (.slice A a.bytes.length c) := (HXX.out.here hb1).cell 8
    have HB1 := Lib.hid (HB0.out.trans (hb1.mono HB0.out.size))
    clear hb1 y0
    go_wp2
    go_ret
    exact ⟨rfl, HB1.out⟩
theorem rmayAct_any (a : ActP) (bv : Value) (w : World) (h : Bs w bv a.bytes) :
    Calls Tryz.prog 32 #[actV a bv] w fun e w' => e = .returned (.bool (mayA a)) ∧ Below w.heap.size w w' := by
  by_cases h1 : 1 ≤ a.kind
  · by_cases h9 : a.kind ≤ 9
    · by_cases hl : a.bytes.length ≤ 2048
      · have e : mayA a = bareOk a := by
          unfold mayA; rw [decide_eq_true h1, decide_eq_true h9, decide_eq_true hl]; simp
        rw [e]; exact rmayAct_in a bv w ⟨h1, h9⟩ h hl
      · have e : mayA a = false := by
          unfold mayA; rw [decide_eq_false hl]; simp
        rw [e]; exact rmayAct_off a bv w h (.inr ⟨h1, h9, by omega⟩)
    · have e : mayA a = false := by
        unfold mayA; rw [decide_eq_false h9]; simp
      rw [e]; exact rmayAct_off a bv w h (.inl (.inr (by omega)))
  · have e : mayA a = false := by
      unfold mayA; rw [decide_eq_false h1]; simp
    rw [e]; exact rmayAct_off a bv w h (.inl (.inl (by omega)))
end Go.Proofs.YtfbangojgjcbcaaGreatDoor
