/- Part 12 of the proof: ActF, ActN, RoundR, ActQ. -/
import Derived.OwnWalkIn
import Derived.OrdersIn
import Derived.RangeFuncCalls
import Derived.Test.YtfbangojgjcbcaaGreatDoorSB01
import Derived.Test.YtfbangojgjcbcaaGreatDoorSB03
import Derived.Test.YtfbangojgjcbcaaGreatDoorSB04
import Derived.Test.YtfbangojgjcbcaaGreatDoorSB09
import Derived.Test.YtfbangojgjcbcaaGreatDoorSB11
namespace Go.Proofs.YtfbangojgjcbcaaGreatDoor
open Go.RowKit Pl Go.Shelf
open Go.Lib (itoa)
attribute [local go_sem] Oper.semAt_some
/-- 'out = append(out, x)' within a fence. -/
theorem wpListIn_push {F : Fence} {n : Nat} {P : Program} {ops : Array Oper} {rest : List Oper} {o : Oper} {a : Act} {Q : Exit → Act → World → Prop} {w0 : World} {e0 : TypeId} {u : Value} (hgd : o.guard = none) (s x : Operand) (t : TypeId)
    (ho : o.op = .call { callee := .builtin .append, args := #[s, x], argTypes := #[t, t] })
    (base : Nat) (e : TypeId) {z : Value} {bytes : Nat} (hinfo : (P.info? e).map (fun i => (i.zero, i.size, i.bytes)) = some (some z, 1, bytes)) (hzs : z.cells.size = 1) (hby : bytes ≤ 1000) (ht : P.underlying t = some (.slice e))
    (v : Value) (k : Nat) (xs : List Value) (hs : a.eval s = v) (hown : w0.ownsRow base e 1 v k xs) (hx : a.eval x = .slice (some ⟨w0.heap.size, 0, none⟩) 1 1) (hu : u.oneCell' = true)
    (hk : k ≤ 1000000000) (hbase : base ≤ w0.heap.size)
    (h : ∀ v' w', w'.ownsRow base e 1 v' (k + 1) (xs ++ [u]) → w0.grownBy w' v.ownBlock → wpListIn F n P ops Q rest (a.put o.dst v') w') : wpListIn F n P ops Q (o :: rest) a (w0.alloc (.cells #[u] e0)) := by
  obtain ⟨i0, hi, hz0, hz1, hz2⟩ := info_parts hinfo
  refine wpListIn_append_own _ hgd s x t ho base e i0 z 1 bytes ht hi hz0 hz1 hz2 hzs (by decide) v k xs hs (hown.alloc _) ⟨w0.heap.size, 0, none⟩ 1 1 [u] hx rfl (cell_one_new _ _ _) (by intro y hy; simp at hy; subst hy; exact hu) (by unfold maxLen; omega) ?_ (by simp; omega) fun v' w' h1 h2 _ => h v' w' h1 (grownBy_alloc h2)
  have : (k + 1) * bytes ≤ (k + 1) * 1000 := Nat.mul_le_mul_left _ hby
  omega
/-- Box R holds a slice of the words ls, its row from base on. -/
structure WordsAt (base R : Nat) (ls : List (List UInt8)) (w : World) : Prop where
  is : ∃ v, Whole w R 40 #[v] ∧ w.ownsRow base 9 1 v ls.length (ls.map Sv)
theorem WordsAt.own {α : Type} (base R : Nat) (f : α → List (List UInt8)) : Own (fun s W => WordsAt base R (f s) W) := fun s X Y row hs hg hr => by
  obtain ⟨v, h1, h2⟩ := hs.is
  refine ⟨v, whole_own R _ (fun (_ : Unit) => #[v]) () X Y row h1 hg hr, h2.kept hg ?_⟩
  rcases h2.2 with ⟨rfl, _⟩ | ⟨g, cap, cur, rfl, _, hh, _⟩
  · exact .inl rfl
  · right
    intro e
    obtain ⟨o, ho, hc⟩ := hr g e.symm
    rw [hh] at ho
    injection ho with ho
    subst ho
    simp [Obj.isCells] at hc
theorem WordsAt.lines {base B R : Nat} {ls : List (List UInt8)} {w : World} (h : WordsAt base R ls w) (hB : B ≤ base) (hR : B ≤ R := by omega) : LinesIs B R ls w := by
  obtain ⟨v, h1, h2⟩ := h.is
  refine ⟨v, hR, h1, h2.1, ?_⟩
  rcases h2.2 with h3 | ⟨g, cap, cur, a1, a2, a3⟩
  · exact .inl h3
  · exact .inr ⟨g, cap, cur, a1, Nat.le_trans hB a2, a3⟩
theorem join_len (c : UInt8) (M : Nat) : ∀ ls : List (List UInt8), (∀ l ∈ ls, l.length ≤ M) → (Lib.join ls [c]).length ≤ (M + 1) * ls.length
  | [], _ => by simp [Lib.join]
  | [x], h => by have := h x (by simp); simp [Lib.join]; omega
  | x :: y :: r, h => by
    have ih := join_len c M (y :: r) (fun l hl => h l (List.mem_cons_of_mem _ hl))
    have hx := h x (by simp)
    rw [Pl.join_two, List.length_append, List.length_cons, List.length_cons, Nat.mul_add]
    omega
theorem in_byte (b : UInt8) : In64 (b.toNat : Int) := by
  have := b.toNat_lt
  constructor <;> omega
theorem name_len : ∀ k : Nat, (nameA k).length ≤ 6
  | 0 | 1 | 2 | 3 | 4 | 5 | 6 | 7 | 8 | 9 => by decide
  | _ + 10 => by simp [nameA]
theorem words_len {k : Nat} {ns : List Int} (hn : ∀ x ∈ ns, In64 x) : ∀ l ∈ [nameA k] ++ ns.map itoa, l.length ≤ 100 := by
  intro l hl
  rcases List.mem_append.1 hl with h | h
  · simp only [List.mem_singleton] at h
    subst h
    have := name_len k
    omega
  · obtain ⟨x, hx, rfl⟩ := List.mem_map.1 h
    have := itoa_len20 (hn x hx)
    omega
/-- A region that ends in no other way than behind itself. -/
theorem wp_calm {P : Program} {c : Code} {Q : Exit → Act → World → Prop} {a : Act} {w : World} (h : c.wp P (Exit.then (fun a w => Q .normal a w) (fun _ _ _ => False)) a w) : c.wp P Q a w :=
  wp_mono h fun e _ _ h => by cases e <;> first | exact h | exact h.elim
theorem words_more {M : Nat} {ws : List (List UInt8)} {x : List UInt8} (h : ∀ l ∈ ws, l.length ≤ M) (hx : x.length ≤ M) : ∀ l ∈ ws ++ [x], l.length ≤ M := by
  intro l hl
  rcases List.mem_append.1 hl with h' | h'
  · exact h l h'
  · simp only [List.mem_singleton] at h'
    rw [h']; exact hx
theorem hexD_len (l : List UInt8) : (hexD l).length ≤ 2 * l.length + 1 := by
  unfold hexD
  split
  · simp
  · have : (hexText l).length = 2 * l.length := by
      unfold hexText
      induction l with
      | nil => rfl
      | cons x r ih =>
        rw [List.flatMap_cons, List.length_append]
        by_cases hr : r = []
        · subst hr; rfl
        · rw [ih hr]
          simp [hex1]; omega
    omega
/-- The first word, once it has come. -/
def wordOf (k : Int) (pre : List Nat) : List (List UInt8) := (pre.filter fun (x : Nat) => decide ((x : Int) = k)).map nameA
theorem wordOf_next (k : Int) (pre : List Nat) (x : Nat) : wordOf k (pre ++ [x]) = if (x : Int) = k then wordOf k pre ++ [nameA x] else wordOf k pre := by
  unfold wordOf
  rw [List.filter_append, List.map_append]
  by_cases h : (x : Int) = k <;> simp [h]
theorem wordOf_len (k : Int) (pre : List Nat) : (wordOf k pre).length ≤ pre.length := by
  unfold wordOf
  rw [List.length_map]
  exact List.length_filter_le _ _
theorem wordOf_all {k : Int} (h0 : 1 ≤ k) (h1 : k ≤ 9) : wordOf k kinds9 = [nameA k.toNat] := by
  rcases (by omega : k = 1 ∨ k = 2 ∨ k = 3 ∨ k = 4 ∨ k = 5 ∨ k = 6 ∨ k = 7 ∨ k = 8 ∨ k = 9) with rfl | rfl | rfl | rfl | rfl | rfl | rfl | rfl | rfl <;> rfl
/-- One word more. -/
theorem WordsAt.push {base R : Nat} {ls : List (List UInt8)} {l : List UInt8} {w w3 : World} {v v' : Value} (hW : Whole w R 40 #[v]) (hO : w.ownsRow base 9 1 v ls.length (ls.map Sv))
    (hO3 : w3.ownsRow base 9 1 v' (ls.length + 1) (ls.map Sv ++ [Sv l])) (hg : w.grownBy w3 v.ownBlock) (hRb : R < base) (hbw : base ≤ w.heap.size) :
    ∃ g n k, v' = .slice (some ⟨g, 0, none⟩) n k ∧ w3.cell? ⟨R, 0, none⟩ = some v ∧ w3.frozen? ⟨R, 0, none⟩ = false ∧ WordsAt base R (ls ++ [l]) (w3.setCell ⟨R, 0, none⟩ v') ∧ Below R w (w3.setCell ⟨R, 0, none⟩ v') ∧
      KeepsOthers w (w3.setCell ⟨R, 0, none⟩ v') ∧ (∀ lo hi, R < lo → hi ≤ base → hi ≤ w.heap.size → Between lo hi w (w3.setCell ⟨R, 0, none⟩ v')) ∧ w.heap.size ≤ (w3.setCell ⟨R, 0, none⟩ v').heap.size := by
  obtain ⟨g3, k3, rfl, _, _⟩ := hO3.form (by omega)
  have hno := hW.notRow hO (by decide)
  have hW3 := hW.kept hg (Ne.symm hno)
  refine ⟨g3, _, k3, rfl, hW3.cell 0, hW3.frozen 0, ⟨_, hW3.set 0 _, ?_⟩, ?_, (keeps_row hO hg).trans (KeepsOthers.setCell _ _ _), fun lo hi h1 h2 h3 => ⟨by rw [size_setCell]; exact hg.size, fun g ha hb => ?_⟩, by rw [size_setCell]; exact hg.size⟩
  · rw [List.length_append, List.map_append]
    exact own_grown hW3 hO3 (by decide) (grown_set w3 R 0 _)
  · exact ((Below.refl R w).grown hg (by omega) fun g hg' => by have := (hO.lt g hg').1; omega).setCell (p := ⟨R, 0, none⟩) (Nat.le_refl _) _
  · rw [Below.heap_setCell w3 _ _ g (by show g ≠ R; omega)]
    refine hg.block g (by omega) ?_
    intro he
    have := (hO.lt g he.symm).1
    omega
set_option maxRecDepth 100000 in
set_option maxHeartbeats 8000000 in
theorem cactText_any (a : ActP) (bv : Value) (w : World) (hk : K9 a) (h : Bs w bv a.bytes) (hi : InA a) (hl : a.bytes.length ≤ 100000) (E : Env w) :
    Calls Tryz.prog 75 #[actV a bv] w fun e w' => e = .returned (.string (str (actText a))) ∧ Below w.heap.size w w' := by
  have HBV := Lib.hid h
  have HI := Lib.hid hi
  obtain ⟨A, c, rfl, -⟩ := h
  obtain ⟨k, node, port, cost, n, up, by_, unread, bytes⟩ := a
  obtain ⟨W0, hW0⟩ : ∃ W0, (w.alloc (.cells #[.int .i64 k, .int .i64 node, .int .i64 port, .int .i64 cost, .int .i64 n, .bool up, .int .u8 (by_.toNat : Int), .bool unread, .slice A bytes.length c] 51)).alloc (.cells #[.slice none 0 0] 40) = W0 := ⟨_, rfl⟩
  have HB0 : Hid (Below w.heap.size w W0) := Lib.hid (by rw [← hW0]; exact ((Below.refl _ _).alloc (Nat.le_refl _) _).alloc (by simp) _)
  have HX : Hid (Whole W0 w.heap.size 51 #[.int .i64 k, .int .i64 node, .int .i64 port, .int .i64 cost, .int .i64 n, .bool up, .int .u8 (by_.toNat : Int), .bool unread, .slice A bytes.length c]) := Lib.hid (by rw [← hW0]; exact (Whole.new w _ _).alloc _)
  have HR : Hid (Whole W0 (w.heap.size + 1) 40 #[.slice none 0 0]) := Lib.hid (by
    rw [← hW0]
    have := Whole.new (w.alloc (.cells #[.int .i64 k, .int .i64 node, .int .i64 port, .int .i64 cost, .int .i64 n, .bool up, .int .u8 (by_.toNat : Int), .bool unread, .slice A bytes.length c] 51)) 40 #[.slice none 0 0]
    simpa using this)
  have hs0 : W0.heap.size = w.heap.size + 2 := by rw [← hW0]; simp
  have HW0 := Lib.hid hW0
  have E0 := Lib.hid (E.here HB0.out)
  have hNB := E.size
  have HK := Lib.hid hk
  clear hW0 E hi hk
  refine (callsIn_wide (n := 3)).1 ?_
  refine callsIn_of_wp_marks Tryz.func75 rfl trivial ?_ rfl
  simp only [Tryz.ntmps75, List.size_toArray, List.length_cons, List.length_nil, Nat.reduceAdd, Nat.reduceSub, Array.replicate_succ, Array.replicate_zero, List.push_toArray, List.append_toArray, List.nil_append, List.cons_append]
  gi_wp2
  rw [HW0.out]
  refine ⟨trivial, (callsIn_wide.2 (names_any W0)).mono ?_⟩
  rintro e W3 ⟨⟨Bq, vs, rfl, ⟨hlo, hBq⟩, hc, hS⟩, hb3⟩
  have HB3 := Lib.hid hb3
  have HS := Lib.hid hS
  have HBW : Hid (Below (w.heap.size + 1) W0 W3) := Lib.hid (hb3.mono (by omega))
  have HX3 := Lib.hid (HX.out.here hb3)
  have HR3 := Lib.hid (HR.out.here hb3)
  have hs3 := hb3.size
  have HW3 : Hid (WordsAt W3.heap.size (w.heap.size + 1) [] W3) := Lib.hid ⟨_, HR3.out, by simpa using World.ownsRow_nil _ _ _ _⟩
  clear hb3 hS
  gi_wp2
  refine wpIn_rangeFunc_ownH (F := Fence.wide) rfl (by decide) (gf := 141) (lb := #[.pointer (some ⟨Bq, 0, none⟩)]) rfl trivial (enters_of Tryz.func141 (by kernel_rfl) rfl)
    (names1_stops Fence.wide 2 trivial rfl (by decide) Bq W0.heap.size W3.heap.size vs W3 hBq (Nat.le_refl _) hc HS.out) Between.trans (fun W l o o' hl _ _ _ => Between.put hl) (Below.refl _ _) (fun _ => rfl)
    (fun pre W => (WordsAt W3.heap.size (w.heap.size + 1) (wordOf k pre) W ∧ Below (w.heap.size + 1) W3 W) ∧ W3.heap.size ≤ W.heap.size)
    (fun _ _ _ => False)
    (OwnFrom.and (OwnFrom.and (Own.from (WordsAt.own _ _ (fun pre : List Nat => wordOf k pre)) _) (ownFrom_below (by omega) (by omega))) (fun _ _ _ _ hs hg _ => Nat.le_trans hs hg.size))
    (fun _ _ _ _ _ hs _ _ => hs)
    ⟨⟨HW3.out, Below.refl _ _⟩, Nat.le_refl _⟩
    (fun x a' _ => a' = { tmps := #[.agg #[.int .i64 k, .int .i64 node, .int .i64 port, .int .i64 cost, .int .i64 n, .bool up, .int .u8 (by_.toNat : Int), .bool unread, .slice A bytes.length c], .pointer (some ⟨w.heap.size, 0, none⟩), .string ⟨#[]⟩, .pointer (some ⟨w.heap.size + 1, 0, none⟩), .int .i64 (x : Int), .string (str (nameA x)), undef, .func (.func 141) #[] #[.pointer (some ⟨Bq, 0, none⟩)], .int .i64 (x : Int), .string (str (nameA x)), undef, undef, undef, undef, undef, undef, undef, undef, undef, undef, undef, undef, undef, undef, undef, undef, undef, undef, undef, undef, undef, undef, undef, undef, undef, undef, undef, undef, undef, undef, undef, undef, undef, undef, undef, undef, undef, undef, undef, undef, undef, undef, undef, undef, undef, undef, undef, undef, undef, undef, undef, undef, undef, undef, undef, undef, undef, undef, undef, undef, undef, undef, undef, undef, undef, undef, undef, undef, undef, undef, undef, undef, undef, undef, undef, undef, undef, undef, undef, undef, undef], defers := [] })
    (fun x a' _ X Y row hs hg hr => hs)
    ?assign ?body ?done ?stop
  case assign =>
    rintro l pre x W K hI hK
    gi_wp2
    exact hK _ _ ((KeepsOthers.refl _).from _) (Between.refl W) hI rfl
  case body =>
    rintro l pre x a' W hl _ ⟨⟨hA, hB⟩, hz⟩ rfl hlt
    have HKW := Lib.hid (wordOf_next k pre x)
    have hwl := wordOf_len k pre
    have x0 : W.cell? ⟨w.heap.size, 0, none⟩ = some (.int .i64 k) := (HX3.out.below hB (by omega)).cell 0
    have hWz : w.heap.size < W.heap.size := by omega
    dsimp only
    by_cases he : (x : Int) = k
    · have HE : Hid (wordOf k (pre ++ [x]) = wordOf k pre ++ [nameA x]) := Lib.hid (by rw [HKW.out, if_pos he])
      have q : ((x : Int) == k) = true := by simpa using he
      obtain ⟨v, hW, hO⟩ := hA.is
      have c0 : W.cell? ⟨w.heap.size + 1, 0, none⟩ = some v := hW.cell 0
      have HWW := Lib.hid hW
      have HOO := Lib.hid hO
      have HBB := Lib.hid hB
      clear he hA hW hO hB
      gi_wp2_with (gi_at_builtin; refine wpListIn_push rfl _ _ 40 rfl W3.heap.size 9 info_str rfl (by decide) Tryz.underlying40 _ _ _ rfl HOO.out rfl rfl (by omega) hz ?_)
      intro v' w3 hown3 hg
      obtain ⟨g3, n3, k3, rfl, c3, f3, hW3, hB3, hK3, hBt, hsz⟩ := WordsAt.push (l := nameA x) HWW.out HOO.out hown3 hg (by omega) hz
      have HW4 := Lib.hid hW3
      have HB4 := Lib.hid (HBB.out.trans (hB3.mono (Nat.le_refl _)))
      have HK4 := Lib.hid hK3
      have HBT := Lib.hid (hBt W0.heap.size W3.heap.size (by omega) (Nat.le_refl _) hz)
      have HSZ := Lib.hid (Nat.le_trans hz hsz)
      clear hown3 hg hW3 hB3 hK3 hBt hsz
      gi_wp2
      refine ⟨HK4.out.from _, HBT.out, ⟨⟨?_, HB4.out⟩, HSZ.out⟩⟩
      rw [HE.out]
      exact HW4.out
    · have HE : Hid (wordOf k (pre ++ [x]) = wordOf k pre) := Lib.hid (by rw [HKW.out, if_neg he])
      have q : ((x : Int) == k) = false := by simpa using he
      clear he
      gi_wp2
      refine ⟨(KeepsOthers.refl _).from _, Between.refl _, ⟨⟨?_, hB⟩, hz⟩⟩
      rw [HE.out]
      exact hA
  case done =>
    rintro D ys W hD rfl ⟨⟨hA, hB⟩, hzW⟩ hKD
    obtain ⟨k0, k1⟩ := HK.out
    simp only at k0 k1
    rw [wordOf_all k0 k1] at hA
    have HLW : Hid (LinesIs (w.heap.size + 1) (w.heap.size + 1) [nameA k.toNat] W) := Lib.hid (hA.lines (by omega))
    have HBW2 : Hid (Below (w.heap.size + 1) W0 W) := Lib.hid (HBW.out.trans hB)
    have HKDW := Lib.hid hKD
    have HXW := Lib.hid (HX3.out.below hB (by omega))
    have x0 : W.cell? ⟨w.heap.size, 0, none⟩ = some (.int .i64 k) := HXW.out.cell 0
    have x1 : W.cell? ⟨w.heap.size, 1, none⟩ = some (.int .i64 node) := HXW.out.cell 1
    have x2 : W.cell? ⟨w.heap.size, 2, none⟩ = some (.int .i64 port) := HXW.out.cell 2
    have x3 : W.cell? ⟨w.heap.size, 3, none⟩ = some (.int .i64 cost) := HXW.out.cell 3
    have x4 : W.cell? ⟨w.heap.size, 4, none⟩ = some (.int .i64 n) := HXW.out.cell 4
    have x6 : W.cell? ⟨w.heap.size, 6, none⟩ = some (.int .u8 (by_.toNat : Int)) := HXW.out.cell 6
    have hWz : w.heap.size < W.heap.size := by omega
    have hby : by_.toNat < 256 := by_.toNat_lt
    have EW := Lib.hid (E0.out.below (by omega) HBW2.out)
    clear HBW hKD
    have HBW := HBW2
    clear HBW2
    dsimp only
    rcases (by omega : k = 1 ∨ k = 2 ∨ k = 3 ∨ k = 4 ∨ k = 5 ∨ k = 6 ∨ k = 7 ∨ k = 8 ∨ k = 9) with rfl | rfl | rfl | rfl | rfl | rfl | rfl | rfl | rfl
    · have HIN : Hid (∀ y ∈ [node], In64 y) := Lib.hid (by
        intro y hy
        simp only [List.mem_cons, List.not_mem_nil, or_false] at hy
        rcases hy with rfl <;> first | exact HI.out.2.1 | exact HI.out.2.2.1 | exact HI.out.2.2.2.1 | exact HI.out.2.2.2.2 | exact in_byte _)
      have HWL : Hid (∀ l ∈ ([nameA (Int.toNat 1)] ++ [node].map itoa), l.length ≤ 100) := Lib.hid (words_len HIN.out)
      clear HR HW0 HB3 HS HR3 HW3 HX3 HXW hA hB hc
      gi_wp2
      refine ⟨trivial, (callsIn_wide.2 (put_any (w.heap.size + 1) (w.heap.size + 1) W.heap.size 1 [node] ([nameA (Int.toNat 1)]) _ (HLW.out.below ((Below.refl _ _).alloc (Nat.le_refl _) _)) (Whole.new W 3 #[.int .i64 node]) HIN.out (by simp) (by simp) (by simp) (EW.out.here ((Below.refl _ _).alloc (Nat.le_refl _) _)) (by omega) (by simp; omega))).mono ?_⟩
      rintro e w5 ⟨rfl, hLw5, hBw5, hOw5⟩
      have HLw5 := Lib.hid hLw5
      have HBw5 : Hid (Below (w.heap.size + 1) W0 w5) := Lib.hid ((HBW.out.alloc (by omega) _).trans hBw5)
      have HKDw5 : Hid (w5.heap[D]? = some (.deferred (some []))) := Lib.hid (hOw5.same D _ ((Below.heap_alloc W _ D (Array.getElem?_eq_some_iff.1 HKDW.out).1).trans HKDW.out) rfl)
      have hzw5 : W3.heap.size ≤ w5.heap.size := by have := hOw5.size; simp at this; omega
      have Ew5 := Lib.hid (E0.out.below (by omega) HBw5.out)
      clear hLw5 hBw5 hOw5
      obtain ⟨vJ, -, hWJ, hOJ⟩ := HLw5.out.is
      have cJ : w5.cell? ⟨w.heap.size + 1, 0, none⟩ = some vJ := hWJ.cell 0
      have hRJ : w.heap.size + 1 < w5.heap.size := by omega
      have HJ := Lib.hid (join_own (sep := [32]) w5 hOJ (by simp) (by simp) (by
        refine Nat.le_trans (join_len 32 100 _ ?_) (by simp)
        exact HWL.out))
      clear hWJ hOJ
      gi_wp2
      refine ⟨trivial, (callsIn_wide.2 HJ.out).mono ?_⟩
      rintro e WE ⟨rfl, hbE⟩
      have hkE : WE.heap[D]? = some (.deferred (some [])) := (hbE.block D (Array.getElem?_eq_some_iff.1 HKDw5.out).1).trans HKDw5.out
      have HBE : Hid (Below w.heap.size w WE) := Lib.hid ((HB0.out.trans (HBw5.out.mono (by omega))).trans (hbE.mono (by omega)))
      clear hbE
      gi_wp2
      refine ⟨by simp, .inl ⟨_, _, rfl, run_takeDeferred hkE, ?_⟩⟩
      refine ⟨.string (str (actText ⟨1, node, port, cost, n, up, by_, unread, bytes⟩)), ?_, rfl, HBE.out.trans (belowK_b (w := w) (Nat.le_refl _) WE D _ _ (by omega) hkE rfl rfl)⟩
      simp [results, Tryz.results75, go_sem]
      rfl
    · have HIN : Hid (∀ y ∈ [n], In64 y) := Lib.hid (by
        intro y hy
        simp only [List.mem_cons, List.not_mem_nil, or_false] at hy
        rcases hy with rfl <;> first | exact HI.out.2.1 | exact HI.out.2.2.1 | exact HI.out.2.2.2.1 | exact HI.out.2.2.2.2 | exact in_byte _)
      have HWL : Hid (∀ l ∈ ([nameA (Int.toNat 2)] ++ [n].map itoa), l.length ≤ 100) := Lib.hid (words_len HIN.out)
      clear HR HW0 HB3 HS HR3 HW3 HX3 HXW hA hB hc
      gi_wp2
      refine ⟨trivial, (callsIn_wide.2 (put_any (w.heap.size + 1) (w.heap.size + 1) W.heap.size 1 [n] ([nameA (Int.toNat 2)]) _ (HLW.out.below ((Below.refl _ _).alloc (Nat.le_refl _) _)) (Whole.new W 3 #[.int .i64 n]) HIN.out (by simp) (by simp) (by simp) (EW.out.here ((Below.refl _ _).alloc (Nat.le_refl _) _)) (by omega) (by simp; omega))).mono ?_⟩
      rintro e w5 ⟨rfl, hLw5, hBw5, hOw5⟩
      have HLw5 := Lib.hid hLw5
      have HBw5 : Hid (Below (w.heap.size + 1) W0 w5) := Lib.hid ((HBW.out.alloc (by omega) _).trans hBw5)
      have HKDw5 : Hid (w5.heap[D]? = some (.deferred (some []))) := Lib.hid (hOw5.same D _ ((Below.heap_alloc W _ D (Array.getElem?_eq_some_iff.1 HKDW.out).1).trans HKDW.out) rfl)
      have hzw5 : W3.heap.size ≤ w5.heap.size := by have := hOw5.size; simp at this; omega
      have Ew5 := Lib.hid (E0.out.below (by omega) HBw5.out)
      clear hLw5 hBw5 hOw5
      obtain ⟨vJ, -, hWJ, hOJ⟩ := HLw5.out.is
      have cJ : w5.cell? ⟨w.heap.size + 1, 0, none⟩ = some vJ := hWJ.cell 0
      have hRJ : w.heap.size + 1 < w5.heap.size := by omega
      have HJ := Lib.hid (join_own (sep := [32]) w5 hOJ (by simp) (by simp) (by
        refine Nat.le_trans (join_len 32 100 _ ?_) (by simp)
        exact HWL.out))
      clear hWJ hOJ
      gi_wp2
      refine ⟨trivial, (callsIn_wide.2 HJ.out).mono ?_⟩
      rintro e WE ⟨rfl, hbE⟩
      have hkE : WE.heap[D]? = some (.deferred (some [])) := (hbE.block D (Array.getElem?_eq_some_iff.1 HKDw5.out).1).trans HKDw5.out
      have HBE : Hid (Below w.heap.size w WE) := Lib.hid ((HB0.out.trans (HBw5.out.mono (by omega))).trans (hbE.mono (by omega)))
      clear hbE
      gi_wp2
      refine ⟨by simp, .inl ⟨_, _, rfl, run_takeDeferred hkE, ?_⟩⟩
      refine ⟨.string (str (actText ⟨2, node, port, cost, n, up, by_, unread, bytes⟩)), ?_, rfl, HBE.out.trans (belowK_b (w := w) (Nat.le_refl _) WE D _ _ (by omega) hkE rfl rfl)⟩
      simp [results, Tryz.results75, go_sem]
      rfl
    · have HIN : Hid (∀ y ∈ [n], In64 y) := Lib.hid (by
        intro y hy
        simp only [List.mem_cons, List.not_mem_nil, or_false] at hy
        rcases hy with rfl <;> first | exact HI.out.2.1 | exact HI.out.2.2.1 | exact HI.out.2.2.2.1 | exact HI.out.2.2.2.2 | exact in_byte _)
      have HWL : Hid (∀ l ∈ ([nameA (Int.toNat 3)] ++ [n].map itoa), l.length ≤ 100) := Lib.hid (words_len HIN.out)
      clear HR HW0 HB3 HS HR3 HW3 HX3 HXW hA hB hc
      gi_wp2
      refine ⟨trivial, (callsIn_wide.2 (put_any (w.heap.size + 1) (w.heap.size + 1) W.heap.size 1 [n] ([nameA (Int.toNat 3)]) _ (HLW.out.below ((Below.refl _ _).alloc (Nat.le_refl _) _)) (Whole.new W 3 #[.int .i64 n]) HIN.out (by simp) (by simp) (by simp) (EW.out.here ((Below.refl _ _).alloc (Nat.le_refl _) _)) (by omega) (by simp; omega))).mono ?_⟩
      rintro e w5 ⟨rfl, hLw5, hBw5, hOw5⟩
      have HLw5 := Lib.hid hLw5
      have HBw5 : Hid (Below (w.heap.size + 1) W0 w5) := Lib.hid ((HBW.out.alloc (by omega) _).trans hBw5)
      have HKDw5 : Hid (w5.heap[D]? = some (.deferred (some []))) := Lib.hid (hOw5.same D _ ((Below.heap_alloc W _ D (Array.getElem?_eq_some_iff.1 HKDW.out).1).trans HKDW.out) rfl)
      have hzw5 : W3.heap.size ≤ w5.heap.size := by have := hOw5.size; simp at this; omega
      have Ew5 := Lib.hid (E0.out.below (by omega) HBw5.out)
      clear hLw5 hBw5 hOw5
      obtain ⟨vJ, -, hWJ, hOJ⟩ := HLw5.out.is
      have cJ : w5.cell? ⟨w.heap.size + 1, 0, none⟩ = some vJ := hWJ.cell 0
      have hRJ : w.heap.size + 1 < w5.heap.size := by omega
      have HJ := Lib.hid (join_own (sep := [32]) w5 hOJ (by simp) (by simp) (by
        refine Nat.le_trans (join_len 32 100 _ ?_) (by simp)
        exact HWL.out))
      clear hWJ hOJ
      gi_wp2
      refine ⟨trivial, (callsIn_wide.2 HJ.out).mono ?_⟩
      rintro e WE ⟨rfl, hbE⟩
      have hkE : WE.heap[D]? = some (.deferred (some [])) := (hbE.block D (Array.getElem?_eq_some_iff.1 HKDw5.out).1).trans HKDw5.out
      have HBE : Hid (Below w.heap.size w WE) := Lib.hid ((HB0.out.trans (HBw5.out.mono (by omega))).trans (hbE.mono (by omega)))
      clear hbE
      gi_wp2
      refine ⟨by simp, .inl ⟨_, _, rfl, run_takeDeferred hkE, ?_⟩⟩
      refine ⟨.string (str (actText ⟨3, node, port, cost, n, up, by_, unread, bytes⟩)), ?_, rfl, HBE.out.trans (belowK_b (w := w) (Nat.le_refl _) WE D _ _ (by omega) hkE rfl rfl)⟩
      simp [results, Tryz.results75, go_sem]
      rfl
    · have HIN : Hid (∀ y ∈ [n], In64 y) := Lib.hid (by
        intro y hy
        simp only [List.mem_cons, List.not_mem_nil, or_false] at hy
        rcases hy with rfl <;> first | exact HI.out.2.1 | exact HI.out.2.2.1 | exact HI.out.2.2.2.1 | exact HI.out.2.2.2.2 | exact in_byte _)
      have HWL : Hid (∀ l ∈ ([nameA (Int.toNat 4)] ++ [n].map itoa), l.length ≤ 100) := Lib.hid (words_len HIN.out)
      clear HR HW0 HB3 HS HR3 HW3 HX3 HXW hA hB hc
      gi_wp2
      refine ⟨trivial, (callsIn_wide.2 (put_any (w.heap.size + 1) (w.heap.size + 1) W.heap.size 1 [n] ([nameA (Int.toNat 4)]) _ (HLW.out.below ((Below.refl _ _).alloc (Nat.le_refl _) _)) (Whole.new W 3 #[.int .i64 n]) HIN.out (by simp) (by simp) (by simp) (EW.out.here ((Below.refl _ _).alloc (Nat.le_refl _) _)) (by omega) (by simp; omega))).mono ?_⟩
      rintro e w5 ⟨rfl, hLw5, hBw5, hOw5⟩
      have HLw5 := Lib.hid hLw5
      have HBw5 : Hid (Below (w.heap.size + 1) W0 w5) := Lib.hid ((HBW.out.alloc (by omega) _).trans hBw5)
      have HKDw5 : Hid (w5.heap[D]? = some (.deferred (some []))) := Lib.hid (hOw5.same D _ ((Below.heap_alloc W _ D (Array.getElem?_eq_some_iff.1 HKDW.out).1).trans HKDW.out) rfl)
      have hzw5 : W3.heap.size ≤ w5.heap.size := by have := hOw5.size; simp at this; omega
      have Ew5 := Lib.hid (E0.out.below (by omega) HBw5.out)
      clear hLw5 hBw5 hOw5
      obtain ⟨vJ, -, hWJ, hOJ⟩ := HLw5.out.is
      have cJ : w5.cell? ⟨w.heap.size + 1, 0, none⟩ = some vJ := hWJ.cell 0
      have hRJ : w.heap.size + 1 < w5.heap.size := by omega
      have HJ := Lib.hid (join_own (sep := [32]) w5 hOJ (by simp) (by simp) (by
        refine Nat.le_trans (join_len 32 100 _ ?_) (by simp)
        exact HWL.out))
      clear hWJ hOJ
      gi_wp2
      refine ⟨trivial, (callsIn_wide.2 HJ.out).mono ?_⟩
      rintro e WE ⟨rfl, hbE⟩
      have hkE : WE.heap[D]? = some (.deferred (some [])) := (hbE.block D (Array.getElem?_eq_some_iff.1 HKDw5.out).1).trans HKDw5.out
      have HBE : Hid (Below w.heap.size w WE) := Lib.hid ((HB0.out.trans (HBw5.out.mono (by omega))).trans (hbE.mono (by omega)))
      clear hbE
      gi_wp2
      refine ⟨by simp, .inl ⟨_, _, rfl, run_takeDeferred hkE, ?_⟩⟩
      refine ⟨.string (str (actText ⟨4, node, port, cost, n, up, by_, unread, bytes⟩)), ?_, rfl, HBE.out.trans (belowK_b (w := w) (Nat.le_refl _) WE D _ _ (by omega) hkE rfl rfl)⟩
      simp [results, Tryz.results75, go_sem]
      rfl
    · have HIN : Hid (∀ y ∈ [node, port, cost], In64 y) := Lib.hid (by
        intro y hy
        simp only [List.mem_cons, List.not_mem_nil, or_false] at hy
        rcases hy with rfl | rfl | rfl <;> first | exact HI.out.2.1 | exact HI.out.2.2.1 | exact HI.out.2.2.2.1 | exact HI.out.2.2.2.2 | exact in_byte _)
      have HWL : Hid (∀ l ∈ ([nameA (Int.toNat 5)] ++ [node, port, cost].map itoa), l.length ≤ 100) := Lib.hid (words_len HIN.out)
      clear HR HW0 HB3 HS HR3 HW3 HX3 HXW hA hB hc
      gi_wp2
      refine ⟨trivial, (callsIn_wide.2 (put_any (w.heap.size + 1) (w.heap.size + 1) W.heap.size 3 [node, port, cost] ([nameA (Int.toNat 5)]) _ (HLW.out.below ((Below.refl _ _).alloc (Nat.le_refl _) _)) (Whole.new W 3 #[.int .i64 node, .int .i64 port, .int .i64 cost]) HIN.out (by simp) (by simp) (by simp) (EW.out.here ((Below.refl _ _).alloc (Nat.le_refl _) _)) (by omega) (by simp; omega))).mono ?_⟩
      rintro e w5 ⟨rfl, hLw5, hBw5, hOw5⟩
      have HLw5 := Lib.hid hLw5
      have HBw5 : Hid (Below (w.heap.size + 1) W0 w5) := Lib.hid ((HBW.out.alloc (by omega) _).trans hBw5)
      have HKDw5 : Hid (w5.heap[D]? = some (.deferred (some []))) := Lib.hid (hOw5.same D _ ((Below.heap_alloc W _ D (Array.getElem?_eq_some_iff.1 HKDW.out).1).trans HKDW.out) rfl)
      have hzw5 : W3.heap.size ≤ w5.heap.size := by have := hOw5.size; simp at this; omega
      have Ew5 := Lib.hid (E0.out.below (by omega) HBw5.out)
      clear hLw5 hBw5 hOw5
      obtain ⟨vJ, -, hWJ, hOJ⟩ := HLw5.out.is
      have cJ : w5.cell? ⟨w.heap.size + 1, 0, none⟩ = some vJ := hWJ.cell 0
      have hRJ : w.heap.size + 1 < w5.heap.size := by omega
      have HJ := Lib.hid (join_own (sep := [32]) w5 hOJ (by simp) (by simp) (by
        refine Nat.le_trans (join_len 32 100 _ ?_) (by simp)
        exact HWL.out))
      clear hWJ hOJ
      gi_wp2
      refine ⟨trivial, (callsIn_wide.2 HJ.out).mono ?_⟩
      rintro e WE ⟨rfl, hbE⟩
      have hkE : WE.heap[D]? = some (.deferred (some [])) := (hbE.block D (Array.getElem?_eq_some_iff.1 HKDw5.out).1).trans HKDw5.out
      have HBE : Hid (Below w.heap.size w WE) := Lib.hid ((HB0.out.trans (HBw5.out.mono (by omega))).trans (hbE.mono (by omega)))
      clear hbE
      gi_wp2
      refine ⟨by simp, .inl ⟨_, _, rfl, run_takeDeferred hkE, ?_⟩⟩
      refine ⟨.string (str (actText ⟨5, node, port, cost, n, up, by_, unread, bytes⟩)), ?_, rfl, HBE.out.trans (belowK_b (w := w) (Nat.le_refl _) WE D _ _ (by omega) hkE rfl rfl)⟩
      simp [results, Tryz.results75, go_sem]
      rfl
    · have HIN : Hid (∀ y ∈ [n], In64 y) := Lib.hid (by
        intro y hy
        simp only [List.mem_cons, List.not_mem_nil, or_false] at hy
        rcases hy with rfl <;> first | exact HI.out.2.1 | exact HI.out.2.2.1 | exact HI.out.2.2.2.1 | exact HI.out.2.2.2.2 | exact in_byte _)
      have HWL : Hid (∀ l ∈ ([nameA (Int.toNat 6)] ++ [n].map itoa), l.length ≤ 100) := Lib.hid (words_len HIN.out)
      clear HR HW0 HB3 HS HR3 HW3 HX3 HXW hA hB hc
      cases up with
      | false =>
        gi_wp2
        refine ⟨trivial, (callsIn_wide.2 (put_any (w.heap.size + 1) (w.heap.size + 1) W.heap.size 1 [n] ([nameA (Int.toNat 6)]) _ (HLW.out.below ((Below.refl _ _).alloc (Nat.le_refl _) _)) (Whole.new W 3 #[.int .i64 n]) HIN.out (by simp) (by simp) (by simp) (EW.out.here ((Below.refl _ _).alloc (Nat.le_refl _) _)) (by omega) (by simp; omega))).mono ?_⟩
        rintro e w5 ⟨rfl, hLw5, hBw5, hOw5⟩
        have HLw5 := Lib.hid hLw5
        have HBw5 : Hid (Below (w.heap.size + 1) W0 w5) := Lib.hid ((HBW.out.alloc (by omega) _).trans hBw5)
        have HKDw5 : Hid (w5.heap[D]? = some (.deferred (some []))) := Lib.hid (hOw5.same D _ ((Below.heap_alloc W _ D (Array.getElem?_eq_some_iff.1 HKDW.out).1).trans HKDW.out) rfl)
        have hzw5 : W3.heap.size ≤ w5.heap.size := by have := hOw5.size; simp at this; omega
        have Ew5 := Lib.hid (E0.out.below (by omega) HBw5.out)
        clear hLw5 hBw5 hOw5
        obtain ⟨vw6, hBRw6, hWw6, hOw6⟩ := HLw5.out.is
        have cRw6 : w5.cell? ⟨w.heap.size + 1, 0, none⟩ = some vw6 := hWw6.cell 0
        have hXw6 := HX.out.below HBw5.out (by omega)
        have xFw6 : w5.cell? ⟨w.heap.size, 5, none⟩ = some (.bool false) := hXw6.cell 5
        have hRw6 : w.heap.size + 1 < w5.heap.size := by omega
        have hFw6 : w.heap.size < w5.heap.size := by omega
        have HWw6 := Lib.hid hWw6
        have HOw6 := Lib.hid hOw6
        have HBVw6 : Hid (Bs w5 (.slice A bytes.length c) bytes) := Lib.hid (HBV.out.keep (by omega) fun p hp => (HBw5.out.cell (show p.block < _ by omega)).trans (HB0.out.cell hp))
        clear hWw6 hOw6 hXw6
        gi_wp2
        refine wpIn_wide.2 (wp_calm ?_)
        refine wp_region_ext_load (v := vw6) 4 (by kernel_rfl) (by kernel_rfl) rfl rfl (.inl ⟨rfl, ?_⟩) (fun _ _ _ h => h) ?_
        · rintro _ ⟨x, rfl⟩
          have cx := (x.cell ⟨w.heap.size + 1, 0, none⟩ hRw6).trans cRw6
          go_simp
        simp only [List.take_succ_cons, List.take_zero, List.drop_succ_cons, List.drop_zero, Act.put, List.setIfInBounds_toArray, List.set_cons_succ, List.set_cons_zero]
        repeat (go_big_quiet_step (first | (go_at_call 137; exact Ext.callq (either_any _ _ _ _))))
        refine wpQuiet_nil ?_
        rintro _ ⟨zw6, rfl⟩
        go_wp2
        have hzb := zw6.below.size
        refine ⟨⟨⟨_, bel_alloc zw6.below _⟩, rfl⟩, ?_⟩
        have hown2 := own_below HOw6.out zw6.below
        go_wp2_with (at_builtin; refine wpList_push rfl _ _ 40 rfl (w.heap.size + 1) 9 info_str rfl (by decide) Tryz.underlying40 _ _ _ rfl hown2 rfl rfl (by simp) (by omega) ?_)
        intro v' ww6' hown3 hg
        rw [show Value.string { data := #[100, 111, 119, 110] } = Sv (wDown) from rfl] at hown3
        obtain ⟨g3, n3, k3, rfl, c3, f3, hL3, hB3, hK3⟩ := LinesIs.push' (l := wDown) HWw6.out HOw6.out zw6.below hown3 hg hBRw6 (by omega)
        obtain ⟨w6, hnw6⟩ : ∃ X, ww6'.setCell ⟨w.heap.size + 1, 0, none⟩ (.slice (some ⟨g3, 0, none⟩) n3 k3) = X := ⟨_, rfl⟩
        rw [hnw6] at hL3 hB3 hK3
        have HNw6 := Lib.hid hnw6
        have HLw6 := Lib.hid hL3
        have HBw6 : Hid (Below (w.heap.size + 1) W0 w6) := Lib.hid (HBw5.out.trans hB3)
        have HKDw6 : Hid (w6.heap[D]? = some (.deferred (some []))) := Lib.hid (hK3.same D _ HKDw5.out rfl)
        have hzw6 : W3.heap.size ≤ w6.heap.size := by have := hK3.size; omega
        clear hown2 hown3 hg hL3 hB3 hK3 hnw6
        go_wp2
        rw [HNw6.out]
        have HWL6 : Hid (∀ l ∈ [nameA (Int.toNat 6)] ++ [n].map itoa ++ [wDown], l.length ≤ 100) := Lib.hid (words_more HWL.out (by decide))
        obtain ⟨vJ, -, hWJ, hOJ⟩ := HLw6.out.is
        have cJ : w6.cell? ⟨w.heap.size + 1, 0, none⟩ = some vJ := hWJ.cell 0
        have hRJ : w.heap.size + 1 < w6.heap.size := by omega
        have HJ := Lib.hid (join_own (sep := [32]) w6 hOJ (by simp) (by simp) (by
          refine Nat.le_trans (join_len 32 100 _ ?_) (by simp)
          exact HWL6.out))
        clear hWJ hOJ
        gi_wp2
        refine ⟨trivial, (callsIn_wide.2 HJ.out).mono ?_⟩
        rintro e WE ⟨rfl, hbE⟩
        have hkE : WE.heap[D]? = some (.deferred (some [])) := (hbE.block D (Array.getElem?_eq_some_iff.1 HKDw6.out).1).trans HKDw6.out
        have HBE : Hid (Below w.heap.size w WE) := Lib.hid ((HB0.out.trans (HBw6.out.mono (by omega))).trans (hbE.mono (by omega)))
        clear hbE
        gi_wp2
        refine ⟨by simp, .inl ⟨_, _, rfl, run_takeDeferred hkE, ?_⟩⟩
        refine ⟨.string (str (actText ⟨6, node, port, cost, n, false, by_, unread, bytes⟩)), ?_, rfl, HBE.out.trans (belowK_b (w := w) (Nat.le_refl _) WE D _ _ (by omega) hkE rfl rfl)⟩
        simp [results, Tryz.results75, go_sem]
        rfl
      | true =>
        gi_wp2
        refine ⟨trivial, (callsIn_wide.2 (put_any (w.heap.size + 1) (w.heap.size + 1) W.heap.size 1 [n] ([nameA (Int.toNat 6)]) _ (HLW.out.below ((Below.refl _ _).alloc (Nat.le_refl _) _)) (Whole.new W 3 #[.int .i64 n]) HIN.out (by simp) (by simp) (by simp) (EW.out.here ((Below.refl _ _).alloc (Nat.le_refl _) _)) (by omega) (by simp; omega))).mono ?_⟩
        rintro e w5 ⟨rfl, hLw5, hBw5, hOw5⟩
        have HLw5 := Lib.hid hLw5
        have HBw5 : Hid (Below (w.heap.size + 1) W0 w5) := Lib.hid ((HBW.out.alloc (by omega) _).trans hBw5)
        have HKDw5 : Hid (w5.heap[D]? = some (.deferred (some []))) := Lib.hid (hOw5.same D _ ((Below.heap_alloc W _ D (Array.getElem?_eq_some_iff.1 HKDW.out).1).trans HKDW.out) rfl)
        have hzw5 : W3.heap.size ≤ w5.heap.size := by have := hOw5.size; simp at this; omega
        have Ew5 := Lib.hid (E0.out.below (by omega) HBw5.out)
        clear hLw5 hBw5 hOw5
        obtain ⟨vw6, hBRw6, hWw6, hOw6⟩ := HLw5.out.is
        have cRw6 : w5.cell? ⟨w.heap.size + 1, 0, none⟩ = some vw6 := hWw6.cell 0
        have hXw6 := HX.out.below HBw5.out (by omega)
        have xFw6 : w5.cell? ⟨w.heap.size, 5, none⟩ = some (.bool true) := hXw6.cell 5
        have hRw6 : w.heap.size + 1 < w5.heap.size := by omega
        have hFw6 : w.heap.size < w5.heap.size := by omega
        have HWw6 := Lib.hid hWw6
        have HOw6 := Lib.hid hOw6
        have HBVw6 : Hid (Bs w5 (.slice A bytes.length c) bytes) := Lib.hid (HBV.out.keep (by omega) fun p hp => (HBw5.out.cell (show p.block < _ by omega)).trans (HB0.out.cell hp))
        clear hWw6 hOw6 hXw6
        gi_wp2
        refine wpIn_wide.2 (wp_calm ?_)
        refine wp_region_ext_load (v := vw6) 4 (by kernel_rfl) (by kernel_rfl) rfl rfl (.inl ⟨rfl, ?_⟩) (fun _ _ _ h => h) ?_
        · rintro _ ⟨x, rfl⟩
          have cx := (x.cell ⟨w.heap.size + 1, 0, none⟩ hRw6).trans cRw6
          go_simp
        simp only [List.take_succ_cons, List.take_zero, List.drop_succ_cons, List.drop_zero, Act.put, List.setIfInBounds_toArray, List.set_cons_succ, List.set_cons_zero]
        repeat (go_big_quiet_step (first | (go_at_call 137; exact Ext.callq (either_any _ _ _ _))))
        refine wpQuiet_nil ?_
        rintro _ ⟨zw6, rfl⟩
        go_wp2
        have hzb := zw6.below.size
        refine ⟨⟨⟨_, bel_alloc zw6.below _⟩, rfl⟩, ?_⟩
        have hown2 := own_below HOw6.out zw6.below
        go_wp2_with (at_builtin; refine wpList_push rfl _ _ 40 rfl (w.heap.size + 1) 9 info_str rfl (by decide) Tryz.underlying40 _ _ _ rfl hown2 rfl rfl (by simp) (by omega) ?_)
        intro v' ww6' hown3 hg
        rw [show Value.string { data := #[117, 112] } = Sv (wUp) from rfl] at hown3
        obtain ⟨g3, n3, k3, rfl, c3, f3, hL3, hB3, hK3⟩ := LinesIs.push' (l := wUp) HWw6.out HOw6.out zw6.below hown3 hg hBRw6 (by omega)
        obtain ⟨w6, hnw6⟩ : ∃ X, ww6'.setCell ⟨w.heap.size + 1, 0, none⟩ (.slice (some ⟨g3, 0, none⟩) n3 k3) = X := ⟨_, rfl⟩
        rw [hnw6] at hL3 hB3 hK3
        have HNw6 := Lib.hid hnw6
        have HLw6 := Lib.hid hL3
        have HBw6 : Hid (Below (w.heap.size + 1) W0 w6) := Lib.hid (HBw5.out.trans hB3)
        have HKDw6 : Hid (w6.heap[D]? = some (.deferred (some []))) := Lib.hid (hK3.same D _ HKDw5.out rfl)
        have hzw6 : W3.heap.size ≤ w6.heap.size := by have := hK3.size; omega
        clear hown2 hown3 hg hL3 hB3 hK3 hnw6
        go_wp2
        rw [HNw6.out]
        have HWL6 : Hid (∀ l ∈ [nameA (Int.toNat 6)] ++ [n].map itoa ++ [wUp], l.length ≤ 100) := Lib.hid (words_more HWL.out (by decide))
        obtain ⟨vJ, -, hWJ, hOJ⟩ := HLw6.out.is
        have cJ : w6.cell? ⟨w.heap.size + 1, 0, none⟩ = some vJ := hWJ.cell 0
        have hRJ : w.heap.size + 1 < w6.heap.size := by omega
        have HJ := Lib.hid (join_own (sep := [32]) w6 hOJ (by simp) (by simp) (by
          refine Nat.le_trans (join_len 32 100 _ ?_) (by simp)
          exact HWL6.out))
        clear hWJ hOJ
        gi_wp2
        refine ⟨trivial, (callsIn_wide.2 HJ.out).mono ?_⟩
        rintro e WE ⟨rfl, hbE⟩
        have hkE : WE.heap[D]? = some (.deferred (some [])) := (hbE.block D (Array.getElem?_eq_some_iff.1 HKDw6.out).1).trans HKDw6.out
        have HBE : Hid (Below w.heap.size w WE) := Lib.hid ((HB0.out.trans (HBw6.out.mono (by omega))).trans (hbE.mono (by omega)))
        clear hbE
        gi_wp2
        refine ⟨by simp, .inl ⟨_, _, rfl, run_takeDeferred hkE, ?_⟩⟩
        refine ⟨.string (str (actText ⟨6, node, port, cost, n, true, by_, unread, bytes⟩)), ?_, rfl, HBE.out.trans (belowK_b (w := w) (Nat.le_refl _) WE D _ _ (by omega) hkE rfl rfl)⟩
        simp [results, Tryz.results75, go_sem]
        rfl
    · have HIN : Hid (∀ y ∈ [node], In64 y) := Lib.hid (by
        intro y hy
        simp only [List.mem_cons, List.not_mem_nil, or_false] at hy
        rcases hy with rfl <;> first | exact HI.out.2.1 | exact HI.out.2.2.1 | exact HI.out.2.2.2.1 | exact HI.out.2.2.2.2 | exact in_byte _)
      have HWL : Hid (∀ l ∈ ([nameA (Int.toNat 7)] ++ [node].map itoa), l.length ≤ 100) := Lib.hid (words_len HIN.out)
      clear HR HW0 HB3 HS HR3 HW3 HX3 HXW hA hB hc
      gi_wp2
      refine ⟨trivial, (callsIn_wide.2 (put_any (w.heap.size + 1) (w.heap.size + 1) W.heap.size 1 [node] ([nameA (Int.toNat 7)]) _ (HLW.out.below ((Below.refl _ _).alloc (Nat.le_refl _) _)) (Whole.new W 3 #[.int .i64 node]) HIN.out (by simp) (by simp) (by simp) (EW.out.here ((Below.refl _ _).alloc (Nat.le_refl _) _)) (by omega) (by simp; omega))).mono ?_⟩
      rintro e w5 ⟨rfl, hLw5, hBw5, hOw5⟩
      have HLw5 := Lib.hid hLw5
      have HBw5 : Hid (Below (w.heap.size + 1) W0 w5) := Lib.hid ((HBW.out.alloc (by omega) _).trans hBw5)
      have HKDw5 : Hid (w5.heap[D]? = some (.deferred (some []))) := Lib.hid (hOw5.same D _ ((Below.heap_alloc W _ D (Array.getElem?_eq_some_iff.1 HKDW.out).1).trans HKDW.out) rfl)
      have hzw5 : W3.heap.size ≤ w5.heap.size := by have := hOw5.size; simp at this; omega
      have Ew5 := Lib.hid (E0.out.below (by omega) HBw5.out)
      clear hLw5 hBw5 hOw5
      obtain ⟨vJ, -, hWJ, hOJ⟩ := HLw5.out.is
      have cJ : w5.cell? ⟨w.heap.size + 1, 0, none⟩ = some vJ := hWJ.cell 0
      have hRJ : w.heap.size + 1 < w5.heap.size := by omega
      have HJ := Lib.hid (join_own (sep := [32]) w5 hOJ (by simp) (by simp) (by
        refine Nat.le_trans (join_len 32 100 _ ?_) (by simp)
        exact HWL.out))
      clear hWJ hOJ
      gi_wp2
      refine ⟨trivial, (callsIn_wide.2 HJ.out).mono ?_⟩
      rintro e WE ⟨rfl, hbE⟩
      have hkE : WE.heap[D]? = some (.deferred (some [])) := (hbE.block D (Array.getElem?_eq_some_iff.1 HKDw5.out).1).trans HKDw5.out
      have HBE : Hid (Below w.heap.size w WE) := Lib.hid ((HB0.out.trans (HBw5.out.mono (by omega))).trans (hbE.mono (by omega)))
      clear hbE
      gi_wp2
      refine ⟨by simp, .inl ⟨_, _, rfl, run_takeDeferred hkE, ?_⟩⟩
      refine ⟨.string (str (actText ⟨7, node, port, cost, n, up, by_, unread, bytes⟩)), ?_, rfl, HBE.out.trans (belowK_b (w := w) (Nat.le_refl _) WE D _ _ (by omega) hkE rfl rfl)⟩
      simp [results, Tryz.results75, go_sem]
      rfl
    · have HIN : Hid (∀ y ∈ [node, n, (by_.toNat : Int)], In64 y) := Lib.hid (by
        intro y hy
        simp only [List.mem_cons, List.not_mem_nil, or_false] at hy
        rcases hy with rfl | rfl | rfl <;> first | exact HI.out.2.1 | exact HI.out.2.2.1 | exact HI.out.2.2.2.1 | exact HI.out.2.2.2.2 | exact in_byte _)
      have HWL : Hid (∀ l ∈ ([nameA (Int.toNat 8)] ++ [node, n, (by_.toNat : Int)].map itoa), l.length ≤ 100) := Lib.hid (words_len HIN.out)
      clear HR HW0 HB3 HS HR3 HW3 HX3 HXW hA hB hc
      cases unread with
      | false =>
        gi_wp2
        refine ⟨trivial, (callsIn_wide.2 (put_any (w.heap.size + 1) (w.heap.size + 1) W.heap.size 3 [node, n, (by_.toNat : Int)] ([nameA (Int.toNat 8)]) _ (HLW.out.below ((Below.refl _ _).alloc (Nat.le_refl _) _)) (Whole.new W 3 #[.int .i64 node, .int .i64 n, .int .i64 (by_.toNat : Int)]) HIN.out (by simp) (by simp) (by simp) (EW.out.here ((Below.refl _ _).alloc (Nat.le_refl _) _)) (by omega) (by simp; omega))).mono ?_⟩
        rintro e w5 ⟨rfl, hLw5, hBw5, hOw5⟩
        have HLw5 := Lib.hid hLw5
        have HBw5 : Hid (Below (w.heap.size + 1) W0 w5) := Lib.hid ((HBW.out.alloc (by omega) _).trans hBw5)
        have HKDw5 : Hid (w5.heap[D]? = some (.deferred (some []))) := Lib.hid (hOw5.same D _ ((Below.heap_alloc W _ D (Array.getElem?_eq_some_iff.1 HKDW.out).1).trans HKDW.out) rfl)
        have hzw5 : W3.heap.size ≤ w5.heap.size := by have := hOw5.size; simp at this; omega
        have Ew5 := Lib.hid (E0.out.below (by omega) HBw5.out)
        clear hLw5 hBw5 hOw5
        obtain ⟨vw6, hBRw6, hWw6, hOw6⟩ := HLw5.out.is
        have cRw6 : w5.cell? ⟨w.heap.size + 1, 0, none⟩ = some vw6 := hWw6.cell 0
        have hXw6 := HX.out.below HBw5.out (by omega)
        have xFw6 : w5.cell? ⟨w.heap.size, 7, none⟩ = some (.bool false) := hXw6.cell 7
        have hRw6 : w.heap.size + 1 < w5.heap.size := by omega
        have hFw6 : w.heap.size < w5.heap.size := by omega
        have HWw6 := Lib.hid hWw6
        have HOw6 := Lib.hid hOw6
        have HBVw6 : Hid (Bs w5 (.slice A bytes.length c) bytes) := Lib.hid (HBV.out.keep (by omega) fun p hp => (HBw5.out.cell (show p.block < _ by omega)).trans (HB0.out.cell hp))
        clear hWw6 hOw6 hXw6
        gi_wp2
        refine wpIn_wide.2 (wp_calm ?_)
        refine wp_region_ext_load (v := vw6) 4 (by kernel_rfl) (by kernel_rfl) rfl rfl (.inl ⟨rfl, ?_⟩) (fun _ _ _ h => h) ?_
        · rintro _ ⟨x, rfl⟩
          have cx := (x.cell ⟨w.heap.size + 1, 0, none⟩ hRw6).trans cRw6
          go_simp
        simp only [List.take_succ_cons, List.take_zero, List.drop_succ_cons, List.drop_zero, Act.put, List.setIfInBounds_toArray, List.set_cons_succ, List.set_cons_zero]
        repeat (go_big_quiet_step (first | (go_at_call 137; exact Ext.callq (either_any _ _ _ _))))
        refine wpQuiet_nil ?_
        rintro _ ⟨zw6, rfl⟩
        go_wp2
        have hzb := zw6.below.size
        refine ⟨⟨⟨_, bel_alloc zw6.below _⟩, rfl⟩, ?_⟩
        have hown2 := own_below HOw6.out zw6.below
        go_wp2_with (at_builtin; refine wpList_push rfl _ _ 40 rfl (w.heap.size + 1) 9 info_str rfl (by decide) Tryz.underlying40 _ _ _ rfl hown2 rfl rfl (by simp) (by omega) ?_)
        intro v' ww6' hown3 hg
        rw [show Value.string { data := #[114, 101, 97, 100] } = Sv (wRead) from rfl] at hown3
        obtain ⟨g3, n3, k3, rfl, c3, f3, hL3, hB3, hK3⟩ := LinesIs.push' (l := wRead) HWw6.out HOw6.out zw6.below hown3 hg hBRw6 (by omega)
        obtain ⟨w6, hnw6⟩ : ∃ X, ww6'.setCell ⟨w.heap.size + 1, 0, none⟩ (.slice (some ⟨g3, 0, none⟩) n3 k3) = X := ⟨_, rfl⟩
        rw [hnw6] at hL3 hB3 hK3
        have HNw6 := Lib.hid hnw6
        have HLw6 := Lib.hid hL3
        have HBw6 : Hid (Below (w.heap.size + 1) W0 w6) := Lib.hid (HBw5.out.trans hB3)
        have HKDw6 : Hid (w6.heap[D]? = some (.deferred (some []))) := Lib.hid (hK3.same D _ HKDw5.out rfl)
        have hzw6 : W3.heap.size ≤ w6.heap.size := by have := hK3.size; omega
        clear hown2 hown3 hg hL3 hB3 hK3 hnw6
        go_wp2
        rw [HNw6.out]
        have HWL6 : Hid (∀ l ∈ [nameA (Int.toNat 8)] ++ [node, n, (by_.toNat : Int)].map itoa ++ [wRead], l.length ≤ 100) := Lib.hid (words_more HWL.out (by decide))
        obtain ⟨vJ, -, hWJ, hOJ⟩ := HLw6.out.is
        have cJ : w6.cell? ⟨w.heap.size + 1, 0, none⟩ = some vJ := hWJ.cell 0
        have hRJ : w.heap.size + 1 < w6.heap.size := by omega
        have HJ := Lib.hid (join_own (sep := [32]) w6 hOJ (by simp) (by simp) (by
          refine Nat.le_trans (join_len 32 100 _ ?_) (by simp)
          exact HWL6.out))
        clear hWJ hOJ
        gi_wp2
        refine ⟨trivial, (callsIn_wide.2 HJ.out).mono ?_⟩
        rintro e WE ⟨rfl, hbE⟩
        have hkE : WE.heap[D]? = some (.deferred (some [])) := (hbE.block D (Array.getElem?_eq_some_iff.1 HKDw6.out).1).trans HKDw6.out
        have HBE : Hid (Below w.heap.size w WE) := Lib.hid ((HB0.out.trans (HBw6.out.mono (by omega))).trans (hbE.mono (by omega)))
        clear hbE
        gi_wp2
        refine ⟨by simp, .inl ⟨_, _, rfl, run_takeDeferred hkE, ?_⟩⟩
        refine ⟨.string (str (actText ⟨8, node, port, cost, n, up, by_, false, bytes⟩)), ?_, rfl, HBE.out.trans (belowK_b (w := w) (Nat.le_refl _) WE D _ _ (by omega) hkE rfl rfl)⟩
        simp [results, Tryz.results75, go_sem]
        rfl
      | true =>
        gi_wp2
        refine ⟨trivial, (callsIn_wide.2 (put_any (w.heap.size + 1) (w.heap.size + 1) W.heap.size 3 [node, n, (by_.toNat : Int)] ([nameA (Int.toNat 8)]) _ (HLW.out.below ((Below.refl _ _).alloc (Nat.le_refl _) _)) (Whole.new W 3 #[.int .i64 node, .int .i64 n, .int .i64 (by_.toNat : Int)]) HIN.out (by simp) (by simp) (by simp) (EW.out.here ((Below.refl _ _).alloc (Nat.le_refl _) _)) (by omega) (by simp; omega))).mono ?_⟩
        rintro e w5 ⟨rfl, hLw5, hBw5, hOw5⟩
        have HLw5 := Lib.hid hLw5
        have HBw5 : Hid (Below (w.heap.size + 1) W0 w5) := Lib.hid ((HBW.out.alloc (by omega) _).trans hBw5)
        have HKDw5 : Hid (w5.heap[D]? = some (.deferred (some []))) := Lib.hid (hOw5.same D _ ((Below.heap_alloc W _ D (Array.getElem?_eq_some_iff.1 HKDW.out).1).trans HKDW.out) rfl)
        have hzw5 : W3.heap.size ≤ w5.heap.size := by have := hOw5.size; simp at this; omega
        have Ew5 := Lib.hid (E0.out.below (by omega) HBw5.out)
        clear hLw5 hBw5 hOw5
        obtain ⟨vw6, hBRw6, hWw6, hOw6⟩ := HLw5.out.is
        have cRw6 : w5.cell? ⟨w.heap.size + 1, 0, none⟩ = some vw6 := hWw6.cell 0
        have hXw6 := HX.out.below HBw5.out (by omega)
        have xFw6 : w5.cell? ⟨w.heap.size, 7, none⟩ = some (.bool true) := hXw6.cell 7
        have hRw6 : w.heap.size + 1 < w5.heap.size := by omega
        have hFw6 : w.heap.size < w5.heap.size := by omega
        have HWw6 := Lib.hid hWw6
        have HOw6 := Lib.hid hOw6
        have HBVw6 : Hid (Bs w5 (.slice A bytes.length c) bytes) := Lib.hid (HBV.out.keep (by omega) fun p hp => (HBw5.out.cell (show p.block < _ by omega)).trans (HB0.out.cell hp))
        clear hWw6 hOw6 hXw6
        gi_wp2
        refine wpIn_wide.2 (wp_calm ?_)
        refine wp_region_ext_load (v := vw6) 4 (by kernel_rfl) (by kernel_rfl) rfl rfl (.inl ⟨rfl, ?_⟩) (fun _ _ _ h => h) ?_
        · rintro _ ⟨x, rfl⟩
          have cx := (x.cell ⟨w.heap.size + 1, 0, none⟩ hRw6).trans cRw6
          go_simp
        simp only [List.take_succ_cons, List.take_zero, List.drop_succ_cons, List.drop_zero, Act.put, List.setIfInBounds_toArray, List.set_cons_succ, List.set_cons_zero]
        repeat (go_big_quiet_step (first | (go_at_call 137; exact Ext.callq (either_any _ _ _ _))))
        refine wpQuiet_nil ?_
        rintro _ ⟨zw6, rfl⟩
        go_wp2
        have hzb := zw6.below.size
        refine ⟨⟨⟨_, bel_alloc zw6.below _⟩, rfl⟩, ?_⟩
        have hown2 := own_below HOw6.out zw6.below
        go_wp2_with (at_builtin; refine wpList_push rfl _ _ 40 rfl (w.heap.size + 1) 9 info_str rfl (by decide) Tryz.underlying40 _ _ _ rfl hown2 rfl rfl (by simp) (by omega) ?_)
        intro v' ww6' hown3 hg
        rw [show Value.string { data := #[117, 110, 114, 101, 97, 100] } = Sv (wUnread) from rfl] at hown3
        obtain ⟨g3, n3, k3, rfl, c3, f3, hL3, hB3, hK3⟩ := LinesIs.push' (l := wUnread) HWw6.out HOw6.out zw6.below hown3 hg hBRw6 (by omega)
        obtain ⟨w6, hnw6⟩ : ∃ X, ww6'.setCell ⟨w.heap.size + 1, 0, none⟩ (.slice (some ⟨g3, 0, none⟩) n3 k3) = X := ⟨_, rfl⟩
        rw [hnw6] at hL3 hB3 hK3
        have HNw6 := Lib.hid hnw6
        have HLw6 := Lib.hid hL3
        have HBw6 : Hid (Below (w.heap.size + 1) W0 w6) := Lib.hid (HBw5.out.trans hB3)
        have HKDw6 : Hid (w6.heap[D]? = some (.deferred (some []))) := Lib.hid (hK3.same D _ HKDw5.out rfl)
        have hzw6 : W3.heap.size ≤ w6.heap.size := by have := hK3.size; omega
        clear hown2 hown3 hg hL3 hB3 hK3 hnw6
        go_wp2
        rw [HNw6.out]
        have HWL6 : Hid (∀ l ∈ [nameA (Int.toNat 8)] ++ [node, n, (by_.toNat : Int)].map itoa ++ [wUnread], l.length ≤ 100) := Lib.hid (words_more HWL.out (by decide))
        obtain ⟨vJ, -, hWJ, hOJ⟩ := HLw6.out.is
        have cJ : w6.cell? ⟨w.heap.size + 1, 0, none⟩ = some vJ := hWJ.cell 0
        have hRJ : w.heap.size + 1 < w6.heap.size := by omega
        have HJ := Lib.hid (join_own (sep := [32]) w6 hOJ (by simp) (by simp) (by
          refine Nat.le_trans (join_len 32 100 _ ?_) (by simp)
          exact HWL6.out))
        clear hWJ hOJ
        gi_wp2
        refine ⟨trivial, (callsIn_wide.2 HJ.out).mono ?_⟩
        rintro e WE ⟨rfl, hbE⟩
        have hkE : WE.heap[D]? = some (.deferred (some [])) := (hbE.block D (Array.getElem?_eq_some_iff.1 HKDw6.out).1).trans HKDw6.out
        have HBE : Hid (Below w.heap.size w WE) := Lib.hid ((HB0.out.trans (HBw6.out.mono (by omega))).trans (hbE.mono (by omega)))
        clear hbE
        gi_wp2
        refine ⟨by simp, .inl ⟨_, _, rfl, run_takeDeferred hkE, ?_⟩⟩
        refine ⟨.string (str (actText ⟨8, node, port, cost, n, up, by_, true, bytes⟩)), ?_, rfl, HBE.out.trans (belowK_b (w := w) (Nat.le_refl _) WE D _ _ (by omega) hkE rfl rfl)⟩
        simp [results, Tryz.results75, go_sem]
        rfl
    · have HIN : Hid (∀ y ∈ [node], In64 y) := Lib.hid (by
        intro y hy
        simp only [List.mem_cons, List.not_mem_nil, or_false] at hy
        rcases hy with rfl <;> first | exact HI.out.2.1 | exact HI.out.2.2.1 | exact HI.out.2.2.2.1 | exact HI.out.2.2.2.2 | exact in_byte _)
      have HWL : Hid (∀ l ∈ ([nameA (Int.toNat 9)] ++ [node].map itoa), l.length ≤ 100) := Lib.hid (words_len HIN.out)
      clear HR HW0 HB3 HS HR3 HW3 HX3 HXW hA hB hc
      gi_wp2
      refine ⟨trivial, (callsIn_wide.2 (put_any (w.heap.size + 1) (w.heap.size + 1) W.heap.size 1 [node] ([nameA (Int.toNat 9)]) _ (HLW.out.below ((Below.refl _ _).alloc (Nat.le_refl _) _)) (Whole.new W 3 #[.int .i64 node]) HIN.out (by simp) (by simp) (by simp) (EW.out.here ((Below.refl _ _).alloc (Nat.le_refl _) _)) (by omega) (by simp; omega))).mono ?_⟩
      rintro e w5 ⟨rfl, hLw5, hBw5, hOw5⟩
      have HLw5 := Lib.hid hLw5
      have HBw5 : Hid (Below (w.heap.size + 1) W0 w5) := Lib.hid ((HBW.out.alloc (by omega) _).trans hBw5)
      have HKDw5 : Hid (w5.heap[D]? = some (.deferred (some []))) := Lib.hid (hOw5.same D _ ((Below.heap_alloc W _ D (Array.getElem?_eq_some_iff.1 HKDW.out).1).trans HKDW.out) rfl)
      have hzw5 : W3.heap.size ≤ w5.heap.size := by have := hOw5.size; simp at this; omega
      have Ew5 := Lib.hid (E0.out.below (by omega) HBw5.out)
      clear hLw5 hBw5 hOw5
      obtain ⟨vw6, hBRw6, hWw6, hOw6⟩ := HLw5.out.is
      have cRw6 : w5.cell? ⟨w.heap.size + 1, 0, none⟩ = some vw6 := hWw6.cell 0
      have hXw6 := HX.out.below HBw5.out (by omega)
      have xFw6 : w5.cell? ⟨w.heap.size, 8, none⟩ = some (.slice A bytes.length c) := hXw6.cell 8
      have hRw6 : w.heap.size + 1 < w5.heap.size := by omega
      have hFw6 : w.heap.size < w5.heap.size := by omega
      have HWw6 := Lib.hid hWw6
      have HOw6 := Lib.hid hOw6
      have HBVw6 : Hid (Bs w5 (.slice A bytes.length c) bytes) := Lib.hid (HBV.out.keep (by omega) fun p hp => (HBw5.out.cell (show p.block < _ by omega)).trans (HB0.out.cell hp))
      clear hWw6 hOw6 hXw6
      gi_wp2
      refine wpIn_wide.2 (wp_calm ?_)
      refine wp_region_ext_load (v := vw6) 4 (by kernel_rfl) (by kernel_rfl) rfl rfl (.inl ⟨rfl, ?_⟩) (fun _ _ _ h => h) ?_
      · rintro _ ⟨x, rfl⟩
        have cx := (x.cell ⟨w.heap.size + 1, 0, none⟩ hRw6).trans cRw6
        go_simp
      simp only [List.take_succ_cons, List.take_zero, List.drop_succ_cons, List.drop_zero, Act.put, List.setIfInBounds_toArray, List.set_cons_succ, List.set_cons_zero]
      repeat (go_big_quiet_step (first | (go_at_call 138; exact Ext.call (chex_any _ bytes _ (HBVw6.out.ext _) (by omega)))))
      refine wpQuiet_nil ?_
      rintro _ ⟨zw6, rfl⟩
      go_wp2
      have hzb := zw6.below.size
      refine ⟨⟨⟨_, bel_alloc zw6.below _⟩, rfl⟩, ?_⟩
      have hown2 := own_below HOw6.out zw6.below
      go_wp2_with (at_builtin; refine wpList_push rfl _ _ 40 rfl (w.heap.size + 1) 9 info_str rfl (by decide) Tryz.underlying40 _ _ _ rfl hown2 rfl rfl (by simp) (by omega) ?_)
      intro v' ww6' hown3 hg
      rw [show Value.string (str (hexD bytes)) = Sv (hexD bytes) from rfl] at hown3
      obtain ⟨g3, n3, k3, rfl, c3, f3, hL3, hB3, hK3⟩ := LinesIs.push' (l := hexD bytes) HWw6.out HOw6.out zw6.below hown3 hg hBRw6 (by omega)
      obtain ⟨w6, hnw6⟩ : ∃ X, ww6'.setCell ⟨w.heap.size + 1, 0, none⟩ (.slice (some ⟨g3, 0, none⟩) n3 k3) = X := ⟨_, rfl⟩
      rw [hnw6] at hL3 hB3 hK3
      have HNw6 := Lib.hid hnw6
      have HLw6 := Lib.hid hL3
      have HBw6 : Hid (Below (w.heap.size + 1) W0 w6) := Lib.hid (HBw5.out.trans hB3)
      have HKDw6 : Hid (w6.heap[D]? = some (.deferred (some []))) := Lib.hid (hK3.same D _ HKDw5.out rfl)
      have hzw6 : W3.heap.size ≤ w6.heap.size := by have := hK3.size; omega
      clear hown2 hown3 hg hL3 hB3 hK3 hnw6
      go_wp2
      rw [HNw6.out]
      have HWL6 : Hid (∀ l ∈ [nameA (Int.toNat 9)] ++ [node].map itoa ++ [hexD bytes], l.length ≤ 200001) := Lib.hid (words_more (fun l hl => Nat.le_trans (HWL.out l hl) (by omega)) (by have := hexD_len bytes; omega))
      obtain ⟨vJ, -, hWJ, hOJ⟩ := HLw6.out.is
      have cJ : w6.cell? ⟨w.heap.size + 1, 0, none⟩ = some vJ := hWJ.cell 0
      have hRJ : w.heap.size + 1 < w6.heap.size := by omega
      have HJ := Lib.hid (join_own (sep := [32]) w6 hOJ (by simp) (by simp) (by
        refine Nat.le_trans (join_len 32 200001 _ ?_) (by simp)
        exact HWL6.out))
      clear hWJ hOJ
      gi_wp2
      refine ⟨trivial, (callsIn_wide.2 HJ.out).mono ?_⟩
      rintro e WE ⟨rfl, hbE⟩
      have hkE : WE.heap[D]? = some (.deferred (some [])) := (hbE.block D (Array.getElem?_eq_some_iff.1 HKDw6.out).1).trans HKDw6.out
      have HBE : Hid (Below w.heap.size w WE) := Lib.hid ((HB0.out.trans (HBw6.out.mono (by omega))).trans (hbE.mono (by omega)))
      clear hbE
      gi_wp2
      refine ⟨by simp, .inl ⟨_, _, rfl, run_takeDeferred hkE, ?_⟩⟩
      refine ⟨.string (str (actText ⟨9, node, port, cost, n, up, by_, unread, bytes⟩)), ?_, rfl, HBE.out.trans (belowK_b (w := w) (Nat.le_refl _) WE D _ _ (by omega) hkE rfl rfl)⟩
      simp [results, Tryz.results75, go_sem]
      rfl
  case stop =>
    rintro D c pre W _ _ h _
    exact h.elim
end Go.Proofs.YtfbangojgjcbcaaGreatDoor
namespace Go.Proofs.YtfbangojgjcbcaaGreatDoor
open Go.RowKit Pl
theorem beqd (a b : List UInt8) : (a == b) = decide (a = b) := by
  by_cases h : a = b
  · rw [decide_eq_true h]; exact beq_iff_eq.2 h
  · rw [decide_eq_false h]; exact beq_eq_false_iff_ne.2 h
set_option maxRecDepth 100000 in
set_option maxHeartbeats 4000000 in
theorem rsameAct_any (a b : ActP) (va vb : Value) (w : World) (h : Bs w va a.bytes) (h' : Bs w vb b.bytes) :
    Calls Tryz.prog 38 #[actV a va, actV b vb] w fun e w' => e = .returned (.bool (sameA a b)) ∧ Below w.heap.size w w' := by
  have HA := Lib.hid h
  have HB := Lib.hid h'
  obtain ⟨A, c, rfl, -⟩ := h
  obtain ⟨B, c', rfl, -⟩ := h'
  obtain ⟨k, node, port, cost, n, up, by_, unread, bytes⟩ := a
  obtain ⟨k', node', port', cost', n', up', by_', unread', bytes'⟩ := b
  simp only at HA HB ⊢
  obtain ⟨W0, hW0⟩ : ∃ W0, (w.alloc (.cells #[.int .i64 k, .int .i64 node, .int .i64 port, .int .i64 cost, .int .i64 n, .bool up, .int .u8 (by_.toNat : Int), .bool unread, .slice A bytes.length c] 51)).alloc (.cells #[.int .i64 k', .int .i64 node', .int .i64 port', .int .i64 cost', .int .i64 n', .bool up', .int .u8 (by_'.toNat : Int), .bool unread', .slice B bytes'.length c'] 51) = W0 := ⟨_, rfl⟩
  have HB0 : Hid (Below w.heap.size w W0) := Lib.hid (by rw [← hW0]; exact ((Below.refl _ _).alloc (Nat.le_refl _) _).alloc (by simp) _)
  have HX1 : Whole W0 w.heap.size 51 #[.int .i64 k, .int .i64 node, .int .i64 port, .int .i64 cost, .int .i64 n, .bool up, .int .u8 (by_.toNat : Int), .bool unread, .slice A bytes.length c] := by rw [← hW0]; exact (Whole.new w _ _).alloc _
  have HX2 : Whole W0 (w.heap.size + 1) 51 #[.int .i64 k', .int .i64 node', .int .i64 port', .int .i64 cost', .int .i64 n', .bool up', .int .u8 (by_'.toNat : Int), .bool unread', .slice B bytes'.length c'] := by
    rw [← hW0]
    have := Whole.new (w.alloc (.cells #[.int .i64 k, .int .i64 node, .int .i64 port, .int .i64 cost, .int .i64 n, .bool up, .int .u8 (by_.toNat : Int), .bool unread, .slice A bytes.length c] 51)) 51 #[.int .i64 k', .int .i64 node', .int .i64 port', .int .i64 cost', .int .i64 n', .bool up', .int .u8 (by_'.toNat : Int), .bool unread', .slice B bytes'.length c']
    simpa using this
  have hlt1 := HX1.lt
  have hlt2 := HX2.lt
  have y0 : W0.cell? ⟨w.heap.size, 0, none⟩ = some (.int .i64 k) := HX1.cell 0
  have z0 : W0.cell? ⟨w.heap.size + 1, 0, none⟩ = some (.int .i64 k') := HX2.cell 0
  have y1 : W0.cell? ⟨w.heap.size, 1, none⟩ = some (.int .i64 node) := HX1.cell 1
  have z1 : W0.cell? ⟨w.heap.size + 1, 1, none⟩ = some (.int .i64 node') := HX2.cell 1
  have y2 : W0.cell? ⟨w.heap.size, 2, none⟩ = some (.int .i64 port) := HX1.cell 2
  have z2 : W0.cell? ⟨w.heap.size + 1, 2, none⟩ = some (.int .i64 port') := HX2.cell 2
  have y3 : W0.cell? ⟨w.heap.size, 3, none⟩ = some (.int .i64 cost) := HX1.cell 3
  have z3 : W0.cell? ⟨w.heap.size + 1, 3, none⟩ = some (.int .i64 cost') := HX2.cell 3
  have y4 : W0.cell? ⟨w.heap.size, 4, none⟩ = some (.int .i64 n) := HX1.cell 4
  have z4 : W0.cell? ⟨w.heap.size + 1, 4, none⟩ = some (.int .i64 n') := HX2.cell 4
  have y5 : W0.cell? ⟨w.heap.size, 5, none⟩ = some (.bool up) := HX1.cell 5
  have z5 : W0.cell? ⟨w.heap.size + 1, 5, none⟩ = some (.bool up') := HX2.cell 5
  have y6 : W0.cell? ⟨w.heap.size, 6, none⟩ = some (.int .u8 (by_.toNat : Int)) := HX1.cell 6
  have z6 : W0.cell? ⟨w.heap.size + 1, 6, none⟩ = some (.int .u8 (by_'.toNat : Int)) := HX2.cell 6
  have y7 : W0.cell? ⟨w.heap.size, 7, none⟩ = some (.bool unread) := HX1.cell 7
  have z7 : W0.cell? ⟨w.heap.size + 1, 7, none⟩ = some (.bool unread') := HX2.cell 7
  have y8 : W0.cell? ⟨w.heap.size, 8, none⟩ = some (.slice A bytes.length c) := HX1.cell 8
  have z8 : W0.cell? ⟨w.heap.size + 1, 8, none⟩ = some (.slice B bytes'.length c') := HX2.cell 8
  have hcv1 := (HA.out.below HB0.out).conv
  have hcv2 := (HB.out.below HB0.out).conv
  have HW0 := Lib.hid hW0
  clear hW0 HX1 HX2
  by_cases e0 : k = k'
  · subst e0
    by_cases e1 : node = node'
    · subst e1
      by_cases e2 : port = port'
      · subst e2
        by_cases e3 : cost = cost'
        · subst e3
          by_cases e4 : n = n'
          · subst e4
            by_cases e5 : up = up'
            · subst e5
              by_cases e6 : by_ = by_'
              · subst e6
                by_cases e7 : unread = unread'
                · subst e7
                  go_enter Tryz.func38, Tryz.ntmps38
                  go_upto_region 1 with fail
                  rw [HW0.out]
                  have HS : Hid (sameA ⟨k, node, port, cost, n, up, by_, unread, bytes⟩ ⟨k, node, port, cost, n, up, by_, unread, bytes'⟩ = decide (bytes = bytes')) := Lib.hid (by simp [sameA])
                  go_wp2
                  go_ret
                  have dq := beqd bytes bytes'
                  exact ⟨by rw [HS.out]; exact congrArg (fun b => Ending.returned (Value.bool b)) dq, HB0.out⟩
                · have d : (unread == unread') = false := by simpa using e7
                  have HS : Hid (sameA ⟨k, node, port, cost, n, up, by_, unread, bytes⟩ ⟨k, node, port, cost, n, up, by_, unread', bytes'⟩ = false) := Lib.hid (by simp [sameA, e7])
                  clear e7
                  go_enter Tryz.func38, Tryz.ntmps38
                  go_upto_region 1 with fail
                  rw [HW0.out]
                  go_wp2
                  go_ret
                  exact ⟨by rw [HS.out]; rfl, HB0.out⟩
              · have d : ((by_.toNat : Int) == (by_'.toNat : Int)) = false := by
                  rw [beq_eq_false_iff_ne]
                  intro h
                  exact e6 (UInt8.toNat_inj.1 (by omega))
                have HS : Hid (sameA ⟨k, node, port, cost, n, up, by_, unread, bytes⟩ ⟨k, node, port, cost, n, up, by_', unread', bytes'⟩ = false) := Lib.hid (by simp [sameA, e6])
                clear e6
                go_enter Tryz.func38, Tryz.ntmps38
                go_upto_region 1 with fail
                rw [HW0.out]
                go_wp2
                go_ret
                exact ⟨by rw [HS.out]; rfl, HB0.out⟩
            · have d : (up == up') = false := by simpa using e5
              have HS : Hid (sameA ⟨k, node, port, cost, n, up, by_, unread, bytes⟩ ⟨k, node, port, cost, n, up', by_', unread', bytes'⟩ = false) := Lib.hid (by simp [sameA, e5])
              clear e5
              go_enter Tryz.func38, Tryz.ntmps38
              go_upto_region 1 with fail
              rw [HW0.out]
              go_wp2
              go_ret
              exact ⟨by rw [HS.out]; rfl, HB0.out⟩
          · have d : (n == n') = false := by simpa using e4
            have HS : Hid (sameA ⟨k, node, port, cost, n, up, by_, unread, bytes⟩ ⟨k, node, port, cost, n', up', by_', unread', bytes'⟩ = false) := Lib.hid (by simp [sameA, e4])
            clear e4
            go_enter Tryz.func38, Tryz.ntmps38
            go_upto_region 1 with fail
            rw [HW0.out]
            go_wp2
            go_ret
            exact ⟨by rw [HS.out]; rfl, HB0.out⟩
        · have d : (cost == cost') = false := by simpa using e3
          have HS : Hid (sameA ⟨k, node, port, cost, n, up, by_, unread, bytes⟩ ⟨k, node, port, cost', n', up', by_', unread', bytes'⟩ = false) := Lib.hid (by simp [sameA, e3])
          clear e3
          go_enter Tryz.func38, Tryz.ntmps38
          go_upto_region 1 with fail
          rw [HW0.out]
          go_wp2
          go_ret
          exact ⟨by rw [HS.out]; rfl, HB0.out⟩
      · have d : (port == port') = false := by simpa using e2
        have HS : Hid (sameA ⟨k, node, port, cost, n, up, by_, unread, bytes⟩ ⟨k, node, port', cost', n', up', by_', unread', bytes'⟩ = false) := Lib.hid (by simp [sameA, e2])
        clear e2
        go_enter Tryz.func38, Tryz.ntmps38
        go_upto_region 1 with fail
        rw [HW0.out]
        go_wp2
        go_ret
        exact ⟨by rw [HS.out]; rfl, HB0.out⟩
    · have d : (node == node') = false := by simpa using e1
      have HS : Hid (sameA ⟨k, node, port, cost, n, up, by_, unread, bytes⟩ ⟨k, node', port', cost', n', up', by_', unread', bytes'⟩ = false) := Lib.hid (by simp [sameA, e1])
      clear e1
      go_enter Tryz.func38, Tryz.ntmps38
      go_upto_region 1 with fail
      rw [HW0.out]
      go_wp2
      go_ret
      exact ⟨by rw [HS.out]; rfl, HB0.out⟩
  · have d : (k == k') = false := by simpa using e0
    have HS : Hid (sameA ⟨k, node, port, cost, n, up, by_, unread, bytes⟩ ⟨k', node', port', cost', n', up', by_', unread', bytes'⟩ = false) := Lib.hid (by simp [sameA, e0])
    clear e0
    go_enter Tryz.func38, Tryz.ntmps38
    go_upto_region 1 with fail
    rw [HW0.out]
    go_wp2
    go_ret
    exact ⟨by rw [HS.out]; rfl, HB0.out⟩
end Go.Proofs.YtfbangojgjcbcaaGreatDoor
namespace Go.Proofs.YtfbangojgjcbcaaGreatDoor
open Go.RowKit Pl
section
variable {P : Program} {ops : Array Oper} {md : Region.Mode} {l n : Nat} {Q : Exit → Act → World → Prop}
theorem rowsIn_of {row : String} {args : Array Value} {w : World} {R : Value → World → Prop} (h : Rows P row args w R) : RowsIn (Fence.wide.inRound l) n P row args w R := by
  intro c cs _
  obtain ⟨v, w', r, s⟩ := h c cs
  exact ⟨v, w', r, stepsIn_wide.2 s⟩
theorem opIn_of {i : Nat} {K : Act → World → Prop} {a : Act} {w : World} (hdf : ∀ (j : Nat) (o : Oper), ops[j]? = some o → ∀ c, o.op ≠ .defer c) (hQ : ¬ LetsOut Q)
    (h : wpOp P ops Q i K a w) : wpOpIn (Fence.wide.inRound l) n P ops Q i K a w := by
  unfold wpOp at h
  unfold wpOpIn
  split
  · rename_i ho; simp only [ho] at h; exact h
  · rename_i o ho
    simp only [ho] at h
    split
    · rename_i hw
      rw [if_pos hw] at h
      have h := h.resolve_right (fun h => hQ h.2)
      unfold Oper.wp at h
      unfold Oper.wpIn
      refine ⟨fun _ _ => trivial, ?_⟩
      rw [Oper.semAt_plain _ _ _ (hdf i o ho)]
      generalize (execOp a.eval o).run P w = r at *
      cases r with
      | ok x w' =>
        cases x <;> simp only [Oper.upon] at h <;> simp only [Oper.uponIn]
        case enter f args =>
          refine ⟨fun hd => by simp [Fence.wide] at hd, CallsIn.inRound l ((callsIn_wide.2 h).mono fun e w'' he => ?_)⟩
          cases e <;> exact he
        case row row args => exact ⟨fun hd => by simp [Fence.wide] at hd, (rowsIn_of h).mono fun _ _ he => he⟩
        all_goals exact h
      | halt x w' => cases x <;> simp only [Oper.upon] at h <;> simp only [Oper.uponIn] <;> exact h
    · rename_i hw
      rw [if_neg hw] at h
      exact ⟨fun _ _ => trivial, h⟩
theorem anyIn_of (hdf : ∀ (j : Nat) (o : Oper), ops[j]? = some o → ∀ c, o.op ≠ .defer c) (hQ : ¬ LetsOut Q) :
    ∀ (f : Nat) (listed : Array Bool) (a : Act) (w : World), wpAny P md ops Q f listed a w → wpAnyIn (Fence.wide.inRound l) n P md ops Q f listed a w
  | 0, _, _, _, h => h
  | f + 1, _, _, _, h => ⟨h.1, fun i hi => wpOpIn_mono (fun a w h => anyIn_of hdf hQ f _ a w h) (opIn_of hdf hQ (h.2 i hi))⟩
def noDefer (ops : Array Oper) : Bool := ops.all fun o => match o.op with
  | .defer _ => false
  | _ => true
theorem noDefer_spec (h : noDefer ops = true) (j : Nat) (o : Oper) (ho : ops[j]? = some o) (c : Call) : o.op ≠ .defer c := by
  intro he
  have hm := Array.mem_of_getElem? ho
  have := (Array.all_eq_true'.1 h) o hm
  rw [he] at this
  cases this
theorem wpIn_region_ext {id : Nat} {a : Act} {W : World} {ls : List Oper} (hm : P.follows .mixedOrders = true) (hB : Region.lexB .any ls.toArray = true) (hd : noDefer ls.toArray = true)
    (h : wpQuiet P ls.toArray (fun w' => ∃ x : Ext W, w' = x.w) (fun a' => ∀ w', (∃ x : Ext W, w' = x.w) → Q .normal a' w') ls a) : (Code.region id ls.toArray true).wpIn (Fence.wide.inRound l) n P Q a W := by
  have h2 : (Code.region id ls.toArray true).wpIn (Fence.wide.inRound l) n P (Exit.then (fun a w => Q .normal a w) (fun _ _ _ => False)) a W := by
    refine wpIn_region_any hm (anyIn_of (noDefer_spec hd) (fun ⟨_, _, h⟩ => h) _ _ _ _ ?_)
    simp only [Region.lexB, Bool.and_eq_true] at hB
    refine wpAny_of_quiet (C := fun w' => ∃ x : Ext W, w' = x.w) (Q := fun a' => ∀ w', (∃ x : Ext W, w' = x.w) → Q .normal a' w') (Q' := Exit.then (fun a w => Q .normal a w) (fun _ _ _ => False)) (fun _ w' hw' h => h w' hw') _ _ _ { W with drawn := W.drawn + 1 } ⟨⟨_, (Below.refl _ W).drew⟩, rfl⟩ ?_
    have := wpAnyQ_lex (C := fun w' => ∃ x : Ext W, w' = x.w) (md := .any) hB.1 ls 0 (Array.replicate ls.toArray.size false) a (by simp) (by simpa using hB.2) h
    simpa using this
  exact wpIn_mono h2 fun e _ _ h => by cases e <;> first | exact h | exact h.elim
end
end Go.Proofs.YtfbangojgjcbcaaGreatDoor
namespace Go.Proofs.YtfbangojgjcbcaaGreatDoor
open Go.RowKit Pl
/-- The first words of an act's text. -/
def firstA (a : ActP) (j : Nat) : List UInt8 := Lib.join (nameA a.kind.toNat :: ((partsA a.kind.toNat).take j).map (told a)) [32]
theorem firstA_all (a : ActP) : firstA a (partsA a.kind.toNat).length = actText a := by
  unfold firstA actText actWords
  rw [List.take_length]
theorem told_len {a : ActP} (hi : InA a) (hl : a.bytes.length ≤ 2048) (q : Pt) : (told a q).length ≤ 4100 := by
  have e := fun n (h : In64 n) => itoa_len20 h
  cases q
  · have := e _ hi.2.1; unfold told; simp only; omega
  · have := e _ hi.2.2.1; unfold told; simp only; omega
  · have := e _ hi.2.2.2.1; unfold told; simp only; omega
  · have := e _ hi.2.2.2.2; unfold told; simp only; omega
  · unfold told; simp only; split <;> decide
  · have := e _ (in_byte a.by_); unfold told; simp only; omega
  · unfold told; simp only; split <;> decide
  · have := hexD_len a.bytes; unfold told; simp only; omega
theorem firstA_len {a : ActP} (hi : InA a) (hl : a.bytes.length ≤ 2048) (j : Nat) : (firstA a j).length ≤ 4101 * (1 + (partsA a.kind.toNat).length) := by
  have h := join_len 32 4100 (nameA a.kind.toNat :: ((partsA a.kind.toNat).take j).map (told a)) (by
    intro l hl'
    rcases List.mem_cons.1 hl' with rfl | h
    · have := name_len a.kind.toNat; omega
    · obtain ⟨q, _, rfl⟩ := List.mem_map.1 h
      exact told_len hi hl q)
  have h2 : (nameA a.kind.toNat :: ((partsA a.kind.toNat).take j).map (told a)).length ≤ 1 + (partsA a.kind.toNat).length := by
    simp only [List.length_cons, List.length_map, List.length_take]; omega
  exact Nat.le_trans h (Nat.mul_le_mul_left _ h2)
theorem partsA_len : ∀ k : Nat, (partsA k).length ≤ 4
  | 0 | 1 | 2 | 3 | 4 | 5 | 6 | 7 | 8 | 9 => by decide
  | _ + 10 => by simp [partsA]
end Go.Proofs.YtfbangojgjcbcaaGreatDoor
