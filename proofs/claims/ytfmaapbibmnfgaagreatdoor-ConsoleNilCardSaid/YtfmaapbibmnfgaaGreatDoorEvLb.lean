/- The functions of the library that this seat's run comes to, by the shelf's contracts. -/
import Derived.Test.YtfmaapbibmnfgaaGreatDoorEvLe
import Derived.Test.YtfmaapbibmnfgaaGreatDoorShelf
import Derived.Lib.AppendIntMem
set_option linter.unusedSectionVars false
set_option linter.unusedVariables false
set_option linter.unusedSimpArgs false
namespace Go.Proofs.YtfmaapbibmnfgaaGreatDoor
open Go Go.Proofs.YtfmaapbibmnfgaaGreatDoor.Ev Go.RowKit
section
variable [Vr]
/-- What the library's variables hold. -/
structure EnvW (w : World) : Prop where
  size : 8 ≤ w.heap.size
  maxlen : ∃ m, w.cell? ⟨0, 0, none⟩ = some (.int .i64 m)
  pow : Lib.TabIs Tryz.prog w "internal/strconv.uint64pow10" .u64 Lib.pow10Tab
  syn : ∃ t p, w.cell? ⟨1, 0, none⟩ = some (.iface t p)
def VrIs : Prop := ∀ w : World, (∀ g, g < Tryz.prog.globals.size → w.heap[g]? = Vr.H g) → EnvW w
theorem arg1_ok {l : List AV} {k : AV → R (Out × AS)} (h : (arg1 l k).ok) : ∃ a, l = [a] ∧ arg1 l k = k a := by
  cases l with
  | nil => exact h.elim
  | cons a r => cases r with
    | nil => exact ⟨a, rfl, rfl⟩
    | cons _ _ => exact h.elim
theorem arg2_ok {l : List AV} {k : AV → AV → R (Out × AS)} (h : (arg2 l k).ok) : ∃ a b, l = [a, b] ∧ arg2 l k = k a b := by
  cases l with
  | nil => exact h.elim
  | cons a r => obtain ⟨b, rfl, e⟩ := arg1_ok (k := k a) h; exact ⟨a, b, rfl, e⟩
theorem arg3_ok {l : List AV} {k : AV → AV → AV → R (Out × AS)} (h : (arg3 l k).ok) : ∃ a b c, l = [a, b, c] ∧ arg3 l k = k a b c := by
  cases l with
  | nil => exact h.elim
  | cons a r => obtain ⟨b, c, rfl, e⟩ := arg2_ok (k := k a) h; exact ⟨a, b, c, rfl, e⟩
theorem sepT_ok {v : AV} {k : Nat → R (Out × AS)} (h : (sepT v k).ok) : ∃ c, v = .str [c] ∧ c < 128 ∧ sepT v k = k c := by
  cases v with
  | str l =>
    have h' : (cO (onlyT l) .no k).ok := h
    cases e : onlyT l with
    | none => rw [e] at h'; exact h'.elim
    | some c =>
      obtain ⟨rfl, hc⟩ := onlyT_some e
      exact ⟨c, rfl, hc, by show cO (onlyT [c]) .no k = _; rw [e]; rfl⟩
  | _ => exact h.elim
theorem okB {b : Bool} {x : R (Out × AS)} (h : (cB b x .no).ok) : b = true ∧ cB b x .no = x := by
  cases b with
  | false => exact h.elim
  | true => exact ⟨rfl, rfl⟩
theorem okN {b : Bool} {x : R (Out × AS)} (h : (cB b .no x).ok) : b = false ∧ cB b .no x = x := by
  cases b with
  | true => exact h.elim
  | false => exact ⟨rfl, rfl⟩
theorem okO {α : Type} {o : Option α} {f : α → R (Out × AS)} (h : (cO o .no f).ok) : ∃ a, o = some a ∧ cO o .no f = f a := by
  cases o with
  | none => exact h.elim
  | some a => exact ⟨a, rfl, rfl⟩
theorem cBo {ρ : Rho} (b : Bool) : conc ρ (.bool b) = some (.bool b) := by simp only [conc]
theorem cIn {ρ : Rho} (k : IntKind) (n : Int) : conc ρ (.int k n) = some (.int k n) := by simp only [conc]
theorem tke_of {α : Type} : ∀ {n : Nat} {l : List α}, n ≤ l.length → tke n l = some (l.take n)
  | 0, l, _ => by cases l <;> rfl
  | n + 1, [], h => by simp at h
  | n + 1, a :: l, h => by
    have ih := tke_of (n := n) (l := l) (by simpa using h)
    show cO (tke n l) none (fun r => some (a :: r)) = _
    rw [ih]; rfl
theorem drewB {w : World} (n : Nat) : Below w.heap.size w (w.drewN n) := ⟨rfl, rfl, rfl, Nat.le_refl _, fun _ _ => rfl⟩
theorem smallN {n : Nat} (h : small n = true) : n ≤ 1000000000 := Nat.le_of_ble_eq_true h
theorem concs1 {ρ : Rho} {a : AV} {us : List Value} (h : concs ρ [a] = some us) : ∃ u, us = [u] ∧ conc ρ a = some u := by
  obtain ⟨u, q, rfl, h1, h2⟩ := concs_cons h
  rw [concs_nil h2]
  exact ⟨u, rfl, h1⟩
theorem concs2 {ρ : Rho} {a b : AV} {us : List Value} (h : concs ρ [a, b] = some us) : ∃ u v, us = [u, v] ∧ conc ρ a = some u ∧ conc ρ b = some v := by
  obtain ⟨u, q, rfl, h1, h2⟩ := concs_cons h
  obtain ⟨v, rfl, h3⟩ := concs1 h2
  exact ⟨u, v, rfl, h1, h3⟩
theorem concs3 {ρ : Rho} {a b c : AV} {us : List Value} (h : concs ρ [a, b, c] = some us) : ∃ u v x, us = [u, v, x] ∧ conc ρ a = some u ∧ conc ρ b = some v ∧ conc ρ c = some x := by
  obtain ⟨u, q, rfl, h1, h2⟩ := concs_cons h
  obtain ⟨v, x, rfl, h3, h4⟩ := concs2 h2
  exact ⟨u, v, x, rfl, h1, h3, h4⟩
theorem strC {ρ : Rho} {l : List Nat} {u : Value} (h : conc ρ (.str l) = some u) : u = .string ⟨(byT l).toArray⟩ ∧ LtB l := by
  obtain ⟨s, rfl, hs⟩ := conc_str h
  obtain ⟨rfl, hl⟩ := textOf_iff hs
  exact ⟨rfl, hl⟩
theorem rstrC {ρ : Rho} {n c : Nat} {u : Value} (h : conc ρ (.rstr n c) = some u) : u = .string ⟨(byT (List.replicate n c)).toArray⟩ ∧ c < 256 := by
  obtain ⟨rfl, hc⟩ := conc_rstr h
  refine ⟨?_, hc⟩
  congr 2
  apply Array.ext'
  simp [byT]
theorem rep_lt {n c : Nat} (h : c < 256) : LtB (List.replicate n c) := fun x hx => by rw [(List.mem_replicate.1 hx).2]; exact h
theorem idx_rep {c d : Nat} (h : Nat.beq c d = false) : ∀ n, idxB c (List.replicate n d) = none
  | 0 => rfl
  | n + 1 => by
    have e : idxB c (d :: List.replicate n d) = cB (Nat.beq d c) (some 0) (cO (idxB c (List.replicate n d)) none fun n => some (Nat.add n 1)) := rfl
    have hd : Nat.beq d c = false := by
      cases q : Nat.beq d c with
      | false => rfl
      | true => rw [Nat.eq_of_beq_eq_true q, Nat.beq_refl] at h; cases h
    rw [List.replicate_succ, e, hd, idx_rep h n]; rfl
theorem datT (l : List Nat) : (⟨(byT l).toArray⟩ : ByteArray).data.toList = byT l := rfl
theorem szT (l : List Nat) : (⟨(byT l).toArray⟩ : ByteArray).size = l.length := by show (byT l).toArray.size = _; simp [byT]
variable {ρ : Rho} {S : AS} {w : World} {args : List AV} {us : List Value}
theorem lib1 (E : EnvW w) (hs : Sat Tryz.prog ρ S w) (ha : concs ρ args = some us) (hok : (libContains args S).ok) : Gives Tryz.prog ρ S w 28 us (libContains args S) := by
  obtain ⟨x, y, rfl, e⟩ := arg2_ok hok
  have hok2 := hok
  unfold libContains at hok2 ⊢
  rw [e] at hok2 ⊢
  obtain ⟨c, rfl, hc, e2⟩ := sepT_ok hok2
  rw [e2] at hok2 ⊢
  obtain ⟨u, v, rfl, h1, h2⟩ := concs2 ha
  obtain ⟨rfl, _⟩ := strC h2
  obtain ⟨m, hm⟩ := E.maxlen
  cases x with
  | str a =>
    have hok3 : (cB (small (len a)) (one1 S (.bool (hasB c a))) .no).ok := hok2
    obtain ⟨k1, k2⟩ := okB hok3
    show Gives _ _ _ _ _ _ (cB (small (len a)) (one1 S (.bool (hasB c a))) .no)
    rw [k2]
    have k1 := smallN k1
    rw [len_eq] at k1
    obtain ⟨rfl, hl⟩ := strC h1
    refine gives_one hs (cBo _) ((Tryz.strings_Contains ⟨(byT a).toArray⟩ ⟨(byT [c]).toArray⟩ m w (by rw [szT]; omega) hm).mono fun e w' ⟨he, hw⟩ => ?_)
    rw [datT, datT, show byT [c] = [c.toUInt8] from rfl, contains_eq (by omega) hl] at he
    exact ⟨he, by rw [hw]; exact Below.refl _ _⟩
  | rstr n d =>
    have hok3 : (cB (Nat.beq c d) .no (cB (small n) (one1 S (.bool false)) .no)).ok := hok2
    obtain ⟨k0, k3⟩ := okN hok3
    rw [k3] at hok3
    obtain ⟨k1, k2⟩ := okB hok3
    show Gives _ _ _ _ _ _ (cB (Nat.beq c d) .no (cB (small n) (one1 S (.bool false)) .no))
    rw [k3, k2]
    have k1 := smallN k1
    obtain ⟨rfl, hd⟩ := rstrC h1
    refine gives_one hs (cBo _) ((Tryz.strings_Contains ⟨(byT (List.replicate n d)).toArray⟩ ⟨(byT [c]).toArray⟩ m w (by rw [szT, List.length_replicate]; omega) hm).mono fun e w' ⟨he, hw⟩ => ?_)
    rw [datT, datT, show byT [c] = [c.toUInt8] from rfl, contains_eq (by omega) (rep_lt hd), hasB_idx, idx_rep k0] at he
    exact ⟨he, by rw [hw]; exact Below.refl _ _⟩
  | _ => exact hok2.elim
theorem lib2 (hs : Sat Tryz.prog ρ S w) (ha : concs ρ args = some us) (hok : (libIndexByte args S).ok) : Gives Tryz.prog ρ S w 224 us (libIndexByte args S) := by
  obtain ⟨x, y, rfl, e⟩ := arg2_ok hok
  have hok2 := hok
  unfold libIndexByte at hok2 ⊢
  rw [e] at hok2 ⊢
  obtain ⟨u, v, rfl, h1, h2⟩ := concs2 ha
  cases x with
  | str a =>
    cases y with
    | int k n =>
      have hok3 : (cB (kEq k .u8) (cI n (fun c => cB (Nat.blt c 256) (cO (idxB c a) (one1 S (.int .i64 (.negSucc 0))) fun i => one1 S (.int .i64 (.ofNat i))) .no) fun _ => .no) .no).ok := hok2
      obtain ⟨k1, k2⟩ := okB hok3
      show Gives _ _ _ _ _ _ (cB (kEq k .u8) (cI n (fun c => cB (Nat.blt c 256) (cO (idxB c a) (one1 S (.int .i64 (.negSucc 0))) fun i => one1 S (.int .i64 (.ofNat i))) .no) fun _ => .no) .no)
      rw [k2] at hok3 ⊢
      cases kEq_iff.1 k1
      cases n with
      | negSucc _ => exact hok3.elim
      | ofNat c =>
        obtain ⟨k3, k4⟩ := okB (show (cB (Nat.blt c 256) (cO (idxB c a) (one1 S (.int .i64 (.negSucc 0))) fun i => one1 S (.int .i64 (.ofNat i))) .no).ok from hok3)
        show Gives _ _ _ _ _ _ (cB (Nat.blt c 256) (cO (idxB c a) (one1 S (.int .i64 (.negSucc 0))) fun i => one1 S (.int .i64 (.ofNat i))) .no)
        rw [k4]
        have hc : c < 256 := by simpa using k3
        obtain ⟨rfl, hl⟩ := strC h1
        cases conc_int h2
        have key := Tryz.strings_IndexByte ⟨(byT a).toArray⟩ (Int.ofNat c) w
        rw [datT, show (Int.ofNat c).toNat.toUInt8 = c.toUInt8 from rfl, idxB_eq hc hl] at key
        cases q : idxB c a with
        | none =>
          rw [q] at key
          exact gives_one hs (cIn _ _) (key.mono fun e w' ⟨he, hw⟩ => ⟨he, by rw [hw]; exact Below.refl _ _⟩)
        | some i =>
          rw [q] at key
          exact gives_one hs (cIn _ _) (key.mono fun e w' ⟨he, hw⟩ => ⟨he, by rw [hw]; exact Below.refl _ _⟩)
    | _ => exact hok2.elim
  | _ => exact hok2.elim
theorem lib3 (E : EnvW w) (hs : Sat Tryz.prog ρ S w) (ha : concs ρ args = some us) (hok : (libCut args S).ok) : Gives Tryz.prog ρ S w 36 us (libCut args S) := by
  obtain ⟨x, y, rfl, e⟩ := arg2_ok hok
  have hok2 := hok
  unfold libCut at hok2 ⊢
  rw [e] at hok2 ⊢
  obtain ⟨c, rfl, hc, e2⟩ := sepT_ok hok2
  rw [e2] at hok2 ⊢
  obtain ⟨u, v, rfl, h1, h2⟩ := concs2 ha
  obtain ⟨rfl, _⟩ := strC h2
  obtain ⟨m, hm⟩ := E.maxlen
  cases x with
  | str a =>
    have hok3 : (cB (small (len a)) (one1 S (cutO a c)) .no).ok := hok2
    obtain ⟨k1, k2⟩ := okB hok3
    show Gives _ _ _ _ _ _ (cB (small (len a)) (one1 S (cutO a c)) .no)
    rw [k2]
    have k1 := smallN k1
    rw [len_eq] at k1
    obtain ⟨rfl, hl⟩ := strC h1
    have key := Tryz.strings_Cut ⟨(byT a).toArray⟩ ⟨(byT [c]).toArray⟩ m w (by rw [szT]; omega) hm
    rw [datT, datT, show byT [c] = [c.toUInt8] from rfl, cut_eq (by omega) hl] at key
    cases q : idxB c a with
    | none =>
      rw [q] at key
      unfold cutO
      rw [q]
      exact gives_one hs (v := .tuple [.str a, .str [], .bool false]) (by simp only [conc, concs, textOf_mk hl, textOf_mk LtB.nil]; rfl) (key.mono fun e w' ⟨he, n, hw⟩ => ⟨he, by rw [hw]; exact drewB n⟩)
    | some i =>
      rw [q] at key
      unfold cutO
      rw [q]
      have hi := idxB_le q
      have e1 : ofT (tke i a) = a.take i := by
        cases ht : tke i a with
        | none => exact absurd ht (by rw [tke_of (by omega)]; intro h; cases h)
        | some r => exact (tke_some _ _ _ ht).1
      have e2 : drp (Nat.add i 1) a = a.drop (i + 1) := drp_eq _ _
      refine gives_one hs (v := .tuple [.str (ofT (tke i a)), .str (drp (Nat.add i 1) a), .bool true]) (u := .tuple #[.string ⟨(byT (a.take i)).toArray⟩, .string ⟨(byT (a.drop (i + 1))).toArray⟩, .bool true]) ?_ (key.mono fun e w' ⟨he, n, hw⟩ => ⟨he, by rw [hw]; exact drewB n⟩)
      rw [e1, e2]
      simp only [conc, concs, textOf_mk (hl.take i), textOf_mk (hl.drop (i + 1))]
  | rstr n d =>
    have hok3 : (cB (Nat.beq c d) .no (cB (small n) (one1 S (.tuple [.rstr n d, .str [], .bool false])) .no)).ok := hok2
    obtain ⟨k0, k3⟩ := okN hok3
    rw [k3] at hok3
    obtain ⟨k1, k2⟩ := okB hok3
    show Gives _ _ _ _ _ _ (cB (Nat.beq c d) .no (cB (small n) (one1 S (.tuple [.rstr n d, .str [], .bool false])) .no))
    rw [k3, k2]
    have k1 := smallN k1
    have h1' := h1
    obtain ⟨rfl, hd⟩ := rstrC h1
    have key := Tryz.strings_Cut ⟨(byT (List.replicate n d)).toArray⟩ ⟨(byT [c]).toArray⟩ m w (by rw [szT, List.length_replicate]; omega) hm
    rw [datT, datT, show byT [c] = [c.toUInt8] from rfl, cut_eq (by omega) (rep_lt hd), idx_rep k0] at key
    refine gives_one hs (v := .tuple [.rstr n d, .str [], .bool false]) (u := .tuple #[.string ⟨(byT (List.replicate n d)).toArray⟩, .string ⟨(byT []).toArray⟩, .bool false]) ?_ (key.mono fun e w' ⟨he, n, hw⟩ => ⟨he, by rw [hw]; exact drewB n⟩)
    have h3 : conc ρ (.str []) = some (.string ⟨(byT []).toArray⟩) := by simp only [conc, textOf_mk LtB.nil]
    show conc ρ (.tuple [.rstr n d, .str [], .bool false]) = _
    have h4 : conc ρ (.bool false) = some (.bool false) := by simp only [conc]
    have : concs ρ [.rstr n d, .str [], .bool false] = some [.string ⟨(byT (List.replicate n d)).toArray⟩, .string ⟨(byT []).toArray⟩, .bool false] := concs_cons' h1' (concs_cons' h3 (concs_cons' h4 rfl))
    simp only [conc] at this ⊢
    rw [this]
  | _ => exact hok2.elim
theorem split_T {c : Nat} (hc : c < 256) {l : List Nat} (hl : LtB l) : Lib.splitB ⟨(byT [c]).toArray⟩ 0 (Lib.countB ⟨(byT l).toArray⟩ ⟨(byT [c]).toArray⟩) ⟨(byT l).toArray⟩ = ((splB c l).map byT).map fun b => (⟨b.toArray⟩ : ByteArray) := by
  have h := Lib.splitB_data ⟨(byT [c]).toArray⟩ 0 (Lib.countB ⟨(byT l).toArray⟩ ⟨(byT [c]).toArray⟩) ⟨(byT l).toArray⟩
  rw [datT, datT] at h
  have e : Lib.countB ⟨(byT l).toArray⟩ ⟨(byT [c]).toArray⟩ = Lib.count (byT l) [c.toUInt8] := rfl
  rw [e, show byT [c] = [c.toUInt8] from rfl, split_on, ← (splB_eq hc hl).1] at h
  rw [e, ← h, List.map_map]
  have : ((fun b : List UInt8 => (⟨b.toArray⟩ : ByteArray)) ∘ fun x : ByteArray => x.data.toList) = id := by funext x; simp
  rw [this, List.map_id]; rfl
theorem lib4 (E : EnvW w) (hs : Sat Tryz.prog ρ S w) (ha : concs ρ args = some us) (hok : (libSplit 9 args S).ok) : Gives Tryz.prog ρ S w 65 us (libSplit 9 args S) := by
  obtain ⟨x, y, rfl, e⟩ := arg2_ok hok
  have hok2 := hok
  unfold libSplit at hok2 ⊢
  rw [e] at hok2 ⊢
  obtain ⟨c, rfl, hc, e2⟩ := sepT_ok hok2
  rw [e2] at hok2 ⊢
  obtain ⟨u, v, rfl, h1, h2⟩ := concs2 ha
  obtain ⟨rfl, _⟩ := strC h2
  obtain ⟨m, hm⟩ := E.maxlen
  have key : ∀ (a : List Nat) (q : List AV), LtB a → a.length ≤ 1000000000 → q.length = (splB c a).length → concs ρ q = some (((splB c a).map byT).map fun b => Value.string ⟨b.toArray⟩) → (newRowS 9 q S).ok → Gives Tryz.prog ρ S w 65 [.string ⟨(byT a).toArray⟩, .string ⟨(byT [c]).toArray⟩] (newRowS 9 q S) := by
    intro a q hl hlen hq hcq hk
    refine gives_row hs hcq hk ((Tryz.strings_Split ⟨(byT a).toArray⟩ ⟨(byT [c]).toArray⟩ m w (by rw [szT]; omega) hm (by rw [szT]; simp)).mono fun e w' ⟨he, hw⟩ => ?_)
    have hn : Lib.countB ⟨(byT a).toArray⟩ ⟨(byT [c]).toArray⟩ + 1 = q.length := by
      have h := Lib.splitB_all ⟨(byT [c]).toArray⟩ (by rw [szT]; simp) 0 _ ⟨(byT a).toArray⟩ rfl
      rw [split_T (by omega) hl, List.length_map, List.length_map] at h; omega
    rw [split_T (by omega) hl, List.map_map] at hw
    rw [hn] at he
    exact ⟨he, hw⟩
  cases x with
  | str a =>
    have hok3 : (cB (small (len a)) (newRowS 9 (strsV (splB c a)) S) .no).ok := hok2
    obtain ⟨k1, k2⟩ := okB hok3
    show Gives _ _ _ _ _ _ (cB (small (len a)) (newRowS 9 (strsV (splB c a)) S) .no)
    rw [k2] at hok3 ⊢
    have k1 := smallN k1
    rw [len_eq] at k1
    obtain ⟨rfl, hl⟩ := strC h1
    exact key a _ hl k1 (strsV_len _) (strsV_conc (splB_eq (by omega) hl).2) hok3
  | rstr n d =>
    have hok3 : (cB (Nat.beq c d) .no (cB (small n) (newRowS 9 [.rstr n d] S) .no)).ok := hok2
    obtain ⟨k0, k3⟩ := okN hok3
    rw [k3] at hok3
    obtain ⟨k1, k2⟩ := okB hok3
    show Gives _ _ _ _ _ _ (cB (Nat.beq c d) .no (cB (small n) (newRowS 9 [.rstr n d] S) .no))
    rw [k3, k2]
    rw [k2] at hok3
    have k1 := smallN k1
    have h1' := h1
    obtain ⟨rfl, hd⟩ := rstrC h1
    have es : ∀ n, splB c (List.replicate n d) = [List.replicate n d] := by
      intro n
      induction n with
      | zero => rfl
      | succ n ih =>
        have e : splB c (d :: List.replicate n d) = cB (Nat.beq d c) ([] :: splB c (List.replicate n d)) (cL (splB c (List.replicate n d)) [[d]] fun h t => (d :: h) :: t) := rfl
        have hdc : Nat.beq d c = false := by
          cases q : Nat.beq d c with
          | false => rfl
          | true => rw [Nat.eq_of_beq_eq_true q, Nat.beq_refl] at k0; cases k0
        rw [List.replicate_succ, e, hdc, ih]; rfl
    exact key (List.replicate n d) _ (rep_lt hd) (by rw [List.length_replicate]; exact k1) (by rw [es]; rfl) (by rw [es]; exact concs_cons' h1' rfl) hok3
  | _ => exact hok2.elim
theorem lib5 (E : EnvW w) (hs : Sat Tryz.prog ρ S w) (ha : concs ρ args = some us) (hok : (libReplace args S).ok) : Gives Tryz.prog ρ S w 41 us (libReplace args S) := by
  obtain ⟨x, y, z, rfl, e⟩ := arg3_ok hok
  have hok2 := hok
  unfold libReplace at hok2 ⊢
  rw [e] at hok2 ⊢
  obtain ⟨c, rfl, hc, e2⟩ := sepT_ok hok2
  rw [e2] at hok2 ⊢
  obtain ⟨u, v, t, rfl, h1, h2, h3⟩ := concs3 ha
  obtain ⟨rfl, _⟩ := strC h2
  obtain ⟨m, hm⟩ := E.maxlen
  cases x with
  | str a =>
    cases z with
    | str b =>
      have hok3 : (cB (bAnd (small (Nat.add (len a) (Nat.mul (len a) (len b)))) (small (len b))) (one1 S (.str (joinT b (splB c a)))) .no).ok := hok2
      obtain ⟨k1, k2⟩ := okB hok3
      show Gives _ _ _ _ _ _ (cB (bAnd (small (Nat.add (len a) (Nat.mul (len a) (len b)))) (small (len b))) (one1 S (.str (joinT b (splB c a)))) .no)
      rw [k2]
      obtain ⟨k3, _⟩ := bAnd_iff.1 k1
      have k3 := smallN k3
      rw [len_eq, len_eq] at k3
      have k3 : a.length + a.length * b.length ≤ 1000000000 := k3
      obtain ⟨rfl, hl⟩ := strC h1
      obtain ⟨rfl, hb⟩ := strC h3
      have hcnt : Lib.countB ⟨(byT a).toArray⟩ ⟨(byT [c]).toArray⟩ ≤ a.length := by
        show Lib.count (byT a) [c.toUInt8] ≤ _
        rw [Lib.count_one]
        exact Nat.le_trans List.count_le_length (by simp [byT])
      refine gives_one hs (v := .str (joinT b (splB c a))) (u := .string ⟨(byT (joinT b (splB c a))).toArray⟩) (by simp only [conc, textOf_mk (joinT_lt hb (splB_eq (c := c) (by omega) hl).2)])
        ((Tryz.strings_ReplaceAll ⟨(byT a).toArray⟩ ⟨(byT [c]).toArray⟩ ⟨(byT b).toArray⟩ m w (by rw [szT]; omega) hm (by rw [szT]; simp) (by
          rw [szT, szT]
          have : Lib.countB ⟨(byT a).toArray⟩ ⟨(byT [c]).toArray⟩ * b.length ≤ a.length * b.length := Nat.mul_le_mul_right _ hcnt
          omega)).mono fun e w' ⟨he, hw⟩ => ⟨?_, hw⟩)
      rw [he, datT, datT, datT]
      congr 2
      have key : Lib.replaceAll (byT a) (byT [c]) (byT b) = byT (joinT b (splB c a)) := by
        rw [joinT_eq, (splB_eq (by omega) hl).1, show byT [c] = [c.toUInt8] from rfl]
        show (if ([c.toUInt8] == byT b) = true then byT a else Lib.replaceK [c.toUInt8] (byT b) (Lib.replaceNum (byT a) [c.toUInt8] (-1)) (byT a)) = _
        have hnum : Lib.replaceNum (byT a) [c.toUInt8] (-1) = Lib.count (byT a) [c.toUInt8] := by unfold Lib.replaceNum; rw [if_pos (.inl (by decide))]
        rw [hnum, replace_on]
        split
        · rename_i q
          have q : [c.toUInt8] = byT b := by simpa using q
          rw [← q]
          exact (join_on c.toUInt8 (byT a)).symm
        · rfl
      rw [key]
    | _ => exact hok2.elim
  | _ => exact hok2.elim
theorem lib6 (hs : Sat Tryz.prog ρ S w) (ha : concs ρ args = some us) (hok : (libJoin args S).ok) : Gives Tryz.prog ρ S w 92 us (libJoin args S) := by
  obtain ⟨x, y, rfl, e⟩ := arg2_ok hok
  have hok2 := hok
  unfold libJoin at hok2 ⊢
  rw [e] at hok2 ⊢
  obtain ⟨u, v, rfl, h1, h2⟩ := concs2 ha
  have key : ∀ (sep : List Nat) (b : Nam) (o n g off cap c : Nat), LtB sep → Ev.look ρ b = some (.blk g off cap) → n ≤ c → (joinAt sep b o n S).ok → Gives Tryz.prog ρ S w 92 [.slice (some ⟨g, off + o, none⟩) n c, .string ⟨(byT sep).toArray⟩] (joinAt sep b o n S) := by
    intro sep b o n g off cap c hsep hb hnc hk
    unfold joinAt at hk ⊢
    cases ho : getA S b with
    | cells md t cs =>
      rw [ho] at hk
      have hk : (cO (tke n (drp o cs)) .no fun q => cO (strsA q) .no fun r => cB (bAnd (small n) (small (len (joinT sep r)))) (one1 S (.str (joinT sep r))) .no).ok := hk
      obtain ⟨q, q1, q2⟩ := okO hk
      show Gives _ _ _ _ _ _ (cO (tke n (drp o cs)) .no fun q => cO (strsA q) .no fun r => cB (bAnd (small n) (small (len (joinT sep r)))) (one1 S (.str (joinT sep r))) .no)
      rw [q2] at hk ⊢
      obtain ⟨r, r1, r2⟩ := okO hk
      rw [r2] at hk ⊢
      obtain ⟨s1, s2⟩ := okB hk
      rw [s2]
      obtain ⟨s3, s4⟩ := bAnd_iff.1 s1
      have s3 := smallN s3
      have s4 := smallN s4
      rw [len_eq] at s4
      rw [drp_eq] at q1
      obtain ⟨rfl, q3⟩ := tke_some _ _ _ q1
      rw [getA_eq] at ho
      obtain ⟨g', off', cap', arr, fz, l, rc⟩ := relC_of hs ho
      have hg := rc.here
      rw [look_path hb] at hg
      cases hg
      obtain ⟨t1, t2, t3⟩ := strsA_ok r1 (concs_take (concs_drop rc.vals))
      have hrn : r.length = n := by rw [t3, List.length_take]; omega
      have e1 : ((r.map fun b => (⟨(byT b).toArray⟩ : ByteArray)).map (·.data.toList)) = r.map byT := by rw [List.map_map]; rfl
      have kk := Tryz.strings_Join g (off + o) c (r.map fun b => (⟨(byT b).toArray⟩ : ByteArray)) ⟨(byT sep).toArray⟩ w (fun j x hx => by
        have hx2 : ((l.drop o).take n)[j]? = some (.string x) := by
          rw [t1, List.map_map]
          simp only [List.getElem?_map, Option.map_eq_some_iff] at hx ⊢
          obtain ⟨y, y1, y2⟩ := hx
          exact ⟨y, y1, by rw [← y2]; rfl⟩
        rw [List.getElem?_take] at hx2
        split at hx2
        · rw [List.getElem?_drop] at hx2
          rw [Nat.add_assoc]
          exact rc.cell hx2
        · cases hx2) (hs.bnd _ _ _ _ (look_path hb)) (by rw [List.length_map]; omega) (by rw [List.length_map]; omega) (by rw [e1, datT, ← joinT_eq]; simp only [byT, List.length_map]; omega)
      rw [List.length_map, hrn, e1, datT, ← joinT_eq] at kk
      exact gives_one hs (v := .str (joinT sep r)) (by simp only [conc, textOf_mk (joinT_lt hsep t2)]) kk
    | _ => rw [ho] at hk; exact hk.elim
  cases y with
  | str sep =>
    obtain ⟨rfl, hl⟩ := strC h2
    cases x with
    | slice b o n c =>
      obtain ⟨g, off, cap, hb, hn, rfl⟩ := conc_slice h1
      exact key sep b o n g off cap c hl hb hn hok2
    | row b o n c =>
      obtain ⟨g, off, cap, hb, hn, rfl⟩ := conc_row h1
      exact key sep b o n g off cap (cap - c) hl hb (by omega) hok2
    | _ => exact hok2.elim
  | _ => exact hok2.elim
theorem lib7 (E : EnvW w) (hs : Sat Tryz.prog ρ S w) (ha : concs ρ args = some us) (hok : (libItoa args S).ok) : Gives Tryz.prog ρ S w 50 us (libItoa args S) := by
  obtain ⟨x, rfl, e⟩ := arg1_ok hok
  have hok2 := hok
  unfold libItoa at hok2 ⊢
  rw [e] at hok2 ⊢
  obtain ⟨u, rfl, h1⟩ := concs1 ha
  cases x with
  | int k n =>
    have hok3 : (cB (kEq k .i64) (cI n (fun m => cO (itoaN 18 m []) .no fun r => one1 S (.str r)) fun _ => .no) .no).ok := hok2
    obtain ⟨k1, k2⟩ := okB hok3
    show Gives _ _ _ _ _ _ (cB (kEq k .i64) (cI n (fun m => cO (itoaN 18 m []) .no fun r => one1 S (.str r)) fun _ => .no) .no)
    rw [k2] at hok3 ⊢
    cases kEq_iff.1 k1
    cases n with
    | negSucc _ => exact hok3.elim
    | ofNat m =>
      have hok4 : (cO (itoaN 18 m []) .no fun r => one1 S (.str r)).ok := hok3
      obtain ⟨r, r1, r2⟩ := okO hok4
      show Gives _ _ _ _ _ _ (cO (itoaN 18 m []) .no fun r => one1 S (.str r))
      rw [r2]
      cases conc_int h1
      obtain ⟨i1, i2, i3⟩ := itoaN_ok r1
      have hm : m < 1000000000000000000 := i1
      refine gives_one hs (v := .str r) (u := .string ⟨(byT r).toArray⟩) (by simp only [conc, textOf_mk (i3 LtB.nil)]) ((Tryz.strconv_Itoa (Int.ofNat m) (by simp <;> omega) (by simp <;> omega) w E.pow).mono fun e w' ⟨he, k, os, hw⟩ => ⟨?_, by rw [hw]; exact Lib.below_grow _ _ (Nat.le_refl _) _ _⟩)
      have : Lib.itoa (Int.ofNat m) = byT r := by
        rw [i2, Lib.itoa, if_neg (by simp)]; simp [byT]
      rw [he, this]
  | _ => exact hok2.elim
theorem below_by (w : World) (t : TypeId) (s : ByteArray) : Below w.heap.size w (Lib.bytesWorld w t s) :=
  ⟨rfl, rfl, rfl, by rw [Lib.bytesWorld_size]; omega, fun k hk => Lib.bytesWorld_at_old w t s k hk⟩
theorem lib8 (E : EnvW w) (hs : Sat Tryz.prog ρ S w) (ha : concs ρ args = some us) (hok : (libAtoi args S).ok) : Gives Tryz.prog ρ S w 49 us (libAtoi args S) := by
  obtain ⟨x, rfl, e⟩ := arg1_ok hok
  have hok2 := hok
  unfold libAtoi at hok2 ⊢
  rw [e] at hok2 ⊢
  obtain ⟨u, rfl, h1⟩ := concs1 ha
  cases x with
  | str a =>
    obtain ⟨rfl, hl⟩ := strC h1
    cases a with
    | nil =>
      obtain ⟨t, p, hv⟩ := E.syn
      exact gives_err hs (v := .int .i64 (.ofNat 0)) (u := .int .i64 0) (cIn _ _) hok2 ((Any.strconv_Atoi_syntax Tryz.laysC172 ⟨(byT []).toArray⟩ (by decide) rfl _ w hv (.inr ⟨_, _, rfl⟩)).mono fun e w' ⟨N, he, _, _, hb⟩ => ⟨⟨_, _, he⟩, hb⟩)
    | cons c r =>
      have hok3 : (cO (numT' (c :: r)) .no fun n => one1 S (.tuple [.int .i64 (.ofNat n), .nili])).ok := hok2
      obtain ⟨n, n1, n2⟩ := okO hok3
      show Gives _ _ _ _ _ _ (cO (numT' (c :: r)) .no fun n => one1 S (.tuple [.int .i64 (.ofNat n), .nili]))
      rw [n2]
      obtain ⟨j1, j2, _⟩ := numT_ok n1
      have hlen : (c :: r).length ≤ 18 := by
        have h' : cB (Nat.ble (len (c :: r)) 18) (digsT (c :: r) 0) none = some n := n1
        have := Nat.le_of_ble_eq_true (cB_some h').1
        rwa [len_eq] at this
      refine gives_one hs (v := .tuple [.int .i64 (.ofNat n), .nili]) (u := .tuple #[.int .i64 n, .nilIface]) (by simp only [conc, concs]; rfl) ((Tryz.strconv_Atoi_ok ⟨(byT (c :: r)).toArray⟩ (by rw [szT]; omega) n (by rw [datT]; exact j2) w).mono fun e w' ⟨he, hw⟩ => ⟨he, ?_⟩)
      rcases hw with rfl | ⟨t, rfl⟩
      · exact Below.refl _ _
      · exact below_by _ _ _
  | _ => exact hok2.elim
theorem lib9 (hs : Sat Tryz.prog ρ S w) (ha : concs ρ args = some us) (hok : (libParse8 args S).ok) : Gives Tryz.prog ρ S w 107 us (libParse8 args S) := by
  obtain ⟨x, y, z, rfl, e⟩ := arg3_ok hok
  have hok2 := hok
  unfold libParse8 at hok2 ⊢
  rw [e] at hok2 ⊢
  obtain ⟨u, v, t, rfl, h1, h2, h3⟩ := concs3 ha
  cases x with
  | str a =>
    cases y with
    | int j b =>
      cases z with
      | int k n =>
        have hok3 : (cB (bAnd (bAnd (kEq j .i64) (kEq k .i64)) (bAnd (ieq b (.ofNat 10)) (ieq n (.ofNat 8)))) (cO (numT' a) .no fun n => cB (Nat.blt n 256) (one1 S (.tuple [.int .u64 (.ofNat n), .nili])) .no) .no).ok := hok2
        obtain ⟨k1, k2⟩ := okB hok3
        show Gives _ _ _ _ _ _ (cB (bAnd (bAnd (kEq j .i64) (kEq k .i64)) (bAnd (ieq b (.ofNat 10)) (ieq n (.ofNat 8)))) (cO (numT' a) .no fun n => cB (Nat.blt n 256) (one1 S (.tuple [.int .u64 (.ofNat n), .nili])) .no) .no)
        rw [k2] at hok3 ⊢
        obtain ⟨k3, k4⟩ := bAnd_iff.1 k1
        obtain ⟨k5, k6⟩ := bAnd_iff.1 k3
        obtain ⟨k7, k8⟩ := bAnd_iff.1 k4
        cases kEq_iff.1 k5
        cases kEq_iff.1 k6
        have k7 : b = 10 := (ieq_iff _ _).1 k7
        have k8 : n = 8 := (ieq_iff _ _).1 k8
        subst k7; subst k8
        obtain ⟨q, q1, q2⟩ := okO hok3
        rw [q2] at hok3 ⊢
        obtain ⟨q3, q4⟩ := okB hok3
        rw [q4]
        obtain ⟨rfl, hl⟩ := strC h1
        cases conc_int h2
        cases conc_int h3
        obtain ⟨j1, _, j3⟩ := numT_ok q1
        have hlen : a.length ≤ 18 := by
          cases a with
          | nil => simp
          | cons c r =>
            have h' : cB (Nat.ble (len (c :: r)) 18) (digsT (c :: r) 0) none = some q := q1
            have := Nat.le_of_ble_eq_true (cB_some h').1
            rwa [len_eq] at this
        refine gives_one hs (v := .tuple [.int .u64 (.ofNat q), .nili]) (u := .tuple #[.int .u64 q, .nilIface]) (by simp only [conc, concs]; rfl) ((Tryz.strconv_ParseUint_10_at8_ok ⟨(byT a).toArray⟩ (by rw [szT]; omega) q (by rw [datT]; exact j3 (by simpa using q3)) w).mono fun e w' ⟨he, hw⟩ => ⟨he, ?_⟩)
        rcases hw with rfl | rfl
        · exact Below.refl _ _
        · exact below_by _ _ _
      | _ => exact hok2.elim
    | _ => exact hok2.elim
  | _ => exact hok2.elim
end
end Go.Proofs.YtfmaapbibmnfgaaGreatDoor
