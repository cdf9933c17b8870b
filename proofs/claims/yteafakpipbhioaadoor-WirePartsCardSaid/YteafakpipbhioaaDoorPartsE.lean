/- ref01.Cut, ref01.SameLists; what wire.Cut lays, as lists. -/
import Derived.Test.YteafakpipbhioaaDoorPartsD
namespace Go.Proofs.YteafakpipbhioaaDoor
open Go.RowKit Pl

def partAt (l : List UInt8) (ns : List Nat) (k : Nat) : List UInt8 := (l.drop (ns.take k).sum).take (ns.getD k 0)
/-- The parts of bytes, by their sizes. -/
def parts (l : List UInt8) (ns : List Nat) : List (List UInt8) := (List.range ns.length).map (partAt l ns)
theorem parts_length (l : List UInt8) (ns : List Nat) : (parts l ns).length = ns.length := by simp [parts]
theorem parts_at {l : List UInt8} {ns : List Nat} {k : Nat} {p : List UInt8} (h : (parts l ns)[k]? = some p) : ∃ n, ns[k]? = some n ∧ p = (l.drop (ns.take k).sum).take n := by
  unfold parts at h
  rw [List.getElem?_map] at h
  obtain ⟨a, h1, h2⟩ := Option.map_eq_some_iff.1 h
  obtain ⟨hk, rfl⟩ := List.getElem?_eq_some_iff.1 h1
  rw [List.length_range] at hk
  simp at h2
  refine ⟨ns[k], List.getElem?_eq_getElem hk, ?_⟩
  rw [← h2, partAt, List.getD_eq_getElem?_getD, List.getElem?_eq_getElem hk]; rfl
theorem Bs.part {w : World} {b off : Nat} {l : List UInt8} {s n c : Nat} {A : Option Addr} (hA : 0 < n → A = some ⟨b, off + s, none⟩) (hnc : n ≤ c) (hnone : A = none → c = 0) (hb : 0 < n → b < w.heap.size)
    (hcell : ∀ i u, (cellsB l)[i]? = some u → w.cell? ⟨b, off + i, none⟩ = some u) (hs : s + n ≤ l.length) : Bs w (.slice A n c) ((l.drop s).take n) := by
  have hlen : ((l.drop s).take n).length = n := by simp; omega
  refine ⟨A, c, by rw [hlen], by rw [hlen]; exact hnc, hnone, fun hp => ?_⟩
  rw [hlen] at hp
  refine ⟨b, off + s, hA hp, hb hp, fun j u hu => ?_⟩
  rw [Nat.add_assoc]
  refine hcell _ u ?_
  simp only [cellsB, List.getElem?_map, List.getElem?_take, List.getElem?_drop] at hu ⊢
  split at hu
  · exact hu
  · simp at hu
theorem Ls.own {w : World} {base : Nat} {x : Value} {ps : List (List UInt8)} {hs : List Value} (h : w.ownsRow base 23 1 x ps.length hs) (hB : ∀ (k : Nat) p, ps[k]? = some p → ∃ v, hs[k]? = some v ∧ Bs w v p) : Ls w x ps := by
  rcases h.2 with ⟨rfl, h0⟩ | ⟨g, cap, cur, rfl, hg, hh, hnc, _⟩
  · exact ⟨none, 0, by rw [h0], by omega, fun _ => rfl, fun hp => by omega⟩
  · refine ⟨_, cap, rfl, hnc, (fun h => by cases h), fun hp => ⟨g, 0, rfl, (h.lt g rfl).2, fun j p hj => ?_⟩⟩
    obtain ⟨v, h1, h2⟩ := hB j p hj
    refine ⟨v, ?_, h2⟩
    have := h.cells (g := g) rfl j v h1
    rwa [show ((⟨g, 0, none⟩ : Addr).add j) = ⟨g, 0 + j, none⟩ from by unfold Addr.add; by_cases hj : j = 0 <;> simp [hj]] at this
theorem CutOut.lists {w : World} {base : Nat} {x : Value} {l : List UInt8} {ns : List Nat} (h : CutOut w base x l ns) (hsum : ns.sum = l.length) : Ls w x (parts l ns) := by
  obtain ⟨G, hs, hG, hown, hne, hH, hc⟩ := h
  refine Ls.own (by rw [parts_length]; exact hown) fun k p hp => ?_
  obtain ⟨n, hn, rfl⟩ := parts_at hp
  obtain ⟨A, h1, h2⟩ := hH.2 k n hn
  have e1 := sum_take hn
  have e2 := sum_take_le ns (k + 1)
  refine ⟨_, h1, Bs.part (b := G) (off := 0) (fun hp => by simpa using h2 hp) (Nat.le_refl _) (fun hA => ?_) (fun hp => ?_) (fun i u hu => by simpa using (hc i u hu).1) (by omega)⟩
  · rcases Nat.eq_zero_or_pos n with h | h
    · exact h
    · rw [h2 h] at hA; cases hA
  · have hcl : 0 < (cellsB l).length := by rw [cellsB_length]; omega
    exact block_lt_of_cell (hc 0 _ (List.getElem?_eq_getElem hcl)).1

theorem run_sliceLH (A : Option Addr) (r c s n : Nat) (h : s + n ≤ c) (w : World) :
    (Instr.slice 23 (.slice A r c) (some (.int .i64 (s : Int))) (some (.int .i64 ((s : Int) + (n : Int)))) none).run Tryd.prog w = .ok (.slice (if c = s then A else A.map (·.add s)) n (c - s)) w := by
  have h1 : (0 : Int) ≤ (s : Int) + (n : Int) := by omega
  have h2 : (s : Int) + (n : Int) ≤ (c : Int) := by omega
  have h3 : ¬ ((s : Int) + (n : Int) < (s : Int)) := by omega
  have h4 : ((s : Int) + (n : Int)).toNat - s = n := by omega
  have ha : ∀ (z : Int) w, Sem.run Tryd.prog (asIntOf (Value.int .i64 z)) w = .ok (.i64, z) w := fun _ _ => rfl
  obtain ⟨i0, hi, hz0, hz1, hz2⟩ := info_parts info_u8
  simp [Instr.slice, Instr.sliceBounds, Instr.sliceBound, run_underlying Tryd.underlying23, ha, h1, h2, h3, h4, sizeOf, typeInfo, hi, hz1]

def RCutRes (l : List UInt8) (zs : List Int) (e : Ending) (w' : World) : Prop :=
  (neg zs = true ∧ e = .returned (.tuple #[.slice none 0 0, .int .i64 2])) ∨
  (neg zs = false ∧ (natsOf zs).sum ≠ l.length ∧ e = .returned (.tuple #[.slice none 0 0, .int .i64 4])) ∨
  (neg zs = false ∧ (natsOf zs).sum = l.length ∧ ∃ x, e = .returned (.tuple #[x, .int .i64 0]) ∧ Ls w' x (parts l (natsOf zs)))

set_option maxRecDepth 100000 in
set_option maxHeartbeats 2000000 in
theorem rcut_any (v : Value) (l : List UInt8) (v2 : Value) (zs : List Int) (w : World) (h : Bs w v l) (h2 : Ns w v2 zs) (hl : l.length ≤ 100000) (hz : zs.length ≤ 100000) :
    Calls Tryd.prog 47 #[v, v2] w fun e w' => RCutRes l zs e w' ∧ Below w.heap.size w w' := by
  have HB := Lib.hid h
  have HN := Lib.hid h2
  obtain ⟨A, c, rfl, hc, hnone, hAA⟩ := h
  have HAA := Lib.hid hAA
  have HNO := Lib.hid hnone
  clear hAA hnone
  obtain ⟨A2, c2, rfl, hc2, _, _⟩ := h2
  go_enter Tryd.func47, Tryd.ntmps47
  go_wp2
  go_loopw [6, 7, 8] (fun lv sv i wr => ∃ (j L : Nat) (S : Bool), j ≤ zs.length ∧ i = .int .i64 j ∧ lv = .int .i64 L ∧ sv = .bool S ∧ L ≤ l.length ∧ Hid (neg (zs.take j) = false) ∧ Hid (S = true → l.length < (natsOf zs).sum) ∧
    Hid (S = false → L + ((natsOf zs).take j).sum = l.length) ∧ Below w.heap.size w wr) (fun _ _ i _ => zs.length - (intOf i).toNat)
  case atStart => exact ⟨0, l.length, false, Nat.zero_le _, rfl, rfl, rfl, Nat.le_refl _, Lib.hid rfl, Lib.hid (fun h => by cases h), Lib.hid (fun _ => by simp), Below.refl _ _⟩
  case round =>
    obtain ⟨j, L, S, hj, rfl, rfl, rfl, hL, HI, HS1, HS2, hb⟩ := hrel
    by_cases hlt : j < zs.length
    · obtain ⟨A', c', hv, _, _, hBn⟩ := HN.out.below hb
      injection hv with hv1 hv2 hv3
      subst hv1 hv3
      obtain ⟨b, off, rfl, hbs, hcell⟩ := hBn (by omega)
      obtain ⟨z, hzj⟩ : ∃ z, zs[j]? = some z := ⟨_, List.getElem?_eq_getElem hlt⟩
      have c0 := hcell j z hzj
      have HT : Hid (neg (zs.take (j + 1)) = (neg (zs.take j) || decide (z < 0))) := Lib.hid (by
        unfold neg; rw [List.take_add_one, hzj]; simp)
      have HX : Hid (z < 0 → neg zs = true) := Lib.hid (fun hf => List.any_eq_true.2 ⟨z, List.mem_of_getElem? hzj, by simpa using hf⟩)
      have HSUM : Hid (0 ≤ z → ((natsOf zs).take (j + 1)).sum = ((natsOf zs).take j).sum + z.toNat) := Lib.hid (fun _ => sum_take (natsOf_at hzj))
      have HLE := Lib.hid (sum_take_le (natsOf zs) (j + 1))
      clear hcell hBn hzj hv2
      by_cases hm : z < 0
      · have HZ : Hid (neg zs = true) := Lib.hid (HX.out hm)
        go_wp2
        go_ret2
        exact ⟨.inl ⟨HZ.out, rfl⟩, hb⟩
      · have hm' : decide (z < 0) = false := by simpa using hm
        have HT2 : Hid (neg (zs.take (j + 1)) = false) := Lib.hid (by rw [HT.out, HI.out, hm']; rfl)
        obtain ⟨n, rfl⟩ := Int.eq_ofNat_of_zero_le (show 0 ≤ z by omega)
        have hsum := HSUM.out (by omega)
        simp only [Int.toNat_natCast] at hsum
        have HSM := Lib.hid hsum
        clear hsum HSUM
        by_cases hn : L < n
        · have dn : (L : Int) < (n : Int) := by omega
          go_wp2
          go_roundw
          case rel => exact ⟨j + 1, L, true, by omega, by go_num, rfl, rfl, hL, HT2, Lib.hid (fun _ => by
            have e1 := HSM.out
            have e2 := HLE.out
            cases S with
            | true => exact HS1.out rfl
            | false => have := HS2.out rfl; omega), Lib.hid (fun h => by cases h), hb⟩
          case measure => simp [intOf]; omega
        · have dn : decide ((L : Int) < (n : Int)) = false := by simp; omega
          go_wp2
          go_roundw
          case rel => exact ⟨j + 1, L - n, S, by omega, by go_num, by congr 1; omega, rfl, by omega, HT2, HS1, Lib.hid (fun h => by have := HS2.out h; have := HSM.out; omega), hb⟩
          case measure => simp [intOf]; omega
    · obtain rfl : j = zs.length := by omega
      have hlen : (natsOf zs).length = zs.length := by simp
      have htk : (natsOf zs).take zs.length = natsOf zs := by rw [← hlen]; exact List.take_length
      have HNEG : Hid (neg zs = false) := Lib.hid (by have := HI.out; rwa [List.take_length] at this)
      by_cases hsum : (natsOf zs).sum = l.length
      · have hS : S = false := by cases S with | true => have := HS1.out rfl; omega | false => rfl
        subst hS
        have hL0 : L = 0 := by have := HS2.out rfl; rw [htk] at this; omega
        subst hL0
        have HSUM := Lib.hid hsum
        clear hlen htk hsum HS1 HS2
        go_wp2
        go_loopw [9, 10, 11] (fun o av i wr => ∃ (j s : Nat) (hs : List Value), j ≤ zs.length ∧ i = .int .i64 j ∧ av = .int .i64 s ∧ Hid (s = ((natsOf zs).take j).sum) ∧ wr.ownsRow w.heap.size 23 1 o j hs ∧ hs.length = j ∧
          Hid (∀ k p, k < j → (parts l (natsOf zs))[k]? = some p → ∃ x, hs[k]? = some x ∧ Bs w x p) ∧ Below w.heap.size w wr) (fun _ _ i _ => zs.length - (intOf i).toNat)
        case atStart => exact ⟨0, 0, [], Nat.zero_le _, rfl, rfl, Lib.hid (by simp), World.ownsRow_nil _ _ _ _, rfl, Lib.hid (fun k p hk => by omega), hb⟩
        case round =>
          clear hb
          obtain ⟨j, s, hs, hj, rfl, rfl, HS, hown, hhl, HP, hb⟩ := hrel
          by_cases hlt : j < zs.length
          · obtain ⟨A', c', hv, _, _, hBn⟩ := HN.out
            injection hv with hv1 hv2 hv3
            subst hv1 hv3
            obtain ⟨b, off, rfl, hbs, hcell⟩ := hBn (by omega)
            obtain ⟨z, hzj⟩ : ∃ z, zs[j]? = some z := ⟨_, List.getElem?_eq_getElem hlt⟩
            have hcw := hcell j z hzj
            have c0 := (hb.cell (show b < _ from hbs)).trans hcw
            obtain ⟨n, rfl⟩ := Int.eq_ofNat_of_zero_le (neg_false HNEG.out hzj)
            have hnj : (natsOf zs)[j]? = some n := by simpa using natsOf_at hzj
            have hcw := Lib.hid hcw
            have HT := Lib.hid (sum_take hnj)
            have HLE := Lib.hid (sum_take_le (natsOf zs) (j + 1))
            have HPJ : Hid (∀ p, (parts l (natsOf zs))[j]? = some p → p = (l.drop s).take n) := Lib.hid (fun p hp => by
              obtain ⟨m, h1, h2⟩ := parts_at hp
              rw [hnj] at h1; injection h1 with h1; subst h1
              rw [h2, HS.out])
            have hsn : s + n ≤ l.length := by have e1 := HT.out; have e2 := HLE.out; have e3 := HSUM.out; have e4 := HS.out; omega
            clear hcell hBn hzj hnj hv2
            have hs1 := run_sliceLH A l.length c s n (by omega)
            obtain ⟨A3, hA3⟩ : ∃ A3, (if c = s then A else A.map (·.add s)) = A3 := ⟨_, rfl⟩
            rw [hA3] at hs1
            have HBS : Hid (Bs w (.slice A3 n (c - s)) ((l.drop s).take n)) := Lib.hid (by
              rcases Nat.eq_zero_or_pos n with hn0 | hn0
              · subst hn0
                refine ⟨A3, c - s, by simp, by simp, fun h3 => ?_, fun hp => by simp at hp⟩
                rw [h3] at hA3
                split at hA3
                · have := HNO.out hA3; omega
                · rw [Option.map_eq_none_iff] at hA3; have := HNO.out hA3; omega
              · obtain ⟨b0, off0, hA0, hb0, hcell0⟩ := HAA.out (by omega)
                subst hA0
                rw [if_neg (by omega), Option.map_some] at hA3
                refine Bs.part (b := b0) (off := off0) (fun _ => ?_) (by omega) (fun h => by rw [h] at hA3; cases hA3) (fun _ => hb0) hcell0 hsn
                rw [← hA3]; unfold Addr.add; by_cases hs0 : s = 0 <;> simp [hs0])
            clear hA3
            go_wp2_with (at_builtin; refine wpList_push rfl (.tmp 48) (.tmp 58) 64 rfl w.heap.size 23 info_B rfl (by decide) Tryd.underlying64 u9 j hs rfl hown rfl rfl (by omega) hb.size ?_)
            intro v' w2 hown2 hg
            have HR := Lib.hid hown2
            have hb3 := Lib.hid (hb.grown hg hb.size fun g hg => (hown.lt g hg).1)
            have c1 := (hb3.out.cell (show b < _ from hbs)).trans hcw.out
            clear hown hown2 hg
            go_wp2
            go_roundw
            case rel =>
              have HPN : Hid (∀ k p, k < j + 1 → (parts l (natsOf zs))[k]? = some p → ∃ x, (hs ++ [Value.slice A3 n (c - s)])[k]? = some x ∧ Bs w x p) := Lib.hid (fun k p hk hp => by
                by_cases hkj : k < j
                · obtain ⟨x, h1, h2⟩ := HP.out k p hkj hp
                  exact ⟨x, by rw [List.getElem?_append_left (by omega)]; exact h1, h2⟩
                · obtain rfl : k = j := by omega
                  refine ⟨_, by rw [List.getElem?_append_right (by omega)]; simp [hhl]; rfl, ?_⟩
                  rw [HPJ.out p hp]; exact HBS.out)
              refine ⟨_, _, _, _, _, _, _, _, _, _, _, _, _, _, _, _, _, _, _, _, _, _, _, _, _, _, _, ⟨j + 1, s + n, hs ++ [.slice A3 n (c - s)], by omega, by go_num, by go_num, Lib.hid (by rw [HT.out, HS.out]), HR.out, by simp [hhl], HPN, hb3.out⟩, rfl⟩
            case measure => simp [intOf]; omega
          · obtain rfl : j = zs.length := by omega
            have HLS : Hid (Ls wr u9 (parts l (natsOf zs))) := Lib.hid (Ls.own (hs := hs) (by rw [parts_length, List.length_map]; exact hown) fun k p hp => by
              obtain ⟨x, h1, h2⟩ := HP.out k p (by have := (List.getElem?_eq_some_iff.1 hp).1; rw [parts_length, List.length_map] at this; exact this) hp
              exact ⟨x, h1, h2.below hb⟩)
            clear hown
            go_wp2
            go_ret2
            exact ⟨.inr (.inr ⟨HNEG.out, HSUM.out, _, rfl, HLS.out⟩), hb⟩
      · have HSUM := Lib.hid hsum
        cases S with
        | true =>
          clear hlen htk hsum HS1 HS2
          go_wp2
          go_ret2
          exact ⟨.inr (.inl ⟨HNEG.out, HSUM.out, rfl⟩), hb⟩
        | false =>
          have hL0 : ((L : Int) != 0) = true := by
            have := HS2.out rfl
            rw [htk] at this
            simp only [bne_iff_ne, ne_eq]; omega
          clear hlen htk hsum HS1 HS2
          go_wp2
          go_ret2
          exact ⟨.inr (.inl ⟨HNEG.out, HSUM.out, rfl⟩), hb⟩
end Go.Proofs.YteafakpipbhioaaDoor
