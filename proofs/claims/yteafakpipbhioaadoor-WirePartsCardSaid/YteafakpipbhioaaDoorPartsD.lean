/- wire.Cut. -/
import Derived.Test.YteafakpipbhioaaDoorPartsC
namespace Go.Proofs.YteafakpipbhioaaDoor
open Go.RowKit Pl

abbrev natsOf (zs : List Int) : List Nat := zs.map Int.toNat
theorem natsOf_at {zs : List Int} {j : Nat} {z : Int} (hz : zs[j]? = some z) : (natsOf zs)[j]? = some z.toNat := by simp [natsOf, hz]
theorem sum_take {ns : List Nat} {j n : Nat} (h : ns[j]? = some n) : (ns.take (j + 1)).sum = (ns.take j).sum + n := by
  rw [List.take_add_one, h]; simp
theorem sum_take_le (ns : List Nat) (j : Nat) : (ns.take j).sum ≤ ns.sum := by
  have : ns.sum = (ns.take j).sum + (ns.drop j).sum := by rw [← List.sum_append, List.take_append_drop]
  omega
theorem info_B : (Tryd.prog.info? 23).map (fun i => (i.zero, i.size, i.bytes)) = some (some (.slice none 0 0), 1, 24) := by kernel_rfl

/-- The parts' headers: each lies in the block G, one behind the other. -/
def Heads (G : Nat) (ns : List Nat) (hs : List Value) : Prop :=
  hs.length = ns.length ∧ ∀ k n, ns[k]? = some n → ∃ A : Option Addr, hs[k]? = some (Value.slice A n n) ∧ (0 < n → A = some ⟨G, (ns.take k).sum, none⟩)
theorem Heads.snoc {G : Nat} {ns : List Nat} {hs : List Value} (h : Heads G ns hs) {n : Nat} {A : Option Addr} (hA : 0 < n → A = some ⟨G, ns.sum, none⟩) : Heads G (ns ++ [n]) (hs ++ [.slice A n n]) := by
  refine ⟨by simp [h.1], fun k m hm => ?_⟩
  by_cases hk : k < ns.length
  · rw [List.getElem?_append_left hk] at hm
    obtain ⟨B, h1, h2⟩ := h.2 k m hm
    refine ⟨B, by rw [List.getElem?_append_left (by rw [h.1]; exact hk)]; exact h1, ?_⟩
    rw [List.take_append_of_le_length (by omega)]; exact h2
  · have hlt := (List.getElem?_eq_some_iff.1 hm).1
    simp at hlt
    obtain rfl : k = ns.length := by omega
    simp at hm
    subst hm
    refine ⟨A, by rw [← h.1]; simp, ?_⟩
    simpa using hA

/-- What Cut lays: the row of headers, the bytes in a block of their own. -/
def CutOut (w : World) (base : Nat) (x : Value) (l : List UInt8) (ns : List Nat) : Prop :=
  ∃ (G : Nat) (hs : List Value), base ≤ G ∧ w.ownsRow base 23 1 x ns.length hs ∧ x.ownBlock ≠ some G ∧ Heads G ns hs ∧ ∀ i u, (cellsB l)[i]? = some u → w.cell? ⟨G, i, none⟩ = some u ∧ w.frozen? ⟨G, i, none⟩ = false
def CutRes (l : List UInt8) (zs : List Int) (base : Nat) (e : Ending) (w' : World) : Prop :=
  (neg zs = true ∧ e = .returned (.tuple #[.slice none 0 0, .int .i64 2])) ∨
  (neg zs = false ∧ (natsOf zs).sum ≠ l.length ∧ e = .returned (.tuple #[.slice none 0 0, .int .i64 4])) ∨
  (neg zs = false ∧ (natsOf zs).sum = l.length ∧ ∃ x, e = .returned (.tuple #[x, .int .i64 0]) ∧ CutOut w' base x l (natsOf zs))

theorem clone_form {w : World} {base : Nat} {x : Value} {l : List UInt8} (h : w.ownsRow base 5 1 x l.length (cellsB l)) :
    ∃ (A : Option Addr) (c G : Nat), x = .slice A l.length c ∧ l.length ≤ c ∧ (0 < l.length → A = some ⟨G, 0, none⟩ ∧ base ≤ G ∧ G < w.heap.size ∧ ∀ i u, (cellsB l)[i]? = some u → w.cell? ⟨G, i, none⟩ = some u ∧ w.frozen? ⟨G, i, none⟩ = false) := by
  rcases h.2 with ⟨rfl, h0⟩ | ⟨g, cap, cur, rfl, hg, hh, hnc, _⟩
  · exact ⟨none, 0, 0, by rw [h0], by omega, fun hp => by omega⟩
  · refine ⟨_, cap, g, rfl, hnc, fun _ => ⟨rfl, hg, (h.lt g rfl).2, fun i u hu => ⟨?_, ?_⟩⟩⟩
    · have := h.cells (g := g) rfl i u hu
      rwa [show ((⟨g, 0, none⟩ : Addr).add i) = ⟨g, i, none⟩ from by unfold Addr.add; by_cases hj : i = 0 <;> simp [hj]] at this
    · simp [World.frozen?, hh]

set_option maxRecDepth 100000 in
set_option maxHeartbeats 2000000 in
theorem wcut_any (v : Value) (l : List UInt8) (v2 : Value) (zs : List Int) (w : World) (h : Bs w v l) (h2 : Ns w v2 zs) (hl : l.length ≤ 100000) (hz : zs.length ≤ 100000) :
    Calls Tryd.prog 46 #[v, v2] w fun e w' => CutRes l zs w.heap.size e w' ∧ Below w.heap.size w w' := by
  have HB := Lib.hid h
  have HN := Lib.hid h2
  have HC := Lib.hid (containsN_any v2 zs w h2 (by omega))
  obtain ⟨A, c, rfl, hc, _, _⟩ := h
  obtain ⟨A2, c2, rfl, hc2, _, _⟩ := h2
  cases hneg : neg zs with
  | true =>
    rw [hneg] at HC
    go_enter Tryd.func46, Tryd.ntmps46
    go_wp2_with (go_at_call 84; refine (ext_of HC.out).mono ?_; rintro e w' ⟨rfl, y, rfl⟩)
    go_ret2
    exact ⟨.inl ⟨hneg, rfl⟩, y.below⟩
  | false =>
    rw [hneg] at HC
    have HNEG := Lib.hid hneg
    clear hneg
    go_enter Tryd.func46, Tryd.ntmps46
    go_wp2_with (first
      | (go_at_call 84; refine (ext_of HC.out).mono ?_; rintro e w' ⟨rfl, y, rfl⟩)
      | (go_at_call 86; refine (clone_any _ l _ (HB.out.ext y) (by omega)).mono ?_; rintro e w1 ⟨⟨x, rfl, hown⟩, hb1⟩))
    obtain ⟨AC, cc, G, rfl, hcc, hG⟩ := clone_form hown
    have hbw1 : Below w.heap.size w w1 := y.below.trans (hb1.mono y.below.size)
    have HG := Lib.hid hG
    have HN1 := Lib.hid (HN.out.below hbw1)
    have hyz := y.below.size
    have HBW := Lib.hid hbw1
    have hw1z := hbw1.size
    clear hown hG hb1 hbw1
    go_loopw [6, 7, 16] (fun o r i wr => ∃ (j : Nat) (hs : List Value) (A : Option Addr) (rl rc : Nat), j ≤ zs.length ∧ i = .int .i64 j ∧ r = .slice A rl rc ∧ rl ≤ rc ∧ Hid (rl + ((natsOf zs).take j).sum = l.length) ∧
      Hid (0 < rl → A = some ⟨G, ((natsOf zs).take j).sum, none⟩) ∧ wr.ownsRow w1.heap.size 23 1 o j hs ∧ Hid (Heads G ((natsOf zs).take j) hs) ∧ Below w1.heap.size w1 wr) (fun _ _ i _ => zs.length - (intOf i).toNat)
    case atStart => exact ⟨0, [], AC, l.length, cc, Nat.zero_le _, rfl, rfl, hcc, Lib.hid (by simp), Lib.hid (fun hp => by simpa using (HG.out hp).1), World.ownsRow_nil _ _ _ _, Lib.hid ⟨rfl, fun k n hn => by simp at hn⟩, Below.refl _ _⟩
    case round =>
      obtain ⟨j, hs, A, rl, rc, hj, rfl, rfl, hrc, HS, HA, hown, HH, hb⟩ := hrel
      by_cases hlt : j < zs.length
      · obtain ⟨A', c', hv, _, _, hBn⟩ := HN1.out.below hb
        injection hv with hv1 hv2 hv3
        subst hv1 hv3
        obtain ⟨b, off, rfl, hbs, hcell⟩ := hBn (by omega)
        obtain ⟨z, hzj⟩ : ∃ z, zs[j]? = some z := ⟨_, List.getElem?_eq_getElem hlt⟩
        have c0 := hcell j z hzj
        have hz0 := neg_false HNEG.out hzj
        obtain ⟨n, rfl⟩ := Int.eq_ofNat_of_zero_le hz0
        have hnj : (natsOf zs)[j]? = some n := by simpa using natsOf_at hzj
        have HT := Lib.hid (sum_take hnj)
        have HTK : Hid ((natsOf zs).take (j + 1) = (natsOf zs).take j ++ [n]) := Lib.hid (by rw [List.take_add_one, hnj]; rfl)
        have HLE := Lib.hid (sum_take_le (natsOf zs) (j + 1))
        clear hcell hBn hzj hnj hv2 hz0
        by_cases hn : n ≤ rl
        · have dn : decide ((rl : Int) < (n : Int)) = false := by simp; omega
          have hs1 := run_slice3 A rl rc n (by omega)
          have hs2 := run_sliceLow A rl rc n hn
          obtain ⟨A3, hA3⟩ : ∃ A3, (if rc = n then A else A.map (·.add n)) = A3 := ⟨_, rfl⟩
          rw [hA3] at hs2
          have HA3 := Lib.hid hA3
          clear hA3
          obtain ⟨i0, hi0, hz0, hz1, hz2⟩ := info_parts info_B
          have hbz := hb.size
          go_wp2_with fail
          go_region_held3 (fun _ => True)
            (first
              | go_keep
              | trivial)
            ((refine step_append_lies _ (by rfl) _ _ _ (by rfl) w1.heap.size 23 i0 _ 1 24 Tryd.underlying64 hi0 hz0 hz1 hz2 rfl (by omega) _ j _ (by rfl) ((hown.alloc _).drew)
                ⟨wr.heap.size, 0, none⟩ 1 1 [.slice A n n] (by rfl) (by rfl) (World.news_of_block (cs := #[_]) (t := 23) (fr := (0, 0)) (heap_alloc_new wr _)) (by simp [Value.oneCell'])
                (by omega) (by unfold maxLen; omega) (by omega) (by simp; omega) (wr.heap.size + 1) (by simp) ?_; intro gg cap w2 hown1 hgrow hat hlt1))
          all_goals
            have HHn : Hid (Heads G ((natsOf zs).take (j + 1)) (hs ++ [Value.slice A n n])) := Lib.hid (by
              rw [HTK.out]
              exact HH.out.snoc fun hp => HA.out (by omega))
            have hbel := hb.grown (grownBy_alloc (grownBy_drew hgrow)) hbz fun g hg => (hown.lt g hg).1
            have HO1 := Lib.hid hown1
            have HSn : Hid (rl - n + ((natsOf zs).take (j + 1)).sum = l.length) := Lib.hid (by have h1 := HS.out; have h2 := HT.out; omega)
            have HAn : Hid (0 < rl - n → A3 = some ⟨G, ((natsOf zs).take (j + 1)).sum, none⟩) := Lib.hid (fun hp => by
              have h1 := HA3.out
              rw [if_neg (by omega), HA.out (by omega)] at h1
              rw [← h1, HT.out]
              simp only [Option.map_some, Addr.add]
              by_cases hn0 : n = 0
              · subst hn0; simp
              · simp [hn0])
            clear hown1 hgrow hown HH HA HA3 HS
            go_wp2
            go_roundw
            case rel => exact ⟨j + 1, hs ++ [.slice A n n], A3, rl - n, rc - n, by omega, by go_num, rfl, by omega, HSn, HAn, HO1.out, HHn, hbel⟩
            case measure => simp [intOf]; omega
        · have dn : decide ((rl : Int) < (n : Int)) = true := by simp; omega
          go_wp2
          go_ret2
          have hbb : Below w.heap.size w wr := HBW.out.trans (hb.mono hw1z)
          exact ⟨.inr (.inl ⟨HNEG.out, by have h1 := HS.out; have h2 := HT.out; have h3 := HLE.out; omega, rfl⟩), hbb⟩
      · obtain rfl : j = zs.length := by omega
        have hlen : (natsOf zs).length = zs.length := by simp
        have htk : (natsOf zs).take zs.length = natsOf zs := by rw [← hlen]; exact List.take_length
        have hbb : Below w.heap.size w wr := HBW.out.trans (hb.mono hw1z)
        have HBB := Lib.hid hbb
        by_cases h0 : 0 < rl
        · have d0 : (0 : Int) < (rl : Int) := by omega
          have HZ : Hid ((natsOf zs).sum ≠ l.length) := Lib.hid (by have h1 := HS.out; rw [htk] at h1; omega)
          clear hlen htk
          go_wp2
          go_ret2
          exact ⟨.inr (.inl ⟨HNEG.out, HZ.out, rfl⟩), HBB.out⟩
        · have d0 : decide ((0 : Int) < (rl : Int)) = false := by simp; omega
          have HZ : Hid ((natsOf zs).sum = l.length) := Lib.hid (by have h1 := HS.out; rw [htk] at h1; omega)
          have HHn : Hid (Heads G (natsOf zs) hs) := Lib.hid (by have := HH.out; rwa [htk] at this)
          have HO : Hid (CutOut wr w.heap.size u6 l (natsOf zs)) := Lib.hid (by
            have hown' : wr.ownsRow w.heap.size 23 1 u6 (natsOf zs).length hs := by rw [hlen]; exact own_down hw1z hown
            by_cases hp : 0 < l.length
            · obtain ⟨_, g1, g2, g3⟩ := HG.out hp
              refine ⟨G, hs, by omega, hown', own_ne hown g2, HHn.out, fun i u hu => ?_⟩
              obtain ⟨k1, k2⟩ := g3 i u hu
              exact ⟨(hb.cell (show G < _ from g2)).trans k1, (hb.frozen (show G < _ from g2)).trans k2⟩
            · have hl0 : l = [] := List.eq_nil_of_length_eq_zero (by omega)
              refine ⟨wr.heap.size, hs, hbb.size, hown', fun hk => by have := (hown.lt _ hk).2; omega, ⟨HHn.out.1, fun k n hn => ?_⟩, fun i u hu => by subst hl0; simp [cellsB] at hu⟩
              obtain ⟨A0, k1, _⟩ := HHn.out.2 k n hn
              refine ⟨A0, k1, fun hpn => ?_⟩
              exfalso
              have e1 := sum_take hn
              have e2 := sum_take_le (natsOf zs) (k + 1)
              have e3 := HZ.out
              omega)
          clear hlen htk hown
          go_wp2
          go_ret2
          exact ⟨.inr (.inr ⟨HNEG.out, HZ.out, _, rfl, HO.out⟩), HBB.out⟩
end Go.Proofs.YteafakpipbhioaaDoor
