/- Contract of ref05: Bytes. -/
import Derived.Test.YteafakpipbhioaaDoorCtlO
namespace Go.Proofs.YteafakpipbhioaaDoor
open Go.RowKit Pl

theorem addr_add_block (b off j : Nat) : ((⟨b, off, none⟩ : Addr).add j).block = b := by unfold Addr.add; by_cases hj : j = 0 <;> simp [hj]
theorem news_below {W w1 : World} {b : Nat} {news : List Value} (h : ∀ j u, news[j]? = some u → W.cell? ((⟨b, 0, none⟩ : Addr).add j) = some u) (hb : Below W.heap.size W w1) (hlt : b < W.heap.size) :
    ∀ j u, news[j]? = some u → w1.cell? ((⟨b, 0, none⟩ : Addr).add j) = some u := fun j u hu => (hb.cell (by rw [addr_add_block]; exact hlt)).trans (h j u hu)

theorem heap_new_at {W : World} {o : Obj} {B : Nat} (h : B = W.heap.size) : (W.alloc o).heap[B]? = some o := by subst h; exact heap_alloc_new W o

set_option maxRecDepth 100000 in
set_option maxHeartbeats 1000000 in
theorem rbytes (a n d : Nat) (w : World) (ha : a < 4294967296) (hn : n ≤ 255) (hd : d ≤ 255) :
    Calls Tryd.prog 56 #[upd a n d] w fun e w' => ∃ v, e = .returned v ∧ Bs w' v (bytesU a n d) ∧ Below w.heap.size w w' := by
  have hn1 : (n : Int) < 256 := by omega
  have hd1 : (d : Int) < 256 := by omega
  obtain ⟨i0, hi0, hz0, hz1, hz2⟩ := info_parts info_u8
  have HP : Hid (∀ W : World, w.heap.size + 1 ≤ W.heap.size → Calls Tryd.prog 19 #[.int .u64 a, .int .i64 4] W fun e w' => ∃ v, e = .returned v ∧ w'.ownsRow (w.heap.size + 1) 5 1 v 4 (cellsB (putB a 4)) ∧ Below W.heap.size W w') :=
    Lib.hid (fun W h => (rput a 4 W (by omega) (by decide) (by decide)).mono fun e w' ⟨v, h1, h2, h3⟩ => ⟨v, h1, own_base h h2, h3⟩)
  have HE : Hid (cellsB (putB a 4) ++ [Value.int .u8 (n : Int), Value.int .u8 (d : Int)] = cellsB (bytesU a n d)) := Lib.hid (by
    rw [bytesU, cellsB_append]; simp [cellsB]; omega)
  have hwa : IntKind.u64.wrap (a : Int) = a := by rw [IntKind.wrap_u64]; omega
  have hwn : IntKind.u8.wrap (n : Int) = n := u8_wrap n (by omega)
  have hwd : IntKind.u8.wrap (d : Int) = d := u8_wrap d (by omega)
  go_enter Tryd.func56, Tryd.ntmps56
  go_wp2_with fail
  go_region_held3 (fun w' => w'.cell? ⟨w.heap.size, 0, none⟩ = some (.int .u32 (a : Int)) ∧ w'.cell? ⟨w.heap.size, 1, none⟩ = some (.int .i64 (n : Int)) ∧ w'.cell? ⟨w.heap.size, 2, none⟩ = some (.int .i64 (d : Int)))
    (first
      | go_keep
      | (refine ⟨?_, ?_, ?_⟩ <;> (rw [hbp.cell (show w.heap.size < _ by first | omega | (simp only [World.size_alloc]; omega) | (simp only [World.size_drew]; omega) | (simp only [World.size_alloc, World.size_drew]; omega))]; first | assumption | (simp; done)))
      | (refine ⟨?_, ?_, ?_⟩ <;> (rw [hgrow.cell_far _ (show w.heap.size < _ by have hq := hbp.size; simp only [World.size_alloc, World.size_drew] at hq ⊢; omega) (Ne.symm (own_ne hown (Nat.lt_succ_self _)))]; first | (rw [World.cell?_alloc_lt _ _ _ (show w.heap.size < _ by have hq := hbp.size; simp only [World.size_alloc, World.size_drew] at hq ⊢; omega), hbp.cell (show w.heap.size < _ by first | omega | (simp only [World.size_alloc]; omega) | (simp only [World.size_drew]; omega) | (simp only [World.size_alloc, World.size_drew]; omega))]; first | assumption | (simp; done)) | (rw [hbp.cell (show w.heap.size < _ by first | omega | (simp only [World.size_alloc]; omega) | (simp only [World.size_drew]; omega) | (simp only [World.size_alloc, World.size_drew]; omega))]; first | assumption | (simp; done)))))
    (first
      | (go_at_call 19; refine (HP.out _ (by first | omega | (simp only [World.size_alloc]; omega) | (simp only [World.size_drew]; omega) | (simp only [World.size_alloc, World.size_drew]; omega))).mono ?_; rintro e w1 ⟨v, rfl, hown, hbp⟩)
      | (refine step_append_lies _ (by rfl) _ _ _ (by rfl) (w.heap.size + 1) 5 i0 _ 1 1 Tryd.underlying23 hi0 hz0 hz1 hz2 rfl (by omega) _ 4 _ (by rfl) (hown.alloc _)
            ⟨w1.heap.size, 0, none⟩ 2 2 [_, _] (by rfl) (by rfl) (World.news_of_block (cs := #[_, _]) (t := 5) (fr := (0, 0)) (heap_alloc_new w1 _)) (by simp [Value.oneCell'])
            (by omega) (by unfold maxLen; omega) (by omega) (by have hq := hbp.size; simp only [World.size_alloc, World.size_drew] at hq ⊢; omega) (w1.heap.size + 1) (World.size_alloc _ _) ?_; intro gg cap w2 hown2 hgrow hat hlt1)
      | (refine step_append_lies _ (by rfl) _ _ _ (by rfl) (w.heap.size + 1) 5 i0 _ 1 1 Tryd.underlying23 hi0 hz0 hz1 hz2 rfl (by omega) _ 4 _ (by rfl) hown
            ⟨w.heap.size + 1, 0, none⟩ 2 2 [Value.int .u8 (n : Int), Value.int .u8 (d : Int)] (by rfl) (by rfl) (news_below (hb := below_undrew hbp) (hlt := by simp only [World.size_alloc]; omega) (h := World.news_of_block (cs := #[Value.int .u8 (n : Int), Value.int .u8 (d : Int)]) (t := 5) (fr := (0, 0)) (heap_new_at (by simp only [World.size_alloc])))) (by simp [Value.oneCell'])
            (by omega) (by unfold maxLen; omega) (by omega) (by have hq := hbp.size; simp only [World.size_alloc, World.size_drew] at hq ⊢; omega) w1.heap.size rfl ?_; intro gg cap w2 hown2 hgrow hat hlt1))
  all_goals
    have hb1 : Below w.heap.size w w1 := Below.trans (by repeat (first | exact Below.refl _ _ | apply Below.drew | apply below_drewN | apply bel_alloc | apply Ext.lift | apply bel_set0 | apply bel_set)) (hbp.mono (by first | omega | (simp only [World.size_alloc]; omega) | (simp only [World.size_drew]; omega) | (simp only [World.size_alloc, World.size_drew]; omega)))
    have hs1 := hb1.size
    have hb0 : Below w.heap.size w w2 := Below.grown (by first | exact hb1 | exact bel_alloc hb1 _) hgrow (by first | omega | (simp only [World.size_alloc]; omega) | (simp only [World.size_drew]; omega) | (simp only [World.size_alloc, World.size_drew]; omega)) fun g hg => by have := (hown.lt g hg).1; omega
    rw [HE.out] at hown2
    have HO := Lib.hid (Bs.own hown2)
    clear hown hown2 hgrow hbp
    go_wp2
    go_ret
    exact ⟨_, rfl, HO.out, hb0⟩
end Go.Proofs.YteafakpipbhioaaDoor
