/- Plain configurations: a text is read as what has it; cut texts. Nothing of the program. -/
import Derived.Test.YtfbangojgjcbcaaGreatDoorPlainG
namespace Go.Proofs.YtfbangojgjcbcaaGreatDoor.Pl
open Go.Lib (decDigits itoa)

theorem mayC_parts {c : Cfg} (h : mayC c = true) : ownOk c.own = true ∧ c.ports.length ≤ 8 ∧ c.ports.all portOk = true ∧ hasAny c.own c.addr = true ∧ (1 ≤ c.node ∧ c.node ≤ 16) ∧ (1 ≤ c.hello ∧ c.hello ≤ 100) ∧ (c.hello + 1 ≤ c.dead ∧ c.dead ≤ 100) ∧ (1 ≤ c.again ∧ c.again ≤ 100) ∧ (0 ≤ c.room ∧ c.room ≤ 64) ∧ (1 ≤ c.queue ∧ c.queue ≤ 64) ∧ (0 ≤ c.tokens ∧ c.tokens ≤ 64) ∧ (1 ≤ c.refill ∧ c.refill ≤ 100) := by
  unfold mayC at h
  simp only [Bool.and_eq_true, inI_iff, decide_eq_true_eq] at h
  obtain ⟨⟨⟨⟨⟨⟨⟨⟨⟨⟨⟨h1, h2⟩, h3⟩, h4⟩, h5⟩, h6⟩, h7⟩, h8⟩, h9⟩, h10⟩, h11⟩, h12⟩ := h
  exact ⟨h1, h2, h3, h4, h5, h6, h7, h8, h9, h10, h11, h12⟩
theorem mayC_of {c : Cfg} (h1 : ownOk c.own = true) (h2 : c.ports.length ≤ 8) (h3 : c.ports.all portOk = true) (h4 : hasAny c.own c.addr = true) (h5 : 1 ≤ c.node ∧ c.node ≤ 16) (h6 : 1 ≤ c.hello ∧ c.hello ≤ 100) (h7 : c.hello + 1 ≤ c.dead ∧ c.dead ≤ 100) (h8 : 1 ≤ c.again ∧ c.again ≤ 100) (h9 : 0 ≤ c.room ∧ c.room ≤ 64) (h10 : 1 ≤ c.queue ∧ c.queue ≤ 64) (h11 : 0 ≤ c.tokens ∧ c.tokens ≤ 64) (h12 : 1 ≤ c.refill ∧ c.refill ≤ 100) : mayC c = true := by
  unfold mayC
  simp only [Bool.and_eq_true, inI_iff, decide_eq_true_eq]
  exact ⟨⟨⟨⟨⟨⟨⟨⟨⟨⟨⟨h1, h2⟩, h3⟩, h4⟩, h5⟩, h6⟩, h7⟩, h8⟩, h9⟩, h10⟩, h11⟩, h12⟩
theorem rising_take : ∀ (l : List (Int × Int)) (k : Nat), rising l = true → rising (l.take k) = true
  | [], k, _ => by simp [rising]
  | [p], k, _ => by cases k <;> simp [rising]
  | p :: q :: l, 0, _ => rfl
  | p :: q :: l, 1, _ => rfl
  | p :: q :: l, k + 2, h => by
    simp only [rising, Bool.and_eq_true] at h
    simp only [List.take_succ_cons, rising, Bool.and_eq_true]
    exact ⟨h.1, by have := rising_take (q :: l) (k + 1) h.2; simpa using this⟩
theorem ownOk_take {l : List (Int × Int)} (h : ownOk l = true) {k : Nat} (hk : k < l.length) : ownOk (l.take (k + 1)) = true := by
  unfold ownOk at h ⊢
  simp only [Bool.and_eq_true, decide_eq_true_eq, List.all_eq_true] at h ⊢
  obtain ⟨⟨⟨h1, h2⟩, h3⟩, h4⟩ := h
  refine ⟨⟨⟨by simp; omega, by simp; omega⟩, fun p hp => h3 p (List.mem_of_mem_take hp)⟩, rising_take l _ h4⟩
theorem runL_step {c c' : Cfg} {st st' : Nat} {w m : List UInt8} {ls : List (List UInt8)} (hw : 32 ∉ w) (h : stepC c st w m = some (c', st')) : runL ((w ++ 32 :: m) :: ls) c st = runL ls c' st' := by
  rw [← List.singleton_append, runL_append, runL_one hw h]
/-- All lines of one that may be are read as it. -/
theorem runL_all {c : Cfg} (h : mayC c = true) (hA : Addrs4 c) : runL (linesP c) {} 0 = some (c, 10) := by
  obtain ⟨h1, h2, h3, h4, h5, h6, h7, h8, h9, h10, h11, h12⟩ := mayC_parts h
  unfold linesP heads tails
  rw [List.append_assoc, List.append_assoc, List.cons_append]
  unfold lnNum
  rw [runL_step (c' := { node := c.node }) (st' := 1) (by decide) (by unfold stepC; rw [if_pos rfl, if_pos rfl, numIn_itoa (by omega) (by omega) (by omega)]; rfl)]
  rw [List.cons_append, List.nil_append]
  unfold lnAddr
  obtain ⟨A, hAe⟩ := Int.eq_ofNat_of_zero_le hA.1.1
  have hAd : addrOf (addrText c.addr.toNat) = some A := by rw [hAe, Int.toNat_natCast]; exact addrOf_text A (by have := hA.1.2; omega)
  rw [runL_step (c' := { node := c.node, addr := c.addr }) (st' := 2) (by decide) (by unfold stepC; rw [if_neg (by decide), if_pos rfl, if_pos rfl, hAd, hAe]; rfl)]
  have hne : c.own ≠ [] := fun e => by unfold ownOk at h1; rw [e] at h1; simp at h1
  rw [runL_append, runL_own { node := c.node, addr := c.addr } rfl c.own [] 2 rfl (.inl rfl) hA.2 (fun k hk => by simpa using ownOk_take h1 hk), if_neg hne]
  simp only [List.nil_append]
  rw [runL_append, runL_ports { node := c.node, addr := c.addr, own := c.own } h4 c.ports [] rfl (by simpa using h2) h3]
  simp only [List.nil_append]
  rw [runL_step (c' := { node := c.node, addr := c.addr, own := c.own, ports := c.ports, hello := c.hello }) (st' := 4) (by decide) (by unfold stepC; rw [if_neg (by decide), if_neg (by decide), if_neg (by decide), if_neg (by decide), if_pos rfl, if_pos ⟨rfl, h4⟩, numIn_itoa (by omega) (by omega) (by omega)]; rfl)]
  rw [runL_step (c' := { node := c.node, addr := c.addr, own := c.own, ports := c.ports, hello := c.hello, dead := c.dead }) (st' := 5) (by decide) (by unfold stepC; rw [if_neg (by decide), if_neg (by decide), if_neg (by decide), if_neg (by decide), if_neg (by decide), if_pos rfl, if_pos rfl, numIn_itoa (by simp only; omega) (by omega) (by omega)]; rfl)]
  rw [runL_step (c' := { node := c.node, addr := c.addr, own := c.own, ports := c.ports, hello := c.hello, dead := c.dead, again := c.again }) (st' := 6) (by decide) (by unfold stepC; rw [if_neg (by decide), if_neg (by decide), if_neg (by decide), if_neg (by decide), if_neg (by decide), if_neg (by decide), if_pos rfl, if_pos rfl, numIn_itoa (by omega) (by omega) (by omega)]; rfl)]
  rw [runL_step (c' := { node := c.node, addr := c.addr, own := c.own, ports := c.ports, hello := c.hello, dead := c.dead, again := c.again, room := c.room }) (st' := 7) (by decide) (by unfold stepC; rw [if_neg (by decide), if_neg (by decide), if_neg (by decide), if_neg (by decide), if_neg (by decide), if_neg (by decide), if_neg (by decide), if_pos rfl, if_pos rfl, numIn_itoa (by omega) (by omega) (by omega)]; rfl)]
  rw [runL_step (c' := { node := c.node, addr := c.addr, own := c.own, ports := c.ports, hello := c.hello, dead := c.dead, again := c.again, room := c.room, queue := c.queue }) (st' := 8) (by decide) (by unfold stepC; rw [if_neg (by decide), if_neg (by decide), if_neg (by decide), if_neg (by decide), if_neg (by decide), if_neg (by decide), if_neg (by decide), if_neg (by decide), if_pos rfl, if_pos rfl, numIn_itoa (by omega) (by omega) (by omega)]; rfl)]
  rw [runL_step (c' := { node := c.node, addr := c.addr, own := c.own, ports := c.ports, hello := c.hello, dead := c.dead, again := c.again, room := c.room, queue := c.queue, tokens := c.tokens }) (st' := 9) (by decide) (by unfold stepC; rw [if_neg (by decide), if_neg (by decide), if_neg (by decide), if_neg (by decide), if_neg (by decide), if_neg (by decide), if_neg (by decide), if_neg (by decide), if_neg (by decide), if_pos rfl, if_pos rfl, numIn_itoa (by omega) (by omega) (by omega)]; rfl)]
  rw [runL_step (c' := c) (st' := 10) (by decide) (by unfold stepC; rw [if_neg (by decide), if_neg (by decide), if_neg (by decide), if_neg (by decide), if_neg (by decide), if_neg (by decide), if_neg (by decide), if_neg (by decide), if_neg (by decide), if_neg (by decide), if_pos rfl, if_pos rfl, numIn_itoa (by omega) (by omega) (by omega)]; rfl)]
  rfl
end Go.Proofs.YtfbangojgjcbcaaGreatDoor.Pl
