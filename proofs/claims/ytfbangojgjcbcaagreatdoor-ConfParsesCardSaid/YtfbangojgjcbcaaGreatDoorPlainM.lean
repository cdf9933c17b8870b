/- Trees of prefixes: which blocks a tree has when one more was put in. Nothing of the program. -/
import Derived.Test.YtfbangojgjcbcaaGreatDoorPlainQ
namespace Go.Proofs.YtfbangojgjcbcaaGreatDoor.Pl

theorem Tree.ins_blocks {b1 b2 : Nat} {p : List Bool} : ∀ {t : Tree} {x : Nat}, x ∈ (t.ins b1 b2 p).blocks → x = b1 ∨ x = b2 ∨ x ∈ t.blocks
  | .nil, x, h => by simp [ins, blocks] at h; exact .inl h
  | .node b k has l r, x, h => by
    have il := @ins_blocks b1 b2 p l x
    have ir := @ins_blocks b1 b2 p r x
    unfold ins at h
    split at h
    · exact .inr (.inr h)
    · split at h
      · split at h <;> simp only [blocks, List.mem_cons, List.mem_append] at h ⊢ <;> grind
      · split at h <;> split at h <;> simp only [blocks, List.mem_cons, List.mem_append, List.not_mem_nil] at h ⊢ <;> grind
theorem Tree.ins_nodup {b1 b2 : Nat} {p : List Bool} (h12 : b1 ≠ b2) : ∀ {t : Tree}, t.blocks.Nodup → b1 ∉ t.blocks → b2 ∉ t.blocks → (t.ins b1 b2 p).blocks.Nodup
  | .nil, _, _, _ => by simp [ins, blocks]
  | .node b k has l r, hn, h1, h2 => by
    simp only [blocks, List.nodup_cons, List.nodup_append, List.mem_cons, List.mem_append, not_or] at hn h1 h2
    obtain ⟨⟨n1, n2⟩, nl, nr, nd⟩ := hn
    have il := ins_nodup (p := p) h12 nl h1.2.1 h2.2.1
    have ir := ins_nodup (p := p) h12 nr h1.2.2 h2.2.2
    have bl := fun x => @ins_blocks b1 b2 p l x
    have br := fun x => @ins_blocks b1 b2 p r x
    unfold ins
    split
    · simp only [blocks, List.nodup_cons, List.nodup_append, List.mem_append, not_or]; exact ⟨⟨n1, n2⟩, nl, nr, nd⟩
    · split
      · split <;> simp only [blocks, List.nodup_cons, List.nodup_append, List.mem_append, not_or] <;> grind
      · split <;> split <;> simp only [blocks, List.nodup_cons, List.nodup_append, List.mem_cons, List.mem_append, not_or, List.not_mem_nil, List.nodup_nil, List.nil_append, List.append_nil] <;> grind
end Go.Proofs.YtfbangojgjcbcaaGreatDoor.Pl
