/- A run of a program on abstract memory: its beginning, its answers. -/
import Derived.Test.YthgkdadchfoomabGreatEvB
namespace Go.Proofs.YthgkdadchfoomabGreat.Ev
noncomputable def isTrueO (y : Out × AS) : Bool := cOut y.1 (fun v => vBool v false fun b => b) fun _ _ => false
/-- All outcomes are true. -/
noncomputable def allTrue (x : R (Out × AS)) : Bool := cR x false isTrueO fun l => itL true (fun y _ r => cB (isTrueO y) r false) l
noncomputable def clean : AS := ⟨E6, [], [], 0⟩
end Go.Proofs.YthgkdadchfoomabGreat.Ev
