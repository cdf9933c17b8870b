/-
  No cell of these rows narrows 'for every input' (looked for: loops, veiled, ifaces, maps, wideKeys, modest, calm, conditions, laid).
  DERIVED. THE GIVEN ROWS OF THIS SEAT. 4 by the template 'for every input the law returns true; each argument reads behind the call as it read before'; 0 by the template 'total and deterministic' (their statements: YtfnjojdiiklleaaGreatTotals.lean).
  GIVEN WITH THE SEED: the statements are not yours to turn. If you find one false, say at which input.
  Laid BY PROGRAM, IN A SANDBOX (cutbox-rows.mjs): the forced cells as the released guide's own fill.sh prints them over the translation d3adfddb7f964eef… (all of the seat's roots in one cut). By AI agents, Wed Nov 11 2026. No macro, syntax, notation, axiom, sorry.
-/
import Derived.Test.YtfnjojdiiklleaaGreatChecked
import GoSem.Claim
import GoSem.ClaimJoined
import GoSem.ClaimMapViews
import Derived.JoinedTies
import Derived.KernelRfl
namespace Go.Proofs.YtfnjojdiiklleaaGreat
/- THE CELL 'sum', in the pinned program and in every row, IS THE sha256 OF THE DUMP (.gsa) THAT YtfnjojdiiklleaaGreatProg.lean LOADS. Nothing in Lean hashes anything: it is a label: what it is worth is what the hold of that sum in a sandbox is worth. -/
noncomputable def Tryz.pinned : Pinned := { name := "ytfnjojdiiklleaagreat", sum := "d3adfddb7f964eef9ae749ad42b6eaff5b666d0ecf7fb9944039ef4b2fe4689d", checked := Tryz.checked }
namespace Rows
def none {H : Type} : Left H := { results := [], args := [] }

/-- 'guidepostlaw23.TraceOften': WHATEVER THE INPUT: true; the input reads as it did. -/
def traceOftenSpec : ChangeSpec := { name := "traceOften", fn := fun _ => fun
  | [d1, d2] => { results := [.lit (.bool true)], args := [d1, d2] }
  | _ => none }
def traceOftenRow : OpenClaim := { program := "ytfnjojdiiklleaagreat", sum := "d3adfddb7f964eef9ae749ad42b6eaff5b666d0ecf7fb9944039ef4b2fe4689d", func := "guidepost/guidepostlaw23.TraceOften", spec := "traceOften", unfollowed := true, recurses := true, plainKeys := false, apart := false }
def TraceOftenSaid : Prop := traceOftenRow.holds Tryz.pinned (OpenSpec.ofChange traceOftenSpec)

/-- ITS FALSE NEIGHBOUR: 'it returns false'. Refute it at one input. -/
def traceOftenWrong : ChangeSpec := { name := "traceOften", fn := fun _ => fun
  | [d1, d2] => { results := [.lit (.bool false)], args := [d1, d2] }
  | _ => none }
def TraceOftenWrongFalsely : Prop := traceOftenRow.holds Tryz.pinned (OpenSpec.ofChange traceOftenWrong)

/-- 'guidepostlaw23.TraceNil': WHATEVER THE INPUT: true; the input reads as it did. -/
def traceNilSpec : ChangeSpec := { name := "traceNil", fn := fun _ => fun
  | [] => { results := [.lit (.bool true)], args := [] }
  | _ => none }
def traceNilRow : OpenClaim := { program := "ytfnjojdiiklleaagreat", sum := "d3adfddb7f964eef9ae749ad42b6eaff5b666d0ecf7fb9944039ef4b2fe4689d", func := "guidepost/guidepostlaw23.TraceNil", spec := "traceNil", unfollowed := true, recurses := true, plainKeys := false, apart := false }
def TraceNilSaid : Prop := traceNilRow.holds Tryz.pinned (OpenSpec.ofChange traceNilSpec)

/-- ITS FALSE NEIGHBOUR: 'it returns false'. Refute it at one input. -/
def traceNilWrong : ChangeSpec := { name := "traceNil", fn := fun _ => fun
  | [] => { results := [.lit (.bool false)], args := [] }
  | _ => none }
def TraceNilWrongFalsely : Prop := traceNilRow.holds Tryz.pinned (OpenSpec.ofChange traceNilWrong)

/-- 'guidepostlaw22.GraphNil': WHATEVER THE INPUT: true; the input reads as it did. -/
def graphNilSpec : ChangeSpec := { name := "graphNil", fn := fun _ => fun
  | [] => { results := [.lit (.bool true)], args := [] }
  | _ => none }
def graphNilRow : OpenClaim := { program := "ytfnjojdiiklleaagreat", sum := "d3adfddb7f964eef9ae749ad42b6eaff5b666d0ecf7fb9944039ef4b2fe4689d", func := "guidepost/guidepostlaw22.GraphNil", spec := "graphNil", inPlace := ["maps.clone"], unfollowed := true, recurses := true, plainKeys := false, apart := false }
def GraphNilSaid : Prop := graphNilRow.holds Tryz.pinned (OpenSpec.ofChange graphNilSpec)

/-- ITS FALSE NEIGHBOUR: 'it returns false'. Refute it at one input. -/
def graphNilWrong : ChangeSpec := { name := "graphNil", fn := fun _ => fun
  | [] => { results := [.lit (.bool false)], args := [] }
  | _ => none }
def GraphNilWrongFalsely : Prop := graphNilRow.holds Tryz.pinned (OpenSpec.ofChange graphNilWrong)

/-- 'guidepostlaw24.CalmNil': WHATEVER THE INPUT: true; the input reads as it did. -/
def calmNilSpec : ChangeSpec := { name := "calmNil", fn := fun _ => fun
  | [] => { results := [.lit (.bool true)], args := [] }
  | _ => none }
def calmNilRow : OpenClaim := { program := "ytfnjojdiiklleaagreat", sum := "d3adfddb7f964eef9ae749ad42b6eaff5b666d0ecf7fb9944039ef4b2fe4689d", func := "guidepost/guidepostlaw24.CalmNil", spec := "calmNil", inPlace := ["maps.clone"], unfollowed := true, recurses := true, plainKeys := false, apart := false }
def CalmNilSaid : Prop := calmNilRow.holds Tryz.pinned (OpenSpec.ofChange calmNilSpec)

/-- ITS FALSE NEIGHBOUR: 'it returns false'. Refute it at one input. -/
def calmNilWrong : ChangeSpec := { name := "calmNil", fn := fun _ => fun
  | [] => { results := [.lit (.bool false)], args := [] }
  | _ => none }
def CalmNilWrongFalsely : Prop := calmNilRow.holds Tryz.pinned (OpenSpec.ofChange calmNilWrong)

/- THE SECOND FORM. 'bulk': how many values and letters a reading holds, each counted each time it is reached (what is shared counts as often as it is met; a slice's spare places count too). A statement '..UptoSaid' is the law's where the arguments, and the package variables that the reading takes, are together of bulk at most 1048576: NARROWER than '..Said'. Prove '..Said' where nothing that the law and all that it calls make is longer than what came in: it says more and counts as full. Else prove '..UptoSaid'. A law counts once. -/
mutual
def uptoBulk {H : Type} : DataW H → Nat
  | .lit (.string bytes) => bytes.length + 1
  | .lit _ => 1
  | .nil => 1
  | .ptr d => uptoBulk d + 1
  | .slice elems spare => uptoBulkAll elems + uptoBulkAll spare + 1
  | .agg parts => uptoBulkAll parts + 1
  | .iface _ d => uptoBulk d + 1
  | .map entries => uptoBulkEntries entries + 1
  | .held _ => 1
def uptoBulkAll {H : Type} : List (DataW H) → Nat
  | [] => 0
  | d :: r => uptoBulk d + uptoBulkAll r
def uptoBulkEntries {H : Type} : List (Lit × DataW H) → Nat
  | [] => 0
  | x :: r => uptoBulkEntry x + uptoBulkEntries r
def uptoBulkEntry {H : Type} : Lit × DataW H → Nat
  | (.string bytes, d) => bytes.length + uptoBulk d + 1
  | (_, d) => uptoBulk d + 1
 end
def uptoSmall : (H : Type) → List (DataW H) → Bool := fun _ ds => decide (uptoBulkAll ds ≤ 1048576)
def OpenSpec.upto (s : _root_.Go.ChangeSpec) : _root_.Go.OpenSpec := { _root_.Go.OpenSpec.ofChange s with cond := some uptoSmall }

/-- 'guidepostlaw23.TraceOften', WHERE WHAT IT READS IS OF BULK AT MOST 1048576: true; the input reads as it did. -/
def traceOftenUptoRow : OpenClaim := { program := "ytfnjojdiiklleaagreat", sum := "d3adfddb7f964eef9ae749ad42b6eaff5b666d0ecf7fb9944039ef4b2fe4689d", func := "guidepost/guidepostlaw23.TraceOften", spec := "traceOften", unfollowed := true, recurses := true, plainKeys := false, apart := false, narrowed := true }
def TraceOftenUptoSaid : Prop := traceOftenUptoRow.holds Tryz.pinned (OpenSpec.upto traceOftenSpec)

/-- 'guidepostlaw23.TraceNil', WHERE WHAT IT READS IS OF BULK AT MOST 1048576: true; the input reads as it did. -/
def traceNilUptoRow : OpenClaim := { program := "ytfnjojdiiklleaagreat", sum := "d3adfddb7f964eef9ae749ad42b6eaff5b666d0ecf7fb9944039ef4b2fe4689d", func := "guidepost/guidepostlaw23.TraceNil", spec := "traceNil", unfollowed := true, recurses := true, plainKeys := false, apart := false, narrowed := true }
def TraceNilUptoSaid : Prop := traceNilUptoRow.holds Tryz.pinned (OpenSpec.upto traceNilSpec)

/-- 'guidepostlaw22.GraphNil', WHERE WHAT IT READS IS OF BULK AT MOST 1048576: true; the input reads as it did. -/
def graphNilUptoRow : OpenClaim := { program := "ytfnjojdiiklleaagreat", sum := "d3adfddb7f964eef9ae749ad42b6eaff5b666d0ecf7fb9944039ef4b2fe4689d", func := "guidepost/guidepostlaw22.GraphNil", spec := "graphNil", inPlace := ["maps.clone"], unfollowed := true, recurses := true, plainKeys := false, apart := false, narrowed := true }
def GraphNilUptoSaid : Prop := graphNilUptoRow.holds Tryz.pinned (OpenSpec.upto graphNilSpec)

/-- 'guidepostlaw24.CalmNil', WHERE WHAT IT READS IS OF BULK AT MOST 1048576: true; the input reads as it did. -/
def calmNilUptoRow : OpenClaim := { program := "ytfnjojdiiklleaagreat", sum := "d3adfddb7f964eef9ae749ad42b6eaff5b666d0ecf7fb9944039ef4b2fe4689d", func := "guidepost/guidepostlaw24.CalmNil", spec := "calmNil", inPlace := ["maps.clone"], unfollowed := true, recurses := true, plainKeys := false, apart := false, narrowed := true }
def CalmNilUptoSaid : Prop := calmNilUptoRow.holds Tryz.pinned (OpenSpec.upto calmNilSpec)

end Rows
end Go.Proofs.YtfnjojdiiklleaaGreat
