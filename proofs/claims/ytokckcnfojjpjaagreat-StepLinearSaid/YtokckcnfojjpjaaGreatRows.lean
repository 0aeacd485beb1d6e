/-
  No cell of these rows narrows 'for every input' (looked for: loops, veiled, ifaces, maps, wideKeys, modest, calm, conditions, laid).
  DERIVED. THE GIVEN ROWS OF THIS SEAT. 5 by the template 'for every input the law returns true; each argument reads behind the call as it read before'; 0 by the template 'total and deterministic' (their statements: YtokckcnfojjpjaaGreatTotals.lean).
  GIVEN WITH THE SEED: the statements are not yours to turn. If you find one false, say at which input.
  Laid BY PROGRAM, IN A SANDBOX (cutbox-rows.mjs): the forced cells as the released guide's own fill.sh prints them over the translation 0f702ad70b4194fb… (all of the seat's roots in one cut). By AI agents, Wed Nov 11 2026. No macro, syntax, notation, axiom, sorry.
-/
import Derived.Test.YtokckcnfojjpjaaGreatChecked
import GoSem.Claim
import GoSem.ClaimJoined
import GoSem.ClaimMapViews
import Derived.JoinedTies
import Derived.KernelRfl
namespace Go.Proofs.YtokckcnfojjpjaaGreat
/- THE CELL 'sum', in the pinned program and in every row, IS THE sha256 OF THE DUMP (.gsa) THAT YtokckcnfojjpjaaGreatProg.lean LOADS. Nothing in Lean hashes anything: it is a label: what it is worth is what the hold of that sum in a sandbox is worth. -/
noncomputable def Tryz.pinned : Pinned := { name := "ytokckcnfojjpjaagreat", sum := "0f702ad70b4194fb3ad08a4973b9abf99792445ee3d2fdc38403f6700d3334af", checked := Tryz.checked }
namespace Rows
def none {H : Type} : Left H := { results := [], args := [] }

/-- 'isoclinelaw19.StepExact': WHATEVER THE INPUT: true; the input reads as it did. -/
def stepExactSpec : ChangeSpec := { name := "stepExact", fn := fun _ => fun
  | [d1, d2, d3, d4, d5] => { results := [.lit (.bool true)], args := [d1, d2, d3, d4, d5] }
  | _ => none }
def stepExactRow : OpenClaim := { program := "ytokckcnfojjpjaagreat", sum := "0f702ad70b4194fb3ad08a4973b9abf99792445ee3d2fdc38403f6700d3334af", func := "isocline/isoclinelaw19.StepExact", spec := "stepExact", unfollowed := true, recurses := true, apart := false }
def StepExactSaid : Prop := stepExactRow.holds Tryz.pinned (OpenSpec.ofChange stepExactSpec)

/-- ITS FALSE NEIGHBOUR: 'it returns false'. Refute it at one input. -/
def stepExactWrong : ChangeSpec := { name := "stepExact", fn := fun _ => fun
  | [d1, d2, d3, d4, d5] => { results := [.lit (.bool false)], args := [d1, d2, d3, d4, d5] }
  | _ => none }
def StepExactWrongFalsely : Prop := stepExactRow.holds Tryz.pinned (OpenSpec.ofChange stepExactWrong)

/-- 'isoclinelaw19.StepRuns': WHATEVER THE INPUT: true; the input reads as it did. -/
def stepRunsSpec : ChangeSpec := { name := "stepRuns", fn := fun _ => fun
  | [d1, d2, d3, d4, d5, d6, d7] => { results := [.lit (.bool true)], args := [d1, d2, d3, d4, d5, d6, d7] }
  | _ => none }
def stepRunsRow : OpenClaim := { program := "ytokckcnfojjpjaagreat", sum := "0f702ad70b4194fb3ad08a4973b9abf99792445ee3d2fdc38403f6700d3334af", func := "isocline/isoclinelaw19.StepRuns", spec := "stepRuns", unfollowed := true, recurses := true, apart := false }
def StepRunsSaid : Prop := stepRunsRow.holds Tryz.pinned (OpenSpec.ofChange stepRunsSpec)

/-- ITS FALSE NEIGHBOUR: 'it returns false'. Refute it at one input. -/
def stepRunsWrong : ChangeSpec := { name := "stepRuns", fn := fun _ => fun
  | [d1, d2, d3, d4, d5, d6, d7] => { results := [.lit (.bool false)], args := [d1, d2, d3, d4, d5, d6, d7] }
  | _ => none }
def StepRunsWrongFalsely : Prop := stepRunsRow.holds Tryz.pinned (OpenSpec.ofChange stepRunsWrong)

/-- 'isoclinelaw19.StepGrowth': WHATEVER THE INPUT: true; the input reads as it did. -/
def stepGrowthSpec : ChangeSpec := { name := "stepGrowth", fn := fun _ => fun
  | [d1, d2] => { results := [.lit (.bool true)], args := [d1, d2] }
  | _ => none }
def stepGrowthRow : OpenClaim := { program := "ytokckcnfojjpjaagreat", sum := "0f702ad70b4194fb3ad08a4973b9abf99792445ee3d2fdc38403f6700d3334af", func := "isocline/isoclinelaw19.StepGrowth", spec := "stepGrowth", unfollowed := true, recurses := true, apart := false }
def StepGrowthSaid : Prop := stepGrowthRow.holds Tryz.pinned (OpenSpec.ofChange stepGrowthSpec)

/-- ITS FALSE NEIGHBOUR: 'it returns false'. Refute it at one input. -/
def stepGrowthWrong : ChangeSpec := { name := "stepGrowth", fn := fun _ => fun
  | [d1, d2] => { results := [.lit (.bool false)], args := [d1, d2] }
  | _ => none }
def StepGrowthWrongFalsely : Prop := stepGrowthRow.holds Tryz.pinned (OpenSpec.ofChange stepGrowthWrong)

/-- 'isoclinelaw19.StepGrows': WHATEVER THE INPUT: true; the input reads as it did. -/
def stepGrowsSpec : ChangeSpec := { name := "stepGrows", fn := fun _ => fun
  | [d1, d2, d3] => { results := [.lit (.bool true)], args := [d1, d2, d3] }
  | _ => none }
def stepGrowsRow : OpenClaim := { program := "ytokckcnfojjpjaagreat", sum := "0f702ad70b4194fb3ad08a4973b9abf99792445ee3d2fdc38403f6700d3334af", func := "isocline/isoclinelaw19.StepGrows", spec := "stepGrows", unfollowed := true, recurses := true, apart := false }
def StepGrowsSaid : Prop := stepGrowsRow.holds Tryz.pinned (OpenSpec.ofChange stepGrowsSpec)

/-- ITS FALSE NEIGHBOUR: 'it returns false'. Refute it at one input. -/
def stepGrowsWrong : ChangeSpec := { name := "stepGrows", fn := fun _ => fun
  | [d1, d2, d3] => { results := [.lit (.bool false)], args := [d1, d2, d3] }
  | _ => none }
def StepGrowsWrongFalsely : Prop := stepGrowsRow.holds Tryz.pinned (OpenSpec.ofChange stepGrowsWrong)

/-- 'isoclinelaw19.StepLinear': WHATEVER THE INPUT: true; the input reads as it did. -/
def stepLinearSpec : ChangeSpec := { name := "stepLinear", fn := fun _ => fun
  | [d1, d2, d3, d4, d5] => { results := [.lit (.bool true)], args := [d1, d2, d3, d4, d5] }
  | _ => none }
def stepLinearRow : OpenClaim := { program := "ytokckcnfojjpjaagreat", sum := "0f702ad70b4194fb3ad08a4973b9abf99792445ee3d2fdc38403f6700d3334af", func := "isocline/isoclinelaw19.StepLinear", spec := "stepLinear", unfollowed := true, recurses := true, apart := false }
def StepLinearSaid : Prop := stepLinearRow.holds Tryz.pinned (OpenSpec.ofChange stepLinearSpec)

/-- ITS FALSE NEIGHBOUR: 'it returns false'. Refute it at one input. -/
def stepLinearWrong : ChangeSpec := { name := "stepLinear", fn := fun _ => fun
  | [d1, d2, d3, d4, d5] => { results := [.lit (.bool false)], args := [d1, d2, d3, d4, d5] }
  | _ => none }
def StepLinearWrongFalsely : Prop := stepLinearRow.holds Tryz.pinned (OpenSpec.ofChange stepLinearWrong)

/- THE SECOND FORM. 'bulk': how many values and letters a reading holds, each counted each time it is reached (what is shared counts as often as it is met; a slice's spare places count too). A statement '..UptoSaid' is the law's where the arguments, and the package variables that the reading takes, are together of bulk at most 1048576: NARROWER than '..Said'. Prove '..Said' where nothing that the law and all that it calls make is longer than what came in: it says more and counts as full. Else prove '..UptoSaid'. A law counts once. -/
mutual
def uptoBulk {H : Type} : DataW H → Nat
  | .lit (.string bytes) => bytes.length + 1
  | .lit _ => 1
  | .nil => 1
  | .ptr d => uptoBulk d + 1
  | .slice elems spare => uptoBulkAll elems + uptoBulkAll spare + 1
  | .agg parts => uptoBulkAll parts + 1
  | .iface _ d => uptoBulk d + 1
  | .map entries => uptoBulkEntries entries + 1
  | .held _ => 1
def uptoBulkAll {H : Type} : List (DataW H) → Nat
  | [] => 0
  | d :: r => uptoBulk d + uptoBulkAll r
def uptoBulkEntries {H : Type} : List (Lit × DataW H) → Nat
  | [] => 0
  | x :: r => uptoBulkEntry x + uptoBulkEntries r
def uptoBulkEntry {H : Type} : Lit × DataW H → Nat
  | (.string bytes, d) => bytes.length + uptoBulk d + 1
  | (_, d) => uptoBulk d + 1
 end
def uptoSmall : (H : Type) → List (DataW H) → Bool := fun _ ds => decide (uptoBulkAll ds ≤ 1048576)
def OpenSpec.upto (s : _root_.Go.ChangeSpec) : _root_.Go.OpenSpec := { _root_.Go.OpenSpec.ofChange s with cond := some uptoSmall }

/-- 'isoclinelaw19.StepExact', WHERE WHAT IT READS IS OF BULK AT MOST 1048576: true; the input reads as it did. -/
def stepExactUptoRow : OpenClaim := { program := "ytokckcnfojjpjaagreat", sum := "0f702ad70b4194fb3ad08a4973b9abf99792445ee3d2fdc38403f6700d3334af", func := "isocline/isoclinelaw19.StepExact", spec := "stepExact", unfollowed := true, recurses := true, apart := false, narrowed := true }
def StepExactUptoSaid : Prop := stepExactUptoRow.holds Tryz.pinned (OpenSpec.upto stepExactSpec)

/-- 'isoclinelaw19.StepRuns', WHERE WHAT IT READS IS OF BULK AT MOST 1048576: true; the input reads as it did. -/
def stepRunsUptoRow : OpenClaim := { program := "ytokckcnfojjpjaagreat", sum := "0f702ad70b4194fb3ad08a4973b9abf99792445ee3d2fdc38403f6700d3334af", func := "isocline/isoclinelaw19.StepRuns", spec := "stepRuns", unfollowed := true, recurses := true, apart := false, narrowed := true }
def StepRunsUptoSaid : Prop := stepRunsUptoRow.holds Tryz.pinned (OpenSpec.upto stepRunsSpec)

/-- 'isoclinelaw19.StepGrowth', WHERE WHAT IT READS IS OF BULK AT MOST 1048576: true; the input reads as it did. -/
def stepGrowthUptoRow : OpenClaim := { program := "ytokckcnfojjpjaagreat", sum := "0f702ad70b4194fb3ad08a4973b9abf99792445ee3d2fdc38403f6700d3334af", func := "isocline/isoclinelaw19.StepGrowth", spec := "stepGrowth", unfollowed := true, recurses := true, apart := false, narrowed := true }
def StepGrowthUptoSaid : Prop := stepGrowthUptoRow.holds Tryz.pinned (OpenSpec.upto stepGrowthSpec)

/-- 'isoclinelaw19.StepGrows', WHERE WHAT IT READS IS OF BULK AT MOST 1048576: true; the input reads as it did. -/
def stepGrowsUptoRow : OpenClaim := { program := "ytokckcnfojjpjaagreat", sum := "0f702ad70b4194fb3ad08a4973b9abf99792445ee3d2fdc38403f6700d3334af", func := "isocline/isoclinelaw19.StepGrows", spec := "stepGrows", unfollowed := true, recurses := true, apart := false, narrowed := true }
def StepGrowsUptoSaid : Prop := stepGrowsUptoRow.holds Tryz.pinned (OpenSpec.upto stepGrowsSpec)

/-- 'isoclinelaw19.StepLinear', WHERE WHAT IT READS IS OF BULK AT MOST 1048576: true; the input reads as it did. -/
def stepLinearUptoRow : OpenClaim := { program := "ytokckcnfojjpjaagreat", sum := "0f702ad70b4194fb3ad08a4973b9abf99792445ee3d2fdc38403f6700d3334af", func := "isocline/isoclinelaw19.StepLinear", spec := "stepLinear", unfollowed := true, recurses := true, apart := false, narrowed := true }
def StepLinearUptoSaid : Prop := stepLinearUptoRow.holds Tryz.pinned (OpenSpec.upto stepLinearSpec)

end Rows
end Go.Proofs.YtokckcnfojjpjaaGreat
