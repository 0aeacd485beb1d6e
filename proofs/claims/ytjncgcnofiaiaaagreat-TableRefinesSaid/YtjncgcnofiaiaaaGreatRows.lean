/-
  No cell of these rows narrows 'for every input' (looked for: loops, veiled, ifaces, maps, wideKeys, modest, calm, conditions, laid).
  DERIVED. THE GIVEN ROWS OF THIS SEAT. 6 by the template 'for every input the law returns true; each argument reads behind the call as it read before'; 0 by the template 'total and deterministic' (their statements: YtjncgcnofiaiaaaGreatTotals.lean).
  GIVEN WITH THE SEED: the statements are not yours to turn. If you find one false, say at which input.
  Laid BY PROGRAM, IN A SANDBOX (cutbox-rows.mjs): the forced cells as the released guide's own fill.sh prints them over the translation dc9416fa31b299d5… (all of the seat's roots in one cut). By AI agents, Wed Nov 11 2026. No macro, syntax, notation, axiom, sorry.
-/
import Derived.Test.YtjncgcnofiaiaaaGreatChecked
import GoSem.Claim
import GoSem.ClaimJoined
import GoSem.ClaimMapViews
import Derived.JoinedTies
import Derived.KernelRfl
namespace Go.Proofs.YtjncgcnofiaiaaaGreat
/- THE CELL 'sum', in the pinned program and in every row, IS THE sha256 OF THE DUMP (.gsa) THAT YtjncgcnofiaiaaaGreatProg.lean LOADS. Nothing in Lean hashes anything: it is a label: what it is worth is what the hold of that sum in a sandbox is worth. -/
noncomputable def Tryz.pinned : Pinned := { name := "ytjncgcnofiaiaaagreat", sum := "dc9416fa31b299d5b085e7176bda57560dc4434eec6718f858b6a1ff1afec3a6", checked := Tryz.checked }
namespace Rows
def none {H : Type} : Left H := { results := [], args := [] }

/-- 'isoclinelaw05.SpanArith': WHATEVER THE INPUT: true; the input reads as it did. -/
def spanArithSpec : ChangeSpec := { name := "spanArith", fn := fun _ => fun
  | [d1, d2, d3] => { results := [.lit (.bool true)], args := [d1, d2, d3] }
  | _ => none }
def spanArithRow : OpenClaim := { program := "ytjncgcnofiaiaaagreat", sum := "dc9416fa31b299d5b085e7176bda57560dc4434eec6718f858b6a1ff1afec3a6", func := "isocline/isoclinelaw05.SpanArith", spec := "spanArith", unfollowed := true, recurses := true, apart := false }
def SpanArithSaid : Prop := spanArithRow.holds Tryz.pinned (OpenSpec.ofChange spanArithSpec)

/-- ITS FALSE NEIGHBOUR: 'it returns false'. Refute it at one input. -/
def spanArithWrong : ChangeSpec := { name := "spanArith", fn := fun _ => fun
  | [d1, d2, d3] => { results := [.lit (.bool false)], args := [d1, d2, d3] }
  | _ => none }
def SpanArithWrongFalsely : Prop := spanArithRow.holds Tryz.pinned (OpenSpec.ofChange spanArithWrong)

/-- 'isoclinelaw05.SpanAlone': WHATEVER THE INPUT: true; the input reads as it did. -/
def spanAloneSpec : ChangeSpec := { name := "spanAlone", fn := fun _ => fun
  | [d1, d2, d3] => { results := [.lit (.bool true)], args := [d1, d2, d3] }
  | _ => none }
def spanAloneRow : OpenClaim := { program := "ytjncgcnofiaiaaagreat", sum := "dc9416fa31b299d5b085e7176bda57560dc4434eec6718f858b6a1ff1afec3a6", func := "isocline/isoclinelaw05.SpanAlone", spec := "spanAlone", unfollowed := true, recurses := true, apart := false }
def SpanAloneSaid : Prop := spanAloneRow.holds Tryz.pinned (OpenSpec.ofChange spanAloneSpec)

/-- ITS FALSE NEIGHBOUR: 'it returns false'. Refute it at one input. -/
def spanAloneWrong : ChangeSpec := { name := "spanAlone", fn := fun _ => fun
  | [d1, d2, d3] => { results := [.lit (.bool false)], args := [d1, d2, d3] }
  | _ => none }
def SpanAloneWrongFalsely : Prop := spanAloneRow.holds Tryz.pinned (OpenSpec.ofChange spanAloneWrong)

/-- 'isoclinelaw24.TableAreas': WHATEVER THE INPUT: true; the input reads as it did. -/
def tableAreasSpec : ChangeSpec := { name := "tableAreas", fn := fun _ => fun
  | [d1, d2, d3, d4] => { results := [.lit (.bool true)], args := [d1, d2, d3, d4] }
  | _ => none }
def tableAreasRow : OpenClaim := { program := "ytjncgcnofiaiaaagreat", sum := "dc9416fa31b299d5b085e7176bda57560dc4434eec6718f858b6a1ff1afec3a6", func := "isocline/isoclinelaw24.TableAreas", spec := "tableAreas", unfollowed := true, recurses := true, apart := false }
def TableAreasSaid : Prop := tableAreasRow.holds Tryz.pinned (OpenSpec.ofChange tableAreasSpec)

/-- ITS FALSE NEIGHBOUR: 'it returns false'. Refute it at one input. -/
def tableAreasWrong : ChangeSpec := { name := "tableAreas", fn := fun _ => fun
  | [d1, d2, d3, d4] => { results := [.lit (.bool false)], args := [d1, d2, d3, d4] }
  | _ => none }
def TableAreasWrongFalsely : Prop := tableAreasRow.holds Tryz.pinned (OpenSpec.ofChange tableAreasWrong)

/-- 'isoclinelaw24.TableRefines': WHATEVER THE INPUT: true; the input reads as it did. -/
def tableRefinesSpec : ChangeSpec := { name := "tableRefines", fn := fun _ => fun
  | [d1, d2, d3] => { results := [.lit (.bool true)], args := [d1, d2, d3] }
  | _ => none }
def tableRefinesRow : OpenClaim := { program := "ytjncgcnofiaiaaagreat", sum := "dc9416fa31b299d5b085e7176bda57560dc4434eec6718f858b6a1ff1afec3a6", func := "isocline/isoclinelaw24.TableRefines", spec := "tableRefines", unfollowed := true, recurses := true, apart := false }
def TableRefinesSaid : Prop := tableRefinesRow.holds Tryz.pinned (OpenSpec.ofChange tableRefinesSpec)

/-- ITS FALSE NEIGHBOUR: 'it returns false'. Refute it at one input. -/
def tableRefinesWrong : ChangeSpec := { name := "tableRefines", fn := fun _ => fun
  | [d1, d2, d3] => { results := [.lit (.bool false)], args := [d1, d2, d3] }
  | _ => none }
def TableRefinesWrongFalsely : Prop := tableRefinesRow.holds Tryz.pinned (OpenSpec.ofChange tableRefinesWrong)

/-- 'isoclinelaw24.TableDelays': WHATEVER THE INPUT: true; the input reads as it did. -/
def tableDelaysSpec : ChangeSpec := { name := "tableDelays", fn := fun _ => fun
  | [d1, d2, d3, d4, d5, d6] => { results := [.lit (.bool true)], args := [d1, d2, d3, d4, d5, d6] }
  | _ => none }
def tableDelaysRow : OpenClaim := { program := "ytjncgcnofiaiaaagreat", sum := "dc9416fa31b299d5b085e7176bda57560dc4434eec6718f858b6a1ff1afec3a6", func := "isocline/isoclinelaw24.TableDelays", spec := "tableDelays", unfollowed := true, recurses := true, apart := false }
def TableDelaysSaid : Prop := tableDelaysRow.holds Tryz.pinned (OpenSpec.ofChange tableDelaysSpec)

/-- ITS FALSE NEIGHBOUR: 'it returns false'. Refute it at one input. -/
def tableDelaysWrong : ChangeSpec := { name := "tableDelays", fn := fun _ => fun
  | [d1, d2, d3, d4, d5, d6] => { results := [.lit (.bool false)], args := [d1, d2, d3, d4, d5, d6] }
  | _ => none }
def TableDelaysWrongFalsely : Prop := tableDelaysRow.holds Tryz.pinned (OpenSpec.ofChange tableDelaysWrong)

/-- 'isoclinelaw24.TableValues': WHATEVER THE INPUT: true; the input reads as it did. -/
def tableValuesSpec : ChangeSpec := { name := "tableValues", fn := fun _ => fun
  | [d1, d2, d3] => { results := [.lit (.bool true)], args := [d1, d2, d3] }
  | _ => none }
def tableValuesRow : OpenClaim := { program := "ytjncgcnofiaiaaagreat", sum := "dc9416fa31b299d5b085e7176bda57560dc4434eec6718f858b6a1ff1afec3a6", func := "isocline/isoclinelaw24.TableValues", spec := "tableValues", unfollowed := true, recurses := true, apart := false }
def TableValuesSaid : Prop := tableValuesRow.holds Tryz.pinned (OpenSpec.ofChange tableValuesSpec)

/-- ITS FALSE NEIGHBOUR: 'it returns false'. Refute it at one input. -/
def tableValuesWrong : ChangeSpec := { name := "tableValues", fn := fun _ => fun
  | [d1, d2, d3] => { results := [.lit (.bool false)], args := [d1, d2, d3] }
  | _ => none }
def TableValuesWrongFalsely : Prop := tableValuesRow.holds Tryz.pinned (OpenSpec.ofChange tableValuesWrong)

/- THE SECOND FORM. 'bulk': how many values and letters a reading holds, each counted each time it is reached (what is shared counts as often as it is met; a slice's spare places count too). A statement '..UptoSaid' is the law's where the arguments, and the package variables that the reading takes, are together of bulk at most 1048576: NARROWER than '..Said'. Prove '..Said' where nothing that the law and all that it calls make is longer than what came in: it says more and counts as full. Else prove '..UptoSaid'. A law counts once. -/
mutual
def uptoBulk {H : Type} : DataW H → Nat
  | .lit (.string bytes) => bytes.length + 1
  | .lit _ => 1
  | .nil => 1
  | .ptr d => uptoBulk d + 1
  | .slice elems spare => uptoBulkAll elems + uptoBulkAll spare + 1
  | .agg parts => uptoBulkAll parts + 1
  | .iface _ d => uptoBulk d + 1
  | .map entries => uptoBulkEntries entries + 1
  | .held _ => 1
def uptoBulkAll {H : Type} : List (DataW H) → Nat
  | [] => 0
  | d :: r => uptoBulk d + uptoBulkAll r
def uptoBulkEntries {H : Type} : List (Lit × DataW H) → Nat
  | [] => 0
  | x :: r => uptoBulkEntry x + uptoBulkEntries r
def uptoBulkEntry {H : Type} : Lit × DataW H → Nat
  | (.string bytes, d) => bytes.length + uptoBulk d + 1
  | (_, d) => uptoBulk d + 1
 end
def uptoSmall : (H : Type) → List (DataW H) → Bool := fun _ ds => decide (uptoBulkAll ds ≤ 1048576)
def OpenSpec.upto (s : _root_.Go.ChangeSpec) : _root_.Go.OpenSpec := { _root_.Go.OpenSpec.ofChange s with cond := some uptoSmall }

/-- 'isoclinelaw05.SpanArith', WHERE WHAT IT READS IS OF BULK AT MOST 1048576: true; the input reads as it did. -/
def spanArithUptoRow : OpenClaim := { program := "ytjncgcnofiaiaaagreat", sum := "dc9416fa31b299d5b085e7176bda57560dc4434eec6718f858b6a1ff1afec3a6", func := "isocline/isoclinelaw05.SpanArith", spec := "spanArith", unfollowed := true, recurses := true, apart := false, narrowed := true }
def SpanArithUptoSaid : Prop := spanArithUptoRow.holds Tryz.pinned (OpenSpec.upto spanArithSpec)

/-- 'isoclinelaw05.SpanAlone', WHERE WHAT IT READS IS OF BULK AT MOST 1048576: true; the input reads as it did. -/
def spanAloneUptoRow : OpenClaim := { program := "ytjncgcnofiaiaaagreat", sum := "dc9416fa31b299d5b085e7176bda57560dc4434eec6718f858b6a1ff1afec3a6", func := "isocline/isoclinelaw05.SpanAlone", spec := "spanAlone", unfollowed := true, recurses := true, apart := false, narrowed := true }
def SpanAloneUptoSaid : Prop := spanAloneUptoRow.holds Tryz.pinned (OpenSpec.upto spanAloneSpec)

/-- 'isoclinelaw24.TableAreas', WHERE WHAT IT READS IS OF BULK AT MOST 1048576: true; the input reads as it did. -/
def tableAreasUptoRow : OpenClaim := { program := "ytjncgcnofiaiaaagreat", sum := "dc9416fa31b299d5b085e7176bda57560dc4434eec6718f858b6a1ff1afec3a6", func := "isocline/isoclinelaw24.TableAreas", spec := "tableAreas", unfollowed := true, recurses := true, apart := false, narrowed := true }
def TableAreasUptoSaid : Prop := tableAreasUptoRow.holds Tryz.pinned (OpenSpec.upto tableAreasSpec)

/-- 'isoclinelaw24.TableRefines', WHERE WHAT IT READS IS OF BULK AT MOST 1048576: true; the input reads as it did. -/
def tableRefinesUptoRow : OpenClaim := { program := "ytjncgcnofiaiaaagreat", sum := "dc9416fa31b299d5b085e7176bda57560dc4434eec6718f858b6a1ff1afec3a6", func := "isocline/isoclinelaw24.TableRefines", spec := "tableRefines", unfollowed := true, recurses := true, apart := false, narrowed := true }
def TableRefinesUptoSaid : Prop := tableRefinesUptoRow.holds Tryz.pinned (OpenSpec.upto tableRefinesSpec)

/-- 'isoclinelaw24.TableDelays', WHERE WHAT IT READS IS OF BULK AT MOST 1048576: true; the input reads as it did. -/
def tableDelaysUptoRow : OpenClaim := { program := "ytjncgcnofiaiaaagreat", sum := "dc9416fa31b299d5b085e7176bda57560dc4434eec6718f858b6a1ff1afec3a6", func := "isocline/isoclinelaw24.TableDelays", spec := "tableDelays", unfollowed := true, recurses := true, apart := false, narrowed := true }
def TableDelaysUptoSaid : Prop := tableDelaysUptoRow.holds Tryz.pinned (OpenSpec.upto tableDelaysSpec)

/-- 'isoclinelaw24.TableValues', WHERE WHAT IT READS IS OF BULK AT MOST 1048576: true; the input reads as it did. -/
def tableValuesUptoRow : OpenClaim := { program := "ytjncgcnofiaiaaagreat", sum := "dc9416fa31b299d5b085e7176bda57560dc4434eec6718f858b6a1ff1afec3a6", func := "isocline/isoclinelaw24.TableValues", spec := "tableValues", unfollowed := true, recurses := true, apart := false, narrowed := true }
def TableValuesUptoSaid : Prop := tableValuesUptoRow.holds Tryz.pinned (OpenSpec.upto tableValuesSpec)

end Rows
end Go.Proofs.YtjncgcnofiaiaaaGreat
