/-
  Parts of the proof: Tools for rows: slices of numbers of arguments opened.
-/
import Derived.Test.YtokckcnfojjpjaaNg19
import Derived.Test.YtokckcnfojjpjaaNg20
set_option linter.unusedVariables false
set_option linter.unusedSimpArgs false
namespace Go.Proofs.Ytokckcnfojjpjaa
open Go.ChangeShapes Go.WideShapes Go.ChangeAt Go.RowKit Go.Joins
theorem addr_add_add (a:Addr) (m n:Nat):(a.add m).add n=a.add (m+n):=by
 unfold Addr.add
 by_cases h1:m=0
 ·subst h1
  simp
 ·by_cases h2:n=0
  ·subst h2
   simp
  ·rw [if_neg h1,if_neg h2,if_neg (by omega)]
   simp [Nat.add_assoc]
section
variable {H:Type} {enc:TypeId × Value→H} {P:Program} {w:World} {spare:Nat→Bool} {held:Bool}
end
theorem rats_sl:Try.prog.underlying nT=some (.slice uD):=by kernel_rfl
end Go.Proofs.Ytokckcnfojjpjaa
