/-
  isoclinelaw05.SpanPairs returns true for every input, and each argument reads afterwards as it read before. Conditions: none.
-/
import Derived.Test.YtjncgcnofiaiaaaViD
import Derived.Test.YtjncgcnofiaiaaaViH
namespace Go.Proofs.Ytjncgcnofiaiaaa
theorem spanPairs_holds : Rows.SpanPairsSaid := spanPairs_holds' law05_known
#print axioms spanPairs_holds
end Go.Proofs.Ytjncgcnofiaiaaa
