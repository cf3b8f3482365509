/- The laws DeltaMakes, DeltaThere. -/
import Derived.Test.YtknblodiilgogaaF11
set_option linter.all false
namespace Go.Proofs.Ytknblodiilgogaa
open Go Go.Abs
theorem law_DeltaThere (A B : List PR) : (Lim cfg).call 6 [.sl true (A.map prow), .sl true (B.map prow)] [] = some (.bool true, false, []) := there_of joinL A B
theorem law_DeltaMakes (a : List PR) (l : List TR) : (Lim cfg).call 4 [.sl true (a.map prow), .sl true (l.map trow)] [] = some (.bool true, false, []) := makes_of joinL a l
end Go.Proofs.Ytknblodiilgogaa
