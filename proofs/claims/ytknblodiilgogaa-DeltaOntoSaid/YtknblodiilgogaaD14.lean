/- What turns make, one behind the other: the document's answer. -/
import Derived.Test.YtknblodiilgogaaD13
set_option linter.all false
set_option maxRecDepth 100000
namespace Go.Proofs.Ytknblodiilgogaa
open Go Go.Abs

def S19 (l m : List TR) (x : Nat × Nat × Nat × List TR) : St := { fr := mkF 103 [(0, .sl true (l.map trow)), (1, .sl true (m.map trow)), (6, .sl true (x.2.2.2.map trow)), (7, .sl true ((kmerge l m).map irow)), (8, .int .i64 x.1)], own := [6], hp := [], al := [], nb := 0 }

end Go.Proofs.Ytknblodiilgogaa
