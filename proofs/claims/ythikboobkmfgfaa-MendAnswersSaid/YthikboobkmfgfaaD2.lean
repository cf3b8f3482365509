/- Which pairs are a table, as the document has it; and small functions. -/
import Derived.Test.YthikboobkmfgfaaD1
set_option linter.all false
set_option maxRecDepth 100000
namespace Go.Proofs.Ythikboobkmfgfaa
open Go Go.Abs

def S42 (l : List PR) (i : Nat) : St := { fr := mkF 56 [(0, .sl true (l.map prow)), (3, .int .i64 i)], own := [], hp := [], al := [], nb := 0 }

abbrev CR := Int × Bool
def crow (c : CR) : List V := [.int .i64 c.1, .bool c.2]
end Go.Proofs.Ythikboobkmfgfaa
