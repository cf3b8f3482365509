/- The pairs whose keys are in a set: the document's answer. -/
import Derived.Test.YtknblodiilgogaaE3
set_option linter.all false
set_option maxRecDepth 100000
namespace Go.Proofs.Ytknblodiilgogaa
open Go Go.Abs

def onP (on : List SR) (p : PR) : Bool := hasS on p.1
def clip (l : List PR) (on : List SR) : List PR := if (chk l && setS on) = true then l.filter (onP on) else []
theorem filter_step {l : List PR} {on : List SR} {i : Nat} (h : i < l.length) : (l.take (i + 1)).filter (onP on) = (l.take i).filter (onP on) ++ (if hasS on l[i].1 = true then [l[i]] else []) := by
  rw [List.take_succ_eq_append_getElem h, List.filter_append, List.filter_cons, List.filter_nil]; rfl
def clipT (l : List PR) (on : List SR) (i : Nat) : List PR := if (chk l && setS on) = true then (l.take i).filter (onP on) else []
theorem clipT_len {l : List PR} {on : List SR} {i : Nat} : (clipT l on i).length ≤ l.length := by
  unfold clipT
  split
  · exact Nat.le_trans (List.length_filter_le _ _) (by rw [List.length_take]; omega)
  · exact Nat.zero_le _
theorem clipT_all {l : List PR} {on : List SR} {i : Nat} (h : l.length ≤ i) : clipT l on i = clip l on := by rw [clipT, clip, List.take_of_length_le h]

def T70 (l : List PR) (on : List SR) (i : Nat) : St := { fr := mkF 36 [(0, .sl true (l.map prow)), (1, .sl true (on.map srow)), (5, .sl true ((clipT l on i).map prow)), (6, .int .i64 i)], own := [5], hp := [], al := [], nb := 0 }
end Go.Proofs.Ytknblodiilgogaa
