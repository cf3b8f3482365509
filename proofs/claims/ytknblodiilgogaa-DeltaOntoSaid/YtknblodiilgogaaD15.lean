/- Turns behind others: the document's answer. -/
import Derived.Test.YtknblodiilgogaaD14
set_option linter.all false
set_option maxRecDepth 100000
namespace Go.Proofs.Ytknblodiilgogaa
open Go Go.Abs

def ostep (l : List TR) (q : TR) (X : List TR × List Int) : List TR × List Int :=
  match l.findIdx? (fun t => t.1 == q.1) with
  | none => (X.1 ++ [q], X.2)
  | some i => match l[i]? with
    | none => X
    | some p => if p.2.2 = q.2.2 then (if p.2.1 = q.2.1 then X else (X.1, X.2 ++ [q.1])) else (X.1 ++ [(q.1, p.2.2, q.2.2)], X.2 ++ [q.1])
def oref (l m : List TR) (X : List TR × List Int) : List TR × List Int := m.foldl (fun X q => ostep l q X) X
theorem oref_succ {l m : List TR} {k : Nat} (h : k < m.length) {X : List TR × List Int} : oref l (m.take (k + 1)) X = ostep l m[k] (oref l (m.take k) X) := by
  rw [List.take_succ_eq_append_getElem h, oref, List.foldl_append]; rfl
theorem ostep_len (l : List TR) (q : TR) (X : List TR × List Int) : (ostep l q X).1.length ≤ X.1.length + 1 ∧ (ostep l q X).2.length ≤ X.2.length + 1 := by
  unfold ostep
  split
  · simp
  · split
    · simp
    · split
      · split <;> simp
      · simp
def ontoR (l m : List TR) : (List TR × List Int) × Int := if chkT l && chkT m then (oref l m ([], []), 0) else (([], []), 1)

end Go.Proofs.Ytknblodiilgogaa
