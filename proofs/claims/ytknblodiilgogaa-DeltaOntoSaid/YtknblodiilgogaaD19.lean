/- The law DeltaThen: the program's answers and the document's agree. -/
import Derived.Test.YtknblodiilgogaaD18
set_option linter.all false
set_option maxRecDepth 100000
namespace Go.Proofs.Ytknblodiilgogaa
open Go Go.Abs

theorem tm_len : ∀ (A B O : List TR), (tm A B O).2.2.2.length ≤ A.length + B.length + O.length
  | [], [], O => by simp [tm]
  | p :: A, [], O => by
    have := tm_len A [] (tadd O p); have := tadd_len O p
    simp only [tm, List.length_cons, List.length_nil] at *; omega
  | [], q :: B, O => by
    have := tm_len [] B (tadd O q); have := tadd_len O q
    simp only [tm, List.length_cons, List.length_nil] at *; omega
  | p :: A, q :: B, O => by
    have h1 := tm_len A (q :: B) (tadd O p); have := tadd_len O p
    have h2 := tm_len (p :: A) B (tadd O q); have := tadd_len O q
    have h3 := tm_len A B (tadd O (p.1, p.2.1, q.2.2)); have := tadd_len O (p.1, p.2.1, q.2.2)
    rw [tm]
    simp only [List.length_cons] at *
    split
    · omega
    · split
      · omega
      · split
        · omega
        · simp only; omega
termination_by A B => A.length + B.length
theorem thenR_len (l m : List TR) : (thenR l m).1.length ≤ l.length + m.length := by
  have := tm_len l m []
  unfold thenR
  split
  · split
    · simpa using this
    · simp
  · simp
theorem oref_len (l : List TR) : ∀ (m : List TR) (X : List TR × List Int), (oref l m X).1.length ≤ X.1.length + m.length ∧ (oref l m X).2.length ≤ X.2.length + m.length
  | [], X => by simp [oref]
  | q :: m, X => by
    have h := ostep_len l q X
    have := oref_len l m (ostep l q X)
    simp only [oref, List.foldl_cons, List.length_cons] at *
    omega
theorem ontoR_len (l m : List TR) : (ontoR l m).1.1.length ≤ m.length ∧ (ontoR l m).1.2.length ≤ m.length := by
  have := oref_len l m ([], [])
  unfold ontoR
  split
  · simpa using this
  · simp

end Go.Proofs.Ytknblodiilgogaa
