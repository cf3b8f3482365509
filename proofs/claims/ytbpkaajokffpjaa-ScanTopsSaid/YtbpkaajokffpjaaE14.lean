/- Rows of neighbours. -/
import Derived.Test.YtbpkaajokffpjaaE13
set_option linter.all false
set_option maxRecDepth 100000
namespace Go.Proofs.Ytbpkaajokffpjaa
open Go Go.Abs

def widC (w : Int) : Blk := .cells 3 [] [.int .i64 w]
def tog (w : Int) (p q : PR) : Bool := p.1 / w == q.1 / w
theorem call_145 (p q : PR) (w : Int) (hw : 1 ≤ w) (hw2 : w ≤ 4096) (hp : 0 ≤ p.1 ∧ p.1 < 4096) (hq : 0 ≤ q.1 ∧ q.1 < 4096) :
    (Lim cfg).call 145 [.agg (prow p), .agg (prow q), .ptr 0 0] [widC w] = some (.bool (tog w p q), false, [widC w]) := by
  have hw0 : ¬ w = 0 := by omega
  have e1 : p.1.tdiv w = p.1 / w := Int.tdiv_eq_ediv_of_nonneg hp.1
  have e2 : q.1.tdiv w = q.1 / w := Int.tdiv_eq_ediv_of_nonneg hq.1
  have b1 := Int.ediv_le_self w hp.1
  have b2 := Int.ediv_le_self w hq.1
  have b3 := Int.ediv_nonneg (a := p.1) (b := w) hp.1 (by omega)
  have b4 := Int.ediv_nonneg (a := q.1) (b := w) hq.1 (by omega)
  have e3 : IntKind.i64.wrap (p.1 / w) = p.1 / w := wrap_i64 (by omega) (by omega)
  have e4 : IntKind.i64.wrap (q.1 / w) = q.1 / w := wrap_i64 (by omega) (by omega)
  refine call_eq fn_145 rfl ?_
  rw [k_start]
  simp only [Try.f145, List.length_cons, List.length_nil, Nat.zero_add, Nat.reduceSub, Nat.reduceAdd, List.replicate, List.cons_append, List.nil_append]
  simp only [go_sem, Nat.reduceAdd, Nat.reduceSub, Nat.reduceMul, Nat.reduceLT, Nat.reduceLeDiff, Nat.reduceEqDiff, Nat.reduceBEq, Nat.reduceBNe, reduceCtorEq, Int.reduceBNe, Int.reduceBEq, blt0, prow, widC, hw0, e1, e2, e3, e4]
  exact ret1h (v := .bool (tog w p q)) (fun _ => ex_ret) rfl rfl rfl rfl ⟨rfl, rfl, rfl⟩

/-- Rows of neighbours that go together. -/
def consRow (w : Int) (p : PR) : List PR → List (List PR) → List (List PR)
  | q :: _, R :: Rs => if tog w p q = true then (p :: R) :: Rs else [p] :: R :: Rs
  | _, _ => [[p]]
def rowsG (w : Int) : List PR → List (List PR)
  | [] => []
  | p :: r => consRow w p r (rowsG w r)
theorem rowsG_ne {w : Int} {p : PR} {r : List PR} : ∃ R Rs, rowsG w (p :: r) = (p :: R) :: Rs := by
  show ∃ R Rs, consRow w p r (rowsG w r) = (p :: R) :: Rs
  unfold consRow
  split
  · split
    · exact ⟨_, _, rfl⟩
    · exact ⟨_, _, rfl⟩
  · exact ⟨_, _, rfl⟩
theorem rowsG_tog {w : Int} {p q : PR} {r : List PR} {R : List PR} {Rs : List (List PR)} (h : rowsG w (q :: r) = R :: Rs) (ht : tog w p q = true) : rowsG w (p :: q :: r) = (p :: R) :: Rs := by
  show consRow w p (q :: r) (rowsG w (q :: r)) = _
  rw [h]; simp only [consRow, ht, if_true]
theorem rowsG_cut {w : Int} {p q : PR} {r : List PR} (ht : tog w p q = false) : rowsG w (p :: q :: r) = [p] :: rowsG w (q :: r) := by
  obtain ⟨R, Rs, h⟩ := rowsG_ne (w := w) (p := q) (r := r)
  show consRow w p (q :: r) (rowsG w (q :: r)) = _
  rw [h]; simp only [consRow, ht, Bool.false_eq_true, if_false]
/-- A run of neighbours that go together, and then one that does not (or none): the first row. -/
theorem rowsG_run {w : Int} : ∀ (A : List PR) (p : PR) (B : List PR), (∀ i (h : i + 1 < (p :: A).length), tog w (p :: A)[i] (p :: A)[i + 1] = true) → (∀ q ∈ B.head?, tog w ((p :: A).getLast (by simp)) q = false) →
    rowsG w (p :: A ++ B) = (p :: A) :: rowsG w B
  | [], p, [], _, _ => rfl
  | [], p, q :: B, _, h => rowsG_cut (h q (by simp))
  | a :: A, p, B, h1, h2 => by
    have ih := rowsG_run A a B (fun i hi => h1 (i + 1) (by simpa using hi)) (fun q hq => by have := h2 q hq; rwa [List.getLast_cons (by simp)] at this)
    exact rowsG_tog ih (h1 0 (by simp))
end Go.Proofs.Ytbpkaajokffpjaa
