/- Rows, summed up. -/
import Derived.Test.YtbpkaajokffpjaaE16
set_option linter.all false
set_option maxRecDepth 100000
namespace Go.Proofs.Ytbpkaajokffpjaa
open Go Go.Abs

theorem vlo_append (m : Int) (a b : List PR) : vlo m (a ++ b) = vlo (vlo m a) b := by simp only [vlo, List.foldl_append]
theorem vhi_append (m : Int) (a b : List PR) : vhi m (a ++ b) = vhi (vhi m a) b := by simp only [vhi, List.foldl_append]
theorem vlo_min : ∀ (l : List PR) (m k : Int), vlo (min m k) l = min m (vlo k l)
  | [], _, _ => rfl
  | p :: r, m, k => by
    show vlo (min (min m k) p.2) r = min m (vlo (min k p.2) r)
    rw [Int.min_assoc, vlo_min r m]
theorem vhi_max : ∀ (l : List PR) (m k : Int), vhi (max m k) l = max m (vhi k l)
  | [], _, _ => rfl
  | p :: r, m, k => by
    show vhi (max (max m k) p.2) r = max m (vhi (max k p.2) r)
    rw [Int.max_assoc, vhi_max r m]
/-- What the law's loop sums up. -/
def sumN (S : List (List PR)) : Int := S.flatten.length
theorem vlo_row (m : Int) (p : PR) (q : List PR) : vlo m (p :: q) = min m (vlo p.2 (p :: q)) := by
  show vlo (min m p.2) q = min m (vlo (min p.2 p.2) q)
  rw [Int.min_self, vlo_min]
theorem vhi_row (m : Int) (p : PR) (q : List PR) : vhi m (p :: q) = max m (vhi p.2 (p :: q)) := by
  show vhi (max m p.2) q = max m (vhi (max p.2 p.2) q)
  rw [Int.max_self, vhi_max]
/-- Keys of rows rise. -/
theorem rows_rise {w : Int} (hw : 1 ≤ w) {p q : PR} (hp : 0 ≤ p.1) (hpq : p.1 < q.1) (ht : tog w p q = false) : p.1 / w * w < q.1 / w * w := by
  have h1 : p.1 / w ≤ q.1 / w := Int.ediv_le_ediv (by omega) (by omega)
  have h2 : p.1 / w ≠ q.1 / w := by simpa [tog] using ht
  exact Int.mul_lt_mul_of_pos_right (by omega) (by omega)
/-- A row's number. -/
def rowN (w : Int) : List PR → Int
  | [] => 0
  | p :: _ => p.1 / w
theorem rowsG_head {w : Int} {p : PR} {r : List PR} {R : List PR} {Rs : List (List PR)} (h : rowsG w (p :: r) = R :: Rs) : rowN w R = p.1 / w := by
  obtain ⟨A, As, e⟩ := rowsG_ne (w := w) (p := p) (r := r)
  rw [h] at e
  cases e
  rfl
theorem rowsG_sorted {w : Int} (hw : 1 ≤ w) : ∀ M : List PR, rise M → (rowsG w M).Pairwise fun R R' => rowN w R < rowN w R'
  | [], _ => List.Pairwise.nil
  | [p], _ => List.pairwise_singleton _ _
  | p :: q :: r, h => by
    cases h with
    | cons h1 h2 =>
      have ih := rowsG_sorted hw (q :: r) h2
      obtain ⟨A, As, e⟩ := rowsG_ne (w := w) (p := q) (r := r)
      rw [e] at ih
      cases ih with
      | cons i1 i2 =>
        by_cases ht : tog w p q = true
        · rw [rowsG_tog e ht]
          have hk : p.1 / w = q.1 / w := by simpa [tog] using ht
          refine List.Pairwise.cons (fun R' hR' => ?_) i2
          have := i1 R' hR'
          simp only [rowN] at this ⊢
          rw [hk]; exact this
        · rw [Bool.not_eq_true] at ht
          rw [rowsG_cut ht, e]
          have hk : p.1 / w < q.1 / w := by
            have a1 : p.1 / w ≤ q.1 / w := Int.ediv_le_ediv (by omega) (by have := h1 q (by simp); omega)
            have a2 : p.1 / w ≠ q.1 / w := by simpa [tog] using ht
            omega
          refine List.Pairwise.cons (fun R' hR' => ?_) (List.Pairwise.cons i1 i2)
          rcases List.mem_cons.1 hR' with rfl | hR'
          · exact hk
          · have := i1 R' hR'
            simp only [rowN] at this ⊢
            omega
end Go.Proofs.Ytbpkaajokffpjaa
