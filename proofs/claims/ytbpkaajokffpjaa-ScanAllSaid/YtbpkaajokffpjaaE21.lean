/- Rows, one by one. -/
import Derived.Test.YtbpkaajokffpjaaE20
set_option linter.all false
set_option maxRecDepth 100000
namespace Go.Proofs.Ytbpkaajokffpjaa
open Go Go.Abs

theorem rowsG_same {w : Int} : ∀ (M : List PR), ∀ R ∈ rowsG w M, ∀ p ∈ R, p.1 / w = rowN w R
  | [], R, h => by simp [rowsG] at h
  | [p], R, h => by
    have h : R ∈ [[p]] := h
    simp at h; subst h
    intro q hq
    simp at hq; subst hq; rfl
  | p :: q :: r, R, h => by
    have ih := rowsG_same (w := w) (q :: r)
    obtain ⟨A, As, e⟩ := rowsG_ne (w := w) (p := q) (r := r)
    by_cases ht : tog w p q = true
    · rw [rowsG_tog e ht] at h
      rw [e] at ih
      have hk : p.1 / w = q.1 / w := by simpa [tog] using ht
      rcases List.mem_cons.1 h with rfl | h
      · intro x hx
        rcases List.mem_cons.1 hx with rfl | hx
        · rfl
        · have := ih _ (by simp) x hx
          rw [this]
          exact hk.symm
      · exact ih R (by simp [h])
    · rw [Bool.not_eq_true] at ht
      rw [rowsG_cut ht] at h
      rcases List.mem_cons.1 h with rfl | h
      · intro x hx
        simp at hx; subst hx; rfl
      · exact ih R h
/-- The rows below a number. -/
def lowS (w : Int) (S : List (List PR)) (j : Int) : List (List PR) := S.filter fun R => decide (rowN w R < j)
def rowJ (w : Int) (M : List PR) (j : Int) : List PR := M.filter fun p => p.1 / w == j
theorem lowS_step {w : Int} (j : Int) : ∀ {S : List (List PR)}, (S.Pairwise fun R R' => rowN w R < rowN w R') → (∀ R ∈ S, R ≠ []) → (∀ R ∈ S, ∀ p ∈ R, p.1 / w = rowN w R) →
    lowS w S (j + 1) = lowS w S j ++ (if rowJ w S.flatten j = [] then [] else [rowJ w S.flatten j])
  | [], _, _, _ => rfl
  | R :: S, hs, hne, hsame => by
    cases hs with
    | cons h1 h2 =>
      have ih := lowS_step j h2 (fun R' hR' => hne R' (by simp [hR'])) fun R' hR' => hsame R' (by simp [hR'])
      have hR := hsame R (by simp)
      have hRne := hne R (by simp)
      have ef : ∀ j, rowJ w (R :: S).flatten j = (if rowN w R = j then R else []) ++ rowJ w S.flatten j := fun j => by
        rw [rowJ, List.flatten_cons, List.filter_append]
        congr 1
        split
        · rename_i h
          exact List.filter_eq_self.2 fun p hp => by simp [hR p hp, h]
        · rename_i h
          exact List.filter_eq_nil_iff.2 fun p hp => by simp [hR p hp, h]
      rw [ef]
      have big : ∀ {j : Int}, j ≤ rowN w R → rowJ w S.flatten j = [] := fun {j} hj => by
        refine List.filter_eq_nil_iff.2 fun p hp => ?_
        obtain ⟨R', h3, h4⟩ := List.mem_flatten.1 hp
        have := h1 R' h3
        have := hsame R' (by simp [h3]) p h4
        simp; omega
      have low : ∀ {j : Int}, j ≤ rowN w R + 1 → lowS w S j = [] := fun {j} hj => by
        refine List.filter_eq_nil_iff.2 fun R' hR' => ?_
        have := h1 R' hR'
        simp; omega
      have ec : ∀ j, lowS w (R :: S) j = (if rowN w R < j then [R] else []) ++ lowS w S j := fun j => by
        rw [lowS, List.filter_cons]
        by_cases h : rowN w R < j <;> simp [h, lowS]
      rw [ec, ec]
      by_cases hlt : rowN w R < j
      · rw [if_pos (show rowN w R < j + 1 by omega), if_pos hlt, if_neg (show ¬ rowN w R = j by omega), List.nil_append, ih, List.append_assoc]
      · by_cases he : rowN w R = j
        · rw [if_pos (show rowN w R < j + 1 by omega), if_neg hlt, if_pos he, big (by omega), low (by omega), low (by omega)]; simp only [List.append_nil, List.nil_append, if_neg hRne]
        · rw [if_neg (show ¬ rowN w R < j + 1 by omega), if_neg hlt, if_neg he, big (by omega), low (by omega), low (by omega)]; rfl
theorem lowS_all {w : Int} {S : List (List PR)} {j : Int} (h : ∀ R ∈ S, rowN w R < j) : lowS w S j = S := List.filter_eq_self.2 fun R hR => decide_eq_true (h R hR)
theorem lowS_none {w : Int} {S : List (List PR)} (h : ∀ R ∈ S, 0 ≤ rowN w R) : lowS w S 0 = [] := List.filter_eq_nil_iff.2 fun R hR => by have := h R hR; simp; omega
/-- Which pairs the document takes into a row. -/
def inRow (w : Int) (on : List SR) (j : Int) (p : PR) : Bool := (p.1 / w == j) && hasS on p.1
theorem row_in {l : List PR} {on : List SR} {w j : Int} (h : (chk l && setS on) = true) : rowJ w (clip l on) j = l.filter (inRow w on j) := by
  rw [rowJ, clip, if_pos h, List.filter_filter]
  rfl
theorem row_iff {k w j : Int} (hw : 1 ≤ w) : k / w = j ↔ j * w ≤ k ∧ k - j * w < w := by
  have h1 : j ≤ k / w ↔ j * w ≤ k := Int.le_ediv_iff_mul_le (by omega)
  have h2 : k / w < j + 1 ↔ k < (j + 1) * w := Int.ediv_lt_iff_lt_mul (by omega)
  rw [Int.add_mul, Int.one_mul] at h2
  constructor
  · intro h; exact ⟨h1.1 (by omega), by have := h2.1 (by omega); omega⟩
  · intro h; have := h1.2 h.1; have := h2.2 (by omega); omega
theorem growR_gr {w j : Int} {X : List PR} (hne : X ≠ []) (h : ∀ p ∈ X, p.1 / w = j) : growR w X = grG (j * w) X := by
  match X, hne with
  | p :: r, _ => simp only [growR, grG]; rw [h p (by simp)]
end Go.Proofs.Ytbpkaajokffpjaa
