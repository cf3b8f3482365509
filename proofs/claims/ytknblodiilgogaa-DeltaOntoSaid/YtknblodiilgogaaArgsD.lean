/- Arguments of the laws of tables and turns, opened. -/
import Derived.Test.YtknblodiilgogaaD10
import Derived.Test.YtknblodiilgogaaSrt
import Derived.Test.YtknblodiilgogaaL5
set_option linter.all false
namespace Go.Proofs.Ytknblodiilgogaa
open Go Go.Abs Go.ChangeShapes Go.WideShapes Go.RowKit

theorem row_pair {row : List V} (h : Typed cfg 72 row) : ∃ p : PR, row = prow p ∧ True := by
  obtain ⟨hl, hf⟩ := h.st_inv ty_72 rfl
  match row, hl with
  | [a, b], _ =>
    obtain ⟨n, h1, _⟩ := (hf (0, 3) (by simp) _ ty_3).int_inv ty_3 rfl
    obtain ⟨m, h2, _⟩ := (hf (1, 3) (by simp) _ ty_3).int_inv ty_3 rfl
    simp at h1 h2
    subst h1; subst h2
    exact ⟨(n, m), rfl, trivial⟩
theorem arg_pairs {a : V} (h : Arg cfg 38 a) : ∃ l : List PR, a = .sl true (l.map prow) := by
  obtain ⟨xs, te, rfl, _, _, hr⟩ := (h.plain rfl).sl_inv ty_38 rfl
  obtain ⟨l, rfl, _⟩ := rows_map fun row hm => row_pair (hr row hm)
  exact ⟨l, rfl⟩
theorem row_cell {row : List V} (h : Typed cfg 63 row) : ∃ c : CR, row = [.int .i64 c.1, .bool c.2] := by
  obtain ⟨hl, hf⟩ := h.st_inv ty_63 rfl
  match row, hl with
  | [a, b], _ =>
    obtain ⟨n, h1, _⟩ := (hf (0, 3) (by simp) _ ty_3).int_inv ty_3 rfl
    obtain ⟨m, h2⟩ := (hf (1, 4) (by simp) _ ty_4).bool_inv ty_4 rfl
    simp at h1 h2
    subst h1; subst h2
    exact ⟨(n, m), rfl⟩
theorem row_turn {row : List V} (h : Typed cfg 65 row) : ∃ t : TR, row = trow t ∧ True := by
  obtain ⟨hl, hf⟩ := h.st_inv ty_65 rfl
  match row, hl with
  | [a, b, c, d, e], _ =>
    obtain ⟨n, h1, _⟩ := (hf (0, 3) (by simp) _ ty_3).int_inv ty_3 rfl
    obtain ⟨x, h2⟩ := row_cell (hf (1, 63) (by simp) _ ty_63)
    obtain ⟨y, h3⟩ := row_cell (hf (3, 63) (by simp) _ ty_63)
    simp at h1 h2 h3
    obtain ⟨rfl, rfl⟩ := h2
    obtain ⟨rfl, rfl⟩ := h3
    subst h1
    exact ⟨(n, x, y), rfl, trivial⟩
theorem arg_turns {a : V} (h : Arg cfg 39 a) : ∃ l : List TR, a = .sl true (l.map trow) := by
  obtain ⟨xs, te, rfl, _, _, hr⟩ := (h.plain rfl).sl_inv ty_39 rfl
  obtain ⟨l, rfl, _⟩ := rows_map fun row hm => row_turn (hr row hm)
  exact ⟨l, rfl⟩
theorem facts_and {a b : Bool} (h : a = true) (k : b = true) : (a && b) = true := by rw [h, k]; rfl
end Go.Proofs.Ytknblodiilgogaa
