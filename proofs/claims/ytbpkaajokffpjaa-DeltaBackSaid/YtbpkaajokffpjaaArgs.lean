/- Arguments of the laws, opened. -/
import Derived.Test.YtbpkaajokffpjaaD39
import Derived.Test.YtbpkaajokffpjaaCfg
import Derived.Test.YtbpkaajokffpjaaL5
set_option linter.all false
namespace Go.Proofs.Ytbpkaajokffpjaa
open Go Go.Abs Go.ChangeShapes Go.WideShapes Go.RowKit

theorem row_cell {row : List V} (h : Typed cfg 150 row) : ∃ c : CR, row = [.int .i64 c.1, .bool c.2] := by
  obtain ⟨hl, hf⟩ := h.st_inv ty_150 rfl
  match row, hl with
  | [a, b], _ =>
    obtain ⟨n, h1, _⟩ := (hf (0, 3) (by simp) _ ty_3).int_inv ty_3 rfl
    obtain ⟨m, h2⟩ := (hf (1, 4) (by simp) _ ty_4).bool_inv ty_4 rfl
    simp at h1 h2
    subst h1; subst h2
    exact ⟨(n, m), rfl⟩
theorem row_turn {row : List V} (h : Typed cfg 152 row) : ∃ t : TR, row = trow t ∧ True := by
  obtain ⟨hl, hf⟩ := h.st_inv ty_152 rfl
  match row, hl with
  | [a, b, c, d, e], _ =>
    obtain ⟨n, h1, _⟩ := (hf (0, 3) (by simp) _ ty_3).int_inv ty_3 rfl
    obtain ⟨x, h2⟩ := row_cell (hf (1, 150) (by simp) _ ty_150)
    obtain ⟨y, h3⟩ := row_cell (hf (3, 150) (by simp) _ ty_150)
    simp at h1 h2 h3
    obtain ⟨rfl, rfl⟩ := h2
    obtain ⟨rfl, rfl⟩ := h3
    subst h1
    exact ⟨(n, x, y), rfl, trivial⟩
theorem arg_turns {a : V} (h : Arg cfg 22 a) : ∃ l : List TR, a = .sl true (l.map trow) := by
  obtain ⟨xs, te, rfl, _, _, hr⟩ := (h.plain rfl).sl_inv ty_22 rfl
  obtain ⟨l, rfl, _⟩ := rows_map fun row hm => row_turn (hr row hm)
  exact ⟨l, rfl⟩

theorem arg_text {a : V} (h : Arg cfg 9 a) : ∃ s : List UInt8, a = .str s ∧ s.length ≤ 140737488351232 := by
  obtain ⟨s, h, hl⟩ := (h.plain rfl).str_inv ty_9 rfl
  simp at h
  exact ⟨s, h, hl⟩
theorem facts_and {a b : Bool} (h : a = true) (k : b = true) : (a && b) = true := by rw [h, k]; rfl
end Go.Proofs.Ytbpkaajokffpjaa
