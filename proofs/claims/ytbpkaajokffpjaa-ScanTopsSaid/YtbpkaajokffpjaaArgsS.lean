/- Arguments of the laws, opened. -/
import Derived.Test.YtbpkaajokffpjaaE1
import Derived.Test.YtbpkaajokffpjaaSrt
import Derived.Test.YtbpkaajokffpjaaL5
set_option linter.all false
namespace Go.Proofs.Ytbpkaajokffpjaa
open Go Go.Abs Go.ChangeShapes Go.WideShapes Go.RowKit

theorem row_pair {row : List V} (h : Typed cfg 125 row) : ∃ p : PR, row = prow p ∧ True := by
  obtain ⟨hl, hf⟩ := h.st_inv ty_125 rfl
  match row, hl with
  | [a, b], _ =>
    obtain ⟨n, h1, _⟩ := (hf (0, 3) (by simp) _ ty_3).int_inv ty_3 rfl
    obtain ⟨m, h2, _⟩ := (hf (1, 3) (by simp) _ ty_3).int_inv ty_3 rfl
    simp at h1 h2
    subst h1; subst h2
    exact ⟨(n, m), rfl, trivial⟩
theorem arg_pairs {a : V} (h : Arg cfg 43 a) : ∃ l : List PR, a = .sl true (l.map prow) := by
  obtain ⟨xs, te, rfl, _, _, hr⟩ := (h.plain rfl).sl_inv ty_43 rfl
  obtain ⟨l, rfl, _⟩ := rows_map fun row hm => row_pair (hr row hm)
  exact ⟨l, rfl⟩
theorem row_span {row : List V} (h : Typed cfg 212 row) : ∃ p : SR, row = srow p ∧ True := by
  obtain ⟨hl, hf⟩ := h.st_inv ty_212 rfl
  match row, hl with
  | [a, b], _ =>
    obtain ⟨n, h1, _⟩ := (hf (0, 3) (by simp) _ ty_3).int_inv ty_3 rfl
    obtain ⟨m, h2, _⟩ := (hf (1, 3) (by simp) _ ty_3).int_inv ty_3 rfl
    simp at h1 h2
    subst h1; subst h2
    exact ⟨(n, m), rfl, trivial⟩
theorem spans_of {a : V} (h : Typed cfg 91 [a]) : ∃ l : List SR, a = .sl true (l.map srow) := by
  obtain ⟨xs, te, rfl, _, _, hr⟩ := h.sl_inv ty_91 rfl
  obtain ⟨l, rfl, _⟩ := rows_map fun row hm => row_span (hr row hm)
  exact ⟨l, rfl⟩
theorem arg_spans {a : V} (h : Arg cfg 91 a) : ∃ l : List SR, a = .sl true (l.map srow) := spans_of (h.plain rfl)
theorem arg_int {a : V} (h : Arg cfg 3 a) : ∃ n : Int, a = .int .i64 n ∧ -9223372036854775808 ≤ n ∧ n ≤ 9223372036854775807 := by
  obtain ⟨n, h, h1, h2⟩ := (h.plain rfl).int_inv ty_3 rfl
  simp at h
  exact ⟨n, h, h1, h2⟩
theorem arg_cursor {a : V} (h : Arg cfg 93 a) : ∃ (l : List SR) (x y : Int), a = .agg [.sl true (l.map srow), .int .i64 x, .int .i64 y] ∧ -9223372036854775808 ≤ x ∧ x ≤ 9223372036854775807 := by
  obtain ⟨row, rfl, hh⟩ := h.agg rfl
  obtain ⟨hl, hf⟩ := hh.st_inv ty_93 rfl
  match row, hl with
  | [a, b, c], _ =>
    obtain ⟨l, h0⟩ := spans_of (hf (0, 91) (by simp) _ ty_91)
    obtain ⟨n, h1, b1, b2⟩ := (hf (1, 3) (by simp) _ ty_3).int_inv ty_3 rfl
    obtain ⟨m, h2, _⟩ := (hf (2, 3) (by simp) _ ty_3).int_inv ty_3 rfl
    simp at h0 h1 h2
    subst h0; subst h1; subst h2
    exact ⟨l, n, m, rfl, b1, b2⟩
theorem arg_two {a : V} (h : Arg cfg 123 a) : ∃ x y : Int, a = .agg [.int .i64 x, .int .i64 y] ∧ (-9223372036854775808 ≤ x ∧ x ≤ 9223372036854775807) ∧ (-9223372036854775808 ≤ y ∧ y ≤ 9223372036854775807) := by
  obtain ⟨row, rfl, hh⟩ := h.agg rfl
  obtain ⟨hl, hf⟩ := hh.ar_inv ty_123 rfl ty_3
  match row, hl with
  | [a, b], _ =>
    obtain ⟨n, h1, b1⟩ := (hf 0 (by omega)).int_inv ty_3 rfl
    obtain ⟨m, h2, b2⟩ := (hf 1 (by omega)).int_inv ty_3 rfl
    simp at h1 h2
    subst h1; subst h2
    exact ⟨n, m, rfl, b1, b2⟩
theorem arg_text {a : V} (h : Arg cfg 9 a) : ∃ s : List UInt8, a = .str s ∧ s.length ≤ 140737488351232 := by
  obtain ⟨s, h, hl⟩ := (h.plain rfl).str_inv ty_9 rfl
  simp at h
  exact ⟨s, h, hl⟩
theorem facts_and {a b : Bool} (h : a = true) (k : b = true) : (a && b) = true := by rw [h, k]; rfl
end Go.Proofs.Ytbpkaajokffpjaa
