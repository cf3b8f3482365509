/- Arguments of the laws of menders, opened. -/
import Derived.Test.YthikboobkmfgfaaM10
import Derived.Test.YthikboobkmfgfaaCfg
import Derived.Test.YthikboobkmfgfaaL5
set_option linter.all false
namespace Go.Proofs.Ythikboobkmfgfaa
open Go Go.Abs Go.ChangeShapes Go.WideShapes Go.RowKit

theorem row_pair {row : List V} (h : Typed cfg 66 row) : ∃ p : PR, row = prow p ∧ True := by
  obtain ⟨hl, hf⟩ := h.st_inv ty_66 rfl
  match row, hl with
  | [a, b], _ =>
    obtain ⟨n, h1, _⟩ := (hf (0, 3) (by simp) _ ty_3).int_inv ty_3 rfl
    obtain ⟨m, h2, _⟩ := (hf (1, 3) (by simp) _ ty_3).int_inv ty_3 rfl
    simp at h1 h2
    subst h1; subst h2
    exact ⟨(n, m), rfl, trivial⟩
theorem arg_pairs {a : V} (h : Arg cfg 22 a) : ∃ l : List PR, a = .sl true (l.map prow) := by
  obtain ⟨xs, te, rfl, _, _, hr⟩ := (h.plain rfl).sl_inv ty_22 rfl
  obtain ⟨l, rfl, _⟩ := rows_map fun row hm => row_pair (hr row hm)
  exact ⟨l, rfl⟩
theorem ints_of {a : V} (h : Typed cfg 23 [a]) : ∃ l : List Int, a = .sl true (l.map irow) := by
  obtain ⟨xs, te, rfl, _, _, hr⟩ := h.sl_inv ty_23 rfl
  obtain ⟨l, rfl, _⟩ := rows_map (g := irow) (Q := fun _ => True) fun row hm => by
    obtain ⟨n, h1, _⟩ := (hr row hm).int_inv ty_3 rfl
    exact ⟨n, h1, trivial⟩
  exact ⟨l, rfl⟩
theorem nums_of {a : V} (h : Typed cfg 27 [a]) : ∃ l : List Nat, a = .sl true (l.map urow) ∧ ∀ k ∈ l, k < 4294967296 := by
  obtain ⟨xs, te, rfl, _, _, hr⟩ := h.sl_inv ty_27 rfl
  obtain ⟨l, rfl, hq⟩ := rows_map (g := urow) (Q := fun k => k < 4294967296) fun row hm => by
    obtain ⟨n, h1, h2, h3⟩ := (hr row hm).int_inv ty_89 rfl
    have h2' : 0 ≤ n := h2
    have h3' : n ≤ 4294967295 := h3
    exact ⟨n.toNat, by rw [h1, urow, Int.toNat_of_nonneg h2'], by omega⟩
  exact ⟨l, rfl, hq⟩
theorem row_cell {row : List V} (h : Typed cfg 74 row) : ∃ c : CR, row = crow c ∧ True := by
  obtain ⟨hl, hf⟩ := h.st_inv ty_74 rfl
  match row, hl with
  | [a, b], _ =>
    obtain ⟨n, h1, _⟩ := (hf (0, 3) (by simp) _ ty_3).int_inv ty_3 rfl
    obtain ⟨m, h2⟩ := (hf (1, 4) (by simp) _ ty_4).bool_inv ty_4 rfl
    simp at h1 h2
    subst h1; subst h2
    exact ⟨(n, m), rfl, trivial⟩
theorem cells_of {a : V} (h : Typed cfg 28 [a]) : ∃ l : List CR, a = .sl true (l.map crow) := by
  obtain ⟨xs, te, rfl, _, _, hr⟩ := h.sl_inv ty_28 rfl
  obtain ⟨l, rfl, _⟩ := rows_map fun row hm => row_cell (hr row hm)
  exact ⟨l, rfl⟩
theorem row_ask {row : List V} (h : Typed cfg 25 row) : ∃ (lv : Int) (L : List Int), row = askR lv L ∧ -9223372036854775808 ≤ lv ∧ lv ≤ 9223372036854775807 := by
  obtain ⟨hl, hf⟩ := h.st_inv ty_25 rfl
  match row, hl with
  | [a, b], _ =>
    obtain ⟨n, h1, b1, b2⟩ := (hf (0, 3) (by simp) _ ty_3).int_inv ty_3 rfl
    obtain ⟨l, h2⟩ := ints_of (hf (1, 23) (by simp) _ ty_23)
    simp at h1
    subst h1; subst h2
    exact ⟨n, l, rfl, b1, b2⟩
theorem arg_ask {a : V} (h : Arg cfg 25 a) : ∃ (lv : Int) (L : List Int), a = .agg (askR lv L) ∧ -9223372036854775808 ≤ lv ∧ lv ≤ 9223372036854775807 := by
  obtain ⟨row, rfl, hh⟩ := h.agg rfl
  obtain ⟨lv, L, rfl, b⟩ := row_ask hh
  exact ⟨lv, L, rfl, b⟩
theorem arg_told {a : V} (h : Arg cfg 30 a) : ∃ (lv : Int) (L : List Int) (K : List Nat) (C : List CR), a = .agg (toldR lv L K C) ∧ -9223372036854775808 ≤ lv ∧ lv ≤ 9223372036854775807 ∧ ∀ k ∈ K, k < 4294967296 := by
  obtain ⟨row, rfl, hh⟩ := h.agg rfl
  obtain ⟨hl, hf⟩ := hh.st_inv ty_30 rfl
  match row, hl with
  | [a, b, c, d], _ =>
    obtain ⟨lv, L, h1, b1⟩ := row_ask (hf (0, 25) (by simp) _ ty_25)
    obtain ⟨K, h2, h4⟩ := nums_of (hf (2, 27) (by simp) _ ty_27)
    obtain ⟨C, h3⟩ := cells_of (hf (3, 28) (by simp) _ ty_28)
    simp [askR] at h1
    obtain ⟨rfl, rfl⟩ := h1
    subst h2; subst h3
    exact ⟨lv, L, K, C, rfl, b1.1, b1.2, h4⟩
theorem arg_text {a : V} (h : Arg cfg 9 a) : ∃ s : List UInt8, a = .str s ∧ s.length ≤ 140737488351232 := by
  obtain ⟨s, h, hl⟩ := (h.plain rfl).str_inv ty_9 rfl
  simp at h
  exact ⟨s, h, hl⟩
theorem facts_and {a b : Bool} (h : a = true) (k : b = true) : (a && b) = true := by rw [h, k]; rfl
end Go.Proofs.Ythikboobkmfgfaa
