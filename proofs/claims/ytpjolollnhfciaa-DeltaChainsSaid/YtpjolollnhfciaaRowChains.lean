/- The law DeltaChains holds of every input. It has no condition of its own. -/
import Derived.Test.YtpjolollnhfciaaD21
import Derived.Test.YtpjolollnhfciaaCfg
import Derived.Test.YtpjolollnhfciaaAbsFit
set_option linter.all false
namespace Go.Proofs.Ytpjolollnhfciaa
open Go Go.Abs Go.ChangeShapes Go.WideShapes Go.RowKit

theorem row_75c {row : List V} (h : Typed cfg 75 row) : ∃ p : PR, row = prow p ∧ True := by
  obtain ⟨hl, hf⟩ := h.st_inv ty_75 rfl
  match row, hl with
  | [a, b], _ =>
    obtain ⟨n, h1, _⟩ := (hf (0, 3) (by simp) _ ty_3).int_inv ty_3 rfl
    obtain ⟨m, h2, _⟩ := (hf (1, 3) (by simp) _ ty_3).int_inv ty_3 rfl
    simp at h1 h2
    subst h1; subst h2
    exact ⟨(n, m), rfl, trivial⟩
theorem arg_22c {a : V} (h : Arg cfg 22 a) : ∃ l : List PR, a = .sl true (l.map prow) := by
  obtain ⟨xs, te, rfl, _, _, hr⟩ := (h.plain rfl).sl_inv ty_22 rfl
  obtain ⟨l, rfl, _⟩ := rows_map fun row hm => row_75c (hr row hm)
  exact ⟨l, rfl⟩

set_option maxRecDepth 100000 in
theorem deltaChains_lifted (os : Os) (started : os.Started) (H : Type) (enc : TypeId × Value → H) :
    ReturnsInHanded {} Try.checked os 4 .any (Rows.deltaChainsSpec.pre6 enc Try.prog Try.f4 Rows.deltaChainsRow.domain false) (Rows.deltaChainsSpec.post enc Try.prog Try.f4 false true false false) :=
  row_lifted (C := Try.checked) (cfg := cfg) (tb := 4) 4 (by kernel_rfl) started (by kernel_rfl) Try.func4
    (ChangeSpec.witness6 (enc := enc) (C := Try.checked) false ⟨#[], #[.slice none 0 0, .slice none 0 0, .slice none 0 0], []⟩ 8 (by kernel_rfl) (by kernel_rfl) (by kernel_rfl) (by kernel_rfl))
    rfl (fun ds hd => match ds, hd with | [_, _, _], _ => rfl) rfl (by kernel_rfl) (by kernel_rfl) (by kernel_rfl) cfgOk (by kernel_rfl)
    fun args h => by
      obtain ⟨a, b, c, rfl, ha, hb, hc⟩ := args_three h
      obtain ⟨A, rfl⟩ := arg_22c ha
      obtain ⟨B, rfl⟩ := arg_22c hb
      obtain ⟨C, rfl⟩ := arg_22c hc
      exact ev_of_lim (law_DeltaChains A B C)

theorem deltaChains_holds : Rows.DeltaChainsSaid :=
  OpenClaim.holds_of_wide 4 Try.f4 rfl rfl rfl rfl rfl rfl rfl ⟨rfl, rfl, rfl, rfl, rfl⟩ rfl rfl rfl rfl rfl (by kernel_rfl) Try.func4 (by kernel_rfl)
    (of_decide_eq_true (by kernel_rfl)) (by unfold Func.isWrapper; first | (rw [if_pos (by decide +kernel)]; kernel_rfl) | (rw [if_neg (by decide +kernel)]; exact ⟨rfl, rfl⟩))
    (fun os started H enc _ => deltaChains_lifted os started H enc)
end Go.Proofs.Ytpjolollnhfciaa
