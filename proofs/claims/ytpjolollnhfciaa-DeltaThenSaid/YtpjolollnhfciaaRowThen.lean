/- The law DeltaThen holds of every input. It has no condition of its own. -/
import Derived.Test.YtpjolollnhfciaaD19
import Derived.Test.YtpjolollnhfciaaCfg
import Derived.Test.YtpjolollnhfciaaAbsFit
set_option linter.all false
namespace Go.Proofs.Ytpjolollnhfciaa
open Go Go.Abs Go.ChangeShapes Go.WideShapes Go.RowKit

theorem row_70 {row : List V} (h : Typed cfg 70 row) : ∃ c : CR, row = [.int .i64 c.1, .bool c.2] := by
  obtain ⟨hl, hf⟩ := h.st_inv ty_70 rfl
  match row, hl with
  | [a, b], _ =>
    obtain ⟨n, h1, _⟩ := (hf (0, 3) (by simp) _ ty_3).int_inv ty_3 rfl
    obtain ⟨m, h2⟩ := (hf (1, 4) (by simp) _ ty_4).bool_inv ty_4 rfl
    simp at h1 h2
    subst h1; subst h2
    exact ⟨(n, m), rfl⟩
theorem row_72 {row : List V} (h : Typed cfg 72 row) : ∃ t : TR, row = trow t ∧ True := by
  obtain ⟨hl, hf⟩ := h.st_inv ty_72 rfl
  match row, hl with
  | [a, b, c, d, e], _ =>
    obtain ⟨n, h1, _⟩ := (hf (0, 3) (by simp) _ ty_3).int_inv ty_3 rfl
    obtain ⟨x, h2⟩ := row_70 (hf (1, 70) (by simp) _ ty_70)
    obtain ⟨y, h3⟩ := row_70 (hf (3, 70) (by simp) _ ty_70)
    simp at h1 h2 h3
    obtain ⟨rfl, rfl⟩ := h2
    obtain ⟨rfl, rfl⟩ := h3
    subst h1
    exact ⟨(n, x, y), rfl, trivial⟩
theorem arg_25 {a : V} (h : Arg cfg 25 a) : ∃ l : List TR, a = .sl true (l.map trow) := by
  obtain ⟨xs, te, rfl, _, _, hr⟩ := (h.plain rfl).sl_inv ty_25 rfl
  obtain ⟨l, rfl, _⟩ := rows_map fun row hm => row_72 (hr row hm)
  exact ⟨l, rfl⟩

set_option maxRecDepth 100000 in
theorem deltaThen_lifted (os : Os) (started : os.Started) (H : Type) (enc : TypeId × Value → H) :
    ReturnsInHanded {} Try.checked os 5 .any (Rows.deltaThenSpec.pre6 enc Try.prog Try.f5 Rows.deltaThenRow.domain false) (Rows.deltaThenSpec.post enc Try.prog Try.f5 false true false false) :=
  row_lifted (C := Try.checked) (cfg := cfg) (tb := 4) 6 (by kernel_rfl) started (by kernel_rfl) Try.func5
    (ChangeSpec.witness6 (enc := enc) (C := Try.checked) false ⟨#[], #[.slice none 0 0, .slice none 0 0], []⟩ 8 (by kernel_rfl) (by kernel_rfl) (by kernel_rfl) (by kernel_rfl))
    rfl (fun ds hd => match ds, hd with | [_, _], _ => rfl) rfl (by kernel_rfl) (by kernel_rfl) (by kernel_rfl) cfgOk (by kernel_rfl)
    fun args h => by
      obtain ⟨a, b, rfl, ha, hb⟩ := args_two h
      obtain ⟨l, rfl⟩ := arg_25 ha
      obtain ⟨m, rfl⟩ := arg_25 hb
      exact ev_of_lim (law_DeltaThen l m)

theorem deltaThen_holds : Rows.DeltaThenSaid :=
  OpenClaim.holds_of_wide 5 Try.f5 rfl rfl rfl rfl rfl rfl rfl ⟨rfl, rfl, rfl, rfl, rfl⟩ rfl rfl rfl rfl rfl (by kernel_rfl) Try.func5 (by kernel_rfl)
    (of_decide_eq_true (by kernel_rfl)) (by unfold Func.isWrapper; first | (rw [if_pos (by decide +kernel)]; kernel_rfl) | (rw [if_neg (by decide +kernel)]; exact ⟨rfl, rfl⟩))
    (fun os started H enc _ => deltaThen_lifted os started H enc)
end Go.Proofs.Ytpjolollnhfciaa
