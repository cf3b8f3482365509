/- The law MendAnswers holds of every input. It has no condition of its own. -/
import Derived.Test.YthikboobkmfgfaaM46
import Derived.Test.YthikboobkmfgfaaArgsM
set_option linter.all false
namespace Go.Proofs.Ythikboobkmfgfaa
open Go Go.Abs Go.ChangeShapes Go.WideShapes Go.RowKit

set_option maxRecDepth 100000 in
theorem mendAnswers_lifted (os : Os) (started : os.Started) (H : Type) (enc : TypeId × Value → H) :
    ReturnsInHanded {} Try.checked os 3 .any (Rows.mendAnswersSpec.pre6 enc Try.prog Try.f3 Rows.mendAnswersRow.domain false) (Rows.mendAnswersSpec.post enc Try.prog Try.f3 false true false false) :=
  row_lifted (C := Try.checked) (cfg := cfg) (tb := 4) 8 (by kernel_rfl) started (by kernel_rfl) Try.func3
    (ChangeSpec.witness6 (enc := enc) (C := Try.checked) false ⟨#[], #[.slice none 0 0, .agg #[.int .i64 0, .slice none 0 0]], []⟩ 12 (by kernel_rfl) (by kernel_rfl) (by kernel_rfl) (by kernel_rfl))
    rfl (fun ds hd => match ds, hd with | [_, _], _ => rfl) rfl (by kernel_rfl) (by kernel_rfl) (by kernel_rfl) cfgOk (by kernel_rfl)
    fun args h => by
      obtain ⟨x0, x1, rfl, hx0, hx1⟩ := args_two h
      obtain ⟨l, rfl⟩ := arg_pairs hx0
      obtain ⟨lv, L, rfl, hlv1, hlv2⟩ := arg_ask hx1
      exact ev_of_lim (law_MendAnswers l lv L)

set_option maxHeartbeats 40000000 in
theorem mendAnswers_holds : Rows.MendAnswersSaid :=
  OpenClaim.holds_of_wide 3 Try.f3 rfl rfl rfl rfl rfl rfl rfl ⟨rfl, rfl, rfl, rfl, rfl⟩ rfl rfl rfl rfl rfl (by as_aux_lemma => kernel_rfl) Try.func3 (by unfold joinedFacts; repeat' (with_reducible refine facts_and ?_ ?_); all_goals (as_aux_lemma => kernel_rfl))
    (of_decide_eq_true (by kernel_rfl)) (by unfold Func.isWrapper; first | (rw [if_pos (by decide +kernel)]; kernel_rfl) | (rw [if_neg (by decide +kernel)]; exact ⟨rfl, rfl⟩))
    (fun os started H enc _ => mendAnswers_lifted os started H enc)
end Go.Proofs.Ythikboobkmfgfaa
