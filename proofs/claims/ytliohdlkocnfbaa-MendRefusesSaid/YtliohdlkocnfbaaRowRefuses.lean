/- The law MendRefuses holds of every input. It has no condition of its own. -/
import Derived.Test.YtliohdlkocnfbaaM20
import Derived.Test.YtliohdlkocnfbaaArgsM
set_option linter.all false
namespace Go.Proofs.Ytliohdlkocnfbaa
open Go Go.Abs Go.ChangeShapes Go.WideShapes Go.RowKit

set_option maxRecDepth 100000 in
theorem mendRefuses_lifted (os : Os) (started : os.Started) (H : Type) (enc : TypeId × Value → H) :
    ReturnsInHanded {} Try.checked os 4 .any (Rows.mendRefusesSpec.pre6 enc Try.prog Try.f4 Rows.mendRefusesRow.domain false) (Rows.mendRefusesSpec.post enc Try.prog Try.f4 false true false false) :=
  row_lifted (C := Try.checked) (cfg := cfg) (tb := 4) 8 (by kernel_rfl) started (by kernel_rfl) Try.func4
    (ChangeSpec.witness6 (enc := enc) (C := Try.checked) false ⟨#[], #[.slice none 0 0, .slice none 0 0, .agg #[.int .i64 0, .slice none 0 0, .slice none 0 0, .slice none 0 0]], []⟩ 12 (by kernel_rfl) (by kernel_rfl) (by kernel_rfl) (by kernel_rfl))
    rfl (fun ds hd => match ds, hd with | [_, _, _], _ => rfl) rfl (by kernel_rfl) (by kernel_rfl) (by kernel_rfl) cfgOk (by kernel_rfl)
    fun args h => by
      obtain ⟨x0, x1, x2, rfl, hx0, hx1, hx2⟩ := args_three h
      obtain ⟨a, rfl⟩ := arg_pairs hx0
      obtain ⟨b, rfl⟩ := arg_pairs hx1
      obtain ⟨lv, L, K, C, rfl, hlv1, hlv2⟩ := arg_told hx2
      exact ev_of_lim (law_MendRefuses a b lv L K C)

set_option maxHeartbeats 40000000 in
theorem mendRefuses_holds : Rows.MendRefusesSaid :=
  OpenClaim.holds_of_wide 4 Try.f4 rfl rfl rfl rfl rfl rfl rfl ⟨rfl, rfl, rfl, rfl, rfl⟩ rfl rfl rfl rfl rfl (by as_aux_lemma => kernel_rfl) Try.func4 (by unfold joinedFacts; repeat' (with_reducible refine facts_and ?_ ?_); all_goals (as_aux_lemma => kernel_rfl))
    (of_decide_eq_true (by kernel_rfl)) (by unfold Func.isWrapper; first | (rw [if_pos (by decide +kernel)]; kernel_rfl) | (rw [if_neg (by decide +kernel)]; exact ⟨rfl, rfl⟩))
    (fun os started H enc _ => mendRefuses_lifted os started H enc)
end Go.Proofs.Ytliohdlkocnfbaa
