/- The law MendBack holds of every input. It has no condition of its own. -/
import Derived.Test.YthikboobkmfgfaaM36
import Derived.Test.YthikboobkmfgfaaArgsM
set_option linter.all false
namespace Go.Proofs.Ythikboobkmfgfaa
open Go Go.Abs Go.ChangeShapes Go.WideShapes Go.RowKit

set_option maxRecDepth 100000 in
theorem mendBack_lifted (os : Os) (started : os.Started) (H : Type) (enc : TypeId × Value → H) :
    ReturnsInHanded {} Try.checked os 5 .any (Rows.mendBackSpec.pre6 enc Try.prog Try.f5 Rows.mendBackRow.domain false) (Rows.mendBackSpec.post enc Try.prog Try.f5 false true false false) :=
  row_lifted (C := Try.checked) (cfg := cfg) (tb := 4) 8 (by kernel_rfl) started (by kernel_rfl) Try.func5
    (ChangeSpec.witness6 (enc := enc) (C := Try.checked) false ⟨#[], #[.agg #[.int .i64 0, .slice none 0 0, .slice none 0 0, .slice none 0 0], .string ⟨#[]⟩], []⟩ 12 (by kernel_rfl) (by kernel_rfl) (by kernel_rfl) (by kernel_rfl))
    rfl (fun ds hd => match ds, hd with | [_, _], _ => rfl) rfl (by kernel_rfl) (by kernel_rfl) (by kernel_rfl) cfgOk (by kernel_rfl)
    fun args h => by
      obtain ⟨x0, x1, rfl, hx0, hx1⟩ := args_two h
      obtain ⟨lv, L, K, C, rfl, hlv1, hlv2, hK⟩ := arg_told hx0
      obtain ⟨s, rfl, hs⟩ := arg_text hx1
      exact ev_of_lim (law_MendBack lv L K C hK s)

set_option maxHeartbeats 40000000 in
theorem mendBack_holds : Rows.MendBackSaid :=
  OpenClaim.holds_of_wide 5 Try.f5 rfl rfl rfl rfl rfl rfl rfl ⟨rfl, rfl, rfl, rfl, rfl⟩ rfl rfl rfl rfl rfl (by as_aux_lemma => kernel_rfl) Try.func5 (by unfold joinedFacts; repeat' (with_reducible refine facts_and ?_ ?_); all_goals (as_aux_lemma => kernel_rfl))
    (of_decide_eq_true (by kernel_rfl)) (by unfold Func.isWrapper; first | (rw [if_pos (by decide +kernel)]; kernel_rfl) | (rw [if_neg (by decide +kernel)]; exact ⟨rfl, rfl⟩))
    (fun os started H enc _ => mendBack_lifted os started H enc)
end Go.Proofs.Ythikboobkmfgfaa
