/- The law ViewNil holds of every input. It has no condition of its own. -/
import Derived.Test.YtlfjmmcodkdlfaaN1
import Derived.Test.YtlfjmmcodkdlfaaArgsV
set_option linter.all false
namespace Go.Proofs.Ytlfjmmcodkdlfaa
open Go Go.Abs Go.ChangeShapes Go.WideShapes Go.RowKit

set_option maxRecDepth 100000 in
theorem viewNil_lifted (os : Os) (started : os.Started) (H : Type) (enc : TypeId × Value → H) :
    ReturnsInHanded {} Try.checked os 3 .any (Rows.viewNilSpec.pre6 enc Try.prog Try.f3 Rows.viewNilRow.domain false) (Rows.viewNilSpec.post enc Try.prog Try.f3 false true false false) :=
  row_lifted (C := Try.checked) (cfg := cfg) (tb := 4) 12 (by kernel_rfl) started (by kernel_rfl) Try.func3
    (ChangeSpec.witness6 (enc := enc) (C := Try.checked) false ⟨#[], #[.agg #[.int .i64 0, .int .i64 0, .int .i64 0, .int .i64 0, .int .i64 0, .int .i64 0, .int .i64 0, .bool false, .bool false, .int .i64 0, .int .i64 0, .int .i64 0, .slice none 0 0, .int .i64 0, .int .i64 0, .int .i64 0, .slice none 0 0, .slice none 0 0, .slice none 0 0, .slice none 0 0, .int .i64 0, .int .i64 0, .slice none 0 0], .agg #[.int .i64 0, .int .i64 0, .slice none 0 0], .slice none 0 0], []⟩ 12 (by kernel_rfl) (by kernel_rfl) (by kernel_rfl) (by kernel_rfl))
    rfl (fun ds hd => match ds, hd with | [_, _, _], _ => rfl) rfl (by kernel_rfl) (by kernel_rfl) (by kernel_rfl) cfgOk (by kernel_rfl)
    fun args h => by
      obtain ⟨x0, x1, x2, rfl, hx0, hx1, hx2⟩ := args_three h
      obtain ⟨nc, rfl, hn, hp⟩ := arg_note hx0
      obtain ⟨a, b, rows, rfl⟩ := arg_chart hx1
      obtain ⟨on, rfl, hon⟩ := arg_spans hx2
      exact ev_of_lim (law_ViewNil nc hn hp a b rows on (by omega))

set_option maxHeartbeats 40000000 in
theorem viewNil_holds : Rows.ViewNilSaid :=
  OpenClaim.holds_of_wide 3 Try.f3 rfl rfl rfl rfl rfl rfl rfl ⟨rfl, rfl, rfl, rfl, rfl⟩ rfl rfl rfl rfl rfl (by as_aux_lemma => kernel_rfl) Try.func3 (by unfold joinedFacts; repeat' (with_reducible refine facts_and ?_ ?_); all_goals (as_aux_lemma => kernel_rfl))
    (of_decide_eq_true (by kernel_rfl)) (by unfold Func.isWrapper; first | (rw [if_pos (by decide +kernel)]; kernel_rfl) | (rw [if_neg (by decide +kernel)]; exact ⟨rfl, rfl⟩))
    (fun os started H enc _ => viewNil_lifted os started H enc)
end Go.Proofs.Ytlfjmmcodkdlfaa
