/- The law ScanTops holds of every input. It has no condition of its own. -/
import Derived.Test.YtbpkaajokffpjaaE32
import Derived.Test.YtbpkaajokffpjaaArgsS
set_option linter.all false
namespace Go.Proofs.Ytbpkaajokffpjaa
open Go Go.Abs Go.ChangeShapes Go.WideShapes Go.RowKit

set_option maxRecDepth 100000 in
theorem scanTops_lifted (os : Os) (started : os.Started) (H : Type) (enc : TypeId × Value → H) :
    ReturnsInHanded {} Try.checked os 11 .any (Rows.scanTopsSpec.pre6 enc Try.prog Try.f11 Rows.scanTopsRow.domain false) (Rows.scanTopsSpec.post enc Try.prog Try.f11 false true false false) :=
  row_lifted (C := Try.checked) (cfg := cfg) (tb := 4) 8 (by kernel_rfl) started (by kernel_rfl) Try.func11
    (ChangeSpec.witness6 (enc := enc) (C := Try.checked) false ⟨#[], #[.slice none 0 0, .slice none 0 0, .int .i64 0], []⟩ 12 (by kernel_rfl) (by kernel_rfl) (by kernel_rfl) (by kernel_rfl))
    rfl (fun ds hd => match ds, hd with | [_, _, _], _ => rfl) rfl (by kernel_rfl) (by kernel_rfl) (by kernel_rfl) cfgOk (by kernel_rfl)
    fun args h => by
      obtain ⟨x0, x1, x2, rfl, hx0, hx1, hx2⟩ := args_three h
      obtain ⟨l, rfl⟩ := arg_pairs hx0
      obtain ⟨on, rfl⟩ := arg_spans hx1
      obtain ⟨n, rfl, hn1, hn2⟩ := arg_int hx2
      exact ev_of_lim (law_ScanTops l on n hn1 hn2)

set_option maxHeartbeats 40000000 in
theorem scanTops_holds : Rows.ScanTopsSaid :=
  OpenClaim.holds_of_wide 11 Try.f11 rfl rfl rfl rfl rfl rfl rfl ⟨rfl, rfl, rfl, rfl, rfl⟩ rfl rfl rfl rfl rfl (by as_aux_lemma => kernel_rfl) Try.func11 (by unfold joinedFacts; repeat' (with_reducible refine facts_and ?_ ?_); all_goals (as_aux_lemma => kernel_rfl))
    (of_decide_eq_true (by kernel_rfl)) (by unfold Func.isWrapper; first | (rw [if_pos (by decide +kernel)]; kernel_rfl) | (rw [if_neg (by decide +kernel)]; exact ⟨rfl, rfl⟩))
    (fun os started H enc _ => scanTops_lifted os started H enc)
end Go.Proofs.Ytbpkaajokffpjaa
