/- What the closures that sorts are handed answer. -/
import Derived.Test.YtlfjmmcodkdlfaaG1
import Derived.Test.YtlfjmmcodkdlfaaCfg
set_option linter.all false
set_option maxRecDepth 100000
namespace Go.Proofs.Ytlfjmmcodkdlfaa
open Go Go.Abs

@[go_sem] theorem cfg0_ty {k : Nat} : cfg0.ty k = cfg.ty k := rfl
@[go_sem] theorem cfg0_inpl {k : Nat} : cfg0.inpl k = cfg.inpl k := rfl
@[go_sem] theorem cfg0_ext {k : Nat} : cfg0.ext k = cfg.ext k := rfl
@[go_sem] theorem cfg0_nilT {k : Nat} : cfg0.nilT k = cfg.nilT k := rfl
@[go_sem] theorem cfg0_draw {k r : Nat} : cfg0.draw k r = cfg.draw k r := rfl
theorem cmp0_isNaN (x : Int) : (Lim cfg0).call 74 [.int .i64 x] [] = some (.bool false, false, []) := by
  refine call_eq (cfg := cfg0) (show cfg0.fn 74 = some _ from fn_74) rfl ?_
  rw [k_start]
  simp only [Try.f74, List.length_cons, List.length_nil, Nat.zero_add, Nat.reduceSub, Nat.reduceAdd, List.replicate, List.cons_append, List.nil_append]
  repeat' (first | simp (maxSteps := 10000000) (disch := omega) only [go_sem, Nat.reduceAdd, Nat.reduceSub, Nat.reduceMul, Nat.reduceLT, Nat.reduceLeDiff, Nat.reduceEqDiff, Nat.reduceBEq, Nat.reduceBNe, reduceCtorEq, Int.reduceBNe, Int.reduceBEq, au, lst, if_pos, if_neg, bne_self_eq_false] | simp (disch := (simp only [lens]; omega)) only [str_add, if_pos, if_neg] | ((with_reducible first | refine WC_split ?_ ?_ | refine WS_split ?_ ?_ | refine WD_split ?_ ?_) <;> intro hc <;> (try simp only [hc]) <;> (try simp only [bools] at hc) <;> (try (have hb : @Eq Bool _ _ := hc; simp only [hb]; clear hb))))
  exact ret1n (fun _ => ex_ret) rfl rfl rfl ⟨rfl, rfl, rfl⟩
theorem cmp0_Compare (a b : Int) : (Lim cfg0).call 61 [.int .i64 a, .int .i64 b] [] = some (.int .i64 (cmpZ a b), false, []) := by
  have c1 := cmp0_isNaN
  refine call_eq (cfg := cfg0) (show cfg0.fn 61 = some _ from fn_61) rfl ?_
  rw [k_start]
  simp only [Try.f61, List.length_cons, List.length_nil, Nat.zero_add, Nat.reduceSub, Nat.reduceAdd, List.replicate, List.cons_append, List.nil_append]
  repeat' (first | simp (maxSteps := 10000000) (disch := omega) only [go_sem, Nat.reduceAdd, Nat.reduceSub, Nat.reduceMul, Nat.reduceLT, Nat.reduceLeDiff, Nat.reduceEqDiff, Nat.reduceBEq, Nat.reduceBNe, reduceCtorEq, Int.reduceBNe, Int.reduceBEq, au, lst, if_pos, if_neg, c1] | simp (disch := (simp only [lens]; omega)) only [str_add, if_pos, if_neg] | ((with_reducible first | refine WC_split ?_ ?_ | refine WS_split ?_ ?_ | refine WD_split ?_ ?_) <;> intro hc <;> (try simp only [hc]) <;> (try simp only [bools] at hc) <;> (try (have hb : @Eq Bool _ _ := hc; simp only [hb]; clear hb))))
  all_goals refine ret1n (fun _ => ex_ret) rfl rfl rfl ⟨?_, rfl, rfl⟩
  all_goals show V.int _ _ = V.int _ _
  all_goals unfold cmpZ
  all_goals simp only [V.int.injEq, true_and]
  all_goals (split <;> (try split) <;> omega)
def T142 (a b : Int) (i : Nat) : St := { fr := mkF 18 [(3, .int .i64 0), (6, .sl true [[.int .i64 a], [.int .i64 b]]), (7, .int .i64 2), (8, .int .i64 i)], own := [], hp := [], al := [], nb := 0 }
theorem cmp_60 (x y : Int × Int) : (Lim cfg0).call 60 [.agg [.int .i64 x.1, .int .i64 x.2], .agg [.int .i64 y.1, .int .i64 y.2]] [] = some (.int .i64 (cfOf 0 x y), false, []) := by
  have c1 := cmp0_Compare
  refine call_eq (cfg := cfg0) (show cfg0.fn 60 = some _ from fn_60) rfl ?_
  rw [k_start]
  simp only [Try.f60, List.length_cons, List.length_nil, Nat.zero_add, Nat.reduceSub, Nat.reduceAdd, List.replicate, List.cons_append, List.nil_append]
  repeat' (first | simp (maxSteps := 10000000) (disch := omega) only [go_sem, Nat.reduceAdd, Nat.reduceSub, Nat.reduceMul, Nat.reduceLT, Nat.reduceLeDiff, Nat.reduceEqDiff, Nat.reduceBEq, Nat.reduceBNe, reduceCtorEq, Int.reduceBNe, Int.reduceBEq, au, lst, if_pos, if_neg, c1] | simp (disch := (simp only [lens]; omega)) only [str_add, if_pos, if_neg] | ((with_reducible first | refine WC_split ?_ ?_ | refine WS_split ?_ ?_ | refine WD_split ?_ ?_) <;> intro hc <;> (try simp only [hc]) <;> (try simp only [bools] at hc) <;> (try (have hb : @Eq Bool _ _ := hc; simp only [hb]; clear hb))))
  exact ret1n (fun _ => ex_ret) rfl rfl rfl ⟨rfl, rfl, rfl⟩
end Go.Proofs.Ytlfjmmcodkdlfaa
