/- What all statements of this layer ask first. -/
import Derived.Test.YtbpkaajokffpjaaE1
set_option linter.all false
set_option maxRecDepth 100000
namespace Go.Proofs.Ytbpkaajokffpjaa
open Go Go.Abs

theorem call_54 (l : List PR) (on : List SR) : (Lim cfg).call 54 [.sl true (l.map prow), .sl true (on.map srow)] [] = some (.bool (decide (l.length ≤ 100 ∧ on.length ≤ 100)), false, []) := by
  by_cases h1 : l.length ≤ 100
  · have h1' : (l.length : Int) ≤ 100 := by omega
    by_cases h2 : on.length ≤ 100
    · have h2' : (on.length : Int) ≤ 100 := by omega
      rw [decide_eq_true ⟨h1, h2⟩]
      refine call_eq fn_54 rfl ?_
      rw [k_start]
      simp only [Try.f54, List.length_cons, List.length_nil, Nat.zero_add, Nat.reduceSub, Nat.reduceAdd, List.replicate, List.cons_append, List.nil_append]
      simp only [go_sem, Nat.reduceAdd, Nat.reduceSub, Nat.reduceMul, Nat.reduceLT, Nat.reduceLeDiff, Nat.reduceEqDiff, Nat.reduceBEq, Nat.reduceBNe, reduceCtorEq, Int.reduceBNe, Int.reduceBEq, blt0, h1', h2']
      exact ret1n (v := .bool true) (fun _ => ex_ret) rfl rfl rfl ⟨rfl, rfl, rfl⟩
    · have h2' : ¬ (on.length : Int) ≤ 100 := by omega
      rw [decide_eq_false fun h => h2 h.2]
      refine call_eq fn_54 rfl ?_
      rw [k_start]
      simp only [Try.f54, List.length_cons, List.length_nil, Nat.zero_add, Nat.reduceSub, Nat.reduceAdd, List.replicate, List.cons_append, List.nil_append]
      simp only [go_sem, Nat.reduceAdd, Nat.reduceSub, Nat.reduceMul, Nat.reduceLT, Nat.reduceLeDiff, Nat.reduceEqDiff, Nat.reduceBEq, Nat.reduceBNe, reduceCtorEq, Int.reduceBNe, Int.reduceBEq, blt0, h1', h2']
      exact ret1n (v := .bool false) (fun _ => ex_ret) rfl rfl rfl ⟨rfl, rfl, rfl⟩
  · have h1' : ¬ (l.length : Int) ≤ 100 := by omega
    rw [decide_eq_false fun h => h1 h.1]
    refine call_eq fn_54 rfl ?_
    rw [k_start]
    simp only [Try.f54, List.length_cons, List.length_nil, Nat.zero_add, Nat.reduceSub, Nat.reduceAdd, List.replicate, List.cons_append, List.nil_append]
    simp only [go_sem, Nat.reduceAdd, Nat.reduceSub, Nat.reduceMul, Nat.reduceLT, Nat.reduceLeDiff, Nat.reduceEqDiff, Nat.reduceBEq, Nat.reduceBNe, reduceCtorEq, Int.reduceBNe, Int.reduceBEq, blt0, h1']
    exact ret1n (v := .bool false) (fun _ => ex_ret) rfl rfl rfl ⟨rfl, rfl, rfl⟩
theorem call_55 : (Lim cfg).call 55 [] [] = some (.bool true, false, []) := lim_of_run (k := 300) (by kernel_rfl)

end Go.Proofs.Ytbpkaajokffpjaa
