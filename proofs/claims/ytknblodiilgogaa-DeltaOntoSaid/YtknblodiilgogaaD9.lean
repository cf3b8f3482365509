/- The law: the two answers agree. -/
import Derived.Test.YtknblodiilgogaaD8
set_option linter.all false
set_option maxRecDepth 100000
namespace Go.Proofs.Ytknblodiilgogaa
open Go Go.Abs

theorem merge_len : ∀ (A B : List PR) (O : List TR), (merge A B O).length ≤ A.length + B.length + O.length
  | [], [], O => by simp [merge]
  | p :: A, [], O => by
    have := merge_len A [] (emit p.1 (some p) none O); have := emit_len p.1 (some p) none O
    simp only [merge, List.length_cons] at *; omega
  | [], q :: B, O => by
    have := merge_len [] B (emit q.1 none (some q) O); have := emit_len q.1 none (some q) O
    simp only [merge, List.length_cons] at *; omega
  | p :: A, q :: B, O => by
    have h1 := merge_len A (q :: B) (emit p.1 (some p) none O); have := emit_len p.1 (some p) none O
    have h2 := merge_len (p :: A) B (emit q.1 none (some q) O); have := emit_len q.1 none (some q) O
    have h3 := merge_len A B (emit p.1 (some p) (some q) O); have := emit_len p.1 (some p) (some q) O
    rw [merge]
    simp only [List.length_cons] at *
    split
    · omega
    · split <;> omega
termination_by A B => A.length + B.length

theorem call_15 : (Lim cfg).call 15 [] [] = some (.bool true, false, []) := lim_of_run (k := 300) (by kernel_rfl)

theorem call_14 (A B : List PR) (L M : List TR) : (Lim cfg).call 14 [.sl true (A.map prow), .sl true (B.map prow), .sl true (L.map trow), .sl true (M.map trow)] [] =
    some (.bool (decide (A.length ≤ 100 ∧ B.length ≤ 100 ∧ L.length ≤ 100 ∧ M.length ≤ 100)), false, []) := by
  by_cases a : A.length ≤ 100
  · have a' : (A.length : Int) ≤ 100 := by omega
    by_cases b : B.length ≤ 100
    · have b' : (B.length : Int) ≤ 100 := by omega
      by_cases c : L.length ≤ 100
      · have c' : (L.length : Int) ≤ 100 := by omega
        by_cases d : M.length ≤ 100
        · have d' : (M.length : Int) ≤ 100 := by omega
          rw [decide_eq_true ⟨a, b, c, d⟩]
          refine call_eq fn_14 rfl ?_
          rw [k_start]
          simp only [Try.f14, List.length_cons, List.length_nil, Nat.zero_add, Nat.reduceSub, Nat.reduceAdd, List.replicate, List.cons_append, List.nil_append]
          simp only [go_sem, Nat.reduceAdd, Nat.reduceSub, Nat.reduceMul, Nat.reduceLT, Nat.reduceLeDiff, Nat.reduceEqDiff, Nat.reduceBEq, Nat.reduceBNe, reduceCtorEq, Int.reduceBNe, Int.reduceBEq, ty_38, ty_39, ty_3, ty_4, a', b', c', d']
          exact ret1n (fun _ => ex_ret) rfl rfl rfl ⟨rfl, rfl, rfl⟩
        · have d' : ¬ (M.length : Int) ≤ 100 := by omega
          rw [decide_eq_false fun h => d h.2.2.2]
          refine call_eq fn_14 rfl ?_
          rw [k_start]
          simp only [Try.f14, List.length_cons, List.length_nil, Nat.zero_add, Nat.reduceSub, Nat.reduceAdd, List.replicate, List.cons_append, List.nil_append]
          simp only [go_sem, Nat.reduceAdd, Nat.reduceSub, Nat.reduceMul, Nat.reduceLT, Nat.reduceLeDiff, Nat.reduceEqDiff, Nat.reduceBEq, Nat.reduceBNe, reduceCtorEq, Int.reduceBNe, Int.reduceBEq, ty_38, ty_39, ty_3, ty_4, a', b', c', d']
          exact ret1n (fun _ => ex_ret) rfl rfl rfl ⟨rfl, rfl, rfl⟩
      · have c' : ¬ (L.length : Int) ≤ 100 := by omega
        rw [decide_eq_false fun h => c h.2.2.1]
        refine call_eq fn_14 rfl ?_
        rw [k_start]
        simp only [Try.f14, List.length_cons, List.length_nil, Nat.zero_add, Nat.reduceSub, Nat.reduceAdd, List.replicate, List.cons_append, List.nil_append]
        simp only [go_sem, Nat.reduceAdd, Nat.reduceSub, Nat.reduceMul, Nat.reduceLT, Nat.reduceLeDiff, Nat.reduceEqDiff, Nat.reduceBEq, Nat.reduceBNe, reduceCtorEq, Int.reduceBNe, Int.reduceBEq, ty_38, ty_39, ty_3, ty_4, a', b', c']
        exact ret1n (fun _ => ex_ret) rfl rfl rfl ⟨rfl, rfl, rfl⟩
    · have b' : ¬ (B.length : Int) ≤ 100 := by omega
      rw [decide_eq_false fun h => b h.2.1]
      refine call_eq fn_14 rfl ?_
      rw [k_start]
      simp only [Try.f14, List.length_cons, List.length_nil, Nat.zero_add, Nat.reduceSub, Nat.reduceAdd, List.replicate, List.cons_append, List.nil_append]
      simp only [go_sem, Nat.reduceAdd, Nat.reduceSub, Nat.reduceMul, Nat.reduceLT, Nat.reduceLeDiff, Nat.reduceEqDiff, Nat.reduceBEq, Nat.reduceBNe, reduceCtorEq, Int.reduceBNe, Int.reduceBEq, ty_38, ty_39, ty_3, ty_4, a', b']
      exact ret1n (fun _ => ex_ret) rfl rfl rfl ⟨rfl, rfl, rfl⟩
  · have a' : ¬ (A.length : Int) ≤ 100 := by omega
    rw [decide_eq_false fun h => a h.1]
    refine call_eq fn_14 rfl ?_
    rw [k_start]
    simp only [Try.f14, List.length_cons, List.length_nil, Nat.zero_add, Nat.reduceSub, Nat.reduceAdd, List.replicate, List.cons_append, List.nil_append]
    simp only [go_sem, Nat.reduceAdd, Nat.reduceSub, Nat.reduceMul, Nat.reduceLT, Nat.reduceLeDiff, Nat.reduceEqDiff, Nat.reduceBEq, Nat.reduceBNe, reduceCtorEq, Int.reduceBNe, Int.reduceBEq, ty_38, ty_39, ty_3, ty_4, a']
    exact ret1n (fun _ => ex_ret) rfl rfl rfl ⟨rfl, rfl, rfl⟩

end Go.Proofs.Ytknblodiilgogaa
