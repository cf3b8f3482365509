/- Cursors. -/
import Derived.Test.YtbpkaajokffpjaaE2
set_option linter.all false
set_option maxRecDepth 100000
namespace Go.Proofs.Ytbpkaajokffpjaa
open Go Go.Abs

def curR (on : List SR) (a n : Int) : List V := [.sl true (on.map srow), .int .i64 a, .int .i64 n]
def okC (on : List SR) (a n : Int) : Bool := setS on && (decide (a ≥ -1) && (decide (a < 4096) && (decide (n ≥ 1) && decide (n ≤ 500))))
theorem call_132 (on : List SR) (a n : Int) (hon : on.length ≤ 100000) : (Lim cfg).call 132 [.agg (curR on a n)] [] = some (.bool (okC on a n), false, []) := by
  have c1 := call_143 on hon
  by_cases h1 : setS on = true
  · rw [h1] at c1
    by_cases h2 : a ≥ -1
    · by_cases h3 : a < 4096
      · by_cases h4 : n ≥ 1
        · by_cases h5 : n ≤ 500
          · rw [show okC on a n = true by simp only [okC, h1, h2, h3, h4, h5]; rfl]
            refine call_eq fn_132 rfl ?_
            rw [k_start]
            simp only [Try.f132, List.length_cons, List.length_nil, Nat.zero_add, Nat.reduceSub, Nat.reduceAdd, List.replicate, List.cons_append, List.nil_append]
            simp only [go_sem, Nat.reduceAdd, Nat.reduceSub, Nat.reduceMul, Nat.reduceLT, Nat.reduceLeDiff, Nat.reduceEqDiff, Nat.reduceBEq, Nat.reduceBNe, reduceCtorEq, Int.reduceBNe, Int.reduceBEq, blt0, c1, curR, h2, h3, h4, h5]
            exact ret1n (v := .bool true) (fun _ => ex_ret) rfl rfl rfl ⟨rfl, rfl, rfl⟩
          · rw [show okC on a n = false by simp only [okC, h1, h2, h3, h4, h5]; rfl]
            refine call_eq fn_132 rfl ?_
            rw [k_start]
            simp only [Try.f132, List.length_cons, List.length_nil, Nat.zero_add, Nat.reduceSub, Nat.reduceAdd, List.replicate, List.cons_append, List.nil_append]
            simp only [go_sem, Nat.reduceAdd, Nat.reduceSub, Nat.reduceMul, Nat.reduceLT, Nat.reduceLeDiff, Nat.reduceEqDiff, Nat.reduceBEq, Nat.reduceBNe, reduceCtorEq, Int.reduceBNe, Int.reduceBEq, blt0, c1, curR, h2, h3, h4, h5]
            exact ret1n (v := .bool false) (fun _ => ex_ret) rfl rfl rfl ⟨rfl, rfl, rfl⟩
        · rw [show okC on a n = false by simp only [okC, h1, h2, h3, h4]; rfl]
          refine call_eq fn_132 rfl ?_
          rw [k_start]
          simp only [Try.f132, List.length_cons, List.length_nil, Nat.zero_add, Nat.reduceSub, Nat.reduceAdd, List.replicate, List.cons_append, List.nil_append]
          simp only [go_sem, Nat.reduceAdd, Nat.reduceSub, Nat.reduceMul, Nat.reduceLT, Nat.reduceLeDiff, Nat.reduceEqDiff, Nat.reduceBEq, Nat.reduceBNe, reduceCtorEq, Int.reduceBNe, Int.reduceBEq, blt0, c1, curR, h2, h3, h4]
          exact ret1n (v := .bool false) (fun _ => ex_ret) rfl rfl rfl ⟨rfl, rfl, rfl⟩
      · rw [show okC on a n = false by simp only [okC, h1, h2, h3]; rfl]
        refine call_eq fn_132 rfl ?_
        rw [k_start]
        simp only [Try.f132, List.length_cons, List.length_nil, Nat.zero_add, Nat.reduceSub, Nat.reduceAdd, List.replicate, List.cons_append, List.nil_append]
        simp only [go_sem, Nat.reduceAdd, Nat.reduceSub, Nat.reduceMul, Nat.reduceLT, Nat.reduceLeDiff, Nat.reduceEqDiff, Nat.reduceBEq, Nat.reduceBNe, reduceCtorEq, Int.reduceBNe, Int.reduceBEq, blt0, c1, curR, h2, h3]
        exact ret1n (v := .bool false) (fun _ => ex_ret) rfl rfl rfl ⟨rfl, rfl, rfl⟩
    · rw [show okC on a n = false by simp only [okC, h1, h2]; rfl]
      refine call_eq fn_132 rfl ?_
      rw [k_start]
      simp only [Try.f132, List.length_cons, List.length_nil, Nat.zero_add, Nat.reduceSub, Nat.reduceAdd, List.replicate, List.cons_append, List.nil_append]
      simp only [go_sem, Nat.reduceAdd, Nat.reduceSub, Nat.reduceMul, Nat.reduceLT, Nat.reduceLeDiff, Nat.reduceEqDiff, Nat.reduceBEq, Nat.reduceBNe, reduceCtorEq, Int.reduceBNe, Int.reduceBEq, blt0, c1, curR, h2]
      exact ret1n (v := .bool false) (fun _ => ex_ret) rfl rfl rfl ⟨rfl, rfl, rfl⟩
  · rw [Bool.not_eq_true] at h1
    rw [h1] at c1
    rw [show okC on a n = false by simp only [okC, h1]; rfl]
    refine call_eq fn_132 rfl ?_
    rw [k_start]
    simp only [Try.f132, List.length_cons, List.length_nil, Nat.zero_add, Nat.reduceSub, Nat.reduceAdd, List.replicate, List.cons_append, List.nil_append]
    simp only [go_sem, Nat.reduceAdd, Nat.reduceSub, Nat.reduceMul, Nat.reduceLT, Nat.reduceLeDiff, Nat.reduceEqDiff, Nat.reduceBEq, Nat.reduceBNe, reduceCtorEq, Int.reduceBNe, Int.reduceBEq, blt0, c1, curR]
    exact ret1n (v := .bool false) (fun _ => ex_ret) rfl rfl rfl ⟨rfl, rfl, rfl⟩
theorem call_137 (on : List SR) (a n : Int) (hon : on.length ≤ 100000) : (Lim cfg).call 137 [.agg (curR on a n)] [] = some (.bool (okC on a n), false, []) := by
  have c1 := call_87 on hon
  by_cases h1 : setS on = true
  · rw [h1] at c1
    by_cases h2 : a ≥ -1
    · by_cases h3 : a < 4096
      · by_cases h4 : n ≥ 1
        · by_cases h5 : n ≤ 500
          · rw [show okC on a n = true by simp only [okC, h1, h2, h3, h4, h5]; rfl]
            refine call_eq fn_137 rfl ?_
            rw [k_start]
            simp only [Try.f137, List.length_cons, List.length_nil, Nat.zero_add, Nat.reduceSub, Nat.reduceAdd, List.replicate, List.cons_append, List.nil_append]
            simp only [go_sem, Nat.reduceAdd, Nat.reduceSub, Nat.reduceMul, Nat.reduceLT, Nat.reduceLeDiff, Nat.reduceEqDiff, Nat.reduceBEq, Nat.reduceBNe, reduceCtorEq, Int.reduceBNe, Int.reduceBEq, blt0, c1, curR, h2, h3, h4, h5]
            exact ret1n (v := .bool true) (fun _ => ex_ret) rfl rfl rfl ⟨rfl, rfl, rfl⟩
          · rw [show okC on a n = false by simp only [okC, h1, h2, h3, h4, h5]; rfl]
            refine call_eq fn_137 rfl ?_
            rw [k_start]
            simp only [Try.f137, List.length_cons, List.length_nil, Nat.zero_add, Nat.reduceSub, Nat.reduceAdd, List.replicate, List.cons_append, List.nil_append]
            simp only [go_sem, Nat.reduceAdd, Nat.reduceSub, Nat.reduceMul, Nat.reduceLT, Nat.reduceLeDiff, Nat.reduceEqDiff, Nat.reduceBEq, Nat.reduceBNe, reduceCtorEq, Int.reduceBNe, Int.reduceBEq, blt0, c1, curR, h2, h3, h4, h5]
            exact ret1n (v := .bool false) (fun _ => ex_ret) rfl rfl rfl ⟨rfl, rfl, rfl⟩
        · rw [show okC on a n = false by simp only [okC, h1, h2, h3, h4]; rfl]
          refine call_eq fn_137 rfl ?_
          rw [k_start]
          simp only [Try.f137, List.length_cons, List.length_nil, Nat.zero_add, Nat.reduceSub, Nat.reduceAdd, List.replicate, List.cons_append, List.nil_append]
          simp only [go_sem, Nat.reduceAdd, Nat.reduceSub, Nat.reduceMul, Nat.reduceLT, Nat.reduceLeDiff, Nat.reduceEqDiff, Nat.reduceBEq, Nat.reduceBNe, reduceCtorEq, Int.reduceBNe, Int.reduceBEq, blt0, c1, curR, h2, h3, h4]
          exact ret1n (v := .bool false) (fun _ => ex_ret) rfl rfl rfl ⟨rfl, rfl, rfl⟩
      · rw [show okC on a n = false by simp only [okC, h1, h2, h3]; rfl]
        refine call_eq fn_137 rfl ?_
        rw [k_start]
        simp only [Try.f137, List.length_cons, List.length_nil, Nat.zero_add, Nat.reduceSub, Nat.reduceAdd, List.replicate, List.cons_append, List.nil_append]
        simp only [go_sem, Nat.reduceAdd, Nat.reduceSub, Nat.reduceMul, Nat.reduceLT, Nat.reduceLeDiff, Nat.reduceEqDiff, Nat.reduceBEq, Nat.reduceBNe, reduceCtorEq, Int.reduceBNe, Int.reduceBEq, blt0, c1, curR, h2, h3]
        exact ret1n (v := .bool false) (fun _ => ex_ret) rfl rfl rfl ⟨rfl, rfl, rfl⟩
    · rw [show okC on a n = false by simp only [okC, h1, h2]; rfl]
      refine call_eq fn_137 rfl ?_
      rw [k_start]
      simp only [Try.f137, List.length_cons, List.length_nil, Nat.zero_add, Nat.reduceSub, Nat.reduceAdd, List.replicate, List.cons_append, List.nil_append]
      simp only [go_sem, Nat.reduceAdd, Nat.reduceSub, Nat.reduceMul, Nat.reduceLT, Nat.reduceLeDiff, Nat.reduceEqDiff, Nat.reduceBEq, Nat.reduceBNe, reduceCtorEq, Int.reduceBNe, Int.reduceBEq, blt0, c1, curR, h2]
      exact ret1n (v := .bool false) (fun _ => ex_ret) rfl rfl rfl ⟨rfl, rfl, rfl⟩
  · rw [Bool.not_eq_true] at h1
    rw [h1] at c1
    rw [show okC on a n = false by simp only [okC, h1]; rfl]
    refine call_eq fn_137 rfl ?_
    rw [k_start]
    simp only [Try.f137, List.length_cons, List.length_nil, Nat.zero_add, Nat.reduceSub, Nat.reduceAdd, List.replicate, List.cons_append, List.nil_append]
    simp only [go_sem, Nat.reduceAdd, Nat.reduceSub, Nat.reduceMul, Nat.reduceLT, Nat.reduceLeDiff, Nat.reduceEqDiff, Nat.reduceBEq, Nat.reduceBNe, reduceCtorEq, Int.reduceBNe, Int.reduceBEq, blt0, c1, curR]
    exact ret1n (v := .bool false) (fun _ => ex_ret) rfl rfl rfl ⟨rfl, rfl, rfl⟩

theorem call_136 (on : List SR) (a n : Int) (hon : on.length ≤ 100000) : (Lim cfg).call 136 [.agg (curR on a n)] [] = some (.agg (curR on a n), false, []) := by
  have c1 : (Lim cfg).call 182 [.sl true (on.map srow)] [] = some (.sl ((on.map srow).isEmpty || true) (on.map srow), true, []) :=
    call_cln fn_182 cln_182 (by rw [ty_91]; rfl) ty_212 (by simp) (by unfold strMax; rw [List.length_map]; simp only; omega) (fit_srow on) (.inr (head_srow on))
  rw [Bool.or_true] at c1
  refine call_eq fn_136 rfl ?_
  rw [k_start]
  simp only [Try.f136, List.length_cons, List.length_nil, Nat.zero_add, Nat.reduceSub, Nat.reduceAdd, List.replicate, List.cons_append, List.nil_append]
  simp only [go_sem, Nat.reduceAdd, Nat.reduceSub, Nat.reduceMul, Nat.reduceLT, Nat.reduceLeDiff, Nat.reduceEqDiff, Nat.reduceBEq, Nat.reduceBNe, reduceCtorEq, Int.reduceBNe, Int.reduceBEq, blt0, c1, curR]
  exact retc1 (fun _ => ex_ret) rfl rfl ⟨rfl, rfl, rfl⟩
theorem call_58 (on : List SR) (a n : Int) (hon : on.length ≤ 100000) : (Lim cfg).call 58 [.agg (curR on a n)] [] = some (.agg (curR on a n), false, []) := by
  have c1 := call_63 on hon
  refine call_eq fn_58 rfl ?_
  rw [k_start]
  simp only [Try.f58, List.length_cons, List.length_nil, Nat.zero_add, Nat.reduceSub, Nat.reduceAdd, List.replicate, List.cons_append, List.nil_append]
  simp only [go_sem, Nat.reduceAdd, Nat.reduceSub, Nat.reduceMul, Nat.reduceLT, Nat.reduceLeDiff, Nat.reduceEqDiff, Nat.reduceBEq, Nat.reduceBNe, reduceCtorEq, Int.reduceBNe, Int.reduceBEq, blt0, c1, curR]
  exact retc1 (fun _ => ex_ret) rfl rfl ⟨rfl, rfl, rfl⟩
end Go.Proofs.Ytbpkaajokffpjaa
