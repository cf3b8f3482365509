/- The law: the two answers agree. -/
import Derived.Test.YtpjolollnhfciaaD8
set_option linter.all false
set_option maxRecDepth 100000
namespace Go.Proofs.Ytpjolollnhfciaa
open Go Go.Abs

theorem merge_len : ∀ (A B : List PR) (O : List TR), (merge A B O).length ≤ A.length + B.length + O.length
  | [], [], O => by simp [merge]
  | p :: A, [], O => by
    have := merge_len A [] (emit p.1 (some p) none O); have := emit_len p.1 (some p) none O
    simp only [merge, List.length_cons] at *; omega
  | [], q :: B, O => by
    have := merge_len [] B (emit q.1 none (some q) O); have := emit_len q.1 none (some q) O
    simp only [merge, List.length_cons] at *; omega
  | p :: A, q :: B, O => by
    have h1 := merge_len A (q :: B) (emit p.1 (some p) none O); have := emit_len p.1 (some p) none O
    have h2 := merge_len (p :: A) B (emit q.1 none (some q) O); have := emit_len q.1 none (some q) O
    have h3 := merge_len A B (emit p.1 (some p) (some q) O); have := emit_len p.1 (some p) (some q) O
    rw [merge]
    simp only [List.length_cons] at *
    split
    · omega
    · split <;> omega
termination_by A B => A.length + B.length

theorem call_12 : (Lim cfg).call 12 [] [] = some (.bool true, false, []) := lim_of_run (k := 300) (by kernel_rfl)

theorem call_11 (A B : List PR) (L M : List TR) : (Lim cfg).call 11 [.sl true (A.map prow), .sl true (B.map prow), .sl true (L.map trow), .sl true (M.map trow)] [] =
    some (.bool (decide (A.length ≤ 100 ∧ B.length ≤ 100 ∧ L.length ≤ 100 ∧ M.length ≤ 100)), false, []) := by
  by_cases a : A.length ≤ 100
  · have a' : (A.length : Int) ≤ 100 := by omega
    by_cases b : B.length ≤ 100
    · have b' : (B.length : Int) ≤ 100 := by omega
      by_cases c : L.length ≤ 100
      · have c' : (L.length : Int) ≤ 100 := by omega
        by_cases d : M.length ≤ 100
        · have d' : (M.length : Int) ≤ 100 := by omega
          rw [decide_eq_true ⟨a, b, c, d⟩]
          refine call_eq fn_11 rfl ?_
          rw [k_start]
          simp only [Try.f11, List.length_cons, List.length_nil, Nat.zero_add, Nat.reduceSub, Nat.reduceAdd, List.replicate, List.cons_append, List.nil_append]
          simp only [go_sem, Nat.reduceAdd, Nat.reduceSub, Nat.reduceMul, Nat.reduceLT, Nat.reduceLeDiff, Nat.reduceEqDiff, Nat.reduceBEq, Nat.reduceBNe, reduceCtorEq, Nat.reduceLT, ty_22, ty_25, ty_3, ty_4, a', b', c', d']
          exact ret1n (fun _ => ex_ret) rfl rfl rfl ⟨rfl, rfl, rfl⟩
        · have d' : ¬ (M.length : Int) ≤ 100 := by omega
          rw [decide_eq_false fun h => d h.2.2.2]
          refine call_eq fn_11 rfl ?_
          rw [k_start]
          simp only [Try.f11, List.length_cons, List.length_nil, Nat.zero_add, Nat.reduceSub, Nat.reduceAdd, List.replicate, List.cons_append, List.nil_append]
          simp only [go_sem, Nat.reduceAdd, Nat.reduceSub, Nat.reduceMul, Nat.reduceLT, Nat.reduceLeDiff, Nat.reduceEqDiff, Nat.reduceBEq, Nat.reduceBNe, reduceCtorEq, Nat.reduceLT, ty_22, ty_25, ty_3, ty_4, a', b', c', d']
          exact ret1n (fun _ => ex_ret) rfl rfl rfl ⟨rfl, rfl, rfl⟩
      · have c' : ¬ (L.length : Int) ≤ 100 := by omega
        rw [decide_eq_false fun h => c h.2.2.1]
        refine call_eq fn_11 rfl ?_
        rw [k_start]
        simp only [Try.f11, List.length_cons, List.length_nil, Nat.zero_add, Nat.reduceSub, Nat.reduceAdd, List.replicate, List.cons_append, List.nil_append]
        simp only [go_sem, Nat.reduceAdd, Nat.reduceSub, Nat.reduceMul, Nat.reduceLT, Nat.reduceLeDiff, Nat.reduceEqDiff, Nat.reduceBEq, Nat.reduceBNe, reduceCtorEq, Nat.reduceLT, ty_22, ty_25, ty_3, ty_4, a', b', c']
        exact ret1n (fun _ => ex_ret) rfl rfl rfl ⟨rfl, rfl, rfl⟩
    · have b' : ¬ (B.length : Int) ≤ 100 := by omega
      rw [decide_eq_false fun h => b h.2.1]
      refine call_eq fn_11 rfl ?_
      rw [k_start]
      simp only [Try.f11, List.length_cons, List.length_nil, Nat.zero_add, Nat.reduceSub, Nat.reduceAdd, List.replicate, List.cons_append, List.nil_append]
      simp only [go_sem, Nat.reduceAdd, Nat.reduceSub, Nat.reduceMul, Nat.reduceLT, Nat.reduceLeDiff, Nat.reduceEqDiff, Nat.reduceBEq, Nat.reduceBNe, reduceCtorEq, Nat.reduceLT, ty_22, ty_25, ty_3, ty_4, a', b']
      exact ret1n (fun _ => ex_ret) rfl rfl rfl ⟨rfl, rfl, rfl⟩
  · have a' : ¬ (A.length : Int) ≤ 100 := by omega
    rw [decide_eq_false fun h => a h.1]
    refine call_eq fn_11 rfl ?_
    rw [k_start]
    simp only [Try.f11, List.length_cons, List.length_nil, Nat.zero_add, Nat.reduceSub, Nat.reduceAdd, List.replicate, List.cons_append, List.nil_append]
    simp only [go_sem, Nat.reduceAdd, Nat.reduceSub, Nat.reduceMul, Nat.reduceLT, Nat.reduceLeDiff, Nat.reduceEqDiff, Nat.reduceBEq, Nat.reduceBNe, reduceCtorEq, Nat.reduceLT, ty_22, ty_25, ty_3, ty_4, a']
    exact ret1n (fun _ => ex_ret) rfl rfl rfl ⟨rfl, rfl, rfl⟩

set_option maxHeartbeats 4000000 in
theorem law_DeltaBetween (A B : List PR) : (Lim cfg).call 3 [.sl true (A.map prow), .sl true (B.map prow)] [] = some (.bool true, false, []) := by
  have c11 := call_11 A B [] []
  simp only [List.map_nil, List.length_nil] at c11
  by_cases h : A.length ≤ 100 ∧ B.length ≤ 100
  · rw [decide_eq_true ⟨h.1, h.2, Nat.zero_le _, Nat.zero_le _⟩] at c11
    have c13 := call_13 A B (by omega) (by omega)
    have c14 := call_14 A B (by omega) (by omega)
    have c15 := call_15 A (by omega)
    have c15' := call_15 B (by omega)
    have hl := merge_len A B []
    have c17 := call_17 (merge A B []) (by simp only [List.length_nil] at hl; omega)
    have c16 := call_16 (merge A B []) (merge A B []) (by simp only [List.length_nil] at hl; omega) (by simp only [List.length_nil] at hl; omega)
    rw [decide_eq_true rfl] at c16
    have e17 := call_17 [] (by simp)
    have e16 := call_16 [] [] (by simp) (by simp)
    rw [decide_eq_true rfl] at e16
    simp only [List.map_nil] at e17 e16
    simp only [between] at c13 c14
    cases hc : chk A && chk B with
    | true =>
      simp only [hc, if_true] at c13 c14
      refine call_eq fn_3 rfl ?_
      rw [k_start]
      simp only [Try.f3, List.length_cons, List.length_nil, Nat.zero_add, Nat.reduceSub, Nat.reduceAdd, List.replicate, List.cons_append, List.nil_append]
      simp only [go_sem, Nat.reduceAdd, Nat.reduceSub, Nat.reduceMul, Nat.reduceLT, Nat.reduceLeDiff, Nat.reduceEqDiff, Nat.reduceBEq, Nat.reduceBNe, reduceCtorEq, Nat.reduceLT, ty_22, ty_25, ty_3, ty_4, ty_29, ty_32, ext_11, ext_12, ext_13, ext_14, ext_15, ext_16, ext_17, c11, call_12, c13, c14, c15, c15', c17, c16]
      exact ret1n (fun _ => ex_ret) rfl rfl rfl ⟨rfl, rfl, rfl⟩
    | false =>
      simp only [hc, if_false, Bool.false_eq_true] at c13 c14
      refine call_eq fn_3 rfl ?_
      rw [k_start]
      simp only [Try.f3, List.length_cons, List.length_nil, Nat.zero_add, Nat.reduceSub, Nat.reduceAdd, List.replicate, List.cons_append, List.nil_append]
      simp only [go_sem, Nat.reduceAdd, Nat.reduceSub, Nat.reduceMul, Nat.reduceLT, Nat.reduceLeDiff, Nat.reduceEqDiff, Nat.reduceBEq, Nat.reduceBNe, reduceCtorEq, Nat.reduceLT, ty_22, ty_25, ty_3, ty_4, ty_29, ty_32, ext_11, ext_12, ext_13, ext_14, ext_15, ext_16, ext_17, c11, call_12, c13, c14, c15, c15', e17, e16]
      exact ret1n (fun _ => ex_ret) rfl rfl rfl ⟨rfl, rfl, rfl⟩
  · rw [decide_eq_false fun h' => h ⟨h'.1, h'.2.1⟩] at c11
    refine call_eq fn_3 rfl ?_
    rw [k_start]
    simp only [Try.f3, List.length_cons, List.length_nil, Nat.zero_add, Nat.reduceSub, Nat.reduceAdd, List.replicate, List.cons_append, List.nil_append]
    simp only [go_sem, Nat.reduceAdd, Nat.reduceSub, Nat.reduceMul, Nat.reduceLT, Nat.reduceLeDiff, Nat.reduceEqDiff, Nat.reduceBEq, Nat.reduceBNe, reduceCtorEq, Nat.reduceLT, ty_22, ty_25, ty_3, ty_4, ty_29, ty_32, ext_11, ext_12, c11, call_12]
    exact ret1n (fun _ => ex_ret) rfl rfl rfl ⟨rfl, rfl, rfl⟩
end Go.Proofs.Ytpjolollnhfciaa
