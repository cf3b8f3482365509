/- Whole numbers as bytes: the program's answer, and the document's. -/
import Derived.Test.YtbpkaajokffpjaaD22
set_option linter.all false
set_option maxRecDepth 100000
namespace Go.Proofs.Ytbpkaajokffpjaa
open Go Go.Abs

def mayZ (z : Int) : Bool := decide (-4611686018427387904 ≤ z ∧ z ≤ 4611686018427387903)
theorem call_165 (z : Int) : (Lim cfg).call 165 [.int .i64 z] [] = some (.bool (mayZ z), false, []) := by
  by_cases h1 : z ≥ -4611686018427387904
  · by_cases h2 : z ≤ 4611686018427387903
    · rw [mayZ, decide_eq_true ⟨h1, h2⟩]
      refine call_eq fn_165 rfl ?_
      rw [k_start]
      simp only [Try.f165, List.length_cons, List.length_nil, Nat.zero_add, Nat.reduceSub, Nat.reduceAdd, List.replicate, List.cons_append, List.nil_append]
      simp only [go_sem, Nat.reduceAdd, Nat.reduceSub, Nat.reduceMul, Nat.reduceLT, Nat.reduceLeDiff, Nat.reduceEqDiff, Nat.reduceBEq, Nat.reduceBNe, reduceCtorEq, Int.reduceBNe, Int.reduceBEq, ty_3, ty_4, h1, h2]
      exact ret1n (fun _ => ex_ret) rfl rfl rfl ⟨rfl, rfl, rfl⟩
    · rw [mayZ, decide_eq_false fun h => h2 h.2]
      refine call_eq fn_165 rfl ?_
      rw [k_start]
      simp only [Try.f165, List.length_cons, List.length_nil, Nat.zero_add, Nat.reduceSub, Nat.reduceAdd, List.replicate, List.cons_append, List.nil_append]
      simp only [go_sem, Nat.reduceAdd, Nat.reduceSub, Nat.reduceMul, Nat.reduceLT, Nat.reduceLeDiff, Nat.reduceEqDiff, Nat.reduceBEq, Nat.reduceBNe, reduceCtorEq, Int.reduceBNe, Int.reduceBEq, ty_3, ty_4, h1, h2]
      exact ret1n (fun _ => ex_ret) rfl rfl rfl ⟨rfl, rfl, rfl⟩
  · rw [mayZ, decide_eq_false fun h => h1 h.1]
    refine call_eq fn_165 rfl ?_
    rw [k_start]
    simp only [Try.f165, List.length_cons, List.length_nil, Nat.zero_add, Nat.reduceSub, Nat.reduceAdd, List.replicate, List.cons_append, List.nil_append]
    simp only [go_sem, Nat.reduceAdd, Nat.reduceSub, Nat.reduceMul, Nat.reduceLT, Nat.reduceLeDiff, Nat.reduceEqDiff, Nat.reduceBEq, Nat.reduceBNe, reduceCtorEq, Int.reduceBNe, Int.reduceBEq, ty_3, ty_4, h1]
    exact ret1n (fun _ => ex_ret) rfl rfl rfl ⟨rfl, rfl, rfl⟩
theorem call_166 (z : Int) : (Lim cfg).call 166 [.int .i64 z] [] = some (.bool (mayZ z), false, []) := by
  by_cases h1 : z ≥ -4611686018427387904
  · by_cases h2 : z ≤ 4611686018427387903
    · rw [mayZ, decide_eq_true ⟨h1, h2⟩]
      refine call_eq fn_166 rfl ?_
      rw [k_start]
      simp only [Try.f166, List.length_cons, List.length_nil, Nat.zero_add, Nat.reduceSub, Nat.reduceAdd, List.replicate, List.cons_append, List.nil_append]
      simp only [go_sem, Nat.reduceAdd, Nat.reduceSub, Nat.reduceMul, Nat.reduceLT, Nat.reduceLeDiff, Nat.reduceEqDiff, Nat.reduceBEq, Nat.reduceBNe, reduceCtorEq, Int.reduceBNe, Int.reduceBEq, ty_3, ty_4, h1, h2]
      exact ret1n (fun _ => ex_ret) rfl rfl rfl ⟨rfl, rfl, rfl⟩
    · rw [mayZ, decide_eq_false fun h => h2 h.2]
      refine call_eq fn_166 rfl ?_
      rw [k_start]
      simp only [Try.f166, List.length_cons, List.length_nil, Nat.zero_add, Nat.reduceSub, Nat.reduceAdd, List.replicate, List.cons_append, List.nil_append]
      simp only [go_sem, Nat.reduceAdd, Nat.reduceSub, Nat.reduceMul, Nat.reduceLT, Nat.reduceLeDiff, Nat.reduceEqDiff, Nat.reduceBEq, Nat.reduceBNe, reduceCtorEq, Int.reduceBNe, Int.reduceBEq, ty_3, ty_4, h1, h2]
      exact ret1n (fun _ => ex_ret) rfl rfl rfl ⟨rfl, rfl, rfl⟩
  · rw [mayZ, decide_eq_false fun h => h1 h.1]
    refine call_eq fn_166 rfl ?_
    rw [k_start]
    simp only [Try.f166, List.length_cons, List.length_nil, Nat.zero_add, Nat.reduceSub, Nat.reduceAdd, List.replicate, List.cons_append, List.nil_append]
    simp only [go_sem, Nat.reduceAdd, Nat.reduceSub, Nat.reduceMul, Nat.reduceLT, Nat.reduceLeDiff, Nat.reduceEqDiff, Nat.reduceBEq, Nat.reduceBNe, reduceCtorEq, Int.reduceBNe, Int.reduceBEq, ty_3, ty_4, h1]
    exact ret1n (fun _ => ex_ret) rfl rfl rfl ⟨rfl, rfl, rfl⟩

def zig (z : Int) : Int := if z < 0 then -2 * z - 1 else 2 * z
def wholeS (z : Int) : List UInt8 := if mayZ z then numS (zig z) else []
theorem call_101 (z : Int) : (Lim cfg).call 101 [.int .i64 z] [] = some (.str (wholeS z), false, []) := by
  cases h : mayZ z with
  | false =>
    rw [wholeS, h]
    refine call_eq fn_101 rfl ?_
    rw [k_start]
    simp only [Try.f101, List.length_cons, List.length_nil, Nat.zero_add, Nat.reduceSub, Nat.reduceAdd, List.replicate, List.cons_append, List.nil_append]
    simp only [go_sem, Nat.reduceAdd, Nat.reduceSub, Nat.reduceMul, Nat.reduceLT, Nat.reduceLeDiff, Nat.reduceEqDiff, Nat.reduceBEq, Nat.reduceBNe, reduceCtorEq, Int.reduceBNe, Int.reduceBEq, ty_3, ty_4, ty_9, call_165, h]
    exact ret1n (fun _ => ex_ret) rfl rfl rfl ⟨rfl, rfl, rfl⟩
  | true =>
    rw [wholeS, h, if_pos rfl]
    simp only [mayZ, decide_eq_true_eq] at h
    have hm : mayZ z = true := decide_eq_true h
    by_cases hz : z < 0
    · have w2 : IntKind.i64.wrap (IntKind.i64.wrap (-2 * z) - 1) = -2 * z - 1 := by
        by_cases he : z = -4611686018427387904
        · subst he; decide
        · rw [wrap_i64 (n := -2 * z) (by omega) (by omega), wrap_i64 (by omega) (by omega)]
      have c := call_100 (-2 * z - 1) (by omega)
      rw [zig, if_pos hz]
      refine call_eq fn_101 rfl ?_
      rw [k_start]
      simp only [Try.f101, List.length_cons, List.length_nil, Nat.zero_add, Nat.reduceSub, Nat.reduceAdd, List.replicate, List.cons_append, List.nil_append]
      simp only [go_sem, Nat.reduceAdd, Nat.reduceSub, Nat.reduceMul, Nat.reduceLT, Nat.reduceLeDiff, Nat.reduceEqDiff, Nat.reduceBEq, Nat.reduceBNe, reduceCtorEq, Int.reduceBNe, Int.reduceBEq, ty_3, ty_4, ty_9, call_165, hm, hz, w2, c]
      exact ret1n (fun _ => ex_ret) rfl rfl rfl ⟨rfl, rfl, rfl⟩
    · have w1 : IntKind.i64.wrap (2 * z) = 2 * z := wrap_i64 (by omega) (by omega)
      have c := call_100 (2 * z) (by omega)
      rw [zig, if_neg hz]
      refine call_eq fn_101 rfl ?_
      rw [k_start]
      simp only [Try.f101, List.length_cons, List.length_nil, Nat.zero_add, Nat.reduceSub, Nat.reduceAdd, List.replicate, List.cons_append, List.nil_append]
      simp only [go_sem, Nat.reduceAdd, Nat.reduceSub, Nat.reduceMul, Nat.reduceLT, Nat.reduceLeDiff, Nat.reduceEqDiff, Nat.reduceBEq, Nat.reduceBNe, reduceCtorEq, Int.reduceBNe, Int.reduceBEq, ty_3, ty_4, ty_9, call_165, hm, hz, w1, c]
      exact ret1n (fun _ => ex_ret) rfl rfl rfl ⟨rfl, rfl, rfl⟩
theorem call_104 (z : Int) : (Lim cfg).call 104 [.int .i64 z] [] = some (.str (wholeS z), false, []) := by
  cases h : mayZ z with
  | false =>
    rw [wholeS, h]
    refine call_eq fn_104 rfl ?_
    rw [k_start]
    simp only [Try.f104, List.length_cons, List.length_nil, Nat.zero_add, Nat.reduceSub, Nat.reduceAdd, List.replicate, List.cons_append, List.nil_append]
    simp only [go_sem, Nat.reduceAdd, Nat.reduceSub, Nat.reduceMul, Nat.reduceLT, Nat.reduceLeDiff, Nat.reduceEqDiff, Nat.reduceBEq, Nat.reduceBNe, reduceCtorEq, Int.reduceBNe, Int.reduceBEq, ty_3, ty_4, ty_9, call_166, h]
    exact ret1n (fun _ => ex_ret) rfl rfl rfl ⟨rfl, rfl, rfl⟩
  | true =>
    rw [wholeS, h, if_pos rfl]
    simp only [mayZ, decide_eq_true_eq] at h
    have hm : mayZ z = true := decide_eq_true h
    by_cases hz : z < 0
    · have hz' : ¬ z ≥ 0 := by omega
      have w0 : IntKind.i64.wrap (0 - z) = -z := by rw [wrap_i64 (by omega) (by omega)]; omega
      have w2 : IntKind.i64.wrap (IntKind.i64.wrap (-z - z) - 1) = -2 * z - 1 := by
        by_cases he : z = -4611686018427387904
        · subst he; decide
        · rw [wrap_i64 (n := -z - z) (by omega) (by omega), wrap_i64 (by omega) (by omega)]; omega
      have c := call_103 (-2 * z - 1) (by omega)
      rw [zig, if_pos hz]
      refine call_eq fn_104 rfl ?_
      rw [k_start]
      simp only [Try.f104, List.length_cons, List.length_nil, Nat.zero_add, Nat.reduceSub, Nat.reduceAdd, List.replicate, List.cons_append, List.nil_append]
      simp only [go_sem, Nat.reduceAdd, Nat.reduceSub, Nat.reduceMul, Nat.reduceLT, Nat.reduceLeDiff, Nat.reduceEqDiff, Nat.reduceBEq, Nat.reduceBNe, reduceCtorEq, Int.reduceBNe, Int.reduceBEq, ty_3, ty_4, ty_9, call_166, hm, hz', w0, w2, c]
      exact ret1n (fun _ => ex_ret) rfl rfl rfl ⟨rfl, rfl, rfl⟩
    · have hz' : z ≥ 0 := by omega
      have w1 : IntKind.i64.wrap (z + z) = 2 * z := by rw [wrap_i64 (by omega) (by omega)]; omega
      have c := call_103 (2 * z) (by omega)
      rw [zig, if_neg hz]
      refine call_eq fn_104 rfl ?_
      rw [k_start]
      simp only [Try.f104, List.length_cons, List.length_nil, Nat.zero_add, Nat.reduceSub, Nat.reduceAdd, List.replicate, List.cons_append, List.nil_append]
      simp only [go_sem, Nat.reduceAdd, Nat.reduceSub, Nat.reduceMul, Nat.reduceLT, Nat.reduceLeDiff, Nat.reduceEqDiff, Nat.reduceBEq, Nat.reduceBNe, reduceCtorEq, Int.reduceBNe, Int.reduceBEq, ty_3, ty_4, ty_9, call_166, hm, hz', w1, c]
      exact ret1n (fun _ => ex_ret) rfl rfl rfl ⟨rfl, rfl, rfl⟩
end Go.Proofs.Ytbpkaajokffpjaa
