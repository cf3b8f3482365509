/- The law DeltaChains: two, one behind the other, are made as one. -/
import Derived.Test.YtpjolollnhfciaaD20
set_option linter.all false
set_option maxRecDepth 100000
namespace Go.Proofs.Ytpjolollnhfciaa
open Go Go.Abs

theorem call13_ok {A B : List PR} (hA : A.length ≤ 10000) (hB : B.length ≤ 10000) (h1 : chk A = true) (h2 : chk B = true) : (Lim cfg).call 13 [.sl true (A.map prow), .sl true (B.map prow)] [] = some (.tup [.sl true ((merge A B []).map trow), .int .i64 0], false, []) := by
  rw [call_13 A B hA hB, between, h1, h2]; rfl
theorem call13_err {A B : List PR} (hA : A.length ≤ 10000) (hB : B.length ≤ 10000) (h : (chk A && chk B) = false) : (Lim cfg).call 13 [.sl true (A.map prow), .sl true (B.map prow)] [] = some (.tup [.sl true [], .int .i64 1], false, []) := by
  rw [call_13 A B hA hB, between, h]; rfl
theorem call18_ok {A B C : List PR} (hA : A.length ≤ 100) (hB : B.length ≤ 100) (hC : C.length ≤ 100) (h1 : chk A = true) (h2 : chk B = true) (h3 : chk C = true) :
    (Lim cfg).call 18 [.sl true ((merge A B []).map trow), .sl true ((merge B C []).map trow)] [] = some (.tup [.sl true ((merge A C []).map trow), .int .i64 0], false, []) := by
  have l1 := merge_len A B []
  have l2 := merge_len B C []
  simp only [List.length_nil] at l1 l2
  rw [call_18 _ _ (by omega) (by omega), then_between h1 h2 h3]

set_option maxHeartbeats 8000000 in
theorem law_DeltaChains (A B C : List PR) : (Lim cfg).call 4 [.sl true (A.map prow), .sl true (B.map prow), .sl true (C.map prow)] [] = some (.bool true, false, []) := by
  by_cases a : (A.length : Int) > 60
  · skip
    refine call_eq fn_4 rfl ?_
    rw [k_start]
    simp only [Try.f4, List.length_cons, List.length_nil, Nat.zero_add, Nat.reduceSub, Nat.reduceAdd, List.replicate, List.cons_append, List.nil_append]
    simp only [go_sem, Nat.reduceAdd, Nat.reduceSub, Nat.reduceMul, Nat.reduceLT, Nat.reduceLeDiff, Nat.reduceEqDiff, Nat.reduceBEq, Nat.reduceBNe, reduceCtorEq, Nat.reduceLT, ty_22, ty_25, ty_3, ty_4, a, ext_12, call_12]
    exact ret1n (fun _ => ex_ret) rfl rfl rfl ⟨rfl, rfl, rfl⟩
  by_cases b : (B.length : Int) > 60
  · skip
    refine call_eq fn_4 rfl ?_
    rw [k_start]
    simp only [Try.f4, List.length_cons, List.length_nil, Nat.zero_add, Nat.reduceSub, Nat.reduceAdd, List.replicate, List.cons_append, List.nil_append]
    simp only [go_sem, Nat.reduceAdd, Nat.reduceSub, Nat.reduceMul, Nat.reduceLT, Nat.reduceLeDiff, Nat.reduceEqDiff, Nat.reduceBEq, Nat.reduceBNe, reduceCtorEq, Nat.reduceLT, ty_22, ty_25, ty_3, ty_4, a, b, ext_12, call_12]
    exact ret1n (fun _ => ex_ret) rfl rfl rfl ⟨rfl, rfl, rfl⟩
  by_cases c : (C.length : Int) > 60
  · skip
    refine call_eq fn_4 rfl ?_
    rw [k_start]
    simp only [Try.f4, List.length_cons, List.length_nil, Nat.zero_add, Nat.reduceSub, Nat.reduceAdd, List.replicate, List.cons_append, List.nil_append]
    simp only [go_sem, Nat.reduceAdd, Nat.reduceSub, Nat.reduceMul, Nat.reduceLT, Nat.reduceLeDiff, Nat.reduceEqDiff, Nat.reduceBEq, Nat.reduceBNe, reduceCtorEq, Nat.reduceLT, ty_22, ty_25, ty_3, ty_4, a, b, c, ext_12, call_12]
    exact ret1n (fun _ => ex_ret) rfl rfl rfl ⟨rfl, rfl, rfl⟩
  have hA : A.length ≤ 60 := by omega
  have hB : B.length ≤ 60 := by omega
  have hC : C.length ≤ 60 := by omega
  by_cases h : chk A = true ∧ chk B = true ∧ chk C = true
  · obtain ⟨h1, h2, h3⟩ := h
    have ab := call13_ok (A := A) (B := B) (by omega) (by omega) h1 h2
    have bc := call13_ok (A := B) (B := C) (by omega) (by omega) h2 h3
    have ca := call13_ok (A := C) (B := A) (by omega) (by omega) h3 h1
    have ac := call13_ok (A := A) (B := C) (by omega) (by omega) h1 h3
    have t := call18_ok (A := A) (B := B) (C := C) (by omega) (by omega) (by omega) h1 h2 h3
    have x := call18_ok (A := A) (B := C) (C := A) (by omega) (by omega) (by omega) h1 h3 h1
    have y := call18_ok (A := B) (B := C) (C := A) (by omega) (by omega) (by omega) h2 h3 h1
    have z := call18_ok (A := A) (B := B) (C := A) (by omega) (by omega) (by omega) h1 h2 h1
    rw [between_self h1, List.map_nil] at x z
    have lac := merge_len A C []
    simp only [List.length_nil] at lac
    have c17 := call_17 (merge A C []) (by omega)
    have c16 := call_16 (merge A C []) (merge A C []) (by omega) (by omega)
    rw [decide_eq_true rfl] at c16
    have hz : ((0 : Nat) : Int) = 0 := rfl
    refine call_eq fn_4 rfl ?_
    rw [k_start]
    simp only [Try.f4, List.length_cons, List.length_nil, Nat.zero_add, Nat.reduceSub, Nat.reduceAdd, List.replicate, List.cons_append, List.nil_append]
    simp only [go_sem, Nat.reduceAdd, Nat.reduceSub, Nat.reduceMul, Nat.reduceLT, Nat.reduceLeDiff, Nat.reduceEqDiff, Nat.reduceBEq, Nat.reduceBNe, reduceCtorEq, Nat.reduceLT, ty_22, ty_25, ty_26, ty_29, ty_3, ty_4, a, b, c, ext_12, ext_13, ext_16, ext_17, ext_18, call_12, ab, bc, ca, ac, t, x, y, z, c17, c16, hz]
    exact ret1n (fun _ => ex_ret) rfl rfl rfl ⟨rfl, rfl, rfl⟩
  · have hx : (chk A && chk B) = false ∨ ((chk A && chk B) = true ∧ (chk B && chk C) = false) := by
      cases h1 : chk A <;> cases h2 : chk B <;> cases h3 : chk C <;> simp_all
    have ca : ∃ X e, (Lim cfg).call 13 [.sl true (C.map prow), .sl true (A.map prow)] [] = some (.tup [.sl true X, .int .i64 e], false, []) := by
      rw [call_13 C A (by omega) (by omega)]
      split <;> exact ⟨_, _, rfl⟩
    obtain ⟨X, e, ca⟩ := ca
    have bc : ∃ X e, (Lim cfg).call 13 [.sl true (B.map prow), .sl true (C.map prow)] [] = some (.tup [.sl true X, .int .i64 e], false, []) := by
      rw [call_13 B C (by omega) (by omega)]
      split <;> exact ⟨_, _, rfl⟩
    rcases hx with h1 | ⟨h1, h2⟩
    · obtain ⟨Y, f, bc⟩ := bc
      have ab := call13_err (A := A) (B := B) (by omega) (by omega) h1
      refine call_eq fn_4 rfl ?_
      rw [k_start]
      simp only [Try.f4, List.length_cons, List.length_nil, Nat.zero_add, Nat.reduceSub, Nat.reduceAdd, List.replicate, List.cons_append, List.nil_append]
      simp only [go_sem, Nat.reduceAdd, Nat.reduceSub, Nat.reduceMul, Nat.reduceLT, Nat.reduceLeDiff, Nat.reduceEqDiff, Nat.reduceBEq, Nat.reduceBNe, reduceCtorEq, Nat.reduceLT, ty_22, ty_25, ty_26, ty_29, ty_3, ty_4, a, b, c, ext_12, ext_13, call_12, ab, bc, ca, Int.reduceBNe]
      exact ret1n (fun _ => ex_ret) rfl rfl rfl ⟨rfl, rfl, rfl⟩
    · have bc := call13_err (A := B) (B := C) (by omega) (by omega) h2
      simp only [Bool.and_eq_true] at h1
      have ab := call13_ok (A := A) (B := B) (by omega) (by omega) h1.1 h1.2
      refine call_eq fn_4 rfl ?_
      rw [k_start]
      simp only [Try.f4, List.length_cons, List.length_nil, Nat.zero_add, Nat.reduceSub, Nat.reduceAdd, List.replicate, List.cons_append, List.nil_append]
      simp only [go_sem, Nat.reduceAdd, Nat.reduceSub, Nat.reduceMul, Nat.reduceLT, Nat.reduceLeDiff, Nat.reduceEqDiff, Nat.reduceBEq, Nat.reduceBNe, reduceCtorEq, Nat.reduceLT, ty_22, ty_25, ty_26, ty_29, ty_3, ty_4, a, b, c, ext_12, ext_13, call_12, ab, bc, ca, Int.reduceBNe]
      exact ret1n (fun _ => ex_ret) rfl rfl rfl ⟨rfl, rfl, rfl⟩
end Go.Proofs.Ytpjolollnhfciaa
