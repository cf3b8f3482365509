/- The turns between two tables: the program's answer. -/
import Derived.Test.YtknblodiilgogaaD6
set_option linter.all false
set_option maxRecDepth 100000
namespace Go.Proofs.Ytknblodiilgogaa
open Go Go.Abs

theorem call_57 (A B : List PR) : (Lim cfg).call 57 [.sl true (A.map prow), .sl true (B.map prow), .fn 58 []] [] = some (.fn 82 [.ptr 0 0, .ptr 1 0, .ptr 2 0], false, [tabB A, tabB B, keyB]) := by
  refine call_eq fn_57 rfl ?_
  rw [k_start]
  simp only [Try.f57, List.length_cons, List.length_nil, Nat.zero_add, Nat.reduceSub, Nat.reduceAdd, List.replicate, List.cons_append, List.nil_append]
  simp only [go_sem, Nat.reduceAdd, Nat.reduceSub, Nat.reduceMul, Nat.reduceLT, Nat.reduceLeDiff, Nat.reduceEqDiff, Nat.reduceBEq, Nat.reduceBNe, reduceCtorEq, Int.reduceBNe, Int.reduceBEq, ty_38, ty_117]
  refine ⟨fun _ => ex_ret, .fn 82 [.ptr 0 0, .ptr 1 0, .ptr 2 0], false, rfl, rfl, rfl, rfl⟩

def between (A B : List PR) : Option (List TR) := if chk A && chk B then some (merge A B []) else none

set_option maxHeartbeats 4000000 in
theorem call_25 (A B : List PR) (hA : A.length ≤ 10000) (hB : B.length ≤ 10000) : (Lim cfg).call 25 [.sl true (A.map prow), .sl true (B.map prow)] [] =
    some (match between A B with | some O => .tup [.sl true (O.map trow), .int .i64 0] | none => .tup [.sl true [], .int .i64 1], false, []) := by
  have c1 := call_49 A (by omega)
  have c2 := call_49 B (by omega)
  unfold between
  refine call_eq fn_25 rfl ?_
  rw [k_start]
  simp only [Try.f25, List.length_cons, List.length_nil, Nat.zero_add, Nat.reduceSub, Nat.reduceAdd, List.replicate, List.cons_append, List.nil_append]
  simp only [go_sem, Nat.reduceAdd, Nat.reduceSub, Nat.reduceMul, Nat.reduceLT, Nat.reduceLeDiff, Nat.reduceEqDiff, Nat.reduceBEq, Nat.reduceBNe, reduceCtorEq, Int.reduceBNe, Int.reduceBEq, ty_38, ty_39, ty_3, c1]
  cases h1 : chk A with
  | false =>
    simp only [go_sem, Nat.reduceAdd, Nat.reduceSub, Nat.reduceMul, Nat.reduceLT, Nat.reduceLeDiff, Nat.reduceEqDiff, Nat.reduceBEq, Nat.reduceBNe, reduceCtorEq, Int.reduceBNe, Int.reduceBEq, h1]
    refine ret2 (fun _ => ex_ret) rfl rfl rfl rfl ⟨rfl, rfl, rfl⟩
  | true =>
    simp only [go_sem, Nat.reduceAdd, Nat.reduceSub, Nat.reduceMul, Nat.reduceLT, Nat.reduceLeDiff, Nat.reduceEqDiff, Nat.reduceBEq, Nat.reduceBNe, reduceCtorEq, Int.reduceBNe, Int.reduceBEq, h1, c2]
    cases h2 : chk B with
    | false =>
      simp only [go_sem, Nat.reduceAdd, Nat.reduceSub, Nat.reduceMul, Nat.reduceLT, Nat.reduceLeDiff, Nat.reduceEqDiff, Nat.reduceBEq, Nat.reduceBNe, reduceCtorEq, Int.reduceBNe, Int.reduceBEq, h2]
      refine ret2 (fun _ => ex_ret) rfl rfl rfl rfl ⟨rfl, rfl, rfl⟩
    | true =>
      simp only [go_sem, Nat.reduceAdd, Nat.reduceSub, Nat.reduceMul, Nat.reduceLT, Nat.reduceLeDiff, Nat.reduceEqDiff, Nat.reduceBEq, Nat.reduceBNe, reduceCtorEq, Int.reduceBNe, Int.reduceBEq, h2, ty_39, call_57]
      rw [show Blk.ren (backId [] 1) (tabB A) = tabB A from rfl, show Blk.ren (backId [] 1) (tabB B) = (tabB B) from rfl, show Blk.ren (backId [] 1) keyB = keyB from rfl]
      refine k_range (hp1 := [.cells 39 [0] [.sl true []], tabB A, tabB B, keyB, loopB 0]) (args := [.yld 4, .ptr 1 0, .ptr 2 0, .ptr 3 0]) (R := [0, 1, 2, 3, 4]) (hp3 := [outB (merge A B []), tabB [], tabB [], keyB, loopB 0]) rfl (by kernel_rfl) (by kernel_rfl) (by kernel_rfl) (by kernel_rfl) (by kernel_rfl) (by kernel_rfl)
        (call_82 A B [] (by simp only [List.length_nil]; omega)) (by kernel_rfl) rfl rfl rfl ?_
      simp only [outB]
      simp only [go_sem, Nat.reduceAdd, Nat.reduceSub, Nat.reduceMul, Nat.reduceLT, Nat.reduceLeDiff, Nat.reduceEqDiff, Nat.reduceBEq, Nat.reduceBNe, reduceCtorEq, Int.reduceBNe, Int.reduceBEq, ty_39]
      refine ret2 (fun _ => ex_ret) rfl rfl rfl rfl ⟨rfl, rfl, rfl⟩
end Go.Proofs.Ytknblodiilgogaa
