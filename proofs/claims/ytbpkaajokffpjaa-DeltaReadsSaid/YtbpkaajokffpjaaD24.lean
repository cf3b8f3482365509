/- A strings.Builder, written and read. -/
import Derived.Test.YtbpkaajokffpjaaD23
set_option linter.all false
set_option maxRecDepth 100000
namespace Go.Proofs.Ytbpkaajokffpjaa
open Go Go.Abs

theorem blt_zero (n : Nat) : Nat.blt n 0 = false := rfl
def bldB (w : Bool) (s : List UInt8) : Blk := .cells 177 [1] [if w then .ptr 0 0 else .nilp, .sl true (s.map byteRow)]
theorem call_164 (w : Bool) (s : List UInt8) : (Lim cfg).call 164 [.ptr 0 0] [bldB w s] = some (.tup [], false, [bldB true s]) := by
  cases w with
  | false =>
    refine call_eq fn_164 rfl ?_
    rw [k_start]
    simp only [Try.f164, bldB, List.length_cons, List.length_nil, Nat.zero_add, Nat.reduceSub, Nat.reduceAdd, List.replicate, List.cons_append, List.nil_append, Bool.false_eq_true, if_false]
    simp only [go_sem, Nat.reduceAdd, Nat.reduceSub, Nat.reduceMul, Nat.reduceLT, Nat.reduceLeDiff, Nat.reduceEqDiff, Nat.reduceBEq, Nat.reduceBNe, reduceCtorEq, Int.reduceBNe, Int.reduceBEq, ty_174, ty_177, ty_175, ty_286, convPV]
    exact ret0 (hp' := [bldB true s]) (fun _ => ex_normal) (by kernel_rfl) ⟨rfl, rfl, rfl⟩
  | true =>
    refine call_eq fn_164 rfl ?_
    rw [k_start]
    simp only [Try.f164, bldB, List.length_cons, List.length_nil, Nat.zero_add, Nat.reduceSub, Nat.reduceAdd, List.replicate, List.cons_append, List.nil_append, if_true]
    simp only [go_sem, Nat.reduceAdd, Nat.reduceSub, Nat.reduceMul, Nat.reduceLT, Nat.reduceLeDiff, Nat.reduceEqDiff, Nat.reduceBEq, Nat.reduceBNe, reduceCtorEq, Int.reduceBNe, Int.reduceBEq, ty_174, ty_177, ty_175, ty_286, convPV]
    exact ret0 (hp' := [bldB true s]) (fun _ => ex_normal) (by kernel_rfl) ⟨rfl, rfl, rfl⟩

set_option maxHeartbeats 4000000 in
theorem call_99 (w : Bool) (s t : List UInt8) (hl : s.length + t.length ≤ 1000000000) : (Lim cfg).call 99 [.ptr 0 0, .str t] [bldB w s] = some (.tup [.int .i64 t.length, .any], false, [bldB true (s ++ t)]) := by
  have hb : (s.length + t.length) * 1 ≤ strMax := by unfold strMax; omega
  have er : s.map byteRow ++ t.map byteRow = (s ++ t).map byteRow := by rw [List.map_append]
  cases w
  · refine call_eq fn_99 rfl ?_
    rw [k_start]
    simp only [Try.f99, List.length_cons, List.length_nil, Nat.zero_add, Nat.reduceSub, Nat.reduceAdd, List.replicate, List.cons_append, List.nil_append]
    simp only [go_sem, Nat.reduceAdd, Nat.reduceSub, Nat.reduceMul, Nat.reduceLT, Nat.reduceLeDiff, Nat.reduceEqDiff, Nat.reduceBEq, Nat.reduceBNe, reduceCtorEq, Int.reduceBNe, Int.reduceBEq, ty_174, ty_177, ty_175, ty_9, ty_3, blt_zero]
    rw [callHeap_eq (R := [0]) (v' := .tup []) (own' := false) (hp3 := [bldB true s]) (by kernel_rfl) (by kernel_rfl) (by kernel_rfl) (by kernel_rfl) (call_164 false s) (by kernel_rfl) rfl rfl]
    simp only [bldB, if_true]
    simp only [go_sem, Nat.reduceAdd, Nat.reduceSub, Nat.reduceMul, Nat.reduceLT, Nat.reduceLeDiff, Nat.reduceEqDiff, Nat.reduceBEq, Nat.reduceBNe, reduceCtorEq, Int.reduceBNe, Int.reduceBEq, ty_174, ty_177, ty_175, ty_9, ty_5, ty_3, hb, er, fit_byte, Bool.not_or_self]
    refine ⟨fun _ => ex_ret, .tup [.int .i64 t.length, .any], false, rfl, rfl, rfl, ?_⟩
    kernel_rfl
  · refine call_eq fn_99 rfl ?_
    rw [k_start]
    simp only [Try.f99, List.length_cons, List.length_nil, Nat.zero_add, Nat.reduceSub, Nat.reduceAdd, List.replicate, List.cons_append, List.nil_append]
    simp only [go_sem, Nat.reduceAdd, Nat.reduceSub, Nat.reduceMul, Nat.reduceLT, Nat.reduceLeDiff, Nat.reduceEqDiff, Nat.reduceBEq, Nat.reduceBNe, reduceCtorEq, Int.reduceBNe, Int.reduceBEq, ty_174, ty_177, ty_175, ty_9, ty_3, blt_zero]
    rw [callHeap_eq (R := [0]) (v' := .tup []) (own' := false) (hp3 := [bldB true s]) (by kernel_rfl) (by kernel_rfl) (by kernel_rfl) (by kernel_rfl) (call_164 true s) (by kernel_rfl) rfl rfl]
    simp only [bldB, if_true]
    simp only [go_sem, Nat.reduceAdd, Nat.reduceSub, Nat.reduceMul, Nat.reduceLT, Nat.reduceLeDiff, Nat.reduceEqDiff, Nat.reduceBEq, Nat.reduceBNe, reduceCtorEq, Int.reduceBNe, Int.reduceBEq, ty_174, ty_177, ty_175, ty_9, ty_5, ty_3, hb, er, fit_byte, Bool.not_or_self]
    refine ⟨fun _ => ex_ret, .tup [.int .i64 t.length, .any], false, rfl, rfl, rfl, ?_⟩
    kernel_rfl
end Go.Proofs.Ytbpkaajokffpjaa
