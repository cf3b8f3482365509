/- Readers of bytes: what a number's bytes say. -/
import Derived.Test.YtbpkaajokffpjaaD28
set_option linter.all false
set_option maxRecDepth 100000
namespace Go.Proofs.Ytbpkaajokffpjaa
open Go Go.Abs

/-- What stands at place i on: the error, the value, what is left. -/
def numG : Nat → List UInt8 → Int × Nat × List UInt8
  | _, [] => (5, 0, [])
  | i, b :: r => if i = 9 ∨ (0 < i ∧ b = 0) then (3, 0, []) else if b.toNat < 128 then (0, b.toNat, r) else ((numG (i + 1) r).1, b.toNat - 128 + 128 * (numG (i + 1) r).2.1, (numG (i + 1) r).2.2)
def numR (s : List UInt8) (e : Int) : Int × List UInt8 × Int := if e = 0 then (if (numG 0 s).1 = 0 then ((numG 0 s).2.1, (numG 0 s).2.2, 0) else (0, [], (numG 0 s).1)) else (0, s, e)
def rdB (s : List UInt8) (e : Int) : Blk := .cells 254 [] [.str s, .int .i64 e]
theorem call_92 (s : List UInt8) (e : Int) : (Lim cfg).call 92 [.ptr 0 0] [rdB s e] = some (.int .i64 e, false, [rdB s e]) := by
  refine call_eq fn_92 rfl ?_
  rw [k_start]
  simp only [Try.f92, rdB, List.length_cons, List.length_nil, Nat.zero_add, Nat.reduceSub, Nat.reduceAdd, List.replicate, List.cons_append, List.nil_append]
  simp only [go_sem, Nat.reduceAdd, Nat.reduceSub, Nat.reduceMul, Nat.reduceLT, Nat.reduceLeDiff, Nat.reduceEqDiff, Nat.reduceBEq, Nat.reduceBNe, reduceCtorEq, Int.reduceBNe, Int.reduceBEq, ty_162, ty_254, ty_9, ty_25]
  refine ⟨fun _ => ex_ret, .int .i64 e, false, rfl, rfl, rfl, ?_⟩
  kernel_rfl
theorem call_162 (s : List UInt8) (e c : Int) : (Lim cfg).call 162 [.ptr 0 0, .int .i64 c] [rdB s e] = some (.tup [], false, [if e = 0 then rdB [] c else rdB s e]) := by
  by_cases h : e = 0
  · have h' : (e == 0) = true := by simp [h]
    rw [if_pos h]
    refine call_eq fn_162 rfl ?_
    rw [k_start]
    simp only [Try.f162, rdB, List.length_cons, List.length_nil, Nat.zero_add, Nat.reduceSub, Nat.reduceAdd, List.replicate, List.cons_append, List.nil_append]
    simp only [go_sem, Nat.reduceAdd, Nat.reduceSub, Nat.reduceMul, Nat.reduceLT, Nat.reduceLeDiff, Nat.reduceEqDiff, Nat.reduceBEq, Nat.reduceBNe, reduceCtorEq, Int.reduceBNe, Int.reduceBEq, ty_162, ty_254, ty_9, ty_25, h']
    exact ret0 (hp' := [rdB [] c]) (fun _ => ex_normal) (by kernel_rfl) ⟨rfl, rfl, rfl⟩
  · have h' : (e == 0) = false := by simp [h]
    rw [if_neg h]
    refine call_eq fn_162 rfl ?_
    rw [k_start]
    simp only [Try.f162, rdB, List.length_cons, List.length_nil, Nat.zero_add, Nat.reduceSub, Nat.reduceAdd, List.replicate, List.cons_append, List.nil_append]
    simp only [go_sem, Nat.reduceAdd, Nat.reduceSub, Nat.reduceMul, Nat.reduceLT, Nat.reduceLeDiff, Nat.reduceEqDiff, Nat.reduceBEq, Nat.reduceBNe, reduceCtorEq, Int.reduceBNe, Int.reduceBEq, ty_162, ty_254, ty_9, ty_25, h']
    exact ret0 (hp' := [rdB s e]) (fun _ => ex_normal) (by kernel_rfl) ⟨rfl, rfl, rfl⟩
theorem call_90 (s : List UInt8) : (Lim cfg).call 90 [.str s] [] = some (.ptr 0 0, false, [rdB s 0]) := by
  refine call_eq fn_90 rfl ?_
  rw [k_start]
  simp only [Try.f90, List.length_cons, List.length_nil, Nat.zero_add, Nat.reduceSub, Nat.reduceAdd, List.replicate, List.cons_append, List.nil_append]
  simp only [go_sem, Nat.reduceAdd, Nat.reduceSub, Nat.reduceMul, Nat.reduceLT, Nat.reduceLeDiff, Nat.reduceEqDiff, Nat.reduceBEq, Nat.reduceBNe, reduceCtorEq, Int.reduceBNe, Int.reduceBEq, ty_9, ty_25, ty_254]
  refine ⟨fun _ => ex_ret, .ptr 0 0, false, rfl, rfl, rfl, ?_⟩
  kernel_rfl
end Go.Proofs.Ytbpkaajokffpjaa
