/- The program's total. -/
import Derived.Test.YtbpkaajokffpjaaE11
set_option linter.all false
set_option maxRecDepth 100000
namespace Go.Proofs.Ytbpkaajokffpjaa
open Go Go.Abs

def totalL : List PR → List V
  | [] => [.int .i64 0, .int .i64 0, .int .i64 0, .int .i64 0, .int .i64 0]
  | o :: r => grow 0 (o :: r) o.2
set_option maxHeartbeats 4000000 in
theorem call_68 (l : List PR) (on : List SR) (hlen : l.length ≤ 100000) (hon : on.length ≤ 100000) :
    (Lim cfg).call 68 [.sl true (l.map prow), .sl true (on.map srow)] [] = some (.agg (totalL (clip l on)), false, []) := by
  have c3 := call_74 l on hlen hon
  obtain ⟨_, hv, hml⟩ := clip_rise l on
  cases hO : clip l on with
  | nil =>
    rw [hO] at c3
    simp only [clipV, clipB] at c3
    generalize (!(chk l && setS on)) = own at c3
    have h6 : (((0 : Nat) : Int) == 0) = true := rfl
    cases own with
    | true =>
      refine call_eq fn_68 rfl ?_
      rw [k_start]
      simp only [Try.f68, List.length_cons, List.length_nil, Nat.zero_add, Nat.reduceSub, Nat.reduceAdd, List.replicate, List.cons_append, List.nil_append]
      simp only [go_sem, Nat.reduceAdd, Nat.reduceSub, Nat.reduceMul, Nat.reduceLT, Nat.reduceLeDiff, Nat.reduceEqDiff, Nat.reduceBEq, Nat.reduceBNe, reduceCtorEq, Int.reduceBNe, Int.reduceBEq, blt0, c3, fz_cons, freezeT, h6]
      exact retc1 (fun _ => ex_ret) rfl rfl ⟨rfl, rfl, rfl⟩
    | false =>
      refine call_eq fn_68 rfl ?_
      rw [k_start]
      simp only [Try.f68, List.length_cons, List.length_nil, Nat.zero_add, Nat.reduceSub, Nat.reduceAdd, List.replicate, List.cons_append, List.nil_append]
      simp only [go_sem, Nat.reduceAdd, Nat.reduceSub, Nat.reduceMul, Nat.reduceLT, Nat.reduceLeDiff, Nat.reduceEqDiff, Nat.reduceBEq, Nat.reduceBNe, reduceCtorEq, Int.reduceBNe, Int.reduceBEq, blt0, c3, fz_cons, freezeT, h6]
      exact retc1 (fun _ => ex_ret) rfl rfl ⟨rfl, rfl, rfl⟩
  | cons o r =>
    rw [hO] at c3 hv hml
    have c4 := call_146 0 o r (by omega) (fun p hp => ⟨(hv p hp).2.2.1, (hv p hp).2.2.2⟩)
    simp only [clipV, clipB, prow] at c3
    have f1 : (flatP (o :: r)).length = (r.length + 1) * 2 := flatP_len _
    have f6 : (flatP (o :: r)).take ((r.length + 1) * 2) = flatP (o :: r) := flatP_take (o :: r)
    have q5 : aloneIn 2 [.cells 121 [] [.int .i64 0, .int .i64 0, .int .i64 0, .int .i64 0, .int .i64 0], Blk.cells 125 [] [V.int IntKind.i64 o.fst, V.int IntKind.i64 o.snd], Blk.cells 125 [] (flatP (o :: r))] = true := rfl
    have hcons : [V.int .i64 o.1, V.int .i64 o.2] :: List.map prow r = List.map prow (o :: r) := rfl
    have hml0 : 0 < (o :: r).length := by simp
    rw [totalL]
    generalize hM : o :: r = M at c4 hcons hml0 ⊢
    have h6 : (((M.length : Nat) : Int) == 0) = false := beq_eq_false_iff_ne.2 (by omega)
    simp only [grow] at c4 ⊢
    refine call_eq fn_68 rfl ?_
    rw [k_start]
    simp only [Try.f68, List.length_cons, List.length_nil, Nat.zero_add, Nat.reduceSub, Nat.reduceAdd, List.replicate, List.cons_append, List.nil_append]
    simp only [go_sem, Nat.reduceAdd, Nat.reduceSub, Nat.reduceMul, Nat.reduceLT, Nat.reduceLeDiff, Nat.reduceEqDiff, Nat.reduceBEq, Nat.reduceBNe, reduceCtorEq, Int.reduceBNe, Int.reduceBEq, blt0, c3, c4, fz_cons, freezeT, f1, f6, flatP_rows, flatP_take2, flatP_drop2, Nat.le_refl, flatP_all, flatP_ren, flatP_lt, q5, St.lose, List.map_nil, List.map_cons (f := V.drop1 _), dl_any, dl_sl, dl_ms, dl_ptr, dl_int, dl_bool, dl_pc, hcons, h6]
    exact retc1 (fun _ => ex_ret) rfl rfl ⟨rfl, rfl, rfl⟩
end Go.Proofs.Ytbpkaajokffpjaa
