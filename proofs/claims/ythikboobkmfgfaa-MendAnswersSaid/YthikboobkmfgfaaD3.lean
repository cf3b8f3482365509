/- Lists made, compared, looked up. -/
import Derived.Test.YthikboobkmfgfaaD2
set_option linter.all false
set_option maxRecDepth 100000
namespace Go.Proofs.Ythikboobkmfgfaa
open Go Go.Abs

theorem fit_prow (l : List PR) : rowsFit 2 (l.map prow) = true := by
  cases l <;> rfl
theorem head_prow (l : List PR) : headByte (l.map prow) = false := by
  cases l <;> rfl
theorem head_prow' (l : List PR) (r : List (List V)) (h : headByte r = false) : headByte (l.map prow ++ r) = false := by
  cases l <;> first | exact h | rfl
theorem take_prow {l : List PR} {i : Nat} (h : i < l.length) : (l.take i).map prow ++ [prow l[i]] = (l.take (i + 1)).map prow := by
  rw [List.take_succ_eq_append_getElem h, List.map_append]; rfl

def S15 (l : List PR) (i : Nat) : St := { fr := mkF 19 [(0, .sl true (l.map prow)), (3, .sl true ((l.take i).map prow)), (4, .int .i64 i)], own := [3], hp := [], al := [], nb := 0 }
set_option maxHeartbeats 4000000 in
theorem call_11 (l : List PR) (hlen : l.length ≤ 100000) : (Lim cfg).call 11 [.sl true (l.map prow)] [] = some (.sl true (l.map prow), false, []) := by
  refine call_eq fn_11 rfl ?_
  rw [k_start]
  simp only [Try.f11, st0, Nat.zero_add]
  simp only [go_sem, Nat.reduceAdd, Nat.reduceSub, Nat.reduceMul, Nat.reduceLT, Nat.reduceLeDiff, Nat.reduceEqDiff, Nat.reduceBEq, Nat.reduceBNe, reduceCtorEq, Int.reduceBNe, Int.reduceBEq, ty_22, ty_44, ty_66, ty_90, ty_3]
  refine k_loop (S15 l) (fun i => i ≤ l.length) (fun i => l.length - i) 0 (K := cfg.kill 11 3) rfl (Nat.zero_le _) (by kernel_rfl) ?_
  intro i hi k' Q' hnorm hexit hret
  simp only [S15, mkF, List.foldl, st0, List.set]
  simp only [go_sem, Nat.reduceAdd, Nat.reduceSub, Nat.reduceMul, Nat.reduceLT, Nat.reduceLeDiff, Nat.reduceEqDiff, Nat.reduceBEq, Nat.reduceBNe, reduceCtorEq, Int.reduceBNe, Int.reduceBEq, ty_22, ty_44, ty_66, ty_90, ty_3]
  by_cases hlt : i < l.length
  · have h1 : (i : Int) < (l.length : Int) := by omega
    have h2 : ¬ ((i : Int) < 0) := by omega
    have hx : (l.map prow)[i]? = some (prow l[i]) := by simp [hlt]
    simp only [go_sem, Nat.reduceAdd, Nat.reduceSub, Nat.reduceMul, Nat.reduceLT, Nat.reduceLeDiff, Nat.reduceEqDiff, Nat.reduceBEq, Nat.reduceBNe, reduceCtorEq, Int.reduceBNe, Int.reduceBEq, ty_22, ty_44, ty_66, ty_90, ty_3, h1, h2, hx, prow, Int.toNat_natCast, fit_prow, head_prow]
    have hb : ((l.take i).length + 1) * 16 ≤ strMax := by unfold strMax; rw [List.length_take]; omega
    have hap := take_prow hlt
    simp only [go_sem, Nat.reduceAdd, Nat.reduceSub, Nat.reduceMul, Nat.reduceLT, Nat.reduceLeDiff, Nat.reduceEqDiff, Nat.reduceBEq, Nat.reduceBNe, reduceCtorEq, Int.reduceBNe, Int.reduceBEq, hb, fit_prow, head_prow, head_prow']
    rw [show [V.int IntKind.i64 l[i].fst, V.int IntKind.i64 l[i].snd] = prow l[i] from rfl, hap]
    rw [wrap_i64 (by omega) (by omega)]
    exact hnorm (i + 1) _ (by omega) (by omega) (by kernel_rfl)
  · have h1 : ¬ (i : Int) < (l.length : Int) := by omega
    simp only [go_sem, Nat.reduceAdd, Nat.reduceSub, Nat.reduceMul, Nat.reduceLT, Nat.reduceLeDiff, Nat.reduceEqDiff, Nat.reduceBEq, Nat.reduceBNe, reduceCtorEq, Int.reduceBNe, Int.reduceBEq, h1]
    refine hexit 0 _ ?_
    simp only [go_sem, Nat.reduceAdd, Nat.reduceSub, Nat.reduceMul, Nat.reduceLT, Nat.reduceLeDiff, Nat.reduceEqDiff, Nat.reduceBEq, Nat.reduceBNe, reduceCtorEq, Int.reduceBNe, Int.reduceBEq]
    refine ret1 (fun _ => ex_ret) rfl rfl rfl ⟨?_, rfl, rfl⟩
    show V.sl true _ = _
    rw [List.take_of_length_le (by omega)]
end Go.Proofs.Ythikboobkmfgfaa
