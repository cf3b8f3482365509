/- The pairs whose keys are in a set: the document's answer. -/
import Derived.Test.YtbpkaajokffpjaaE3
set_option linter.all false
set_option maxRecDepth 100000
namespace Go.Proofs.Ytbpkaajokffpjaa
open Go Go.Abs

def onP (on : List SR) (p : PR) : Bool := hasS on p.1
def clip (l : List PR) (on : List SR) : List PR := if (chk l && setS on) = true then l.filter (onP on) else []
theorem filter_step {l : List PR} {on : List SR} {i : Nat} (h : i < l.length) : (l.take (i + 1)).filter (onP on) = (l.take i).filter (onP on) ++ (if hasS on l[i].1 = true then [l[i]] else []) := by
  rw [List.take_succ_eq_append_getElem h, List.filter_append, List.filter_cons, List.filter_nil]; rfl
def clipT (l : List PR) (on : List SR) (i : Nat) : List PR := if (chk l && setS on) = true then (l.take i).filter (onP on) else []
theorem clipT_len {l : List PR} {on : List SR} {i : Nat} : (clipT l on i).length ≤ l.length := by
  unfold clipT
  split
  · exact Nat.le_trans (List.length_filter_le _ _) (by rw [List.length_take]; omega)
  · exact Nat.zero_le _
theorem clipT_all {l : List PR} {on : List SR} {i : Nat} (h : l.length ≤ i) : clipT l on i = clip l on := by rw [clipT, clip, List.take_of_length_le h]

def T70 (l : List PR) (on : List SR) (i : Nat) : St := { fr := mkF 36 [(0, .sl true (l.map prow)), (1, .sl true (on.map srow)), (5, .sl true ((clipT l on i).map prow)), (6, .int .i64 i)], own := [5], hp := [], al := [], nb := 0 }
set_option maxHeartbeats 4000000 in
theorem call_70 (l : List PR) (on : List SR) (hlen : l.length ≤ 100000) (hon : on.length ≤ 100000) : (Lim cfg).call 70 [.sl true (l.map prow), .sl true (on.map srow)] [] = some (.sl true ((clip l on).map prow), false, []) := by
  have c1 := call_45 l hlen
  have c2 := call_87 on hon
  have e0 : clipT l on 0 = [] := by unfold clipT; split <;> rfl
  refine call_eq fn_70 rfl ?_
  rw [k_start]
  simp only [Try.f70, List.length_cons, List.length_nil, Nat.zero_add, Nat.reduceSub, Nat.reduceAdd, List.replicate, List.cons_append, List.nil_append]
  simp only [go_sem, Nat.reduceAdd, Nat.reduceSub, Nat.reduceMul, Nat.reduceLT, Nat.reduceLeDiff, Nat.reduceEqDiff, Nat.reduceBEq, Nat.reduceBNe, reduceCtorEq, Int.reduceBNe, Int.reduceBEq, blt0]
  refine k_loop (T70 l on) (fun i => i ≤ l.length) (fun i => l.length - i) 0 (K := cfg.kill 70 3) rfl (Nat.zero_le _) (by rw [T70, e0]; kernel_rfl) ?_
  intro i hi k' Q' hnorm hexit hret
  simp only [T70, mkF, List.foldl, List.replicate, List.set, List.cons_append, List.nil_append]
  simp only [go_sem, Nat.reduceAdd, Nat.reduceSub, Nat.reduceMul, Nat.reduceLT, Nat.reduceLeDiff, Nat.reduceEqDiff, Nat.reduceBEq, Nat.reduceBNe, reduceCtorEq, Int.reduceBNe, Int.reduceBEq, blt0]
  by_cases hlt : i < l.length
  · have h1 : (i : Int) < (l.length : Int) := by omega
    have h2 : ¬ ((i : Int) < 0) := by omega
    have hx : (l.map prow)[i]? = some (prow l[i]) := by simp [hlt]
    have c3 := call_138 on l[i].1 hon
    by_cases hc : chk l = true
    · rw [hc] at c1
      by_cases hs : setS on = true
      · rw [hs] at c2
        have ei : clipT l on (i + 1) = clipT l on i ++ (if hasS on l[i].1 = true then [l[i]] else []) := by
          rw [clipT, clipT, if_pos (by rw [hc, hs]; rfl), if_pos (by rw [hc, hs]; rfl), filter_step hlt]
        have hb : ((clipT l on i).length + 1) * 16 ≤ strMax := by have := clipT_len (l := l) (on := on) (i := i); unfold strMax; omega
        by_cases hh : hasS on l[i].1 = true
        · rw [hh] at c3
          rw [if_pos hh] at ei
          simp only [go_sem, Nat.reduceAdd, Nat.reduceSub, Nat.reduceMul, Nat.reduceLT, Nat.reduceLeDiff, Nat.reduceEqDiff, Nat.reduceBEq, Nat.reduceBNe, reduceCtorEq, Int.reduceBNe, Int.reduceBEq, blt0, h1, h2, hx, prow, Int.toNat_natCast, c1, c2, c3, fit_prow, head_prow, head_prow', hb]
          try rw [wrap_i64 (by omega) (by omega)]
          refine hnorm (i + 1) _ (by omega) (by omega) ?_
          rw [T70, ei, List.map_append]
          kernel_rfl
        · rw [Bool.not_eq_true] at hh
          rw [hh] at c3
          rw [if_neg (by rw [hh]; simp), List.append_nil] at ei
          simp only [go_sem, Nat.reduceAdd, Nat.reduceSub, Nat.reduceMul, Nat.reduceLT, Nat.reduceLeDiff, Nat.reduceEqDiff, Nat.reduceBEq, Nat.reduceBNe, reduceCtorEq, Int.reduceBNe, Int.reduceBEq, blt0, h1, h2, hx, prow, Int.toNat_natCast, c1, c2, c3]
          try rw [wrap_i64 (by omega) (by omega)]
          refine hnorm (i + 1) _ (by omega) (by omega) ?_
          rw [T70, ei]
          kernel_rfl
      · rw [Bool.not_eq_true] at hs
        rw [hs] at c2
        have ei : clipT l on (i + 1) = clipT l on i := by rw [clipT, clipT, if_neg (by simp [hs]), if_neg (by simp [hs])]
        simp only [go_sem, Nat.reduceAdd, Nat.reduceSub, Nat.reduceMul, Nat.reduceLT, Nat.reduceLeDiff, Nat.reduceEqDiff, Nat.reduceBEq, Nat.reduceBNe, reduceCtorEq, Int.reduceBNe, Int.reduceBEq, blt0, h1, h2, hx, prow, Int.toNat_natCast, c1, c2]
        try rw [wrap_i64 (by omega) (by omega)]
        refine hnorm (i + 1) _ (by omega) (by omega) ?_
        rw [T70, ei]
        kernel_rfl
    · rw [Bool.not_eq_true] at hc
      rw [hc] at c1
      have ei : clipT l on (i + 1) = clipT l on i := by rw [clipT, clipT, if_neg (by simp [hc]), if_neg (by simp [hc])]
      simp only [go_sem, Nat.reduceAdd, Nat.reduceSub, Nat.reduceMul, Nat.reduceLT, Nat.reduceLeDiff, Nat.reduceEqDiff, Nat.reduceBEq, Nat.reduceBNe, reduceCtorEq, Int.reduceBNe, Int.reduceBEq, blt0, h1, h2, hx, prow, Int.toNat_natCast, c1]
      try rw [wrap_i64 (by omega) (by omega)]
      refine hnorm (i + 1) _ (by omega) (by omega) ?_
      rw [T70, ei]
      kernel_rfl
  · have h1 : ¬ (i : Int) < (l.length : Int) := by omega
    simp only [go_sem, Nat.reduceAdd, Nat.reduceSub, Nat.reduceMul, Nat.reduceLT, Nat.reduceLeDiff, Nat.reduceEqDiff, Nat.reduceBEq, Nat.reduceBNe, reduceCtorEq, Int.reduceBNe, Int.reduceBEq, blt0, h1]
    refine hexit 0 _ ?_
    simp only [go_sem, Nat.reduceAdd, Nat.reduceSub, Nat.reduceMul, Nat.reduceLT, Nat.reduceLeDiff, Nat.reduceEqDiff, Nat.reduceBEq, Nat.reduceBNe, reduceCtorEq, Int.reduceBNe, Int.reduceBEq, blt0]
    refine ret1 (fun _ => ex_ret) rfl rfl rfl ⟨?_, rfl, rfl⟩
    show V.sl true _ = _
    rw [clipT_all (by omega)]
end Go.Proofs.Ytbpkaajokffpjaa
