/- The laws DeltaReads, DeltaBack: what the statements' functions answer. -/
import Derived.Test.YtbpkaajokffpjaaD38
set_option linter.all false
set_option maxRecDepth 100000
namespace Go.Proofs.Ytbpkaajokffpjaa
open Go Go.Abs

theorem nilr : (.sl true [] : V) = .sl true (([] : List PR).map prow) := rfl
theorem nilt : (.sl true [] : V) = .sl true (([] : List TR).map trow) := rfl
theorem eqd {a b : List UInt8} : (a == b) = decide (a = b) := by
  rw [Bool.eq_iff_iff]; simp
set_option maxHeartbeats 4000000 in
theorem law_DeltaReads (l : List TR) (s : List UInt8) (hs : s.length ≤ 140737488351232) : (Lim cfg).call 3 [.sl true (l.map trow), .str s] [] = some (.bool true, false, []) := by
  have c11 := call_20 [] [] l []
  simp only [List.map_nil, List.length_nil] at c11
  have caw := call_21
  by_cases h : l.length ≤ 100
  · rw [decide_eq_true ⟨Nat.zero_le _, Nat.zero_le _, h, Nat.zero_le _⟩] at c11
    by_cases hs2 : s.length ≤ 2000
    · have h2 : ¬ ((s.length : Int) > 2000) := by omega
      have cR := call_22 s (by omega)
      have cS := call_23 s (by omega)
      have cT := call_24 l (by omega)
      have cU := call_25 l (by omega)
      have r1 := call_26 l (by omega)
      have hq := readD_len s
      have r2 := call_26 (readD s).1 (by omega)
      have c16 := call_27 (readD s).1 (readD s).1 (by omega) (by omega)
      rw [decide_eq_true rfl] at c16
      refine call_eq fn_3 rfl ?_
      rw [k_start]
      simp only [Try.f3, List.length_cons, List.length_nil, Nat.zero_add, Nat.reduceSub, Nat.reduceAdd, List.replicate, List.cons_append, List.nil_append]
      simp only [go_sem, Nat.reduceAdd, Nat.reduceSub, Nat.reduceMul, Nat.reduceLT, Nat.reduceLeDiff, Nat.reduceEqDiff, Nat.reduceBEq, Nat.reduceBNe, reduceCtorEq, Int.reduceBNe, Int.reduceBEq, c11, h2, caw, cR, cS, cT, cU, r1, r2, c16, strOp, beq_self_eq_true, blt0]

      exact ret1n (fun _ => ex_ret) rfl rfl rfl ⟨rfl, rfl, rfl⟩
    · have h2 : (s.length : Int) > 2000 := by omega
      refine call_eq fn_3 rfl ?_
      rw [k_start]
      simp only [Try.f3, List.length_cons, List.length_nil, Nat.zero_add, Nat.reduceSub, Nat.reduceAdd, List.replicate, List.cons_append, List.nil_append]
      simp only [go_sem, Nat.reduceAdd, Nat.reduceSub, Nat.reduceMul, Nat.reduceLT, Nat.reduceLeDiff, Nat.reduceEqDiff, Nat.reduceBEq, Nat.reduceBNe, reduceCtorEq, Int.reduceBNe, Int.reduceBEq, c11, h2, caw]
      exact ret1n (fun _ => ex_ret) rfl rfl rfl ⟨rfl, rfl, rfl⟩
  · rw [decide_eq_false fun h' => h h'.2.2.1] at c11
    refine call_eq fn_3 rfl ?_
    rw [k_start]
    simp only [Try.f3, List.length_cons, List.length_nil, Nat.zero_add, Nat.reduceSub, Nat.reduceAdd, List.replicate, List.cons_append, List.nil_append]
    simp only [go_sem, Nat.reduceAdd, Nat.reduceSub, Nat.reduceMul, Nat.reduceLT, Nat.reduceLeDiff, Nat.reduceEqDiff, Nat.reduceBEq, Nat.reduceBNe, reduceCtorEq, Int.reduceBNe, Int.reduceBEq, c11, caw]
    exact ret1n (fun _ => ex_ret) rfl rfl rfl ⟨rfl, rfl, rfl⟩

theorem call_same04 : (Lim cfg).call 29 [.agg [.int .i64 0, .int .i64 0, .int .i64 0, .sl true [], .int .i64 0, .int .i64 0, .int .i64 0], .agg [.int .i64 0, .int .i64 0, .int .i64 0, .sl true [], .int .i64 0, .int .i64 0, .int .i64 0]] [] = some (.bool true, false, []) := lim_of_run (k := 300) (by kernel_rfl)
set_option maxHeartbeats 8000000 in
theorem law_DeltaBack (l : List TR) (s : List UInt8) (hs : s.length ≤ 140737488351232) : (Lim cfg).call 4 [.sl true (l.map trow), .str s] [] = some (.bool true, false, []) := by
  have c11 := call_20 [] [] l []
  simp only [List.map_nil, List.length_nil] at c11
  have caw := call_21
  by_cases h : l.length ≤ 100
  · rw [decide_eq_true ⟨Nat.zero_le _, Nat.zero_le _, h, Nat.zero_le _⟩] at c11
    by_cases hs2 : s.length ≤ 2000
    · have h2 : ¬ ((s.length : Int) > 2000) := by omega
      have hq := readD_len s
      have cR := call_22 s (by omega)
      have cT := call_24 l (by omega)
      have hTl := textT_len (l := l) (by omega)
      by_cases ht : textT l = []
      · have ht' : (textT l == []) = true := by simp [ht]
        refine call_eq fn_4 rfl ?_
        rw [k_start]
        simp only [Try.f4, List.length_cons, List.length_nil, Nat.zero_add, Nat.reduceSub, Nat.reduceAdd, List.replicate, List.cons_append, List.nil_append]
        simp only [go_sem, Nat.reduceAdd, Nat.reduceSub, Nat.reduceMul, Nat.reduceLT, Nat.reduceLeDiff, Nat.reduceEqDiff, Nat.reduceBEq, Nat.reduceBNe, reduceCtorEq, Int.reduceBNe, Int.reduceBEq, c11, h2, cT, strOp, ht', blt0]
        by_cases he : (readD s).2 = 0
        · obtain ⟨hk1, hk2⟩ := readD_ok he
          have e1 : ((readD s).2 != 0) = false := by simp [he]
          have e2 : ((readD s).2 == 0) = true := by simp [he]
          have cT2 := call_24 (readD s).1 (by omega)
          rw [hk1] at cT2
          have cC := call_28 (readD s).1 (by omega)
          rw [hk2] at cC
          simp only [go_sem, Nat.reduceAdd, Nat.reduceSub, Nat.reduceMul, Nat.reduceLT, Nat.reduceLeDiff, Nat.reduceEqDiff, Nat.reduceBEq, Nat.reduceBNe, reduceCtorEq, Int.reduceBNe, Int.reduceBEq, blt0, cR, e1, e2, cT2, cC, caw, call_same04, strOp, beq_self_eq_true]
          exact ret1n (fun _ => ex_ret) rfl rfl rfl ⟨rfl, rfl, rfl⟩
        · have e1 : ((readD s).2 != 0) = true := by simp [he]
          have e3 := readD_bad he
          rw [e3] at cR
          simp only [List.map_nil] at cR
          have e2 : ((readD s).2 == 0) = false := by simp [he]
          have z0 : (((0 : Nat) : Int) == 0) = true := rfl
          simp only [go_sem, Nat.reduceAdd, Nat.reduceSub, Nat.reduceMul, Nat.reduceLT, Nat.reduceLeDiff, Nat.reduceEqDiff, Nat.reduceBEq, Nat.reduceBNe, reduceCtorEq, Int.reduceBNe, Int.reduceBEq, blt0, cR, e1, e2, z0, caw, call_same04]
          exact ret1n (fun _ => ex_ret) rfl rfl rfl ⟨rfl, rfl, rfl⟩
      · have ht' : (textT l == []) = false := by simp [ht]
        have hc := textT_ne ht
        have cRt := call_22 (textT l) (by omega)
        rw [readD_text hc (by omega)] at cRt
        have r1 := call_26 l (by omega)
        have c16 := call_27 l l (by omega) (by omega)
        rw [decide_eq_true rfl] at c16
        refine call_eq fn_4 rfl ?_
        rw [k_start]
        simp only [Try.f4, List.length_cons, List.length_nil, Nat.zero_add, Nat.reduceSub, Nat.reduceAdd, List.replicate, List.cons_append, List.nil_append]
        simp only [go_sem, Nat.reduceAdd, Nat.reduceSub, Nat.reduceMul, Nat.reduceLT, Nat.reduceLeDiff, Nat.reduceEqDiff, Nat.reduceBEq, Nat.reduceBNe, reduceCtorEq, Int.reduceBNe, Int.reduceBEq, c11, h2, cT, strOp, ht', cRt, r1, c16, blt0]
        by_cases he : (readD s).2 = 0
        · obtain ⟨hk1, hk2⟩ := readD_ok he
          have e1 : ((readD s).2 != 0) = false := by simp [he]
          have e2 : ((readD s).2 == 0) = true := by simp [he]
          have cT2 := call_24 (readD s).1 (by omega)
          rw [hk1] at cT2
          have cC := call_28 (readD s).1 (by omega)
          rw [hk2] at cC
          simp only [go_sem, Nat.reduceAdd, Nat.reduceSub, Nat.reduceMul, Nat.reduceLT, Nat.reduceLeDiff, Nat.reduceEqDiff, Nat.reduceBEq, Nat.reduceBNe, reduceCtorEq, Int.reduceBNe, Int.reduceBEq, blt0, cR, e1, e2, cT2, cC, caw, call_same04, strOp, beq_self_eq_true]
          exact ret1n (fun _ => ex_ret) rfl rfl rfl ⟨rfl, rfl, rfl⟩
        · have e1 : ((readD s).2 != 0) = true := by simp [he]
          have e3 := readD_bad he
          rw [e3] at cR
          simp only [List.map_nil] at cR
          have e2 : ((readD s).2 == 0) = false := by simp [he]
          have z0 : (((0 : Nat) : Int) == 0) = true := rfl
          simp only [go_sem, Nat.reduceAdd, Nat.reduceSub, Nat.reduceMul, Nat.reduceLT, Nat.reduceLeDiff, Nat.reduceEqDiff, Nat.reduceBEq, Nat.reduceBNe, reduceCtorEq, Int.reduceBNe, Int.reduceBEq, blt0, cR, e1, e2, z0, caw, call_same04]
          exact ret1n (fun _ => ex_ret) rfl rfl rfl ⟨rfl, rfl, rfl⟩
    · have h2 : (s.length : Int) > 2000 := by omega
      refine call_eq fn_4 rfl ?_
      rw [k_start]
      simp only [Try.f4, List.length_cons, List.length_nil, Nat.zero_add, Nat.reduceSub, Nat.reduceAdd, List.replicate, List.cons_append, List.nil_append]
      simp only [go_sem, Nat.reduceAdd, Nat.reduceSub, Nat.reduceMul, Nat.reduceLT, Nat.reduceLeDiff, Nat.reduceEqDiff, Nat.reduceBEq, Nat.reduceBNe, reduceCtorEq, Int.reduceBNe, Int.reduceBEq, c11, h2, caw]
      exact ret1n (fun _ => ex_ret) rfl rfl rfl ⟨rfl, rfl, rfl⟩
  · rw [decide_eq_false fun h' => h h'.2.2.1] at c11
    refine call_eq fn_4 rfl ?_
    rw [k_start]
    simp only [Try.f4, List.length_cons, List.length_nil, Nat.zero_add, Nat.reduceSub, Nat.reduceAdd, List.replicate, List.cons_append, List.nil_append]
    simp only [go_sem, Nat.reduceAdd, Nat.reduceSub, Nat.reduceMul, Nat.reduceLT, Nat.reduceLeDiff, Nat.reduceEqDiff, Nat.reduceBEq, Nat.reduceBNe, reduceCtorEq, Int.reduceBNe, Int.reduceBEq, c11, caw]
    exact ret1n (fun _ => ex_ret) rfl rfl rfl ⟨rfl, rfl, rfl⟩
end Go.Proofs.Ytbpkaajokffpjaa
