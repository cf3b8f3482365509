/- The law ScanTops. -/
import Derived.Test.YtbpkaajokffpjaaE31
import Derived.Test.YtbpkaajokffpjaaE19
set_option linter.all false
set_option maxRecDepth 100000
namespace Go.Proofs.Ytbpkaajokffpjaa
open Go Go.Abs

set_option maxHeartbeats 4000000 in
theorem law_ScanTops (l : List PR) (on : List SR) (n : Int) (_ : -9223372036854775808 ≤ n) (_ : n ≤ 9223372036854775807) : (Lim cfg).call 11 [.sl true (l.map prow), .sl true (on.map srow), .int .i64 n] [] = some (.bool true, false, []) := by
  have c1 := call_54 l on
  have caw := call_55
  by_cases hf : l.length ≤ 100 ∧ on.length ≤ 100
  · rw [decide_eq_true hf] at c1
    have c2 := call_61 l on n (by omega) (by omega)
    have c3 := call_62 l on n (by omega) (by omega)
    have c4 := call_35 l (by omega)
    have c5 := call_63 on (by omega)
    have hln : (topL (clip l on) n).length ≤ 100 := by
      have := (clip_rise l on).2.2
      rw [topL, List.length_take, sortZ_len]; omega
    have c6 := call_35 (topL (clip l on) n) (by omega)
    have c7 := call_59 (topL (clip l on) n) (topL (clip l on) n) (by omega) (by omega)
    rw [decide_eq_true rfl] at c7
    generalize topL (clip l on) n = X at c2 c3 c6 c7
    refine call_eq fn_11 rfl ?_
    rw [k_start]
    simp only [Try.f11, List.length_cons, List.length_nil, Nat.zero_add, Nat.reduceSub, Nat.reduceAdd, List.replicate, List.cons_append, List.nil_append]
    repeat' (first | simp (maxSteps := 10000000) (disch := omega) only [go_sem, Nat.reduceAdd, Nat.reduceSub, Nat.reduceMul, Nat.reduceLT, Nat.reduceLeDiff, Nat.reduceEqDiff, Nat.reduceBEq, Nat.reduceBNe, reduceCtorEq, Int.reduceBNe, Int.reduceBEq, blt0, Int.reduceToNat, Int.toNat_zero, Int.toNat_one, if_pos, if_neg, wrap_i64, decide_eq_true, decide_eq_false, ibeq_t, ibeq_f, ibne_t, ibne_f, Int.toNat_natCast, tn_sub1, tn_add1, List.getElem?_map, gx, reach_i1, reach_i2, reach_s1, reach_si, reach_ss, c1, caw, c2, c3, c4, c5, c6, c7] | simp (maxSteps := 10000000) (disch := (simp only [List.length_append, List.length_map, List.length_take, List.length_drop, List.length_cons, List.length_nil]; omega)) only [str_add, if_pos, if_neg] | simp only [go_sem, Nat.reduceAdd, Nat.reduceSub, Nat.reduceMul, Nat.reduceLT, Nat.reduceLeDiff, Nat.reduceEqDiff, Nat.reduceBEq, Nat.reduceBNe, reduceCtorEq, Int.reduceBNe, Int.reduceBEq, blt0, c1, caw, c2, c3, c4, c5, c6, c7] | (refine WC_split (fun hc => ?_) (fun hc => ?_) <;> (try simp only [hc]) <;> (try simp only [Bool.and_eq_true, Bool.or_eq_true, Bool.not_eq_true', Bool.not_eq_false', decide_eq_true_eq, decide_eq_false_iff_not, beq_iff_eq, beq_eq_false_iff_ne, bne_iff_ne, bne_eq_false_iff_eq, ne_eq] at hc) <;> (try (have hb : @Eq Bool _ _ := hc; simp only [hb]; clear hb))) | (refine WS_split (fun hc => ?_) (fun hc => ?_) <;> (try simp only [hc]) <;> (try simp only [Bool.and_eq_true, Bool.or_eq_true, Bool.not_eq_true', Bool.not_eq_false', decide_eq_true_eq, decide_eq_false_iff_not, beq_iff_eq, beq_eq_false_iff_ne, bne_iff_ne, bne_eq_false_iff_eq, ne_eq] at hc) <;> (try (have hb : @Eq Bool _ _ := hc; simp only [hb]; clear hb))) | (refine WD_split (fun hc => ?_) (fun hc => ?_) <;> (try simp only [hc]) <;> (try simp only [Bool.and_eq_true, Bool.or_eq_true, Bool.not_eq_true', Bool.not_eq_false', decide_eq_true_eq, decide_eq_false_iff_not, beq_iff_eq, beq_eq_false_iff_ne, bne_iff_ne, bne_eq_false_iff_eq, ne_eq] at hc) <;> (try (have hb : @Eq Bool _ _ := hc; simp only [hb]; clear hb))))
    all_goals exact ret1n (v := .bool true) (fun _ => ex_ret) rfl rfl rfl ⟨rfl, rfl, rfl⟩
  · rw [decide_eq_false hf] at c1
    refine call_eq fn_11 rfl ?_
    rw [k_start]
    simp only [Try.f11, List.length_cons, List.length_nil, Nat.zero_add, Nat.reduceSub, Nat.reduceAdd, List.replicate, List.cons_append, List.nil_append]
    repeat' (first | simp (maxSteps := 10000000) (disch := omega) only [go_sem, Nat.reduceAdd, Nat.reduceSub, Nat.reduceMul, Nat.reduceLT, Nat.reduceLeDiff, Nat.reduceEqDiff, Nat.reduceBEq, Nat.reduceBNe, reduceCtorEq, Int.reduceBNe, Int.reduceBEq, blt0, Int.reduceToNat, Int.toNat_zero, Int.toNat_one, if_pos, if_neg, wrap_i64, decide_eq_true, decide_eq_false, ibeq_t, ibeq_f, ibne_t, ibne_f, Int.toNat_natCast, tn_sub1, tn_add1, List.getElem?_map, gx, reach_i1, reach_i2, reach_s1, reach_si, reach_ss, c1, caw] | simp (maxSteps := 10000000) (disch := (simp only [List.length_append, List.length_map, List.length_take, List.length_drop, List.length_cons, List.length_nil]; omega)) only [str_add, if_pos, if_neg] | simp only [go_sem, Nat.reduceAdd, Nat.reduceSub, Nat.reduceMul, Nat.reduceLT, Nat.reduceLeDiff, Nat.reduceEqDiff, Nat.reduceBEq, Nat.reduceBNe, reduceCtorEq, Int.reduceBNe, Int.reduceBEq, blt0, c1, caw] | (refine WC_split (fun hc => ?_) (fun hc => ?_) <;> (try simp only [hc]) <;> (try simp only [Bool.and_eq_true, Bool.or_eq_true, Bool.not_eq_true', Bool.not_eq_false', decide_eq_true_eq, decide_eq_false_iff_not, beq_iff_eq, beq_eq_false_iff_ne, bne_iff_ne, bne_eq_false_iff_eq, ne_eq] at hc) <;> (try (have hb : @Eq Bool _ _ := hc; simp only [hb]; clear hb))) | (refine WS_split (fun hc => ?_) (fun hc => ?_) <;> (try simp only [hc]) <;> (try simp only [Bool.and_eq_true, Bool.or_eq_true, Bool.not_eq_true', Bool.not_eq_false', decide_eq_true_eq, decide_eq_false_iff_not, beq_iff_eq, beq_eq_false_iff_ne, bne_iff_ne, bne_eq_false_iff_eq, ne_eq] at hc) <;> (try (have hb : @Eq Bool _ _ := hc; simp only [hb]; clear hb))) | (refine WD_split (fun hc => ?_) (fun hc => ?_) <;> (try simp only [hc]) <;> (try simp only [Bool.and_eq_true, Bool.or_eq_true, Bool.not_eq_true', Bool.not_eq_false', decide_eq_true_eq, decide_eq_false_iff_not, beq_iff_eq, beq_eq_false_iff_ne, bne_iff_ne, bne_eq_false_iff_eq, ne_eq] at hc) <;> (try (have hb : @Eq Bool _ _ := hc; simp only [hb]; clear hb))))
    exact ret1n (v := .bool true) (fun _ => ex_ret) rfl rfl rfl ⟨rfl, rfl, rfl⟩
end Go.Proofs.Ytbpkaajokffpjaa
