/- DeltaMakes, DeltaThere: by what Join answers. -/
import Derived.Test.YtknblodiilgogaaF9
import Derived.Test.YtknblodiilgogaaV1
import Derived.Test.YtknblodiilgogaaJ2
set_option linter.all false
set_option maxRecDepth 100000
namespace Go.Proofs.Ytknblodiilgogaa
open Go Go.Abs

theorem call_Make (hJ : JoinL) (a : List PR) (l : List TR) (ha : a.length ≤ 10000) (hlen : l.length ≤ 10000) : (Lim cfg).call 16 [.sl true (a.map prow), .sl true (l.map trow)] [] = some (makeV a l, false, []) := by
  refine make_join a l (by omega) (by omega) ((mk a l).map prow) 0 fun h1 h2 h3 => ?_
  obtain ⟨e1, e2⟩ := sort_make (chkFrom_rise a (-1) h1).1 (chkT_rise l (-1) h2).1
  obtain ⟨e3, e4, e5⟩ := make_chk h1 h2
  have := hJ (keepA l a) (puts l) (Nat.le_trans keep_len ha) (Nat.le_trans (puts_len l) hlen) e4 e5 e1 (by rw [e2]; exact e3)
  rwa [e2] at this
theorem call_29 (a b : List PR) (ha : a.length ≤ 100000) (hb : b.length ≤ 100000) : (Lim cfg).call 29 [.sl true (a.map prow), .sl true (b.map prow)] [] = some (.bool (decide (a = b)), false, []) := by
  have c1 := call_18 a ha
  have c2 := call_18 b hb
  have c3 := call_24 a b ha hb
  refine call_eq fn_29 rfl ?_
  rw [k_start]
  simp only [Try.f29, List.length_cons, List.length_nil, Nat.zero_add, Nat.reduceSub, Nat.reduceAdd, List.replicate, List.cons_append, List.nil_append]
  repeat' (first | simp (maxSteps := 10000000) (disch := omega) only [go_sem, Nat.reduceAdd, Nat.reduceSub, Nat.reduceMul, Nat.reduceLT, Nat.reduceLeDiff, Nat.reduceEqDiff, Nat.reduceBEq, Nat.reduceBNe, reduceCtorEq, Int.reduceBNe, Int.reduceBEq, blt0, Int.reduceToNat, Int.toNat_zero, Int.toNat_one, if_pos, if_neg, wrap_i64, decide_eq_true, decide_eq_false, ibeq_t, ibeq_f, ibne_t, ibne_f, Int.toNat_natCast, tn_sub1, tn_add1, List.getElem?_map, gx, reach_i1, reach_i2, reach_s1, reach_si, reach_ss, c1, c2, c3] | simp (maxSteps := 10000000) (disch := (simp only [List.length_append, List.length_map, List.length_take, List.length_drop, List.length_cons, List.length_nil]; omega)) only [str_add, if_pos, if_neg] | simp only [go_sem, Nat.reduceAdd, Nat.reduceSub, Nat.reduceMul, Nat.reduceLT, Nat.reduceLeDiff, Nat.reduceEqDiff, Nat.reduceBEq, Nat.reduceBNe, reduceCtorEq, Int.reduceBNe, Int.reduceBEq, blt0, c1, c2, c3] | ((first | refine WC_split (fun hc => ?_) (fun hc => ?_) | refine WS_split (fun hc => ?_) (fun hc => ?_) | refine WD_split (fun hc => ?_) (fun hc => ?_)) <;> (try simp only [hc]) <;> (try simp only [Bool.and_eq_true, Bool.or_eq_true, Bool.not_eq_true', Bool.not_eq_false', decide_eq_true_eq, decide_eq_false_iff_not, beq_iff_eq, beq_eq_false_iff_ne, bne_iff_ne, bne_eq_false_iff_eq, ne_eq] at hc) <;> (try (have hb : @Eq Bool _ _ := hc; simp only [hb]; clear hb))))
  exact ret1n (fun _ => ex_ret) rfl rfl rfl ⟨rfl, rfl, rfl⟩
theorem makeV_ok {a : List PR} {l : List TR} (h1 : chk a = true) (h2 : chkT l = true) (h3 : fitsR a l = true) : makeV a l = .tup [.sl true ((mk a l).map prow), .int .i64 0] := by
  rw [makeV, if_pos (by rw [h1, h2]; rfl), if_pos h3]
set_option maxHeartbeats 8000000 in
theorem there_of (hJ : JoinL) (A B : List PR) : (Lim cfg).call 6 [.sl true (A.map prow), .sl true (B.map prow)] [] = some (.bool true, false, []) := by
  have c1 := call_14 A B [] []
  simp only [List.map_nil] at c1
  have caw := call_15
  by_cases hf : A.length ≤ 100 ∧ B.length ≤ 100 ∧ ([] : List TR).length ≤ 100 ∧ ([] : List TR).length ≤ 100
  · rw [decide_eq_true hf] at c1
    have c2 := call_25 A B (by omega) (by omega)
    rw [between] at c2
    by_cases hab : (chk A && chk B) = true
    · rw [if_pos hab] at c2
      rw [Bool.and_eq_true] at hab
      obtain ⟨hA, hB⟩ := hab
      have hl1 := merge_len A B []
      have hl2 := merge_len B A []
      simp only [List.length_nil] at hl1 hl2
      obtain ⟨f1, f2, f3, f4⟩ := between_fits hA hB
      obtain ⟨g1, g2, g3, g4⟩ := between_fits hB hA
      have c3 := call_Make hJ A (merge A B []) (by omega) (by omega)
      have c4 := call_30 (merge A B []) (by omega)
      have c5 := call_Make hJ B (merge B A []) (by omega) (by omega)
      have c6 := call_31 (merge A B []) (merge B A []) (by omega) (by omega)
      have c7 := call_30 (merge B A []) (by omega)
      have c8 := call_29 B B (by omega) (by omega)
      have c9 := call_29 A A (by omega) (by omega)
      have c10 := call_19 (merge A B []) (by omega)
      have c11 := call_32 (merge A B []) (merge A B []) (by omega) (by omega)
      rw [makeV_ok hA f1 f2, f3] at c3
      rw [if_pos f1, f4] at c4
      rw [makeV_ok hB g1 g2, g3] at c5
      rw [then_between hA hB hA, between_self hA] at c6
      rw [if_pos g1, g4] at c7
      rw [decide_eq_true rfl] at c8 c9 c11
      generalize merge A B [] = X at c2 c3 c4 c6 c7 c10 c11
      generalize merge B A [] = Y at c4 c5 c6 c7
      simp only [List.map_nil] at c6
      refine call_eq fn_6 rfl ?_
      rw [k_start]
      simp only [Try.f6, List.length_cons, List.length_nil, Nat.zero_add, Nat.reduceSub, Nat.reduceAdd, List.replicate, List.cons_append, List.nil_append]
      repeat' (first | simp (maxSteps := 10000000) (disch := omega) only [go_sem, Nat.reduceAdd, Nat.reduceSub, Nat.reduceMul, Nat.reduceLT, Nat.reduceLeDiff, Nat.reduceEqDiff, Nat.reduceBEq, Nat.reduceBNe, reduceCtorEq, Int.reduceBNe, Int.reduceBEq, blt0, Int.reduceToNat, Int.toNat_zero, Int.toNat_one, if_pos, if_neg, wrap_i64, decide_eq_true, decide_eq_false, ibeq_t, ibeq_f, ibne_t, ibne_f, Int.toNat_natCast, tn_sub1, tn_add1, List.getElem?_map, gx, reach_i1, reach_i2, reach_s1, reach_si, reach_ss, c1, caw, c2, c3, c4, c5, c6, c7, c8, c9, c10, c11] | simp (maxSteps := 10000000) (disch := (simp only [List.length_append, List.length_map, List.length_take, List.length_drop, List.length_cons, List.length_nil]; omega)) only [str_add, if_pos, if_neg] | simp only [go_sem, Nat.reduceAdd, Nat.reduceSub, Nat.reduceMul, Nat.reduceLT, Nat.reduceLeDiff, Nat.reduceEqDiff, Nat.reduceBEq, Nat.reduceBNe, reduceCtorEq, Int.reduceBNe, Int.reduceBEq, blt0, c1, caw, c2, c3, c4, c5, c6, c7, c8, c9, c10, c11] | ((first | refine WC_split (fun hc => ?_) (fun hc => ?_) | refine WS_split (fun hc => ?_) (fun hc => ?_) | refine WD_split (fun hc => ?_) (fun hc => ?_)) <;> (try simp only [hc]) <;> (try simp only [Bool.and_eq_true, Bool.or_eq_true, Bool.not_eq_true', Bool.not_eq_false', decide_eq_true_eq, decide_eq_false_iff_not, beq_iff_eq, beq_eq_false_iff_ne, bne_iff_ne, bne_eq_false_iff_eq, ne_eq] at hc) <;> (try (have hb : @Eq Bool _ _ := hc; simp only [hb]; clear hb))))
      all_goals exact ret1n (v := .bool true) (fun _ => ex_ret) rfl rfl rfl ⟨rfl, rfl, rfl⟩
    · rw [if_neg hab] at c2
      refine call_eq fn_6 rfl ?_
      rw [k_start]
      simp only [Try.f6, List.length_cons, List.length_nil, Nat.zero_add, Nat.reduceSub, Nat.reduceAdd, List.replicate, List.cons_append, List.nil_append]
      repeat' (first | simp (maxSteps := 10000000) (disch := omega) only [go_sem, Nat.reduceAdd, Nat.reduceSub, Nat.reduceMul, Nat.reduceLT, Nat.reduceLeDiff, Nat.reduceEqDiff, Nat.reduceBEq, Nat.reduceBNe, reduceCtorEq, Int.reduceBNe, Int.reduceBEq, blt0, Int.reduceToNat, Int.toNat_zero, Int.toNat_one, if_pos, if_neg, wrap_i64, decide_eq_true, decide_eq_false, ibeq_t, ibeq_f, ibne_t, ibne_f, Int.toNat_natCast, tn_sub1, tn_add1, List.getElem?_map, gx, reach_i1, reach_i2, reach_s1, reach_si, reach_ss, c1, caw, c2] | simp (maxSteps := 10000000) (disch := (simp only [List.length_append, List.length_map, List.length_take, List.length_drop, List.length_cons, List.length_nil]; omega)) only [str_add, if_pos, if_neg] | simp only [go_sem, Nat.reduceAdd, Nat.reduceSub, Nat.reduceMul, Nat.reduceLT, Nat.reduceLeDiff, Nat.reduceEqDiff, Nat.reduceBEq, Nat.reduceBNe, reduceCtorEq, Int.reduceBNe, Int.reduceBEq, blt0, c1, caw, c2] | ((first | refine WC_split (fun hc => ?_) (fun hc => ?_) | refine WS_split (fun hc => ?_) (fun hc => ?_) | refine WD_split (fun hc => ?_) (fun hc => ?_)) <;> (try simp only [hc]) <;> (try simp only [Bool.and_eq_true, Bool.or_eq_true, Bool.not_eq_true', Bool.not_eq_false', decide_eq_true_eq, decide_eq_false_iff_not, beq_iff_eq, beq_eq_false_iff_ne, bne_iff_ne, bne_eq_false_iff_eq, ne_eq] at hc) <;> (try (have hb : @Eq Bool _ _ := hc; simp only [hb]; clear hb))))
      all_goals exact ret1n (v := .bool true) (fun _ => ex_ret) rfl rfl rfl ⟨rfl, rfl, rfl⟩
  · rw [decide_eq_false hf] at c1
    refine call_eq fn_6 rfl ?_
    rw [k_start]
    simp only [Try.f6, List.length_cons, List.length_nil, Nat.zero_add, Nat.reduceSub, Nat.reduceAdd, List.replicate, List.cons_append, List.nil_append]
    repeat' (first | simp (maxSteps := 10000000) (disch := omega) only [go_sem, Nat.reduceAdd, Nat.reduceSub, Nat.reduceMul, Nat.reduceLT, Nat.reduceLeDiff, Nat.reduceEqDiff, Nat.reduceBEq, Nat.reduceBNe, reduceCtorEq, Int.reduceBNe, Int.reduceBEq, blt0, Int.reduceToNat, Int.toNat_zero, Int.toNat_one, if_pos, if_neg, wrap_i64, decide_eq_true, decide_eq_false, ibeq_t, ibeq_f, ibne_t, ibne_f, Int.toNat_natCast, tn_sub1, tn_add1, List.getElem?_map, gx, reach_i1, reach_i2, reach_s1, reach_si, reach_ss, c1, caw] | simp (maxSteps := 10000000) (disch := (simp only [List.length_append, List.length_map, List.length_take, List.length_drop, List.length_cons, List.length_nil]; omega)) only [str_add, if_pos, if_neg] | simp only [go_sem, Nat.reduceAdd, Nat.reduceSub, Nat.reduceMul, Nat.reduceLT, Nat.reduceLeDiff, Nat.reduceEqDiff, Nat.reduceBEq, Nat.reduceBNe, reduceCtorEq, Int.reduceBNe, Int.reduceBEq, blt0, c1, caw] | ((first | refine WC_split (fun hc => ?_) (fun hc => ?_) | refine WS_split (fun hc => ?_) (fun hc => ?_) | refine WD_split (fun hc => ?_) (fun hc => ?_)) <;> (try simp only [hc]) <;> (try simp only [Bool.and_eq_true, Bool.or_eq_true, Bool.not_eq_true', Bool.not_eq_false', decide_eq_true_eq, decide_eq_false_iff_not, beq_iff_eq, beq_eq_false_iff_ne, bne_iff_ne, bne_eq_false_iff_eq, ne_eq] at hc) <;> (try (have hb : @Eq Bool _ _ := hc; simp only [hb]; clear hb))))
    exact ret1n (v := .bool true) (fun _ => ex_ret) rfl rfl rfl ⟨rfl, rfl, rfl⟩
end Go.Proofs.Ytknblodiilgogaa
