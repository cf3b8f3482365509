/- The law DeltaOnto. -/
import Derived.Test.YtknblodiilgogaaF11
import Derived.Test.YtknblodiilgogaaO1
set_option linter.all false
set_option maxRecDepth 100000
namespace Go.Proofs.Ytknblodiilgogaa
open Go Go.Abs

def T5o (m : List TR) (cl : List Int) (x y : List PR) (k : Nat) : St := { fr := mkF 131 [(9, .sl true (m.map trow)), (12, .sl true (cl.map irow)), (17, .sl true (x.map prow)), (19, .sl true (y.map prow)), (21, .int .i64 k)], own := [], hp := [], al := [], nb := 0 }
set_option maxHeartbeats 8000000 in
theorem law_DeltaOnto (A B C : List PR) : (Lim cfg).call 5 [.sl true (A.map prow), .sl true (B.map prow), .sl true (C.map prow)] [] = some (.bool true, false, []) := by
  have caw := call_15
  by_cases hf : A.length ≤ 60 ∧ B.length ≤ 60 ∧ C.length ≤ 60
  · have c2 := call_25 A B (by omega) (by omega)
    have c3 := call_25 A C (by omega) (by omega)
    rw [between] at c2 c3
    by_cases hab : (chk A && chk B) = true
    · by_cases hac : (chk A && chk C) = true
      · rw [if_pos hab] at c2
        rw [if_pos hac] at c3
        rw [Bool.and_eq_true] at hab hac
        obtain ⟨hA, hB⟩ := hab
        obtain ⟨_, hC⟩ := hac
        have hl1 := merge_len A B []
        have hl2 := merge_len A C []
        simp only [List.length_nil] at hl1 hl2
        have c4 := call_26 (merge A B []) (merge A C []) (by omega) (by omega)
        have c5 := call_26 (merge A C []) (merge A B []) (by omega) (by omega)
        rw [onto_U3 hA hB hC] at c4
        rw [onto_U3 hA hC hB] at c5
        obtain ⟨f1, f2, f3, f4, f5⟩ := onto_all hA hB hC
        obtain ⟨g1, g2, g3, g4, g5⟩ := onto_all hA hC hB
        have hu := om_len (merge A B []) (merge A C []) ([], [])
        have hw := om_len (merge A C []) (merge A B []) ([], [])
        rw [← U3] at hu hw
        simp only [List.length_nil, Nat.zero_add] at hu hw
        have c6 := call_Make joinL B (U3 A B C).1 (by omega) (by omega)
        have c7 := call_Make joinL C (U3 A C B).1 (by omega) (by omega)
        rw [makeV_ok hB f1 f2] at c6
        rw [makeV_ok hC g1 g2] at c7
        have hx := mk_len (U3 A B C).1 B
        have hy := mk_len (U3 A C B).1 C
        have c8 := call_27 (U3 A B C).2 (U3 A B C).2 (by omega) (by omega)
        rw [decide_eq_true rfl] at c8
        rw [← f3] at c5
        generalize mk B (U3 A B C).1 = X at c6 f4 f5 hx
        generalize mk C (U3 A C B).1 = Y at c7 f5 hy
        generalize (U3 A B C).1 = U at c4 c6 hu hx
        generalize (U3 A C B).1 = W at c5 c7 hw hy
        generalize (U3 A B C).2 = cl at c4 c5 c8 f5 hu hw
        generalize merge A B [] = L at c2 c4 c5 hl1 hu hw
        generalize merge A C [] = M at c3 c4 c5 hl2 hu hw f4
        have c9 := call_29 X Y (by omega) (by omega)
        have c10 := call_18 X (by omega)
        have c11 := fun k => call_28 X k (by omega)
        refine call_eq fn_5 rfl ?_
        rw [k_start]
        simp only [Try.f5, List.length_cons, List.length_nil, Nat.zero_add, Nat.reduceSub, Nat.reduceAdd, List.replicate, List.cons_append, List.nil_append]
        repeat' (first | simp (maxSteps := 10000000) (disch := omega) only [go_sem, Nat.reduceAdd, Nat.reduceSub, Nat.reduceMul, Nat.reduceLT, Nat.reduceLeDiff, Nat.reduceEqDiff, Nat.reduceBEq, Nat.reduceBNe, reduceCtorEq, Int.reduceBNe, Int.reduceBEq, blt0, Int.reduceToNat, Int.toNat_zero, Int.toNat_one, if_pos, if_neg, wrap_i64, decide_eq_true, decide_eq_false, ibeq_t, ibeq_f, ibne_t, ibne_f, Int.toNat_natCast, tn_sub1, tn_add1, List.getElem?_map, gx, reach_i1, reach_i2, reach_s1, reach_si, reach_ss, c2, c3, c4, c5, c6, c7, c8] | simp (maxSteps := 10000000) (disch := (simp only [List.length_append, List.length_map, List.length_take, List.length_drop, List.length_cons, List.length_nil]; omega)) only [str_add, if_pos, if_neg] | simp only [go_sem, Nat.reduceAdd, Nat.reduceSub, Nat.reduceMul, Nat.reduceLT, Nat.reduceLeDiff, Nat.reduceEqDiff, Nat.reduceBEq, Nat.reduceBNe, reduceCtorEq, Int.reduceBNe, Int.reduceBEq, blt0, c2, c3, c4, c5, c6, c7, c8] | ((first | refine WC_split (fun hc => ?_) (fun hc => ?_) | refine WS_split (fun hc => ?_) (fun hc => ?_) | refine WD_split (fun hc => ?_) (fun hc => ?_)) <;> (try simp only [hc]) <;> (try simp only [Bool.and_eq_true, Bool.or_eq_true, Bool.not_eq_true', Bool.not_eq_false', decide_eq_true_eq, decide_eq_false_iff_not, beq_iff_eq, beq_eq_false_iff_ne, bne_iff_ne, bne_eq_false_iff_eq, ne_eq] at hc) <;> (try (have hb : @Eq Bool _ _ := hc; simp only [hb]; clear hb))))
        refine k_loop (T5o M cl X Y) (fun k => k ≤ M.length) (fun k => M.length - k) 0 (K := cfg.kill 5 14) rfl (Nat.zero_le _) (by kernel_rfl) ?_
        intro k hk k' Q' hnorm hexit hret
        simp only [T5o, mkF, List.foldl, List.replicate, List.set, List.cons_append, List.nil_append]
        by_cases hlt : k < M.length
        · have e := f4 M[k] (List.getElem_mem hlt)
          repeat' (first | simp (maxSteps := 10000000) (disch := omega) only [go_sem, Nat.reduceAdd, Nat.reduceSub, Nat.reduceMul, Nat.reduceLT, Nat.reduceLeDiff, Nat.reduceEqDiff, Nat.reduceBEq, Nat.reduceBNe, reduceCtorEq, Int.reduceBNe, Int.reduceBEq, blt0, Int.reduceToNat, Int.toNat_zero, Int.toNat_one, if_pos, if_neg, wrap_i64, decide_eq_true, decide_eq_false, ibeq_t, ibeq_f, ibne_t, ibne_f, Int.toNat_natCast, tn_sub1, tn_add1, List.getElem?_map, gx, reach_i1, reach_i2, reach_s1, reach_si, reach_ss, c10, c11, e, trow, crow, eq_cell] | simp (maxSteps := 10000000) (disch := (simp only [List.length_append, List.length_map, List.length_take, List.length_drop, List.length_cons, List.length_nil]; omega)) only [str_add, if_pos, if_neg] | simp only [go_sem, Nat.reduceAdd, Nat.reduceSub, Nat.reduceMul, Nat.reduceLT, Nat.reduceLeDiff, Nat.reduceEqDiff, Nat.reduceBEq, Nat.reduceBNe, reduceCtorEq, Int.reduceBNe, Int.reduceBEq, blt0, c10, c11, e, trow, crow, eq_cell] | ((first | refine WC_split (fun hc => ?_) (fun hc => ?_) | refine WS_split (fun hc => ?_) (fun hc => ?_) | refine WD_split (fun hc => ?_) (fun hc => ?_)) <;> (try simp only [hc]) <;> (try simp only [Bool.and_eq_true, Bool.or_eq_true, Bool.not_eq_true', Bool.not_eq_false', decide_eq_true_eq, decide_eq_false_iff_not, beq_iff_eq, beq_eq_false_iff_ne, bne_iff_ne, bne_eq_false_iff_eq, ne_eq] at hc) <;> (try (have hb : @Eq Bool _ _ := hc; simp only [hb]; clear hb))))
          refine hnorm (k + 1) _ (by omega) (by omega) ?_
          kernel_rfl
        · clear hnorm hret
          repeat' (first | simp (maxSteps := 10000000) (disch := omega) only [go_sem, Nat.reduceAdd, Nat.reduceSub, Nat.reduceMul, Nat.reduceLT, Nat.reduceLeDiff, Nat.reduceEqDiff, Nat.reduceBEq, Nat.reduceBNe, reduceCtorEq, Int.reduceBNe, Int.reduceBEq, blt0, Int.reduceToNat, Int.toNat_zero, Int.toNat_one, if_pos, if_neg, wrap_i64, decide_eq_true, decide_eq_false, ibeq_t, ibeq_f, ibne_t, ibne_f, Int.toNat_natCast, tn_sub1, tn_add1, List.getElem?_map, gx, reach_i1, reach_i2, reach_s1, reach_si, reach_ss] | simp (maxSteps := 10000000) (disch := (simp only [List.length_append, List.length_map, List.length_take, List.length_drop, List.length_cons, List.length_nil]; omega)) only [str_add, if_pos, if_neg] | simp only [go_sem, Nat.reduceAdd, Nat.reduceSub, Nat.reduceMul, Nat.reduceLT, Nat.reduceLeDiff, Nat.reduceEqDiff, Nat.reduceBEq, Nat.reduceBNe, reduceCtorEq, Int.reduceBNe, Int.reduceBEq, blt0] | ((first | refine WC_split (fun hc => ?_) (fun hc => ?_) | refine WS_split (fun hc => ?_) (fun hc => ?_) | refine WD_split (fun hc => ?_) (fun hc => ?_)) <;> (try simp only [hc]) <;> (try simp only [Bool.and_eq_true, Bool.or_eq_true, Bool.not_eq_true', Bool.not_eq_false', decide_eq_true_eq, decide_eq_false_iff_not, beq_iff_eq, beq_eq_false_iff_ne, bne_iff_ne, bne_eq_false_iff_eq, ne_eq] at hc) <;> (try (have hb : @Eq Bool _ _ := hc; simp only [hb]; clear hb))))
          refine hexit _ _ ?_
          clear hexit
          by_cases hcl : cl = []
          · rw [f5.2 hcl, decide_eq_true rfl] at c9
            subst hcl
            repeat' (first | simp (maxSteps := 10000000) (disch := omega) only [go_sem, Nat.reduceAdd, Nat.reduceSub, Nat.reduceMul, Nat.reduceLT, Nat.reduceLeDiff, Nat.reduceEqDiff, Nat.reduceBEq, Nat.reduceBNe, reduceCtorEq, Int.reduceBNe, Int.reduceBEq, blt0, Int.reduceToNat, Int.toNat_zero, Int.toNat_one, if_pos, if_neg, wrap_i64, decide_eq_true, decide_eq_false, ibeq_t, ibeq_f, ibne_t, ibne_f, Int.toNat_natCast, tn_sub1, tn_add1, List.getElem?_map, gx, reach_i1, reach_i2, reach_s1, reach_si, reach_ss, caw, c9, f5.2] | simp (maxSteps := 10000000) (disch := (simp only [List.length_append, List.length_map, List.length_take, List.length_drop, List.length_cons, List.length_nil]; omega)) only [str_add, if_pos, if_neg] | simp only [go_sem, Nat.reduceAdd, Nat.reduceSub, Nat.reduceMul, Nat.reduceLT, Nat.reduceLeDiff, Nat.reduceEqDiff, Nat.reduceBEq, Nat.reduceBNe, reduceCtorEq, Int.reduceBNe, Int.reduceBEq, blt0, caw, c9, f5.2] | ((first | refine WC_split (fun hc => ?_) (fun hc => ?_) | refine WS_split (fun hc => ?_) (fun hc => ?_) | refine WD_split (fun hc => ?_) (fun hc => ?_)) <;> (try simp only [hc]) <;> (try simp only [Bool.and_eq_true, Bool.or_eq_true, Bool.not_eq_true', Bool.not_eq_false', decide_eq_true_eq, decide_eq_false_iff_not, beq_iff_eq, beq_eq_false_iff_ne, bne_iff_ne, bne_eq_false_iff_eq, ne_eq] at hc) <;> (try (have hb : @Eq Bool _ _ := hc; simp only [hb]; clear hb))))
            exact ret1n (v := .bool true) (fun _ => ex_ret) rfl rfl rfl ⟨rfl, rfl, rfl⟩
          · rw [decide_eq_false (fun e => hcl (f5.1 e))] at c9
            have hne : cl.length ≠ 0 := fun e => hcl (List.length_eq_zero_iff.1 e)
            repeat' (first | simp (maxSteps := 10000000) (disch := omega) only [go_sem, Nat.reduceAdd, Nat.reduceSub, Nat.reduceMul, Nat.reduceLT, Nat.reduceLeDiff, Nat.reduceEqDiff, Nat.reduceBEq, Nat.reduceBNe, reduceCtorEq, Int.reduceBNe, Int.reduceBEq, blt0, Int.reduceToNat, Int.toNat_zero, Int.toNat_one, if_pos, if_neg, wrap_i64, decide_eq_true, decide_eq_false, ibeq_t, ibeq_f, ibne_t, ibne_f, Int.toNat_natCast, tn_sub1, tn_add1, List.getElem?_map, gx, reach_i1, reach_i2, reach_s1, reach_si, reach_ss, caw, c9] | simp (maxSteps := 10000000) (disch := (simp only [List.length_append, List.length_map, List.length_take, List.length_drop, List.length_cons, List.length_nil]; omega)) only [str_add, if_pos, if_neg] | simp only [go_sem, Nat.reduceAdd, Nat.reduceSub, Nat.reduceMul, Nat.reduceLT, Nat.reduceLeDiff, Nat.reduceEqDiff, Nat.reduceBEq, Nat.reduceBNe, reduceCtorEq, Int.reduceBNe, Int.reduceBEq, blt0, caw, c9] | ((first | refine WC_split (fun hc => ?_) (fun hc => ?_) | refine WS_split (fun hc => ?_) (fun hc => ?_) | refine WD_split (fun hc => ?_) (fun hc => ?_)) <;> (try simp only [hc]) <;> (try simp only [Bool.and_eq_true, Bool.or_eq_true, Bool.not_eq_true', Bool.not_eq_false', decide_eq_true_eq, decide_eq_false_iff_not, beq_iff_eq, beq_eq_false_iff_ne, bne_iff_ne, bne_eq_false_iff_eq, ne_eq] at hc) <;> (try (have hb : @Eq Bool _ _ := hc; simp only [hb]; clear hb))))
            exact ret1n (v := .bool true) (fun _ => ex_ret) rfl rfl rfl ⟨rfl, rfl, rfl⟩
      · rw [if_pos hab] at c2
        rw [if_neg hac] at c3
        generalize merge A B [] = L at c2
        refine call_eq fn_5 rfl ?_
        rw [k_start]
        simp only [Try.f5, List.length_cons, List.length_nil, Nat.zero_add, Nat.reduceSub, Nat.reduceAdd, List.replicate, List.cons_append, List.nil_append]
        repeat' (first | simp (maxSteps := 10000000) (disch := omega) only [go_sem, Nat.reduceAdd, Nat.reduceSub, Nat.reduceMul, Nat.reduceLT, Nat.reduceLeDiff, Nat.reduceEqDiff, Nat.reduceBEq, Nat.reduceBNe, reduceCtorEq, Int.reduceBNe, Int.reduceBEq, blt0, Int.reduceToNat, Int.toNat_zero, Int.toNat_one, if_pos, if_neg, wrap_i64, decide_eq_true, decide_eq_false, ibeq_t, ibeq_f, ibne_t, ibne_f, Int.toNat_natCast, tn_sub1, tn_add1, List.getElem?_map, gx, reach_i1, reach_i2, reach_s1, reach_si, reach_ss, caw, c2, c3] | simp (maxSteps := 10000000) (disch := (simp only [List.length_append, List.length_map, List.length_take, List.length_drop, List.length_cons, List.length_nil]; omega)) only [str_add, if_pos, if_neg] | simp only [go_sem, Nat.reduceAdd, Nat.reduceSub, Nat.reduceMul, Nat.reduceLT, Nat.reduceLeDiff, Nat.reduceEqDiff, Nat.reduceBEq, Nat.reduceBNe, reduceCtorEq, Int.reduceBNe, Int.reduceBEq, blt0, caw, c2, c3] | ((first | refine WC_split (fun hc => ?_) (fun hc => ?_) | refine WS_split (fun hc => ?_) (fun hc => ?_) | refine WD_split (fun hc => ?_) (fun hc => ?_)) <;> (try simp only [hc]) <;> (try simp only [Bool.and_eq_true, Bool.or_eq_true, Bool.not_eq_true', Bool.not_eq_false', decide_eq_true_eq, decide_eq_false_iff_not, beq_iff_eq, beq_eq_false_iff_ne, bne_iff_ne, bne_eq_false_iff_eq, ne_eq] at hc) <;> (try (have hb : @Eq Bool _ _ := hc; simp only [hb]; clear hb))))
        all_goals exact ret1n (v := .bool true) (fun _ => ex_ret) rfl rfl rfl ⟨rfl, rfl, rfl⟩
    · rw [if_neg hab] at c2
      split at c3
      · rename_i x hx
        refine call_eq fn_5 rfl ?_
        rw [k_start]
        simp only [Try.f5, List.length_cons, List.length_nil, Nat.zero_add, Nat.reduceSub, Nat.reduceAdd, List.replicate, List.cons_append, List.nil_append]
        repeat' (first | simp (maxSteps := 10000000) (disch := omega) only [go_sem, Nat.reduceAdd, Nat.reduceSub, Nat.reduceMul, Nat.reduceLT, Nat.reduceLeDiff, Nat.reduceEqDiff, Nat.reduceBEq, Nat.reduceBNe, reduceCtorEq, Int.reduceBNe, Int.reduceBEq, blt0, Int.reduceToNat, Int.toNat_zero, Int.toNat_one, if_pos, if_neg, wrap_i64, decide_eq_true, decide_eq_false, ibeq_t, ibeq_f, ibne_t, ibne_f, Int.toNat_natCast, tn_sub1, tn_add1, List.getElem?_map, gx, reach_i1, reach_i2, reach_s1, reach_si, reach_ss, caw, c2, c3] | simp (maxSteps := 10000000) (disch := (simp only [List.length_append, List.length_map, List.length_take, List.length_drop, List.length_cons, List.length_nil]; omega)) only [str_add, if_pos, if_neg] | simp only [go_sem, Nat.reduceAdd, Nat.reduceSub, Nat.reduceMul, Nat.reduceLT, Nat.reduceLeDiff, Nat.reduceEqDiff, Nat.reduceBEq, Nat.reduceBNe, reduceCtorEq, Int.reduceBNe, Int.reduceBEq, blt0, caw, c2, c3] | ((first | refine WC_split (fun hc => ?_) (fun hc => ?_) | refine WS_split (fun hc => ?_) (fun hc => ?_) | refine WD_split (fun hc => ?_) (fun hc => ?_)) <;> (try simp only [hc]) <;> (try simp only [Bool.and_eq_true, Bool.or_eq_true, Bool.not_eq_true', Bool.not_eq_false', decide_eq_true_eq, decide_eq_false_iff_not, beq_iff_eq, beq_eq_false_iff_ne, bne_iff_ne, bne_eq_false_iff_eq, ne_eq] at hc) <;> (try (have hb : @Eq Bool _ _ := hc; simp only [hb]; clear hb))))
        all_goals exact ret1n (v := .bool true) (fun _ => ex_ret) rfl rfl rfl ⟨rfl, rfl, rfl⟩
      · refine call_eq fn_5 rfl ?_
        rw [k_start]
        simp only [Try.f5, List.length_cons, List.length_nil, Nat.zero_add, Nat.reduceSub, Nat.reduceAdd, List.replicate, List.cons_append, List.nil_append]
        repeat' (first | simp (maxSteps := 10000000) (disch := omega) only [go_sem, Nat.reduceAdd, Nat.reduceSub, Nat.reduceMul, Nat.reduceLT, Nat.reduceLeDiff, Nat.reduceEqDiff, Nat.reduceBEq, Nat.reduceBNe, reduceCtorEq, Int.reduceBNe, Int.reduceBEq, blt0, Int.reduceToNat, Int.toNat_zero, Int.toNat_one, if_pos, if_neg, wrap_i64, decide_eq_true, decide_eq_false, ibeq_t, ibeq_f, ibne_t, ibne_f, Int.toNat_natCast, tn_sub1, tn_add1, List.getElem?_map, gx, reach_i1, reach_i2, reach_s1, reach_si, reach_ss, caw, c2, c3] | simp (maxSteps := 10000000) (disch := (simp only [List.length_append, List.length_map, List.length_take, List.length_drop, List.length_cons, List.length_nil]; omega)) only [str_add, if_pos, if_neg] | simp only [go_sem, Nat.reduceAdd, Nat.reduceSub, Nat.reduceMul, Nat.reduceLT, Nat.reduceLeDiff, Nat.reduceEqDiff, Nat.reduceBEq, Nat.reduceBNe, reduceCtorEq, Int.reduceBNe, Int.reduceBEq, blt0, caw, c2, c3] | ((first | refine WC_split (fun hc => ?_) (fun hc => ?_) | refine WS_split (fun hc => ?_) (fun hc => ?_) | refine WD_split (fun hc => ?_) (fun hc => ?_)) <;> (try simp only [hc]) <;> (try simp only [Bool.and_eq_true, Bool.or_eq_true, Bool.not_eq_true', Bool.not_eq_false', decide_eq_true_eq, decide_eq_false_iff_not, beq_iff_eq, beq_eq_false_iff_ne, bne_iff_ne, bne_eq_false_iff_eq, ne_eq] at hc) <;> (try (have hb : @Eq Bool _ _ := hc; simp only [hb]; clear hb))))
        all_goals exact ret1n (v := .bool true) (fun _ => ex_ret) rfl rfl rfl ⟨rfl, rfl, rfl⟩
  · by_cases h1 : A.length ≤ 60
    · by_cases h2 : B.length ≤ 60
      · have h3 : ¬ C.length ≤ 60 := fun h => hf ⟨h1, h2, h⟩
        refine call_eq fn_5 rfl ?_
        rw [k_start]
        simp only [Try.f5, List.length_cons, List.length_nil, Nat.zero_add, Nat.reduceSub, Nat.reduceAdd, List.replicate, List.cons_append, List.nil_append]
        repeat' (first | simp (maxSteps := 10000000) (disch := omega) only [go_sem, Nat.reduceAdd, Nat.reduceSub, Nat.reduceMul, Nat.reduceLT, Nat.reduceLeDiff, Nat.reduceEqDiff, Nat.reduceBEq, Nat.reduceBNe, reduceCtorEq, Int.reduceBNe, Int.reduceBEq, blt0, Int.reduceToNat, Int.toNat_zero, Int.toNat_one, if_pos, if_neg, wrap_i64, decide_eq_true, decide_eq_false, ibeq_t, ibeq_f, ibne_t, ibne_f, Int.toNat_natCast, tn_sub1, tn_add1, List.getElem?_map, gx, reach_i1, reach_i2, reach_s1, reach_si, reach_ss, caw] | simp (maxSteps := 10000000) (disch := (simp only [List.length_append, List.length_map, List.length_take, List.length_drop, List.length_cons, List.length_nil]; omega)) only [str_add, if_pos, if_neg] | simp only [go_sem, Nat.reduceAdd, Nat.reduceSub, Nat.reduceMul, Nat.reduceLT, Nat.reduceLeDiff, Nat.reduceEqDiff, Nat.reduceBEq, Nat.reduceBNe, reduceCtorEq, Int.reduceBNe, Int.reduceBEq, blt0, caw] | ((first | refine WC_split (fun hc => ?_) (fun hc => ?_) | refine WS_split (fun hc => ?_) (fun hc => ?_) | refine WD_split (fun hc => ?_) (fun hc => ?_)) <;> (try simp only [hc]) <;> (try simp only [Bool.and_eq_true, Bool.or_eq_true, Bool.not_eq_true', Bool.not_eq_false', decide_eq_true_eq, decide_eq_false_iff_not, beq_iff_eq, beq_eq_false_iff_ne, bne_iff_ne, bne_eq_false_iff_eq, ne_eq] at hc) <;> (try (have hb : @Eq Bool _ _ := hc; simp only [hb]; clear hb))))
        exact ret1n (v := .bool true) (fun _ => ex_ret) rfl rfl rfl ⟨rfl, rfl, rfl⟩
      · refine call_eq fn_5 rfl ?_
        rw [k_start]
        simp only [Try.f5, List.length_cons, List.length_nil, Nat.zero_add, Nat.reduceSub, Nat.reduceAdd, List.replicate, List.cons_append, List.nil_append]
        repeat' (first | simp (maxSteps := 10000000) (disch := omega) only [go_sem, Nat.reduceAdd, Nat.reduceSub, Nat.reduceMul, Nat.reduceLT, Nat.reduceLeDiff, Nat.reduceEqDiff, Nat.reduceBEq, Nat.reduceBNe, reduceCtorEq, Int.reduceBNe, Int.reduceBEq, blt0, Int.reduceToNat, Int.toNat_zero, Int.toNat_one, if_pos, if_neg, wrap_i64, decide_eq_true, decide_eq_false, ibeq_t, ibeq_f, ibne_t, ibne_f, Int.toNat_natCast, tn_sub1, tn_add1, List.getElem?_map, gx, reach_i1, reach_i2, reach_s1, reach_si, reach_ss, caw] | simp (maxSteps := 10000000) (disch := (simp only [List.length_append, List.length_map, List.length_take, List.length_drop, List.length_cons, List.length_nil]; omega)) only [str_add, if_pos, if_neg] | simp only [go_sem, Nat.reduceAdd, Nat.reduceSub, Nat.reduceMul, Nat.reduceLT, Nat.reduceLeDiff, Nat.reduceEqDiff, Nat.reduceBEq, Nat.reduceBNe, reduceCtorEq, Int.reduceBNe, Int.reduceBEq, blt0, caw] | ((first | refine WC_split (fun hc => ?_) (fun hc => ?_) | refine WS_split (fun hc => ?_) (fun hc => ?_) | refine WD_split (fun hc => ?_) (fun hc => ?_)) <;> (try simp only [hc]) <;> (try simp only [Bool.and_eq_true, Bool.or_eq_true, Bool.not_eq_true', Bool.not_eq_false', decide_eq_true_eq, decide_eq_false_iff_not, beq_iff_eq, beq_eq_false_iff_ne, bne_iff_ne, bne_eq_false_iff_eq, ne_eq] at hc) <;> (try (have hb : @Eq Bool _ _ := hc; simp only [hb]; clear hb))))
        exact ret1n (v := .bool true) (fun _ => ex_ret) rfl rfl rfl ⟨rfl, rfl, rfl⟩
    · refine call_eq fn_5 rfl ?_
      rw [k_start]
      simp only [Try.f5, List.length_cons, List.length_nil, Nat.zero_add, Nat.reduceSub, Nat.reduceAdd, List.replicate, List.cons_append, List.nil_append]
      repeat' (first | simp (maxSteps := 10000000) (disch := omega) only [go_sem, Nat.reduceAdd, Nat.reduceSub, Nat.reduceMul, Nat.reduceLT, Nat.reduceLeDiff, Nat.reduceEqDiff, Nat.reduceBEq, Nat.reduceBNe, reduceCtorEq, Int.reduceBNe, Int.reduceBEq, blt0, Int.reduceToNat, Int.toNat_zero, Int.toNat_one, if_pos, if_neg, wrap_i64, decide_eq_true, decide_eq_false, ibeq_t, ibeq_f, ibne_t, ibne_f, Int.toNat_natCast, tn_sub1, tn_add1, List.getElem?_map, gx, reach_i1, reach_i2, reach_s1, reach_si, reach_ss, caw] | simp (maxSteps := 10000000) (disch := (simp only [List.length_append, List.length_map, List.length_take, List.length_drop, List.length_cons, List.length_nil]; omega)) only [str_add, if_pos, if_neg] | simp only [go_sem, Nat.reduceAdd, Nat.reduceSub, Nat.reduceMul, Nat.reduceLT, Nat.reduceLeDiff, Nat.reduceEqDiff, Nat.reduceBEq, Nat.reduceBNe, reduceCtorEq, Int.reduceBNe, Int.reduceBEq, blt0, caw] | ((first | refine WC_split (fun hc => ?_) (fun hc => ?_) | refine WS_split (fun hc => ?_) (fun hc => ?_) | refine WD_split (fun hc => ?_) (fun hc => ?_)) <;> (try simp only [hc]) <;> (try simp only [Bool.and_eq_true, Bool.or_eq_true, Bool.not_eq_true', Bool.not_eq_false', decide_eq_true_eq, decide_eq_false_iff_not, beq_iff_eq, beq_eq_false_iff_ne, bne_iff_ne, bne_eq_false_iff_eq, ne_eq] at hc) <;> (try (have hb : @Eq Bool _ _ := hc; simp only [hb]; clear hb))))
      exact ret1n (v := .bool true) (fun _ => ex_ret) rfl rfl rfl ⟨rfl, rfl, rfl⟩
end Go.Proofs.Ytknblodiilgogaa
