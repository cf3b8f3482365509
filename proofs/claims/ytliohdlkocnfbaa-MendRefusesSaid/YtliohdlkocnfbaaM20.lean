/- The law MendRefuses, of all. -/
import Derived.Test.YtliohdlkocnfbaaM19
set_option linter.all false
set_option maxRecDepth 100000
namespace Go.Proofs.Ytliohdlkocnfbaa
open Go Go.Abs

theorem new_okC {l : List PR} (h : chk l = true) (k : Int) : okC (getT (newT l) k) = true := by
  refine get_okC (puts_okC l (lo := -1) h fun c hc => ?_) k
  rw [empty_is.1] at hc
  have := List.eq_of_mem_replicate (show c ∈ List.replicate 4096 ((0, false) : CR) from hc)
  rw [this]; rfl
set_option maxHeartbeats 8000000 in
theorem law_MendRefuses (a b : List PR) (lx : Int) (Lx : List Int) (Kx : List Nat) (Cx : List CR) : (Lim cfg).call 4 [.sl true (a.map prow), .sl true (b.map prow), .agg (toldR lx Lx Kx Cx)] [] = some (.bool true, false, []) := by
  have caw := call_9
  have c1 := call_8 a lx Lx Kx Cx
  have c2 := call_8 b lx Lx Kx Cx
  simp only [toldR] at c1 c2
  by_cases hf1 : fewT a Lx Kx Cx
  · by_cases hf2 : fewT b Lx Kx Cx
    · have ha := hf1.1
      have hb := hf2.1
      rw [decide_eq_true hf1] at c1
      rw [decide_eq_true hf2] at c2
      cases h1 : chk a with
      | true =>
        cases h2 : chk b with
        | true =>
          exact refuses_of (newT a) (newT b) (new_Ok a) (new_Ok b) (new_okC h1) (new_okC h2) a b h1 h2 lx Lx Kx Cx hf1 hf2 (call_17 a (by omega) h1) (call_10 b (by omega) h2)
        | false =>
          have c3 := call_17 a (by omega) h1
          have c4 := new_bad b (by omega) h2
          generalize newT a = T at c3
          refine call_eq fn_4 rfl ?_
          rw [k_start]
          simp only [Try.f4, List.length_cons, List.length_nil, Nat.zero_add, Nat.reduceSub, Nat.reduceAdd, List.replicate, List.cons_append, List.nil_append]
          repeat' (first | simp (maxSteps := 10000000) (disch := omega) only [go_sem, Nat.reduceAdd, Nat.reduceSub, Nat.reduceMul, Nat.reduceLT, Nat.reduceLeDiff, Nat.reduceEqDiff, Nat.reduceBEq, Nat.reduceBNe, reduceCtorEq, Int.reduceBNe, Int.reduceBEq, blt0, Int.reduceToNat, Int.toNat_zero, Int.toNat_one, if_pos, if_neg, wrap_i64, decide_eq_true, decide_eq_false, ibeq_t, ibeq_f, ibne_t, ibne_f, Int.toNat_natCast, tn_sub1, tn_add1, List.getElem?_map, gx, reach_i1, reach_i2, reach_s1, reach_si, reach_ss, toldR, c1, c2, c3, c4, caw, treeC_ren] | simp (maxSteps := 10000000) (disch := (simp only [List.length_append, List.length_map, List.length_take, List.length_drop, List.length_cons, List.length_nil]; omega)) only [str_add, if_pos, if_neg] | simp only [go_sem, Nat.reduceAdd, Nat.reduceSub, Nat.reduceMul, Nat.reduceLT, Nat.reduceLeDiff, Nat.reduceEqDiff, Nat.reduceBEq, Nat.reduceBNe, reduceCtorEq, Int.reduceBNe, Int.reduceBEq, blt0, toldR, c1, c2, c3, c4, caw, treeC_ren] | ((first | with_reducible refine WC_split (fun hc => ?_) (fun hc => ?_) | with_reducible refine WS_split (fun hc => ?_) (fun hc => ?_) | with_reducible refine WD_split (fun hc => ?_) (fun hc => ?_)) <;> (try simp only [hc]) <;> (try simp only [Bool.and_eq_true, Bool.or_eq_true, Bool.not_eq_true', Bool.not_eq_false', decide_eq_true_eq, decide_eq_false_iff_not, beq_iff_eq, beq_eq_false_iff_ne, bne_iff_ne, bne_eq_false_iff_eq, ne_eq] at hc) <;> (try (have hb : @Eq Bool _ _ := hc; simp only [hb]; clear hb))))
          exact ret1n (v := .bool true) (fun _ => ex_ret) rfl rfl rfl ⟨rfl, rfl, rfl⟩
      | false =>
        have c3 := mnew_bad a (by omega) h1
        cases h2 : chk b with
        | true =>
          have c4 := call_10 b (by omega) h2
          generalize newT b = T at c4
          refine call_eq fn_4 rfl ?_
          rw [k_start]
          simp only [Try.f4, List.length_cons, List.length_nil, Nat.zero_add, Nat.reduceSub, Nat.reduceAdd, List.replicate, List.cons_append, List.nil_append]
          repeat' (first | simp (maxSteps := 10000000) (disch := omega) only [go_sem, Nat.reduceAdd, Nat.reduceSub, Nat.reduceMul, Nat.reduceLT, Nat.reduceLeDiff, Nat.reduceEqDiff, Nat.reduceBEq, Nat.reduceBNe, reduceCtorEq, Int.reduceBNe, Int.reduceBEq, blt0, Int.reduceToNat, Int.toNat_zero, Int.toNat_one, if_pos, if_neg, wrap_i64, decide_eq_true, decide_eq_false, ibeq_t, ibeq_f, ibne_t, ibne_f, Int.toNat_natCast, tn_sub1, tn_add1, List.getElem?_map, gx, reach_i1, reach_i2, reach_s1, reach_si, reach_ss, toldR, c1, c2, c3, c4, caw, treeC_ren] | simp (maxSteps := 10000000) (disch := (simp only [List.length_append, List.length_map, List.length_take, List.length_drop, List.length_cons, List.length_nil]; omega)) only [str_add, if_pos, if_neg] | simp only [go_sem, Nat.reduceAdd, Nat.reduceSub, Nat.reduceMul, Nat.reduceLT, Nat.reduceLeDiff, Nat.reduceEqDiff, Nat.reduceBEq, Nat.reduceBNe, reduceCtorEq, Int.reduceBNe, Int.reduceBEq, blt0, toldR, c1, c2, c3, c4, caw, treeC_ren] | ((first | with_reducible refine WC_split (fun hc => ?_) (fun hc => ?_) | with_reducible refine WS_split (fun hc => ?_) (fun hc => ?_) | with_reducible refine WD_split (fun hc => ?_) (fun hc => ?_)) <;> (try simp only [hc]) <;> (try simp only [Bool.and_eq_true, Bool.or_eq_true, Bool.not_eq_true', Bool.not_eq_false', decide_eq_true_eq, decide_eq_false_iff_not, beq_iff_eq, beq_eq_false_iff_ne, bne_iff_ne, bne_eq_false_iff_eq, ne_eq] at hc) <;> (try (have hb : @Eq Bool _ _ := hc; simp only [hb]; clear hb))))
          exact ret1n (v := .bool true) (fun _ => ex_ret) rfl rfl rfl ⟨rfl, rfl, rfl⟩
        | false =>
          have c4 := new_bad b (by omega) h2
          refine call_eq fn_4 rfl ?_
          rw [k_start]
          simp only [Try.f4, List.length_cons, List.length_nil, Nat.zero_add, Nat.reduceSub, Nat.reduceAdd, List.replicate, List.cons_append, List.nil_append]
          repeat' (first | simp (maxSteps := 10000000) (disch := omega) only [go_sem, Nat.reduceAdd, Nat.reduceSub, Nat.reduceMul, Nat.reduceLT, Nat.reduceLeDiff, Nat.reduceEqDiff, Nat.reduceBEq, Nat.reduceBNe, reduceCtorEq, Int.reduceBNe, Int.reduceBEq, blt0, Int.reduceToNat, Int.toNat_zero, Int.toNat_one, if_pos, if_neg, wrap_i64, decide_eq_true, decide_eq_false, ibeq_t, ibeq_f, ibne_t, ibne_f, Int.toNat_natCast, tn_sub1, tn_add1, List.getElem?_map, gx, reach_i1, reach_i2, reach_s1, reach_si, reach_ss, toldR, c1, c2, c3, c4, caw, treeC_ren] | simp (maxSteps := 10000000) (disch := (simp only [List.length_append, List.length_map, List.length_take, List.length_drop, List.length_cons, List.length_nil]; omega)) only [str_add, if_pos, if_neg] | simp only [go_sem, Nat.reduceAdd, Nat.reduceSub, Nat.reduceMul, Nat.reduceLT, Nat.reduceLeDiff, Nat.reduceEqDiff, Nat.reduceBEq, Nat.reduceBNe, reduceCtorEq, Int.reduceBNe, Int.reduceBEq, blt0, toldR, c1, c2, c3, c4, caw, treeC_ren] | ((first | with_reducible refine WC_split (fun hc => ?_) (fun hc => ?_) | with_reducible refine WS_split (fun hc => ?_) (fun hc => ?_) | with_reducible refine WD_split (fun hc => ?_) (fun hc => ?_)) <;> (try simp only [hc]) <;> (try simp only [Bool.and_eq_true, Bool.or_eq_true, Bool.not_eq_true', Bool.not_eq_false', decide_eq_true_eq, decide_eq_false_iff_not, beq_iff_eq, beq_eq_false_iff_ne, bne_iff_ne, bne_eq_false_iff_eq, ne_eq] at hc) <;> (try (have hb : @Eq Bool _ _ := hc; simp only [hb]; clear hb))))
          exact ret1n (v := .bool true) (fun _ => ex_ret) rfl rfl rfl ⟨rfl, rfl, rfl⟩
    · rw [decide_eq_true hf1] at c1
      rw [decide_eq_false hf2] at c2
      refine call_eq fn_4 rfl ?_
      rw [k_start]
      simp only [Try.f4, List.length_cons, List.length_nil, Nat.zero_add, Nat.reduceSub, Nat.reduceAdd, List.replicate, List.cons_append, List.nil_append]
      repeat' (first | simp (maxSteps := 10000000) (disch := omega) only [go_sem, Nat.reduceAdd, Nat.reduceSub, Nat.reduceMul, Nat.reduceLT, Nat.reduceLeDiff, Nat.reduceEqDiff, Nat.reduceBEq, Nat.reduceBNe, reduceCtorEq, Int.reduceBNe, Int.reduceBEq, blt0, Int.reduceToNat, Int.toNat_zero, Int.toNat_one, if_pos, if_neg, wrap_i64, decide_eq_true, decide_eq_false, ibeq_t, ibeq_f, ibne_t, ibne_f, Int.toNat_natCast, tn_sub1, tn_add1, List.getElem?_map, gx, reach_i1, reach_i2, reach_s1, reach_si, reach_ss, toldR, c1, c2, caw] | simp (maxSteps := 10000000) (disch := (simp only [List.length_append, List.length_map, List.length_take, List.length_drop, List.length_cons, List.length_nil]; omega)) only [str_add, if_pos, if_neg] | simp only [go_sem, Nat.reduceAdd, Nat.reduceSub, Nat.reduceMul, Nat.reduceLT, Nat.reduceLeDiff, Nat.reduceEqDiff, Nat.reduceBEq, Nat.reduceBNe, reduceCtorEq, Int.reduceBNe, Int.reduceBEq, blt0, toldR, c1, c2, caw] | ((first | with_reducible refine WC_split (fun hc => ?_) (fun hc => ?_) | with_reducible refine WS_split (fun hc => ?_) (fun hc => ?_) | with_reducible refine WD_split (fun hc => ?_) (fun hc => ?_)) <;> (try simp only [hc]) <;> (try simp only [Bool.and_eq_true, Bool.or_eq_true, Bool.not_eq_true', Bool.not_eq_false', decide_eq_true_eq, decide_eq_false_iff_not, beq_iff_eq, beq_eq_false_iff_ne, bne_iff_ne, bne_eq_false_iff_eq, ne_eq] at hc) <;> (try (have hb : @Eq Bool _ _ := hc; simp only [hb]; clear hb))))
      exact ret1n (v := .bool true) (fun _ => ex_ret) rfl rfl rfl ⟨rfl, rfl, rfl⟩
  · rw [decide_eq_false hf1] at c1
    refine call_eq fn_4 rfl ?_
    rw [k_start]
    simp only [Try.f4, List.length_cons, List.length_nil, Nat.zero_add, Nat.reduceSub, Nat.reduceAdd, List.replicate, List.cons_append, List.nil_append]
    repeat' (first | simp (maxSteps := 10000000) (disch := omega) only [go_sem, Nat.reduceAdd, Nat.reduceSub, Nat.reduceMul, Nat.reduceLT, Nat.reduceLeDiff, Nat.reduceEqDiff, Nat.reduceBEq, Nat.reduceBNe, reduceCtorEq, Int.reduceBNe, Int.reduceBEq, blt0, Int.reduceToNat, Int.toNat_zero, Int.toNat_one, if_pos, if_neg, wrap_i64, decide_eq_true, decide_eq_false, ibeq_t, ibeq_f, ibne_t, ibne_f, Int.toNat_natCast, tn_sub1, tn_add1, List.getElem?_map, gx, reach_i1, reach_i2, reach_s1, reach_si, reach_ss, toldR, c1, caw] | simp (maxSteps := 10000000) (disch := (simp only [List.length_append, List.length_map, List.length_take, List.length_drop, List.length_cons, List.length_nil]; omega)) only [str_add, if_pos, if_neg] | simp only [go_sem, Nat.reduceAdd, Nat.reduceSub, Nat.reduceMul, Nat.reduceLT, Nat.reduceLeDiff, Nat.reduceEqDiff, Nat.reduceBEq, Nat.reduceBNe, reduceCtorEq, Int.reduceBNe, Int.reduceBEq, blt0, toldR, c1, caw] | ((first | with_reducible refine WC_split (fun hc => ?_) (fun hc => ?_) | with_reducible refine WS_split (fun hc => ?_) (fun hc => ?_) | with_reducible refine WD_split (fun hc => ?_) (fun hc => ?_)) <;> (try simp only [hc]) <;> (try simp only [Bool.and_eq_true, Bool.or_eq_true, Bool.not_eq_true', Bool.not_eq_false', decide_eq_true_eq, decide_eq_false_iff_not, beq_iff_eq, beq_eq_false_iff_ne, bne_iff_ne, bne_eq_false_iff_eq, ne_eq] at hc) <;> (try (have hb : @Eq Bool _ _ := hc; simp only [hb]; clear hb))))
    exact ret1n (v := .bool true) (fun _ => ex_ret) rfl rfl rfl ⟨rfl, rfl, rfl⟩
end Go.Proofs.Ytliohdlkocnfbaa
