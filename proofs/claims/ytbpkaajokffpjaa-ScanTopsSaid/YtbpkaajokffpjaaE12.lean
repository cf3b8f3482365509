/- The document's pages. -/
import Derived.Test.YtbpkaajokffpjaaE11
import Derived.Test.YtbpkaajokffpjaaA0
set_option linter.all false
set_option maxRecDepth 100000
namespace Go.Proofs.Ytbpkaajokffpjaa
open Go Go.Abs

def inPage (on : List SR) (a : Int) (p : PR) : Bool := decide (a < p.1) && hasS on p.1
def pagR (O : List PR) (on : List SR) (a n : Int) (m : Bool) (e : Int) : List V := [.sl true (O.map prow), .sl true (on.map srow), .int .i64 a, .int .i64 n, .bool m, .int .i64 e]
def seen (l : List PR) (on : List SR) (a : Int) (i : Nat) : List PR := (l.take i).filter (inPage on a)
theorem seen_step {l : List PR} {on : List SR} {a : Int} {i : Nat} (h : i < l.length) : seen l on a (i + 1) = seen l on a i ++ (if inPage on a l[i] = true then [l[i]] else []) := by
  rw [seen, seen, List.take_succ_eq_append_getElem h, List.filter_append, List.filter_cons, List.filter_nil]
theorem seen_no {l : List PR} {on : List SR} {a : Int} {i : Nat} (h : i < l.length) (hn : inPage on a l[i] = false) : seen l on a (i + 1) = seen l on a i := by rw [seen_step h, hn]; simp
theorem seen_yes {l : List PR} {on : List SR} {a : Int} {i : Nat} (h : i < l.length) (hn : inPage on a l[i] = true) : seen l on a (i + 1) = seen l on a i ++ [l[i]] := by rw [seen_step h, if_pos hn]
theorem seen_full {l : List PR} {on : List SR} {a : Int} {i : Nat} (h : i < l.length) (hn : inPage on a l[i] = true) : ∃ r, l.filter (inPage on a) = seen l on a i ++ l[i] :: r :=
  ⟨(l.drop (i + 1)).filter (inPage on a), by
    conv => lhs; rw [← List.take_append_drop i l]
    rw [List.filter_append, List.drop_eq_getElem_cons h, List.filter_cons, if_pos hn]; rfl⟩
theorem seen_len {l : List PR} {on : List SR} {a : Int} {i : Nat} : (seen l on a i).length ≤ l.length := Nat.le_trans (List.length_filter_le _ _) (by rw [List.length_take]; omega)
theorem lastK_snoc {a : Int} {O : List PR} {p : PR} : lastK a (O ++ [p]) = p.1 := by simp [lastK]
def T57 (l : List PR) (on : List SR) (a n : Int) (i : Nat) : St := { fr := mkF 68 [(0, .sl true (l.map prow)), (3, .ptr 0 0), (4, .ptr 1 0), (5, .ptr 2 0), (6, .int .i64 i)], own := [], hp := [.cells 99 [] (curR on a n), .cells 101 [0, 1] (pagR [] [] 0 0 false 0), .cells 101 [0] (pagR (seen l on a i) on (lastK a (seen l on a i)) n false 0)], al := [], nb := 0 }
def refPage (l : List PR) (on : List SR) (a n : Int) : List V :=
  if (chk l && okC on a n) = true then pagR ((l.filter (inPage on a)).take n.toNat) on (lastK a ((l.filter (inPage on a)).take n.toNat)) n (decide ((l.filter (inPage on a)).length > n.toNat)) 0
  else pagR [] [] 0 0 false 1
set_option maxHeartbeats 4000000 in
theorem call_57 (l : List PR) (on : List SR) (a n : Int) (hlen : l.length ≤ 100000) (hon : on.length ≤ 100000) :
    (Lim cfg).call 57 [.sl true (l.map prow), .agg (curR on a n)] [] = some (.agg (refPage l on a n), false, []) := by
  have c1 := call_45 l hlen
  have c2 := call_137 on a n hon
  by_cases h1 : chk l = true
  · rw [h1] at c1
    by_cases h2 : okC on a n = true
    · rw [h2] at c2
      have hb := h2
      simp only [okC, Bool.and_eq_true, decide_eq_true_eq] at hb
      obtain ⟨hs, ha1, ha2, hn1, hn2⟩ := hb
      rw [refPage, if_pos (by rw [h1, h2]; rfl)]
      simp only [curR] at c2
      refine call_eq fn_57 rfl ?_
      rw [k_start]
      simp only [Try.f57, List.length_cons, List.length_nil, Nat.zero_add, Nat.reduceSub, Nat.reduceAdd, List.replicate, List.cons_append, List.nil_append]
      simp only [go_sem, Nat.reduceAdd, Nat.reduceSub, Nat.reduceMul, Nat.reduceLT, Nat.reduceLeDiff, Nat.reduceEqDiff, Nat.reduceBEq, Nat.reduceBNe, reduceCtorEq, Int.reduceBNe, Int.reduceBEq, blt0, c1, c2, curR]
      refine k_loop (T57 l on a n) (fun i => i ≤ l.length ∧ (seen l on a i).length ≤ n.toNat) (fun i => l.length - i) 0 (K := cfg.kill 57 5) rfl ⟨Nat.zero_le _, Nat.zero_le _⟩ (by kernel_rfl) ?_
      intro i ⟨hi, hO⟩ k' Q' hnorm hexit hret
      simp only [T57, mkF, List.foldl, List.replicate, List.set, List.cons_append, List.nil_append]
      by_cases hlt : i < l.length
      · have c3 := call_138 on l[i].1 hon
        have hsl : (seen l on a i).length ≤ l.length := seen_len
        have hb : ((seen l on a i).length + 1) * 16 ≤ strMax := by unfold strMax; omega
        repeat' (first | simp (maxSteps := 10000000) (disch := omega) only [go_sem, Nat.reduceAdd, Nat.reduceSub, Nat.reduceMul, Nat.reduceLT, Nat.reduceLeDiff, Nat.reduceEqDiff, Nat.reduceBEq, Nat.reduceBNe, reduceCtorEq, Int.reduceBNe, Int.reduceBEq, blt0, Int.reduceToNat, Int.toNat_zero, Int.toNat_one, if_pos, if_neg, wrap_i64, decide_eq_true, decide_eq_false, ibeq_t, ibeq_f, ibne_t, ibne_f, Int.toNat_natCast, tn_sub1, tn_add1, List.getElem?_map, gx, reach_i1, reach_i2, reach_s1, reach_si, reach_ss, c3, curR, pagR, prow, fit_prow, head_prow, head_prow2, hb] | simp (maxSteps := 10000000) (disch := (simp only [List.length_append, List.length_map, List.length_take, List.length_drop, List.length_cons, List.length_nil]; omega)) only [str_add, if_pos, if_neg] | simp only [go_sem, Nat.reduceAdd, Nat.reduceSub, Nat.reduceMul, Nat.reduceLT, Nat.reduceLeDiff, Nat.reduceEqDiff, Nat.reduceBEq, Nat.reduceBNe, reduceCtorEq, Int.reduceBNe, Int.reduceBEq, blt0, c3, curR, pagR, prow, fit_prow, head_prow, head_prow2, hb] | (refine WC_split (fun hc => ?_) (fun hc => ?_) <;> (try simp only [hc]) <;> (try simp only [Bool.and_eq_true, Bool.or_eq_true, Bool.not_eq_true', Bool.not_eq_false', decide_eq_true_eq, decide_eq_false_iff_not, beq_iff_eq, beq_eq_false_iff_ne, bne_iff_ne, bne_eq_false_iff_eq, ne_eq] at hc) <;> (try (have hb : @Eq Bool _ _ := hc; simp only [hb]; clear hb))) | (refine WS_split (fun hc => ?_) (fun hc => ?_) <;> (try simp only [hc]) <;> (try simp only [Bool.and_eq_true, Bool.or_eq_true, Bool.not_eq_true', Bool.not_eq_false', decide_eq_true_eq, decide_eq_false_iff_not, beq_iff_eq, beq_eq_false_iff_ne, bne_iff_ne, bne_eq_false_iff_eq, ne_eq] at hc) <;> (try (have hb : @Eq Bool _ _ := hc; simp only [hb]; clear hb))) | (refine WD_split (fun hc => ?_) (fun hc => ?_) <;> (try simp only [hc]) <;> (try simp only [Bool.and_eq_true, Bool.or_eq_true, Bool.not_eq_true', Bool.not_eq_false', decide_eq_true_eq, decide_eq_false_iff_not, beq_iff_eq, beq_eq_false_iff_ne, bne_iff_ne, bne_eq_false_iff_eq, ne_eq] at hc) <;> (try (have hb : @Eq Bool _ _ := hc; simp only [hb]; clear hb))))
        · have hn : inPage on a l[i] = false := by simp only [inPage]; rw [decide_eq_false (by omega)]; rfl
          refine hnorm (i + 1) _ ⟨by omega, by rw [seen_no hlt hn]; exact hO⟩ (by omega) ?_
          rw [T57, seen_no hlt hn]; kernel_rfl
        · have hn : inPage on a l[i] = false := by simp only [inPage, hc, Bool.and_false]
          refine hnorm (i + 1) _ ⟨by omega, by rw [seen_no hlt hn]; exact hO⟩ (by omega) ?_
          rw [T57, seen_no hlt hn]; kernel_rfl
        · rename_i u1 u2
          have hn : inPage on a l[i] = true := by simp only [inPage, u2, Bool.and_true]; exact decide_eq_true (by omega)
          obtain ⟨r, e⟩ := seen_full hlt hn
          refine hret _ ?_
          repeat' (first | simp (maxSteps := 10000000) (disch := omega) only [go_sem, Nat.reduceAdd, Nat.reduceSub, Nat.reduceMul, Nat.reduceLT, Nat.reduceLeDiff, Nat.reduceEqDiff, Nat.reduceBEq, Nat.reduceBNe, reduceCtorEq, Int.reduceBNe, Int.reduceBEq, blt0, Int.reduceToNat, Int.toNat_zero, Int.toNat_one, if_pos, if_neg, wrap_i64, decide_eq_true, decide_eq_false, ibeq_t, ibeq_f, ibne_t, ibne_f, Int.toNat_natCast, tn_sub1, tn_add1, List.getElem?_map, gx, reach_i1, reach_i2, reach_s1, reach_si, reach_ss] | simp (maxSteps := 10000000) (disch := (simp only [List.length_append, List.length_map, List.length_take, List.length_drop, List.length_cons, List.length_nil]; omega)) only [str_add, if_pos, if_neg] | simp only [go_sem, Nat.reduceAdd, Nat.reduceSub, Nat.reduceMul, Nat.reduceLT, Nat.reduceLeDiff, Nat.reduceEqDiff, Nat.reduceBEq, Nat.reduceBNe, reduceCtorEq, Int.reduceBNe, Int.reduceBEq, blt0] | (refine WC_split (fun hc => ?_) (fun hc => ?_) <;> (try simp only [hc]) <;> (try simp only [Bool.and_eq_true, Bool.or_eq_true, Bool.not_eq_true', Bool.not_eq_false', decide_eq_true_eq, decide_eq_false_iff_not, beq_iff_eq, beq_eq_false_iff_ne, bne_iff_ne, bne_eq_false_iff_eq, ne_eq] at hc) <;> (try (have hb : @Eq Bool _ _ := hc; simp only [hb]; clear hb))) | (refine WS_split (fun hc => ?_) (fun hc => ?_) <;> (try simp only [hc]) <;> (try simp only [Bool.and_eq_true, Bool.or_eq_true, Bool.not_eq_true', Bool.not_eq_false', decide_eq_true_eq, decide_eq_false_iff_not, beq_iff_eq, beq_eq_false_iff_ne, bne_iff_ne, bne_eq_false_iff_eq, ne_eq] at hc) <;> (try (have hb : @Eq Bool _ _ := hc; simp only [hb]; clear hb))) | (refine WD_split (fun hc => ?_) (fun hc => ?_) <;> (try simp only [hc]) <;> (try simp only [Bool.and_eq_true, Bool.or_eq_true, Bool.not_eq_true', Bool.not_eq_false', decide_eq_true_eq, decide_eq_false_iff_not, beq_iff_eq, beq_eq_false_iff_ne, bne_iff_ne, bne_eq_false_iff_eq, ne_eq] at hc) <;> (try (have hb : @Eq Bool _ _ := hc; simp only [hb]; clear hb))))
          refine retc1 (fun _ => ex_ret) rfl rfl ⟨?_, rfl, rfl⟩
          rw [e, List.take_left' (by omega), decide_eq_true (by rw [List.length_append, List.length_cons]; omega)]
          rfl
        · rename_i u1 u2
          have hn : inPage on a l[i] = true := by simp only [inPage, u2, Bool.and_true]; exact decide_eq_true (by omega)
          refine hnorm (i + 1) _ ⟨by omega, by rw [seen_yes hlt hn, List.length_append, List.length_singleton]; omega⟩ (by omega) ?_
          rw [T57, seen_yes hlt hn, lastK_snoc]; simp only [pagR, List.map_append]; kernel_rfl
      · repeat' (first | simp (maxSteps := 10000000) (disch := omega) only [go_sem, Nat.reduceAdd, Nat.reduceSub, Nat.reduceMul, Nat.reduceLT, Nat.reduceLeDiff, Nat.reduceEqDiff, Nat.reduceBEq, Nat.reduceBNe, reduceCtorEq, Int.reduceBNe, Int.reduceBEq, blt0, Int.reduceToNat, Int.toNat_zero, Int.toNat_one, if_pos, if_neg, wrap_i64, decide_eq_true, decide_eq_false, ibeq_t, ibeq_f, ibne_t, ibne_f, Int.toNat_natCast, tn_sub1, tn_add1, List.getElem?_map, gx, reach_i1, reach_i2, reach_s1, reach_si, reach_ss, curR, pagR] | simp (maxSteps := 10000000) (disch := (simp only [List.length_append, List.length_map, List.length_take, List.length_drop, List.length_cons, List.length_nil]; omega)) only [str_add, if_pos, if_neg] | simp only [go_sem, Nat.reduceAdd, Nat.reduceSub, Nat.reduceMul, Nat.reduceLT, Nat.reduceLeDiff, Nat.reduceEqDiff, Nat.reduceBEq, Nat.reduceBNe, reduceCtorEq, Int.reduceBNe, Int.reduceBEq, blt0, curR, pagR] | (refine WC_split (fun hc => ?_) (fun hc => ?_) <;> (try simp only [hc]) <;> (try simp only [Bool.and_eq_true, Bool.or_eq_true, Bool.not_eq_true', Bool.not_eq_false', decide_eq_true_eq, decide_eq_false_iff_not, beq_iff_eq, beq_eq_false_iff_ne, bne_iff_ne, bne_eq_false_iff_eq, ne_eq] at hc) <;> (try (have hb : @Eq Bool _ _ := hc; simp only [hb]; clear hb))) | (refine WS_split (fun hc => ?_) (fun hc => ?_) <;> (try simp only [hc]) <;> (try simp only [Bool.and_eq_true, Bool.or_eq_true, Bool.not_eq_true', Bool.not_eq_false', decide_eq_true_eq, decide_eq_false_iff_not, beq_iff_eq, beq_eq_false_iff_ne, bne_iff_ne, bne_eq_false_iff_eq, ne_eq] at hc) <;> (try (have hb : @Eq Bool _ _ := hc; simp only [hb]; clear hb))) | (refine WD_split (fun hc => ?_) (fun hc => ?_) <;> (try simp only [hc]) <;> (try simp only [Bool.and_eq_true, Bool.or_eq_true, Bool.not_eq_true', Bool.not_eq_false', decide_eq_true_eq, decide_eq_false_iff_not, beq_iff_eq, beq_eq_false_iff_ne, bne_iff_ne, bne_eq_false_iff_eq, ne_eq] at hc) <;> (try (have hb : @Eq Bool _ _ := hc; simp only [hb]; clear hb))))
        refine hexit 0 _ ?_
        repeat' (first | simp (maxSteps := 10000000) (disch := omega) only [go_sem, Nat.reduceAdd, Nat.reduceSub, Nat.reduceMul, Nat.reduceLT, Nat.reduceLeDiff, Nat.reduceEqDiff, Nat.reduceBEq, Nat.reduceBNe, reduceCtorEq, Int.reduceBNe, Int.reduceBEq, blt0, Int.reduceToNat, Int.toNat_zero, Int.toNat_one, if_pos, if_neg, wrap_i64, decide_eq_true, decide_eq_false, ibeq_t, ibeq_f, ibne_t, ibne_f, Int.toNat_natCast, tn_sub1, tn_add1, List.getElem?_map, gx, reach_i1, reach_i2, reach_s1, reach_si, reach_ss, curR, pagR] | simp (maxSteps := 10000000) (disch := (simp only [List.length_append, List.length_map, List.length_take, List.length_drop, List.length_cons, List.length_nil]; omega)) only [str_add, if_pos, if_neg] | simp only [go_sem, Nat.reduceAdd, Nat.reduceSub, Nat.reduceMul, Nat.reduceLT, Nat.reduceLeDiff, Nat.reduceEqDiff, Nat.reduceBEq, Nat.reduceBNe, reduceCtorEq, Int.reduceBNe, Int.reduceBEq, blt0, curR, pagR] | (refine WC_split (fun hc => ?_) (fun hc => ?_) <;> (try simp only [hc]) <;> (try simp only [Bool.and_eq_true, Bool.or_eq_true, Bool.not_eq_true', Bool.not_eq_false', decide_eq_true_eq, decide_eq_false_iff_not, beq_iff_eq, beq_eq_false_iff_ne, bne_iff_ne, bne_eq_false_iff_eq, ne_eq] at hc) <;> (try (have hb : @Eq Bool _ _ := hc; simp only [hb]; clear hb))) | (refine WS_split (fun hc => ?_) (fun hc => ?_) <;> (try simp only [hc]) <;> (try simp only [Bool.and_eq_true, Bool.or_eq_true, Bool.not_eq_true', Bool.not_eq_false', decide_eq_true_eq, decide_eq_false_iff_not, beq_iff_eq, beq_eq_false_iff_ne, bne_iff_ne, bne_eq_false_iff_eq, ne_eq] at hc) <;> (try (have hb : @Eq Bool _ _ := hc; simp only [hb]; clear hb))) | (refine WD_split (fun hc => ?_) (fun hc => ?_) <;> (try simp only [hc]) <;> (try simp only [Bool.and_eq_true, Bool.or_eq_true, Bool.not_eq_true', Bool.not_eq_false', decide_eq_true_eq, decide_eq_false_iff_not, beq_iff_eq, beq_eq_false_iff_ne, bne_iff_ne, bne_eq_false_iff_eq, ne_eq] at hc) <;> (try (have hb : @Eq Bool _ _ := hc; simp only [hb]; clear hb))))
        have hsl : l.filter (inPage on a) = seen l on a i := by rw [seen, List.take_of_length_le (by omega)]
        refine retc1 (fun _ => ex_ret) rfl rfl ⟨?_, rfl, rfl⟩
        rw [hsl, List.take_of_length_le hO, decide_eq_false (by omega)]
        rfl
    · rw [Bool.not_eq_true] at h2
      rw [h2] at c2
      simp only [curR] at c2
      rw [refPage, if_neg (by simp [h2])]
      refine call_eq fn_57 rfl ?_
      rw [k_start]
      simp only [Try.f57, List.length_cons, List.length_nil, Nat.zero_add, Nat.reduceSub, Nat.reduceAdd, List.replicate, List.cons_append, List.nil_append]
      simp only [go_sem, Nat.reduceAdd, Nat.reduceSub, Nat.reduceMul, Nat.reduceLT, Nat.reduceLeDiff, Nat.reduceEqDiff, Nat.reduceBEq, Nat.reduceBNe, reduceCtorEq, Int.reduceBNe, Int.reduceBEq, blt0, c1, c2, curR]
      exact retc1 (fun _ => ex_ret) rfl rfl ⟨rfl, rfl, rfl⟩
  · rw [Bool.not_eq_true] at h1
    rw [h1] at c1
    rw [refPage, if_neg (by simp [h1])]
    refine call_eq fn_57 rfl ?_
    rw [k_start]
    simp only [Try.f57, List.length_cons, List.length_nil, Nat.zero_add, Nat.reduceSub, Nat.reduceAdd, List.replicate, List.cons_append, List.nil_append]
    simp only [go_sem, Nat.reduceAdd, Nat.reduceSub, Nat.reduceMul, Nat.reduceLT, Nat.reduceLeDiff, Nat.reduceEqDiff, Nat.reduceBEq, Nat.reduceBNe, reduceCtorEq, Int.reduceBNe, Int.reduceBEq, blt0, c1, curR]
    exact retc1 (fun _ => ex_ret) rfl rfl ⟨rfl, rfl, rfl⟩
end Go.Proofs.Ytbpkaajokffpjaa
