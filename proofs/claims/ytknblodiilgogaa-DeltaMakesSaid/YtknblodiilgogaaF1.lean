/- What a table has of a key, by halving. -/
import Derived.Test.YtknblodiilgogaaE8
import Derived.Test.YtknblodiilgogaaA0
set_option linter.all false
set_option maxRecDepth 100000
namespace Go.Proofs.Ytknblodiilgogaa
open Go Go.Abs

theorem getP_mem {k : Int} : ∀ {l : List PR}, rise l → ∀ {p : PR}, p ∈ l → p.1 = k → getP l k = (p.2, true)
  | [], _, _, h, _ => by cases h
  | q :: l, hr, p, h, e => by
    cases hr with
    | cons h1 h2 =>
      rw [getP]
      rcases List.mem_cons.1 h with rfl | h
      · rw [if_pos e]
      · have := h1 p h
        rw [if_neg (by omega)]
        exact getP_mem h2 h e
theorem getP_none {k : Int} : ∀ {l : List PR}, (∀ p ∈ l, p.1 ≠ k) → getP l k = (0, false)
  | [], _ => rfl
  | q :: l, h => by
    rw [getP, if_neg (h q (by simp))]
    exact getP_none fun p hp => h p (by simp [hp])
theorem found_yes {l : List PR} {k : Int} (hr : rise l) (h : foundK k l = true) : ∃ h : cnt k l < l.length, getP l k = (l[cnt k l].2, true) := by
  obtain ⟨p, h1, h2⟩ := of_decide_eq_true h
  obtain ⟨h3, h4⟩ := List.getElem?_eq_some_iff.1 h1
  exact ⟨h3, getP_mem hr (List.getElem_mem h3) (by rw [h4]; exact h2)⟩
theorem found_no {l : List PR} {k : Int} (hr : rise l) (h : foundK k l = false) : getP l k = (0, false) := by
  refine getP_none fun p hp he => ?_
  obtain ⟨i, hi, rfl⟩ := List.mem_iff_getElem.1 hp
  refine of_decide_eq_false h ⟨l[i], ?_, he⟩
  have h1 := cnt_at (k := k) hr hi
  have h2 : cnt k l = i := by
    by_cases hc : cnt k l < i
    · have h3 := cnt_at (k := k) hr (i := cnt k l) (by omega)
      have h4 := List.pairwise_iff_getElem.1 hr (cnt k l) i (by omega) hi hc
      omega
    · omega
  rw [h2, List.getElem?_eq_getElem hi]
theorem call_112 (p : PR) (k : Int) : (Lim cfg).call 112 [.agg (prow p), .int .i64 k] [] = some (.int .i64 (cmpI p.1 k), false, []) := by
  have c1 := call_65 p.1 k
  refine call_eq fn_112 rfl ?_
  rw [k_start]
  simp only [Try.f112, List.length_cons, List.length_nil, Nat.zero_add, Nat.reduceSub, Nat.reduceAdd, List.replicate, List.cons_append, List.nil_append]
  simp only [go_sem, Nat.reduceAdd, Nat.reduceSub, Nat.reduceMul, Nat.reduceLT, Nat.reduceLeDiff, Nat.reduceEqDiff, Nat.reduceBEq, Nat.reduceBNe, reduceCtorEq, Int.reduceBNe, Int.reduceBEq, blt0, c1, prow]
  exact ret1n (fun _ => ex_ret) rfl rfl rfl ⟨rfl, rfl, rfl⟩
set_option maxHeartbeats 4000000 in
theorem search_find (l : List PR) (k : Int) (hlen : l.length ≤ 100000) (hr : rise l) : (Lim cfg).call 63 [.sl true (l.map prow), .int .i64 k, .fn 112 []] [] =
    some (.tup [.int .i64 (cnt k l), .bool (foundK k l)], false, []) := by
  have call_G := call_112
  have fin : ∀ i : Nat, i = cnt k l → foundK k l = (if h : i < l.length then decide (l[i].1 = k) else false) := fun i hi => by
    subst hi
    unfold foundK
    split
    · rename_i h
      exact decide_eq_decide.2 ⟨fun ⟨p, h1, h2⟩ => by rw [List.getElem?_eq_getElem h] at h1; cases h1; exact h2, fun h2 => ⟨_, List.getElem?_eq_getElem h, h2⟩⟩
    · rename_i h
      exact decide_eq_false fun ⟨p, h1, _⟩ => by rw [List.getElem?_eq_none (by omega)] at h1; cases h1
  have hcl := cnt_le k l
  refine call_eq fn_63 rfl ?_
  rw [k_start]
  simp only [Try.f63, List.length_cons, List.length_nil, Nat.zero_add, Nat.reduceSub, Nat.reduceAdd, List.replicate, List.cons_append, List.nil_append]
  simp only [go_sem, Nat.reduceAdd, Nat.reduceSub, Nat.reduceMul, Nat.reduceLT, Nat.reduceLeDiff, Nat.reduceEqDiff, Nat.reduceBEq, Nat.reduceBNe, reduceCtorEq, Int.reduceBNe, Int.reduceBEq, blt0]
  refine k_loop (T133 112 l k) (fun x => x.1 ≤ cnt k l ∧ cnt k l ≤ x.2 ∧ x.2 ≤ l.length) (fun x => x.2 - x.1) (0, l.length) (K := cfg.kill 63 3) rfl ⟨Nat.zero_le _, hcl, Nat.le_refl _⟩ (by kernel_rfl) ?_
  intro ⟨i, j⟩ ⟨hi, hj, hjl⟩ k' Q' hnorm hexit hret
  simp only at hi hj hjl
  simp only [T133, mkF, List.foldl, List.replicate, List.set, List.cons_append, List.nil_append]
  simp only [go_sem, Nat.reduceAdd, Nat.reduceSub, Nat.reduceMul, Nat.reduceLT, Nat.reduceLeDiff, Nat.reduceEqDiff, Nat.reduceBEq, Nat.reduceBNe, reduceCtorEq, Int.reduceBNe, Int.reduceBEq, blt0]
  by_cases hlt : i < j
  · have h1 : (i : Int) < (j : Int) := by omega
    have w1 : IntKind.i64.wrap ((i : Int) + (j : Int)) = ((i + j : Nat) : Int) := by rw [wrap_i64 (by omega) (by omega)]; push_cast; rfl
    have w2 : IntKind.u64.wrap ((i + j : Nat) : Int) = ((i + j : Nat) : Int) := wrap_u64 (by omega) (by omega)
    have w3 : IntKind.i64.wrap (((i + j) / 2 : Nat) : Int) = (((i + j) / 2 : Nat) : Int) := wrap_i64 (by omega) (by omega)
    have hh : (i + j) / 2 < l.length := by omega
    have h2 : ¬ ((((i + j) / 2 : Nat) : Int) < 0) := by omega
    have hx : (l.map prow)[(i + j) / 2]? = some (prow l[(i + j) / 2]) := by simp [hh]
    have c1 := call_G l[(i + j) / 2] k
    have hc := cnt_at (k := k) hr hh
    simp only [go_sem, Nat.reduceAdd, Nat.reduceSub, Nat.reduceMul, Nat.reduceLT, Nat.reduceLeDiff, Nat.reduceEqDiff, Nat.reduceBEq, Nat.reduceBNe, reduceCtorEq, Int.reduceBNe, Int.reduceBEq, blt0, h1, w1, w2, w3, shr_1u, h2, hx, Int.toNat_natCast, prow]
    simp only [prow] at c1
    by_cases hb : l[(i + j) / 2].1 < k
    · have h3 : cmpI l[(i + j) / 2].1 k < 0 := by simp [cmpI, hb]
      simp only [go_sem, Nat.reduceAdd, Nat.reduceSub, Nat.reduceMul, Nat.reduceLT, Nat.reduceLeDiff, Nat.reduceEqDiff, Nat.reduceBEq, Nat.reduceBNe, reduceCtorEq, Int.reduceBNe, Int.reduceBEq, blt0, c1, h3]
      rw [wrap_i64 (by omega) (by omega)]
      exact hnorm ((i + j) / 2 + 1, j) _ ⟨hc.1 hb, hj, hjl⟩ (by simp only; omega) (by kernel_rfl)
    · have h3 : ¬ cmpI l[(i + j) / 2].1 k < 0 := by unfold cmpI; rw [if_neg hb]; split <;> omega
      simp only [go_sem, Nat.reduceAdd, Nat.reduceSub, Nat.reduceMul, Nat.reduceLT, Nat.reduceLeDiff, Nat.reduceEqDiff, Nat.reduceBEq, Nat.reduceBNe, reduceCtorEq, Int.reduceBNe, Int.reduceBEq, blt0, c1, h3]
      exact hnorm (i, (i + j) / 2) _ ⟨hi, by have := mt hc.2 hb; simp only; omega, by simp only; omega⟩ (by simp only; omega) (by kernel_rfl)
  · have h1 : ¬ (i : Int) < (j : Int) := by omega
    have hic : i = cnt k l := by omega
    simp only [go_sem, Nat.reduceAdd, Nat.reduceSub, Nat.reduceMul, Nat.reduceLT, Nat.reduceLeDiff, Nat.reduceEqDiff, Nat.reduceBEq, Nat.reduceBNe, reduceCtorEq, Int.reduceBNe, Int.reduceBEq, blt0, h1]
    refine hexit 0 _ ?_
    rw [fin i hic, ← hic]
    by_cases hil : i < l.length
    · have h2 : (i : Int) < (l.length : Int) := by omega
      have h3 : ¬ ((i : Int) < 0) := by omega
      have hx : (l.map prow)[i]? = some (prow l[i]) := by simp [hil]
      have c1 := call_G l[i] k
      simp only [prow] at c1
      have e1 : (cmpI l[i].1 k == 0) = decide (l[i].1 = k) := by
        unfold cmpI
        rw [Bool.eq_iff_iff, beq_iff_eq, decide_eq_true_eq]
        split
        · constructor <;> intro <;> omega
        · split <;> constructor <;> intro <;> omega
      rw [dif_pos hil]
      simp only [go_sem, Nat.reduceAdd, Nat.reduceSub, Nat.reduceMul, Nat.reduceLT, Nat.reduceLeDiff, Nat.reduceEqDiff, Nat.reduceBEq, Nat.reduceBNe, reduceCtorEq, Int.reduceBNe, Int.reduceBEq, blt0, h2, h3, hx, Int.toNat_natCast, prow, c1, e1]
      exact ret2 (fun _ => ex_ret) rfl rfl rfl rfl ⟨rfl, rfl, rfl⟩
    · have h2 : ¬ (i : Int) < (l.length : Int) := by omega
      rw [dif_neg hil]
      simp only [go_sem, Nat.reduceAdd, Nat.reduceSub, Nat.reduceMul, Nat.reduceLT, Nat.reduceLeDiff, Nat.reduceEqDiff, Nat.reduceBEq, Nat.reduceBNe, reduceCtorEq, Int.reduceBNe, Int.reduceBEq, blt0, h2]
      exact ret2 (fun _ => ex_ret) rfl rfl rfl rfl ⟨rfl, rfl, rfl⟩
theorem call_105 (l : List PR) (k : Int) (hlen : l.length ≤ 100000) (hr : rise l) : (Lim cfg).call 105 [.sl true (l.map prow), .int .i64 k] [] = some (.tup [.int .i64 (cnt k l), .bool (foundK k l)], false, []) := by
  have c1 := search_find l k hlen hr
  refine call_eq fn_105 rfl ?_
  rw [k_start]
  simp only [Try.f105, List.length_cons, List.length_nil, Nat.zero_add, Nat.reduceSub, Nat.reduceAdd, List.replicate, List.cons_append, List.nil_append]
  repeat' (first | simp (maxSteps := 10000000) (disch := omega) only [go_sem, Nat.reduceAdd, Nat.reduceSub, Nat.reduceMul, Nat.reduceLT, Nat.reduceLeDiff, Nat.reduceEqDiff, Nat.reduceBEq, Nat.reduceBNe, reduceCtorEq, Int.reduceBNe, Int.reduceBEq, blt0, Int.reduceToNat, Int.toNat_zero, Int.toNat_one, if_pos, if_neg, wrap_i64, decide_eq_true, decide_eq_false, ibeq_t, ibeq_f, ibne_t, ibne_f, Int.toNat_natCast, tn_sub1, tn_add1, List.getElem?_map, gx, reach_i1, reach_i2, reach_s1, reach_si, reach_ss, c1] | simp (maxSteps := 10000000) (disch := (simp only [List.length_append, List.length_map, List.length_take, List.length_drop, List.length_cons, List.length_nil]; omega)) only [str_add, if_pos, if_neg] | simp only [go_sem, Nat.reduceAdd, Nat.reduceSub, Nat.reduceMul, Nat.reduceLT, Nat.reduceLeDiff, Nat.reduceEqDiff, Nat.reduceBEq, Nat.reduceBNe, reduceCtorEq, Int.reduceBNe, Int.reduceBEq, blt0, c1] | ((first | refine WC_split (fun hc => ?_) (fun hc => ?_) | refine WS_split (fun hc => ?_) (fun hc => ?_) | refine WD_split (fun hc => ?_) (fun hc => ?_)) <;> (try simp only [hc]) <;> (try simp only [Bool.and_eq_true, Bool.or_eq_true, Bool.not_eq_true', Bool.not_eq_false', decide_eq_true_eq, decide_eq_false_iff_not, beq_iff_eq, beq_eq_false_iff_ne, bne_iff_ne, bne_eq_false_iff_eq, ne_eq] at hc) <;> (try (have hb : @Eq Bool _ _ := hc; simp only [hb]; clear hb))))
  exact ret2 (fun _ => ex_ret) rfl rfl rfl rfl ⟨rfl, rfl, rfl⟩
set_option maxHeartbeats 4000000 in
theorem call_92 (l : List PR) (k : Int) (hlen : l.length ≤ 100000) (hr : rise l) : (Lim cfg).call 92 [.sl true (l.map prow), .int .i64 k] [] = some (.tup (crow (getP l k)), false, []) := by
  have c1 := call_105 l k hlen hr
  cases hf : foundK k l with
  | true =>
    obtain ⟨h1, h2⟩ := found_yes hr hf
    rw [hf] at c1
    rw [h2]
    refine call_eq fn_92 rfl ?_
    rw [k_start]
    simp only [Try.f92, List.length_cons, List.length_nil, Nat.zero_add, Nat.reduceSub, Nat.reduceAdd, List.replicate, List.cons_append, List.nil_append]
    repeat' (first | simp (maxSteps := 10000000) (disch := omega) only [go_sem, Nat.reduceAdd, Nat.reduceSub, Nat.reduceMul, Nat.reduceLT, Nat.reduceLeDiff, Nat.reduceEqDiff, Nat.reduceBEq, Nat.reduceBNe, reduceCtorEq, Int.reduceBNe, Int.reduceBEq, blt0, Int.reduceToNat, Int.toNat_zero, Int.toNat_one, if_pos, if_neg, wrap_i64, decide_eq_true, decide_eq_false, ibeq_t, ibeq_f, ibne_t, ibne_f, Int.toNat_natCast, tn_sub1, tn_add1, List.getElem?_map, gx, reach_i1, reach_i2, reach_s1, reach_si, reach_ss, c1, prow] | simp (maxSteps := 10000000) (disch := (simp only [List.length_append, List.length_map, List.length_take, List.length_drop, List.length_cons, List.length_nil]; omega)) only [str_add, if_pos, if_neg] | simp only [go_sem, Nat.reduceAdd, Nat.reduceSub, Nat.reduceMul, Nat.reduceLT, Nat.reduceLeDiff, Nat.reduceEqDiff, Nat.reduceBEq, Nat.reduceBNe, reduceCtorEq, Int.reduceBNe, Int.reduceBEq, blt0, c1, prow] | ((first | refine WC_split (fun hc => ?_) (fun hc => ?_) | refine WS_split (fun hc => ?_) (fun hc => ?_) | refine WD_split (fun hc => ?_) (fun hc => ?_)) <;> (try simp only [hc]) <;> (try simp only [Bool.and_eq_true, Bool.or_eq_true, Bool.not_eq_true', Bool.not_eq_false', decide_eq_true_eq, decide_eq_false_iff_not, beq_iff_eq, beq_eq_false_iff_ne, bne_iff_ne, bne_eq_false_iff_eq, ne_eq] at hc) <;> (try (have hb : @Eq Bool _ _ := hc; simp only [hb]; clear hb))))
    exact ret2 (fun _ => ex_ret) rfl rfl rfl rfl ⟨rfl, rfl, rfl⟩
  | false =>
    rw [hf] at c1
    rw [found_no hr hf]
    refine call_eq fn_92 rfl ?_
    rw [k_start]
    simp only [Try.f92, List.length_cons, List.length_nil, Nat.zero_add, Nat.reduceSub, Nat.reduceAdd, List.replicate, List.cons_append, List.nil_append]
    repeat' (first | simp (maxSteps := 10000000) (disch := omega) only [go_sem, Nat.reduceAdd, Nat.reduceSub, Nat.reduceMul, Nat.reduceLT, Nat.reduceLeDiff, Nat.reduceEqDiff, Nat.reduceBEq, Nat.reduceBNe, reduceCtorEq, Int.reduceBNe, Int.reduceBEq, blt0, Int.reduceToNat, Int.toNat_zero, Int.toNat_one, if_pos, if_neg, wrap_i64, decide_eq_true, decide_eq_false, ibeq_t, ibeq_f, ibne_t, ibne_f, Int.toNat_natCast, tn_sub1, tn_add1, List.getElem?_map, gx, reach_i1, reach_i2, reach_s1, reach_si, reach_ss, c1] | simp (maxSteps := 10000000) (disch := (simp only [List.length_append, List.length_map, List.length_take, List.length_drop, List.length_cons, List.length_nil]; omega)) only [str_add, if_pos, if_neg] | simp only [go_sem, Nat.reduceAdd, Nat.reduceSub, Nat.reduceMul, Nat.reduceLT, Nat.reduceLeDiff, Nat.reduceEqDiff, Nat.reduceBEq, Nat.reduceBNe, reduceCtorEq, Int.reduceBNe, Int.reduceBEq, blt0, c1] | ((first | refine WC_split (fun hc => ?_) (fun hc => ?_) | refine WS_split (fun hc => ?_) (fun hc => ?_) | refine WD_split (fun hc => ?_) (fun hc => ?_)) <;> (try simp only [hc]) <;> (try simp only [Bool.and_eq_true, Bool.or_eq_true, Bool.not_eq_true', Bool.not_eq_false', decide_eq_true_eq, decide_eq_false_iff_not, beq_iff_eq, beq_eq_false_iff_ne, bne_iff_ne, bne_eq_false_iff_eq, ne_eq] at hc) <;> (try (have hb : @Eq Bool _ _ := hc; simp only [hb]; clear hb))))
    exact ret2 (fun _ => ex_ret) rfl rfl rfl rfl ⟨rfl, rfl, rfl⟩
def getA (l : List PR) (k : Int) : CR := if chk l = true then getP l k else (0, false)
theorem call_81 (l : List PR) (k : Int) (hlen : l.length ≤ 100000) : (Lim cfg).call 81 [.sl true (l.map prow), .int .i64 k] [] = some (.tup (crow (getA l k)), false, []) := by
  have c1 := call_49 l hlen
  by_cases h : chk l = true
  · have c2 := call_92 l k hlen (chkFrom_rise l (-1) h).1
    rw [h] at c1
    rw [getA, if_pos h]
    simp only [crow] at c2
    refine call_eq fn_81 rfl ?_
    rw [k_start]
    simp only [Try.f81, List.length_cons, List.length_nil, Nat.zero_add, Nat.reduceSub, Nat.reduceAdd, List.replicate, List.cons_append, List.nil_append]
    repeat' (first | simp (maxSteps := 10000000) (disch := omega) only [go_sem, Nat.reduceAdd, Nat.reduceSub, Nat.reduceMul, Nat.reduceLT, Nat.reduceLeDiff, Nat.reduceEqDiff, Nat.reduceBEq, Nat.reduceBNe, reduceCtorEq, Int.reduceBNe, Int.reduceBEq, blt0, Int.reduceToNat, Int.toNat_zero, Int.toNat_one, if_pos, if_neg, wrap_i64, decide_eq_true, decide_eq_false, ibeq_t, ibeq_f, ibne_t, ibne_f, Int.toNat_natCast, tn_sub1, tn_add1, List.getElem?_map, gx, reach_i1, reach_i2, reach_s1, reach_si, reach_ss, c1, c2] | simp (maxSteps := 10000000) (disch := (simp only [List.length_append, List.length_map, List.length_take, List.length_drop, List.length_cons, List.length_nil]; omega)) only [str_add, if_pos, if_neg] | simp only [go_sem, Nat.reduceAdd, Nat.reduceSub, Nat.reduceMul, Nat.reduceLT, Nat.reduceLeDiff, Nat.reduceEqDiff, Nat.reduceBEq, Nat.reduceBNe, reduceCtorEq, Int.reduceBNe, Int.reduceBEq, blt0, c1, c2] | ((first | refine WC_split (fun hc => ?_) (fun hc => ?_) | refine WS_split (fun hc => ?_) (fun hc => ?_) | refine WD_split (fun hc => ?_) (fun hc => ?_)) <;> (try simp only [hc]) <;> (try simp only [Bool.and_eq_true, Bool.or_eq_true, Bool.not_eq_true', Bool.not_eq_false', decide_eq_true_eq, decide_eq_false_iff_not, beq_iff_eq, beq_eq_false_iff_ne, bne_iff_ne, bne_eq_false_iff_eq, ne_eq] at hc) <;> (try (have hb : @Eq Bool _ _ := hc; simp only [hb]; clear hb))))
    exact ret2 (fun _ => ex_ret) rfl rfl rfl rfl ⟨rfl, rfl, rfl⟩
  · rw [getA, if_neg h]
    rw [Bool.not_eq_true] at h
    rw [h] at c1
    refine call_eq fn_81 rfl ?_
    rw [k_start]
    simp only [Try.f81, List.length_cons, List.length_nil, Nat.zero_add, Nat.reduceSub, Nat.reduceAdd, List.replicate, List.cons_append, List.nil_append]
    repeat' (first | simp (maxSteps := 10000000) (disch := omega) only [go_sem, Nat.reduceAdd, Nat.reduceSub, Nat.reduceMul, Nat.reduceLT, Nat.reduceLeDiff, Nat.reduceEqDiff, Nat.reduceBEq, Nat.reduceBNe, reduceCtorEq, Int.reduceBNe, Int.reduceBEq, blt0, Int.reduceToNat, Int.toNat_zero, Int.toNat_one, if_pos, if_neg, wrap_i64, decide_eq_true, decide_eq_false, ibeq_t, ibeq_f, ibne_t, ibne_f, Int.toNat_natCast, tn_sub1, tn_add1, List.getElem?_map, gx, reach_i1, reach_i2, reach_s1, reach_si, reach_ss, c1] | simp (maxSteps := 10000000) (disch := (simp only [List.length_append, List.length_map, List.length_take, List.length_drop, List.length_cons, List.length_nil]; omega)) only [str_add, if_pos, if_neg] | simp only [go_sem, Nat.reduceAdd, Nat.reduceSub, Nat.reduceMul, Nat.reduceLT, Nat.reduceLeDiff, Nat.reduceEqDiff, Nat.reduceBEq, Nat.reduceBNe, reduceCtorEq, Int.reduceBNe, Int.reduceBEq, blt0, c1] | ((first | refine WC_split (fun hc => ?_) (fun hc => ?_) | refine WS_split (fun hc => ?_) (fun hc => ?_) | refine WD_split (fun hc => ?_) (fun hc => ?_)) <;> (try simp only [hc]) <;> (try simp only [Bool.and_eq_true, Bool.or_eq_true, Bool.not_eq_true', Bool.not_eq_false', decide_eq_true_eq, decide_eq_false_iff_not, beq_iff_eq, beq_eq_false_iff_ne, bne_iff_ne, bne_eq_false_iff_eq, ne_eq] at hc) <;> (try (have hb : @Eq Bool _ _ := hc; simp only [hb]; clear hb))))
    exact ret2 (fun _ => ex_ret) rfl rfl rfl rfl ⟨rfl, rfl, rfl⟩
theorem call_56 (l : List PR) (k : Int) (hlen : l.length ≤ 100000) : (Lim cfg).call 56 [.sl true (l.map prow), .int .i64 k] [] = some (.agg (crow (getA l k)), false, []) := by
  have c1 := call_81 l k hlen
  simp only [crow] at c1
  refine call_eq fn_56 rfl ?_
  rw [k_start]
  simp only [Try.f56, List.length_cons, List.length_nil, Nat.zero_add, Nat.reduceSub, Nat.reduceAdd, List.replicate, List.cons_append, List.nil_append]
  repeat' (first | simp (maxSteps := 10000000) (disch := omega) only [go_sem, Nat.reduceAdd, Nat.reduceSub, Nat.reduceMul, Nat.reduceLT, Nat.reduceLeDiff, Nat.reduceEqDiff, Nat.reduceBEq, Nat.reduceBNe, reduceCtorEq, Int.reduceBNe, Int.reduceBEq, blt0, Int.reduceToNat, Int.toNat_zero, Int.toNat_one, if_pos, if_neg, wrap_i64, decide_eq_true, decide_eq_false, ibeq_t, ibeq_f, ibne_t, ibne_f, Int.toNat_natCast, tn_sub1, tn_add1, List.getElem?_map, gx, reach_i1, reach_i2, reach_s1, reach_si, reach_ss, c1] | simp (maxSteps := 10000000) (disch := (simp only [List.length_append, List.length_map, List.length_take, List.length_drop, List.length_cons, List.length_nil]; omega)) only [str_add, if_pos, if_neg] | simp only [go_sem, Nat.reduceAdd, Nat.reduceSub, Nat.reduceMul, Nat.reduceLT, Nat.reduceLeDiff, Nat.reduceEqDiff, Nat.reduceBEq, Nat.reduceBNe, reduceCtorEq, Int.reduceBNe, Int.reduceBEq, blt0, c1] | ((first | refine WC_split (fun hc => ?_) (fun hc => ?_) | refine WS_split (fun hc => ?_) (fun hc => ?_) | refine WD_split (fun hc => ?_) (fun hc => ?_)) <;> (try simp only [hc]) <;> (try simp only [Bool.and_eq_true, Bool.or_eq_true, Bool.not_eq_true', Bool.not_eq_false', decide_eq_true_eq, decide_eq_false_iff_not, beq_iff_eq, beq_eq_false_iff_ne, bne_iff_ne, bne_eq_false_iff_eq, ne_eq] at hc) <;> (try (have hb : @Eq Bool _ _ := hc; simp only [hb]; clear hb))))
  refine retc1 (fun _ => ex_ret) (by simp only [loadV, ty_63]; rfl) rfl ⟨rfl, rfl, rfl⟩
end Go.Proofs.Ytknblodiilgogaa
