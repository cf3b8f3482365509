/- DeltaMakes: by what Join answers. -/
import Derived.Test.YtknblodiilgogaaF10
set_option linter.all false
set_option maxRecDepth 100000
namespace Go.Proofs.Ytknblodiilgogaa
open Go Go.Abs

theorem mk_len : ∀ (l : List TR) (a : List PR), (mk a l).length ≤ a.length + l.length
  | [], a => by rw [mk_end]; simp
  | t :: r, a => by
    have ih := mk_len r (skipK t.1 (a.dropWhile fun p => decide (p.1 < t.1)))
    have h1 : ∀ k (X : List PR), (skipK k X).length ≤ X.length := fun k X => by
      cases X with
      | nil => exact Nat.le_refl _
      | cons q X => rw [skip_cons]; split <;> simp
    have h2 := h1 t.1 (a.dropWhile fun p => decide (p.1 < t.1))
    have h3 : (putT t).length ≤ 1 := by unfold putT; split <;> simp
    have h4 : (a.takeWhile fun p => decide (p.1 < t.1)).length + (a.dropWhile fun p => decide (p.1 < t.1)).length = a.length := by
      rw [← List.length_append, List.takeWhile_append_dropWhile]
    simp only [mk, List.length_append, List.length_cons]
    omega
theorem makeV_ex (a : List PR) (l : List TR) : ∃ (X : List PR) (e : Int), makeV a l = .tup [.sl true (X.map prow), .int .i64 e] ∧ X.length ≤ a.length + l.length := by
  unfold makeV
  split
  · split
    · exact ⟨_, _, rfl, mk_len l a⟩
    · exact ⟨[], _, rfl, Nat.zero_le _⟩
  · exact ⟨[], _, rfl, Nat.zero_le _⟩
set_option maxHeartbeats 8000000 in
theorem makes_of (hJ : JoinL) (a : List PR) (l : List TR) : (Lim cfg).call 4 [.sl true (a.map prow), .sl true (l.map trow)] [] = some (.bool true, false, []) := by
  have c1 := call_14 a [] l []
  simp only [List.map_nil] at c1
  have caw := call_15
  by_cases hf : a.length ≤ 100 ∧ ([] : List PR).length ≤ 100 ∧ l.length ≤ 100 ∧ ([] : List TR).length ≤ 100
  · rw [decide_eq_true hf] at c1
    have c2 := call_Make hJ a l (by omega) (by omega)
    have c3 := call_17 a l (by omega) (by omega)
    have c4 := call_18 a (by omega)
    have c5 := call_19 l (by omega)
    have c6 := call_20 l (by omega)
    have c7 := call_21 l (by omega)
    have c8 := call_22 a l (by omega) (by omega)
    have c9 := call_23 a l (by omega) (by omega)
    obtain ⟨X, e, hX, hXl⟩ := makeV_ex a l
    have c10 := call_18 X (by omega)
    have c11 := call_24 X X (by omega) (by omega)
    rw [hX] at c2 c3
    rw [decide_eq_true rfl] at c11
    generalize chkT l = b1 at c6 c7
    generalize fitsR a l = b2 at c8 c9
    cases b1 <;> cases b2
    all_goals
      refine call_eq fn_4 rfl ?_
      rw [k_start]
      simp only [Try.f4, List.length_cons, List.length_nil, Nat.zero_add, Nat.reduceSub, Nat.reduceAdd, List.replicate, List.cons_append, List.nil_append]
      repeat' (first | simp (maxSteps := 10000000) (disch := omega) only [go_sem, Nat.reduceAdd, Nat.reduceSub, Nat.reduceMul, Nat.reduceLT, Nat.reduceLeDiff, Nat.reduceEqDiff, Nat.reduceBEq, Nat.reduceBNe, reduceCtorEq, Int.reduceBNe, Int.reduceBEq, blt0, Int.reduceToNat, Int.toNat_zero, Int.toNat_one, if_pos, if_neg, wrap_i64, decide_eq_true, decide_eq_false, ibeq_t, ibeq_f, ibne_t, ibne_f, Int.toNat_natCast, tn_sub1, tn_add1, List.getElem?_map, gx, reach_i1, reach_i2, reach_s1, reach_si, reach_ss, c1, caw, c2, c3, c4, c5, c6, c7, c8, c9, c10, c11] | simp (maxSteps := 10000000) (disch := (simp only [List.length_append, List.length_map, List.length_take, List.length_drop, List.length_cons, List.length_nil]; omega)) only [str_add, if_pos, if_neg] | simp only [go_sem, Nat.reduceAdd, Nat.reduceSub, Nat.reduceMul, Nat.reduceLT, Nat.reduceLeDiff, Nat.reduceEqDiff, Nat.reduceBEq, Nat.reduceBNe, reduceCtorEq, Int.reduceBNe, Int.reduceBEq, blt0, c1, caw, c2, c3, c4, c5, c6, c7, c8, c9, c10, c11] | ((first | refine WC_split (fun hc => ?_) (fun hc => ?_) | refine WS_split (fun hc => ?_) (fun hc => ?_) | refine WD_split (fun hc => ?_) (fun hc => ?_)) <;> (try simp only [hc]) <;> (try simp only [Bool.and_eq_true, Bool.or_eq_true, Bool.not_eq_true', Bool.not_eq_false', decide_eq_true_eq, decide_eq_false_iff_not, beq_iff_eq, beq_eq_false_iff_ne, bne_iff_ne, bne_eq_false_iff_eq, ne_eq] at hc) <;> (try (have hb : @Eq Bool _ _ := hc; simp only [hb]; clear hb))))
    all_goals exact ret1n (v := .bool true) (fun _ => ex_ret) rfl rfl rfl ⟨rfl, rfl, rfl⟩
  · rw [decide_eq_false hf] at c1
    refine call_eq fn_4 rfl ?_
    rw [k_start]
    simp only [Try.f4, List.length_cons, List.length_nil, Nat.zero_add, Nat.reduceSub, Nat.reduceAdd, List.replicate, List.cons_append, List.nil_append]
    repeat' (first | simp (maxSteps := 10000000) (disch := omega) only [go_sem, Nat.reduceAdd, Nat.reduceSub, Nat.reduceMul, Nat.reduceLT, Nat.reduceLeDiff, Nat.reduceEqDiff, Nat.reduceBEq, Nat.reduceBNe, reduceCtorEq, Int.reduceBNe, Int.reduceBEq, blt0, Int.reduceToNat, Int.toNat_zero, Int.toNat_one, if_pos, if_neg, wrap_i64, decide_eq_true, decide_eq_false, ibeq_t, ibeq_f, ibne_t, ibne_f, Int.toNat_natCast, tn_sub1, tn_add1, List.getElem?_map, gx, reach_i1, reach_i2, reach_s1, reach_si, reach_ss, c1, caw] | simp (maxSteps := 10000000) (disch := (simp only [List.length_append, List.length_map, List.length_take, List.length_drop, List.length_cons, List.length_nil]; omega)) only [str_add, if_pos, if_neg] | simp only [go_sem, Nat.reduceAdd, Nat.reduceSub, Nat.reduceMul, Nat.reduceLT, Nat.reduceLeDiff, Nat.reduceEqDiff, Nat.reduceBEq, Nat.reduceBNe, reduceCtorEq, Int.reduceBNe, Int.reduceBEq, blt0, c1, caw] | ((first | refine WC_split (fun hc => ?_) (fun hc => ?_) | refine WS_split (fun hc => ?_) (fun hc => ?_) | refine WD_split (fun hc => ?_) (fun hc => ?_)) <;> (try simp only [hc]) <;> (try simp only [Bool.and_eq_true, Bool.or_eq_true, Bool.not_eq_true', Bool.not_eq_false', decide_eq_true_eq, decide_eq_false_iff_not, beq_iff_eq, beq_eq_false_iff_ne, bne_iff_ne, bne_eq_false_iff_eq, ne_eq] at hc) <;> (try (have hb : @Eq Bool _ _ := hc; simp only [hb]; clear hb))))
    exact ret1n (v := .bool true) (fun _ => ex_ret) rfl rfl rfl ⟨rfl, rfl, rfl⟩
end Go.Proofs.Ytknblodiilgogaa
