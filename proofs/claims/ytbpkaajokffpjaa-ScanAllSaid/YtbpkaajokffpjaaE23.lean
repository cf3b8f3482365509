/- The law ScanGroups. -/
import Derived.Test.YtbpkaajokffpjaaE22
set_option linter.all false
set_option maxRecDepth 100000
namespace Go.Proofs.Ytbpkaajokffpjaa
open Go Go.Abs

theorem rows_gr (w : Int) : ∀ S : List (List PR), (∀ R ∈ S, R ≠ []) → ∃ g : List GR, S.map (growR w) = g.map gr5 ∧ g.length = S.length
  | [], _ => ⟨[], rfl, rfl⟩
  | R :: S, h => by
    obtain ⟨g, h1, h2⟩ := rows_gr w S fun R' hR' => h R' (by simp [hR'])
    match R, h R (by simp) with
    | p :: r, _ => exact ⟨(p.1 / w * w, ((p :: r).length : Nat), vsum (p :: r), vlo p.2 (p :: r), vhi p.2 (p :: r)) :: g, by rw [List.map_cons, List.map_cons, h1]; rfl, by simp [h2]⟩
set_option maxHeartbeats 4000000 in
theorem law_ScanGroups (l : List PR) (on : List SR) (w : Int) (hw1 : -9223372036854775808 ≤ w) (hw2 : w ≤ 9223372036854775807) : (Lim cfg).call 12 [.sl true (l.map prow), .sl true (on.map srow), .int .i64 w] [] = some (.bool true, false, []) := by
  have c1 := call_54 l on
  have caw := call_55
  by_cases hf : l.length ≤ 100 ∧ on.length ≤ 100
  · rw [decide_eq_true hf] at c1
    have c2 := call_64 l on w (by omega) (by omega)
    have c3 := call_65 l on w (by omega) (by omega)
    have c4 := call_35 l (by omega)
    have c5 := call_63 on (by omega)
    have c6 := call_68 l on (by omega) (by omega)
    have c7 := call_66 l on (by omega) (by omega)
    rw [totalL_grG] at c6
    have hml := (clip_rise l on).2.2
    obtain ⟨a2, a3, a4, a5, ha, _⟩ := grG_ex 0 (clip l on)
    rw [ha] at c6 c7
    obtain ⟨g, hg, hgl⟩ : ∃ g : List GR, (groupsV l on w = .tup [.sl true (g.map gr5), .int .i64 0] ∨ groupsV l on w = .tup [.sl true (g.map gr5), .int .i64 1]) ∧ g.length ≤ 100 := by
      unfold groupsV
      split
      · obtain ⟨g, h1, h2⟩ := rows_gr w (rowsG w (clip l on)) (rowsG_nonempty w _)
        refine ⟨g, .inl (by rw [h1]), ?_⟩
        have := rowsG_count w (clip l on)
        omega
      · exact ⟨[], .inr rfl, by simp⟩
    have c8 := call_67 g (by omega)
    rcases hg with hg | hg
    all_goals
      rw [hg] at c2 c3
      refine call_eq fn_12 rfl ?_
      rw [k_start]
      simp only [Try.f12, List.length_cons, List.length_nil, Nat.zero_add, Nat.reduceSub, Nat.reduceAdd, List.replicate, List.cons_append, List.nil_append]
      repeat' (first | simp (maxSteps := 10000000) (disch := omega) only [go_sem, Nat.reduceAdd, Nat.reduceSub, Nat.reduceMul, Nat.reduceLT, Nat.reduceLeDiff, Nat.reduceEqDiff, Nat.reduceBEq, Nat.reduceBNe, reduceCtorEq, Int.reduceBNe, Int.reduceBEq, blt0, Int.reduceToNat, Int.toNat_zero, Int.toNat_one, if_pos, if_neg, wrap_i64, decide_eq_true, decide_eq_false, ibeq_t, ibeq_f, ibne_t, ibne_f, Int.toNat_natCast, tn_sub1, tn_add1, List.getElem?_map, gx, c1, caw, c2, c3, c4, c5, c6, c7, c8] | simp only [go_sem, Nat.reduceAdd, Nat.reduceSub, Nat.reduceMul, Nat.reduceLT, Nat.reduceLeDiff, Nat.reduceEqDiff, Nat.reduceBEq, Nat.reduceBNe, reduceCtorEq, Int.reduceBNe, Int.reduceBEq, blt0, c1, caw, c2, c3, c4, c5, c6, c7, c8] | (refine WC_split (fun hc => ?_) (fun hc => ?_) <;> (try simp only [hc]) <;> (try simp only [Bool.and_eq_true, Bool.or_eq_true, Bool.not_eq_true', Bool.not_eq_false', decide_eq_true_eq, decide_eq_false_iff_not, beq_iff_eq, beq_eq_false_iff_ne, bne_iff_ne, bne_eq_false_iff_eq, ne_eq] at hc) <;> (try (have hb : @Eq Bool _ _ := hc; simp only [hb]; clear hb))) | (refine WS_split (fun hc => ?_) (fun hc => ?_) <;> (try simp only [hc]) <;> (try simp only [Bool.and_eq_true, Bool.or_eq_true, Bool.not_eq_true', Bool.not_eq_false', decide_eq_true_eq, decide_eq_false_iff_not, beq_iff_eq, beq_eq_false_iff_ne, bne_iff_ne, bne_eq_false_iff_eq, ne_eq] at hc) <;> (try (have hb : @Eq Bool _ _ := hc; simp only [hb]; clear hb))) | (refine WD_split (fun hc => ?_) (fun hc => ?_) <;> (try simp only [hc]) <;> (try simp only [Bool.and_eq_true, Bool.or_eq_true, Bool.not_eq_true', Bool.not_eq_false', decide_eq_true_eq, decide_eq_false_iff_not, beq_iff_eq, beq_eq_false_iff_ne, bne_iff_ne, bne_eq_false_iff_eq, ne_eq] at hc) <;> (try (have hb : @Eq Bool _ _ := hc; simp only [hb]; clear hb))))
      exact ret1n (v := .bool true) (fun _ => ex_ret) rfl rfl rfl ⟨rfl, rfl, rfl⟩
  · rw [decide_eq_false hf] at c1
    refine call_eq fn_12 rfl ?_
    rw [k_start]
    simp only [Try.f12, List.length_cons, List.length_nil, Nat.zero_add, Nat.reduceSub, Nat.reduceAdd, List.replicate, List.cons_append, List.nil_append]
    repeat' (first | simp (maxSteps := 10000000) (disch := omega) only [go_sem, Nat.reduceAdd, Nat.reduceSub, Nat.reduceMul, Nat.reduceLT, Nat.reduceLeDiff, Nat.reduceEqDiff, Nat.reduceBEq, Nat.reduceBNe, reduceCtorEq, Int.reduceBNe, Int.reduceBEq, blt0, Int.reduceToNat, Int.toNat_zero, Int.toNat_one, if_pos, if_neg, wrap_i64, decide_eq_true, decide_eq_false, ibeq_t, ibeq_f, ibne_t, ibne_f, Int.toNat_natCast, tn_sub1, tn_add1, List.getElem?_map, gx, c1, caw] | simp only [go_sem, Nat.reduceAdd, Nat.reduceSub, Nat.reduceMul, Nat.reduceLT, Nat.reduceLeDiff, Nat.reduceEqDiff, Nat.reduceBEq, Nat.reduceBNe, reduceCtorEq, Int.reduceBNe, Int.reduceBEq, blt0, c1, caw] | (refine WC_split (fun hc => ?_) (fun hc => ?_) <;> (try simp only [hc]) <;> (try simp only [Bool.and_eq_true, Bool.or_eq_true, Bool.not_eq_true', Bool.not_eq_false', decide_eq_true_eq, decide_eq_false_iff_not, beq_iff_eq, beq_eq_false_iff_ne, bne_iff_ne, bne_eq_false_iff_eq, ne_eq] at hc) <;> (try (have hb : @Eq Bool _ _ := hc; simp only [hb]; clear hb))) | (refine WS_split (fun hc => ?_) (fun hc => ?_) <;> (try simp only [hc]) <;> (try simp only [Bool.and_eq_true, Bool.or_eq_true, Bool.not_eq_true', Bool.not_eq_false', decide_eq_true_eq, decide_eq_false_iff_not, beq_iff_eq, beq_eq_false_iff_ne, bne_iff_ne, bne_eq_false_iff_eq, ne_eq] at hc) <;> (try (have hb : @Eq Bool _ _ := hc; simp only [hb]; clear hb))) | (refine WD_split (fun hc => ?_) (fun hc => ?_) <;> (try simp only [hc]) <;> (try simp only [Bool.and_eq_true, Bool.or_eq_true, Bool.not_eq_true', Bool.not_eq_false', decide_eq_true_eq, decide_eq_false_iff_not, beq_iff_eq, beq_eq_false_iff_ne, bne_iff_ne, bne_eq_false_iff_eq, ne_eq] at hc) <;> (try (have hb : @Eq Bool _ _ := hc; simp only [hb]; clear hb))))
    exact ret1n (v := .bool true) (fun _ => ex_ret) rfl rfl rfl ⟨rfl, rfl, rfl⟩
end Go.Proofs.Ytbpkaajokffpjaa
