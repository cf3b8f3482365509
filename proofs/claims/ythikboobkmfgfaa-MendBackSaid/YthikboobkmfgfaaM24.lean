/- Asks, read: the program's answer. -/
import Derived.Test.YthikboobkmfgfaaM22
set_option linter.all false
set_option maxRecDepth 100000
namespace Go.Proofs.Ythikboobkmfgfaa
open Go Go.Abs

def T38 (m : Nat) (lv : Int) (x : Nat × Int × List Int × List UInt8 × Int) : St := { fr := mkF 42 [(2, .ptr 0 0), (3, .ptr 1 0), (4, .ptr 2 0), (5, .int .i64 x.2.1), (6, .int .i64 x.1), (7, .int .i64 m)], own := [], hp := [.cells 25 [1] (askR 0 []), rdB x.2.2.2.1 x.2.2.2.2, .cells 25 [1] (askR lv x.2.2.1)], al := [], nb := 0 }
set_option maxHeartbeats 16000000 in
theorem call_38 (s : List UInt8) (hlen : s.length ≤ 1000000000) :
    (Lim cfg).call 38 [.str s] [] = some (.agg (askR (rawA s).1 (rawA s).2), false, []) := by
  have l1 := stR_len s 0
  have l2 := stR_len (stR s 0).1 (stR s 0).2
  have hr : rawA s = (wholeR s 0, listA (stR s 0).1 (stR s 0).2) := rfl
  unfold listA at hr
  rw [hr]
  simp only
  clear hr
  have c1 := call_41 s
  have c2 := rd_whole s 0 hlen
  refine call_eq fn_38 rfl ?_
  rw [k_start]
  simp only [Try.f38, st0, Nat.zero_add]
  repeat' (first | simp (maxSteps := 10000000) (disch := omega) only [go_sem, Nat.reduceAdd, Nat.reduceSub, Nat.reduceMul, Nat.reduceLT, Nat.reduceLeDiff, Nat.reduceEqDiff, Nat.reduceBEq, Nat.reduceBNe, reduceCtorEq, Int.reduceBNe, Int.reduceBEq, au, lst, if_pos, if_neg, c1] | simp (disch := (simp only [lens]; omega)) only [str_add, if_pos, if_neg] | ((with_reducible first | refine WC_split ?_ ?_ | refine WS_split ?_ ?_ | refine WD_split ?_ ?_) <;> intro hc <;> (try simp only [hc]) <;> (try simp only [bools] at hc) <;> (try (have hb : @Eq Bool _ _ := hc; simp only [hb]; clear hb))))
  rw [callHeap_at (R := [1]) c2]
  generalize wholeR s 0 = lv
  generalize stR s 0 = s1 at l1 l2 ⊢
  repeat' (first | simp (maxSteps := 10000000) (disch := omega) only [go_sem, Nat.reduceAdd, Nat.reduceSub, Nat.reduceMul, Nat.reduceLT, Nat.reduceLeDiff, Nat.reduceEqDiff, Nat.reduceBEq, Nat.reduceBNe, reduceCtorEq, Int.reduceBNe, Int.reduceBEq, au, lst, if_pos, if_neg, rdB] | simp (disch := (simp only [lens]; omega)) only [str_add, if_pos, if_neg] | ((with_reducible first | refine WC_split ?_ ?_ | refine WS_split ?_ ?_ | refine WD_split ?_ ?_) <;> intro hc <;> (try simp only [hc]) <;> (try simp only [bools] at hc) <;> (try (have hb : @Eq Bool _ _ := hc; simp only [hb]; clear hb))))
  rw [callHeap_at (R := [1]) (rd_num s1.1 s1.2 (by omega))]
  have hn := numN_lt s1.1 s1.2
  generalize numN s1.1 s1.2 = m at hn ⊢
  generalize stR s1.1 s1.2 = s2 at l2 ⊢
  repeat' (first | simp (maxSteps := 10000000) (disch := omega) only [go_sem, Nat.reduceAdd, Nat.reduceSub, Nat.reduceMul, Nat.reduceLT, Nat.reduceLeDiff, Nat.reduceEqDiff, Nat.reduceBEq, Nat.reduceBNe, reduceCtorEq, Int.reduceBNe, Int.reduceBEq, au, lst, if_pos, if_neg, rdB] | simp (disch := (simp only [lens]; omega)) only [str_add, if_pos, if_neg] | ((with_reducible first | refine WC_split ?_ ?_ | refine WS_split ?_ ?_ | refine WD_split ?_ ?_) <;> intro hc <;> (try simp only [hc]) <;> (try simp only [bools] at hc) <;> (try (have hb : @Eq Bool _ _ := hc; simp only [hb]; clear hb))))
  generalize hm : readL (min m 4097) s2.1 s2.2 (-1) [] = R
  refine k_loop (T38 m lv) (fun x => x.1 ≤ min m 4097 ∧ x.2.2.1.length = x.1 ∧ -1 ≤ x.2.1 ∧ x.2.1 ≤ 4097 * x.1 ∧ x.2.2.2.1.length ≤ 1000000000 ∧ R = readL (min m 4097 - x.1) x.2.2.2.1 x.2.2.2.2 x.2.1 x.2.2.1) (fun x => min m 4097 - x.1) (0, -1, [], s2.1, s2.2) (K := cfg.kill 38 5) rfl
    ⟨Nat.zero_le _, rfl, Int.le_refl _, by show (-1 : Int) ≤ 4097 * ((0 : Nat) : Int); omega, by show s2.1.length ≤ _; omega, hm.symm⟩ (by kernel_rfl) ?_
  intro ⟨i, lo, acc, s, e⟩ ⟨hi, hacc, hlo, hlo2, hsl, hr⟩ k' Q' hnorm hexit hret
  simp only at hi hacc hlo hlo2 hsl hr
  simp only [T38, mkF, List.foldl, st0, List.set]
  by_cases h1 : i < m
  · by_cases h2 : i ≤ 4096
    · by_cases h3 : e = 0
      · subst h3
        have hst : R = readL (min m 4097 - (i + 1)) (stR s 0).1 (stR s 0).2 (lo + 1 + min (numN s 0 : Int) 4096) (acc ++ [lo + 1 + min (numN s 0 : Int) 4096]) := by
          rw [hr, show min m 4097 - i = (min m 4097 - (i + 1)) + 1 by omega, readL, if_pos rfl]
        have hsl2 := stR_len s 0
        have cn := rd_num s 0 hsl
        generalize stR s 0 = t at hst hsl2 cn
        have hnn := numN_lt s 0
        generalize numN s 0 = u at hst cn hnn
        have hap : (acc.length + 1) * 8 ≤ strMax := by unfold strMax; omega
        repeat' (first | simp (maxSteps := 10000000) (disch := omega) only [go_sem, Nat.reduceAdd, Nat.reduceSub, Nat.reduceMul, Nat.reduceLT, Nat.reduceLeDiff, Nat.reduceEqDiff, Nat.reduceBEq, Nat.reduceBNe, reduceCtorEq, Int.reduceBNe, Int.reduceBEq, au, lst, if_pos, if_neg] | simp (disch := (simp only [lens]; omega)) only [str_add, if_pos, if_neg] | ((with_reducible first | refine WC_split ?_ ?_ | refine WS_split ?_ ?_ | refine WD_split ?_ ?_) <;> intro hc <;> (try simp only [hc]) <;> (try simp only [bools] at hc) <;> (try (have hb : @Eq Bool _ _ := hc; simp only [hb]; clear hb))))
        rw [callHeap_at (R := [1]) (call_78 s 0)]
        repeat' (first | simp (maxSteps := 10000000) (disch := omega) only [go_sem, Nat.reduceAdd, Nat.reduceSub, Nat.reduceMul, Nat.reduceLT, Nat.reduceLeDiff, Nat.reduceEqDiff, Nat.reduceBEq, Nat.reduceBNe, reduceCtorEq, Int.reduceBNe, Int.reduceBEq, au, lst, if_pos, if_neg, rdB] | simp (disch := (simp only [lens]; omega)) only [str_add, if_pos, if_neg] | ((with_reducible first | refine WC_split ?_ ?_ | refine WS_split ?_ ?_ | refine WD_split ?_ ?_) <;> intro hc <;> (try simp only [hc]) <;> (try simp only [bools] at hc) <;> (try (have hb : @Eq Bool _ _ := hc; simp only [hb]; clear hb))))
        rw [callHeap_at (R := [1]) cn]
        repeat' (first | simp (maxSteps := 10000000) (disch := omega) only [go_sem, Nat.reduceAdd, Nat.reduceSub, Nat.reduceMul, Nat.reduceLT, Nat.reduceLeDiff, Nat.reduceEqDiff, Nat.reduceBEq, Nat.reduceBNe, reduceCtorEq, Int.reduceBNe, Int.reduceBEq, au, lst, if_pos, if_neg, rdB, askR, irow, hap, ite_min, fit_irow, head_irow, head_irow', ← Int.add_assoc] | simp (disch := (simp only [lens]; omega)) only [str_add, if_pos, if_neg] | ((with_reducible first | refine WC_split ?_ ?_ | refine WS_split ?_ ?_ | refine WD_split ?_ ?_) <;> intro hc <;> (try simp only [hc]) <;> (try simp only [bools] at hc) <;> (try (have hb : @Eq Bool _ _ := hc; simp only [hb]; clear hb))))
        refine hnorm (i + 1, lo + 1 + min (u : Int) 4096, acc ++ [lo + 1 + min (u : Int) 4096], t.1, t.2) _ ⟨by show i + 1 ≤ _; omega, by rw [List.length_append, hacc]; rfl, by show -1 ≤ lo + 1 + _; omega, by show lo + 1 + _ ≤ 4097 * ((i + 1 : Nat) : Int); omega, by show t.1.length ≤ _; omega, hst⟩ (by show min m 4097 - (i + 1) < min m 4097 - i; omega) ?_
        rw [T38]
        simp only [askR, List.map_append]
        kernel_rfl
      · have hra : R = acc := by rw [hr, readL_bad h3]
        subst hra
        repeat' (first | simp (maxSteps := 10000000) (disch := omega) only [go_sem, Nat.reduceAdd, Nat.reduceSub, Nat.reduceMul, Nat.reduceLT, Nat.reduceLeDiff, Nat.reduceEqDiff, Nat.reduceBEq, Nat.reduceBNe, reduceCtorEq, Int.reduceBNe, Int.reduceBEq, au, lst, if_pos, if_neg] | simp (disch := (simp only [lens]; omega)) only [str_add, if_pos, if_neg] | ((with_reducible first | refine WC_split ?_ ?_ | refine WS_split ?_ ?_ | refine WD_split ?_ ?_) <;> intro hc <;> (try simp only [hc]) <;> (try simp only [bools] at hc) <;> (try (have hb : @Eq Bool _ _ := hc; simp only [hb]; clear hb))))
        rw [callHeap_at (R := [1]) (call_78 s e)]
        repeat' (first | simp (maxSteps := 10000000) (disch := omega) only [go_sem, Nat.reduceAdd, Nat.reduceSub, Nat.reduceMul, Nat.reduceLT, Nat.reduceLeDiff, Nat.reduceEqDiff, Nat.reduceBEq, Nat.reduceBNe, reduceCtorEq, Int.reduceBNe, Int.reduceBEq, au, lst, if_pos, if_neg, rdB] | simp (disch := (simp only [lens]; omega)) only [str_add, if_pos, if_neg] | ((with_reducible first | refine WC_split ?_ ?_ | refine WS_split ?_ ?_ | refine WD_split ?_ ?_) <;> intro hc <;> (try simp only [hc]) <;> (try simp only [bools] at hc) <;> (try (have hb : @Eq Bool _ _ := hc; simp only [hb]; clear hb))))
        refine hexit _ _ ?_
        repeat' (first | simp (maxSteps := 10000000) (disch := omega) only [go_sem, Nat.reduceAdd, Nat.reduceSub, Nat.reduceMul, Nat.reduceLT, Nat.reduceLeDiff, Nat.reduceEqDiff, Nat.reduceBEq, Nat.reduceBNe, reduceCtorEq, Int.reduceBNe, Int.reduceBEq, au, lst, if_pos, if_neg, askR] | simp (disch := (simp only [lens]; omega)) only [str_add, if_pos, if_neg] | ((with_reducible first | refine WC_split ?_ ?_ | refine WS_split ?_ ?_ | refine WD_split ?_ ?_) <;> intro hc <;> (try simp only [hc]) <;> (try simp only [bools] at hc) <;> (try (have hb : @Eq Bool _ _ := hc; simp only [hb]; clear hb))))
        exact retc1 (v := .agg (askR lv R)) (fun _ => ex_ret) rfl rfl ⟨rfl, rfl, rfl⟩
    · have hra : R = acc := by rw [hr, show min m 4097 - i = 0 by omega]; rfl
      subst hra
      repeat' (first | simp (maxSteps := 10000000) (disch := omega) only [go_sem, Nat.reduceAdd, Nat.reduceSub, Nat.reduceMul, Nat.reduceLT, Nat.reduceLeDiff, Nat.reduceEqDiff, Nat.reduceBEq, Nat.reduceBNe, reduceCtorEq, Int.reduceBNe, Int.reduceBEq, au, lst, if_pos, if_neg] | simp (disch := (simp only [lens]; omega)) only [str_add, if_pos, if_neg] | ((with_reducible first | refine WC_split ?_ ?_ | refine WS_split ?_ ?_ | refine WD_split ?_ ?_) <;> intro hc <;> (try simp only [hc]) <;> (try simp only [bools] at hc) <;> (try (have hb : @Eq Bool _ _ := hc; simp only [hb]; clear hb))))
      refine hexit _ _ ?_
      repeat' (first | simp (maxSteps := 10000000) (disch := omega) only [go_sem, Nat.reduceAdd, Nat.reduceSub, Nat.reduceMul, Nat.reduceLT, Nat.reduceLeDiff, Nat.reduceEqDiff, Nat.reduceBEq, Nat.reduceBNe, reduceCtorEq, Int.reduceBNe, Int.reduceBEq, au, lst, if_pos, if_neg, askR] | simp (disch := (simp only [lens]; omega)) only [str_add, if_pos, if_neg] | ((with_reducible first | refine WC_split ?_ ?_ | refine WS_split ?_ ?_ | refine WD_split ?_ ?_) <;> intro hc <;> (try simp only [hc]) <;> (try simp only [bools] at hc) <;> (try (have hb : @Eq Bool _ _ := hc; simp only [hb]; clear hb))))
      exact retc1 (v := .agg (askR lv R)) (fun _ => ex_ret) rfl rfl ⟨rfl, rfl, rfl⟩
  · have hra : R = acc := by rw [hr, show min m 4097 - i = 0 by omega]; rfl
    subst hra
    repeat' (first | simp (maxSteps := 10000000) (disch := omega) only [go_sem, Nat.reduceAdd, Nat.reduceSub, Nat.reduceMul, Nat.reduceLT, Nat.reduceLeDiff, Nat.reduceEqDiff, Nat.reduceBEq, Nat.reduceBNe, reduceCtorEq, Int.reduceBNe, Int.reduceBEq, au, lst, if_pos, if_neg] | simp (disch := (simp only [lens]; omega)) only [str_add, if_pos, if_neg] | ((with_reducible first | refine WC_split ?_ ?_ | refine WS_split ?_ ?_ | refine WD_split ?_ ?_) <;> intro hc <;> (try simp only [hc]) <;> (try simp only [bools] at hc) <;> (try (have hb : @Eq Bool _ _ := hc; simp only [hb]; clear hb))))
    refine hexit _ _ ?_
    repeat' (first | simp (maxSteps := 10000000) (disch := omega) only [go_sem, Nat.reduceAdd, Nat.reduceSub, Nat.reduceMul, Nat.reduceLT, Nat.reduceLeDiff, Nat.reduceEqDiff, Nat.reduceBEq, Nat.reduceBNe, reduceCtorEq, Int.reduceBNe, Int.reduceBEq, au, lst, if_pos, if_neg, askR] | simp (disch := (simp only [lens]; omega)) only [str_add, if_pos, if_neg] | ((with_reducible first | refine WC_split ?_ ?_ | refine WS_split ?_ ?_ | refine WD_split ?_ ?_) <;> intro hc <;> (try simp only [hc]) <;> (try simp only [bools] at hc) <;> (try (have hb : @Eq Bool _ _ := hc; simp only [hb]; clear hb))))
    exact retc1 (v := .agg (askR lv R)) (fun _ => ex_ret) rfl rfl ⟨rfl, rfl, rfl⟩
set_option maxHeartbeats 4000000 in
theorem call_15 (s : List UInt8) (hlen : s.length ≤ 1000000000) :
    (Lim cfg).call 15 [.str s] [] = some (.tup [.agg (askR (rdA s).1 (rdA s).2.1), .int .i64 (rdA s).2.2], false, []) := by
  have c1 := call_38 s hlen
  have hl := listA_len (stR s 0).1 (stR s 0).2
  have c2 := call_20 (rawA s).1 (rawA s).2 (by show (listA _ _).length ≤ _; omega)
  simp only [askR] at c1 c2
  unfold rdA
  generalize rawA s = a at c1 c2 ⊢
  generalize askS a.1 a.2 = u at c2 ⊢
  cases s with
  | nil =>
    rw [if_neg (by simp)]
    refine call_eq fn_15 rfl ?_
    rw [k_start]
    simp only [Try.f15, st0, Nat.zero_add]
    repeat' (first | simp (maxSteps := 10000000) (disch := omega) only [go_sem, Nat.reduceAdd, Nat.reduceSub, Nat.reduceMul, Nat.reduceLT, Nat.reduceLeDiff, Nat.reduceEqDiff, Nat.reduceBEq, Nat.reduceBNe, reduceCtorEq, Int.reduceBNe, Int.reduceBEq, au, lst, if_pos, if_neg, c1, strOp] | simp (disch := (simp only [lens]; omega)) only [str_add, if_pos, if_neg] | ((with_reducible first | refine WC_split ?_ ?_ | refine WS_split ?_ ?_ | refine WD_split ?_ ?_) <;> intro hc <;> (try simp only [hc]) <;> (try simp only [bools] at hc) <;> (try (have hb : @Eq Bool _ _ := hc; simp only [hb]; clear hb))))
    exact retM (fun _ => ex_ret) rfl rfl ⟨rfl, rfl, rfl⟩
  | cons b r =>
    by_cases hu : u = b :: r
    · rw [if_pos ⟨by simp, hu⟩]
      rw [hu] at c2
      refine call_eq fn_15 rfl ?_
      rw [k_start]
      simp only [Try.f15, st0, Nat.zero_add]
      repeat' (first | simp (maxSteps := 10000000) (disch := omega) only [go_sem, Nat.reduceAdd, Nat.reduceSub, Nat.reduceMul, Nat.reduceLT, Nat.reduceLeDiff, Nat.reduceEqDiff, Nat.reduceBEq, Nat.reduceBNe, reduceCtorEq, Int.reduceBNe, Int.reduceBEq, au, lst, if_pos, if_neg, c1, c2, strOp] | simp (disch := (simp only [lens]; omega)) only [str_add, if_pos, if_neg] | ((with_reducible first | refine WC_split ?_ ?_ | refine WS_split ?_ ?_ | refine WD_split ?_ ?_) <;> intro hc <;> (try simp only [hc]) <;> (try simp only [bools] at hc) <;> (try (have hb : @Eq Bool _ _ := hc; simp only [hb]; clear hb))))
      exact retM (fun _ => ex_ret) rfl rfl ⟨rfl, rfl, rfl⟩
    · rw [if_neg fun h => hu h.2]
      have hu2 : (u == b :: r) = false := by simpa using hu
      refine call_eq fn_15 rfl ?_
      rw [k_start]
      simp only [Try.f15, st0, Nat.zero_add]
      repeat' (first | simp (maxSteps := 10000000) (disch := omega) only [go_sem, Nat.reduceAdd, Nat.reduceSub, Nat.reduceMul, Nat.reduceLT, Nat.reduceLeDiff, Nat.reduceEqDiff, Nat.reduceBEq, Nat.reduceBNe, reduceCtorEq, Int.reduceBNe, Int.reduceBEq, au, lst, if_pos, if_neg, c1, c2, strOp, hu2] | simp (disch := (simp only [lens]; omega)) only [str_add, if_pos, if_neg] | ((with_reducible first | refine WC_split ?_ ?_ | refine WS_split ?_ ?_ | refine WD_split ?_ ?_) <;> intro hc <;> (try simp only [hc]) <;> (try simp only [bools] at hc) <;> (try (have hb : @Eq Bool _ _ := hc; simp only [hb]; clear hb))))
      exact retM (fun _ => ex_ret) rfl rfl ⟨rfl, rfl, rfl⟩
end Go.Proofs.Ythikboobkmfgfaa
