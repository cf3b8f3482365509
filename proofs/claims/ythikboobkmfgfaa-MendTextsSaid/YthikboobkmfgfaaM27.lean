/- Asks, read: the document's answer. -/
import Derived.Test.YthikboobkmfgfaaM23
import Derived.Test.YthikboobkmfgfaaM24
set_option linter.all false
set_option maxRecDepth 100000
namespace Go.Proofs.Ythikboobkmfgfaa
open Go Go.Abs

abbrev rrB (s : List UInt8) (e : Int) : Blk := .cells 93 [] [.str s, .int .i64 e]
def T16 (s0 : List UInt8) (q : List UInt8 × Int) (m : Nat) (lv : Int) (x : Nat × Int × List Int × List UInt8 × Int) : St := { fr := mkF 68 [(0, .str s0), (2, .ptr 0 0), (4, .ptr 1 0), (7, .ptr 3 0), (8, .int .i64 m), (9, .int .i64 x.2.1), (10, .int .i64 x.1)], own := [], hp := [.cells 38 [1] (askR 0 []), .cells 38 [1] (askR lv x.2.2.1), rrB q.1 q.2, rrB x.2.2.2.1 x.2.2.2.2], al := [], nb := 0 }
set_option maxHeartbeats 32000000 in
theorem call_16 (s0 : List UInt8) (hlen : s0.length ≤ 1000000000) :
    (Lim cfg).call 16 [.str s0] [] = some (.tup [.agg (askR (rdA s0).1 (rdA s0).2.1), .int .i64 (rdA s0).2.2], false, []) := by
  have l1 := stR_len s0 0
  have l2 := stR_len (stR s0 0).1 (stR s0 0).2
  have hr : rawA s0 = (wholeR s0 0, listA (stR s0 0).1 (stR s0 0).2) := rfl
  unfold listA at hr
  unfold rdA
  rw [hr]
  simp only
  clear hr
  have c1 := call_39 s0 0 hlen
  generalize wholeR s0 0 = lv at c1 ⊢
  generalize stR s0 0 = q at l1 l2 c1 ⊢
  have c2 := call_40 q.1 q.2 (by omega)
  have hn := numN_lt q.1 q.2
  generalize numN q.1 q.2 = m at hn c2 ⊢
  generalize stR q.1 q.2 = s2 at l2 c2 ⊢
  generalize hm : readL (min m 4097) s2.1 s2.2 (-1) [] = R
  refine call_eq fn_16 rfl ?_
  rw [k_start]
  simp only [Try.f16, st0, Nat.zero_add]
  repeat' (first | simp (maxSteps := 10000000) (disch := omega) only [go_sem, Nat.reduceAdd, Nat.reduceSub, Nat.reduceMul, Nat.reduceLT, Nat.reduceLeDiff, Nat.reduceEqDiff, Nat.reduceBEq, Nat.reduceBNe, reduceCtorEq, Int.reduceBNe, Int.reduceBEq, au, lst, if_pos, if_neg, c1, c2, askR] | simp (disch := (simp only [lens]; omega)) only [str_add, if_pos, if_neg] | ((with_reducible first | refine WC_split ?_ ?_ | refine WS_split ?_ ?_ | refine WD_split ?_ ?_) <;> intro hc <;> (try simp only [hc]) <;> (try simp only [bools] at hc) <;> (try (have hb : @Eq Bool _ _ := hc; simp only [hb]; clear hb))))
  refine k_loop (T16 s0 q m lv) (fun x => x.1 ≤ min m 4097 ∧ x.2.2.1.length = x.1 ∧ -1 ≤ x.2.1 ∧ x.2.1 ≤ 4097 * x.1 ∧ x.2.2.2.1.length ≤ 1000000000 ∧ R = readL (min m 4097 - x.1) x.2.2.2.1 x.2.2.2.2 x.2.1 x.2.2.1) (fun x => min m 4097 - x.1) (0, -1, [], s2.1, s2.2) (K := cfg.kill 16 7) rfl
    ⟨Nat.zero_le _, rfl, Int.le_refl _, by show (-1 : Int) ≤ 4097 * ((0 : Nat) : Int); omega, by show s2.1.length ≤ _; omega, hm.symm⟩ (by kernel_rfl) ?_
  intro ⟨i, lo, acc, s, e⟩ ⟨hi, hacc, hlo, hlo2, hsl, hr⟩ k' Q' hnorm hexit hret
  simp only at hi hacc hlo hlo2 hsl hr
  clear hm
  simp only [T16, mkF, List.foldl, st0, List.set]
  by_cases h1 : i < m
  · by_cases h2 : i ≤ 4096
    · by_cases h3 : e = 0
      · subst h3
        have hst : R = readL (min m 4097 - (i + 1)) (stR s 0).1 (stR s 0).2 (lo + 1 + min (numN s 0 : Int) 4096) (acc ++ [lo + 1 + min (numN s 0 : Int) 4096]) := by
          rw [hr, show min m 4097 - i = (min m 4097 - (i + 1)) + 1 by omega, readL, if_pos rfl]
        have hsl2 := stR_len s 0
        have cn := call_40 s 0 hsl
        generalize stR s 0 = t at hst hsl2 cn
        have hnn := numN_lt s 0
        generalize numN s 0 = u at hst cn hnn
        have hap : (acc.length + 1) * 8 ≤ strMax := by unfold strMax; omega
        clear hexit hret
        by_cases hu : (u : Int) > 4096
        · have hmn : min (u : Int) 4096 = 4096 := by omega
          repeat' (first | simp (maxSteps := 10000000) (disch := omega) only [go_sem, Nat.reduceAdd, Nat.reduceSub, Nat.reduceMul, Nat.reduceLT, Nat.reduceLeDiff, Nat.reduceEqDiff, Nat.reduceBEq, Nat.reduceBNe, reduceCtorEq, Int.reduceBNe, Int.reduceBEq, au, lst, if_pos, if_neg, askR, irow, hap, fit_irow, head_irow, head_irow', cn] | simp (disch := (simp only [lens]; omega)) only [str_add, if_pos, if_neg] | ((with_reducible first | refine WC_split ?_ ?_ | refine WS_split ?_ ?_ | refine WD_split ?_ ?_) <;> intro hc <;> (try simp only [hc]) <;> (try simp only [bools] at hc) <;> (try (have hb : @Eq Bool _ _ := hc; simp only [hb]; clear hb))))
          refine hnorm (i + 1, lo + 1 + min (u : Int) 4096, acc ++ [lo + 1 + min (u : Int) 4096], t.1, t.2) _ ⟨by show i + 1 ≤ _; omega, by rw [List.length_append, hacc]; rfl, by show -1 ≤ lo + 1 + _; omega, by show lo + 1 + _ ≤ 4097 * ((i + 1 : Nat) : Int); omega, by show t.1.length ≤ _; omega, hst⟩ (by show min m 4097 - (i + 1) < min m 4097 - i; omega) ?_
          rw [T16]
          simp only [askR, List.map_append, hmn]
          kernel_rfl
        · have hmn : min (u : Int) 4096 = u := by omega
          repeat' (first | simp (maxSteps := 10000000) (disch := omega) only [go_sem, Nat.reduceAdd, Nat.reduceSub, Nat.reduceMul, Nat.reduceLT, Nat.reduceLeDiff, Nat.reduceEqDiff, Nat.reduceBEq, Nat.reduceBNe, reduceCtorEq, Int.reduceBNe, Int.reduceBEq, au, lst, if_pos, if_neg, askR, irow, hap, fit_irow, head_irow, head_irow', cn] | simp (disch := (simp only [lens]; omega)) only [str_add, if_pos, if_neg] | ((with_reducible first | refine WC_split ?_ ?_ | refine WS_split ?_ ?_ | refine WD_split ?_ ?_) <;> intro hc <;> (try simp only [hc]) <;> (try simp only [bools] at hc) <;> (try (have hb : @Eq Bool _ _ := hc; simp only [hb]; clear hb))))
          refine hnorm (i + 1, lo + 1 + min (u : Int) 4096, acc ++ [lo + 1 + min (u : Int) 4096], t.1, t.2) _ ⟨by show i + 1 ≤ _; omega, by rw [List.length_append, hacc]; rfl, by show -1 ≤ lo + 1 + _; omega, by show lo + 1 + _ ≤ 4097 * ((i + 1 : Nat) : Int); omega, by show t.1.length ≤ _; omega, hst⟩ (by show min m 4097 - (i + 1) < min m 4097 - i; omega) ?_
          rw [T16]
          simp only [askR, List.map_append, hmn]
          kernel_rfl
      · have hra : R = acc := by rw [hr, readL_bad h3]
        subst hra
        clear hnorm hret hr
        repeat' (first | simp (maxSteps := 10000000) (disch := omega) only [go_sem, Nat.reduceAdd, Nat.reduceSub, Nat.reduceMul, Nat.reduceLT, Nat.reduceLeDiff, Nat.reduceEqDiff, Nat.reduceBEq, Nat.reduceBNe, reduceCtorEq, Int.reduceBNe, Int.reduceBEq, au, lst, if_pos, if_neg] | simp (disch := (simp only [lens]; omega)) only [str_add, if_pos, if_neg] | ((with_reducible first | refine WC_split ?_ ?_ | refine WS_split ?_ ?_ | refine WD_split ?_ ?_) <;> intro hc <;> (try simp only [hc]) <;> (try simp only [bools] at hc) <;> (try (have hb : @Eq Bool _ _ := hc; simp only [hb]; clear hb))))
        refine hexit _ _ ?_
        cases s0 with
        | nil =>
          rw [if_neg (by simp)]
          repeat' (first | simp (maxSteps := 10000000) (disch := omega) only [go_sem, Nat.reduceAdd, Nat.reduceSub, Nat.reduceMul, Nat.reduceLT, Nat.reduceLeDiff, Nat.reduceEqDiff, Nat.reduceBEq, Nat.reduceBNe, reduceCtorEq, Int.reduceBNe, Int.reduceBEq, au, lst, if_pos, if_neg, askR, strOp] | simp (disch := (simp only [lens]; omega)) only [str_add, if_pos, if_neg] | ((with_reducible first | refine WC_split ?_ ?_ | refine WS_split ?_ ?_ | refine WD_split ?_ ?_) <;> intro hc <;> (try simp only [hc]) <;> (try simp only [bools] at hc) <;> (try (have hb : @Eq Bool _ _ := hc; simp only [hb]; clear hb))))
          exact retM (fun _ => ex_ret) rfl rfl ⟨rfl, rfl, rfl⟩
        | cons b r =>
          have c9 := call_21 lv R (by rw [hacc]; omega)
          simp only [askR] at c9
          generalize askS lv R = w at c9 ⊢
          by_cases hu : w = b :: r
          · rw [if_pos ⟨by simp, hu⟩]
            rw [hu] at c9
            repeat' (first | simp (maxSteps := 10000000) (disch := omega) only [go_sem, Nat.reduceAdd, Nat.reduceSub, Nat.reduceMul, Nat.reduceLT, Nat.reduceLeDiff, Nat.reduceEqDiff, Nat.reduceBEq, Nat.reduceBNe, reduceCtorEq, Int.reduceBNe, Int.reduceBEq, au, lst, if_pos, if_neg, askR, strOp, c9] | simp (disch := (simp only [lens]; omega)) only [str_add, if_pos, if_neg] | ((with_reducible first | refine WC_split ?_ ?_ | refine WS_split ?_ ?_ | refine WD_split ?_ ?_) <;> intro hc <;> (try simp only [hc]) <;> (try simp only [bools] at hc) <;> (try (have hb : @Eq Bool _ _ := hc; simp only [hb]; clear hb))))
            exact retM (fun _ => ex_ret) rfl rfl ⟨rfl, rfl, rfl⟩
          · rw [if_neg fun h => hu h.2]
            have hu2 : (w == b :: r) = false := by simpa using hu
            repeat' (first | simp (maxSteps := 10000000) (disch := omega) only [go_sem, Nat.reduceAdd, Nat.reduceSub, Nat.reduceMul, Nat.reduceLT, Nat.reduceLeDiff, Nat.reduceEqDiff, Nat.reduceBEq, Nat.reduceBNe, reduceCtorEq, Int.reduceBNe, Int.reduceBEq, au, lst, if_pos, if_neg, askR, strOp, c9, hu2] | simp (disch := (simp only [lens]; omega)) only [str_add, if_pos, if_neg] | ((with_reducible first | refine WC_split ?_ ?_ | refine WS_split ?_ ?_ | refine WD_split ?_ ?_) <;> intro hc <;> (try simp only [hc]) <;> (try simp only [bools] at hc) <;> (try (have hb : @Eq Bool _ _ := hc; simp only [hb]; clear hb))))
            exact retM (fun _ => ex_ret) rfl rfl ⟨rfl, rfl, rfl⟩
    · have hra : R = acc := by rw [hr, show min m 4097 - i = 0 by omega]; rfl
      subst hra
      clear hnorm hret hr
      repeat' (first | simp (maxSteps := 10000000) (disch := omega) only [go_sem, Nat.reduceAdd, Nat.reduceSub, Nat.reduceMul, Nat.reduceLT, Nat.reduceLeDiff, Nat.reduceEqDiff, Nat.reduceBEq, Nat.reduceBNe, reduceCtorEq, Int.reduceBNe, Int.reduceBEq, au, lst, if_pos, if_neg] | simp (disch := (simp only [lens]; omega)) only [str_add, if_pos, if_neg] | ((with_reducible first | refine WC_split ?_ ?_ | refine WS_split ?_ ?_ | refine WD_split ?_ ?_) <;> intro hc <;> (try simp only [hc]) <;> (try simp only [bools] at hc) <;> (try (have hb : @Eq Bool _ _ := hc; simp only [hb]; clear hb))))
      refine hexit _ _ ?_
      cases s0 with
      | nil =>
        rw [if_neg (by simp)]
        repeat' (first | simp (maxSteps := 10000000) (disch := omega) only [go_sem, Nat.reduceAdd, Nat.reduceSub, Nat.reduceMul, Nat.reduceLT, Nat.reduceLeDiff, Nat.reduceEqDiff, Nat.reduceBEq, Nat.reduceBNe, reduceCtorEq, Int.reduceBNe, Int.reduceBEq, au, lst, if_pos, if_neg, askR, strOp] | simp (disch := (simp only [lens]; omega)) only [str_add, if_pos, if_neg] | ((with_reducible first | refine WC_split ?_ ?_ | refine WS_split ?_ ?_ | refine WD_split ?_ ?_) <;> intro hc <;> (try simp only [hc]) <;> (try simp only [bools] at hc) <;> (try (have hb : @Eq Bool _ _ := hc; simp only [hb]; clear hb))))
        exact retM (fun _ => ex_ret) rfl rfl ⟨rfl, rfl, rfl⟩
      | cons b r =>
        have c9 := call_21 lv R (by rw [hacc]; omega)
        simp only [askR] at c9
        generalize askS lv R = w at c9 ⊢
        by_cases hu : w = b :: r
        · rw [if_pos ⟨by simp, hu⟩]
          rw [hu] at c9
          repeat' (first | simp (maxSteps := 10000000) (disch := omega) only [go_sem, Nat.reduceAdd, Nat.reduceSub, Nat.reduceMul, Nat.reduceLT, Nat.reduceLeDiff, Nat.reduceEqDiff, Nat.reduceBEq, Nat.reduceBNe, reduceCtorEq, Int.reduceBNe, Int.reduceBEq, au, lst, if_pos, if_neg, askR, strOp, c9] | simp (disch := (simp only [lens]; omega)) only [str_add, if_pos, if_neg] | ((with_reducible first | refine WC_split ?_ ?_ | refine WS_split ?_ ?_ | refine WD_split ?_ ?_) <;> intro hc <;> (try simp only [hc]) <;> (try simp only [bools] at hc) <;> (try (have hb : @Eq Bool _ _ := hc; simp only [hb]; clear hb))))
          exact retM (fun _ => ex_ret) rfl rfl ⟨rfl, rfl, rfl⟩
        · rw [if_neg fun h => hu h.2]
          have hu2 : (w == b :: r) = false := by simpa using hu
          repeat' (first | simp (maxSteps := 10000000) (disch := omega) only [go_sem, Nat.reduceAdd, Nat.reduceSub, Nat.reduceMul, Nat.reduceLT, Nat.reduceLeDiff, Nat.reduceEqDiff, Nat.reduceBEq, Nat.reduceBNe, reduceCtorEq, Int.reduceBNe, Int.reduceBEq, au, lst, if_pos, if_neg, askR, strOp, c9, hu2] | simp (disch := (simp only [lens]; omega)) only [str_add, if_pos, if_neg] | ((with_reducible first | refine WC_split ?_ ?_ | refine WS_split ?_ ?_ | refine WD_split ?_ ?_) <;> intro hc <;> (try simp only [hc]) <;> (try simp only [bools] at hc) <;> (try (have hb : @Eq Bool _ _ := hc; simp only [hb]; clear hb))))
          exact retM (fun _ => ex_ret) rfl rfl ⟨rfl, rfl, rfl⟩
  · have hra : R = acc := by rw [hr, show min m 4097 - i = 0 by omega]; rfl
    subst hra
    clear hnorm hret hr
    repeat' (first | simp (maxSteps := 10000000) (disch := omega) only [go_sem, Nat.reduceAdd, Nat.reduceSub, Nat.reduceMul, Nat.reduceLT, Nat.reduceLeDiff, Nat.reduceEqDiff, Nat.reduceBEq, Nat.reduceBNe, reduceCtorEq, Int.reduceBNe, Int.reduceBEq, au, lst, if_pos, if_neg] | simp (disch := (simp only [lens]; omega)) only [str_add, if_pos, if_neg] | ((with_reducible first | refine WC_split ?_ ?_ | refine WS_split ?_ ?_ | refine WD_split ?_ ?_) <;> intro hc <;> (try simp only [hc]) <;> (try simp only [bools] at hc) <;> (try (have hb : @Eq Bool _ _ := hc; simp only [hb]; clear hb))))
    refine hexit _ _ ?_
    cases s0 with
    | nil =>
      rw [if_neg (by simp)]
      repeat' (first | simp (maxSteps := 10000000) (disch := omega) only [go_sem, Nat.reduceAdd, Nat.reduceSub, Nat.reduceMul, Nat.reduceLT, Nat.reduceLeDiff, Nat.reduceEqDiff, Nat.reduceBEq, Nat.reduceBNe, reduceCtorEq, Int.reduceBNe, Int.reduceBEq, au, lst, if_pos, if_neg, askR, strOp] | simp (disch := (simp only [lens]; omega)) only [str_add, if_pos, if_neg] | ((with_reducible first | refine WC_split ?_ ?_ | refine WS_split ?_ ?_ | refine WD_split ?_ ?_) <;> intro hc <;> (try simp only [hc]) <;> (try simp only [bools] at hc) <;> (try (have hb : @Eq Bool _ _ := hc; simp only [hb]; clear hb))))
      exact retM (fun _ => ex_ret) rfl rfl ⟨rfl, rfl, rfl⟩
    | cons b r =>
      have c9 := call_21 lv R (by rw [hacc]; omega)
      simp only [askR] at c9
      generalize askS lv R = w at c9 ⊢
      by_cases hu : w = b :: r
      · rw [if_pos ⟨by simp, hu⟩]
        rw [hu] at c9
        repeat' (first | simp (maxSteps := 10000000) (disch := omega) only [go_sem, Nat.reduceAdd, Nat.reduceSub, Nat.reduceMul, Nat.reduceLT, Nat.reduceLeDiff, Nat.reduceEqDiff, Nat.reduceBEq, Nat.reduceBNe, reduceCtorEq, Int.reduceBNe, Int.reduceBEq, au, lst, if_pos, if_neg, askR, strOp, c9] | simp (disch := (simp only [lens]; omega)) only [str_add, if_pos, if_neg] | ((with_reducible first | refine WC_split ?_ ?_ | refine WS_split ?_ ?_ | refine WD_split ?_ ?_) <;> intro hc <;> (try simp only [hc]) <;> (try simp only [bools] at hc) <;> (try (have hb : @Eq Bool _ _ := hc; simp only [hb]; clear hb))))
        exact retM (fun _ => ex_ret) rfl rfl ⟨rfl, rfl, rfl⟩
      · rw [if_neg fun h => hu h.2]
        have hu2 : (w == b :: r) = false := by simpa using hu
        repeat' (first | simp (maxSteps := 10000000) (disch := omega) only [go_sem, Nat.reduceAdd, Nat.reduceSub, Nat.reduceMul, Nat.reduceLT, Nat.reduceLeDiff, Nat.reduceEqDiff, Nat.reduceBEq, Nat.reduceBNe, reduceCtorEq, Int.reduceBNe, Int.reduceBEq, au, lst, if_pos, if_neg, askR, strOp, c9, hu2] | simp (disch := (simp only [lens]; omega)) only [str_add, if_pos, if_neg] | ((with_reducible first | refine WC_split ?_ ?_ | refine WS_split ?_ ?_ | refine WD_split ?_ ?_) <;> intro hc <;> (try simp only [hc]) <;> (try simp only [bools] at hc) <;> (try (have hb : @Eq Bool _ _ := hc; simp only [hb]; clear hb))))
        exact retM (fun _ => ex_ret) rfl rfl ⟨rfl, rfl, rfl⟩
end Go.Proofs.Ythikboobkmfgfaa
