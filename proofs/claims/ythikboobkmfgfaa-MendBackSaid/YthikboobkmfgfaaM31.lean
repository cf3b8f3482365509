/- What is told, read: the program's answer. -/
import Derived.Test.YthikboobkmfgfaaM30
import Derived.Test.YthikboobkmfgfaaM24
set_option linter.all false
set_option maxRecDepth 100000
namespace Go.Proofs.Ythikboobkmfgfaa
open Go Go.Abs

def T17 (s0 : List UInt8) (lv : Int) (L : List Int) (x : List Nat × Nat × List CR × List UInt8 × Int) : St := { fr := mkF 74 [(0, .str s0), (2, .ptr 0 0), (4, .ptr 1 0), (7, .ptr 3 0), (32, .int .i64 L.length), (33, .int .i64 x.2.1)], own := [], hp := [.cells 30 [1, 2, 3] (toldR 0 [] [] []), rdB x.2.2.2.1 x.2.2.2.2, .cells 25 [] (askR lv L), .cells 30 x.1 (toldR lv L [] x.2.2.1)], al := [], nb := 0 }
def T17k (s0 : List UInt8) (b1 b2 : Blk) (lv : Int) (L : List Int) (x : List Nat × List UInt8) : St := { fr := mkF 74 [(0, .str s0), (2, .ptr 0 0), (7, .ptr 3 0), (8, .str x.2)], own := [], hp := [.cells 30 [1, 2, 3] (toldR 0 [] [] []), b1, b2, .cells 30 [2, 3] (toldR lv L x.1 [])], al := [], nb := 0 }
set_option maxHeartbeats 32000000 in
theorem call_17 (s0 : List UInt8) (hlen : s0.length ≤ 100000) :
    (Lim cfg).call 17 [.str s0] [] = some (.tup [.agg (toldR (rdT s0).1.1 (rdT s0).1.2.1 (rdT s0).1.2.2.1 (rdT s0).1.2.2.2), .int .i64 (rdT s0).2], false, []) := by
  have c0 := call_41 s0
  have ct := call_42 s0 0 s0.length (by omega)
  have lt := txR_len s0 0 s0.length
  have hr : rdT s0 = rdT s0 := rfl
  conv at hr => rhs; unfold rdT
  simp only at hr
  generalize rdT s0 = RT at hr ⊢
  generalize txR s0 0 s0.length = t at hr ct lt
  have ca := call_15 t.1 (by omega)
  simp only [askR] at ca
  have la := rdA_len t.1
  generalize rdA t.1 = a at hr ca la
  obtain ⟨lv, L, ea⟩ := a
  obtain ⟨th, s1, e1⟩ := t
  simp only at hr ct ca la lt
  have cl := call_43 s1 e1
  by_cases h1 : ea = 0
  · subst h1
    rw [if_pos rfl] at hr
    refine call_eq fn_17 rfl ?_
    rw [k_start]
    simp only [Try.f17, st0, Nat.zero_add]
    repeat' (first | simp (maxSteps := 10000000) (disch := omega) only [go_sem, Nat.reduceAdd, Nat.reduceSub, Nat.reduceMul, Nat.reduceLT, Nat.reduceLeDiff, Nat.reduceEqDiff, Nat.reduceBEq, Nat.reduceBNe, reduceCtorEq, Int.reduceBNe, Int.reduceBEq, au, lst, if_pos, if_neg, c0] | simp (disch := (simp only [lens]; omega)) only [str_add, if_pos, if_neg] | ((with_reducible first | refine WC_split ?_ ?_ | refine WS_split ?_ ?_ | refine WD_split ?_ ?_) <;> intro hc <;> (try simp only [hc]) <;> (try simp only [bools] at hc) <;> (try (have hb : @Eq Bool _ _ := hc; simp only [hb]; clear hb))))
    rw [callHeap_at (R := [1]) ct]
    repeat' (first | simp (maxSteps := 10000000) (disch := omega) only [go_sem, Nat.reduceAdd, Nat.reduceSub, Nat.reduceMul, Nat.reduceLT, Nat.reduceLeDiff, Nat.reduceEqDiff, Nat.reduceBEq, Nat.reduceBNe, reduceCtorEq, Int.reduceBNe, Int.reduceBEq, au, lst, if_pos, if_neg, rdB, ca] | simp (disch := (simp only [lens]; omega)) only [str_add, if_pos, if_neg] | ((with_reducible first | refine WC_split ?_ ?_ | refine WS_split ?_ ?_ | refine WD_split ?_ ?_) <;> intro hc <;> (try simp only [hc]) <;> (try simp only [bools] at hc) <;> (try (have hb : @Eq Bool _ _ := hc; simp only [hb]; clear hb))))
    rw [callHeap_at (R := [1]) cl]
    by_cases h2 : lv = -1
    · subst h2
      have lc := readC_len L.length s1 e1
      have c9 := call_22 (-1) L [] (readC L.length s1 e1) (by omega) (by simp) (by omega)
      simp only [toldR, List.map_nil] at c9
      rw [bodyT, if_pos rfl] at hr
      simp only at hr
      repeat' (first | simp (maxSteps := 10000000) (disch := omega) only [go_sem, Nat.reduceAdd, Nat.reduceSub, Nat.reduceMul, Nat.reduceLT, Nat.reduceLeDiff, Nat.reduceEqDiff, Nat.reduceBEq, Nat.reduceBNe, reduceCtorEq, Int.reduceBNe, Int.reduceBEq, au, lst, if_pos, if_neg, rdB] | simp (disch := (simp only [lens]; omega)) only [str_add, if_pos, if_neg] | ((with_reducible first | refine WC_split ?_ ?_ | refine WS_split ?_ ?_ | refine WD_split ?_ ?_) <;> intro hc <;> (try simp only [hc]) <;> (try simp only [bools] at hc) <;> (try (have hb : @Eq Bool _ _ := hc; simp only [hb]; clear hb))))
      refine k_loop (T17 s0 (-1) L) (fun x => x.2.1 ≤ L.length ∧ (x.1 = [2, 3] ∨ x.1 = [3, 2]) ∧ x.2.2.1.length = x.2.1 ∧ x.2.2.2.1.length ≤ 1000000000 ∧ x.2.2.1 ++ readC (L.length - x.2.1) x.2.2.2.1 x.2.2.2.2 = readC L.length s1 e1) (fun x => L.length - x.2.1) ([2, 3], 0, [], s1, e1) (K := cfg.kill 17 9) rfl ⟨Nat.zero_le _, .inl rfl, rfl, by show s1.length ≤ _; omega, rfl⟩ (by kernel_rfl) ?_
      intro ⟨ow, i, acc, s, e⟩ ⟨hi, how, hac, hsl, hO⟩ k' Q' hnorm hexit hret
      simp only at hi how hac hsl hO
      simp only [T17, mkF, List.foldl, st0, List.set]
      by_cases hlt : i < L.length
      · have hst : readC (L.length - i) s e = (clR s e).1 :: readC (L.length - (i + 1)) (clR s e).2.1 (clR s e).2.2 := by
          rw [show L.length - i = (L.length - (i + 1)) + 1 by omega, readC]
        have hfl := flR_len s e
        have cf := call_44 s e hsl
        have hap : (acc.length + 1) * 16 ≤ strMax := by unfold strMax; omega
        unfold clR at hst
        simp only at hst
        generalize flR s e = f at hst hfl cf
        obtain ⟨b, s2, e2⟩ := f
        simp only at hst hfl cf
        have cw := rd_whole s2 e2 (by omega)
        have hsl2 := stR_len s2 e2
        clear hexit hret
        rcases how with rfl | rfl
        all_goals
          repeat' (first | simp (maxSteps := 10000000) (disch := omega) only [go_sem, Nat.reduceAdd, Nat.reduceSub, Nat.reduceMul, Nat.reduceLT, Nat.reduceLeDiff, Nat.reduceEqDiff, Nat.reduceBEq, Nat.reduceBNe, reduceCtorEq, Int.reduceBNe, Int.reduceBEq, au, lst, if_pos, if_neg] | simp (disch := (simp only [lens]; omega)) only [str_add, if_pos, if_neg] | ((with_reducible first | refine WC_split ?_ ?_ | refine WS_split ?_ ?_ | refine WD_split ?_ ?_) <;> intro hc <;> (try simp only [hc]) <;> (try simp only [bools] at hc) <;> (try (have hb : @Eq Bool _ _ := hc; simp only [hb]; clear hb))))
          rw [callHeap_at (R := [1]) cf]
          cases b with
          | false =>
            rw [if_neg (by simp)] at hst
            repeat' (first | simp (maxSteps := 10000000) (disch := omega) only [go_sem, Nat.reduceAdd, Nat.reduceSub, Nat.reduceMul, Nat.reduceLT, Nat.reduceLeDiff, Nat.reduceEqDiff, Nat.reduceBEq, Nat.reduceBNe, reduceCtorEq, Int.reduceBNe, Int.reduceBEq, au, lst, if_pos, if_neg, rdB, toldR, hap, fit_crow, head_crow, head_crow'] | simp (disch := (simp only [lens]; omega)) only [str_add, if_pos, if_neg] | ((with_reducible first | refine WC_split ?_ ?_ | refine WS_split ?_ ?_ | refine WD_split ?_ ?_) <;> intro hc <;> (try simp only [hc]) <;> (try simp only [bools] at hc) <;> (try (have hb : @Eq Bool _ _ := hc; simp only [hb]; clear hb))))
            refine hnorm ([3, 2], i + 1, acc ++ [(0, false)], s2, e2) _ ⟨by show i + 1 ≤ _; omega, .inr rfl, by rw [List.length_append, hac]; rfl, by show s2.length ≤ _; omega, ?_⟩ (by show L.length - (i + 1) < L.length - i; omega) ?_
            · show acc ++ [(0, false)] ++ readC _ _ _ = _
              rw [← hO, hst, List.append_assoc]; rfl
            · rw [T17]
              simp only [toldR, List.map_append]
              kernel_rfl
          | true =>
            rw [if_pos rfl] at hst
            repeat' (first | simp (maxSteps := 10000000) (disch := omega) only [go_sem, Nat.reduceAdd, Nat.reduceSub, Nat.reduceMul, Nat.reduceLT, Nat.reduceLeDiff, Nat.reduceEqDiff, Nat.reduceBEq, Nat.reduceBNe, reduceCtorEq, Int.reduceBNe, Int.reduceBEq, au, lst, if_pos, if_neg, rdB, toldR] | simp (disch := (simp only [lens]; omega)) only [str_add, if_pos, if_neg] | ((with_reducible first | refine WC_split ?_ ?_ | refine WS_split ?_ ?_ | refine WD_split ?_ ?_) <;> intro hc <;> (try simp only [hc]) <;> (try simp only [bools] at hc) <;> (try (have hb : @Eq Bool _ _ := hc; simp only [hb]; clear hb))))
            rw [callHeap_at (R := [1]) cw]
            repeat' (first | simp (maxSteps := 10000000) (disch := omega) only [go_sem, Nat.reduceAdd, Nat.reduceSub, Nat.reduceMul, Nat.reduceLT, Nat.reduceLeDiff, Nat.reduceEqDiff, Nat.reduceBEq, Nat.reduceBNe, reduceCtorEq, Int.reduceBNe, Int.reduceBEq, au, lst, if_pos, if_neg, rdB, toldR, hap, fit_crow, head_crow, head_crow'] | simp (disch := (simp only [lens]; omega)) only [str_add, if_pos, if_neg] | ((with_reducible first | refine WC_split ?_ ?_ | refine WS_split ?_ ?_ | refine WD_split ?_ ?_) <;> intro hc <;> (try simp only [hc]) <;> (try simp only [bools] at hc) <;> (try (have hb : @Eq Bool _ _ := hc; simp only [hb]; clear hb))))
            refine hnorm ([3, 2], i + 1, acc ++ [(wholeR s2 e2, true)], stR s2 e2) _ ⟨by show i + 1 ≤ _; omega, .inr rfl, by rw [List.length_append, hac]; rfl, by show (stR s2 e2).1.length ≤ _; omega, ?_⟩ (by show L.length - (i + 1) < L.length - i; omega) ?_
            · show acc ++ [(wholeR s2 e2, true)] ++ readC _ _ _ = _
              rw [← hO, hst, List.append_assoc]; rfl
            · rw [T17]
              simp only [toldR, List.map_append]
              kernel_rfl
      · rw [show L.length - i = 0 by omega, readC, List.append_nil] at hO
        subst hO
        clear hnorm hret
        repeat' (first | simp (maxSteps := 10000000) (disch := omega) only [go_sem, Nat.reduceAdd, Nat.reduceSub, Nat.reduceMul, Nat.reduceLT, Nat.reduceLeDiff, Nat.reduceEqDiff, Nat.reduceBEq, Nat.reduceBNe, reduceCtorEq, Int.reduceBNe, Int.reduceBEq, au, lst, if_pos, if_neg] | simp (disch := (simp only [lens]; omega)) only [str_add, if_pos, if_neg] | ((with_reducible first | refine WC_split ?_ ?_ | refine WS_split ?_ ?_ | refine WD_split ?_ ?_) <;> intro hc <;> (try simp only [hc]) <;> (try simp only [bools] at hc) <;> (try (have hb : @Eq Bool _ _ := hc; simp only [hb]; clear hb))))
        refine hexit _ _ ?_
        have hss : (s0 == s0) = true := by simp
        generalize toldS _ _ _ _ = w at c9 hr
        by_cases hw : w = s0
        · rw [if_pos hw] at hr
          subst hr
          rw [hw] at c9
          repeat' (first | simp (maxSteps := 10000000) (disch := omega) only [go_sem, Nat.reduceAdd, Nat.reduceSub, Nat.reduceMul, Nat.reduceLT, Nat.reduceLeDiff, Nat.reduceEqDiff, Nat.reduceBEq, Nat.reduceBNe, reduceCtorEq, Int.reduceBNe, Int.reduceBEq, au, lst, if_pos, if_neg, toldR, askR, c9, strOp, hss] | simp (disch := (simp only [lens]; omega)) only [str_add, if_pos, if_neg] | ((with_reducible first | refine WC_split ?_ ?_ | refine WS_split ?_ ?_ | refine WD_split ?_ ?_) <;> intro hc <;> (try simp only [hc]) <;> (try simp only [bools] at hc) <;> (try (have hb : @Eq Bool _ _ := hc; simp only [hb]; clear hb))))
          exact retM (fun _ => ex_ret) rfl rfl ⟨rfl, rfl, rfl⟩
        · rw [if_neg hw] at hr
          subst hr
          have hw2 : (w == s0) = false := by simpa using hw
          repeat' (first | simp (maxSteps := 10000000) (disch := omega) only [go_sem, Nat.reduceAdd, Nat.reduceSub, Nat.reduceMul, Nat.reduceLT, Nat.reduceLeDiff, Nat.reduceEqDiff, Nat.reduceBEq, Nat.reduceBNe, reduceCtorEq, Int.reduceBNe, Int.reduceBEq, au, lst, if_pos, if_neg, toldR, askR, c9, strOp, hw2] | simp (disch := (simp only [lens]; omega)) only [str_add, if_pos, if_neg] | ((with_reducible first | refine WC_split ?_ ?_ | refine WS_split ?_ ?_ | refine WD_split ?_ ?_) <;> intro hc <;> (try simp only [hc]) <;> (try simp only [bools] at hc) <;> (try (have hb : @Eq Bool _ _ := hc; simp only [hb]; clear hb))))
          exact retM (fun _ => ex_ret) rfl rfl ⟨rfl, rfl, rfl⟩
    · rw [bodyT, if_neg h2] at hr
      by_cases h3 : s1.length = 64 * L.length
      · rw [if_pos h3] at hr
        simp only at hr
        have lk := readK_len s1
        have c9 := call_22 lv L (readK s1) [] (by omega) (by omega) (by simp)
        simp only [toldR, List.map_nil] at c9
        repeat' (first | simp (maxSteps := 10000000) (disch := omega) only [go_sem, Nat.reduceAdd, Nat.reduceSub, Nat.reduceMul, Nat.reduceLT, Nat.reduceLeDiff, Nat.reduceEqDiff, Nat.reduceBEq, Nat.reduceBNe, reduceCtorEq, Int.reduceBNe, Int.reduceBEq, au, lst, if_pos, if_neg, rdB] | simp (disch := (simp only [lens]; omega)) only [str_add, if_pos, if_neg] | ((with_reducible first | refine WC_split ?_ ?_ | refine WS_split ?_ ?_ | refine WD_split ?_ ?_) <;> intro hc <;> (try simp only [hc]) <;> (try simp only [bools] at hc) <;> (try (have hb : @Eq Bool _ _ := hc; simp only [hb]; clear hb))))
        refine k_loop (T17k s0 (rdB s1 e1) (.cells 25 [] (askR lv L)) lv L) (fun x => x.2.length % 4 = 0 ∧ x.2.length ≤ s1.length ∧ x.1.length ≤ s1.length - x.2.length ∧ x.1 ++ readK x.2 = readK s1) (fun x => x.2.length) ([], s1) (K := cfg.kill 17 16) rfl ⟨by show s1.length % 4 = 0; omega, Nat.le_refl _, Nat.zero_le _, rfl⟩ (by kernel_rfl) ?_
        intro ⟨acc, s⟩ ⟨hm, hsl, hac, hO⟩ k' Q' hnorm hexit hret
        simp only at hm hsl hac hO
        simp only [T17k, mkF, List.foldl, st0, List.set]
        by_cases hlt : s = []
        · subst hlt
          rw [readK, List.append_nil] at hO
          · subst hO
            clear hnorm hret
            repeat' (first | simp (maxSteps := 10000000) (disch := omega) only [go_sem, Nat.reduceAdd, Nat.reduceSub, Nat.reduceMul, Nat.reduceLT, Nat.reduceLeDiff, Nat.reduceEqDiff, Nat.reduceBEq, Nat.reduceBNe, reduceCtorEq, Int.reduceBNe, Int.reduceBEq, au, lst, if_pos, if_neg, strOp] | simp (disch := (simp only [lens]; omega)) only [str_add, if_pos, if_neg] | ((with_reducible first | refine WC_split ?_ ?_ | refine WS_split ?_ ?_ | refine WD_split ?_ ?_) <;> intro hc <;> (try simp only [hc]) <;> (try simp only [bools] at hc) <;> (try (have hb : @Eq Bool _ _ := hc; simp only [hb]; clear hb))))
            refine hexit _ _ ?_
            have hss : (s0 == s0) = true := by simp
            generalize toldS _ _ _ _ = w at c9 hr
            by_cases hw : w = s0
            · rw [if_pos hw] at hr
              subst hr
              rw [hw] at c9
              repeat' (first | simp (maxSteps := 10000000) (disch := omega) only [go_sem, Nat.reduceAdd, Nat.reduceSub, Nat.reduceMul, Nat.reduceLT, Nat.reduceLeDiff, Nat.reduceEqDiff, Nat.reduceBEq, Nat.reduceBNe, reduceCtorEq, Int.reduceBNe, Int.reduceBEq, au, lst, if_pos, if_neg, toldR, askR, c9, strOp, hss] | simp (disch := (simp only [lens]; omega)) only [str_add, if_pos, if_neg] | ((with_reducible first | refine WC_split ?_ ?_ | refine WS_split ?_ ?_ | refine WD_split ?_ ?_) <;> intro hc <;> (try simp only [hc]) <;> (try simp only [bools] at hc) <;> (try (have hb : @Eq Bool _ _ := hc; simp only [hb]; clear hb))))
              exact retM (fun _ => ex_ret) rfl rfl ⟨rfl, rfl, rfl⟩
            · rw [if_neg hw] at hr
              subst hr
              have hw2 : (w == s0) = false := by simpa using hw
              repeat' (first | simp (maxSteps := 10000000) (disch := omega) only [go_sem, Nat.reduceAdd, Nat.reduceSub, Nat.reduceMul, Nat.reduceLT, Nat.reduceLeDiff, Nat.reduceEqDiff, Nat.reduceBEq, Nat.reduceBNe, reduceCtorEq, Int.reduceBNe, Int.reduceBEq, au, lst, if_pos, if_neg, toldR, askR, c9, strOp, hw2] | simp (disch := (simp only [lens]; omega)) only [str_add, if_pos, if_neg] | ((with_reducible first | refine WC_split ?_ ?_ | refine WS_split ?_ ?_ | refine WD_split ?_ ?_) <;> intro hc <;> (try simp only [hc]) <;> (try simp only [bools] at hc) <;> (try (have hb : @Eq Bool _ _ := hc; simp only [hb]; clear hb))))
              exact retM (fun _ => ex_ret) rfl rfl ⟨rfl, rfl, rfl⟩
          all_goals simp
        · have h4 : 4 ≤ s.length := by
            have : s.length ≠ 0 := fun h => hlt (List.length_eq_zero_iff.1 h)
            omega
          have hne : (s == []) = false := by simpa using hlt
          have cn := call_46 s h4 (by omega)
          have hst := readK_step h4
          have e2 : sliceV cfg 9 (.str s) (some (.int .i64 4)) none none = some (.str (s.drop 4)) := str_from (j := 4) rfl h4
          have hap : (acc.length + 1) * 4 ≤ strMax := by unfold strMax; omega
          clear hexit hret
          repeat' (first | simp (maxSteps := 10000000) (disch := omega) only [go_sem, Nat.reduceAdd, Nat.reduceSub, Nat.reduceMul, Nat.reduceLT, Nat.reduceLeDiff, Nat.reduceEqDiff, Nat.reduceBEq, Nat.reduceBNe, reduceCtorEq, Int.reduceBNe, Int.reduceBEq, au, lst, if_pos, if_neg, strOp, hne, cn, e2, toldR, hap, fit_urow, head_urow, head_urow'] | simp (disch := (simp only [lens]; omega)) only [str_add, if_pos, if_neg] | ((with_reducible first | refine WC_split ?_ ?_ | refine WS_split ?_ ?_ | refine WD_split ?_ ?_) <;> intro hc <;> (try simp only [hc]) <;> (try simp only [bools] at hc) <;> (try (have hb : @Eq Bool _ _ := hc; simp only [hb]; clear hb))))
          refine hnorm (acc ++ [numI s 4], s.drop 4) _ ⟨by show (s.drop 4).length % 4 = 0; rw [List.length_drop]; omega, by show (s.drop 4).length ≤ _; rw [List.length_drop]; omega, by show (acc ++ [_]).length ≤ _ - (s.drop 4).length; rw [List.length_drop, List.length_append, List.length_singleton]; omega, ?_⟩ (by show (s.drop 4).length < s.length; rw [List.length_drop]; omega) ?_
          · show acc ++ [numI s 4] ++ readK (s.drop 4) = _
            rw [← hO, hst, List.append_assoc]; rfl
          · rw [T17k]
            simp only [toldR, List.map_append]
            kernel_rfl
      · rw [if_neg h3] at hr
        simp only at hr
        have c9 := call_22 lv L [] [] (by omega) (by simp) (by simp)
        simp only [toldR, List.map_nil] at c9
        repeat' (first | simp (maxSteps := 10000000) (disch := omega) only [go_sem, Nat.reduceAdd, Nat.reduceSub, Nat.reduceMul, Nat.reduceLT, Nat.reduceLeDiff, Nat.reduceEqDiff, Nat.reduceBEq, Nat.reduceBNe, reduceCtorEq, Int.reduceBNe, Int.reduceBEq, au, lst, if_pos, if_neg, rdB] | simp (disch := (simp only [lens]; omega)) only [str_add, if_pos, if_neg] | ((with_reducible first | refine WC_split ?_ ?_ | refine WS_split ?_ ?_ | refine WD_split ?_ ?_) <;> intro hc <;> (try simp only [hc]) <;> (try simp only [bools] at hc) <;> (try (have hb : @Eq Bool _ _ := hc; simp only [hb]; clear hb))))
        have hss : (s0 == s0) = true := by simp
        generalize toldS _ _ _ _ = w at c9 hr
        by_cases hw : w = s0
        · rw [if_pos hw] at hr
          subst hr
          rw [hw] at c9
          repeat' (first | simp (maxSteps := 10000000) (disch := omega) only [go_sem, Nat.reduceAdd, Nat.reduceSub, Nat.reduceMul, Nat.reduceLT, Nat.reduceLeDiff, Nat.reduceEqDiff, Nat.reduceBEq, Nat.reduceBNe, reduceCtorEq, Int.reduceBNe, Int.reduceBEq, au, lst, if_pos, if_neg, toldR, askR, c9, strOp, hss] | simp (disch := (simp only [lens]; omega)) only [str_add, if_pos, if_neg] | ((with_reducible first | refine WC_split ?_ ?_ | refine WS_split ?_ ?_ | refine WD_split ?_ ?_) <;> intro hc <;> (try simp only [hc]) <;> (try simp only [bools] at hc) <;> (try (have hb : @Eq Bool _ _ := hc; simp only [hb]; clear hb))))
          exact retM (fun _ => ex_ret) rfl rfl ⟨rfl, rfl, rfl⟩
        · rw [if_neg hw] at hr
          subst hr
          have hw2 : (w == s0) = false := by simpa using hw
          repeat' (first | simp (maxSteps := 10000000) (disch := omega) only [go_sem, Nat.reduceAdd, Nat.reduceSub, Nat.reduceMul, Nat.reduceLT, Nat.reduceLeDiff, Nat.reduceEqDiff, Nat.reduceBEq, Nat.reduceBNe, reduceCtorEq, Int.reduceBNe, Int.reduceBEq, au, lst, if_pos, if_neg, toldR, askR, c9, strOp, hw2] | simp (disch := (simp only [lens]; omega)) only [str_add, if_pos, if_neg] | ((with_reducible first | refine WC_split ?_ ?_ | refine WS_split ?_ ?_ | refine WD_split ?_ ?_) <;> intro hc <;> (try simp only [hc]) <;> (try simp only [bools] at hc) <;> (try (have hb : @Eq Bool _ _ := hc; simp only [hb]; clear hb))))
          exact retM (fun _ => ex_ret) rfl rfl ⟨rfl, rfl, rfl⟩
  · rw [if_neg h1] at hr
    subst hr
    refine call_eq fn_17 rfl ?_
    rw [k_start]
    simp only [Try.f17, st0, Nat.zero_add]
    repeat' (first | simp (maxSteps := 10000000) (disch := omega) only [go_sem, Nat.reduceAdd, Nat.reduceSub, Nat.reduceMul, Nat.reduceLT, Nat.reduceLeDiff, Nat.reduceEqDiff, Nat.reduceBEq, Nat.reduceBNe, reduceCtorEq, Int.reduceBNe, Int.reduceBEq, au, lst, if_pos, if_neg, c0] | simp (disch := (simp only [lens]; omega)) only [str_add, if_pos, if_neg] | ((with_reducible first | refine WC_split ?_ ?_ | refine WS_split ?_ ?_ | refine WD_split ?_ ?_) <;> intro hc <;> (try simp only [hc]) <;> (try simp only [bools] at hc) <;> (try (have hb : @Eq Bool _ _ := hc; simp only [hb]; clear hb))))
    rw [callHeap_at (R := [1]) ct]
    repeat' (first | simp (maxSteps := 10000000) (disch := omega) only [go_sem, Nat.reduceAdd, Nat.reduceSub, Nat.reduceMul, Nat.reduceLT, Nat.reduceLeDiff, Nat.reduceEqDiff, Nat.reduceBEq, Nat.reduceBNe, reduceCtorEq, Int.reduceBNe, Int.reduceBEq, au, lst, if_pos, if_neg, rdB, ca] | simp (disch := (simp only [lens]; omega)) only [str_add, if_pos, if_neg] | ((with_reducible first | refine WC_split ?_ ?_ | refine WS_split ?_ ?_ | refine WD_split ?_ ?_) <;> intro hc <;> (try simp only [hc]) <;> (try simp only [bools] at hc) <;> (try (have hb : @Eq Bool _ _ := hc; simp only [hb]; clear hb))))
    exact retM (fun _ => ex_ret) rfl rfl ⟨rfl, rfl, rfl⟩
end Go.Proofs.Ythikboobkmfgfaa
