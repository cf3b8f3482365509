/- The numbers above numbers, and all levels: the document's answers. -/
import Derived.Test.YthikboobkmfgfaaM43
set_option linter.all false
set_option maxRecDepth 100000
namespace Go.Proofs.Ythikboobkmfgfaa
open Go Go.Abs

theorem aboveL_succ {l : List Nat} {m : Nat} (h : m < l.length / 16) : (aboveL l).take (m + 1) = (aboveL l).take m ++ [overN (row16 l m)] := by
  rw [List.take_succ_eq_append_getElem (by rw [aboveL_len]; exact h)]
  simp [aboveL]
theorem part_sl {l : List Nat} {m : Nat} (h : 16 * m + 16 ≤ l.length) : sliceV cfg 27 (.sl true (l.map urow)) (some (.int .i64 ((16 * m : Nat) : Int))) (some (.int .i64 ((16 * (m + 1) : Nat) : Int))) none = some (.sl true ((row16 l m).map urow)) := by
  have e1 : (0 : Int) ≤ ((16 * m : Nat) : Int) ∧ ((16 * m : Nat) : Int) ≤ ((16 * (m + 1) : Nat) : Int) := by omega
  have e2 : (0 : Int) ≤ ((16 * (m + 1) : Nat) : Int) ∧ ((16 * (m + 1) : Nat) : Int) ≤ (((l.map urow).length : Nat) : Int) := by rw [List.length_map]; omega
  simp only [sliceV, ty_27, ty_89, Option.map_some, fit_urow, bound, if_pos e1, if_pos e2, Int.toNat_natCast, Bool.true_eq_false, if_false]
  rw [show 16 * (m + 1) - 16 * m = 16 by omega, ← List.map_drop, ← List.map_take]; rfl
def zeroB (l : List Nat) : Bool := l.all fun n => n == 0
theorem zeroB_step {l : List Nat} {j : Nat} (h : j < l.length) : zeroB (l.take (j + 1)) = (zeroB (l.take j) && (l[j] == 0)) := by
  rw [zeroB, zeroB, List.take_succ_eq_append_getElem h, List.all_append]; simp
theorem zeroB_all {l : List Nat} (h : zeroB l = true) (hl : l.length = 16) : l = zerL 16 := by
  apply List.eq_replicate_iff.2 ⟨hl, fun b hb => ?_⟩
  have := List.all_eq_true.1 h b hb
  simpa using this
def S76 (l : List Nat) (i : Nat) : St := { fr := mkF 56 [(0, .sl true (l.map urow)), (3, .sl true ((zerL i).map urow)), (4, .int .i64 i)], own := [3], hp := [], al := [], nb := 0 }
def S76b (l : List Nat) (m : Nat) : St := { fr := mkF 56 [(0, .sl true (l.map urow)), (5, .int .u32 (overN (zerL 16) : Nat)), (6, .sl true (((aboveL l).take m).map urow)), (7, .int .i64 ((16 * m : Nat) : Int))], own := [6], hp := [], al := [], nb := 0 }
def S76c (l : List Nat) (m j : Nat) : St := { fr := mkF 56 [(0, .sl true (l.map urow)), (5, .int .u32 (overN (zerL 16) : Nat)), (6, .sl true (((aboveL l).take m).map urow)), (7, .int .i64 ((16 * m : Nat) : Int)), (8, .bool (zeroB ((row16 l m).take j))), (9, .int .i64 ((16 * m + j : Nat) : Int))], own := [6], hp := [], al := [], nb := 0 }
set_option maxHeartbeats 16000000 in
theorem call_76 (l : List Nat) (hlen : l.length ≤ 100000) : (Lim cfg).call 76 [.sl true (l.map urow)] [] = some (.sl true ((aboveL l).map urow), false, []) := by
  have hal := aboveL_len l
  refine call_eq fn_76 rfl ?_
  rw [k_start]
  simp only [Try.f76, st0, Nat.zero_add]
  repeat' (first | simp (maxSteps := 10000000) (disch := omega) only [go_sem, Nat.reduceAdd, Nat.reduceSub, Nat.reduceMul, Nat.reduceLT, Nat.reduceLeDiff, Nat.reduceEqDiff, Nat.reduceBEq, Nat.reduceBNe, reduceCtorEq, Int.reduceBNe, Int.reduceBEq, au, lst, if_pos, if_neg] | simp (disch := (simp only [lens]; omega)) only [str_add, if_pos, if_neg] | ((with_reducible first | refine WC_split ?_ ?_ | refine WS_split ?_ ?_ | refine WD_split ?_ ?_) <;> intro hc <;> (try simp only [hc]) <;> (try simp only [bools] at hc) <;> (try (have hb : @Eq Bool _ _ := hc; simp only [hb]; clear hb))))
  refine k_loop (S76 l) (fun i => i ≤ 16) (fun i => 16 - i) 0 (K := cfg.kill 76 3) rfl (Nat.zero_le _) (by kernel_rfl) ?_
  intro i hi k' Q' hnorm hexit hret
  simp only [S76, mkF, List.foldl, st0, List.set]
  by_cases hlt : i < 16
  · have hz := zerL_len i
    have hb : (i + 1) * 4 ≤ strMax := by unfold strMax; omega
    have e1 : (zerL i).map urow ++ [[V.int .u32 0]] = (zerL (i + 1)).map urow := by rw [zerL, zerL, List.replicate_succ' (n := i), List.map_append]; rfl
    have e2 : headByte ((zerL (i + 1)).map urow) = false := head_urow _
    clear hexit hret
    repeat' (first | simp (maxSteps := 10000000) (disch := omega) only [go_sem, Nat.reduceAdd, Nat.reduceSub, Nat.reduceMul, Nat.reduceLT, Nat.reduceLeDiff, Nat.reduceEqDiff, Nat.reduceBEq, Nat.reduceBNe, reduceCtorEq, Int.reduceBNe, Int.reduceBEq, au, lst, if_pos, if_neg, hz, hb, e1, e2, fit_urow, head_urow] | simp (disch := (simp only [lens]; omega)) only [str_add, if_pos, if_neg] | ((with_reducible first | refine WC_split ?_ ?_ | refine WS_split ?_ ?_ | refine WD_split ?_ ?_) <;> intro hc <;> (try simp only [hc]) <;> (try simp only [bools] at hc) <;> (try (have hb : @Eq Bool _ _ := hc; simp only [hb]; clear hb))))
    exact hnorm (i + 1) _ (by omega) (by omega) (by kernel_rfl)
  · have hi16 : i = 16 := by omega
    subst hi16
    have c0 := call_94 (zerL 16) (by rw [zerL_len]; omega)
    generalize hG : overN (zerL 16) = none16 at c0
    clear hnorm hret
    repeat' (first | simp (maxSteps := 10000000) (disch := omega) only [go_sem, Nat.reduceAdd, Nat.reduceSub, Nat.reduceMul, Nat.reduceLT, Nat.reduceLeDiff, Nat.reduceEqDiff, Nat.reduceBEq, Nat.reduceBNe, reduceCtorEq, Int.reduceBNe, Int.reduceBEq, au, lst, if_pos, if_neg] | simp (disch := (simp only [lens]; omega)) only [str_add, if_pos, if_neg] | ((with_reducible first | refine WC_split ?_ ?_ | refine WS_split ?_ ?_ | refine WD_split ?_ ?_) <;> intro hc <;> (try simp only [hc]) <;> (try simp only [bools] at hc) <;> (try (have hb : @Eq Bool _ _ := hc; simp only [hb]; clear hb))))
    refine hexit _ _ ?_
    repeat' (first | simp (maxSteps := 10000000) (disch := omega) only [go_sem, Nat.reduceAdd, Nat.reduceSub, Nat.reduceMul, Nat.reduceLT, Nat.reduceLeDiff, Nat.reduceEqDiff, Nat.reduceBEq, Nat.reduceBNe, reduceCtorEq, Int.reduceBNe, Int.reduceBEq, au, lst, if_pos, if_neg, c0] | simp (disch := (simp only [lens]; omega)) only [str_add, if_pos, if_neg] | ((with_reducible first | refine WC_split ?_ ?_ | refine WS_split ?_ ?_ | refine WD_split ?_ ?_) <;> intro hc <;> (try simp only [hc]) <;> (try simp only [bools] at hc) <;> (try (have hb : @Eq Bool _ _ := hc; simp only [hb]; clear hb))))
    refine k_loop (S76b l) (fun m => m ≤ l.length / 16) (fun m => l.length / 16 - m) 0 (K := cfg.kill 76 9) rfl (Nat.zero_le _) (by rw [S76b, hG]; kernel_rfl) ?_
    intro m hm k2 Q2 hnorm2 hexit2 hret2
    have eS : ∀ m, S76b l m = { fr := mkF 56 [(0, .sl true (l.map urow)), (5, .int .u32 (none16 : Nat)), (6, .sl true (((aboveL l).take m).map urow)), (7, .int .i64 ((16 * m : Nat) : Int))], own := [6], hp := [], al := [], nb := 0 } := fun _ => by rw [S76b, hG]
    rw [eS]
    simp only [eS, mkF, List.foldl, st0, List.set]
    have e16 : ((16 * m : Nat) : Int) + 16 = ((16 * (m + 1) : Nat) : Int) := by omega
    by_cases hlt2 : m < l.length / 16
    · have h16 : 16 * m + 16 ≤ l.length := by omega
      have hrl := row16_len h16
      have hst := aboveL_succ hlt2
      have hol : ((aboveL l).take m).length = m := by rw [List.length_take]; omega
      have hsl := part_sl h16
      clear hexit2 hret2
      repeat' (first | simp (maxSteps := 10000000) (disch := omega) only [go_sem, Nat.reduceAdd, Nat.reduceSub, Nat.reduceMul, Nat.reduceLT, Nat.reduceLeDiff, Nat.reduceEqDiff, Nat.reduceBEq, Nat.reduceBNe, reduceCtorEq, Int.reduceBNe, Int.reduceBEq, au, lst, if_pos, if_neg, e16] | simp (disch := (simp only [lens]; omega)) only [str_add, if_pos, if_neg] | ((with_reducible first | refine WC_split ?_ ?_ | refine WS_split ?_ ?_ | refine WD_split ?_ ?_) <;> intro hc <;> (try simp only [hc]) <;> (try simp only [bools] at hc) <;> (try (have hb : @Eq Bool _ _ := hc; simp only [hb]; clear hb))))
      have eC : ∀ j, S76c l m j = { fr := mkF 56 [(0, .sl true (l.map urow)), (5, .int .u32 (none16 : Nat)), (6, .sl true (((aboveL l).take m).map urow)), (7, .int .i64 ((16 * m : Nat) : Int)), (8, .bool (zeroB ((row16 l m).take j))), (9, .int .i64 ((16 * m + j : Nat) : Int))], own := [6], hp := [], al := [], nb := 0 } := fun _ => by rw [S76c, hG]
      refine k_loop (S76c l m) (fun j => j ≤ 16) (fun j => 16 - j) 0 (K := cfg.kill 76 13) rfl (Nat.zero_le _) (by rw [eC]; kernel_rfl) ?_
      intro j hj k3 Q3 hnorm3 hexit3 hret3
      rw [eC]
      simp only [eC, mkF, List.foldl, st0, List.set]
      by_cases hlt3 : j < 16
      · have hzs := zeroB_step (l := row16 l m) (j := j) (by omega)
        have hx : l[16 * m + j]? = some (row16 l m)[j] := row16_get h16 (by omega)
        generalize (row16 l m)[j] = n at hzs hx
        have ej : ((16 * m + j : Nat) : Int) + 1 = ((16 * m + (j + 1) : Nat) : Int) := by omega
        clear hexit3 hret3
        have hcond : ((16 * m + j : Nat) : Int) < ((16 * (m + 1) : Nat) : Int) := by omega
        have h0 : ¬ ((16 * m + j : Nat) : Int) < 0 := by omega
        cases hb : zeroB ((row16 l m).take j) with
        | false =>
          rw [hb, Bool.false_and] at hzs
          repeat' (first | simp (maxSteps := 10000000) (disch := omega) only [go_sem, Nat.reduceAdd, Nat.reduceSub, Nat.reduceMul, Nat.reduceLT, Nat.reduceLeDiff, Nat.reduceEqDiff, Nat.reduceBEq, Nat.reduceBNe, reduceCtorEq, Int.reduceBNe, Int.reduceBEq, au, lst, if_pos, if_neg, e16, hcond, ej] | simp (disch := (simp only [lens]; omega)) only [str_add, if_pos, if_neg] | ((with_reducible first | refine WC_split ?_ ?_ | refine WS_split ?_ ?_ | refine WD_split ?_ ?_) <;> intro hc <;> (try simp only [hc]) <;> (try simp only [bools] at hc) <;> (try (have hb : @Eq Bool _ _ := hc; simp only [hb]; clear hb))))
          refine hnorm3 (j + 1) _ (by omega) (by omega) ?_
          rw [eC, hzs]
          kernel_rfl
        | true =>
          rw [hb, Bool.true_and] at hzs
          by_cases hn : n = 0
          · subst hn
            repeat' (first | simp (maxSteps := 10000000) (disch := omega) only [go_sem, Nat.reduceAdd, Nat.reduceSub, Nat.reduceMul, Nat.reduceLT, Nat.reduceLeDiff, Nat.reduceEqDiff, Nat.reduceBEq, Nat.reduceBNe, reduceCtorEq, Int.reduceBNe, Int.reduceBEq, au, lst, if_pos, if_neg, e16, hcond, h0, ej, urow, hx] | simp (disch := (simp only [lens]; omega)) only [str_add, if_pos, if_neg] | ((with_reducible first | refine WC_split ?_ ?_ | refine WS_split ?_ ?_ | refine WD_split ?_ ?_) <;> intro hc <;> (try simp only [hc]) <;> (try simp only [bools] at hc) <;> (try (have hb : @Eq Bool _ _ := hc; simp only [hb]; clear hb))))
            refine hnorm3 (j + 1) _ (by omega) (by omega) ?_
            rw [eC, hzs]
            kernel_rfl
          · have hn1 : (n == 0) = false := by simpa using hn
            have hn2 : ((n : Int) == 0) = false := by rw [beq_eq_false_iff_ne]; omega
            repeat' (first | simp (maxSteps := 10000000) (disch := omega) only [go_sem, Nat.reduceAdd, Nat.reduceSub, Nat.reduceMul, Nat.reduceLT, Nat.reduceLeDiff, Nat.reduceEqDiff, Nat.reduceBEq, Nat.reduceBNe, reduceCtorEq, Int.reduceBNe, Int.reduceBEq, au, lst, if_pos, if_neg, e16, hcond, h0, ej, urow, hx, hn2] | simp (disch := (simp only [lens]; omega)) only [str_add, if_pos, if_neg] | ((with_reducible first | refine WC_split ?_ ?_ | refine WS_split ?_ ?_ | refine WD_split ?_ ?_) <;> intro hc <;> (try simp only [hc]) <;> (try simp only [bools] at hc) <;> (try (have hb : @Eq Bool _ _ := hc; simp only [hb]; clear hb))))
            refine hnorm3 (j + 1) _ (by omega) (by omega) ?_
            rw [eC, hzs, hn1]
            kernel_rfl
      · have hcond : ¬ ((16 * m + j : Nat) : Int) < ((16 * (m + 1) : Nat) : Int) := by omega
        have hbb : (m + 1) * 4 ≤ strMax := by unfold strMax; omega
        have htk : (row16 l m).take j = row16 l m := List.take_of_length_le (by omega)
        have e2 : ∀ n : Nat, ((aboveL l).take m).map urow ++ [[V.int .u32 (n : Int)]] = ((aboveL l).take m ++ [n]).map urow := fun n => by rw [List.map_append]; rfl
        rw [htk]
        clear hnorm3 hret3
        cases hb : zeroB (row16 l m) with
        | true =>
          have hz := zeroB_all hb hrl
          rw [hz, hG] at hst
          repeat' (first | simp (maxSteps := 10000000) (disch := omega) only [go_sem, Nat.reduceAdd, Nat.reduceSub, Nat.reduceMul, Nat.reduceLT, Nat.reduceLeDiff, Nat.reduceEqDiff, Nat.reduceBEq, Nat.reduceBNe, reduceCtorEq, Int.reduceBNe, Int.reduceBEq, au, lst, if_pos, if_neg, e16, hcond] | simp (disch := (simp only [lens]; omega)) only [str_add, if_pos, if_neg] | ((with_reducible first | refine WC_split ?_ ?_ | refine WS_split ?_ ?_ | refine WD_split ?_ ?_) <;> intro hc <;> (try simp only [hc]) <;> (try simp only [bools] at hc) <;> (try (have hb : @Eq Bool _ _ := hc; simp only [hb]; clear hb))))
          refine hexit3 _ _ ?_
          repeat' (first | simp (maxSteps := 10000000) (disch := omega) only [go_sem, Nat.reduceAdd, Nat.reduceSub, Nat.reduceMul, Nat.reduceLT, Nat.reduceLeDiff, Nat.reduceEqDiff, Nat.reduceBEq, Nat.reduceBNe, reduceCtorEq, Int.reduceBNe, Int.reduceBEq, au, lst, if_pos, if_neg, e16, hol, hbb, fit_urow, head_urow, e2] | simp (disch := (simp only [lens]; omega)) only [str_add, if_pos, if_neg] | ((with_reducible first | refine WC_split ?_ ?_ | refine WS_split ?_ ?_ | refine WD_split ?_ ?_) <;> intro hc <;> (try simp only [hc]) <;> (try simp only [bools] at hc) <;> (try (have hb : @Eq Bool _ _ := hc; simp only [hb]; clear hb))))
          refine hnorm2 (m + 1) _ (by omega) (by omega) ?_
          rw [eS, hst]
          kernel_rfl
        | false =>
          have cr := call_94 (row16 l m) (by omega)
          repeat' (first | simp (maxSteps := 10000000) (disch := omega) only [go_sem, Nat.reduceAdd, Nat.reduceSub, Nat.reduceMul, Nat.reduceLT, Nat.reduceLeDiff, Nat.reduceEqDiff, Nat.reduceBEq, Nat.reduceBNe, reduceCtorEq, Int.reduceBNe, Int.reduceBEq, au, lst, if_pos, if_neg, e16, hcond] | simp (disch := (simp only [lens]; omega)) only [str_add, if_pos, if_neg] | ((with_reducible first | refine WC_split ?_ ?_ | refine WS_split ?_ ?_ | refine WD_split ?_ ?_) <;> intro hc <;> (try simp only [hc]) <;> (try simp only [bools] at hc) <;> (try (have hb : @Eq Bool _ _ := hc; simp only [hb]; clear hb))))
          refine hexit3 _ _ ?_
          repeat' (first | simp (maxSteps := 10000000) (disch := omega) only [go_sem, Nat.reduceAdd, Nat.reduceSub, Nat.reduceMul, Nat.reduceLT, Nat.reduceLeDiff, Nat.reduceEqDiff, Nat.reduceBEq, Nat.reduceBNe, reduceCtorEq, Int.reduceBNe, Int.reduceBEq, au, lst, if_pos, if_neg, e16, hsl, cr, hol, hbb, fit_urow, head_urow, e2] | simp (disch := (simp only [lens]; omega)) only [str_add, if_pos, if_neg] | ((with_reducible first | refine WC_split ?_ ?_ | refine WS_split ?_ ?_ | refine WD_split ?_ ?_) <;> intro hc <;> (try simp only [hc]) <;> (try simp only [bools] at hc) <;> (try (have hb : @Eq Bool _ _ := hc; simp only [hb]; clear hb))))
          refine hnorm2 (m + 1) _ (by omega) (by omega) ?_
          rw [eS, hst]
          kernel_rfl
    · have htk : (aboveL l).take m = aboveL l := List.take_of_length_le (by omega)
      rw [htk]
      have hcond : ¬ ((16 * (m + 1) : Nat) : Int) ≤ (l.length : Int) := by omega
      clear hnorm2 hret2
      repeat' (first | simp (maxSteps := 10000000) (disch := omega) only [go_sem, Nat.reduceAdd, Nat.reduceSub, Nat.reduceMul, Nat.reduceLT, Nat.reduceLeDiff, Nat.reduceEqDiff, Nat.reduceBEq, Nat.reduceBNe, reduceCtorEq, Int.reduceBNe, Int.reduceBEq, au, lst, if_pos, if_neg, e16, hcond] | simp (disch := (simp only [lens]; omega)) only [str_add, if_pos, if_neg] | ((with_reducible first | refine WC_split ?_ ?_ | refine WS_split ?_ ?_ | refine WD_split ?_ ?_) <;> intro hc <;> (try simp only [hc]) <;> (try simp only [bools] at hc) <;> (try (have hb : @Eq Bool _ _ := hc; simp only [hb]; clear hb))))
      refine hexit2 _ _ ?_
      repeat' (first | simp (maxSteps := 10000000) (disch := omega) only [go_sem, Nat.reduceAdd, Nat.reduceSub, Nat.reduceMul, Nat.reduceLT, Nat.reduceLeDiff, Nat.reduceEqDiff, Nat.reduceBEq, Nat.reduceBNe, reduceCtorEq, Int.reduceBNe, Int.reduceBEq, au, lst, if_pos, if_neg] | simp (disch := (simp only [lens]; omega)) only [str_add, if_pos, if_neg] | ((with_reducible first | refine WC_split ?_ ?_ | refine WS_split ?_ ?_ | refine WD_split ?_ ?_) <;> intro hc <;> (try simp only [hc]) <;> (try simp only [bools] at hc) <;> (try (have hb : @Eq Bool _ _ := hc; simp only [hb]; clear hb))))
      exact ret1 (v := .sl true ((aboveL l).map urow)) (fun _ => ex_ret) rfl rfl rfl ⟨rfl, rfl, rfl⟩
theorem call_37 (l : List PR) (hlen : l.length ≤ 100000) (hk : chk l = true) : (Lim cfg).call 37 [.sl true (l.map prow)] [] =
    some (.sl true [[.sl true ((newT l).leaf.map urow)], [.sl true ((newT l).low.map urow)], [.sl true ((newT l).mid.map urow)], [.sl true ((aboveL (newT l).mid).map urow)]], false, []) := by
  have c1 := call_75 l hlen hk
  have hok := new_Ok l
  have ht := tidy_new hk
  rw [show leafF l (zerL 4096) = (newT l).leaf from (leaf_new l).symm] at c1
  have e1 := low_above hok ht
  have e2 := mid_above hok ht
  generalize newT l = T at c1 hok e1 e2 ⊢
  have l1 := hok.leaf
  have l2 := hok.low
  have l3 := hok.mid
  have c2 := call_76 T.leaf (by omega)
  have c3 := call_76 T.low (by omega)
  have c4 := call_76 T.mid (by omega)
  rw [← e1] at c2
  rw [← e2] at c3
  refine call_eq fn_37 rfl ?_
  rw [k_start]
  simp only [Try.f37, st0, Nat.zero_add]
  repeat' (first | simp (maxSteps := 10000000) (disch := omega) only [go_sem, Nat.reduceAdd, Nat.reduceSub, Nat.reduceMul, Nat.reduceLT, Nat.reduceLeDiff, Nat.reduceEqDiff, Nat.reduceBEq, Nat.reduceBNe, reduceCtorEq, Int.reduceBNe, Int.reduceBEq, au, lst, if_pos, if_neg, c1, c2, c3, c4] | simp (disch := (simp only [lens]; omega)) only [str_add, if_pos, if_neg] | ((with_reducible first | refine WC_split ?_ ?_ | refine WS_split ?_ ?_ | refine WD_split ?_ ?_) <;> intro hc <;> (try simp only [hc]) <;> (try simp only [bools] at hc) <;> (try (have hb : @Eq Bool _ _ := hc; simp only [hb]; clear hb))))

  exact ret1 (fun _ => ex_ret) rfl rfl rfl ⟨rfl, rfl, rfl⟩
end Go.Proofs.Ythikboobkmfgfaa
