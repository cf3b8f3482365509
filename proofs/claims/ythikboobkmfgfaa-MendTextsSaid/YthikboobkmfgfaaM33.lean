/- The law MendTexts. -/
import Derived.Test.YthikboobkmfgfaaM16
import Derived.Test.YthikboobkmfgfaaM32
import Derived.Test.YthikboobkmfgfaaM35
set_option linter.all false
set_option maxRecDepth 100000
namespace Go.Proofs.Ythikboobkmfgfaa
open Go Go.Abs

set_option maxHeartbeats 16000000 in
theorem law_MendTexts (lv : Int) (L : List Int) (K : List Nat) (C : List CR) (s : List UInt8) : (Lim cfg).call 4 [.agg (toldR lv L K C), .str s] [] = some (.bool true, false, []) := by
  have caw := call_7
  have c1 := call_6 [] lv L K C
  simp only [toldR, List.map_nil] at c1
  by_cases hf : fewT [] L K C
  · rw [decide_eq_true hf] at c1
    unfold fewT at hf
    by_cases hs : s.length ≤ 3000
    · have q1 := call_15 s (by omega)
      have q2 := call_16 s (by omega)
      have q3 := call_17 s (by omega)
      have q4 := call_18 s (by omega)
      have lA := rdA_len s
      have lT := rdT_len s (by omega)
      generalize rdA s = A at q1 q2 lA
      generalize rdT s = T at q3 q4 lT
      obtain ⟨a1, a2, a3⟩ := A
      obtain ⟨⟨t1, t2, t3, t4⟩, t5⟩ := T
      simp only at q1 q2 q3 q4 lA lT
      have r1 := call_12 a1 a2
      have r2 := call_19 a1 a1 a2 a2 (by omega) (by omega)
      rw [decide_eq_true (⟨rfl, rfl⟩ : a1 = a1 ∧ a2 = a2)] at r2
      have r3 := call_14 t1 t2 t3 t4 (by omega)
      have r4 := same_self t1 t2 t3 t4 (by omega) (by omega) (by omega)
      have r5 := call_12 lv L
      have r6 := call_14 lv L K C (by omega)
      have r7 := call_20 lv L (by omega)
      have r8 := call_21 lv L (by omega)
      have r9 := call_22 lv L K C (by omega) (by omega) (by omega)
      have r10 := call_23 lv L K C (by omega) (by omega) (by omega)
      generalize askS lv L = u at r7 r8
      generalize toldS lv L K C = w at r9 r10
      have hu : (u == u) = true := by simp
      have hw : (w == w) = true := by simp
      simp only [askR, toldR] at q1 q2 q3 q4 r1 r2 r3 r4 r5 r6 r7 r8 r9 r10
      clear lA lT
      refine call_eq fn_4 rfl ?_
      rw [k_start]
      simp only [Try.f4, st0, Nat.zero_add]
      repeat' (first | simp (maxSteps := 10000000) (disch := omega) only [go_sem, Nat.reduceAdd, Nat.reduceSub, Nat.reduceMul, Nat.reduceLT, Nat.reduceLeDiff, Nat.reduceEqDiff, Nat.reduceBEq, Nat.reduceBNe, reduceCtorEq, Int.reduceBNe, Int.reduceBEq, au, lst, if_pos, if_neg, toldR, c1, caw, q1, q2, q3, q4, r1, r2, r3, r4, r5, r6, r7, r8, r9, r10, strOp, hu, hw] | simp (disch := (simp only [lens]; omega)) only [str_add, if_pos, if_neg] | simp only [go_sem, Nat.reduceAdd, Nat.reduceSub, Nat.reduceMul, Nat.reduceLT, Nat.reduceLeDiff, Nat.reduceEqDiff, Nat.reduceBEq, Nat.reduceBNe, reduceCtorEq, Int.reduceBNe, Int.reduceBEq, blt0, toldR, c1, caw, q1, q2, q3, q4, r1, r2, r3, r4, r5, r6, r7, r8, r9, r10, strOp, hu, hw] | ((with_reducible first | refine WC_split ?_ ?_ | refine WS_split ?_ ?_ | refine WD_split ?_ ?_) <;> intro hc <;> (try simp only [hc]) <;> (try simp only [bools] at hc) <;> (try (have hb : @Eq Bool _ _ := hc; simp only [hb]; clear hb))))
      exact ret1n (v := .bool true) (fun _ => ex_ret) rfl rfl rfl ⟨rfl, rfl, rfl⟩
    · refine call_eq fn_4 rfl ?_
      rw [k_start]
      simp only [Try.f4, st0, Nat.zero_add]
      repeat' (first | simp (maxSteps := 10000000) (disch := omega) only [go_sem, Nat.reduceAdd, Nat.reduceSub, Nat.reduceMul, Nat.reduceLT, Nat.reduceLeDiff, Nat.reduceEqDiff, Nat.reduceBEq, Nat.reduceBNe, reduceCtorEq, Int.reduceBNe, Int.reduceBEq, au, lst, if_pos, if_neg, toldR, c1, caw] | simp (disch := (simp only [lens]; omega)) only [str_add, if_pos, if_neg] | simp only [go_sem, Nat.reduceAdd, Nat.reduceSub, Nat.reduceMul, Nat.reduceLT, Nat.reduceLeDiff, Nat.reduceEqDiff, Nat.reduceBEq, Nat.reduceBNe, reduceCtorEq, Int.reduceBNe, Int.reduceBEq, blt0, toldR, c1, caw] | ((with_reducible first | refine WC_split ?_ ?_ | refine WS_split ?_ ?_ | refine WD_split ?_ ?_) <;> intro hc <;> (try simp only [hc]) <;> (try simp only [bools] at hc) <;> (try (have hb : @Eq Bool _ _ := hc; simp only [hb]; clear hb))))
      exact ret1n (v := .bool true) (fun _ => ex_ret) rfl rfl rfl ⟨rfl, rfl, rfl⟩
  · rw [decide_eq_false hf] at c1
    refine call_eq fn_4 rfl ?_
    rw [k_start]
    simp only [Try.f4, st0, Nat.zero_add]
    repeat' (first | simp (maxSteps := 10000000) (disch := omega) only [go_sem, Nat.reduceAdd, Nat.reduceSub, Nat.reduceMul, Nat.reduceLT, Nat.reduceLeDiff, Nat.reduceEqDiff, Nat.reduceBEq, Nat.reduceBNe, reduceCtorEq, Int.reduceBNe, Int.reduceBEq, au, lst, if_pos, if_neg, toldR, c1, caw] | simp (disch := (simp only [lens]; omega)) only [str_add, if_pos, if_neg] | simp only [go_sem, Nat.reduceAdd, Nat.reduceSub, Nat.reduceMul, Nat.reduceLT, Nat.reduceLeDiff, Nat.reduceEqDiff, Nat.reduceBEq, Nat.reduceBNe, reduceCtorEq, Int.reduceBNe, Int.reduceBEq, blt0, toldR, c1, caw] | ((with_reducible first | refine WC_split ?_ ?_ | refine WS_split ?_ ?_ | refine WD_split ?_ ?_) <;> intro hc <;> (try simp only [hc]) <;> (try simp only [bools] at hc) <;> (try (have hb : @Eq Bool _ _ := hc; simp only [hb]; clear hb))))
    exact ret1n (v := .bool true) (fun _ => ex_ret) rfl rfl rfl ⟨rfl, rfl, rfl⟩
end Go.Proofs.Ythikboobkmfgfaa
