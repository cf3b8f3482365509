/- The law MendNil. -/
import Derived.Test.YthikboobkmfgfaaM14
set_option linter.all false
set_option maxRecDepth 100000
namespace Go.Proofs.Ythikboobkmfgfaa
open Go Go.Abs

theorem call_7 : (Lim cfg).call 7 [] [] = some (.bool true, false, []) := by
  have cm := call_24 [(5, 7)] (by decide) (by kernel_rfl)
  have cn := call_8 [(5, 8)] (by decide) (by kernel_rfl)
  exact awake_of (newT [(5, 7)]) (newT [(5, 8)]) (new_Ok _) (new_Ok _) cm cn ex_next.1 ex_next.2.1 ex_next.2.2 seven_is.2.2.2 eight_is.2.2.2
def fewT (l : List PR) (L : List Int) (K : List Nat) (C : List CR) : Prop := l.length ≤ 60 ∧ L.length ≤ 60 ∧ K.length ≤ 1000 ∧ C.length ≤ 100
instance (l : List PR) (L : List Int) (K : List Nat) (C : List CR) : Decidable (fewT l L K C) := by unfold fewT; infer_instance
set_option maxHeartbeats 4000000 in
theorem call_6 (l : List PR) (lv : Int) (L : List Int) (K : List Nat) (C : List CR) : (Lim cfg).call 6 [.sl true (l.map prow), .agg (toldR lv L K C)] [] = some (.bool (decide (fewT l L K C)), false, []) := by
  by_cases h1 : l.length ≤ 60
  · by_cases h2 : L.length ≤ 60
    · by_cases h3 : K.length ≤ 1000
      · by_cases h4 : C.length ≤ 100
        · rw [decide_eq_true (show fewT l L K C from ⟨h1, h2, h3, h4⟩)]
          refine call_eq fn_6 rfl ?_
          rw [k_start]
          simp only [Try.f6, st0, Nat.zero_add]
          repeat' (first | simp (maxSteps := 10000000) (disch := omega) only [go_sem, Nat.reduceAdd, Nat.reduceSub, Nat.reduceMul, Nat.reduceLT, Nat.reduceLeDiff, Nat.reduceEqDiff, Nat.reduceBEq, Nat.reduceBNe, reduceCtorEq, Int.reduceBNe, Int.reduceBEq, au, lst, if_pos, if_neg, toldR] | simp (disch := (simp only [lens]; omega)) only [str_add, if_pos, if_neg] | ((with_reducible first | refine WC_split ?_ ?_ | refine WS_split ?_ ?_ | refine WD_split ?_ ?_) <;> intro hc <;> (try simp only [hc]) <;> (try simp only [bools] at hc) <;> (try (have hb : @Eq Bool _ _ := hc; simp only [hb]; clear hb))))
          exact ret1n (v := .bool true) (fun _ => ex_ret) rfl rfl rfl ⟨rfl, rfl, rfl⟩
        · rw [decide_eq_false (fun h : fewT l L K C => h4 h.2.2.2)]
          refine call_eq fn_6 rfl ?_
          rw [k_start]
          simp only [Try.f6, st0, Nat.zero_add]
          repeat' (first | simp (maxSteps := 10000000) (disch := omega) only [go_sem, Nat.reduceAdd, Nat.reduceSub, Nat.reduceMul, Nat.reduceLT, Nat.reduceLeDiff, Nat.reduceEqDiff, Nat.reduceBEq, Nat.reduceBNe, reduceCtorEq, Int.reduceBNe, Int.reduceBEq, au, lst, if_pos, if_neg, toldR] | simp (disch := (simp only [lens]; omega)) only [str_add, if_pos, if_neg] | ((with_reducible first | refine WC_split ?_ ?_ | refine WS_split ?_ ?_ | refine WD_split ?_ ?_) <;> intro hc <;> (try simp only [hc]) <;> (try simp only [bools] at hc) <;> (try (have hb : @Eq Bool _ _ := hc; simp only [hb]; clear hb))))
          exact ret1n (v := .bool false) (fun _ => ex_ret) rfl rfl rfl ⟨rfl, rfl, rfl⟩
      · rw [decide_eq_false (fun h : fewT l L K C => h3 h.2.2.1)]
        refine call_eq fn_6 rfl ?_
        rw [k_start]
        simp only [Try.f6, st0, Nat.zero_add]
        repeat' (first | simp (maxSteps := 10000000) (disch := omega) only [go_sem, Nat.reduceAdd, Nat.reduceSub, Nat.reduceMul, Nat.reduceLT, Nat.reduceLeDiff, Nat.reduceEqDiff, Nat.reduceBEq, Nat.reduceBNe, reduceCtorEq, Int.reduceBNe, Int.reduceBEq, au, lst, if_pos, if_neg, toldR] | simp (disch := (simp only [lens]; omega)) only [str_add, if_pos, if_neg] | ((with_reducible first | refine WC_split ?_ ?_ | refine WS_split ?_ ?_ | refine WD_split ?_ ?_) <;> intro hc <;> (try simp only [hc]) <;> (try simp only [bools] at hc) <;> (try (have hb : @Eq Bool _ _ := hc; simp only [hb]; clear hb))))
        exact ret1n (v := .bool false) (fun _ => ex_ret) rfl rfl rfl ⟨rfl, rfl, rfl⟩
    · rw [decide_eq_false (fun h : fewT l L K C => h2 h.2.1)]
      refine call_eq fn_6 rfl ?_
      rw [k_start]
      simp only [Try.f6, st0, Nat.zero_add]
      repeat' (first | simp (maxSteps := 10000000) (disch := omega) only [go_sem, Nat.reduceAdd, Nat.reduceSub, Nat.reduceMul, Nat.reduceLT, Nat.reduceLeDiff, Nat.reduceEqDiff, Nat.reduceBEq, Nat.reduceBNe, reduceCtorEq, Int.reduceBNe, Int.reduceBEq, au, lst, if_pos, if_neg, toldR] | simp (disch := (simp only [lens]; omega)) only [str_add, if_pos, if_neg] | ((with_reducible first | refine WC_split ?_ ?_ | refine WS_split ?_ ?_ | refine WD_split ?_ ?_) <;> intro hc <;> (try simp only [hc]) <;> (try simp only [bools] at hc) <;> (try (have hb : @Eq Bool _ _ := hc; simp only [hb]; clear hb))))
      exact ret1n (v := .bool false) (fun _ => ex_ret) rfl rfl rfl ⟨rfl, rfl, rfl⟩
  · rw [decide_eq_false (fun h : fewT l L K C => h1 h.1)]
    refine call_eq fn_6 rfl ?_
    rw [k_start]
    simp only [Try.f6, st0, Nat.zero_add]
    repeat' (first | simp (maxSteps := 10000000) (disch := omega) only [go_sem, Nat.reduceAdd, Nat.reduceSub, Nat.reduceMul, Nat.reduceLT, Nat.reduceLeDiff, Nat.reduceEqDiff, Nat.reduceBEq, Nat.reduceBNe, reduceCtorEq, Int.reduceBNe, Int.reduceBEq, au, lst, if_pos, if_neg, toldR] | simp (disch := (simp only [lens]; omega)) only [str_add, if_pos, if_neg] | ((with_reducible first | refine WC_split ?_ ?_ | refine WS_split ?_ ?_ | refine WD_split ?_ ?_) <;> intro hc <;> (try simp only [hc]) <;> (try simp only [bools] at hc) <;> (try (have hb : @Eq Bool _ _ := hc; simp only [hb]; clear hb))))
    exact ret1n (v := .bool false) (fun _ => ex_ret) rfl rfl rfl ⟨rfl, rfl, rfl⟩
end Go.Proofs.Ythikboobkmfgfaa
