/- The law MendBack. -/
import Derived.Test.YthikboobkmfgfaaM16
import Derived.Test.YthikboobkmfgfaaM34
set_option linter.all false
set_option maxRecDepth 100000
namespace Go.Proofs.Ythikboobkmfgfaa
open Go Go.Abs

set_option maxHeartbeats 32000000 in
theorem law_MendBack (lv : Int) (L : List Int) (K : List Nat) (C : List CR) (hK : ∀ k ∈ K, k < 4294967296) (s : List UInt8) : (Lim cfg).call 5 [.agg (toldR lv L K C), .str s] [] = some (.bool true, false, []) := by
  have caw := call_7
  have c1 := call_6 [] lv L K C
  simp only [toldR, List.map_nil] at c1
  by_cases hf : fewT [] L K C
  · rw [decide_eq_true hf] at c1
    unfold fewT at hf
    by_cases hs : s.length ≤ 3000
    · have q1 := call_15 s (by omega)
      have q3 := call_17 s (by omega)
      have lA := rdA_len s
      have lT := rdT_len s (by omega)
      have r7 := call_20 lv L (by omega)
      have r9 := call_22 lv L K C (by omega) (by omega) (by omega)
      have r5 := call_12 lv L
      have r6 := call_14 lv L K C (by omega)
      have r2 := call_19 lv lv L L (by omega) (by omega)
      rw [decide_eq_true (⟨rfl, rfl⟩ : lv = lv ∧ L = L)] at r2
      have r4 := same_self lv L K C (by omega) (by omega) (by omega)
      have lu := askS_len (lv := lv) (L := L) (by omega)
      have lw := toldS_len (lv := lv) (L := L) (K := K) (C := C) (by omega) (by omega) (by omega)
      have hU : ((askS lv L == []) = true ∧ (askS lv L == []) = true) ∨ ((askS lv L == []) = false ∧ (Lim cfg).call 15 [.str (askS lv L)] [] = some (.tup [.agg (askR lv L), .int .i64 0], false, [])) := by
        by_cases h : askS lv L = []
        · exact .inl ⟨by simp [h], by simp [h]⟩
        · refine .inr ⟨by simpa using h, ?_⟩
          have := call_15 (askS lv L) (by omega)
          rw [read_ask (ask_ne h)] at this
          exact this
      have hW : ((toldS lv L K C == []) = true ∧ (toldS lv L K C == []) = true) ∨ ((toldS lv L K C == []) = false ∧ (Lim cfg).call 17 [.str (toldS lv L K C)] [] = some (.tup [.agg (toldR lv L K C), .int .i64 0], false, [])) := by
        by_cases h : toldS lv L K C = []
        · exact .inl ⟨by simp [h], by simp [h]⟩
        · refine .inr ⟨by simpa using h, ?_⟩
          have := call_17 (toldS lv L K C) (by exact told_short (told_ne h) (by omega) (by omega) (by omega))
          rw [read_told (told_ne h) (by omega) hK] at this
          exact this
      have hA : ((rdA s).2.2 = 0 ∧ (Lim cfg).call 20 [.agg (askR (rdA s).1 (rdA s).2.1)] [] = some (.str s, false, [])) ∨ (¬ (rdA s).2.2 = 0 ∧ ¬ (rdA s).2.2 = 0) := by
        by_cases h : (rdA s).2.2 = 0
        · have := call_20 (rdA s).1 (rdA s).2.1 (by omega)
          rw [rdA_back h] at this
          exact .inl ⟨h, this⟩
        · exact .inr ⟨h, h⟩
      have hT : ((rdT s).2 = 0 ∧ (Lim cfg).call 22 [.agg (toldR (rdT s).1.1 (rdT s).1.2.1 (rdT s).1.2.2.1 (rdT s).1.2.2.2)] [] = some (.str s, false, [])) ∨ (¬ (rdT s).2 = 0 ∧ ¬ (rdT s).2 = 0) := by
        by_cases h : (rdT s).2 = 0
        · have := call_22 (rdT s).1.1 (rdT s).1.2.1 (rdT s).1.2.2.1 (rdT s).1.2.2.2 lT.1 lT.2.1 lT.2.2
          rw [rdT_back h] at this
          exact .inl ⟨h, this⟩
        · exact .inr ⟨h, h⟩
      clear lA lT lu lw
      generalize rdA s = A at q1 hA
      generalize rdT s = T at q3 hT
      generalize askS lv L = u at r7 hU
      generalize toldS lv L K C = w at r9 hW
      obtain ⟨a1, a2, a3⟩ := A
      obtain ⟨⟨t1, t2, t3, t4⟩, t5⟩ := T
      have hse : (s == s) = true := by simp
      simp only [askR, toldR] at q1 q3 r2 r4 r5 r6 r7 r9 hU hW hA hT
      rcases hU with ⟨u1, u2⟩ | ⟨u1, u2⟩ <;> rcases hW with ⟨w1, w2⟩ | ⟨w1, w2⟩ <;> rcases hA with ⟨b1, b2⟩ | ⟨b1, b2⟩ <;> rcases hT with ⟨d1, d2⟩ | ⟨d1, d2⟩
      all_goals
        refine call_eq fn_5 rfl ?_
        rw [k_start]
        simp only [Try.f5, st0, Nat.zero_add]
        repeat' (first | simp (maxSteps := 10000000) (disch := omega) only [go_sem, Nat.reduceAdd, Nat.reduceSub, Nat.reduceMul, Nat.reduceLT, Nat.reduceLeDiff, Nat.reduceEqDiff, Nat.reduceBEq, Nat.reduceBNe, reduceCtorEq, Int.reduceBNe, Int.reduceBEq, au, lst, if_pos, if_neg, toldR, c1, caw, q1, q3, r2, r4, r5, r6, r7, r9, strOp, hse, u1, u2, w1, w2, b1, b2, d1, d2] | simp (disch := (simp only [lens]; omega)) only [str_add, if_pos, if_neg] | simp only [go_sem, Nat.reduceAdd, Nat.reduceSub, Nat.reduceMul, Nat.reduceLT, Nat.reduceLeDiff, Nat.reduceEqDiff, Nat.reduceBEq, Nat.reduceBNe, reduceCtorEq, Int.reduceBNe, Int.reduceBEq, blt0, toldR, c1, caw, q1, q3, r2, r4, r5, r6, r7, r9, strOp, hse, u1, u2, w1, w2, b1, b2, d1, d2] | ((with_reducible first | refine WC_split ?_ ?_ | refine WS_split ?_ ?_ | refine WD_split ?_ ?_) <;> intro hc <;> (try simp only [hc]) <;> (try simp only [bools] at hc) <;> (try (have hb : @Eq Bool _ _ := hc; simp only [hb]; clear hb))))
        exact ret1n (v := .bool true) (fun _ => ex_ret) rfl rfl rfl ⟨rfl, rfl, rfl⟩
    · refine call_eq fn_5 rfl ?_
      rw [k_start]
      simp only [Try.f5, st0, Nat.zero_add]
      repeat' (first | simp (maxSteps := 10000000) (disch := omega) only [go_sem, Nat.reduceAdd, Nat.reduceSub, Nat.reduceMul, Nat.reduceLT, Nat.reduceLeDiff, Nat.reduceEqDiff, Nat.reduceBEq, Nat.reduceBNe, reduceCtorEq, Int.reduceBNe, Int.reduceBEq, au, lst, if_pos, if_neg, toldR, c1, caw] | simp (disch := (simp only [lens]; omega)) only [str_add, if_pos, if_neg] | simp only [go_sem, Nat.reduceAdd, Nat.reduceSub, Nat.reduceMul, Nat.reduceLT, Nat.reduceLeDiff, Nat.reduceEqDiff, Nat.reduceBEq, Nat.reduceBNe, reduceCtorEq, Int.reduceBNe, Int.reduceBEq, blt0, toldR, c1, caw] | ((with_reducible first | refine WC_split ?_ ?_ | refine WS_split ?_ ?_ | refine WD_split ?_ ?_) <;> intro hc <;> (try simp only [hc]) <;> (try simp only [bools] at hc) <;> (try (have hb : @Eq Bool _ _ := hc; simp only [hb]; clear hb))))
      exact ret1n (v := .bool true) (fun _ => ex_ret) rfl rfl rfl ⟨rfl, rfl, rfl⟩
  · rw [decide_eq_false hf] at c1
    refine call_eq fn_5 rfl ?_
    rw [k_start]
    simp only [Try.f5, st0, Nat.zero_add]
    repeat' (first | simp (maxSteps := 10000000) (disch := omega) only [go_sem, Nat.reduceAdd, Nat.reduceSub, Nat.reduceMul, Nat.reduceLT, Nat.reduceLeDiff, Nat.reduceEqDiff, Nat.reduceBEq, Nat.reduceBNe, reduceCtorEq, Int.reduceBNe, Int.reduceBEq, au, lst, if_pos, if_neg, toldR, c1, caw] | simp (disch := (simp only [lens]; omega)) only [str_add, if_pos, if_neg] | simp only [go_sem, Nat.reduceAdd, Nat.reduceSub, Nat.reduceMul, Nat.reduceLT, Nat.reduceLeDiff, Nat.reduceEqDiff, Nat.reduceBEq, Nat.reduceBNe, reduceCtorEq, Int.reduceBNe, Int.reduceBEq, blt0, toldR, c1, caw] | ((with_reducible first | refine WC_split ?_ ?_ | refine WS_split ?_ ?_ | refine WD_split ?_ ?_) <;> intro hc <;> (try simp only [hc]) <;> (try simp only [bools] at hc) <;> (try (have hb : @Eq Bool _ _ := hc; simp only [hb]; clear hb))))
    exact ret1n (v := .bool true) (fun _ => ex_ret) rfl rfl rfl ⟨rfl, rfl, rfl⟩
end Go.Proofs.Ythikboobkmfgfaa
