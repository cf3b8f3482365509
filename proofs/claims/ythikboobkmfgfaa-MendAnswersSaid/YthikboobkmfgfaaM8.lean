/- Which asks may be: the program's answer. -/
import Derived.Test.YthikboobkmfgfaaM7
set_option linter.all false
set_option maxRecDepth 100000
namespace Go.Proofs.Ythikboobkmfgfaa
open Go Go.Abs

/-- How many nodes a level has. -/
def sizeZ (lv : Int) : Int := if lv < 0 then 4096 else if lv = 0 then 256 else if lv = 1 then 16 else 1
theorem call_70 {lv : Int} (h1 : -1 ≤ lv) (h2 : lv ≤ 2) : (Lim cfg).call 70 [.int .i64 lv] [] = some (.int .i64 (sizeZ lv), false, []) := by
  have hc : lv = -1 ∨ lv = 0 ∨ lv = 1 ∨ lv = 2 := by omega
  rcases hc with rfl | rfl | rfl | rfl <;> exact lim_of_run (k := 60) (by kernel_rfl)
theorem call_74 (lv : Int) : (Lim cfg).call 74 [.int .i64 lv] [] = some (.int .i64 (sizeZ lv), false, []) := by
  unfold sizeZ
  by_cases h1 : lv < 0
  · rw [if_pos h1]
    refine call_eq fn_74 rfl ?_
    rw [k_start]
    simp only [Try.f74, st0, Nat.zero_add]
    repeat' (first | simp (maxSteps := 10000000) (disch := omega) only [go_sem, Nat.reduceAdd, Nat.reduceSub, Nat.reduceMul, Nat.reduceLT, Nat.reduceLeDiff, Nat.reduceEqDiff, Nat.reduceBEq, Nat.reduceBNe, reduceCtorEq, Int.reduceBNe, Int.reduceBEq, au, lst, if_pos, if_neg] | simp (disch := (simp only [lens]; omega)) only [str_add, if_pos, if_neg] | ((with_reducible first | refine WC_split ?_ ?_ | refine WS_split ?_ ?_ | refine WD_split ?_ ?_) <;> intro hc <;> (try simp only [hc]) <;> (try simp only [bools] at hc) <;> (try (have hb : @Eq Bool _ _ := hc; simp only [hb]; clear hb))))
    exact ret1n (fun _ => ex_ret) rfl rfl rfl ⟨rfl, rfl, rfl⟩
  · by_cases h2 : lv = 0
    · rw [if_neg h1, if_pos h2]
      subst h2
      refine call_eq fn_74 rfl ?_
      rw [k_start]
      simp only [Try.f74, st0, Nat.zero_add]
      repeat' (first | simp (maxSteps := 10000000) (disch := omega) only [go_sem, Nat.reduceAdd, Nat.reduceSub, Nat.reduceMul, Nat.reduceLT, Nat.reduceLeDiff, Nat.reduceEqDiff, Nat.reduceBEq, Nat.reduceBNe, reduceCtorEq, Int.reduceBNe, Int.reduceBEq, au, lst, if_pos, if_neg] | simp (disch := (simp only [lens]; omega)) only [str_add, if_pos, if_neg] | ((with_reducible first | refine WC_split ?_ ?_ | refine WS_split ?_ ?_ | refine WD_split ?_ ?_) <;> intro hc <;> (try simp only [hc]) <;> (try simp only [bools] at hc) <;> (try (have hb : @Eq Bool _ _ := hc; simp only [hb]; clear hb))))
      exact ret1n (fun _ => ex_ret) rfl rfl rfl ⟨rfl, rfl, rfl⟩
    · by_cases h3 : lv = 1
      · rw [if_neg h1, if_neg h2, if_pos h3]
        subst h3
        refine call_eq fn_74 rfl ?_
        rw [k_start]
        simp only [Try.f74, st0, Nat.zero_add]
        repeat' (first | simp (maxSteps := 10000000) (disch := omega) only [go_sem, Nat.reduceAdd, Nat.reduceSub, Nat.reduceMul, Nat.reduceLT, Nat.reduceLeDiff, Nat.reduceEqDiff, Nat.reduceBEq, Nat.reduceBNe, reduceCtorEq, Int.reduceBNe, Int.reduceBEq, au, lst, if_pos, if_neg] | simp (disch := (simp only [lens]; omega)) only [str_add, if_pos, if_neg] | ((with_reducible first | refine WC_split ?_ ?_ | refine WS_split ?_ ?_ | refine WD_split ?_ ?_) <;> intro hc <;> (try simp only [hc]) <;> (try simp only [bools] at hc) <;> (try (have hb : @Eq Bool _ _ := hc; simp only [hb]; clear hb))))
        exact ret1n (fun _ => ex_ret) rfl rfl rfl ⟨rfl, rfl, rfl⟩
      · rw [if_neg h1, if_neg h2, if_neg h3]
        refine call_eq fn_74 rfl ?_
        rw [k_start]
        simp only [Try.f74, st0, Nat.zero_add]
        repeat' (first | simp (maxSteps := 10000000) (disch := omega) only [go_sem, Nat.reduceAdd, Nat.reduceSub, Nat.reduceMul, Nat.reduceLT, Nat.reduceLeDiff, Nat.reduceEqDiff, Nat.reduceBEq, Nat.reduceBNe, reduceCtorEq, Int.reduceBNe, Int.reduceBEq, au, lst, if_pos, if_neg] | simp (disch := (simp only [lens]; omega)) only [str_add, if_pos, if_neg] | ((with_reducible first | refine WC_split ?_ ?_ | refine WS_split ?_ ?_ | refine WD_split ?_ ?_) <;> intro hc <;> (try simp only [hc]) <;> (try simp only [bools] at hc) <;> (try (have hb : @Eq Bool _ _ := hc; simp only [hb]; clear hb))))
        exact ret1n (fun _ => ex_ret) rfl rfl rfl ⟨rfl, rfl, rfl⟩
/-- Numbers that rise, below a size. -/
def askFrom (sz : Int) : Int → List Int → Bool
  | _, [] => true
  | lo, n :: r => decide (lo < n ∧ 0 ≤ n ∧ n < sz) && askFrom sz n r
def pkI (L : List Int) (i : Nat) : Int := if i = 0 then -1 else L.getD (i - 1) 0
theorem pkI_succ {L : List Int} {i : Nat} (h : i < L.length) : pkI L (i + 1) = L[i] := by simp [pkI, h]
theorem ask_step {L : List Int} {i : Nat} {sz : Int} (h : i < L.length) (e : askFrom sz (-1) L = askFrom sz (pkI L i) (L.drop i)) : askFrom sz (-1) L = (decide (pkI L i < L[i] ∧ 0 ≤ L[i] ∧ L[i] < sz) && askFrom sz (pkI L (i + 1)) (L.drop (i + 1))) := by
  rw [e, List.drop_eq_getElem_cons h, askFrom, pkI_succ h]
def askOk (lv : Int) (L : List Int) : Bool := decide (-1 ≤ lv ∧ lv ≤ 2) && (!L.isEmpty && askFrom (sizeZ lv) (-1) L)
def askR (lv : Int) (L : List Int) : List V := [.int .i64 lv, .sl true (L.map irow)]
def S35k (lv : Int) (L : List Int) (i : Nat) : St := { fr := mkF 51 [(1, .ptr 0 0), (20, .sl true (L.map irow)), (21, .int .i64 L.length), (22, .int .i64 i)], own := [], hp := [.cells 25 [] (askR lv L)], al := [], nb := 0 }
set_option maxHeartbeats 8000000 in
theorem call_31 (lv : Int) (L : List Int) (hlen : L.length ≤ 100000) : (Lim cfg).call 31 [.agg (askR lv L)] [] = some (.bool (askOk lv L), false, []) := by
  by_cases h1 : -1 ≤ lv ∧ lv ≤ 2
  · by_cases h2 : L.length = 0
    · have hL : L = [] := List.length_eq_zero_iff.1 h2
      rw [askOk, hL]
      show _ = some (V.bool (decide (-1 ≤ lv ∧ lv ≤ 2) && (false && _)), false, ([] : List Blk))
      rw [Bool.false_and, Bool.and_false]
      refine call_eq fn_31 rfl ?_
      rw [k_start]
      simp only [Try.f31, st0, Nat.zero_add]
      repeat' (first | simp (maxSteps := 10000000) (disch := omega) only [go_sem, Nat.reduceAdd, Nat.reduceSub, Nat.reduceMul, Nat.reduceLT, Nat.reduceLeDiff, Nat.reduceEqDiff, Nat.reduceBEq, Nat.reduceBNe, reduceCtorEq, Int.reduceBNe, Int.reduceBEq, au, lst, if_pos, if_neg, askR, List.map_nil] | simp (disch := (simp only [lens]; omega)) only [str_add, if_pos, if_neg] | ((with_reducible first | refine WC_split ?_ ?_ | refine WS_split ?_ ?_ | refine WD_split ?_ ?_) <;> intro hc <;> (try simp only [hc]) <;> (try simp only [bools] at hc) <;> (try (have hb : @Eq Bool _ _ := hc; simp only [hb]; clear hb))))
      exact ret1n (fun _ => ex_ret) rfl rfl rfl ⟨rfl, rfl, rfl⟩
    · have he : askOk lv L = askFrom (sizeZ lv) (-1) L := by
        rw [askOk, decide_eq_true h1]
        cases L with
        | nil => exact absurd rfl h2
        | cons x r => rfl
      rw [he]
      have cs := call_70 h1.1 h1.2
      refine call_eq fn_31 rfl ?_
      rw [k_start]
      simp only [Try.f31, st0, Nat.zero_add]
      repeat' (first | simp (maxSteps := 10000000) (disch := omega) only [go_sem, Nat.reduceAdd, Nat.reduceSub, Nat.reduceMul, Nat.reduceLT, Nat.reduceLeDiff, Nat.reduceEqDiff, Nat.reduceBEq, Nat.reduceBNe, reduceCtorEq, Int.reduceBNe, Int.reduceBEq, au, lst, if_pos, if_neg, askR] | simp (disch := (simp only [lens]; omega)) only [str_add, if_pos, if_neg] | ((with_reducible first | refine WC_split ?_ ?_ | refine WS_split ?_ ?_ | refine WD_split ?_ ?_) <;> intro hc <;> (try simp only [hc]) <;> (try simp only [bools] at hc) <;> (try (have hb : @Eq Bool _ _ := hc; simp only [hb]; clear hb))))
      refine k_loop (S35k lv L) (fun i => i ≤ L.length ∧ askFrom (sizeZ lv) (-1) L = askFrom (sizeZ lv) (pkI L i) (L.drop i)) (fun i => L.length - i) 0 (K := cfg.kill 31 4) rfl ⟨Nat.zero_le _, rfl⟩ (by kernel_rfl) ?_
      intro i ⟨hi, hm⟩ k' Q' hnorm hexit hret
      have eS : ∀ i, S35k lv L i = { fr := mkF 51 [(1, .ptr 0 0), (20, .sl true (L.map irow)), (21, .int .i64 L.length), (22, .int .i64 i)], own := [], hp := [.cells 25 [] (askR lv L)], al := [], nb := 0 } := fun _ => rfl
      rw [eS]
      simp only [eS, mkF, List.foldl, st0, List.set]
      by_cases hlt : i < L.length
      · have hst := ask_step hlt hm
        have hpk : (i = 0 ∧ pkI L i = -1) ∨ (0 < i ∧ pkI L i = L[i - 1]) := by
          unfold pkI
          by_cases h0 : i = 0
          · exact .inl ⟨h0, if_pos h0⟩
          · refine .inr ⟨by omega, ?_⟩
            rw [if_neg h0, List.getD_eq_getElem?_getD, List.getElem?_eq_getElem (by omega)]; rfl
        by_cases hok : pkI L i < L[i] ∧ 0 ≤ L[i] ∧ L[i] < sizeZ lv
        · rw [decide_eq_true hok, Bool.true_and] at hst
          rcases hpk with ⟨h0, hp⟩ | ⟨h0, hp⟩
          · subst h0
            repeat' (first | simp (maxSteps := 10000000) (disch := omega) only [go_sem, Nat.reduceAdd, Nat.reduceSub, Nat.reduceMul, Nat.reduceLT, Nat.reduceLeDiff, Nat.reduceEqDiff, Nat.reduceBEq, Nat.reduceBNe, reduceCtorEq, Int.reduceBNe, Int.reduceBEq, au, lst, if_pos, if_neg, irow, askR, cs] | simp (disch := (simp only [lens]; omega)) only [str_add, if_pos, if_neg] | ((with_reducible first | refine WC_split ?_ ?_ | refine WS_split ?_ ?_ | refine WD_split ?_ ?_) <;> intro hc <;> (try simp only [hc]) <;> (try simp only [bools] at hc) <;> (try (have hb : @Eq Bool _ _ := hc; simp only [hb]; clear hb))))
            refine hnorm (0 + 1) _ ⟨by omega, hst⟩ (by omega) ?_
            rw [eS]; kernel_rfl
          · rw [hp] at hok
            repeat' (first | simp (maxSteps := 10000000) (disch := omega) only [go_sem, Nat.reduceAdd, Nat.reduceSub, Nat.reduceMul, Nat.reduceLT, Nat.reduceLeDiff, Nat.reduceEqDiff, Nat.reduceBEq, Nat.reduceBNe, reduceCtorEq, Int.reduceBNe, Int.reduceBEq, au, lst, if_pos, if_neg, irow, askR, cs] | simp (disch := (simp only [lens]; omega)) only [str_add, if_pos, if_neg] | ((with_reducible first | refine WC_split ?_ ?_ | refine WS_split ?_ ?_ | refine WD_split ?_ ?_) <;> intro hc <;> (try simp only [hc]) <;> (try simp only [bools] at hc) <;> (try (have hb : @Eq Bool _ _ := hc; simp only [hb]; clear hb))))
            refine hnorm (i + 1) _ ⟨by omega, hst⟩ (by omega) ?_
            rw [eS]; kernel_rfl
        · rw [decide_eq_false hok, Bool.false_and] at hst
          rw [hst] at hexit hret
          rcases hpk with ⟨h0, hp⟩ | ⟨h0, hp⟩
          · subst h0
            rw [hp] at hok
            repeat' (first | simp (maxSteps := 10000000) (disch := omega) only [go_sem, Nat.reduceAdd, Nat.reduceSub, Nat.reduceMul, Nat.reduceLT, Nat.reduceLeDiff, Nat.reduceEqDiff, Nat.reduceBEq, Nat.reduceBNe, reduceCtorEq, Int.reduceBNe, Int.reduceBEq, au, lst, if_pos, if_neg, irow, askR, cs] | simp (disch := (simp only [lens]; omega)) only [str_add, if_pos, if_neg] | ((with_reducible first | refine WC_split ?_ ?_ | refine WS_split ?_ ?_ | refine WD_split ?_ ?_) <;> intro hc <;> (try simp only [hc]) <;> (try simp only [bools] at hc) <;> (try (have hb : @Eq Bool _ _ := hc; simp only [hb]; clear hb))))
            all_goals first
              | (exfalso; omega)
              | (refine hret _ ?_
                 repeat' (first | simp (maxSteps := 10000000) (disch := omega) only [go_sem, Nat.reduceAdd, Nat.reduceSub, Nat.reduceMul, Nat.reduceLT, Nat.reduceLeDiff, Nat.reduceEqDiff, Nat.reduceBEq, Nat.reduceBNe, reduceCtorEq, Int.reduceBNe, Int.reduceBEq, au, lst, if_pos, if_neg] | simp (disch := (simp only [lens]; omega)) only [str_add, if_pos, if_neg] | ((with_reducible first | refine WC_split ?_ ?_ | refine WS_split ?_ ?_ | refine WD_split ?_ ?_) <;> intro hc <;> (try simp only [hc]) <;> (try simp only [bools] at hc) <;> (try (have hb : @Eq Bool _ _ := hc; simp only [hb]; clear hb))))
                 exact ret1n (fun _ => ex_ret) rfl rfl rfl ⟨rfl, rfl, rfl⟩)
          · rw [hp] at hok
            repeat' (first | simp (maxSteps := 10000000) (disch := omega) only [go_sem, Nat.reduceAdd, Nat.reduceSub, Nat.reduceMul, Nat.reduceLT, Nat.reduceLeDiff, Nat.reduceEqDiff, Nat.reduceBEq, Nat.reduceBNe, reduceCtorEq, Int.reduceBNe, Int.reduceBEq, au, lst, if_pos, if_neg, irow, askR, cs] | simp (disch := (simp only [lens]; omega)) only [str_add, if_pos, if_neg] | ((with_reducible first | refine WC_split ?_ ?_ | refine WS_split ?_ ?_ | refine WD_split ?_ ?_) <;> intro hc <;> (try simp only [hc]) <;> (try simp only [bools] at hc) <;> (try (have hb : @Eq Bool _ _ := hc; simp only [hb]; clear hb))))
            all_goals first
              | (exfalso; omega)
              | (refine hret _ ?_
                 repeat' (first | simp (maxSteps := 10000000) (disch := omega) only [go_sem, Nat.reduceAdd, Nat.reduceSub, Nat.reduceMul, Nat.reduceLT, Nat.reduceLeDiff, Nat.reduceEqDiff, Nat.reduceBEq, Nat.reduceBNe, reduceCtorEq, Int.reduceBNe, Int.reduceBEq, au, lst, if_pos, if_neg] | simp (disch := (simp only [lens]; omega)) only [str_add, if_pos, if_neg] | ((with_reducible first | refine WC_split ?_ ?_ | refine WS_split ?_ ?_ | refine WD_split ?_ ?_) <;> intro hc <;> (try simp only [hc]) <;> (try simp only [bools] at hc) <;> (try (have hb : @Eq Bool _ _ := hc; simp only [hb]; clear hb))))
                 exact ret1n (fun _ => ex_ret) rfl rfl rfl ⟨rfl, rfl, rfl⟩)
      · have e : askFrom (sizeZ lv) (-1) L = true := by rw [hm, List.drop_of_length_le (by omega)]; rfl
        rw [e] at hexit
        clear hnorm hret
        repeat' (first | simp (maxSteps := 10000000) (disch := omega) only [go_sem, Nat.reduceAdd, Nat.reduceSub, Nat.reduceMul, Nat.reduceLT, Nat.reduceLeDiff, Nat.reduceEqDiff, Nat.reduceBEq, Nat.reduceBNe, reduceCtorEq, Int.reduceBNe, Int.reduceBEq, au, lst, if_pos, if_neg] | simp (disch := (simp only [lens]; omega)) only [str_add, if_pos, if_neg] | ((with_reducible first | refine WC_split ?_ ?_ | refine WS_split ?_ ?_ | refine WD_split ?_ ?_) <;> intro hc <;> (try simp only [hc]) <;> (try simp only [bools] at hc) <;> (try (have hb : @Eq Bool _ _ := hc; simp only [hb]; clear hb))))
        refine hexit _ _ ?_
        repeat' (first | simp (maxSteps := 10000000) (disch := omega) only [go_sem, Nat.reduceAdd, Nat.reduceSub, Nat.reduceMul, Nat.reduceLT, Nat.reduceLeDiff, Nat.reduceEqDiff, Nat.reduceBEq, Nat.reduceBNe, reduceCtorEq, Int.reduceBNe, Int.reduceBEq, au, lst, if_pos, if_neg] | simp (disch := (simp only [lens]; omega)) only [str_add, if_pos, if_neg] | ((with_reducible first | refine WC_split ?_ ?_ | refine WS_split ?_ ?_ | refine WD_split ?_ ?_) <;> intro hc <;> (try simp only [hc]) <;> (try simp only [bools] at hc) <;> (try (have hb : @Eq Bool _ _ := hc; simp only [hb]; clear hb))))
        exact ret1n (fun _ => ex_ret) rfl rfl rfl ⟨rfl, rfl, rfl⟩
  · rw [askOk, decide_eq_false h1, Bool.false_and]
    refine call_eq fn_31 rfl ?_
    rw [k_start]
    simp only [Try.f31, st0, Nat.zero_add]
    repeat' (first | simp (maxSteps := 10000000) (disch := omega) only [go_sem, Nat.reduceAdd, Nat.reduceSub, Nat.reduceMul, Nat.reduceLT, Nat.reduceLeDiff, Nat.reduceEqDiff, Nat.reduceBEq, Nat.reduceBNe, reduceCtorEq, Int.reduceBNe, Int.reduceBEq, au, lst, if_pos, if_neg, askR] | simp (disch := (simp only [lens]; omega)) only [str_add, if_pos, if_neg] | ((with_reducible first | refine WC_split ?_ ?_ | refine WS_split ?_ ?_ | refine WD_split ?_ ?_) <;> intro hc <;> (try simp only [hc]) <;> (try simp only [bools] at hc) <;> (try (have hb : @Eq Bool _ _ := hc; simp only [hb]; clear hb))))
    all_goals first
      | (exfalso; omega)
      | exact ret1n (fun _ => ex_ret) rfl rfl rfl ⟨rfl, rfl, rfl⟩
end Go.Proofs.Ythikboobkmfgfaa
