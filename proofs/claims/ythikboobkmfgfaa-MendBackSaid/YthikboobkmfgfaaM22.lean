/- The bytes of asks: the program's answer, and the document's. -/
import Derived.Test.YthikboobkmfgfaaM21
set_option linter.all false
set_option maxRecDepth 100000
namespace Go.Proofs.Ythikboobkmfgfaa
open Go Go.Abs

theorem str_of (s : List UInt8) (hne : s ≠ []) (hl : s.length ≤ 1000000000) : (Lim cfg).call 53 [.ptr 0 0] [bldB true s] = some (.str s, false, [bldB true s]) := by
  cases s with
  | nil => exact absurd rfl hne
  | cons b s => exact call_53 b s (by simp only [List.length_cons] at hl; omega)
def T20 (lv : Int) (L : List Int) (x : Nat × List UInt8) : St := { fr := mkF 35 [(3, .ptr 1 0), (4, .int .i64 (pkI L x.1)), (20, .sl true (L.map irow)), (21, .int .i64 L.length), (22, .int .i64 x.1)], own := [], hp := [.cells 25 [] (askR lv L), bldAt 1 (headA lv L.length ++ x.2)], al := [], nb := 0 }
set_option maxHeartbeats 8000000 in
theorem call_20 (lv : Int) (L : List Int) (hlen : L.length ≤ 100000) : (Lim cfg).call 20 [.agg (askR lv L)] [] = some (.str (askS lv L), false, []) := by
  have c1 := call_31 lv L hlen
  simp only [askR] at c1
  by_cases hok : askOk lv L = true
  · rw [askS, if_pos hok]
    rw [hok] at c1
    have c2 := call_51 lv
    have c4 := call_52 L.length (by omega)
    have q1 := wholeS_len lv
    have q3 := numS_len (z := L.length) (by omega)
    have hhl := headA_len lv hlen
    have hg := gaps_len hok
    have hbl := call_50 false [] (headA lv L.length) (by simp only [List.length_nil]; omega)
    refine call_eq fn_20 rfl ?_
    rw [k_start]
    simp only [Try.f20, st0, Nat.zero_add]
    repeat' (first | simp (maxSteps := 10000000) (disch := omega) only [go_sem, Nat.reduceAdd, Nat.reduceSub, Nat.reduceMul, Nat.reduceLT, Nat.reduceLeDiff, Nat.reduceEqDiff, Nat.reduceBEq, Nat.reduceBNe, reduceCtorEq, Int.reduceBNe, Int.reduceBEq, au, lst, if_pos, if_neg, c1, c2, c4, askR, str_add, sm_unf] | simp (disch := (simp only [lens]; omega)) only [str_add, if_pos, if_neg] | ((with_reducible first | refine WC_split ?_ ?_ | refine WS_split ?_ ?_ | refine WD_split ?_ ?_) <;> intro hc <;> (try simp only [hc]) <;> (try simp only [bools] at hc) <;> (try (have hb : @Eq Bool _ _ := hc; simp only [hb]; clear hb))))
    simp only [headA] at hbl
    rw [callHeap_at (R := [1]) hbl]
    repeat' (first | simp (maxSteps := 10000000) (disch := omega) only [go_sem, Nat.reduceAdd, Nat.reduceSub, Nat.reduceMul, Nat.reduceLT, Nat.reduceLeDiff, Nat.reduceEqDiff, Nat.reduceBEq, Nat.reduceBNe, reduceCtorEq, Int.reduceBNe, Int.reduceBEq, au, lst, if_pos, if_neg, bldB] | simp (disch := (simp only [lens]; omega)) only [str_add, if_pos, if_neg] | ((with_reducible first | refine WC_split ?_ ?_ | refine WS_split ?_ ?_ | refine WD_split ?_ ?_) <;> intro hc <;> (try simp only [hc]) <;> (try simp only [bools] at hc) <;> (try (have hb : @Eq Bool _ _ := hc; simp only [hb]; clear hb))))
    refine k_loop (T20 lv L) (fun x => x.1 ≤ L.length ∧ x.2 ++ gapsS (pkI L x.1) (L.drop x.1) = gapsS (-1) L) (fun x => L.length - x.1) (0, []) (K := cfg.kill 20 7) rfl ⟨Nat.zero_le _, rfl⟩ (by rw [T20, List.append_nil]; kernel_rfl) ?_
    intro ⟨i, O⟩ ⟨hi, hO⟩ k' Q' hnorm hexit hret
    simp only at hi hO
    have hg0 := hg 0
    rw [show pkI L 0 = -1 from rfl, List.drop_zero, ← hO, List.length_append] at hg0
    simp only [T20, mkF, List.foldl, st0, List.set]
    by_cases hlt : i < L.length
    · obtain ⟨r1, r2, r3⟩ := ask_rise hok hlt
      have c5 := call_52 (L[i] - pkI L i - 1) (by omega)
      have q5 := numS_len (z := L[i] - pkI L i - 1) (by omega)
      have hb2 := call_50 true (headA lv L.length ++ O) (numS (L[i] - pkI L i - 1)) (by simp only [List.length_append]; omega)
      have hst := gaps_step hlt
      have hpk := pkI_succ hlt
      simp only [bldAt]
      generalize pkI L i = lo at r1 r2 c5 q5 hb2 hst hO ⊢
      repeat' (first | simp (maxSteps := 10000000) (disch := omega) only [go_sem, Nat.reduceAdd, Nat.reduceSub, Nat.reduceMul, Nat.reduceLT, Nat.reduceLeDiff, Nat.reduceEqDiff, Nat.reduceBEq, Nat.reduceBNe, reduceCtorEq, Int.reduceBNe, Int.reduceBEq, au, lst, if_pos, if_neg, irow, c5] | simp (disch := (simp only [lens]; omega)) only [str_add, if_pos, if_neg] | ((with_reducible first | refine WC_split ?_ ?_ | refine WS_split ?_ ?_ | refine WD_split ?_ ?_) <;> intro hc <;> (try simp only [hc]) <;> (try simp only [bools] at hc) <;> (try (have hb : @Eq Bool _ _ := hc; simp only [hb]; clear hb))))
      rw [callHeap_at (R := [1]) hb2]
      repeat' (first | simp (maxSteps := 10000000) (disch := omega) only [go_sem, Nat.reduceAdd, Nat.reduceSub, Nat.reduceMul, Nat.reduceLT, Nat.reduceLeDiff, Nat.reduceEqDiff, Nat.reduceBEq, Nat.reduceBNe, reduceCtorEq, Int.reduceBNe, Int.reduceBEq, au, lst, if_pos, if_neg, bldB] | simp (disch := (simp only [lens]; omega)) only [str_add, if_pos, if_neg] | ((with_reducible first | refine WC_split ?_ ?_ | refine WS_split ?_ ?_ | refine WD_split ?_ ?_) <;> intro hc <;> (try simp only [hc]) <;> (try simp only [bools] at hc) <;> (try (have hb : @Eq Bool _ _ := hc; simp only [hb]; clear hb))))
      refine hnorm (i + 1, O ++ numS (L[i] - lo - 1)) _ ⟨by show i + 1 ≤ _; omega, ?_⟩ (by show L.length - (i + 1) < L.length - i; omega) ?_
      · show O ++ numS (L[i] - lo - 1) ++ gapsS (pkI L (i + 1)) (L.drop (i + 1)) = _
        rw [← hO, hst, List.append_assoc]
      · rw [T20, hpk, ← List.append_assoc]
        kernel_rfl
    · simp only [bldAt]
      rw [List.drop_of_length_le (by omega), gapsS, List.append_nil] at hO
      repeat' (first | simp (maxSteps := 10000000) (disch := omega) only [go_sem, Nat.reduceAdd, Nat.reduceSub, Nat.reduceMul, Nat.reduceLT, Nat.reduceLeDiff, Nat.reduceEqDiff, Nat.reduceBEq, Nat.reduceBNe, reduceCtorEq, Int.reduceBNe, Int.reduceBEq, au, lst, if_pos, if_neg, askR] | simp (disch := (simp only [lens]; omega)) only [str_add, if_pos, if_neg] | ((with_reducible first | refine WC_split ?_ ?_ | refine WS_split ?_ ?_ | refine WD_split ?_ ?_) <;> intro hc <;> (try simp only [hc]) <;> (try simp only [bools] at hc) <;> (try (have hb : @Eq Bool _ _ := hc; simp only [hb]; clear hb))))
      refine hexit _ _ ?_
      repeat' (first | simp (maxSteps := 10000000) (disch := omega) only [go_sem, Nat.reduceAdd, Nat.reduceSub, Nat.reduceMul, Nat.reduceLT, Nat.reduceLeDiff, Nat.reduceEqDiff, Nat.reduceBEq, Nat.reduceBNe, reduceCtorEq, Int.reduceBNe, Int.reduceBEq, au, lst, if_pos, if_neg] | simp (disch := (simp only [lens]; omega)) only [str_add, if_pos, if_neg] | ((with_reducible first | refine WC_split ?_ ?_ | refine WS_split ?_ ?_ | refine WD_split ?_ ?_) <;> intro hc <;> (try simp only [hc]) <;> (try simp only [bools] at hc) <;> (try (have hb : @Eq Bool _ _ := hc; simp only [hb]; clear hb))))
      subst hO
      rw [callHeap_at (R := [1]) (str_of (headA lv L.length ++ gapsS (-1) L) (by intro h; have := congrArg List.length h; simp only [List.length_append, List.length_nil] at this; omega) (by simp only [List.length_append]; omega))]
      repeat' (first | simp (maxSteps := 10000000) (disch := omega) only [go_sem, Nat.reduceAdd, Nat.reduceSub, Nat.reduceMul, Nat.reduceLT, Nat.reduceLeDiff, Nat.reduceEqDiff, Nat.reduceBEq, Nat.reduceBNe, reduceCtorEq, Int.reduceBNe, Int.reduceBEq, au, lst, if_pos, if_neg, bldB] | simp (disch := (simp only [lens]; omega)) only [str_add, if_pos, if_neg] | ((with_reducible first | refine WC_split ?_ ?_ | refine WS_split ?_ ?_ | refine WD_split ?_ ?_) <;> intro hc <;> (try simp only [hc]) <;> (try simp only [bools] at hc) <;> (try (have hb : @Eq Bool _ _ := hc; simp only [hb]; clear hb))))
      exact ret1n (fun _ => ex_ret) rfl rfl rfl ⟨rfl, rfl, rfl⟩
  · rw [askS, if_neg hok]
    rw [Bool.not_eq_true] at hok
    rw [hok] at c1
    refine call_eq fn_20 rfl ?_
    rw [k_start]
    simp only [Try.f20, st0, Nat.zero_add]
    repeat' (first | simp (maxSteps := 10000000) (disch := omega) only [go_sem, Nat.reduceAdd, Nat.reduceSub, Nat.reduceMul, Nat.reduceLT, Nat.reduceLeDiff, Nat.reduceEqDiff, Nat.reduceBEq, Nat.reduceBNe, reduceCtorEq, Int.reduceBNe, Int.reduceBEq, au, lst, if_pos, if_neg, c1, askR] | simp (disch := (simp only [lens]; omega)) only [str_add, if_pos, if_neg] | ((with_reducible first | refine WC_split ?_ ?_ | refine WS_split ?_ ?_ | refine WD_split ?_ ?_) <;> intro hc <;> (try simp only [hc]) <;> (try simp only [bools] at hc) <;> (try (have hb : @Eq Bool _ _ := hc; simp only [hb]; clear hb))))
    exact ret1n (fun _ => ex_ret) rfl rfl rfl ⟨rfl, rfl, rfl⟩
end Go.Proofs.Ythikboobkmfgfaa
