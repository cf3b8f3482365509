/- The bytes of asks: the document's answer. -/
import Derived.Test.YthikboobkmfgfaaM22
set_option linter.all false
set_option maxRecDepth 100000
namespace Go.Proofs.Ythikboobkmfgfaa
open Go Go.Abs

theorem pk_cases {L : List Int} {i : Nat} (h : i < L.length) : (i = 0 ∧ pkI L i = -1) ∨ (0 < i ∧ pkI L i = L[i - 1]) := by
  unfold pkI
  by_cases h0 : i = 0
  · exact .inl ⟨h0, if_pos h0⟩
  · refine .inr ⟨by omega, ?_⟩
    rw [if_neg h0, List.getD_eq_getElem?_getD, List.getElem?_eq_getElem (by omega)]; rfl
def T21 (lv : Int) (L : List Int) (x : Nat × List UInt8) : St := { fr := mkF 49 [(1, .ptr 0 0), (3, .str (headA lv L.length ++ x.2)), (4, .int .i64 x.1)], own := [], hp := [.cells 38 [] (askR lv L)], al := [], nb := 0 }
set_option maxHeartbeats 8000000 in
theorem call_21 (lv : Int) (L : List Int) (hlen : L.length ≤ 100000) : (Lim cfg).call 21 [.agg (askR lv L)] [] = some (.str (askS lv L), false, []) := by
  have c1 := call_35 lv L hlen
  simp only [askR] at c1
  by_cases hok : askOk lv L = true
  · rw [askS, if_pos hok]
    rw [hok] at c1
    have c2 := call_54 lv
    have c4 := call_55 L.length (by omega)
    have q1 := wholeS_len lv
    have q3 := numS_len (z := L.length) (by omega)
    have hhl := headA_len lv hlen
    have hg := gaps_len hok
    refine call_eq fn_21 rfl ?_
    rw [k_start]
    simp only [Try.f21, st0, Nat.zero_add]
    repeat' (first | simp (maxSteps := 10000000) (disch := omega) only [go_sem, Nat.reduceAdd, Nat.reduceSub, Nat.reduceMul, Nat.reduceLT, Nat.reduceLeDiff, Nat.reduceEqDiff, Nat.reduceBEq, Nat.reduceBNe, reduceCtorEq, Int.reduceBNe, Int.reduceBEq, au, lst, if_pos, if_neg, c1, c2, c4, askR, str_add] | simp (disch := (simp only [lens]; omega)) only [str_add, if_pos, if_neg] | ((with_reducible first | refine WC_split ?_ ?_ | refine WS_split ?_ ?_ | refine WD_split ?_ ?_) <;> intro hc <;> (try simp only [hc]) <;> (try simp only [bools] at hc) <;> (try (have hb : @Eq Bool _ _ := hc; simp only [hb]; clear hb))))
    refine k_loop (T21 lv L) (fun x => x.1 ≤ L.length ∧ x.2 ++ gapsS (pkI L x.1) (L.drop x.1) = gapsS (-1) L) (fun x => L.length - x.1) (0, []) (K := cfg.kill 21 5) rfl ⟨Nat.zero_le _, rfl⟩ (by rw [T21, List.append_nil]; kernel_rfl) ?_
    intro ⟨i, O⟩ ⟨hi, hO⟩ k' Q' hnorm hexit hret
    simp only at hi hO
    have hg0 := hg 0
    rw [show pkI L 0 = -1 from rfl, List.drop_zero, ← hO, List.length_append] at hg0
    have hHO : (headA lv L.length ++ O).length ≤ 18 + 9 * L.length := by rw [List.length_append]; omega
    simp only [T21, mkF, List.foldl, st0, List.set]
    by_cases hlt : i < L.length
    · obtain ⟨r1, r2, r3⟩ := ask_rise hok hlt
      have c5 := call_55 (L[i] - pkI L i - 1) (by omega)
      have q5 := numS_len (z := L[i] - pkI L i - 1) (by omega)
      have hst := gaps_step hlt
      have hpk := pkI_succ hlt
      rcases pk_cases hlt with ⟨h0, hp⟩ | ⟨h0, hp⟩
      · subst h0
        have e1 : (L[0] - pkI L 0 - (1 : Int) : Int) = L[0] := by rw [hp]; omega
        rw [e1] at c5
        rw [e1] at q5
        repeat' (first | simp (maxSteps := 10000000) (disch := omega) only [go_sem, Nat.reduceAdd, Nat.reduceSub, Nat.reduceMul, Nat.reduceLT, Nat.reduceLeDiff, Nat.reduceEqDiff, Nat.reduceBEq, Nat.reduceBNe, reduceCtorEq, Int.reduceBNe, Int.reduceBEq, au, lst, if_pos, if_neg, irow, askR, c5, str_add] | simp (disch := (simp only [lens]; omega)) only [str_add, if_pos, if_neg] | ((with_reducible first | refine WC_split ?_ ?_ | refine WS_split ?_ ?_ | refine WD_split ?_ ?_) <;> intro hc <;> (try simp only [hc]) <;> (try simp only [bools] at hc) <;> (try (have hb : @Eq Bool _ _ := hc; simp only [hb]; clear hb))))
        refine hnorm (0 + 1, O ++ numS L[0]) _ ⟨by show 0 + 1 ≤ _; omega, ?_⟩ (by show L.length - (0 + 1) < L.length - 0; omega) ?_
        · show O ++ numS L[0] ++ gapsS (pkI L (0 + 1)) (L.drop (0 + 1)) = _
          rw [← hO, hst, List.append_assoc, e1]
        · rw [T21, ← List.append_assoc]
          kernel_rfl
      · rw [hp] at c5 r2 q5
        repeat' (first | simp (maxSteps := 10000000) (disch := omega) only [go_sem, Nat.reduceAdd, Nat.reduceSub, Nat.reduceMul, Nat.reduceLT, Nat.reduceLeDiff, Nat.reduceEqDiff, Nat.reduceBEq, Nat.reduceBNe, reduceCtorEq, Int.reduceBNe, Int.reduceBEq, au, lst, if_pos, if_neg, irow, askR, c5, str_add] | simp (disch := (simp only [lens]; omega)) only [str_add, if_pos, if_neg] | ((with_reducible first | refine WC_split ?_ ?_ | refine WS_split ?_ ?_ | refine WD_split ?_ ?_) <;> intro hc <;> (try simp only [hc]) <;> (try simp only [bools] at hc) <;> (try (have hb : @Eq Bool _ _ := hc; simp only [hb]; clear hb))))
        refine hnorm (i + 1, O ++ numS (L[i] - pkI L i - 1)) _ ⟨by show i + 1 ≤ _; omega, ?_⟩ (by show L.length - (i + 1) < L.length - i; omega) ?_
        · show O ++ numS (L[i] - pkI L i - 1) ++ gapsS (pkI L (i + 1)) (L.drop (i + 1)) = _
          rw [← hO, hst, List.append_assoc]
        · rw [T21, ← List.append_assoc, hp]
          kernel_rfl
    · rw [List.drop_of_length_le (by omega), gapsS, List.append_nil] at hO
      repeat' (first | simp (maxSteps := 10000000) (disch := omega) only [go_sem, Nat.reduceAdd, Nat.reduceSub, Nat.reduceMul, Nat.reduceLT, Nat.reduceLeDiff, Nat.reduceEqDiff, Nat.reduceBEq, Nat.reduceBNe, reduceCtorEq, Int.reduceBNe, Int.reduceBEq, au, lst, if_pos, if_neg, askR] | simp (disch := (simp only [lens]; omega)) only [str_add, if_pos, if_neg] | ((with_reducible first | refine WC_split ?_ ?_ | refine WS_split ?_ ?_ | refine WD_split ?_ ?_) <;> intro hc <;> (try simp only [hc]) <;> (try simp only [bools] at hc) <;> (try (have hb : @Eq Bool _ _ := hc; simp only [hb]; clear hb))))
      refine hexit _ _ ?_
      repeat' (first | simp (maxSteps := 10000000) (disch := omega) only [go_sem, Nat.reduceAdd, Nat.reduceSub, Nat.reduceMul, Nat.reduceLT, Nat.reduceLeDiff, Nat.reduceEqDiff, Nat.reduceBEq, Nat.reduceBNe, reduceCtorEq, Int.reduceBNe, Int.reduceBEq, au, lst, if_pos, if_neg] | simp (disch := (simp only [lens]; omega)) only [str_add, if_pos, if_neg] | ((with_reducible first | refine WC_split ?_ ?_ | refine WS_split ?_ ?_ | refine WD_split ?_ ?_) <;> intro hc <;> (try simp only [hc]) <;> (try simp only [bools] at hc) <;> (try (have hb : @Eq Bool _ _ := hc; simp only [hb]; clear hb))))
      subst hO
      exact ret1n (fun _ => ex_ret) rfl rfl rfl ⟨rfl, rfl, rfl⟩
  · rw [askS, if_neg hok]
    rw [Bool.not_eq_true] at hok
    rw [hok] at c1
    refine call_eq fn_21 rfl ?_
    rw [k_start]
    simp only [Try.f21, st0, Nat.zero_add]
    repeat' (first | simp (maxSteps := 10000000) (disch := omega) only [go_sem, Nat.reduceAdd, Nat.reduceSub, Nat.reduceMul, Nat.reduceLT, Nat.reduceLeDiff, Nat.reduceEqDiff, Nat.reduceBEq, Nat.reduceBNe, reduceCtorEq, Int.reduceBNe, Int.reduceBEq, au, lst, if_pos, if_neg, c1, askR] | simp (disch := (simp only [lens]; omega)) only [str_add, if_pos, if_neg] | ((with_reducible first | refine WC_split ?_ ?_ | refine WS_split ?_ ?_ | refine WD_split ?_ ?_) <;> intro hc <;> (try simp only [hc]) <;> (try simp only [bools] at hc) <;> (try (have hb : @Eq Bool _ _ := hc; simp only [hb]; clear hb))))
    exact ret1n (fun _ => ex_ret) rfl rfl rfl ⟨rfl, rfl, rfl⟩
end Go.Proofs.Ythikboobkmfgfaa
