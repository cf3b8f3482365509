/- Texts and flags, as bytes and read. -/
import Derived.Test.YthikboobkmfgfaaG4
import Derived.Test.YthikboobkmfgfaaG1
import Derived.Test.YthikboobkmfgfaaM3
set_option linter.all false
set_option maxRecDepth 100000
namespace Go.Proofs.Ythikboobkmfgfaa
open Go Go.Abs

def flagS (b : Bool) : List UInt8 := [if b then 1 else 0]
theorem call_59 (b : Bool) : (Lim cfg).call 59 [.bool b] [] = some (.str (flagS b), false, []) := by
  cases b
  · exact lim_of_run (k := 60) (by kernel_rfl)
  · exact lim_of_run (k := 60) (by kernel_rfl)
theorem call_62 (b : Bool) : (Lim cfg).call 62 [.bool b] [] = some (.str (flagS b), false, []) := by
  cases b
  · exact lim_of_run (k := 60) (by kernel_rfl)
  · exact lim_of_run (k := 60) (by kernel_rfl)
def textS (s : List UInt8) : List UInt8 := numS s.length ++ s
theorem call_57 (s : List UInt8) (hlen : s.length ≤ 1000000000) : (Lim cfg).call 57 [.str s] [] = some (.str (textS s), false, []) := by
  have c1 := call_52 s.length (by omega)
  have q1 := numS_len (z := s.length) (by omega)
  refine call_eq fn_57 rfl ?_
  rw [k_start]
  simp only [Try.f57, st0, Nat.zero_add]
  repeat' (first | simp (maxSteps := 10000000) (disch := omega) only [go_sem, Nat.reduceAdd, Nat.reduceSub, Nat.reduceMul, Nat.reduceLT, Nat.reduceLeDiff, Nat.reduceEqDiff, Nat.reduceBEq, Nat.reduceBNe, reduceCtorEq, Int.reduceBNe, Int.reduceBEq, au, lst, if_pos, if_neg, c1, str_add] | simp (disch := (simp only [lens]; omega)) only [str_add, if_pos, if_neg] | ((with_reducible first | refine WC_split ?_ ?_ | refine WS_split ?_ ?_ | refine WD_split ?_ ?_) <;> intro hc <;> (try simp only [hc]) <;> (try simp only [bools] at hc) <;> (try (have hb : @Eq Bool _ _ := hc; simp only [hb]; clear hb))))
  exact ret1n (fun _ => ex_ret) rfl rfl rfl ⟨rfl, rfl, rfl⟩
theorem call_61 (s : List UInt8) (hlen : s.length ≤ 1000000000) : (Lim cfg).call 61 [.str s] [] = some (.str (textS s), false, []) := by
  have c1 := call_55 s.length (by omega)
  have q1 := numS_len (z := s.length) (by omega)
  refine call_eq fn_61 rfl ?_
  rw [k_start]
  simp only [Try.f61, st0, Nat.zero_add]
  repeat' (first | simp (maxSteps := 10000000) (disch := omega) only [go_sem, Nat.reduceAdd, Nat.reduceSub, Nat.reduceMul, Nat.reduceLT, Nat.reduceLeDiff, Nat.reduceEqDiff, Nat.reduceBEq, Nat.reduceBNe, reduceCtorEq, Int.reduceBNe, Int.reduceBEq, au, lst, if_pos, if_neg, c1, str_add] | simp (disch := (simp only [lens]; omega)) only [str_add, if_pos, if_neg] | ((with_reducible first | refine WC_split ?_ ?_ | refine WS_split ?_ ?_ | refine WD_split ?_ ?_) <;> intro hc <;> (try simp only [hc]) <;> (try simp only [bools] at hc) <;> (try (have hb : @Eq Bool _ _ := hc; simp only [hb]; clear hb))))
  exact ret1n (fun _ => ex_ret) rfl rfl rfl ⟨rfl, rfl, rfl⟩
theorem str_to {t : TypeId} (ht : (cfg.ty t).map TI.k = some .str) {s : List UInt8} {j : Nat} (h : j ≤ s.length) : sliceV cfg t (.str s) none (some (.int .i64 (j : Int))) none = some (.str (s.take j)) := by
  have e1 : (0 : Int) ≤ (j : Int) ∧ (j : Int) ≤ (s.length : Int) := by omega
  simp only [sliceV, ht, bound, if_pos e1, Int.toNat_natCast, List.drop_zero, Nat.sub_zero]
/-- A text that is read: it, what is left, the error. -/
def txR (s : List UInt8) (e most : Int) : List UInt8 × List UInt8 × Int :=
  if (stR s e).2 ≠ 0 then ([], stR s e) else if (numN s e : Int) > most then ([], [], 2) else if numN s e > (stR s e).1.length then ([], [], 5) else ((stR s e).1.take (numN s e), (stR s e).1.drop (numN s e), 0)
theorem txR_len (s : List UInt8) (e most : Int) : (txR s e most).1.length ≤ s.length ∧ (txR s e most).2.1.length ≤ s.length := by
  have := stR_len s e
  unfold txR
  split
  · simp only [List.length_nil]; omega
  · split
    · simp
    · split
      · simp
      · simp only [List.length_take, List.length_drop]; omega
set_option maxHeartbeats 4000000 in
theorem call_42 (s : List UInt8) (e most : Int) (hlen : s.length ≤ 1000000000) :
    (Lim cfg).call 42 [.ptr 0 0, .int .i64 most] [rdB s e] = some (.str (txR s e most).1, false, [rdB (txR s e most).2.1 (txR s e most).2.2]) := by
  have l1 := stR_len s e
  unfold txR
  refine call_eq fn_42 rfl ?_
  rw [k_start]
  simp only [Try.f42, st0, Nat.zero_add]
  repeat' (first | simp (maxSteps := 10000000) (disch := omega) only [go_sem, Nat.reduceAdd, Nat.reduceSub, Nat.reduceMul, Nat.reduceLT, Nat.reduceLeDiff, Nat.reduceEqDiff, Nat.reduceBEq, Nat.reduceBNe, reduceCtorEq, Int.reduceBNe, Int.reduceBEq, au, lst, if_pos, if_neg] | simp (disch := (simp only [lens]; omega)) only [str_add, if_pos, if_neg] | ((with_reducible first | refine WC_split ?_ ?_ | refine WS_split ?_ ?_ | refine WD_split ?_ ?_) <;> intro hc <;> (try simp only [hc]) <;> (try simp only [bools] at hc) <;> (try (have hb : @Eq Bool _ _ := hc; simp only [hb]; clear hb))))
  rw [callHeap_at (R := [0]) (rd_num s e hlen)]
  generalize stR s e = t at l1 ⊢
  generalize numN s e = n
  obtain ⟨t, f⟩ := t
  simp only at l1 ⊢
  repeat' (first | simp (maxSteps := 10000000) (disch := omega) only [go_sem, Nat.reduceAdd, Nat.reduceSub, Nat.reduceMul, Nat.reduceLT, Nat.reduceLeDiff, Nat.reduceEqDiff, Nat.reduceBEq, Nat.reduceBNe, reduceCtorEq, Int.reduceBNe, Int.reduceBEq, au, lst, if_pos, if_neg, rdB] | simp (disch := (simp only [lens]; omega)) only [str_add, if_pos, if_neg] | ((with_reducible first | refine WC_split ?_ ?_ | refine WS_split ?_ ?_ | refine WD_split ?_ ?_) <;> intro hc <;> (try simp only [hc]) <;> (try simp only [bools] at hc) <;> (try (have hb : @Eq Bool _ _ := hc; simp only [hb]; clear hb))))
  rw [callHeap_at (R := [0]) (call_78 t f)]
  by_cases h1 : f = 0
  · subst h1
    simp only [ne_eq, not_true_eq_false, if_false]
    by_cases h2 : (n : Int) > most
    · rw [if_pos h2]
      repeat' (first | simp (maxSteps := 10000000) (disch := omega) only [go_sem, Nat.reduceAdd, Nat.reduceSub, Nat.reduceMul, Nat.reduceLT, Nat.reduceLeDiff, Nat.reduceEqDiff, Nat.reduceBEq, Nat.reduceBNe, reduceCtorEq, Int.reduceBNe, Int.reduceBEq, au, lst, if_pos, if_neg, rdB] | simp (disch := (simp only [lens]; omega)) only [str_add, if_pos, if_neg] | ((with_reducible first | refine WC_split ?_ ?_ | refine WS_split ?_ ?_ | refine WD_split ?_ ?_) <;> intro hc <;> (try simp only [hc]) <;> (try simp only [bools] at hc) <;> (try (have hb : @Eq Bool _ _ := hc; simp only [hb]; clear hb))))
      rw [callHeap_at (R := [0]) (call_80 t 0 2)]
      repeat' (first | simp (maxSteps := 10000000) (disch := omega) only [go_sem, Nat.reduceAdd, Nat.reduceSub, Nat.reduceMul, Nat.reduceLT, Nat.reduceLeDiff, Nat.reduceEqDiff, Nat.reduceBEq, Nat.reduceBNe, reduceCtorEq, Int.reduceBNe, Int.reduceBEq, au, lst, if_pos, if_neg, rdB] | simp (disch := (simp only [lens]; omega)) only [str_add, if_pos, if_neg] | ((with_reducible first | refine WC_split ?_ ?_ | refine WS_split ?_ ?_ | refine WD_split ?_ ?_) <;> intro hc <;> (try simp only [hc]) <;> (try simp only [bools] at hc) <;> (try (have hb : @Eq Bool _ _ := hc; simp only [hb]; clear hb))))
      exact ret1h (fun _ => ex_ret) rfl rfl rfl rfl ⟨rfl, rfl, rfl⟩
    · rw [if_neg h2]
      by_cases h3 : n > t.length
      · rw [if_pos h3]
        repeat' (first | simp (maxSteps := 10000000) (disch := omega) only [go_sem, Nat.reduceAdd, Nat.reduceSub, Nat.reduceMul, Nat.reduceLT, Nat.reduceLeDiff, Nat.reduceEqDiff, Nat.reduceBEq, Nat.reduceBNe, reduceCtorEq, Int.reduceBNe, Int.reduceBEq, au, lst, if_pos, if_neg, rdB] | simp (disch := (simp only [lens]; omega)) only [str_add, if_pos, if_neg] | ((with_reducible first | refine WC_split ?_ ?_ | refine WS_split ?_ ?_ | refine WD_split ?_ ?_) <;> intro hc <;> (try simp only [hc]) <;> (try simp only [bools] at hc) <;> (try (have hb : @Eq Bool _ _ := hc; simp only [hb]; clear hb))))
        rw [callHeap_at (R := [0]) (call_80 t 0 5)]
        repeat' (first | simp (maxSteps := 10000000) (disch := omega) only [go_sem, Nat.reduceAdd, Nat.reduceSub, Nat.reduceMul, Nat.reduceLT, Nat.reduceLeDiff, Nat.reduceEqDiff, Nat.reduceBEq, Nat.reduceBNe, reduceCtorEq, Int.reduceBNe, Int.reduceBEq, au, lst, if_pos, if_neg, rdB] | simp (disch := (simp only [lens]; omega)) only [str_add, if_pos, if_neg] | ((with_reducible first | refine WC_split ?_ ?_ | refine WS_split ?_ ?_ | refine WD_split ?_ ?_) <;> intro hc <;> (try simp only [hc]) <;> (try simp only [bools] at hc) <;> (try (have hb : @Eq Bool _ _ := hc; simp only [hb]; clear hb))))
        exact ret1h (fun _ => ex_ret) rfl rfl rfl rfl ⟨rfl, rfl, rfl⟩
      · rw [if_neg h3]
        have e1 : sliceV cfg 9 (.str t) none (some (.int .i64 (n : Int))) none = some (.str (t.take n)) := str_to rfl (by omega)
        have e2 : sliceV cfg 9 (.str t) (some (.int .i64 (n : Int))) none none = some (.str (t.drop n)) := str_from rfl (by omega)
        repeat' (first | simp (maxSteps := 10000000) (disch := omega) only [go_sem, Nat.reduceAdd, Nat.reduceSub, Nat.reduceMul, Nat.reduceLT, Nat.reduceLeDiff, Nat.reduceEqDiff, Nat.reduceBEq, Nat.reduceBNe, reduceCtorEq, Int.reduceBNe, Int.reduceBEq, au, lst, if_pos, if_neg, rdB, e1, e2] | simp (disch := (simp only [lens]; omega)) only [str_add, if_pos, if_neg] | ((with_reducible first | refine WC_split ?_ ?_ | refine WS_split ?_ ?_ | refine WD_split ?_ ?_) <;> intro hc <;> (try simp only [hc]) <;> (try simp only [bools] at hc) <;> (try (have hb : @Eq Bool _ _ := hc; simp only [hb]; clear hb))))
        exact ret1h (fun _ => ex_ret) rfl rfl rfl rfl ⟨rfl, rfl, rfl⟩
  · rw [if_pos h1]
    repeat' (first | simp (maxSteps := 10000000) (disch := omega) only [go_sem, Nat.reduceAdd, Nat.reduceSub, Nat.reduceMul, Nat.reduceLT, Nat.reduceLeDiff, Nat.reduceEqDiff, Nat.reduceBEq, Nat.reduceBNe, reduceCtorEq, Int.reduceBNe, Int.reduceBEq, au, lst, if_pos, if_neg, rdB] | simp (disch := (simp only [lens]; omega)) only [str_add, if_pos, if_neg] | ((with_reducible first | refine WC_split ?_ ?_ | refine WS_split ?_ ?_ | refine WD_split ?_ ?_) <;> intro hc <;> (try simp only [hc]) <;> (try simp only [bools] at hc) <;> (try (have hb : @Eq Bool _ _ := hc; simp only [hb]; clear hb))))
    exact ret1h (fun _ => ex_ret) rfl rfl rfl rfl ⟨rfl, rfl, rfl⟩
theorem call_43 (s : List UInt8) (e : Int) : (Lim cfg).call 43 [.ptr 0 0] [rdB s e] = some (.str s, false, [rdB s e]) := by
  refine call_eq fn_43 rfl ?_
  rw [k_start]
  simp only [Try.f43, st0, Nat.zero_add]
  repeat' (first | simp (maxSteps := 10000000) (disch := omega) only [go_sem, Nat.reduceAdd, Nat.reduceSub, Nat.reduceMul, Nat.reduceLT, Nat.reduceLeDiff, Nat.reduceEqDiff, Nat.reduceBEq, Nat.reduceBNe, reduceCtorEq, Int.reduceBNe, Int.reduceBEq, au, lst, if_pos, if_neg, rdB] | simp (disch := (simp only [lens]; omega)) only [str_add, if_pos, if_neg] | ((with_reducible first | refine WC_split ?_ ?_ | refine WS_split ?_ ?_ | refine WD_split ?_ ?_) <;> intro hc <;> (try simp only [hc]) <;> (try simp only [bools] at hc) <;> (try (have hb : @Eq Bool _ _ := hc; simp only [hb]; clear hb))))
  exact ret1h (fun _ => ex_ret) rfl rfl rfl rfl ⟨rfl, rfl, rfl⟩
set_option maxHeartbeats 4000000 in
theorem call_47 (s : List UInt8) (e most : Int) (hlen : s.length ≤ 1000000000) :
    (Lim cfg).call 47 [.agg [.str s, .int .i64 e], .int .i64 most] [] = some (.tup [.agg [.str (txR s e most).2.1, .int .i64 (txR s e most).2.2], .str (txR s e most).1], false, []) := by
  have l1 := stR_len s e
  have c1 := call_40 s e hlen
  unfold txR
  generalize stR s e = t at l1 c1 ⊢
  generalize numN s e = n at c1 ⊢
  obtain ⟨t, f⟩ := t
  simp only at l1 c1 ⊢
  by_cases h1 : f = 0
  · subst h1
    simp only [ne_eq, not_true_eq_false, if_false]
    by_cases h2 : (n : Int) > most
    · rw [if_pos h2]
      refine call_eq fn_47 rfl ?_
      rw [k_start]
      simp only [Try.f47, st0, Nat.zero_add]
      repeat' (first | simp (maxSteps := 10000000) (disch := omega) only [go_sem, Nat.reduceAdd, Nat.reduceSub, Nat.reduceMul, Nat.reduceLT, Nat.reduceLeDiff, Nat.reduceEqDiff, Nat.reduceBEq, Nat.reduceBNe, reduceCtorEq, Int.reduceBNe, Int.reduceBEq, au, lst, if_pos, if_neg, c1, call_79] | simp (disch := (simp only [lens]; omega)) only [str_add, if_pos, if_neg] | ((with_reducible first | refine WC_split ?_ ?_ | refine WS_split ?_ ?_ | refine WD_split ?_ ?_) <;> intro hc <;> (try simp only [hc]) <;> (try simp only [bools] at hc) <;> (try (have hb : @Eq Bool _ _ := hc; simp only [hb]; clear hb))))
      exact retM (fun _ => ex_ret) rfl rfl ⟨rfl, rfl, rfl⟩
    · rw [if_neg h2]
      by_cases h3 : n > t.length
      · rw [if_pos h3]
        refine call_eq fn_47 rfl ?_
        rw [k_start]
        simp only [Try.f47, st0, Nat.zero_add]
        repeat' (first | simp (maxSteps := 10000000) (disch := omega) only [go_sem, Nat.reduceAdd, Nat.reduceSub, Nat.reduceMul, Nat.reduceLT, Nat.reduceLeDiff, Nat.reduceEqDiff, Nat.reduceBEq, Nat.reduceBNe, reduceCtorEq, Int.reduceBNe, Int.reduceBEq, au, lst, if_pos, if_neg, c1, call_79] | simp (disch := (simp only [lens]; omega)) only [str_add, if_pos, if_neg] | ((with_reducible first | refine WC_split ?_ ?_ | refine WS_split ?_ ?_ | refine WD_split ?_ ?_) <;> intro hc <;> (try simp only [hc]) <;> (try simp only [bools] at hc) <;> (try (have hb : @Eq Bool _ _ := hc; simp only [hb]; clear hb))))
        exact retM (fun _ => ex_ret) rfl rfl ⟨rfl, rfl, rfl⟩
      · rw [if_neg h3]
        have e1 : sliceV cfg 9 (.str t) none (some (.int .i64 (n : Int))) none = some (.str (t.take n)) := str_to rfl (by omega)
        have e2 : sliceV cfg 9 (.str t) (some (.int .i64 (n : Int))) none none = some (.str (t.drop n)) := str_from rfl (by omega)
        refine call_eq fn_47 rfl ?_
        rw [k_start]
        simp only [Try.f47, st0, Nat.zero_add]
        repeat' (first | simp (maxSteps := 10000000) (disch := omega) only [go_sem, Nat.reduceAdd, Nat.reduceSub, Nat.reduceMul, Nat.reduceLT, Nat.reduceLeDiff, Nat.reduceEqDiff, Nat.reduceBEq, Nat.reduceBNe, reduceCtorEq, Int.reduceBNe, Int.reduceBEq, au, lst, if_pos, if_neg, c1, e1, e2] | simp (disch := (simp only [lens]; omega)) only [str_add, if_pos, if_neg] | ((with_reducible first | refine WC_split ?_ ?_ | refine WS_split ?_ ?_ | refine WD_split ?_ ?_) <;> intro hc <;> (try simp only [hc]) <;> (try simp only [bools] at hc) <;> (try (have hb : @Eq Bool _ _ := hc; simp only [hb]; clear hb))))
        exact retM (fun _ => ex_ret) rfl rfl ⟨rfl, rfl, rfl⟩
  · rw [if_pos h1]
    refine call_eq fn_47 rfl ?_
    rw [k_start]
    simp only [Try.f47, st0, Nat.zero_add]
    repeat' (first | simp (maxSteps := 10000000) (disch := omega) only [go_sem, Nat.reduceAdd, Nat.reduceSub, Nat.reduceMul, Nat.reduceLT, Nat.reduceLeDiff, Nat.reduceEqDiff, Nat.reduceBEq, Nat.reduceBNe, reduceCtorEq, Int.reduceBNe, Int.reduceBEq, au, lst, if_pos, if_neg, c1] | simp (disch := (simp only [lens]; omega)) only [str_add, if_pos, if_neg] | ((with_reducible first | refine WC_split ?_ ?_ | refine WS_split ?_ ?_ | refine WD_split ?_ ?_) <;> intro hc <;> (try simp only [hc]) <;> (try simp only [bools] at hc) <;> (try (have hb : @Eq Bool _ _ := hc; simp only [hb]; clear hb))))
    exact retM (fun _ => ex_ret) rfl rfl ⟨rfl, rfl, rfl⟩
/-- A flag that is read: it, what is left, the error. -/
def flR (s : List UInt8) (e : Int) : Bool × List UInt8 × Int :=
  if e ≠ 0 then (false, s, e) else match s with
    | [] => (false, [], 5)
    | b :: r => if b.toNat > 1 then (false, [], 3) else (decide (b.toNat = 1), r, 0)
theorem flR_len (s : List UInt8) (e : Int) : (flR s e).2.1.length ≤ s.length := by
  unfold flR
  split
  · exact Nat.le_refl _
  · cases s with
    | nil => exact Nat.le_refl _
    | cons b r =>
      simp only
      split <;> simp
set_option maxHeartbeats 4000000 in
theorem call_44 (s : List UInt8) (e : Int) (hlen : s.length ≤ 1000000000) :
    (Lim cfg).call 44 [.ptr 0 0] [rdB s e] = some (.bool (flR s e).1, false, [rdB (flR s e).2.1 (flR s e).2.2]) := by
  unfold flR
  by_cases h1 : e = 0
  · subst h1
    rw [if_neg (by simp)]
    cases s with
    | nil =>
      refine call_eq fn_44 rfl ?_
      rw [k_start]
      simp only [Try.f44, st0, Nat.zero_add]
      repeat' (first | simp (maxSteps := 10000000) (disch := omega) only [go_sem, Nat.reduceAdd, Nat.reduceSub, Nat.reduceMul, Nat.reduceLT, Nat.reduceLeDiff, Nat.reduceEqDiff, Nat.reduceBEq, Nat.reduceBNe, reduceCtorEq, Int.reduceBNe, Int.reduceBEq, au, lst, if_pos, if_neg] | simp (disch := (simp only [lens]; omega)) only [str_add, if_pos, if_neg] | ((with_reducible first | refine WC_split ?_ ?_ | refine WS_split ?_ ?_ | refine WD_split ?_ ?_) <;> intro hc <;> (try simp only [hc]) <;> (try simp only [bools] at hc) <;> (try (have hb : @Eq Bool _ _ := hc; simp only [hb]; clear hb))))
      rw [callHeap_at (R := [0]) (call_78 [] 0)]
      repeat' (first | simp (maxSteps := 10000000) (disch := omega) only [go_sem, Nat.reduceAdd, Nat.reduceSub, Nat.reduceMul, Nat.reduceLT, Nat.reduceLeDiff, Nat.reduceEqDiff, Nat.reduceBEq, Nat.reduceBNe, reduceCtorEq, Int.reduceBNe, Int.reduceBEq, au, lst, if_pos, if_neg, rdB, strOp] | simp (disch := (simp only [lens]; omega)) only [str_add, if_pos, if_neg] | ((with_reducible first | refine WC_split ?_ ?_ | refine WS_split ?_ ?_ | refine WD_split ?_ ?_) <;> intro hc <;> (try simp only [hc]) <;> (try simp only [bools] at hc) <;> (try (have hb : @Eq Bool _ _ := hc; simp only [hb]; clear hb))))
      rw [callHeap_at (R := [0]) (call_80 [] 0 5)]
      repeat' (first | simp (maxSteps := 10000000) (disch := omega) only [go_sem, Nat.reduceAdd, Nat.reduceSub, Nat.reduceMul, Nat.reduceLT, Nat.reduceLeDiff, Nat.reduceEqDiff, Nat.reduceBEq, Nat.reduceBNe, reduceCtorEq, Int.reduceBNe, Int.reduceBEq, au, lst, if_pos, if_neg, rdB] | simp (disch := (simp only [lens]; omega)) only [str_add, if_pos, if_neg] | ((with_reducible first | refine WC_split ?_ ?_ | refine WS_split ?_ ?_ | refine WD_split ?_ ?_) <;> intro hc <;> (try simp only [hc]) <;> (try simp only [bools] at hc) <;> (try (have hb : @Eq Bool _ _ := hc; simp only [hb]; clear hb))))
      exact ret1h (fun _ => ex_ret) rfl rfl rfl rfl ⟨rfl, rfl, rfl⟩
    | cons b r =>
      simp only
      simp only [List.length_cons] at hlen
      have hx : (b :: r)[0]? = some b := rfl
      have e1 : sliceV cfg 9 (.str (b :: r)) (some (.int .i64 1)) none none = some (.str r) := str_from (j := 1) (s := b :: r) rfl (by simp)
      by_cases h2 : b.toNat > 1
      · rw [if_pos h2]
        refine call_eq fn_44 rfl ?_
        rw [k_start]
        simp only [Try.f44, st0, Nat.zero_add]
        repeat' (first | simp (maxSteps := 10000000) (disch := omega) only [go_sem, Nat.reduceAdd, Nat.reduceSub, Nat.reduceMul, Nat.reduceLT, Nat.reduceLeDiff, Nat.reduceEqDiff, Nat.reduceBEq, Nat.reduceBNe, reduceCtorEq, Int.reduceBNe, Int.reduceBEq, au, lst, if_pos, if_neg] | simp (disch := (simp only [lens]; omega)) only [str_add, if_pos, if_neg] | ((with_reducible first | refine WC_split ?_ ?_ | refine WS_split ?_ ?_ | refine WD_split ?_ ?_) <;> intro hc <;> (try simp only [hc]) <;> (try simp only [bools] at hc) <;> (try (have hb : @Eq Bool _ _ := hc; simp only [hb]; clear hb))))
        rw [callHeap_at (R := [0]) (call_78 (b :: r) 0)]
        repeat' (first | simp (maxSteps := 10000000) (disch := omega) only [go_sem, Nat.reduceAdd, Nat.reduceSub, Nat.reduceMul, Nat.reduceLT, Nat.reduceLeDiff, Nat.reduceEqDiff, Nat.reduceBEq, Nat.reduceBNe, reduceCtorEq, Int.reduceBNe, Int.reduceBEq, au, lst, if_pos, if_neg, rdB, strOp, hx] | simp (disch := (simp only [lens]; omega)) only [str_add, if_pos, if_neg] | ((with_reducible first | refine WC_split ?_ ?_ | refine WS_split ?_ ?_ | refine WD_split ?_ ?_) <;> intro hc <;> (try simp only [hc]) <;> (try simp only [bools] at hc) <;> (try (have hb : @Eq Bool _ _ := hc; simp only [hb]; clear hb))))
        rw [callHeap_at (R := [0]) (call_80 (b :: r) 0 3)]
        repeat' (first | simp (maxSteps := 10000000) (disch := omega) only [go_sem, Nat.reduceAdd, Nat.reduceSub, Nat.reduceMul, Nat.reduceLT, Nat.reduceLeDiff, Nat.reduceEqDiff, Nat.reduceBEq, Nat.reduceBNe, reduceCtorEq, Int.reduceBNe, Int.reduceBEq, au, lst, if_pos, if_neg, rdB] | simp (disch := (simp only [lens]; omega)) only [str_add, if_pos, if_neg] | ((with_reducible first | refine WC_split ?_ ?_ | refine WS_split ?_ ?_ | refine WD_split ?_ ?_) <;> intro hc <;> (try simp only [hc]) <;> (try simp only [bools] at hc) <;> (try (have hb : @Eq Bool _ _ := hc; simp only [hb]; clear hb))))
        exact ret1h (fun _ => ex_ret) rfl rfl rfl rfl ⟨rfl, rfl, rfl⟩
      · rw [if_neg h2]
        by_cases h3 : b.toNat = 1
        · rw [decide_eq_true h3]
          refine call_eq fn_44 rfl ?_
          rw [k_start]
          simp only [Try.f44, st0, Nat.zero_add]
          repeat' (first | simp (maxSteps := 10000000) (disch := omega) only [go_sem, Nat.reduceAdd, Nat.reduceSub, Nat.reduceMul, Nat.reduceLT, Nat.reduceLeDiff, Nat.reduceEqDiff, Nat.reduceBEq, Nat.reduceBNe, reduceCtorEq, Int.reduceBNe, Int.reduceBEq, au, lst, if_pos, if_neg] | simp (disch := (simp only [lens]; omega)) only [str_add, if_pos, if_neg] | ((with_reducible first | refine WC_split ?_ ?_ | refine WS_split ?_ ?_ | refine WD_split ?_ ?_) <;> intro hc <;> (try simp only [hc]) <;> (try simp only [bools] at hc) <;> (try (have hb : @Eq Bool _ _ := hc; simp only [hb]; clear hb))))
          rw [callHeap_at (R := [0]) (call_78 (b :: r) 0)]
          repeat' (first | simp (maxSteps := 10000000) (disch := omega) only [go_sem, Nat.reduceAdd, Nat.reduceSub, Nat.reduceMul, Nat.reduceLT, Nat.reduceLeDiff, Nat.reduceEqDiff, Nat.reduceBEq, Nat.reduceBNe, reduceCtorEq, Int.reduceBNe, Int.reduceBEq, au, lst, if_pos, if_neg, rdB, strOp, hx, e1] | simp (disch := (simp only [lens]; omega)) only [str_add, if_pos, if_neg] | ((with_reducible first | refine WC_split ?_ ?_ | refine WS_split ?_ ?_ | refine WD_split ?_ ?_) <;> intro hc <;> (try simp only [hc]) <;> (try simp only [bools] at hc) <;> (try (have hb : @Eq Bool _ _ := hc; simp only [hb]; clear hb))))
          exact ret1h (fun _ => ex_ret) rfl rfl rfl rfl ⟨rfl, rfl, rfl⟩
        · rw [decide_eq_false h3]
          refine call_eq fn_44 rfl ?_
          rw [k_start]
          simp only [Try.f44, st0, Nat.zero_add]
          repeat' (first | simp (maxSteps := 10000000) (disch := omega) only [go_sem, Nat.reduceAdd, Nat.reduceSub, Nat.reduceMul, Nat.reduceLT, Nat.reduceLeDiff, Nat.reduceEqDiff, Nat.reduceBEq, Nat.reduceBNe, reduceCtorEq, Int.reduceBNe, Int.reduceBEq, au, lst, if_pos, if_neg] | simp (disch := (simp only [lens]; omega)) only [str_add, if_pos, if_neg] | ((with_reducible first | refine WC_split ?_ ?_ | refine WS_split ?_ ?_ | refine WD_split ?_ ?_) <;> intro hc <;> (try simp only [hc]) <;> (try simp only [bools] at hc) <;> (try (have hb : @Eq Bool _ _ := hc; simp only [hb]; clear hb))))
          rw [callHeap_at (R := [0]) (call_78 (b :: r) 0)]
          repeat' (first | simp (maxSteps := 10000000) (disch := omega) only [go_sem, Nat.reduceAdd, Nat.reduceSub, Nat.reduceMul, Nat.reduceLT, Nat.reduceLeDiff, Nat.reduceEqDiff, Nat.reduceBEq, Nat.reduceBNe, reduceCtorEq, Int.reduceBNe, Int.reduceBEq, au, lst, if_pos, if_neg, rdB, strOp, hx, e1] | simp (disch := (simp only [lens]; omega)) only [str_add, if_pos, if_neg] | ((with_reducible first | refine WC_split ?_ ?_ | refine WS_split ?_ ?_ | refine WD_split ?_ ?_) <;> intro hc <;> (try simp only [hc]) <;> (try simp only [bools] at hc) <;> (try (have hb : @Eq Bool _ _ := hc; simp only [hb]; clear hb))))
          exact ret1h (fun _ => ex_ret) rfl rfl rfl rfl ⟨rfl, rfl, rfl⟩
  · rw [if_pos h1]
    refine call_eq fn_44 rfl ?_
    rw [k_start]
    simp only [Try.f44, st0, Nat.zero_add]
    repeat' (first | simp (maxSteps := 10000000) (disch := omega) only [go_sem, Nat.reduceAdd, Nat.reduceSub, Nat.reduceMul, Nat.reduceLT, Nat.reduceLeDiff, Nat.reduceEqDiff, Nat.reduceBEq, Nat.reduceBNe, reduceCtorEq, Int.reduceBNe, Int.reduceBEq, au, lst, if_pos, if_neg] | simp (disch := (simp only [lens]; omega)) only [str_add, if_pos, if_neg] | ((with_reducible first | refine WC_split ?_ ?_ | refine WS_split ?_ ?_ | refine WD_split ?_ ?_) <;> intro hc <;> (try simp only [hc]) <;> (try simp only [bools] at hc) <;> (try (have hb : @Eq Bool _ _ := hc; simp only [hb]; clear hb))))
    rw [callHeap_at (R := [0]) (call_78 s e)]
    repeat' (first | simp (maxSteps := 10000000) (disch := omega) only [go_sem, Nat.reduceAdd, Nat.reduceSub, Nat.reduceMul, Nat.reduceLT, Nat.reduceLeDiff, Nat.reduceEqDiff, Nat.reduceBEq, Nat.reduceBNe, reduceCtorEq, Int.reduceBNe, Int.reduceBEq, au, lst, if_pos, if_neg, rdB] | simp (disch := (simp only [lens]; omega)) only [str_add, if_pos, if_neg] | ((with_reducible first | refine WC_split ?_ ?_ | refine WS_split ?_ ?_ | refine WD_split ?_ ?_) <;> intro hc <;> (try simp only [hc]) <;> (try simp only [bools] at hc) <;> (try (have hb : @Eq Bool _ _ := hc; simp only [hb]; clear hb))))
    exact ret1h (fun _ => ex_ret) rfl rfl rfl rfl ⟨rfl, rfl, rfl⟩
set_option maxHeartbeats 4000000 in
theorem call_48 (s : List UInt8) (e : Int) (hlen : s.length ≤ 1000000000) :
    (Lim cfg).call 48 [.agg [.str s, .int .i64 e]] [] = some (.tup [.agg [.str (flR s e).2.1, .int .i64 (flR s e).2.2], .bool (flR s e).1], false, []) := by
  unfold flR
  by_cases h1 : e = 0
  · subst h1
    rw [if_neg (by simp)]
    cases s with
    | nil =>
      refine call_eq fn_48 rfl ?_
      rw [k_start]
      simp only [Try.f48, st0, Nat.zero_add]
      repeat' (first | simp (maxSteps := 10000000) (disch := omega) only [go_sem, Nat.reduceAdd, Nat.reduceSub, Nat.reduceMul, Nat.reduceLT, Nat.reduceLeDiff, Nat.reduceEqDiff, Nat.reduceBEq, Nat.reduceBNe, reduceCtorEq, Int.reduceBNe, Int.reduceBEq, au, lst, if_pos, if_neg, call_79, strOp] | simp (disch := (simp only [lens]; omega)) only [str_add, if_pos, if_neg] | ((with_reducible first | refine WC_split ?_ ?_ | refine WS_split ?_ ?_ | refine WD_split ?_ ?_) <;> intro hc <;> (try simp only [hc]) <;> (try simp only [bools] at hc) <;> (try (have hb : @Eq Bool _ _ := hc; simp only [hb]; clear hb))))
      exact retM (fun _ => ex_ret) rfl rfl ⟨rfl, rfl, rfl⟩
    | cons b r =>
      simp only
      simp only [List.length_cons] at hlen
      have hx : (b :: r)[0]? = some b := rfl
      have e1 : sliceV cfg 9 (.str (b :: r)) (some (.int .i64 1)) none none = some (.str r) := str_from (j := 1) (s := b :: r) rfl (by simp)
      by_cases h2 : b.toNat > 1
      · rw [if_pos h2]
        refine call_eq fn_48 rfl ?_
        rw [k_start]
        simp only [Try.f48, st0, Nat.zero_add]
        repeat' (first | simp (maxSteps := 10000000) (disch := omega) only [go_sem, Nat.reduceAdd, Nat.reduceSub, Nat.reduceMul, Nat.reduceLT, Nat.reduceLeDiff, Nat.reduceEqDiff, Nat.reduceBEq, Nat.reduceBNe, reduceCtorEq, Int.reduceBNe, Int.reduceBEq, au, lst, if_pos, if_neg, call_79, strOp, hx] | simp (disch := (simp only [lens]; omega)) only [str_add, if_pos, if_neg] | ((with_reducible first | refine WC_split ?_ ?_ | refine WS_split ?_ ?_ | refine WD_split ?_ ?_) <;> intro hc <;> (try simp only [hc]) <;> (try simp only [bools] at hc) <;> (try (have hb : @Eq Bool _ _ := hc; simp only [hb]; clear hb))))
        exact retM (fun _ => ex_ret) rfl rfl ⟨rfl, rfl, rfl⟩
      · rw [if_neg h2]
        by_cases h3 : b.toNat = 1
        · rw [decide_eq_true h3]
          refine call_eq fn_48 rfl ?_
          rw [k_start]
          simp only [Try.f48, st0, Nat.zero_add]
          repeat' (first | simp (maxSteps := 10000000) (disch := omega) only [go_sem, Nat.reduceAdd, Nat.reduceSub, Nat.reduceMul, Nat.reduceLT, Nat.reduceLeDiff, Nat.reduceEqDiff, Nat.reduceBEq, Nat.reduceBNe, reduceCtorEq, Int.reduceBNe, Int.reduceBEq, au, lst, if_pos, if_neg, strOp, hx, e1] | simp (disch := (simp only [lens]; omega)) only [str_add, if_pos, if_neg] | ((with_reducible first | refine WC_split ?_ ?_ | refine WS_split ?_ ?_ | refine WD_split ?_ ?_) <;> intro hc <;> (try simp only [hc]) <;> (try simp only [bools] at hc) <;> (try (have hb : @Eq Bool _ _ := hc; simp only [hb]; clear hb))))
          exact retM (fun _ => ex_ret) rfl rfl ⟨rfl, rfl, rfl⟩
        · rw [decide_eq_false h3]
          refine call_eq fn_48 rfl ?_
          rw [k_start]
          simp only [Try.f48, st0, Nat.zero_add]
          repeat' (first | simp (maxSteps := 10000000) (disch := omega) only [go_sem, Nat.reduceAdd, Nat.reduceSub, Nat.reduceMul, Nat.reduceLT, Nat.reduceLeDiff, Nat.reduceEqDiff, Nat.reduceBEq, Nat.reduceBNe, reduceCtorEq, Int.reduceBNe, Int.reduceBEq, au, lst, if_pos, if_neg, strOp, hx, e1] | simp (disch := (simp only [lens]; omega)) only [str_add, if_pos, if_neg] | ((with_reducible first | refine WC_split ?_ ?_ | refine WS_split ?_ ?_ | refine WD_split ?_ ?_) <;> intro hc <;> (try simp only [hc]) <;> (try simp only [bools] at hc) <;> (try (have hb : @Eq Bool _ _ := hc; simp only [hb]; clear hb))))
          exact retM (fun _ => ex_ret) rfl rfl ⟨rfl, rfl, rfl⟩
  · rw [if_pos h1]
    refine call_eq fn_48 rfl ?_
    rw [k_start]
    simp only [Try.f48, st0, Nat.zero_add]
    repeat' (first | simp (maxSteps := 10000000) (disch := omega) only [go_sem, Nat.reduceAdd, Nat.reduceSub, Nat.reduceMul, Nat.reduceLT, Nat.reduceLeDiff, Nat.reduceEqDiff, Nat.reduceBEq, Nat.reduceBNe, reduceCtorEq, Int.reduceBNe, Int.reduceBEq, au, lst, if_pos, if_neg] | simp (disch := (simp only [lens]; omega)) only [str_add, if_pos, if_neg] | ((with_reducible first | refine WC_split ?_ ?_ | refine WS_split ?_ ?_ | refine WD_split ?_ ?_) <;> intro hc <;> (try simp only [hc]) <;> (try simp only [bools] at hc) <;> (try (have hb : @Eq Bool _ _ := hc; simp only [hb]; clear hb))))
    exact retM (fun _ => ex_ret) rfl rfl ⟨rfl, rfl, rfl⟩
end Go.Proofs.Ythikboobkmfgfaa
