/- The law ViewNil. -/
import Derived.Test.YtlfjmmcodkdlfaaE2
import Derived.Test.YtlfjmmcodkdlfaaG1
set_option linter.all false
set_option maxRecDepth 100000
namespace Go.Proofs.Ytlfjmmcodkdlfaa
open Go Go.Abs

theorem call_4 : (Lim cfg).call 4 [] [] = some (.bool true, false, []) := lim_of_run (k := 300) (by kernel_rfl)
/-- A view that follows keys. -/
def viewB (on : List SR) : Blk := .cells 66 [2, 5, 6, 7] [.sl true (on.map srow), .int .i64 0, .sl true [], .int .i64 0, .int .i64 0, .sl true [], .sl true [], .sl true []]
theorem retHv {rs : List ResultVar} {n : Nat} {e : Ex} {s : St} {R : V → Bool → List Blk → Prop} {v : V} {own : Bool} (he : ∀ i, e ≠ .exit i) (hv : resultsV cfg s rs = some (v, own)) (hl : V.lt n v = false) (h : R v (own && isSl v) s.hp) : Ret cfg rs n R e s := by
  refine ⟨he, v, own, hv, ?_⟩
  simp only [hl, Bool.false_and, Bool.false_eq_true, if_false]
  exact h
set_option maxHeartbeats 4000000 in
theorem new_no (on : List SR) (hlen : on.length ≤ 100000) (h : ¬ (setS on = true ∧ on ≠ [])) : (Lim cfg).call 7 [.sl true (on.map srow)] [] = some (.nilp, false, []) := by
  have c1 := call_20 on hlen
  cases h1 : setS on with
  | false =>
    rw [h1] at c1
    refine call_eq fn_7 rfl ?_
    rw [k_start]
    simp only [Try.f7, st0, Nat.zero_add]
    repeat' (first | simp (maxSteps := 10000000) (disch := omega) only [go_sem, Nat.reduceAdd, Nat.reduceSub, Nat.reduceMul, Nat.reduceLT, Nat.reduceLeDiff, Nat.reduceEqDiff, Nat.reduceBEq, Nat.reduceBNe, reduceCtorEq, Int.reduceBNe, Int.reduceBEq, au, lst, if_pos, if_neg, c1] | simp (disch := (simp only [lens]; omega)) only [str_add, if_pos, if_neg] | ((with_reducible first | refine WC_split ?_ ?_ | refine WS_split ?_ ?_ | refine WD_split ?_ ?_) <;> intro hc <;> (try simp only [hc]) <;> (try simp only [bools] at hc) <;> (try (have hb : @Eq Bool _ _ := hc; simp only [hb]; clear hb))))
    exact ret1n (v := .nilp) (fun _ => ex_ret) rfl rfl rfl ⟨rfl, rfl, rfl⟩
  | true =>
    rw [h1] at c1
    cases on with
    | nil =>
      simp only [List.map_nil] at c1
      refine call_eq fn_7 rfl ?_
      rw [k_start]
      simp only [Try.f7, st0, Nat.zero_add]
      repeat' (first | simp (maxSteps := 10000000) (disch := omega) only [go_sem, Nat.reduceAdd, Nat.reduceSub, Nat.reduceMul, Nat.reduceLT, Nat.reduceLeDiff, Nat.reduceEqDiff, Nat.reduceBEq, Nat.reduceBNe, reduceCtorEq, Int.reduceBNe, Int.reduceBEq, au, lst, if_pos, if_neg, c1, List.map_nil] | simp (disch := (simp only [lens]; omega)) only [str_add, if_pos, if_neg] | ((with_reducible first | refine WC_split ?_ ?_ | refine WS_split ?_ ?_ | refine WD_split ?_ ?_) <;> intro hc <;> (try simp only [hc]) <;> (try simp only [bools] at hc) <;> (try (have hb : @Eq Bool _ _ := hc; simp only [hb]; clear hb))))
      exact ret1n (v := .nilp) (fun _ => ex_ret) rfl rfl rfl ⟨rfl, rfl, rfl⟩
    | cons s r => exact absurd ⟨h1, by simp⟩ h
set_option maxHeartbeats 4000000 in
theorem new_yes (on : List SR) (hlen : on.length ≤ 100000) (h : setS on = true ∧ on ≠ []) : (Lim cfg).call 7 [.sl true (on.map srow)] [] = some (.ptr 0 0, false, [viewB on]) := by
  have c1 := call_20 on hlen
  rw [h.1] at c1
  have hl : on.length ≠ 0 := fun q => h.2 (List.length_eq_zero_iff.1 q)
  have c2 : (Lim cfg).call 21 [.sl true (on.map srow)] [] = some (.sl ((on.map srow).isEmpty || true) (on.map srow), true, []) :=
    call_cln fn_21 cln_21 (by rw [ty_35]; rfl) ty_24 (by simp) (by unfold strMax; rw [List.length_map]; simp only; omega) (fit_srow on) (.inr (head_srow on))
  rw [Bool.or_true] at c2
  refine call_eq fn_7 rfl ?_
  rw [k_start]
  simp only [Try.f7, st0, Nat.zero_add]
  repeat' (first | simp (maxSteps := 10000000) (disch := omega) only [go_sem, Nat.reduceAdd, Nat.reduceSub, Nat.reduceMul, Nat.reduceLT, Nat.reduceLeDiff, Nat.reduceEqDiff, Nat.reduceBEq, Nat.reduceBNe, reduceCtorEq, Int.reduceBNe, Int.reduceBEq, au, lst, if_pos, if_neg, c1, c2] | simp (disch := (simp only [lens]; omega)) only [str_add, if_pos, if_neg] | ((with_reducible first | refine WC_split ?_ ?_ | refine WS_split ?_ ?_ | refine WD_split ?_ ?_) <;> intro hc <;> (try simp only [hc]) <;> (try simp only [bools] at hc) <;> (try (have hb : @Eq Bool _ _ := hc; simp only [hb]; clear hb))))
  exact retHv (v := .ptr 0 0) (own := false) (fun _ => ex_ret) rfl rfl ⟨rfl, rfl, rfl⟩
def chR (a b : Int) (rows : List (List V)) : List V := [.int .i64 a, .int .i64 b, .sl true rows]
theorem learn_nil (a b : Int) (rows : List (List V)) : (Lim cfg).call 8 [.nilp, .agg (chR a b rows)] [] = some (.int .i64 1, false, []) := by
  refine call_eq fn_8 rfl ?_
  rw [k_start]
  simp only [Try.f8, st0, Nat.zero_add]
  repeat' (first | simp (maxSteps := 10000000) (disch := omega) only [go_sem, Nat.reduceAdd, Nat.reduceSub, Nat.reduceMul, Nat.reduceLT, Nat.reduceLeDiff, Nat.reduceEqDiff, Nat.reduceBEq, Nat.reduceBNe, reduceCtorEq, Int.reduceBNe, Int.reduceBEq, au, lst, if_pos, if_neg, chR] | simp (disch := (simp only [lens]; omega)) only [str_add, if_pos, if_neg] | ((with_reducible first | refine WC_split ?_ ?_ | refine WS_split ?_ ?_ | refine WD_split ?_ ?_) <;> intro hc <;> (try simp only [hc]) <;> (try simp only [bools] at hc) <;> (try (have hb : @Eq Bool _ _ := hc; simp only [hb]; clear hb))))
  exact ret1n (fun _ => ex_ret) rfl rfl rfl ⟨rfl, rfl, rfl⟩
theorem page_nil (nc : List V) : (Lim cfg).call 9 [.nilp, .agg nc] [] = some (.int .i64 1, false, []) := by
  refine call_eq fn_9 rfl ?_
  rw [k_start]
  simp only [Try.f9, st0, Nat.zero_add]
  repeat' (first | simp (maxSteps := 10000000) (disch := omega) only [go_sem, Nat.reduceAdd, Nat.reduceSub, Nat.reduceMul, Nat.reduceLT, Nat.reduceLeDiff, Nat.reduceEqDiff, Nat.reduceBEq, Nat.reduceBNe, reduceCtorEq, Int.reduceBNe, Int.reduceBEq, au, lst, if_pos, if_neg] | simp (disch := (simp only [lens]; omega)) only [str_add, if_pos, if_neg] | ((with_reducible first | refine WC_split ?_ ?_ | refine WS_split ?_ ?_ | refine WD_split ?_ ?_) <;> intro hc <;> (try simp only [hc]) <;> (try simp only [bools] at hc) <;> (try (have hb : @Eq Bool _ _ := hc; simp only [hb]; clear hb))))
  exact ret1n (fun _ => ex_ret) rfl rfl rfl ⟨rfl, rfl, rfl⟩
theorem state_nil (nc : List V) : (Lim cfg).call 10 [.nilp, .agg nc] [] = some (.int .i64 1, false, []) := by
  refine call_eq fn_10 rfl ?_
  rw [k_start]
  simp only [Try.f10, st0, Nat.zero_add]
  repeat' (first | simp (maxSteps := 10000000) (disch := omega) only [go_sem, Nat.reduceAdd, Nat.reduceSub, Nat.reduceMul, Nat.reduceLT, Nat.reduceLeDiff, Nat.reduceEqDiff, Nat.reduceBEq, Nat.reduceBNe, reduceCtorEq, Int.reduceBNe, Int.reduceBEq, au, lst, if_pos, if_neg] | simp (disch := (simp only [lens]; omega)) only [str_add, if_pos, if_neg] | ((with_reducible first | refine WC_split ?_ ?_ | refine WS_split ?_ ?_ | refine WD_split ?_ ?_) <;> intro hc <;> (try simp only [hc]) <;> (try simp only [bools] at hc) <;> (try (have hb : @Eq Bool _ _ := hc; simp only [hb]; clear hb))))
  exact ret1n (fun _ => ex_ret) rfl rfl rfl ⟨rfl, rfl, rfl⟩
theorem wants_nil : (Lim cfg).call 11 [.nilp, .int .i64 1] [] = some (.sl true [], true, []) := lim_of_run (k := 60) (by kernel_rfl)
theorem mark_nil : (Lim cfg).call 12 [.nilp] [] = some (.int .i64 0, false, []) := lim_of_run (k := 60) (by kernel_rfl)
theorem base_nil : (Lim cfg).call 13 [.nilp] [] = some (.sl true [], true, []) := lim_of_run (k := 60) (by kernel_rfl)
theorem on_nil : (Lim cfg).call 14 [.nilp] [] = some (.sl true [], true, []) := lim_of_run (k := 60) (by kernel_rfl)
theorem seen_nil : (Lim cfg).call 15 [.nilp] [] = some (.sl true [], true, []) := lim_of_run (k := 60) (by kernel_rfl)
theorem chart_nil : (Lim cfg).call 16 [.nilp] [] = some (.agg (chR 0 0 []), false, []) := lim_of_run (k := 60) (by kernel_rfl)
set_option maxHeartbeats 16000000 in
theorem law_ViewNil (nc : List V) (hn : nc.length = 23) (hp : V.alll (fun i => Nat.blt i 0) nc = true) (a b : Int) (rows : List (List V)) (on : List SR) (hon : on.length ≤ 140737488351232) :
    (Lim cfg).call 3 [.agg nc, .agg (chR a b rows), .sl true (on.map srow)] [] = some (.bool true, false, []) := by
  have caw := call_4
  have ht : List.take 23 nc = nc := List.take_of_length_le (by omega)
  have hq : V.alll (fun _ => false) nc = true := hp
  by_cases h1 : on.length ≤ 100
  · by_cases h2 : rows.length ≤ 60
    · have c1 := call_6 on (by omega)
      have c2 := call_5 on (by omega)
      have l1 := learn_nil a b rows
      have l2 := page_nil nc
      have l3 := state_nil nc
      have l4 := wants_nil
      have l5 := mark_nil
      have l6 := base_nil
      have l7 := on_nil
      have l8 := seen_nil
      have l9 := chart_nil
      simp only [chR] at l1 l9
      by_cases hg : setS on = true ∧ on ≠ []
      · have c3 := new_yes on (by omega) hg
        rw [hg.1] at c2
        have hl : on.length ≠ 0 := fun q => hg.2 (List.length_eq_zero_iff.1 q)
        refine call_eq fn_3 rfl ?_
        rw [k_start]
        simp only [Try.f3, st0, Nat.zero_add]
        repeat' (first | simp (maxSteps := 10000000) (disch := omega) only [go_sem, Nat.reduceAdd, Nat.reduceSub, Nat.reduceMul, Nat.reduceLT, Nat.reduceLeDiff, Nat.reduceEqDiff, Nat.reduceBEq, Nat.reduceBNe, reduceCtorEq, Int.reduceBNe, Int.reduceBEq, au, lst, if_pos, if_neg, chR, hn, hp, hq, ht, c1, c2, c3, caw, l1, l2, l3, l4, l5, l6, l7, l8, l9, viewB] | simp (disch := (simp only [lens]; omega)) only [str_add, if_pos, if_neg] | simp only [go_sem, Nat.reduceAdd, Nat.reduceSub, Nat.reduceMul, Nat.reduceLT, Nat.reduceLeDiff, Nat.reduceEqDiff, Nat.reduceBEq, Nat.reduceBNe, reduceCtorEq, Int.reduceBNe, Int.reduceBEq, blt0, chR, hn, hp, hq, ht, c1, c2, c3, caw, l1, l2, l3, l4, l5, l6, l7, l8, l9, viewB] | ((with_reducible first | refine WC_split ?_ ?_ | refine WS_split ?_ ?_ | refine WD_split ?_ ?_) <;> intro hc <;> (try simp only [hc]) <;> (try simp only [bools] at hc) <;> (try (have hb : @Eq Bool _ _ := hc; simp only [hb]; clear hb))))
        exact ret1n (v := .bool true) (fun _ => ex_ret) rfl rfl rfl ⟨rfl, rfl, rfl⟩
      · have c3 := new_no on (by omega) hg
        cases hs : setS on with
        | false =>
          rw [hs] at c2
          refine call_eq fn_3 rfl ?_
          rw [k_start]
          simp only [Try.f3, st0, Nat.zero_add]
          repeat' (first | simp (maxSteps := 10000000) (disch := omega) only [go_sem, Nat.reduceAdd, Nat.reduceSub, Nat.reduceMul, Nat.reduceLT, Nat.reduceLeDiff, Nat.reduceEqDiff, Nat.reduceBEq, Nat.reduceBNe, reduceCtorEq, Int.reduceBNe, Int.reduceBEq, au, lst, if_pos, if_neg, chR, hn, hp, hq, ht, c1, c2, c3, caw, l1, l2, l3, l4, l5, l6, l7, l8, l9] | simp (disch := (simp only [lens]; omega)) only [str_add, if_pos, if_neg] | simp only [go_sem, Nat.reduceAdd, Nat.reduceSub, Nat.reduceMul, Nat.reduceLT, Nat.reduceLeDiff, Nat.reduceEqDiff, Nat.reduceBEq, Nat.reduceBNe, reduceCtorEq, Int.reduceBNe, Int.reduceBEq, blt0, chR, hn, hp, hq, ht, c1, c2, c3, caw, l1, l2, l3, l4, l5, l6, l7, l8, l9] | ((with_reducible first | refine WC_split ?_ ?_ | refine WS_split ?_ ?_ | refine WD_split ?_ ?_) <;> intro hc <;> (try simp only [hc]) <;> (try simp only [bools] at hc) <;> (try (have hb : @Eq Bool _ _ := hc; simp only [hb]; clear hb))))
          exact ret1n (v := .bool true) (fun _ => ex_ret) rfl rfl rfl ⟨rfl, rfl, rfl⟩
        | true =>
          have he : on = [] := by
            by_cases q : on = []
            · exact q
            · exact absurd ⟨hs, q⟩ hg
          subst he
          rw [hs] at c2
          simp only [List.map_nil] at c1 c2 c3
          refine call_eq fn_3 rfl ?_
          rw [k_start]
          simp only [Try.f3, st0, Nat.zero_add]
          repeat' (first | simp (maxSteps := 10000000) (disch := omega) only [go_sem, Nat.reduceAdd, Nat.reduceSub, Nat.reduceMul, Nat.reduceLT, Nat.reduceLeDiff, Nat.reduceEqDiff, Nat.reduceBEq, Nat.reduceBNe, reduceCtorEq, Int.reduceBNe, Int.reduceBEq, au, lst, if_pos, if_neg, chR, hn, hp, hq, ht, c1, c2, c3, caw, l1, l2, l3, l4, l5, l6, l7, l8, l9, List.map_nil] | simp (disch := (simp only [lens]; omega)) only [str_add, if_pos, if_neg] | simp only [go_sem, Nat.reduceAdd, Nat.reduceSub, Nat.reduceMul, Nat.reduceLT, Nat.reduceLeDiff, Nat.reduceEqDiff, Nat.reduceBEq, Nat.reduceBNe, reduceCtorEq, Int.reduceBNe, Int.reduceBEq, blt0, chR, hn, hp, hq, ht, c1, c2, c3, caw, l1, l2, l3, l4, l5, l6, l7, l8, l9, List.map_nil] | ((with_reducible first | refine WC_split ?_ ?_ | refine WS_split ?_ ?_ | refine WD_split ?_ ?_) <;> intro hc <;> (try simp only [hc]) <;> (try simp only [bools] at hc) <;> (try (have hb : @Eq Bool _ _ := hc; simp only [hb]; clear hb))))
          exact ret1n (v := .bool true) (fun _ => ex_ret) rfl rfl rfl ⟨rfl, rfl, rfl⟩
    · refine call_eq fn_3 rfl ?_
      rw [k_start]
      simp only [Try.f3, st0, Nat.zero_add]
      repeat' (first | simp (maxSteps := 10000000) (disch := omega) only [go_sem, Nat.reduceAdd, Nat.reduceSub, Nat.reduceMul, Nat.reduceLT, Nat.reduceLeDiff, Nat.reduceEqDiff, Nat.reduceBEq, Nat.reduceBNe, reduceCtorEq, Int.reduceBNe, Int.reduceBEq, au, lst, if_pos, if_neg, chR, hn, hp, hq, ht, caw] | simp (disch := (simp only [lens]; omega)) only [str_add, if_pos, if_neg] | simp only [go_sem, Nat.reduceAdd, Nat.reduceSub, Nat.reduceMul, Nat.reduceLT, Nat.reduceLeDiff, Nat.reduceEqDiff, Nat.reduceBEq, Nat.reduceBNe, reduceCtorEq, Int.reduceBNe, Int.reduceBEq, blt0, chR, hn, hp, hq, ht, caw] | ((with_reducible first | refine WC_split ?_ ?_ | refine WS_split ?_ ?_ | refine WD_split ?_ ?_) <;> intro hc <;> (try simp only [hc]) <;> (try simp only [bools] at hc) <;> (try (have hb : @Eq Bool _ _ := hc; simp only [hb]; clear hb))))
      exact ret1n (v := .bool true) (fun _ => ex_ret) rfl rfl rfl ⟨rfl, rfl, rfl⟩
  · refine call_eq fn_3 rfl ?_
    rw [k_start]
    simp only [Try.f3, st0, Nat.zero_add]
    repeat' (first | simp (maxSteps := 10000000) (disch := omega) only [go_sem, Nat.reduceAdd, Nat.reduceSub, Nat.reduceMul, Nat.reduceLT, Nat.reduceLeDiff, Nat.reduceEqDiff, Nat.reduceBEq, Nat.reduceBNe, reduceCtorEq, Int.reduceBNe, Int.reduceBEq, au, lst, if_pos, if_neg, chR, hn, hp, hq, ht, caw] | simp (disch := (simp only [lens]; omega)) only [str_add, if_pos, if_neg] | simp only [go_sem, Nat.reduceAdd, Nat.reduceSub, Nat.reduceMul, Nat.reduceLT, Nat.reduceLeDiff, Nat.reduceEqDiff, Nat.reduceBEq, Nat.reduceBNe, reduceCtorEq, Int.reduceBNe, Int.reduceBEq, blt0, chR, hn, hp, hq, ht, caw] | ((with_reducible first | refine WC_split ?_ ?_ | refine WS_split ?_ ?_ | refine WD_split ?_ ?_) <;> intro hc <;> (try simp only [hc]) <;> (try simp only [bools] at hc) <;> (try (have hb : @Eq Bool _ _ := hc; simp only [hb]; clear hb))))
    exact ret1n (v := .bool true) (fun _ => ex_ret) rfl rfl rfl ⟨rfl, rfl, rfl⟩
end Go.Proofs.Ytlfjmmcodkdlfaa
