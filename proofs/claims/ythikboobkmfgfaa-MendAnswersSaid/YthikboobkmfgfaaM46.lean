/- The law MendAnswers. -/
import Derived.Test.YthikboobkmfgfaaM45
import Derived.Test.YthikboobkmfgfaaM16
import Derived.Test.YthikboobkmfgfaaM37
set_option linter.all false
set_option maxRecDepth 100000
namespace Go.Proofs.Ythikboobkmfgfaa
open Go Go.Abs

theorem w_tree {T : TV} {X : Blk} {cs : List V} (hc : V.idsl [1] cs = [1]) : reach [X, treeB T] (.ptr 1 0 :: cs) = [1] := by
  have e : reachGo [X, treeB T] 2 [1] = [1] := by
    unfold reachGo
    show (if (V.idsl [1] (treeC T)).length = [1].length then [1] else reachGo _ _ (V.idsl [1] (treeC T))) = [1]
    rw [treeC_ids]; rfl
  show (List.range 2).filter (fun i => (reachGo [X, treeB T] 2 (V.idsl [1] cs)).contains i) = [1]
  rw [hc, e]; rfl
theorem w_closed {T : TV} {X : Blk} {cs : List V} (hc : V.alll (fun i => [1].contains i) cs = true) : closedIn [X, treeB T] [1] (.ptr 1 0 :: cs) = true := by
  show ((true && V.alll (fun i => [1].contains i) cs) && ((true && V.alll (fun i => [1].contains i) (treeC T)) && true)) = true
  rw [treeC_all, hc]; rfl
theorem w_sub {T : TV} {X : Blk} : subHp [X, treeB T] [1] = [treeB T] := by
  show [Blk.cells 131 [] (V.renl (fun i => [1].idxOf i) (treeC T))] = _
  rw [treeC_ren]
theorem few_ask (l : List PR) (lv : Int) (L : List Int) : (Lim cfg).call 6 [.sl true (l.map prow), .agg [.int .i64 lv, .sl true (L.map irow), .nils, .nils]] [] = some (.bool (decide (l.length ≤ 60 ∧ L.length ≤ 60)), false, []) := by
  by_cases h1 : l.length ≤ 60
  · by_cases h2 : L.length ≤ 60
    · rw [decide_eq_true (show l.length ≤ 60 ∧ L.length ≤ 60 from ⟨h1, h2⟩)]
      refine call_eq fn_6 rfl ?_
      rw [k_start]
      simp only [Try.f6, st0, Nat.zero_add]
      repeat' (first | simp (maxSteps := 10000000) (disch := omega) only [go_sem, Nat.reduceAdd, Nat.reduceSub, Nat.reduceMul, Nat.reduceLT, Nat.reduceLeDiff, Nat.reduceEqDiff, Nat.reduceBEq, Nat.reduceBNe, reduceCtorEq, Int.reduceBNe, Int.reduceBEq, au, lst, if_pos, if_neg] | simp (disch := (simp only [lens]; omega)) only [str_add, if_pos, if_neg] | ((with_reducible first | refine WC_split ?_ ?_ | refine WS_split ?_ ?_ | refine WD_split ?_ ?_) <;> intro hc <;> (try simp only [hc]) <;> (try simp only [bools] at hc) <;> (try (have hb : @Eq Bool _ _ := hc; simp only [hb]; clear hb))))
      exact ret1n (v := .bool true) (fun _ => ex_ret) rfl rfl rfl ⟨rfl, rfl, rfl⟩
    · rw [decide_eq_false (fun h : l.length ≤ 60 ∧ L.length ≤ 60 => h2 h.2)]
      refine call_eq fn_6 rfl ?_
      rw [k_start]
      simp only [Try.f6, st0, Nat.zero_add]
      repeat' (first | simp (maxSteps := 10000000) (disch := omega) only [go_sem, Nat.reduceAdd, Nat.reduceSub, Nat.reduceMul, Nat.reduceLT, Nat.reduceLeDiff, Nat.reduceEqDiff, Nat.reduceBEq, Nat.reduceBNe, reduceCtorEq, Int.reduceBNe, Int.reduceBEq, au, lst, if_pos, if_neg] | simp (disch := (simp only [lens]; omega)) only [str_add, if_pos, if_neg] | ((with_reducible first | refine WC_split ?_ ?_ | refine WS_split ?_ ?_ | refine WD_split ?_ ?_) <;> intro hc <;> (try simp only [hc]) <;> (try simp only [bools] at hc) <;> (try (have hb : @Eq Bool _ _ := hc; simp only [hb]; clear hb))))
      exact ret1n (v := .bool false) (fun _ => ex_ret) rfl rfl rfl ⟨rfl, rfl, rfl⟩
  · rw [decide_eq_false (fun h : l.length ≤ 60 ∧ L.length ≤ 60 => h1 h.1)]
    refine call_eq fn_6 rfl ?_
    rw [k_start]
    simp only [Try.f6, st0, Nat.zero_add]
    repeat' (first | simp (maxSteps := 10000000) (disch := omega) only [go_sem, Nat.reduceAdd, Nat.reduceSub, Nat.reduceMul, Nat.reduceLT, Nat.reduceLeDiff, Nat.reduceEqDiff, Nat.reduceBEq, Nat.reduceBNe, reduceCtorEq, Int.reduceBNe, Int.reduceBEq, au, lst, if_pos, if_neg] | simp (disch := (simp only [lens]; omega)) only [str_add, if_pos, if_neg] | ((with_reducible first | refine WC_split ?_ ?_ | refine WS_split ?_ ?_ | refine WD_split ?_ ?_) <;> intro hc <;> (try simp only [hc]) <;> (try simp only [bools] at hc) <;> (try (have hb : @Eq Bool _ _ := hc; simp only [hb]; clear hb))))
    exact ret1n (v := .bool false) (fun _ => ex_ret) rfl rfl rfl ⟨rfl, rfl, rfl⟩
theorem row16_le (l : List Nat) (i : Nat) : (row16 l i).length ≤ 16 := by rw [row16, List.length_take]; omega
theorem kidsT_le (T : TV) (lv : Int) : ∀ L : List Int, (kidsT T lv L).length ≤ 16 * L.length
  | [] => Nat.le_refl _
  | n :: L => by
    have h1 := row16_le (lvlT T lv) n.toNat
    have h2 := kidsT_le T lv L
    have e : kidsT T lv (n :: L) = row16 (lvlT T lv) n.toNat ++ kidsT T lv L := rfl
    rw [e, List.length_append, List.length_cons]; omega
/-- What is told, its parts. -/
theorem ansR_is (T : TV) (lv : Int) (L : List Int) : ∃ (K : List Nat) (C : List CR), ansR T lv L = toldR lv L K C ∧ K.length ≤ 16 * L.length ∧ C.length ≤ L.length := by
  unfold ansR
  split
  · exact ⟨[], L.map (getT T), rfl, Nat.zero_le _, by rw [List.length_map]; exact Nat.le_refl _⟩
  · exact ⟨kidsT T lv L, [], rfl, kidsT_le T lv L, Nat.zero_le _⟩
theorem reach_a1 {hp : List Blk} {k : IntKind} {x : Int} {a : List (List V)} : reach hp [.agg [.int k x, .sl true a]] = [] := reach_pure rfl
theorem reach_a2 {hp : List Blk} {k : IntKind} {x : Int} {a b : List (List V)} : reach hp [.sl true b, .agg [.int k x, .sl true a]] = [] := reach_pure rfl
theorem reach_a3 {hp : List Blk} {k : IntKind} {x : Int} {a b c : List (List V)} : reach hp [.agg [.int k x, .sl true a, .sl true b, .sl true c]] = [] := reach_pure rfl
theorem reach_a4 {hp : List Blk} {k k2 : IntKind} {x x2 : Int} {a b c a2 b2 c2 : List (List V)} : reach hp [.agg [.int k x, .sl true a, .sl true b, .sl true c], .agg [.int k2 x2, .sl true a2, .sl true b2, .sl true c2]] = [] := reach_pure rfl
theorem reach_a0 {hp : List Blk} : reach hp [] = [] := reach_pure rfl
set_option maxHeartbeats 32000000 in
theorem answers_of (T : TV) (hT : T.Ok) (l : List PR) (lv : Int) (L : List Int) (hl : l.length ≤ 60) (hL : L.length ≤ 60)
    (cn : (Lim cfg).call 8 [.sl true (l.map prow)] [] = some (.tup [.ptr 0 0, .int .i64 0], false, [treeB T]))
    (cr : (Lim cfg).call 10 [.sl true (l.map prow), .agg (askR lv L)] [] = some (if askOk lv L = true then .tup [.agg (ansR T lv L), .int .i64 0] else .tup [.agg (toldR 0 [] [] []), .int .i64 1], false, [])) :
    (Lim cfg).call 3 [.sl true (l.map prow), .agg (askR lv L)] [] = some (.bool true, false, []) := by
  have caw := call_7
  have c1 := few_ask l lv L
  rw [decide_eq_true (show l.length ≤ 60 ∧ L.length ≤ 60 from ⟨hl, hL⟩)] at c1
  have ca := call_9 hT lv L (by omega)
  have r1 := call_11 l (by omega)
  have r2 := call_12 lv L
  obtain ⟨K, C, hans, hK, hC⟩ := ansR_is T lv L
  rw [hans] at ca cr
  cases h1 : askOk lv L with
  | true =>
    rw [h1, if_pos rfl] at ca cr
    have r3 := call_14 lv L K C (by omega)
    have r4 := same_self lv L K C (by omega) (by omega) (by omega)
    simp only [askR, toldR] at ca cr r2 r3 r4
    refine call_eq fn_3 rfl ?_
    rw [k_start]
    simp only [Try.f3, st0, Nat.zero_add]
    repeat' (first | simp (maxSteps := 10000000) (disch := omega) only [go_sem, Nat.reduceAdd, Nat.reduceSub, Nat.reduceMul, Nat.reduceLT, Nat.reduceLeDiff, Nat.reduceEqDiff, Nat.reduceBEq, Nat.reduceBNe, reduceCtorEq, Int.reduceBNe, Int.reduceBEq, au, lst, if_pos, if_neg, c1, askR, cn, treeC_ren] | simp (disch := (simp only [lens]; omega)) only [str_add, if_pos, if_neg] | simp only [go_sem, Nat.reduceAdd, Nat.reduceSub, Nat.reduceMul, Nat.reduceLT, Nat.reduceLeDiff, Nat.reduceEqDiff, Nat.reduceBEq, Nat.reduceBNe, reduceCtorEq, Int.reduceBNe, Int.reduceBEq, blt0, c1, askR, cn, treeC_ren] | ((with_reducible first | refine WC_split ?_ ?_ | refine WS_split ?_ ?_ | refine WD_split ?_ ?_) <;> intro hc <;> (try simp only [hc]) <;> (try simp only [bools] at hc) <;> (try (have hb : @Eq Bool _ _ := hc; simp only [hb]; clear hb))))
    rw [callHeap_at (R := [1]) ca (hR := w_tree rfl) (hc := w_closed rfl) (hs := w_sub)]
    repeat' (first | simp (maxSteps := 10000000) (disch := omega) only [go_sem, Nat.reduceAdd, Nat.reduceSub, Nat.reduceMul, Nat.reduceLT, Nat.reduceLeDiff, Nat.reduceEqDiff, Nat.reduceBEq, Nat.reduceBNe, reduceCtorEq, Int.reduceBNe, Int.reduceBEq, au, lst, if_pos, if_neg, treeC_ren, r1, r2, cr, r3, r4, caw, reach_a0, reach_a1, reach_a2, reach_a3, reach_a4] | simp (disch := (simp only [lens]; omega)) only [str_add, if_pos, if_neg] | simp only [go_sem, Nat.reduceAdd, Nat.reduceSub, Nat.reduceMul, Nat.reduceLT, Nat.reduceLeDiff, Nat.reduceEqDiff, Nat.reduceBEq, Nat.reduceBNe, reduceCtorEq, Int.reduceBNe, Int.reduceBEq, blt0, treeC_ren, r1, r2, cr, r3, r4, caw, reach_a0, reach_a1, reach_a2, reach_a3, reach_a4] | ((with_reducible first | refine WC_split ?_ ?_ | refine WS_split ?_ ?_ | refine WD_split ?_ ?_) <;> intro hc <;> (try simp only [hc]) <;> (try simp only [bools] at hc) <;> (try (have hb : @Eq Bool _ _ := hc; simp only [hb]; clear hb))))
    exact ret1n (v := .bool true) (fun _ => ex_ret) rfl rfl rfl ⟨rfl, rfl, rfl⟩
  | false =>
    rw [h1, if_neg (by simp)] at ca cr
    have r3 := call_14 0 [] [] [] (by simp)
    have r4 := same_self 0 [] [] [] (by simp) (by simp) (by simp)
    simp only [askR, toldR, List.map_nil] at ca cr r2 r3 r4
    refine call_eq fn_3 rfl ?_
    rw [k_start]
    simp only [Try.f3, st0, Nat.zero_add]
    repeat' (first | simp (maxSteps := 10000000) (disch := omega) only [go_sem, Nat.reduceAdd, Nat.reduceSub, Nat.reduceMul, Nat.reduceLT, Nat.reduceLeDiff, Nat.reduceEqDiff, Nat.reduceBEq, Nat.reduceBNe, reduceCtorEq, Int.reduceBNe, Int.reduceBEq, au, lst, if_pos, if_neg, c1, askR, cn, treeC_ren] | simp (disch := (simp only [lens]; omega)) only [str_add, if_pos, if_neg] | simp only [go_sem, Nat.reduceAdd, Nat.reduceSub, Nat.reduceMul, Nat.reduceLT, Nat.reduceLeDiff, Nat.reduceEqDiff, Nat.reduceBEq, Nat.reduceBNe, reduceCtorEq, Int.reduceBNe, Int.reduceBEq, blt0, c1, askR, cn, treeC_ren] | ((with_reducible first | refine WC_split ?_ ?_ | refine WS_split ?_ ?_ | refine WD_split ?_ ?_) <;> intro hc <;> (try simp only [hc]) <;> (try simp only [bools] at hc) <;> (try (have hb : @Eq Bool _ _ := hc; simp only [hb]; clear hb))))
    rw [callHeap_at (R := [1]) ca (hR := w_tree rfl) (hc := w_closed rfl) (hs := w_sub)]
    repeat' (first | simp (maxSteps := 10000000) (disch := omega) only [go_sem, Nat.reduceAdd, Nat.reduceSub, Nat.reduceMul, Nat.reduceLT, Nat.reduceLeDiff, Nat.reduceEqDiff, Nat.reduceBEq, Nat.reduceBNe, reduceCtorEq, Int.reduceBNe, Int.reduceBEq, au, lst, if_pos, if_neg, treeC_ren, r1, r2, cr, r3, r4, caw, reach_a0, reach_a1, reach_a2, reach_a3, reach_a4] | simp (disch := (simp only [lens]; omega)) only [str_add, if_pos, if_neg] | simp only [go_sem, Nat.reduceAdd, Nat.reduceSub, Nat.reduceMul, Nat.reduceLT, Nat.reduceLeDiff, Nat.reduceEqDiff, Nat.reduceBEq, Nat.reduceBNe, reduceCtorEq, Int.reduceBNe, Int.reduceBEq, blt0, treeC_ren, r1, r2, cr, r3, r4, caw, reach_a0, reach_a1, reach_a2, reach_a3, reach_a4] | ((with_reducible first | refine WC_split ?_ ?_ | refine WS_split ?_ ?_ | refine WD_split ?_ ?_) <;> intro hc <;> (try simp only [hc]) <;> (try simp only [bools] at hc) <;> (try (have hb : @Eq Bool _ _ := hc; simp only [hb]; clear hb))))
    exact ret1n (v := .bool true) (fun _ => ex_ret) rfl rfl rfl ⟨rfl, rfl, rfl⟩
set_option maxHeartbeats 8000000 in
theorem law_MendAnswers (l : List PR) (lv : Int) (L : List Int) : (Lim cfg).call 3 [.sl true (l.map prow), .agg (askR lv L)] [] = some (.bool true, false, []) := by
  by_cases hf : l.length ≤ 60 ∧ L.length ≤ 60
  · cases h1 : chk l with
    | true => exact answers_of (newT l) (new_Ok l) l lv L hf.1 hf.2 (call_8 l (by omega) h1) (call_10 l lv L (by omega) (by omega) h1)
    | false =>
      have caw := call_7
      have c1 := few_ask l lv L
      rw [decide_eq_true hf] at c1
      have c2 := new_bad l (by omega) h1
      have c3 := answer_nil lv L
      simp only [askR, toldR, List.map_nil] at c3
      refine call_eq fn_3 rfl ?_
      rw [k_start]
      simp only [Try.f3, st0, Nat.zero_add]
      repeat' (first | simp (maxSteps := 10000000) (disch := omega) only [go_sem, Nat.reduceAdd, Nat.reduceSub, Nat.reduceMul, Nat.reduceLT, Nat.reduceLeDiff, Nat.reduceEqDiff, Nat.reduceBEq, Nat.reduceBNe, reduceCtorEq, Int.reduceBNe, Int.reduceBEq, au, lst, if_pos, if_neg, c1, askR, c2, c3, caw] | simp (disch := (simp only [lens]; omega)) only [str_add, if_pos, if_neg] | simp only [go_sem, Nat.reduceAdd, Nat.reduceSub, Nat.reduceMul, Nat.reduceLT, Nat.reduceLeDiff, Nat.reduceEqDiff, Nat.reduceBEq, Nat.reduceBNe, reduceCtorEq, Int.reduceBNe, Int.reduceBEq, blt0, c1, askR, c2, c3, caw] | ((with_reducible first | refine WC_split ?_ ?_ | refine WS_split ?_ ?_ | refine WD_split ?_ ?_) <;> intro hc <;> (try simp only [hc]) <;> (try simp only [bools] at hc) <;> (try (have hb : @Eq Bool _ _ := hc; simp only [hb]; clear hb))))
      exact ret1n (v := .bool true) (fun _ => ex_ret) rfl rfl rfl ⟨rfl, rfl, rfl⟩
  · have caw := call_7
    have c1 := few_ask l lv L
    rw [decide_eq_false hf] at c1
    refine call_eq fn_3 rfl ?_
    rw [k_start]
    simp only [Try.f3, st0, Nat.zero_add]
    repeat' (first | simp (maxSteps := 10000000) (disch := omega) only [go_sem, Nat.reduceAdd, Nat.reduceSub, Nat.reduceMul, Nat.reduceLT, Nat.reduceLeDiff, Nat.reduceEqDiff, Nat.reduceBEq, Nat.reduceBNe, reduceCtorEq, Int.reduceBNe, Int.reduceBEq, au, lst, if_pos, if_neg, c1, askR, caw] | simp (disch := (simp only [lens]; omega)) only [str_add, if_pos, if_neg] | simp only [go_sem, Nat.reduceAdd, Nat.reduceSub, Nat.reduceMul, Nat.reduceLT, Nat.reduceLeDiff, Nat.reduceEqDiff, Nat.reduceBEq, Nat.reduceBNe, reduceCtorEq, Int.reduceBNe, Int.reduceBEq, blt0, c1, askR, caw] | ((with_reducible first | refine WC_split ?_ ?_ | refine WS_split ?_ ?_ | refine WD_split ?_ ?_) <;> intro hc <;> (try simp only [hc]) <;> (try simp only [bools] at hc) <;> (try (have hb : @Eq Bool _ _ := hc; simp only [hb]; clear hb))))
    exact ret1n (v := .bool true) (fun _ => ex_ret) rfl rfl rfl ⟨rfl, rfl, rfl⟩
end Go.Proofs.Ythikboobkmfgfaa
