/- What is told of a tree; a mender: the program's answers. -/
import Derived.Test.YthikboobkmfgfaaM10
set_option linter.all false
set_option maxRecDepth 100000
namespace Go.Proofs.Ythikboobkmfgfaa
open Go Go.Abs

/-- What is told of a tree to an ask that may be. -/
def ansR (T : TV) (lv : Int) (L : List Int) : List V := if lv = -1 then toldR lv L [] (L.map (getT T)) else toldR lv L (kidsT T lv L) []
theorem answer_nil (lv : Int) (L : List Int) : (Lim cfg).call 9 [.nilp, .agg (askR lv L)] [] = some (.tup [.agg (toldR 0 [] [] []), .int .i64 1], false, []) := by
  refine call_eq fn_9 rfl ?_
  rw [k_start]
  simp only [Try.f9, st0, Nat.zero_add]
  repeat' (first | simp (maxSteps := 10000000) (disch := omega) only [go_sem, Nat.reduceAdd, Nat.reduceSub, Nat.reduceMul, Nat.reduceLT, Nat.reduceLeDiff, Nat.reduceEqDiff, Nat.reduceBEq, Nat.reduceBNe, reduceCtorEq, Int.reduceBNe, Int.reduceBEq, au, lst, if_pos, if_neg, askR] | simp (disch := (simp only [lens]; omega)) only [str_add, if_pos, if_neg] | ((with_reducible first | refine WC_split ?_ ?_ | refine WS_split ?_ ?_ | refine WD_split ?_ ?_) <;> intro hc <;> (try simp only [hc]) <;> (try simp only [bools] at hc) <;> (try (have hb : @Eq Bool _ _ := hc; simp only [hb]; clear hb))))
  exact retM (fun _ => ex_ret) rfl rfl ⟨rfl, rfl, rfl⟩
theorem a_reach {T : TV} {b c : Blk} {xs : List (List V)} : reach [treeB T, b, c] [.ptr 0 0, .sl true xs] = [0] := by
  have e : reachGo [treeB T, b, c] 3 [0] = [0] := by
    unfold reachGo
    show (if (V.idsl [0] (treeC T)).length = [0].length then [0] else reachGo _ 2 (V.idsl [0] (treeC T))) = [0]
    rw [treeC_ids]; rfl
  show (List.range 3).filter (fun i => (reachGo [treeB T, b, c] 3 [0]).contains i) = [0]
  rw [e]; rfl
theorem a_closed {T : TV} {b c : Blk} {xs : List (List V)} : closedIn [treeB T, b, c] [0] [.ptr 0 0, .sl true xs] = true := by
  show (true && ((true && V.alll (fun i => [0].contains i) (treeC T)) && true)) = true
  rw [treeC_all]; rfl
theorem a_sub {T : TV} {b c : Blk} : subHp [treeB T, b, c] [0] = [treeB T] := by
  show [Blk.cells 131 [] (V.renl (fun i => [0].idxOf i) (treeC T))] = _
  rw [treeC_ren]
theorem a_reach2 {T : TV} {b c : Blk} {lv : Int} {L : List Int} : reach [treeB T, b, c] [.ptr 0 0, .agg (askR lv L)] = [0] := a_reach (T := T) (b := b) (c := c) (xs := [])
theorem a_closed2 {T : TV} {b c : Blk} {lv : Int} {L : List Int} : closedIn [treeB T, b, c] [0] [.ptr 0 0, .agg (askR lv L)] = true := a_closed (T := T) (b := b) (c := c) (xs := [])
set_option maxHeartbeats 8000000 in
theorem call_9 {T : TV} (h : T.Ok) (lv : Int) (L : List Int) (hlen : L.length ≤ 100000) : (Lim cfg).call 9 [.ptr 0 0, .agg (askR lv L)] [treeB T] =
    some (if askOk lv L = true then .tup [.agg (ansR T lv L), .int .i64 0] else .tup [.agg (toldR 0 [] [] []), .int .i64 1], false, [treeB T]) := by
  have c1 := call_31 lv L hlen
  have c2 := call_32 lv L hlen
  simp only [askR] at c1 c2
  cases h1 : askOk lv L with
  | false =>
    rw [h1] at c1
    rw [if_neg (by simp)]
    refine call_eq fn_9 rfl ?_
    rw [k_start]
    simp only [Try.f9, st0, Nat.zero_add]
    repeat' (first | simp (maxSteps := 10000000) (disch := omega) only [go_sem, Nat.reduceAdd, Nat.reduceSub, Nat.reduceMul, Nat.reduceLT, Nat.reduceLeDiff, Nat.reduceEqDiff, Nat.reduceBEq, Nat.reduceBNe, reduceCtorEq, Int.reduceBNe, Int.reduceBEq, au, lst, if_pos, if_neg, askR, c1] | simp (disch := (simp only [lens]; omega)) only [str_add, if_pos, if_neg] | simp only [go_sem, Nat.reduceAdd, Nat.reduceSub, Nat.reduceMul, Nat.reduceLT, Nat.reduceLeDiff, Nat.reduceEqDiff, Nat.reduceBEq, Nat.reduceBNe, reduceCtorEq, Int.reduceBNe, Int.reduceBEq, blt0, askR, c1] | ((with_reducible first | refine WC_split ?_ ?_ | refine WS_split ?_ ?_ | refine WD_split ?_ ?_) <;> intro hc <;> (try simp only [hc]) <;> (try simp only [bools] at hc) <;> (try (have hb : @Eq Bool _ _ := hc; simp only [hb]; clear hb))))
    exact retK (v := .tup [.agg (toldR 0 [] [] []), .int .i64 1]) (own := false) (fun _ => ex_ret) rfl rfl t_keep ⟨rfl, rfl, rfl⟩
  | true =>
    rw [h1] at c1
    rw [if_pos rfl]
    obtain ⟨k1, k2, k3, k4⟩ := askOk_inv h1
    unfold ansR
    by_cases h2 : lv = -1
    · rw [if_pos h2]
      subst h2
      have c3 := call_33 h L hlen
      generalize L.map (getT T) = C at c3 ⊢
      refine call_eq fn_9 rfl ?_
      rw [k_start]
      simp only [Try.f9, st0, Nat.zero_add]
      repeat' (first | simp (maxSteps := 10000000) (disch := omega) only [go_sem, Nat.reduceAdd, Nat.reduceSub, Nat.reduceMul, Nat.reduceLT, Nat.reduceLeDiff, Nat.reduceEqDiff, Nat.reduceBEq, Nat.reduceBNe, reduceCtorEq, Int.reduceBNe, Int.reduceBEq, au, lst, if_pos, if_neg, askR, c1, c2] | simp (disch := (simp only [lens]; omega)) only [str_add, if_pos, if_neg] | simp only [go_sem, Nat.reduceAdd, Nat.reduceSub, Nat.reduceMul, Nat.reduceLT, Nat.reduceLeDiff, Nat.reduceEqDiff, Nat.reduceBEq, Nat.reduceBNe, reduceCtorEq, Int.reduceBNe, Int.reduceBEq, blt0, askR, c1, c2] | ((with_reducible first | refine WC_split ?_ ?_ | refine WS_split ?_ ?_ | refine WD_split ?_ ?_) <;> intro hc <;> (try simp only [hc]) <;> (try simp only [bools] at hc) <;> (try (have hb : @Eq Bool _ _ := hc; simp only [hb]; clear hb))))
      rw [callHeap_at (R := [0]) c3 (hR := a_reach) (hc := a_closed) (hs := a_sub)]
      repeat' (first | simp (maxSteps := 10000000) (disch := omega) only [go_sem, Nat.reduceAdd, Nat.reduceSub, Nat.reduceMul, Nat.reduceLT, Nat.reduceLeDiff, Nat.reduceEqDiff, Nat.reduceBEq, Nat.reduceBNe, reduceCtorEq, Int.reduceBNe, Int.reduceBEq, au, lst, if_pos, if_neg, treeC_ren] | simp (disch := (simp only [lens]; omega)) only [str_add, if_pos, if_neg] | simp only [go_sem, Nat.reduceAdd, Nat.reduceSub, Nat.reduceMul, Nat.reduceLT, Nat.reduceLeDiff, Nat.reduceEqDiff, Nat.reduceBEq, Nat.reduceBNe, reduceCtorEq, Int.reduceBNe, Int.reduceBEq, blt0, treeC_ren] | ((with_reducible first | refine WC_split ?_ ?_ | refine WS_split ?_ ?_ | refine WD_split ?_ ?_) <;> intro hc <;> (try simp only [hc]) <;> (try simp only [bools] at hc) <;> (try (have hb : @Eq Bool _ _ := hc; simp only [hb]; clear hb))))
      exact retK (v := .tup [.agg (toldR (-1) L [] C), .int .i64 0]) (own := false) (fun _ => ex_ret) rfl rfl t_keep ⟨rfl, rfl, rfl⟩
    · rw [if_neg h2]
      have c3 := call_34 h (lv := lv) (L := L) (by omega) k2 k4 hlen
      generalize kidsT T lv L = K at c3 ⊢
      refine call_eq fn_9 rfl ?_
      rw [k_start]
      simp only [Try.f9, st0, Nat.zero_add]
      repeat' (first | simp (maxSteps := 10000000) (disch := omega) only [go_sem, Nat.reduceAdd, Nat.reduceSub, Nat.reduceMul, Nat.reduceLT, Nat.reduceLeDiff, Nat.reduceEqDiff, Nat.reduceBEq, Nat.reduceBNe, reduceCtorEq, Int.reduceBNe, Int.reduceBEq, au, lst, if_pos, if_neg, askR, c1, c2] | simp (disch := (simp only [lens]; omega)) only [str_add, if_pos, if_neg] | simp only [go_sem, Nat.reduceAdd, Nat.reduceSub, Nat.reduceMul, Nat.reduceLT, Nat.reduceLeDiff, Nat.reduceEqDiff, Nat.reduceBEq, Nat.reduceBNe, reduceCtorEq, Int.reduceBNe, Int.reduceBEq, blt0, askR, c1, c2] | ((with_reducible first | refine WC_split ?_ ?_ | refine WS_split ?_ ?_ | refine WD_split ?_ ?_) <;> intro hc <;> (try simp only [hc]) <;> (try simp only [bools] at hc) <;> (try (have hb : @Eq Bool _ _ := hc; simp only [hb]; clear hb))))
      rw [callHeap_at (R := [0]) c3 (hR := a_reach2) (hc := a_closed2) (hs := a_sub)]
      repeat' (first | simp (maxSteps := 10000000) (disch := omega) only [go_sem, Nat.reduceAdd, Nat.reduceSub, Nat.reduceMul, Nat.reduceLT, Nat.reduceLeDiff, Nat.reduceEqDiff, Nat.reduceBEq, Nat.reduceBNe, reduceCtorEq, Int.reduceBNe, Int.reduceBEq, au, lst, if_pos, if_neg, treeC_ren] | simp (disch := (simp only [lens]; omega)) only [str_add, if_pos, if_neg] | simp only [go_sem, Nat.reduceAdd, Nat.reduceSub, Nat.reduceMul, Nat.reduceLT, Nat.reduceLeDiff, Nat.reduceEqDiff, Nat.reduceBEq, Nat.reduceBNe, reduceCtorEq, Int.reduceBNe, Int.reduceBEq, blt0, treeC_ren] | ((with_reducible first | refine WC_split ?_ ?_ | refine WS_split ?_ ?_ | refine WD_split ?_ ?_) <;> intro hc <;> (try simp only [hc]) <;> (try simp only [bools] at hc) <;> (try (have hb : @Eq Bool _ _ := hc; simp only [hb]; clear hb))))
      exact retK (v := .tup [.agg (toldR lv L K []), .int .i64 0]) (own := false) (fun _ => ex_ret) rfl rfl t_keep ⟨rfl, rfl, rfl⟩
/-- A mender: its tree, its ask, its turns, whether it is over. -/
abbrev menB (lv : Int) (L : List Int) (l : List TR) (ov : Bool) : Blk := .cells 121 [3] [.ptr 0 0, .int .i64 lv, .sl true (L.map irow), .sl true (l.map trow), .bool ov]
theorem call_24 (l : List PR) (hlen : l.length ≤ 100000) (h1 : chk l = true) : (Lim cfg).call 24 [.sl true (l.map prow)] [] = some (.tup [.ptr 1 0, .int .i64 0], false, [treeB (newT l), menB 2 [0] [] false]) := by
  have c1 := call_8 l hlen h1
  generalize newT l = T at c1 ⊢
  refine call_eq fn_24 rfl ?_
  rw [k_start]
  simp only [Try.f24, st0, Nat.zero_add]
  repeat' (first | simp (maxSteps := 10000000) (disch := omega) only [go_sem, Nat.reduceAdd, Nat.reduceSub, Nat.reduceMul, Nat.reduceLT, Nat.reduceLeDiff, Nat.reduceEqDiff, Nat.reduceBEq, Nat.reduceBNe, reduceCtorEq, Int.reduceBNe, Int.reduceBEq, au, lst, if_pos, if_neg, c1, treeC_ren] | simp (disch := (simp only [lens]; omega)) only [str_add, if_pos, if_neg] | ((with_reducible first | refine WC_split ?_ ?_ | refine WS_split ?_ ?_ | refine WD_split ?_ ?_) <;> intro hc <;> (try simp only [hc]) <;> (try simp only [bools] at hc) <;> (try (have hb : @Eq Bool _ _ := hc; simp only [hb]; clear hb))))
  exact retH (v := .tup [.ptr 1 0, .int .i64 0]) (own := false) (fun _ => ex_ret) rfl rfl ⟨rfl, rfl, rfl⟩
theorem mnew_bad (l : List PR) (hlen : l.length ≤ 100000) (h1 : chk l = false) : (Lim cfg).call 24 [.sl true (l.map prow)] [] = some (.tup [.nilp, .int .i64 1], false, []) := by
  have c1 := new_bad l hlen h1
  refine call_eq fn_24 rfl ?_
  rw [k_start]
  simp only [Try.f24, st0, Nat.zero_add]
  repeat' (first | simp (maxSteps := 10000000) (disch := omega) only [go_sem, Nat.reduceAdd, Nat.reduceSub, Nat.reduceMul, Nat.reduceLT, Nat.reduceLeDiff, Nat.reduceEqDiff, Nat.reduceBEq, Nat.reduceBNe, reduceCtorEq, Int.reduceBNe, Int.reduceBEq, au, lst, if_pos, if_neg, c1] | simp (disch := (simp only [lens]; omega)) only [str_add, if_pos, if_neg] | ((with_reducible first | refine WC_split ?_ ?_ | refine WS_split ?_ ?_ | refine WD_split ?_ ?_) <;> intro hc <;> (try simp only [hc]) <;> (try simp only [bools] at hc) <;> (try (have hb : @Eq Bool _ _ := hc; simp only [hb]; clear hb))))
  exact ret2 (fun _ => ex_ret) rfl rfl rfl rfl ⟨rfl, rfl, rfl⟩
/-- Two blocks that are kept. -/
theorem m_keep {T : TV} {lv : Int} {L : List Int} {l : List TR} {ov : Bool} {r : List Blk} : ((treeB T :: menB lv L l ov :: r).take 2).all (Blk.all fun i => Nat.blt i 2) = true := by
  show (V.alll _ (treeC T) && (true && true)) = true
  rw [treeC_all]; rfl
theorem ask_nil : (Lim cfg).call 25 [.nilp] [] = some (.tup [.agg (askR 0 []), .bool false], false, []) := by
  refine call_eq fn_25 rfl ?_
  rw [k_start]
  simp only [Try.f25, st0, Nat.zero_add]
  repeat' (first | simp (maxSteps := 10000000) (disch := omega) only [go_sem, Nat.reduceAdd, Nat.reduceSub, Nat.reduceMul, Nat.reduceLT, Nat.reduceLeDiff, Nat.reduceEqDiff, Nat.reduceBEq, Nat.reduceBNe, reduceCtorEq, Int.reduceBNe, Int.reduceBEq, au, lst, if_pos, if_neg] | simp (disch := (simp only [lens]; omega)) only [str_add, if_pos, if_neg] | ((with_reducible first | refine WC_split ?_ ?_ | refine WS_split ?_ ?_ | refine WD_split ?_ ?_) <;> intro hc <;> (try simp only [hc]) <;> (try simp only [bools] at hc) <;> (try (have hb : @Eq Bool _ _ := hc; simp only [hb]; clear hb))))
  exact retM (fun _ => ex_ret) rfl rfl ⟨rfl, rfl, rfl⟩
set_option maxHeartbeats 4000000 in
theorem call_25 {T : TV} {lv : Int} {L : List Int} {l : List TR} {ov : Bool} (hlen : L.length ≤ 100000) : (Lim cfg).call 25 [.ptr 1 0] [treeB T, menB lv L l ov] =
    some (if ov = true then .tup [.agg (askR 0 []), .bool false] else .tup [.agg (askR lv L), .bool true], false, [treeB T, menB lv L l ov]) := by
  have c2 := call_32 lv L hlen
  simp only [askR] at c2
  cases ov with
  | true =>
    rw [if_pos rfl]
    refine call_eq fn_25 rfl ?_
    rw [k_start]
    simp only [Try.f25, st0, Nat.zero_add]
    repeat' (first | simp (maxSteps := 10000000) (disch := omega) only [go_sem, Nat.reduceAdd, Nat.reduceSub, Nat.reduceMul, Nat.reduceLT, Nat.reduceLeDiff, Nat.reduceEqDiff, Nat.reduceBEq, Nat.reduceBNe, reduceCtorEq, Int.reduceBNe, Int.reduceBEq, au, lst, if_pos, if_neg] | simp (disch := (simp only [lens]; omega)) only [str_add, if_pos, if_neg] | ((with_reducible first | refine WC_split ?_ ?_ | refine WS_split ?_ ?_ | refine WD_split ?_ ?_) <;> intro hc <;> (try simp only [hc]) <;> (try simp only [bools] at hc) <;> (try (have hb : @Eq Bool _ _ := hc; simp only [hb]; clear hb))))
    exact retK (v := .tup [.agg (askR 0 []), .bool false]) (own := false) (fun _ => ex_ret) rfl rfl m_keep ⟨rfl, rfl, rfl⟩
  | false =>
    rw [if_neg (by simp)]
    refine call_eq fn_25 rfl ?_
    rw [k_start]
    simp only [Try.f25, st0, Nat.zero_add]
    repeat' (first | simp (maxSteps := 10000000) (disch := omega) only [go_sem, Nat.reduceAdd, Nat.reduceSub, Nat.reduceMul, Nat.reduceLT, Nat.reduceLeDiff, Nat.reduceEqDiff, Nat.reduceBEq, Nat.reduceBNe, reduceCtorEq, Int.reduceBNe, Int.reduceBEq, au, lst, if_pos, if_neg, c2] | simp (disch := (simp only [lens]; omega)) only [str_add, if_pos, if_neg] | ((with_reducible first | refine WC_split ?_ ?_ | refine WS_split ?_ ?_ | refine WD_split ?_ ?_) <;> intro hc <;> (try simp only [hc]) <;> (try simp only [bools] at hc) <;> (try (have hb : @Eq Bool _ _ := hc; simp only [hb]; clear hb))))
    exact retK (v := .tup [.agg (askR lv L), .bool true]) (own := false) (fun _ => ex_ret) rfl rfl m_keep ⟨rfl, rfl, rfl⟩
theorem turns_nil : (Lim cfg).call 27 [.nilp] [] = some (.tup [.sl true [], .bool false], false, []) := by
  refine call_eq fn_27 rfl ?_
  rw [k_start]
  simp only [Try.f27, st0, Nat.zero_add]
  repeat' (first | simp (maxSteps := 10000000) (disch := omega) only [go_sem, Nat.reduceAdd, Nat.reduceSub, Nat.reduceMul, Nat.reduceLT, Nat.reduceLeDiff, Nat.reduceEqDiff, Nat.reduceBEq, Nat.reduceBNe, reduceCtorEq, Int.reduceBNe, Int.reduceBEq, au, lst, if_pos, if_neg] | simp (disch := (simp only [lens]; omega)) only [str_add, if_pos, if_neg] | ((with_reducible first | refine WC_split ?_ ?_ | refine WS_split ?_ ?_ | refine WD_split ?_ ?_) <;> intro hc <;> (try simp only [hc]) <;> (try simp only [bools] at hc) <;> (try (have hb : @Eq Bool _ _ := hc; simp only [hb]; clear hb))))
  exact ret2 (fun _ => ex_ret) rfl rfl rfl rfl ⟨rfl, rfl, rfl⟩
set_option maxHeartbeats 4000000 in
theorem call_27 {T : TV} {lv : Int} {L : List Int} {l : List TR} {ov : Bool} (hlen : l.length ≤ 100000) : (Lim cfg).call 27 [.ptr 1 0] [treeB T, menB lv L l ov] =
    some (if ov = true ∧ chkT l = true then .tup [.sl true (l.map trow), .bool true] else .tup [.sl true [], .bool false], false, [treeB T, menB lv L l ov]) := by
  have c1 := call_65 l hlen
  have c2 : (Lim cfg).call 66 [.sl true (l.map trow)] [] = some (.sl ((l.map trow).isEmpty || true) (l.map trow), true, []) :=
    call_cln fn_66 cln_66 (by rw [ty_70]; rfl) ty_76 (by simp) (by unfold strMax; rw [List.length_map]; simp only; omega) (fit_trow l) (.inr (head_trow l))
  rw [Bool.or_true] at c2
  cases ov with
  | false =>
    rw [if_neg (by simp)]
    refine call_eq fn_27 rfl ?_
    rw [k_start]
    simp only [Try.f27, st0, Nat.zero_add]
    repeat' (first | simp (maxSteps := 10000000) (disch := omega) only [go_sem, Nat.reduceAdd, Nat.reduceSub, Nat.reduceMul, Nat.reduceLT, Nat.reduceLeDiff, Nat.reduceEqDiff, Nat.reduceBEq, Nat.reduceBNe, reduceCtorEq, Int.reduceBNe, Int.reduceBEq, au, lst, if_pos, if_neg] | simp (disch := (simp only [lens]; omega)) only [str_add, if_pos, if_neg] | ((with_reducible first | refine WC_split ?_ ?_ | refine WS_split ?_ ?_ | refine WD_split ?_ ?_) <;> intro hc <;> (try simp only [hc]) <;> (try simp only [bools] at hc) <;> (try (have hb : @Eq Bool _ _ := hc; simp only [hb]; clear hb))))
    exact retK (v := .tup [.sl true [], .bool false]) (own := false) (fun _ => ex_ret) rfl rfl m_keep ⟨rfl, rfl, rfl⟩
  | true =>
    cases h1 : chkT l with
    | false =>
      rw [h1] at c1
      rw [if_neg (by simp)]
      refine call_eq fn_27 rfl ?_
      rw [k_start]
      simp only [Try.f27, st0, Nat.zero_add]
      repeat' (first | simp (maxSteps := 10000000) (disch := omega) only [go_sem, Nat.reduceAdd, Nat.reduceSub, Nat.reduceMul, Nat.reduceLT, Nat.reduceLeDiff, Nat.reduceEqDiff, Nat.reduceBEq, Nat.reduceBNe, reduceCtorEq, Int.reduceBNe, Int.reduceBEq, au, lst, if_pos, if_neg, c1] | simp (disch := (simp only [lens]; omega)) only [str_add, if_pos, if_neg] | ((with_reducible first | refine WC_split ?_ ?_ | refine WS_split ?_ ?_ | refine WD_split ?_ ?_) <;> intro hc <;> (try simp only [hc]) <;> (try simp only [bools] at hc) <;> (try (have hb : @Eq Bool _ _ := hc; simp only [hb]; clear hb))))
      exact retK (v := .tup [.sl true [], .bool false]) (own := false) (fun _ => ex_ret) rfl rfl m_keep ⟨rfl, rfl, rfl⟩
    | true =>
      rw [h1] at c1
      rw [if_pos ⟨rfl, rfl⟩]
      refine call_eq fn_27 rfl ?_
      rw [k_start]
      simp only [Try.f27, st0, Nat.zero_add]
      repeat' (first | simp (maxSteps := 10000000) (disch := omega) only [go_sem, Nat.reduceAdd, Nat.reduceSub, Nat.reduceMul, Nat.reduceLT, Nat.reduceLeDiff, Nat.reduceEqDiff, Nat.reduceBEq, Nat.reduceBNe, reduceCtorEq, Int.reduceBNe, Int.reduceBEq, au, lst, if_pos, if_neg, c1, c2] | simp (disch := (simp only [lens]; omega)) only [str_add, if_pos, if_neg] | ((with_reducible first | refine WC_split ?_ ?_ | refine WS_split ?_ ?_ | refine WD_split ?_ ?_) <;> intro hc <;> (try simp only [hc]) <;> (try simp only [bools] at hc) <;> (try (have hb : @Eq Bool _ _ := hc; simp only [hb]; clear hb))))
      exact retK (v := .tup [.sl true (l.map trow), .bool true]) (own := false) (fun _ => ex_ret) rfl rfl m_keep ⟨rfl, rfl, rfl⟩
end Go.Proofs.Ythikboobkmfgfaa
