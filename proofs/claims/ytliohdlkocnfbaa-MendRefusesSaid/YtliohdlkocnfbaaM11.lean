/- What is told of a tree; a mender: the program's answers. -/
import Derived.Test.YtliohdlkocnfbaaM10
set_option linter.all false
set_option maxRecDepth 100000
namespace Go.Proofs.Ytliohdlkocnfbaa
open Go Go.Abs

/-- What is told of a tree to an ask that may be. -/
def ansR (T : TV) (lv : Int) (L : List Int) : List V := if lv = -1 then toldR lv L [] (L.map (getT T)) else toldR lv L (kidsT T lv L) []
theorem answer_nil (lv : Int) (L : List Int) : (Lim cfg).call 11 [.nilp, .agg (askR lv L)] [] = some (.tup [.agg (toldR 0 [] [] []), .int .i64 1], false, []) := by
  refine call_eq fn_11 rfl ?_
  rw [k_start]
  simp only [Try.f11, List.length_cons, List.length_nil, Nat.zero_add, Nat.reduceSub, Nat.reduceAdd, List.replicate, List.cons_append, List.nil_append]
  repeat' (first | simp (maxSteps := 10000000) (disch := omega) only [go_sem, Nat.reduceAdd, Nat.reduceSub, Nat.reduceMul, Nat.reduceLT, Nat.reduceLeDiff, Nat.reduceEqDiff, Nat.reduceBEq, Nat.reduceBNe, reduceCtorEq, Int.reduceBNe, Int.reduceBEq, blt0, Int.reduceToNat, Int.toNat_zero, Int.toNat_one, if_pos, if_neg, wrap_i64, decide_eq_true, decide_eq_false, ibeq_t, ibeq_f, ibne_t, ibne_f, Int.toNat_natCast, tn_sub1, tn_add1, List.getElem?_map, gx, reach_i1, reach_i2, reach_s1, reach_si, reach_ss, askR] | simp (maxSteps := 10000000) (disch := (simp only [List.length_append, List.length_map, List.length_take, List.length_drop, List.length_cons, List.length_nil]; omega)) only [str_add, if_pos, if_neg] | simp only [go_sem, Nat.reduceAdd, Nat.reduceSub, Nat.reduceMul, Nat.reduceLT, Nat.reduceLeDiff, Nat.reduceEqDiff, Nat.reduceBEq, Nat.reduceBNe, reduceCtorEq, Int.reduceBNe, Int.reduceBEq, blt0, askR] | ((first | with_reducible refine WC_split (fun hc => ?_) (fun hc => ?_) | with_reducible refine WS_split (fun hc => ?_) (fun hc => ?_) | with_reducible refine WD_split (fun hc => ?_) (fun hc => ?_)) <;> (try simp only [hc]) <;> (try simp only [Bool.and_eq_true, Bool.or_eq_true, Bool.not_eq_true', Bool.not_eq_false', decide_eq_true_eq, decide_eq_false_iff_not, beq_iff_eq, beq_eq_false_iff_ne, bne_iff_ne, bne_eq_false_iff_eq, ne_eq] at hc) <;> (try (have hb : @Eq Bool _ _ := hc; simp only [hb]; clear hb))))
  exact retM (fun _ => ex_ret) rfl rfl ⟨rfl, rfl, rfl⟩
theorem a_reach {T : TV} {b c : Blk} {xs : List (List V)} : reach [treeB T, b, c] [.ptr 0 0, .sl true xs] = [0] := by
  have e : reachGo [treeB T, b, c] 3 [0] = [0] := by
    unfold reachGo
    show (if (V.idsl [0] (treeC T)).length = [0].length then [0] else reachGo _ 2 (V.idsl [0] (treeC T))) = [0]
    rw [treeC_ids]; rfl
  show (List.range 3).filter (fun i => (reachGo [treeB T, b, c] 3 [0]).contains i) = [0]
  rw [e]; rfl
theorem a_closed {T : TV} {b c : Blk} {xs : List (List V)} : closedIn [treeB T, b, c] [0] [.ptr 0 0, .sl true xs] = true := by
  show (true && ((true && V.alll (fun i => [0].contains i) (treeC T)) && true)) = true
  rw [treeC_all]; rfl
theorem a_sub {T : TV} {b c : Blk} : subHp [treeB T, b, c] [0] = [treeB T] := by
  show [Blk.cells 133 [] (V.renl (fun i => [0].idxOf i) (treeC T))] = _
  rw [treeC_ren]
theorem a_reach2 {T : TV} {b c : Blk} {lv : Int} {L : List Int} : reach [treeB T, b, c] [.ptr 0 0, .agg (askR lv L)] = [0] := a_reach (T := T) (b := b) (c := c) (xs := [])
theorem a_closed2 {T : TV} {b c : Blk} {lv : Int} {L : List Int} : closedIn [treeB T, b, c] [0] [.ptr 0 0, .agg (askR lv L)] = true := a_closed (T := T) (b := b) (c := c) (xs := [])
set_option maxHeartbeats 8000000 in
theorem call_11 {T : TV} (h : T.Ok) (lv : Int) (L : List Int) (hlen : L.length ≤ 100000) : (Lim cfg).call 11 [.ptr 0 0, .agg (askR lv L)] [treeB T] =
    some (if askOk lv L = true then .tup [.agg (ansR T lv L), .int .i64 0] else .tup [.agg (toldR 0 [] [] []), .int .i64 1], false, [treeB T]) := by
  have c1 := call_35 lv L hlen
  have c2 := call_36 lv L hlen
  simp only [askR] at c1 c2
  cases h1 : askOk lv L with
  | false =>
    rw [h1] at c1
    rw [if_neg (by simp)]
    refine call_eq fn_11 rfl ?_
    rw [k_start]
    simp only [Try.f11, List.length_cons, List.length_nil, Nat.zero_add, Nat.reduceSub, Nat.reduceAdd, List.replicate, List.cons_append, List.nil_append]
    repeat' (first | simp (maxSteps := 10000000) (disch := omega) only [go_sem, Nat.reduceAdd, Nat.reduceSub, Nat.reduceMul, Nat.reduceLT, Nat.reduceLeDiff, Nat.reduceEqDiff, Nat.reduceBEq, Nat.reduceBNe, reduceCtorEq, Int.reduceBNe, Int.reduceBEq, blt0, Int.reduceToNat, Int.toNat_zero, Int.toNat_one, if_pos, if_neg, wrap_i64, decide_eq_true, decide_eq_false, ibeq_t, ibeq_f, ibne_t, ibne_f, Int.toNat_natCast, tn_sub1, tn_add1, List.getElem?_map, gx, reach_i1, reach_i2, reach_s1, reach_si, reach_ss, askR, c1] | simp (maxSteps := 10000000) (disch := (simp only [List.length_append, List.length_map, List.length_take, List.length_drop, List.length_cons, List.length_nil]; omega)) only [str_add, if_pos, if_neg] | simp only [go_sem, Nat.reduceAdd, Nat.reduceSub, Nat.reduceMul, Nat.reduceLT, Nat.reduceLeDiff, Nat.reduceEqDiff, Nat.reduceBEq, Nat.reduceBNe, reduceCtorEq, Int.reduceBNe, Int.reduceBEq, blt0, askR, c1] | ((first | with_reducible refine WC_split (fun hc => ?_) (fun hc => ?_) | with_reducible refine WS_split (fun hc => ?_) (fun hc => ?_) | with_reducible refine WD_split (fun hc => ?_) (fun hc => ?_)) <;> (try simp only [hc]) <;> (try simp only [Bool.and_eq_true, Bool.or_eq_true, Bool.not_eq_true', Bool.not_eq_false', decide_eq_true_eq, decide_eq_false_iff_not, beq_iff_eq, beq_eq_false_iff_ne, bne_iff_ne, bne_eq_false_iff_eq, ne_eq] at hc) <;> (try (have hb : @Eq Bool _ _ := hc; simp only [hb]; clear hb))))
    exact retK (v := .tup [.agg (toldR 0 [] [] []), .int .i64 1]) (own := false) (fun _ => ex_ret) rfl rfl t_keep ⟨rfl, rfl, rfl⟩
  | true =>
    rw [h1] at c1
    rw [if_pos rfl]
    obtain ⟨k1, k2, k3, k4⟩ := askOk_inv h1
    unfold ansR
    by_cases h2 : lv = -1
    · rw [if_pos h2]
      subst h2
      have c3 := call_37 h L hlen
      generalize L.map (getT T) = C at c3 ⊢
      refine call_eq fn_11 rfl ?_
      rw [k_start]
      simp only [Try.f11, List.length_cons, List.length_nil, Nat.zero_add, Nat.reduceSub, Nat.reduceAdd, List.replicate, List.cons_append, List.nil_append]
      repeat' (first | simp (maxSteps := 10000000) (disch := omega) only [go_sem, Nat.reduceAdd, Nat.reduceSub, Nat.reduceMul, Nat.reduceLT, Nat.reduceLeDiff, Nat.reduceEqDiff, Nat.reduceBEq, Nat.reduceBNe, reduceCtorEq, Int.reduceBNe, Int.reduceBEq, blt0, Int.reduceToNat, Int.toNat_zero, Int.toNat_one, if_pos, if_neg, wrap_i64, decide_eq_true, decide_eq_false, ibeq_t, ibeq_f, ibne_t, ibne_f, Int.toNat_natCast, tn_sub1, tn_add1, List.getElem?_map, gx, reach_i1, reach_i2, reach_s1, reach_si, reach_ss, askR, c1, c2] | simp (maxSteps := 10000000) (disch := (simp only [List.length_append, List.length_map, List.length_take, List.length_drop, List.length_cons, List.length_nil]; omega)) only [str_add, if_pos, if_neg] | simp only [go_sem, Nat.reduceAdd, Nat.reduceSub, Nat.reduceMul, Nat.reduceLT, Nat.reduceLeDiff, Nat.reduceEqDiff, Nat.reduceBEq, Nat.reduceBNe, reduceCtorEq, Int.reduceBNe, Int.reduceBEq, blt0, askR, c1, c2] | ((first | with_reducible refine WC_split (fun hc => ?_) (fun hc => ?_) | with_reducible refine WS_split (fun hc => ?_) (fun hc => ?_) | with_reducible refine WD_split (fun hc => ?_) (fun hc => ?_)) <;> (try simp only [hc]) <;> (try simp only [Bool.and_eq_true, Bool.or_eq_true, Bool.not_eq_true', Bool.not_eq_false', decide_eq_true_eq, decide_eq_false_iff_not, beq_iff_eq, beq_eq_false_iff_ne, bne_iff_ne, bne_eq_false_iff_eq, ne_eq] at hc) <;> (try (have hb : @Eq Bool _ _ := hc; simp only [hb]; clear hb))))
      rw [callHeap_at (R := [0]) c3 (hR := a_reach) (hc := a_closed) (hs := a_sub)]
      repeat' (first | simp (maxSteps := 10000000) (disch := omega) only [go_sem, Nat.reduceAdd, Nat.reduceSub, Nat.reduceMul, Nat.reduceLT, Nat.reduceLeDiff, Nat.reduceEqDiff, Nat.reduceBEq, Nat.reduceBNe, reduceCtorEq, Int.reduceBNe, Int.reduceBEq, blt0, Int.reduceToNat, Int.toNat_zero, Int.toNat_one, if_pos, if_neg, wrap_i64, decide_eq_true, decide_eq_false, ibeq_t, ibeq_f, ibne_t, ibne_f, Int.toNat_natCast, tn_sub1, tn_add1, List.getElem?_map, gx, reach_i1, reach_i2, reach_s1, reach_si, reach_ss, treeC_ren] | simp (maxSteps := 10000000) (disch := (simp only [List.length_append, List.length_map, List.length_take, List.length_drop, List.length_cons, List.length_nil]; omega)) only [str_add, if_pos, if_neg] | simp only [go_sem, Nat.reduceAdd, Nat.reduceSub, Nat.reduceMul, Nat.reduceLT, Nat.reduceLeDiff, Nat.reduceEqDiff, Nat.reduceBEq, Nat.reduceBNe, reduceCtorEq, Int.reduceBNe, Int.reduceBEq, blt0, treeC_ren] | ((first | with_reducible refine WC_split (fun hc => ?_) (fun hc => ?_) | with_reducible refine WS_split (fun hc => ?_) (fun hc => ?_) | with_reducible refine WD_split (fun hc => ?_) (fun hc => ?_)) <;> (try simp only [hc]) <;> (try simp only [Bool.and_eq_true, Bool.or_eq_true, Bool.not_eq_true', Bool.not_eq_false', decide_eq_true_eq, decide_eq_false_iff_not, beq_iff_eq, beq_eq_false_iff_ne, bne_iff_ne, bne_eq_false_iff_eq, ne_eq] at hc) <;> (try (have hb : @Eq Bool _ _ := hc; simp only [hb]; clear hb))))
      exact retK (v := .tup [.agg (toldR (-1) L [] C), .int .i64 0]) (own := false) (fun _ => ex_ret) rfl rfl t_keep ⟨rfl, rfl, rfl⟩
    · rw [if_neg h2]
      have c3 := call_38 h (lv := lv) (L := L) (by omega) k2 k4 hlen
      generalize kidsT T lv L = K at c3 ⊢
      refine call_eq fn_11 rfl ?_
      rw [k_start]
      simp only [Try.f11, List.length_cons, List.length_nil, Nat.zero_add, Nat.reduceSub, Nat.reduceAdd, List.replicate, List.cons_append, List.nil_append]
      repeat' (first | simp (maxSteps := 10000000) (disch := omega) only [go_sem, Nat.reduceAdd, Nat.reduceSub, Nat.reduceMul, Nat.reduceLT, Nat.reduceLeDiff, Nat.reduceEqDiff, Nat.reduceBEq, Nat.reduceBNe, reduceCtorEq, Int.reduceBNe, Int.reduceBEq, blt0, Int.reduceToNat, Int.toNat_zero, Int.toNat_one, if_pos, if_neg, wrap_i64, decide_eq_true, decide_eq_false, ibeq_t, ibeq_f, ibne_t, ibne_f, Int.toNat_natCast, tn_sub1, tn_add1, List.getElem?_map, gx, reach_i1, reach_i2, reach_s1, reach_si, reach_ss, askR, c1, c2] | simp (maxSteps := 10000000) (disch := (simp only [List.length_append, List.length_map, List.length_take, List.length_drop, List.length_cons, List.length_nil]; omega)) only [str_add, if_pos, if_neg] | simp only [go_sem, Nat.reduceAdd, Nat.reduceSub, Nat.reduceMul, Nat.reduceLT, Nat.reduceLeDiff, Nat.reduceEqDiff, Nat.reduceBEq, Nat.reduceBNe, reduceCtorEq, Int.reduceBNe, Int.reduceBEq, blt0, askR, c1, c2] | ((first | with_reducible refine WC_split (fun hc => ?_) (fun hc => ?_) | with_reducible refine WS_split (fun hc => ?_) (fun hc => ?_) | with_reducible refine WD_split (fun hc => ?_) (fun hc => ?_)) <;> (try simp only [hc]) <;> (try simp only [Bool.and_eq_true, Bool.or_eq_true, Bool.not_eq_true', Bool.not_eq_false', decide_eq_true_eq, decide_eq_false_iff_not, beq_iff_eq, beq_eq_false_iff_ne, bne_iff_ne, bne_eq_false_iff_eq, ne_eq] at hc) <;> (try (have hb : @Eq Bool _ _ := hc; simp only [hb]; clear hb))))
      rw [callHeap_at (R := [0]) c3 (hR := a_reach2) (hc := a_closed2) (hs := a_sub)]
      repeat' (first | simp (maxSteps := 10000000) (disch := omega) only [go_sem, Nat.reduceAdd, Nat.reduceSub, Nat.reduceMul, Nat.reduceLT, Nat.reduceLeDiff, Nat.reduceEqDiff, Nat.reduceBEq, Nat.reduceBNe, reduceCtorEq, Int.reduceBNe, Int.reduceBEq, blt0, Int.reduceToNat, Int.toNat_zero, Int.toNat_one, if_pos, if_neg, wrap_i64, decide_eq_true, decide_eq_false, ibeq_t, ibeq_f, ibne_t, ibne_f, Int.toNat_natCast, tn_sub1, tn_add1, List.getElem?_map, gx, reach_i1, reach_i2, reach_s1, reach_si, reach_ss, treeC_ren] | simp (maxSteps := 10000000) (disch := (simp only [List.length_append, List.length_map, List.length_take, List.length_drop, List.length_cons, List.length_nil]; omega)) only [str_add, if_pos, if_neg] | simp only [go_sem, Nat.reduceAdd, Nat.reduceSub, Nat.reduceMul, Nat.reduceLT, Nat.reduceLeDiff, Nat.reduceEqDiff, Nat.reduceBEq, Nat.reduceBNe, reduceCtorEq, Int.reduceBNe, Int.reduceBEq, blt0, treeC_ren] | ((first | with_reducible refine WC_split (fun hc => ?_) (fun hc => ?_) | with_reducible refine WS_split (fun hc => ?_) (fun hc => ?_) | with_reducible refine WD_split (fun hc => ?_) (fun hc => ?_)) <;> (try simp only [hc]) <;> (try simp only [Bool.and_eq_true, Bool.or_eq_true, Bool.not_eq_true', Bool.not_eq_false', decide_eq_true_eq, decide_eq_false_iff_not, beq_iff_eq, beq_eq_false_iff_ne, bne_iff_ne, bne_eq_false_iff_eq, ne_eq] at hc) <;> (try (have hb : @Eq Bool _ _ := hc; simp only [hb]; clear hb))))
      exact retK (v := .tup [.agg (toldR lv L K []), .int .i64 0]) (own := false) (fun _ => ex_ret) rfl rfl t_keep ⟨rfl, rfl, rfl⟩
/-- A mender: its tree, its ask, its turns, whether it is over. -/
abbrev menB (lv : Int) (L : List Int) (l : List TR) (ov : Bool) : Blk := .cells 95 [3] [.ptr 0 0, .int .i64 lv, .sl true (L.map irow), .sl true (l.map trow), .bool ov]
theorem call_17 (l : List PR) (hlen : l.length ≤ 100000) (h1 : chk l = true) : (Lim cfg).call 17 [.sl true (l.map prow)] [] = some (.tup [.ptr 1 0, .int .i64 0], false, [treeB (newT l), menB 2 [0] [] false]) := by
  have c1 := call_10 l hlen h1
  generalize newT l = T at c1 ⊢
  refine call_eq fn_17 rfl ?_
  rw [k_start]
  simp only [Try.f17, List.length_cons, List.length_nil, Nat.zero_add, Nat.reduceSub, Nat.reduceAdd, List.replicate, List.cons_append, List.nil_append]
  repeat' (first | simp (maxSteps := 10000000) (disch := omega) only [go_sem, Nat.reduceAdd, Nat.reduceSub, Nat.reduceMul, Nat.reduceLT, Nat.reduceLeDiff, Nat.reduceEqDiff, Nat.reduceBEq, Nat.reduceBNe, reduceCtorEq, Int.reduceBNe, Int.reduceBEq, blt0, Int.reduceToNat, Int.toNat_zero, Int.toNat_one, if_pos, if_neg, wrap_i64, decide_eq_true, decide_eq_false, ibeq_t, ibeq_f, ibne_t, ibne_f, Int.toNat_natCast, tn_sub1, tn_add1, List.getElem?_map, gx, reach_i1, reach_i2, reach_s1, reach_si, reach_ss, c1, treeC_ren] | simp (maxSteps := 10000000) (disch := (simp only [List.length_append, List.length_map, List.length_take, List.length_drop, List.length_cons, List.length_nil]; omega)) only [str_add, if_pos, if_neg] | simp only [go_sem, Nat.reduceAdd, Nat.reduceSub, Nat.reduceMul, Nat.reduceLT, Nat.reduceLeDiff, Nat.reduceEqDiff, Nat.reduceBEq, Nat.reduceBNe, reduceCtorEq, Int.reduceBNe, Int.reduceBEq, blt0, c1, treeC_ren] | ((first | with_reducible refine WC_split (fun hc => ?_) (fun hc => ?_) | with_reducible refine WS_split (fun hc => ?_) (fun hc => ?_) | with_reducible refine WD_split (fun hc => ?_) (fun hc => ?_)) <;> (try simp only [hc]) <;> (try simp only [Bool.and_eq_true, Bool.or_eq_true, Bool.not_eq_true', Bool.not_eq_false', decide_eq_true_eq, decide_eq_false_iff_not, beq_iff_eq, beq_eq_false_iff_ne, bne_iff_ne, bne_eq_false_iff_eq, ne_eq] at hc) <;> (try (have hb : @Eq Bool _ _ := hc; simp only [hb]; clear hb))))
  exact retH (v := .tup [.ptr 1 0, .int .i64 0]) (own := false) (fun _ => ex_ret) rfl rfl ⟨rfl, rfl, rfl⟩
theorem mnew_bad (l : List PR) (hlen : l.length ≤ 100000) (h1 : chk l = false) : (Lim cfg).call 17 [.sl true (l.map prow)] [] = some (.tup [.nilp, .int .i64 1], false, []) := by
  have c1 := new_bad l hlen h1
  refine call_eq fn_17 rfl ?_
  rw [k_start]
  simp only [Try.f17, List.length_cons, List.length_nil, Nat.zero_add, Nat.reduceSub, Nat.reduceAdd, List.replicate, List.cons_append, List.nil_append]
  repeat' (first | simp (maxSteps := 10000000) (disch := omega) only [go_sem, Nat.reduceAdd, Nat.reduceSub, Nat.reduceMul, Nat.reduceLT, Nat.reduceLeDiff, Nat.reduceEqDiff, Nat.reduceBEq, Nat.reduceBNe, reduceCtorEq, Int.reduceBNe, Int.reduceBEq, blt0, Int.reduceToNat, Int.toNat_zero, Int.toNat_one, if_pos, if_neg, wrap_i64, decide_eq_true, decide_eq_false, ibeq_t, ibeq_f, ibne_t, ibne_f, Int.toNat_natCast, tn_sub1, tn_add1, List.getElem?_map, gx, reach_i1, reach_i2, reach_s1, reach_si, reach_ss, c1] | simp (maxSteps := 10000000) (disch := (simp only [List.length_append, List.length_map, List.length_take, List.length_drop, List.length_cons, List.length_nil]; omega)) only [str_add, if_pos, if_neg] | simp only [go_sem, Nat.reduceAdd, Nat.reduceSub, Nat.reduceMul, Nat.reduceLT, Nat.reduceLeDiff, Nat.reduceEqDiff, Nat.reduceBEq, Nat.reduceBNe, reduceCtorEq, Int.reduceBNe, Int.reduceBEq, blt0, c1] | ((first | with_reducible refine WC_split (fun hc => ?_) (fun hc => ?_) | with_reducible refine WS_split (fun hc => ?_) (fun hc => ?_) | with_reducible refine WD_split (fun hc => ?_) (fun hc => ?_)) <;> (try simp only [hc]) <;> (try simp only [Bool.and_eq_true, Bool.or_eq_true, Bool.not_eq_true', Bool.not_eq_false', decide_eq_true_eq, decide_eq_false_iff_not, beq_iff_eq, beq_eq_false_iff_ne, bne_iff_ne, bne_eq_false_iff_eq, ne_eq] at hc) <;> (try (have hb : @Eq Bool _ _ := hc; simp only [hb]; clear hb))))
  exact ret2 (fun _ => ex_ret) rfl rfl rfl rfl ⟨rfl, rfl, rfl⟩
/-- Two blocks that are kept. -/
theorem m_keep {T : TV} {lv : Int} {L : List Int} {l : List TR} {ov : Bool} {r : List Blk} : ((treeB T :: menB lv L l ov :: r).take 2).all (Blk.all fun i => Nat.blt i 2) = true := by
  show (V.alll _ (treeC T) && (true && true)) = true
  rw [treeC_all]; rfl
theorem ask_nil : (Lim cfg).call 18 [.nilp] [] = some (.tup [.agg (askR 0 []), .bool false], false, []) := by
  refine call_eq fn_18 rfl ?_
  rw [k_start]
  simp only [Try.f18, List.length_cons, List.length_nil, Nat.zero_add, Nat.reduceSub, Nat.reduceAdd, List.replicate, List.cons_append, List.nil_append]
  repeat' (first | simp (maxSteps := 10000000) (disch := omega) only [go_sem, Nat.reduceAdd, Nat.reduceSub, Nat.reduceMul, Nat.reduceLT, Nat.reduceLeDiff, Nat.reduceEqDiff, Nat.reduceBEq, Nat.reduceBNe, reduceCtorEq, Int.reduceBNe, Int.reduceBEq, blt0, Int.reduceToNat, Int.toNat_zero, Int.toNat_one, if_pos, if_neg, wrap_i64, decide_eq_true, decide_eq_false, ibeq_t, ibeq_f, ibne_t, ibne_f, Int.toNat_natCast, tn_sub1, tn_add1, List.getElem?_map, gx, reach_i1, reach_i2, reach_s1, reach_si, reach_ss] | simp (maxSteps := 10000000) (disch := (simp only [List.length_append, List.length_map, List.length_take, List.length_drop, List.length_cons, List.length_nil]; omega)) only [str_add, if_pos, if_neg] | simp only [go_sem, Nat.reduceAdd, Nat.reduceSub, Nat.reduceMul, Nat.reduceLT, Nat.reduceLeDiff, Nat.reduceEqDiff, Nat.reduceBEq, Nat.reduceBNe, reduceCtorEq, Int.reduceBNe, Int.reduceBEq, blt0] | ((first | with_reducible refine WC_split (fun hc => ?_) (fun hc => ?_) | with_reducible refine WS_split (fun hc => ?_) (fun hc => ?_) | with_reducible refine WD_split (fun hc => ?_) (fun hc => ?_)) <;> (try simp only [hc]) <;> (try simp only [Bool.and_eq_true, Bool.or_eq_true, Bool.not_eq_true', Bool.not_eq_false', decide_eq_true_eq, decide_eq_false_iff_not, beq_iff_eq, beq_eq_false_iff_ne, bne_iff_ne, bne_eq_false_iff_eq, ne_eq] at hc) <;> (try (have hb : @Eq Bool _ _ := hc; simp only [hb]; clear hb))))
  exact retM (fun _ => ex_ret) rfl rfl ⟨rfl, rfl, rfl⟩
set_option maxHeartbeats 4000000 in
theorem call_18 {T : TV} {lv : Int} {L : List Int} {l : List TR} {ov : Bool} (hlen : L.length ≤ 100000) : (Lim cfg).call 18 [.ptr 1 0] [treeB T, menB lv L l ov] =
    some (if ov = true then .tup [.agg (askR 0 []), .bool false] else .tup [.agg (askR lv L), .bool true], false, [treeB T, menB lv L l ov]) := by
  have c2 := call_36 lv L hlen
  simp only [askR] at c2
  cases ov with
  | true =>
    rw [if_pos rfl]
    refine call_eq fn_18 rfl ?_
    rw [k_start]
    simp only [Try.f18, List.length_cons, List.length_nil, Nat.zero_add, Nat.reduceSub, Nat.reduceAdd, List.replicate, List.cons_append, List.nil_append]
    repeat' (first | simp (maxSteps := 10000000) (disch := omega) only [go_sem, Nat.reduceAdd, Nat.reduceSub, Nat.reduceMul, Nat.reduceLT, Nat.reduceLeDiff, Nat.reduceEqDiff, Nat.reduceBEq, Nat.reduceBNe, reduceCtorEq, Int.reduceBNe, Int.reduceBEq, blt0, Int.reduceToNat, Int.toNat_zero, Int.toNat_one, if_pos, if_neg, wrap_i64, decide_eq_true, decide_eq_false, ibeq_t, ibeq_f, ibne_t, ibne_f, Int.toNat_natCast, tn_sub1, tn_add1, List.getElem?_map, gx, reach_i1, reach_i2, reach_s1, reach_si, reach_ss] | simp (maxSteps := 10000000) (disch := (simp only [List.length_append, List.length_map, List.length_take, List.length_drop, List.length_cons, List.length_nil]; omega)) only [str_add, if_pos, if_neg] | simp only [go_sem, Nat.reduceAdd, Nat.reduceSub, Nat.reduceMul, Nat.reduceLT, Nat.reduceLeDiff, Nat.reduceEqDiff, Nat.reduceBEq, Nat.reduceBNe, reduceCtorEq, Int.reduceBNe, Int.reduceBEq, blt0] | ((first | with_reducible refine WC_split (fun hc => ?_) (fun hc => ?_) | with_reducible refine WS_split (fun hc => ?_) (fun hc => ?_) | with_reducible refine WD_split (fun hc => ?_) (fun hc => ?_)) <;> (try simp only [hc]) <;> (try simp only [Bool.and_eq_true, Bool.or_eq_true, Bool.not_eq_true', Bool.not_eq_false', decide_eq_true_eq, decide_eq_false_iff_not, beq_iff_eq, beq_eq_false_iff_ne, bne_iff_ne, bne_eq_false_iff_eq, ne_eq] at hc) <;> (try (have hb : @Eq Bool _ _ := hc; simp only [hb]; clear hb))))
    exact retK (v := .tup [.agg (askR 0 []), .bool false]) (own := false) (fun _ => ex_ret) rfl rfl m_keep ⟨rfl, rfl, rfl⟩
  | false =>
    rw [if_neg (by simp)]
    refine call_eq fn_18 rfl ?_
    rw [k_start]
    simp only [Try.f18, List.length_cons, List.length_nil, Nat.zero_add, Nat.reduceSub, Nat.reduceAdd, List.replicate, List.cons_append, List.nil_append]
    repeat' (first | simp (maxSteps := 10000000) (disch := omega) only [go_sem, Nat.reduceAdd, Nat.reduceSub, Nat.reduceMul, Nat.reduceLT, Nat.reduceLeDiff, Nat.reduceEqDiff, Nat.reduceBEq, Nat.reduceBNe, reduceCtorEq, Int.reduceBNe, Int.reduceBEq, blt0, Int.reduceToNat, Int.toNat_zero, Int.toNat_one, if_pos, if_neg, wrap_i64, decide_eq_true, decide_eq_false, ibeq_t, ibeq_f, ibne_t, ibne_f, Int.toNat_natCast, tn_sub1, tn_add1, List.getElem?_map, gx, reach_i1, reach_i2, reach_s1, reach_si, reach_ss, c2] | simp (maxSteps := 10000000) (disch := (simp only [List.length_append, List.length_map, List.length_take, List.length_drop, List.length_cons, List.length_nil]; omega)) only [str_add, if_pos, if_neg] | simp only [go_sem, Nat.reduceAdd, Nat.reduceSub, Nat.reduceMul, Nat.reduceLT, Nat.reduceLeDiff, Nat.reduceEqDiff, Nat.reduceBEq, Nat.reduceBNe, reduceCtorEq, Int.reduceBNe, Int.reduceBEq, blt0, c2] | ((first | with_reducible refine WC_split (fun hc => ?_) (fun hc => ?_) | with_reducible refine WS_split (fun hc => ?_) (fun hc => ?_) | with_reducible refine WD_split (fun hc => ?_) (fun hc => ?_)) <;> (try simp only [hc]) <;> (try simp only [Bool.and_eq_true, Bool.or_eq_true, Bool.not_eq_true', Bool.not_eq_false', decide_eq_true_eq, decide_eq_false_iff_not, beq_iff_eq, beq_eq_false_iff_ne, bne_iff_ne, bne_eq_false_iff_eq, ne_eq] at hc) <;> (try (have hb : @Eq Bool _ _ := hc; simp only [hb]; clear hb))))
    exact retK (v := .tup [.agg (askR lv L), .bool true]) (own := false) (fun _ => ex_ret) rfl rfl m_keep ⟨rfl, rfl, rfl⟩
theorem turns_nil : (Lim cfg).call 19 [.nilp] [] = some (.tup [.sl true [], .bool false], false, []) := by
  refine call_eq fn_19 rfl ?_
  rw [k_start]
  simp only [Try.f19, List.length_cons, List.length_nil, Nat.zero_add, Nat.reduceSub, Nat.reduceAdd, List.replicate, List.cons_append, List.nil_append]
  repeat' (first | simp (maxSteps := 10000000) (disch := omega) only [go_sem, Nat.reduceAdd, Nat.reduceSub, Nat.reduceMul, Nat.reduceLT, Nat.reduceLeDiff, Nat.reduceEqDiff, Nat.reduceBEq, Nat.reduceBNe, reduceCtorEq, Int.reduceBNe, Int.reduceBEq, blt0, Int.reduceToNat, Int.toNat_zero, Int.toNat_one, if_pos, if_neg, wrap_i64, decide_eq_true, decide_eq_false, ibeq_t, ibeq_f, ibne_t, ibne_f, Int.toNat_natCast, tn_sub1, tn_add1, List.getElem?_map, gx, reach_i1, reach_i2, reach_s1, reach_si, reach_ss] | simp (maxSteps := 10000000) (disch := (simp only [List.length_append, List.length_map, List.length_take, List.length_drop, List.length_cons, List.length_nil]; omega)) only [str_add, if_pos, if_neg] | simp only [go_sem, Nat.reduceAdd, Nat.reduceSub, Nat.reduceMul, Nat.reduceLT, Nat.reduceLeDiff, Nat.reduceEqDiff, Nat.reduceBEq, Nat.reduceBNe, reduceCtorEq, Int.reduceBNe, Int.reduceBEq, blt0] | ((first | with_reducible refine WC_split (fun hc => ?_) (fun hc => ?_) | with_reducible refine WS_split (fun hc => ?_) (fun hc => ?_) | with_reducible refine WD_split (fun hc => ?_) (fun hc => ?_)) <;> (try simp only [hc]) <;> (try simp only [Bool.and_eq_true, Bool.or_eq_true, Bool.not_eq_true', Bool.not_eq_false', decide_eq_true_eq, decide_eq_false_iff_not, beq_iff_eq, beq_eq_false_iff_ne, bne_iff_ne, bne_eq_false_iff_eq, ne_eq] at hc) <;> (try (have hb : @Eq Bool _ _ := hc; simp only [hb]; clear hb))))
  exact ret2 (fun _ => ex_ret) rfl rfl rfl rfl ⟨rfl, rfl, rfl⟩
set_option maxHeartbeats 4000000 in
theorem call_19 {T : TV} {lv : Int} {L : List Int} {l : List TR} {ov : Bool} (hlen : l.length ≤ 100000) : (Lim cfg).call 19 [.ptr 1 0] [treeB T, menB lv L l ov] =
    some (if ov = true ∧ chkT l = true then .tup [.sl true (l.map trow), .bool true] else .tup [.sl true [], .bool false], false, [treeB T, menB lv L l ov]) := by
  have c1 := call_42 l hlen
  have c2 : (Lim cfg).call 43 [.sl true (l.map trow)] [] = some (.sl ((l.map trow).isEmpty || true) (l.map trow), true, []) :=
    call_cln fn_43 cln_43 (by rw [ty_55]; rfl) ty_79 (by simp) (by unfold strMax; rw [List.length_map]; simp only; omega) (fit_trow l) (.inr (head_trow l))
  rw [Bool.or_true] at c2
  cases ov with
  | false =>
    rw [if_neg (by simp)]
    refine call_eq fn_19 rfl ?_
    rw [k_start]
    simp only [Try.f19, List.length_cons, List.length_nil, Nat.zero_add, Nat.reduceSub, Nat.reduceAdd, List.replicate, List.cons_append, List.nil_append]
    repeat' (first | simp (maxSteps := 10000000) (disch := omega) only [go_sem, Nat.reduceAdd, Nat.reduceSub, Nat.reduceMul, Nat.reduceLT, Nat.reduceLeDiff, Nat.reduceEqDiff, Nat.reduceBEq, Nat.reduceBNe, reduceCtorEq, Int.reduceBNe, Int.reduceBEq, blt0, Int.reduceToNat, Int.toNat_zero, Int.toNat_one, if_pos, if_neg, wrap_i64, decide_eq_true, decide_eq_false, ibeq_t, ibeq_f, ibne_t, ibne_f, Int.toNat_natCast, tn_sub1, tn_add1, List.getElem?_map, gx, reach_i1, reach_i2, reach_s1, reach_si, reach_ss] | simp (maxSteps := 10000000) (disch := (simp only [List.length_append, List.length_map, List.length_take, List.length_drop, List.length_cons, List.length_nil]; omega)) only [str_add, if_pos, if_neg] | simp only [go_sem, Nat.reduceAdd, Nat.reduceSub, Nat.reduceMul, Nat.reduceLT, Nat.reduceLeDiff, Nat.reduceEqDiff, Nat.reduceBEq, Nat.reduceBNe, reduceCtorEq, Int.reduceBNe, Int.reduceBEq, blt0] | ((first | with_reducible refine WC_split (fun hc => ?_) (fun hc => ?_) | with_reducible refine WS_split (fun hc => ?_) (fun hc => ?_) | with_reducible refine WD_split (fun hc => ?_) (fun hc => ?_)) <;> (try simp only [hc]) <;> (try simp only [Bool.and_eq_true, Bool.or_eq_true, Bool.not_eq_true', Bool.not_eq_false', decide_eq_true_eq, decide_eq_false_iff_not, beq_iff_eq, beq_eq_false_iff_ne, bne_iff_ne, bne_eq_false_iff_eq, ne_eq] at hc) <;> (try (have hb : @Eq Bool _ _ := hc; simp only [hb]; clear hb))))
    exact retK (v := .tup [.sl true [], .bool false]) (own := false) (fun _ => ex_ret) rfl rfl m_keep ⟨rfl, rfl, rfl⟩
  | true =>
    cases h1 : chkT l with
    | false =>
      rw [h1] at c1
      rw [if_neg (by simp)]
      refine call_eq fn_19 rfl ?_
      rw [k_start]
      simp only [Try.f19, List.length_cons, List.length_nil, Nat.zero_add, Nat.reduceSub, Nat.reduceAdd, List.replicate, List.cons_append, List.nil_append]
      repeat' (first | simp (maxSteps := 10000000) (disch := omega) only [go_sem, Nat.reduceAdd, Nat.reduceSub, Nat.reduceMul, Nat.reduceLT, Nat.reduceLeDiff, Nat.reduceEqDiff, Nat.reduceBEq, Nat.reduceBNe, reduceCtorEq, Int.reduceBNe, Int.reduceBEq, blt0, Int.reduceToNat, Int.toNat_zero, Int.toNat_one, if_pos, if_neg, wrap_i64, decide_eq_true, decide_eq_false, ibeq_t, ibeq_f, ibne_t, ibne_f, Int.toNat_natCast, tn_sub1, tn_add1, List.getElem?_map, gx, reach_i1, reach_i2, reach_s1, reach_si, reach_ss, c1] | simp (maxSteps := 10000000) (disch := (simp only [List.length_append, List.length_map, List.length_take, List.length_drop, List.length_cons, List.length_nil]; omega)) only [str_add, if_pos, if_neg] | simp only [go_sem, Nat.reduceAdd, Nat.reduceSub, Nat.reduceMul, Nat.reduceLT, Nat.reduceLeDiff, Nat.reduceEqDiff, Nat.reduceBEq, Nat.reduceBNe, reduceCtorEq, Int.reduceBNe, Int.reduceBEq, blt0, c1] | ((first | with_reducible refine WC_split (fun hc => ?_) (fun hc => ?_) | with_reducible refine WS_split (fun hc => ?_) (fun hc => ?_) | with_reducible refine WD_split (fun hc => ?_) (fun hc => ?_)) <;> (try simp only [hc]) <;> (try simp only [Bool.and_eq_true, Bool.or_eq_true, Bool.not_eq_true', Bool.not_eq_false', decide_eq_true_eq, decide_eq_false_iff_not, beq_iff_eq, beq_eq_false_iff_ne, bne_iff_ne, bne_eq_false_iff_eq, ne_eq] at hc) <;> (try (have hb : @Eq Bool _ _ := hc; simp only [hb]; clear hb))))
      exact retK (v := .tup [.sl true [], .bool false]) (own := false) (fun _ => ex_ret) rfl rfl m_keep ⟨rfl, rfl, rfl⟩
    | true =>
      rw [h1] at c1
      rw [if_pos ⟨rfl, rfl⟩]
      refine call_eq fn_19 rfl ?_
      rw [k_start]
      simp only [Try.f19, List.length_cons, List.length_nil, Nat.zero_add, Nat.reduceSub, Nat.reduceAdd, List.replicate, List.cons_append, List.nil_append]
      repeat' (first | simp (maxSteps := 10000000) (disch := omega) only [go_sem, Nat.reduceAdd, Nat.reduceSub, Nat.reduceMul, Nat.reduceLT, Nat.reduceLeDiff, Nat.reduceEqDiff, Nat.reduceBEq, Nat.reduceBNe, reduceCtorEq, Int.reduceBNe, Int.reduceBEq, blt0, Int.reduceToNat, Int.toNat_zero, Int.toNat_one, if_pos, if_neg, wrap_i64, decide_eq_true, decide_eq_false, ibeq_t, ibeq_f, ibne_t, ibne_f, Int.toNat_natCast, tn_sub1, tn_add1, List.getElem?_map, gx, reach_i1, reach_i2, reach_s1, reach_si, reach_ss, c1, c2] | simp (maxSteps := 10000000) (disch := (simp only [List.length_append, List.length_map, List.length_take, List.length_drop, List.length_cons, List.length_nil]; omega)) only [str_add, if_pos, if_neg] | simp only [go_sem, Nat.reduceAdd, Nat.reduceSub, Nat.reduceMul, Nat.reduceLT, Nat.reduceLeDiff, Nat.reduceEqDiff, Nat.reduceBEq, Nat.reduceBNe, reduceCtorEq, Int.reduceBNe, Int.reduceBEq, blt0, c1, c2] | ((first | with_reducible refine WC_split (fun hc => ?_) (fun hc => ?_) | with_reducible refine WS_split (fun hc => ?_) (fun hc => ?_) | with_reducible refine WD_split (fun hc => ?_) (fun hc => ?_)) <;> (try simp only [hc]) <;> (try simp only [Bool.and_eq_true, Bool.or_eq_true, Bool.not_eq_true', Bool.not_eq_false', decide_eq_true_eq, decide_eq_false_iff_not, beq_iff_eq, beq_eq_false_iff_ne, bne_iff_ne, bne_eq_false_iff_eq, ne_eq] at hc) <;> (try (have hb : @Eq Bool _ _ := hc; simp only [hb]; clear hb))))
      exact retK (v := .tup [.sl true (l.map trow), .bool true]) (own := false) (fun _ => ex_ret) rfl rfl m_keep ⟨rfl, rfl, rfl⟩
end Go.Proofs.Ytliohdlkocnfbaa
