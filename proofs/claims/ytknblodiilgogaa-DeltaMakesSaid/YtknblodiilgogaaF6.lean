/- A table that is turned: the program's loops. -/
import Derived.Test.YtknblodiilgogaaF5
set_option linter.all false
set_option maxRecDepth 100000
namespace Go.Proofs.Ytknblodiilgogaa
open Go Go.Abs

theorem chkT_rise : ∀ (l : List TR) (lo : Int), chkTFrom lo l = true → (l.Pairwise fun a b => a.1 < b.1) ∧ ∀ t ∈ l, lo < t.1 ∧ t.1 < 4096 ∧ okC t.2.1 = true ∧ okC t.2.2 = true ∧ t.2.1 ≠ t.2.2
  | [], _, _ => ⟨List.Pairwise.nil, fun _ h => by cases h⟩
  | p :: r, lo, h => by
    simp only [chkTFrom, Bool.and_eq_true] at h
    have h0 := of_decide_eq_true h.1
    obtain ⟨h1, h2⟩ := chkT_rise r p.1 h.2
    refine ⟨List.Pairwise.cons (fun q hq => (h2 q hq).1) h1, fun q hq => ?_⟩
    rcases List.mem_cons.1 hq with rfl | hq
    · exact h0
    · have := h2 q hq
      exact ⟨by omega, this.2⟩
def puts (l : List TR) : List PR := l.flatMap putT
def goneT (l : List TR) (p : PR) : Bool := l.any fun t => t.1 == p.1
def keepA (l : List TR) (a : List PR) : List PR := a.filter fun p => !goneT l p
theorem puts_step {l : List TR} {i : Nat} (h : i < l.length) : puts (l.take (i + 1)) = puts (l.take i) ++ putT l[i] := by
  rw [puts, puts, List.take_succ_eq_append_getElem h, List.flatMap_append]; simp
theorem gone_step {l : List TR} {i : Nat} (h : i < l.length) : goneM (l.take (i + 1)) = goneM (l.take i) ++ [(.int .i64 l[i].1, [.bool true])] := by
  rw [goneM, goneM, List.take_succ_eq_append_getElem h, List.map_append]; rfl
theorem puts_len : ∀ l : List TR, (puts l).length ≤ l.length
  | [] => Nat.le_refl _
  | t :: l => by
    have := puts_len l
    simp only [puts, List.flatMap_cons, List.length_append, List.length_cons] at this ⊢
    have h : (putT t).length ≤ 1 := by unfold putT; split <;> simp
    omega
theorem keep_step {l : List TR} {a : List PR} {i : Nat} (h : i < a.length) : keepA l (a.take (i + 1)) = keepA l (a.take i) ++ (if goneT l a[i] = true then [] else [a[i]]) := by
  rw [keepA, keepA, List.take_succ_eq_append_getElem h, List.filter_append, List.filter_cons]
  cases goneT l a[i] <;> simp
theorem keep_len {l : List TR} {a : List PR} : (keepA l a).length ≤ a.length := List.length_filter_le _ _
theorem gone_all (p : Nat → Bool) : ∀ l : List TR, Blk.all p (.map (goneM l)) = true
  | [] => rfl
  | t :: l => gone_all p l
theorem gone_all1 (p : Nat → Bool) (k : Int) (b : Bool) : ∀ l : List TR, Blk.all p (.map (goneM l ++ [(.int .i64 k, [.bool b])])) = true
  | [] => rfl
  | t :: l => gone_all1 p k b l
theorem head_map {fr fr' : List V} {own own' : List Nat} {es : List (V × List V)} {r : List Blk} {al : List (Tmp × Owner)} {K : List Nat} (he : Blk.all (fun i => Nat.blt i 1) (.map es) = true) (hk : killAll fr K = fr') (ho : own.filter (fun t => !K.contains t) = own')
    (ht : topIds fr' = 1) (hl : V.ltl 1 fr' = true) : St.head { fr := fr, own := own, hp := .map es :: r, al := al, nb := 0 } K = { fr := fr', own := own', hp := [.map es], al := [], nb := 0 } := by
  have ha : ((Blk.map es :: r).take 1).all (Blk.all fun i => Nat.blt i 1) = true := by
    show (Blk.all (fun i => Nat.blt i 1) (.map es) && true) = true
    rw [he]; rfl
  have hu : ∀ k, upTo (.map es :: r) k 1 = 1 := fun k => by cases k with
    | zero => rfl
    | succ k => rw [upTo, if_pos ha]
  have hm : max 0 1 = 1 := rfl
  simp only [St.head, St.kill, St.gc, hk, ho, ht, hm, hu, hl, ha]
  rfl
def T75a (a : List PR) (l : List TR) (i : Nat) : St := { fr := mkF 71 [(0, .sl true (a.map prow)), (6, .sl true []), (7, .sl true ((puts (l.take i)).map prow)), (8, .map 0), (28, .sl true (l.map trow)), (29, .int .i64 l.length), (30, .int .i64 i)], own := [7, 6], hp := [.map (goneM (l.take i))], al := [], nb := 0 }
def T75b (a : List PR) (l : List TR) (x : Nat × List Nat) : St := { fr := mkF 71 [(6, .sl true ((keepA l (a.take x.1)).map prow)), (7, .sl true ((puts l).map prow)), (8, .map 0), (50, .sl true (a.map prow)), (51, .int .i64 a.length), (52, .int .i64 x.1)], own := x.2, hp := [.map (goneM l)], al := [], nb := 0 }
set_option maxHeartbeats 8000000 in
/-- The program's answer, by what Join answers. -/
theorem make_join (a : List PR) (l : List TR) (ha : a.length ≤ 100000) (hlen : l.length ≤ 100000) (R : List (List V)) (e : Int)
    (hj : chk a = true → chkT l = true → fitsR a l = true → (Lim cfg).call 50 [.sl true ((keepA l a).map prow), .sl true ((puts l).map prow)] [] = some (.tup [.sl true R, .int .i64 e], false, [])) :
    (Lim cfg).call 16 [.sl true (a.map prow), .sl true (l.map trow)] [] = some ((if (chk a && chkT l) = true then (if fitsR a l = true then .tup [.sl true R, .int .i64 e] else .tup [.sl true [], .int .i64 4]) else .tup [.sl true [], .int .i64 1]), false, []) := by
  have c1 := call_49 a ha
  have c2 := call_20 l hlen
  have c3 := call_22 a l ha hlen
  cases h1 : chk a with
  | false =>
    rw [h1] at c1
    refine call_eq fn_16 rfl ?_
    rw [k_start]
    simp only [Try.f16, List.length_cons, List.length_nil, Nat.zero_add, Nat.reduceSub, Nat.reduceAdd, List.replicate, List.cons_append, List.nil_append]
    repeat' (first | simp (maxSteps := 10000000) (disch := omega) only [go_sem, Nat.reduceAdd, Nat.reduceSub, Nat.reduceMul, Nat.reduceLT, Nat.reduceLeDiff, Nat.reduceEqDiff, Nat.reduceBEq, Nat.reduceBNe, reduceCtorEq, Int.reduceBNe, Int.reduceBEq, blt0, Int.reduceToNat, Int.toNat_zero, Int.toNat_one, if_pos, if_neg, wrap_i64, decide_eq_true, decide_eq_false, ibeq_t, ibeq_f, ibne_t, ibne_f, Int.toNat_natCast, tn_sub1, tn_add1, List.getElem?_map, gx, reach_i1, reach_i2, reach_s1, reach_si, reach_ss, c1] | simp (maxSteps := 10000000) (disch := (simp only [List.length_append, List.length_map, List.length_take, List.length_drop, List.length_cons, List.length_nil]; omega)) only [str_add, if_pos, if_neg] | simp only [go_sem, Nat.reduceAdd, Nat.reduceSub, Nat.reduceMul, Nat.reduceLT, Nat.reduceLeDiff, Nat.reduceEqDiff, Nat.reduceBEq, Nat.reduceBNe, reduceCtorEq, Int.reduceBNe, Int.reduceBEq, blt0, c1] | ((first | refine WC_split (fun hc => ?_) (fun hc => ?_) | refine WS_split (fun hc => ?_) (fun hc => ?_) | refine WD_split (fun hc => ?_) (fun hc => ?_)) <;> (try simp only [hc]) <;> (try simp only [Bool.and_eq_true, Bool.or_eq_true, Bool.not_eq_true', Bool.not_eq_false', decide_eq_true_eq, decide_eq_false_iff_not, beq_iff_eq, beq_eq_false_iff_ne, bne_iff_ne, bne_eq_false_iff_eq, ne_eq] at hc) <;> (try (have hb : @Eq Bool _ _ := hc; simp only [hb]; clear hb))))
    exact ret2 (fun _ => ex_ret) rfl rfl rfl rfl ⟨rfl, rfl, rfl⟩
  | true =>
  rw [h1] at c1
  cases h2 : chkT l with
  | false =>
    rw [h2] at c2
    refine call_eq fn_16 rfl ?_
    rw [k_start]
    simp only [Try.f16, List.length_cons, List.length_nil, Nat.zero_add, Nat.reduceSub, Nat.reduceAdd, List.replicate, List.cons_append, List.nil_append]
    repeat' (first | simp (maxSteps := 10000000) (disch := omega) only [go_sem, Nat.reduceAdd, Nat.reduceSub, Nat.reduceMul, Nat.reduceLT, Nat.reduceLeDiff, Nat.reduceEqDiff, Nat.reduceBEq, Nat.reduceBNe, reduceCtorEq, Int.reduceBNe, Int.reduceBEq, blt0, Int.reduceToNat, Int.toNat_zero, Int.toNat_one, if_pos, if_neg, wrap_i64, decide_eq_true, decide_eq_false, ibeq_t, ibeq_f, ibne_t, ibne_f, Int.toNat_natCast, tn_sub1, tn_add1, List.getElem?_map, gx, reach_i1, reach_i2, reach_s1, reach_si, reach_ss, c1, c2] | simp (maxSteps := 10000000) (disch := (simp only [List.length_append, List.length_map, List.length_take, List.length_drop, List.length_cons, List.length_nil]; omega)) only [str_add, if_pos, if_neg] | simp only [go_sem, Nat.reduceAdd, Nat.reduceSub, Nat.reduceMul, Nat.reduceLT, Nat.reduceLeDiff, Nat.reduceEqDiff, Nat.reduceBEq, Nat.reduceBNe, reduceCtorEq, Int.reduceBNe, Int.reduceBEq, blt0, c1, c2] | ((first | refine WC_split (fun hc => ?_) (fun hc => ?_) | refine WS_split (fun hc => ?_) (fun hc => ?_) | refine WD_split (fun hc => ?_) (fun hc => ?_)) <;> (try simp only [hc]) <;> (try simp only [Bool.and_eq_true, Bool.or_eq_true, Bool.not_eq_true', Bool.not_eq_false', decide_eq_true_eq, decide_eq_false_iff_not, beq_iff_eq, beq_eq_false_iff_ne, bne_iff_ne, bne_eq_false_iff_eq, ne_eq] at hc) <;> (try (have hb : @Eq Bool _ _ := hc; simp only [hb]; clear hb))))
    exact ret2 (fun _ => ex_ret) rfl rfl rfl rfl ⟨rfl, rfl, rfl⟩
  | true =>
  rw [h2] at c2
  cases h3 : fitsR a l with
  | false =>
    rw [h3] at c3
    refine call_eq fn_16 rfl ?_
    rw [k_start]
    simp only [Try.f16, List.length_cons, List.length_nil, Nat.zero_add, Nat.reduceSub, Nat.reduceAdd, List.replicate, List.cons_append, List.nil_append]
    repeat' (first | simp (maxSteps := 10000000) (disch := omega) only [go_sem, Nat.reduceAdd, Nat.reduceSub, Nat.reduceMul, Nat.reduceLT, Nat.reduceLeDiff, Nat.reduceEqDiff, Nat.reduceBEq, Nat.reduceBNe, reduceCtorEq, Int.reduceBNe, Int.reduceBEq, blt0, Int.reduceToNat, Int.toNat_zero, Int.toNat_one, if_pos, if_neg, wrap_i64, decide_eq_true, decide_eq_false, ibeq_t, ibeq_f, ibne_t, ibne_f, Int.toNat_natCast, tn_sub1, tn_add1, List.getElem?_map, gx, reach_i1, reach_i2, reach_s1, reach_si, reach_ss, c1, c2, c3] | simp (maxSteps := 10000000) (disch := (simp only [List.length_append, List.length_map, List.length_take, List.length_drop, List.length_cons, List.length_nil]; omega)) only [str_add, if_pos, if_neg] | simp only [go_sem, Nat.reduceAdd, Nat.reduceSub, Nat.reduceMul, Nat.reduceLT, Nat.reduceLeDiff, Nat.reduceEqDiff, Nat.reduceBEq, Nat.reduceBNe, reduceCtorEq, Int.reduceBNe, Int.reduceBEq, blt0, c1, c2, c3] | ((first | refine WC_split (fun hc => ?_) (fun hc => ?_) | refine WS_split (fun hc => ?_) (fun hc => ?_) | refine WD_split (fun hc => ?_) (fun hc => ?_)) <;> (try simp only [hc]) <;> (try simp only [Bool.and_eq_true, Bool.or_eq_true, Bool.not_eq_true', Bool.not_eq_false', decide_eq_true_eq, decide_eq_false_iff_not, beq_iff_eq, beq_eq_false_iff_ne, bne_iff_ne, bne_eq_false_iff_eq, ne_eq] at hc) <;> (try (have hb : @Eq Bool _ _ := hc; simp only [hb]; clear hb))))
    exact ret2 (fun _ => ex_ret) rfl rfl rfl rfl ⟨rfl, rfl, rfl⟩
  | true =>
  rw [h3] at c3
  have hj := hj h1 h2 h3
  obtain ⟨hpw, _⟩ := chkT_rise l (-1) h2
  refine call_eq fn_16 rfl ?_
  rw [k_start]
  simp only [Try.f16, List.length_cons, List.length_nil, Nat.zero_add, Nat.reduceSub, Nat.reduceAdd, List.replicate, List.cons_append, List.nil_append]
  repeat' (first | simp (maxSteps := 10000000) (disch := omega) only [go_sem, Nat.reduceAdd, Nat.reduceSub, Nat.reduceMul, Nat.reduceLT, Nat.reduceLeDiff, Nat.reduceEqDiff, Nat.reduceBEq, Nat.reduceBNe, reduceCtorEq, Int.reduceBNe, Int.reduceBEq, blt0, Int.reduceToNat, Int.toNat_zero, Int.toNat_one, if_pos, if_neg, wrap_i64, decide_eq_true, decide_eq_false, ibeq_t, ibeq_f, ibne_t, ibne_f, Int.toNat_natCast, tn_sub1, tn_add1, List.getElem?_map, gx, reach_i1, reach_i2, reach_s1, reach_si, reach_ss, c1, c2, c3] | simp (maxSteps := 10000000) (disch := (simp only [List.length_append, List.length_map, List.length_take, List.length_drop, List.length_cons, List.length_nil]; omega)) only [str_add, if_pos, if_neg] | simp only [go_sem, Nat.reduceAdd, Nat.reduceSub, Nat.reduceMul, Nat.reduceLT, Nat.reduceLeDiff, Nat.reduceEqDiff, Nat.reduceBEq, Nat.reduceBNe, reduceCtorEq, Int.reduceBNe, Int.reduceBEq, blt0, c1, c2, c3] | ((first | refine WC_split (fun hc => ?_) (fun hc => ?_) | refine WS_split (fun hc => ?_) (fun hc => ?_) | refine WD_split (fun hc => ?_) (fun hc => ?_)) <;> (try simp only [hc]) <;> (try simp only [Bool.and_eq_true, Bool.or_eq_true, Bool.not_eq_true', Bool.not_eq_false', decide_eq_true_eq, decide_eq_false_iff_not, beq_iff_eq, beq_eq_false_iff_ne, bne_iff_ne, bne_eq_false_iff_eq, ne_eq] at hc) <;> (try (have hb : @Eq Bool _ _ := hc; simp only [hb]; clear hb))))
  refine k_loop (T75a a l) (fun i => i ≤ l.length) (fun i => l.length - i) 0 (K := cfg.kill 16 9) rfl (Nat.zero_le _) (by kernel_rfl) ?_
  intro i hi k' Q' hnorm hexit hret
  have hpl := puts_len (l.take i)
  rw [List.length_take] at hpl
  have hb : ((puts (l.take i)).length + 1) * 16 ≤ strMax := by unfold strMax; omega
  simp only [T75a, mkF, List.foldl, List.replicate, List.set, List.cons_append, List.nil_append]
  by_cases hlt : i < l.length
  · have hf : findM (.int .i64 l[i].1) (goneM (l.take i)) 0 = some none := find_no fun t ht he => by
      obtain ⟨j, hj, rfl⟩ := List.mem_iff_getElem.1 ht
      rw [List.length_take] at hj
      rw [List.getElem_take] at he
      have := List.pairwise_iff_getElem.1 hpw j i (by omega) hlt (by omega)
      omega
    have m1 := mset (v := .bool true) hf
    have e1 := puts_step hlt
    have e2 := gone_step hlt
    have eT : ∀ X Y, puts (l.take (i + 1)) = X → goneM (l.take (i + 1)) = Y → T75a a l (i + 1) = { fr := mkF 71 [(0, .sl true (a.map prow)), (6, .sl true []), (7, .sl true (X.map prow)), (8, .map 0), (28, .sl true (l.map trow)), (29, .int .i64 l.length), (30, .int .i64 ((i : Int) + 1))], own := [7, 6], hp := [.map Y], al := [], nb := 0 } := fun X Y hX hY => by rw [T75a, hX, hY]; rfl
    have eT := eT _ _ e1 e2
    have HE := gone_all1 (fun i => Nat.blt i 1) l[i].1 true (l.take i)
    generalize goneM (l.take i) = G at m1 eT hf HE ⊢
    generalize puts (l.take i) = P at hb eT ⊢
    cases hs : l[i].2.2.2 with
    | true =>
      rw [putT, if_pos hs, List.map_append] at eT
      repeat' (first | simp (maxSteps := 10000000) (disch := omega) only [go_sem, Nat.reduceAdd, Nat.reduceSub, Nat.reduceMul, Nat.reduceLT, Nat.reduceLeDiff, Nat.reduceEqDiff, Nat.reduceBEq, Nat.reduceBNe, reduceCtorEq, Int.reduceBNe, Int.reduceBEq, blt0, Int.reduceToNat, Int.toNat_zero, Int.toNat_one, if_pos, if_neg, wrap_i64, decide_eq_true, decide_eq_false, ibeq_t, ibeq_f, ibne_t, ibne_f, Int.toNat_natCast, tn_sub1, tn_add1, List.getElem?_map, gx, reach_i1, reach_i2, reach_s1, reach_si, reach_ss, trow, m1, hs, fit_prow, head_prow, head_prow2, hb, appendM] | simp (maxSteps := 10000000) (disch := (simp only [List.length_append, List.length_map, List.length_take, List.length_drop, List.length_cons, List.length_nil]; omega)) only [str_add, if_pos, if_neg] | simp only [go_sem, Nat.reduceAdd, Nat.reduceSub, Nat.reduceMul, Nat.reduceLT, Nat.reduceLeDiff, Nat.reduceEqDiff, Nat.reduceBEq, Nat.reduceBNe, reduceCtorEq, Int.reduceBNe, Int.reduceBEq, blt0, trow, m1, hs, fit_prow, head_prow, head_prow2, hb, appendM] | ((first | refine WC_split (fun hc => ?_) (fun hc => ?_) | refine WS_split (fun hc => ?_) (fun hc => ?_) | refine WD_split (fun hc => ?_) (fun hc => ?_)) <;> (try simp only [hc]) <;> (try simp only [Bool.and_eq_true, Bool.or_eq_true, Bool.not_eq_true', Bool.not_eq_false', decide_eq_true_eq, decide_eq_false_iff_not, beq_iff_eq, beq_eq_false_iff_ne, bne_iff_ne, bne_eq_false_iff_eq, ne_eq] at hc) <;> (try (have hb : @Eq Bool _ _ := hc; simp only [hb]; clear hb))))
      refine hnorm (i + 1) _ (by omega) (by omega) ?_
      rw [eT]
      exact head_map HE (by kernel_rfl) (by kernel_rfl) (by kernel_rfl) (by kernel_rfl)
    | false =>
      rw [putT, if_neg (by rw [hs]; simp), List.append_nil] at eT
      repeat' (first | simp (maxSteps := 10000000) (disch := omega) only [go_sem, Nat.reduceAdd, Nat.reduceSub, Nat.reduceMul, Nat.reduceLT, Nat.reduceLeDiff, Nat.reduceEqDiff, Nat.reduceBEq, Nat.reduceBNe, reduceCtorEq, Int.reduceBNe, Int.reduceBEq, blt0, Int.reduceToNat, Int.toNat_zero, Int.toNat_one, if_pos, if_neg, wrap_i64, decide_eq_true, decide_eq_false, ibeq_t, ibeq_f, ibne_t, ibne_f, Int.toNat_natCast, tn_sub1, tn_add1, List.getElem?_map, gx, reach_i1, reach_i2, reach_s1, reach_si, reach_ss, trow, m1, hs] | simp (maxSteps := 10000000) (disch := (simp only [List.length_append, List.length_map, List.length_take, List.length_drop, List.length_cons, List.length_nil]; omega)) only [str_add, if_pos, if_neg] | simp only [go_sem, Nat.reduceAdd, Nat.reduceSub, Nat.reduceMul, Nat.reduceLT, Nat.reduceLeDiff, Nat.reduceEqDiff, Nat.reduceBEq, Nat.reduceBNe, reduceCtorEq, Int.reduceBNe, Int.reduceBEq, blt0, trow, m1, hs] | ((first | refine WC_split (fun hc => ?_) (fun hc => ?_) | refine WS_split (fun hc => ?_) (fun hc => ?_) | refine WD_split (fun hc => ?_) (fun hc => ?_)) <;> (try simp only [hc]) <;> (try simp only [Bool.and_eq_true, Bool.or_eq_true, Bool.not_eq_true', Bool.not_eq_false', decide_eq_true_eq, decide_eq_false_iff_not, beq_iff_eq, beq_eq_false_iff_ne, bne_iff_ne, bne_eq_false_iff_eq, ne_eq] at hc) <;> (try (have hb : @Eq Bool _ _ := hc; simp only [hb]; clear hb))))
      refine hnorm (i + 1) _ (by omega) (by omega) ?_
      rw [eT]
      exact head_map HE (by kernel_rfl) (by kernel_rfl) (by kernel_rfl) (by kernel_rfl)
  · rw [List.take_of_length_le (by omega)]
    have hpl := puts_len l
    clear hnorm hb
    repeat' (first | simp (maxSteps := 10000000) (disch := omega) only [go_sem, Nat.reduceAdd, Nat.reduceSub, Nat.reduceMul, Nat.reduceLT, Nat.reduceLeDiff, Nat.reduceEqDiff, Nat.reduceBEq, Nat.reduceBNe, reduceCtorEq, Int.reduceBNe, Int.reduceBEq, blt0, Int.reduceToNat, Int.toNat_zero, Int.toNat_one, if_pos, if_neg, wrap_i64, decide_eq_true, decide_eq_false, ibeq_t, ibeq_f, ibne_t, ibne_f, Int.toNat_natCast, tn_sub1, tn_add1, List.getElem?_map, gx, reach_i1, reach_i2, reach_s1, reach_si, reach_ss] | simp (maxSteps := 10000000) (disch := (simp only [List.length_append, List.length_map, List.length_take, List.length_drop, List.length_cons, List.length_nil]; omega)) only [str_add, if_pos, if_neg] | simp only [go_sem, Nat.reduceAdd, Nat.reduceSub, Nat.reduceMul, Nat.reduceLT, Nat.reduceLeDiff, Nat.reduceEqDiff, Nat.reduceBEq, Nat.reduceBNe, reduceCtorEq, Int.reduceBNe, Int.reduceBEq, blt0] | ((first | refine WC_split (fun hc => ?_) (fun hc => ?_) | refine WS_split (fun hc => ?_) (fun hc => ?_) | refine WD_split (fun hc => ?_) (fun hc => ?_)) <;> (try simp only [hc]) <;> (try simp only [Bool.and_eq_true, Bool.or_eq_true, Bool.not_eq_true', Bool.not_eq_false', decide_eq_true_eq, decide_eq_false_iff_not, beq_iff_eq, beq_eq_false_iff_ne, bne_iff_ne, bne_eq_false_iff_eq, ne_eq] at hc) <;> (try (have hb : @Eq Bool _ _ := hc; simp only [hb]; clear hb))))
    refine hexit _ _ ?_
    repeat' (first | simp (maxSteps := 10000000) (disch := omega) only [go_sem, Nat.reduceAdd, Nat.reduceSub, Nat.reduceMul, Nat.reduceLT, Nat.reduceLeDiff, Nat.reduceEqDiff, Nat.reduceBEq, Nat.reduceBNe, reduceCtorEq, Int.reduceBNe, Int.reduceBEq, blt0, Int.reduceToNat, Int.toNat_zero, Int.toNat_one, if_pos, if_neg, wrap_i64, decide_eq_true, decide_eq_false, ibeq_t, ibeq_f, ibne_t, ibne_f, Int.toNat_natCast, tn_sub1, tn_add1, List.getElem?_map, gx, reach_i1, reach_i2, reach_s1, reach_si, reach_ss] | simp (maxSteps := 10000000) (disch := (simp only [List.length_append, List.length_map, List.length_take, List.length_drop, List.length_cons, List.length_nil]; omega)) only [str_add, if_pos, if_neg] | simp only [go_sem, Nat.reduceAdd, Nat.reduceSub, Nat.reduceMul, Nat.reduceLT, Nat.reduceLeDiff, Nat.reduceEqDiff, Nat.reduceBEq, Nat.reduceBNe, reduceCtorEq, Int.reduceBNe, Int.reduceBEq, blt0] | ((first | refine WC_split (fun hc => ?_) (fun hc => ?_) | refine WS_split (fun hc => ?_) (fun hc => ?_) | refine WD_split (fun hc => ?_) (fun hc => ?_)) <;> (try simp only [hc]) <;> (try simp only [Bool.and_eq_true, Bool.or_eq_true, Bool.not_eq_true', Bool.not_eq_false', decide_eq_true_eq, decide_eq_false_iff_not, beq_iff_eq, beq_eq_false_iff_ne, bne_iff_ne, bne_eq_false_iff_eq, ne_eq] at hc) <;> (try (have hb : @Eq Bool _ _ := hc; simp only [hb]; clear hb))))
    refine k_loop (T75b a l) (fun x => x.1 ≤ a.length ∧ (x.2 = [7, 6] ∨ x.2 = [6, 7])) (fun x => a.length - x.1) (0, [7, 6]) (K := cfg.kill 16 16) rfl ⟨Nat.zero_le _, Or.inl rfl⟩ (head_map (gone_all _ l) (by kernel_rfl) (by kernel_rfl) (by kernel_rfl) (by kernel_rfl)) ?_
    clear hexit hret hi hlt
    intro ⟨i, ow⟩ ⟨hi, how⟩ k' Q' hnorm hexit hret
    simp only at hi how
    have eS : T75b a l (i, ow) = { fr := mkF 71 [(6, .sl true ((keepA l (a.take i)).map prow)), (7, .sl true ((puts l).map prow)), (8, .map 0), (50, .sl true (a.map prow)), (51, .int .i64 a.length), (52, .int .i64 i)], own := ow, hp := [.map (goneM l)], al := [], nb := 0 } := rfl
    rw [eS]
    have hkl := keep_len (l := l) (a := a.take i)
    rw [List.length_take] at hkl
    have hb : ((keepA l (a.take i)).length + 1) * 16 ≤ strMax := by unfold strMax; omega
    have HE := gone_all (fun i => Nat.blt i 1) l
    rcases how with rfl | rfl
    · simp only [eS, mkF, List.foldl, List.replicate, List.set, List.cons_append, List.nil_append]
      by_cases hlt : i < a.length
      · have e1 := keep_step (l := l) hlt
        have eT : ∀ ow X, keepA l (a.take (i + 1)) = X → T75b a l (i + 1, ow) = { fr := mkF 71 [(6, .sl true (X.map prow)), (7, .sl true ((puts l).map prow)), (8, .map 0), (50, .sl true (a.map prow)), (51, .int .i64 a.length), (52, .int .i64 ((i : Int) + 1))], own := ow, hp := [.map (goneM l)], al := [], nb := 0 } := fun ow X hX => by simp only [T75b, hX]; rfl
        have eT := fun ow => eT ow _ e1
        cases hg : goneT l a[i] with
        | true =>
          obtain ⟨n, hf⟩ := find_yes (k := a[i].1) (l := l) (j := 0) (by
            obtain ⟨t, ht, he⟩ := List.any_eq_true.1 hg
            exact ⟨t, ht, by simpa using he⟩)
          have m1 := fun d => mget_yes (d := d) hf
          simp only [if_pos hg, List.append_nil] at eT
          generalize goneM l = G at m1 eT hf HE ⊢
          generalize keepA l (a.take i) = P at hb eT ⊢
          repeat' (first | simp (maxSteps := 10000000) (disch := omega) only [go_sem, Nat.reduceAdd, Nat.reduceSub, Nat.reduceMul, Nat.reduceLT, Nat.reduceLeDiff, Nat.reduceEqDiff, Nat.reduceBEq, Nat.reduceBNe, reduceCtorEq, Int.reduceBNe, Int.reduceBEq, blt0, Int.reduceToNat, Int.toNat_zero, Int.toNat_one, if_pos, if_neg, wrap_i64, decide_eq_true, decide_eq_false, ibeq_t, ibeq_f, ibne_t, ibne_f, Int.toNat_natCast, tn_sub1, tn_add1, List.getElem?_map, gx, reach_i1, reach_i2, reach_s1, reach_si, reach_ss, prow, m1] | simp (maxSteps := 10000000) (disch := (simp only [List.length_append, List.length_map, List.length_take, List.length_drop, List.length_cons, List.length_nil]; omega)) only [str_add, if_pos, if_neg] | simp only [go_sem, Nat.reduceAdd, Nat.reduceSub, Nat.reduceMul, Nat.reduceLT, Nat.reduceLeDiff, Nat.reduceEqDiff, Nat.reduceBEq, Nat.reduceBNe, reduceCtorEq, Int.reduceBNe, Int.reduceBEq, blt0, prow, m1] | ((first | refine WC_split (fun hc => ?_) (fun hc => ?_) | refine WS_split (fun hc => ?_) (fun hc => ?_) | refine WD_split (fun hc => ?_) (fun hc => ?_)) <;> (try simp only [hc]) <;> (try simp only [Bool.and_eq_true, Bool.or_eq_true, Bool.not_eq_true', Bool.not_eq_false', decide_eq_true_eq, decide_eq_false_iff_not, beq_iff_eq, beq_eq_false_iff_ne, bne_iff_ne, bne_eq_false_iff_eq, ne_eq] at hc) <;> (try (have hb : @Eq Bool _ _ := hc; simp only [hb]; clear hb))))
          refine hnorm (i + 1, [7, 6]) _ ⟨by simp only; omega, Or.inl rfl⟩ (by simp only; omega) ?_
          rw [eT]
          exact head_map HE (by kernel_rfl) (by kernel_rfl) (by kernel_rfl) (by kernel_rfl)
        | false =>
          have hf := find_no (k := a[i].1) (l := l) (j := 0) fun t ht he => by
            have := List.any_eq_false.1 hg t ht
            simp only [beq_iff_eq] at this
            exact this he
          have m1 := fun d => mget_no (d := d) hf
          simp only [if_neg (show ¬ goneT l a[i] = true by rw [hg]; simp), List.map_append] at eT
          generalize goneM l = G at m1 eT hf HE ⊢
          generalize keepA l (a.take i) = P at hb eT ⊢
          repeat' (first | simp (maxSteps := 10000000) (disch := omega) only [go_sem, Nat.reduceAdd, Nat.reduceSub, Nat.reduceMul, Nat.reduceLT, Nat.reduceLeDiff, Nat.reduceEqDiff, Nat.reduceBEq, Nat.reduceBNe, reduceCtorEq, Int.reduceBNe, Int.reduceBEq, blt0, Int.reduceToNat, Int.toNat_zero, Int.toNat_one, if_pos, if_neg, wrap_i64, decide_eq_true, decide_eq_false, ibeq_t, ibeq_f, ibne_t, ibne_f, Int.toNat_natCast, tn_sub1, tn_add1, List.getElem?_map, gx, reach_i1, reach_i2, reach_s1, reach_si, reach_ss, prow, m1, fit_prow, head_prow, head_prow2, hb, appendM] | simp (maxSteps := 10000000) (disch := (simp only [List.length_append, List.length_map, List.length_take, List.length_drop, List.length_cons, List.length_nil]; omega)) only [str_add, if_pos, if_neg] | simp only [go_sem, Nat.reduceAdd, Nat.reduceSub, Nat.reduceMul, Nat.reduceLT, Nat.reduceLeDiff, Nat.reduceEqDiff, Nat.reduceBEq, Nat.reduceBNe, reduceCtorEq, Int.reduceBNe, Int.reduceBEq, blt0, prow, m1, fit_prow, head_prow, head_prow2, hb, appendM] | ((first | refine WC_split (fun hc => ?_) (fun hc => ?_) | refine WS_split (fun hc => ?_) (fun hc => ?_) | refine WD_split (fun hc => ?_) (fun hc => ?_)) <;> (try simp only [hc]) <;> (try simp only [Bool.and_eq_true, Bool.or_eq_true, Bool.not_eq_true', Bool.not_eq_false', decide_eq_true_eq, decide_eq_false_iff_not, beq_iff_eq, beq_eq_false_iff_ne, bne_iff_ne, bne_eq_false_iff_eq, ne_eq] at hc) <;> (try (have hb : @Eq Bool _ _ := hc; simp only [hb]; clear hb))))
          refine hnorm (i + 1, [6, 7]) _ ⟨by simp only; omega, Or.inr rfl⟩ (by simp only; omega) ?_
          rw [eT]
          exact head_map HE (by kernel_rfl) (by kernel_rfl) (by kernel_rfl) (by kernel_rfl)
      · rw [List.take_of_length_le (by omega)]
        repeat' (first | simp (maxSteps := 10000000) (disch := omega) only [go_sem, Nat.reduceAdd, Nat.reduceSub, Nat.reduceMul, Nat.reduceLT, Nat.reduceLeDiff, Nat.reduceEqDiff, Nat.reduceBEq, Nat.reduceBNe, reduceCtorEq, Int.reduceBNe, Int.reduceBEq, blt0, Int.reduceToNat, Int.toNat_zero, Int.toNat_one, if_pos, if_neg, wrap_i64, decide_eq_true, decide_eq_false, ibeq_t, ibeq_f, ibne_t, ibne_f, Int.toNat_natCast, tn_sub1, tn_add1, List.getElem?_map, gx, reach_i1, reach_i2, reach_s1, reach_si, reach_ss] | simp (maxSteps := 10000000) (disch := (simp only [List.length_append, List.length_map, List.length_take, List.length_drop, List.length_cons, List.length_nil]; omega)) only [str_add, if_pos, if_neg] | simp only [go_sem, Nat.reduceAdd, Nat.reduceSub, Nat.reduceMul, Nat.reduceLT, Nat.reduceLeDiff, Nat.reduceEqDiff, Nat.reduceBEq, Nat.reduceBNe, reduceCtorEq, Int.reduceBNe, Int.reduceBEq, blt0] | ((first | refine WC_split (fun hc => ?_) (fun hc => ?_) | refine WS_split (fun hc => ?_) (fun hc => ?_) | refine WD_split (fun hc => ?_) (fun hc => ?_)) <;> (try simp only [hc]) <;> (try simp only [Bool.and_eq_true, Bool.or_eq_true, Bool.not_eq_true', Bool.not_eq_false', decide_eq_true_eq, decide_eq_false_iff_not, beq_iff_eq, beq_eq_false_iff_ne, bne_iff_ne, bne_eq_false_iff_eq, ne_eq] at hc) <;> (try (have hb : @Eq Bool _ _ := hc; simp only [hb]; clear hb))))
        refine hexit _ _ ?_
        repeat' (first | simp (maxSteps := 10000000) (disch := omega) only [go_sem, Nat.reduceAdd, Nat.reduceSub, Nat.reduceMul, Nat.reduceLT, Nat.reduceLeDiff, Nat.reduceEqDiff, Nat.reduceBEq, Nat.reduceBNe, reduceCtorEq, Int.reduceBNe, Int.reduceBEq, blt0, Int.reduceToNat, Int.toNat_zero, Int.toNat_one, if_pos, if_neg, wrap_i64, decide_eq_true, decide_eq_false, ibeq_t, ibeq_f, ibne_t, ibne_f, Int.toNat_natCast, tn_sub1, tn_add1, List.getElem?_map, gx, reach_i1, reach_i2, reach_s1, reach_si, reach_ss, hj] | simp (maxSteps := 10000000) (disch := (simp only [List.length_append, List.length_map, List.length_take, List.length_drop, List.length_cons, List.length_nil]; omega)) only [str_add, if_pos, if_neg] | simp only [go_sem, Nat.reduceAdd, Nat.reduceSub, Nat.reduceMul, Nat.reduceLT, Nat.reduceLeDiff, Nat.reduceEqDiff, Nat.reduceBEq, Nat.reduceBNe, reduceCtorEq, Int.reduceBNe, Int.reduceBEq, blt0, hj] | ((first | refine WC_split (fun hc => ?_) (fun hc => ?_) | refine WS_split (fun hc => ?_) (fun hc => ?_) | refine WD_split (fun hc => ?_) (fun hc => ?_)) <;> (try simp only [hc]) <;> (try simp only [Bool.and_eq_true, Bool.or_eq_true, Bool.not_eq_true', Bool.not_eq_false', decide_eq_true_eq, decide_eq_false_iff_not, beq_iff_eq, beq_eq_false_iff_ne, bne_iff_ne, bne_eq_false_iff_eq, ne_eq] at hc) <;> (try (have hb : @Eq Bool _ _ := hc; simp only [hb]; clear hb))))
        exact ret2 (fun _ => ex_ret) rfl rfl rfl rfl ⟨rfl, rfl, rfl⟩
    · simp only [eS, mkF, List.foldl, List.replicate, List.set, List.cons_append, List.nil_append]
      by_cases hlt : i < a.length
      · have e1 := keep_step (l := l) hlt
        have eT : ∀ ow X, keepA l (a.take (i + 1)) = X → T75b a l (i + 1, ow) = { fr := mkF 71 [(6, .sl true (X.map prow)), (7, .sl true ((puts l).map prow)), (8, .map 0), (50, .sl true (a.map prow)), (51, .int .i64 a.length), (52, .int .i64 ((i : Int) + 1))], own := ow, hp := [.map (goneM l)], al := [], nb := 0 } := fun ow X hX => by simp only [T75b, hX]; rfl
        have eT := fun ow => eT ow _ e1
        cases hg : goneT l a[i] with
        | true =>
          obtain ⟨n, hf⟩ := find_yes (k := a[i].1) (l := l) (j := 0) (by
            obtain ⟨t, ht, he⟩ := List.any_eq_true.1 hg
            exact ⟨t, ht, by simpa using he⟩)
          have m1 := fun d => mget_yes (d := d) hf
          simp only [if_pos hg, List.append_nil] at eT
          generalize goneM l = G at m1 eT hf HE ⊢
          generalize keepA l (a.take i) = P at hb eT ⊢
          repeat' (first | simp (maxSteps := 10000000) (disch := omega) only [go_sem, Nat.reduceAdd, Nat.reduceSub, Nat.reduceMul, Nat.reduceLT, Nat.reduceLeDiff, Nat.reduceEqDiff, Nat.reduceBEq, Nat.reduceBNe, reduceCtorEq, Int.reduceBNe, Int.reduceBEq, blt0, Int.reduceToNat, Int.toNat_zero, Int.toNat_one, if_pos, if_neg, wrap_i64, decide_eq_true, decide_eq_false, ibeq_t, ibeq_f, ibne_t, ibne_f, Int.toNat_natCast, tn_sub1, tn_add1, List.getElem?_map, gx, reach_i1, reach_i2, reach_s1, reach_si, reach_ss, prow, m1] | simp (maxSteps := 10000000) (disch := (simp only [List.length_append, List.length_map, List.length_take, List.length_drop, List.length_cons, List.length_nil]; omega)) only [str_add, if_pos, if_neg] | simp only [go_sem, Nat.reduceAdd, Nat.reduceSub, Nat.reduceMul, Nat.reduceLT, Nat.reduceLeDiff, Nat.reduceEqDiff, Nat.reduceBEq, Nat.reduceBNe, reduceCtorEq, Int.reduceBNe, Int.reduceBEq, blt0, prow, m1] | ((first | refine WC_split (fun hc => ?_) (fun hc => ?_) | refine WS_split (fun hc => ?_) (fun hc => ?_) | refine WD_split (fun hc => ?_) (fun hc => ?_)) <;> (try simp only [hc]) <;> (try simp only [Bool.and_eq_true, Bool.or_eq_true, Bool.not_eq_true', Bool.not_eq_false', decide_eq_true_eq, decide_eq_false_iff_not, beq_iff_eq, beq_eq_false_iff_ne, bne_iff_ne, bne_eq_false_iff_eq, ne_eq] at hc) <;> (try (have hb : @Eq Bool _ _ := hc; simp only [hb]; clear hb))))
          refine hnorm (i + 1, [6, 7]) _ ⟨by simp only; omega, Or.inr rfl⟩ (by simp only; omega) ?_
          rw [eT]
          exact head_map HE (by kernel_rfl) (by kernel_rfl) (by kernel_rfl) (by kernel_rfl)
        | false =>
          have hf := find_no (k := a[i].1) (l := l) (j := 0) fun t ht he => by
            have := List.any_eq_false.1 hg t ht
            simp only [beq_iff_eq] at this
            exact this he
          have m1 := fun d => mget_no (d := d) hf
          simp only [if_neg (show ¬ goneT l a[i] = true by rw [hg]; simp), List.map_append] at eT
          generalize goneM l = G at m1 eT hf HE ⊢
          generalize keepA l (a.take i) = P at hb eT ⊢
          repeat' (first | simp (maxSteps := 10000000) (disch := omega) only [go_sem, Nat.reduceAdd, Nat.reduceSub, Nat.reduceMul, Nat.reduceLT, Nat.reduceLeDiff, Nat.reduceEqDiff, Nat.reduceBEq, Nat.reduceBNe, reduceCtorEq, Int.reduceBNe, Int.reduceBEq, blt0, Int.reduceToNat, Int.toNat_zero, Int.toNat_one, if_pos, if_neg, wrap_i64, decide_eq_true, decide_eq_false, ibeq_t, ibeq_f, ibne_t, ibne_f, Int.toNat_natCast, tn_sub1, tn_add1, List.getElem?_map, gx, reach_i1, reach_i2, reach_s1, reach_si, reach_ss, prow, m1, fit_prow, head_prow, head_prow2, hb, appendM] | simp (maxSteps := 10000000) (disch := (simp only [List.length_append, List.length_map, List.length_take, List.length_drop, List.length_cons, List.length_nil]; omega)) only [str_add, if_pos, if_neg] | simp only [go_sem, Nat.reduceAdd, Nat.reduceSub, Nat.reduceMul, Nat.reduceLT, Nat.reduceLeDiff, Nat.reduceEqDiff, Nat.reduceBEq, Nat.reduceBNe, reduceCtorEq, Int.reduceBNe, Int.reduceBEq, blt0, prow, m1, fit_prow, head_prow, head_prow2, hb, appendM] | ((first | refine WC_split (fun hc => ?_) (fun hc => ?_) | refine WS_split (fun hc => ?_) (fun hc => ?_) | refine WD_split (fun hc => ?_) (fun hc => ?_)) <;> (try simp only [hc]) <;> (try simp only [Bool.and_eq_true, Bool.or_eq_true, Bool.not_eq_true', Bool.not_eq_false', decide_eq_true_eq, decide_eq_false_iff_not, beq_iff_eq, beq_eq_false_iff_ne, bne_iff_ne, bne_eq_false_iff_eq, ne_eq] at hc) <;> (try (have hb : @Eq Bool _ _ := hc; simp only [hb]; clear hb))))
          refine hnorm (i + 1, [6, 7]) _ ⟨by simp only; omega, Or.inr rfl⟩ (by simp only; omega) ?_
          rw [eT]
          exact head_map HE (by kernel_rfl) (by kernel_rfl) (by kernel_rfl) (by kernel_rfl)
      · rw [List.take_of_length_le (by omega)]
        repeat' (first | simp (maxSteps := 10000000) (disch := omega) only [go_sem, Nat.reduceAdd, Nat.reduceSub, Nat.reduceMul, Nat.reduceLT, Nat.reduceLeDiff, Nat.reduceEqDiff, Nat.reduceBEq, Nat.reduceBNe, reduceCtorEq, Int.reduceBNe, Int.reduceBEq, blt0, Int.reduceToNat, Int.toNat_zero, Int.toNat_one, if_pos, if_neg, wrap_i64, decide_eq_true, decide_eq_false, ibeq_t, ibeq_f, ibne_t, ibne_f, Int.toNat_natCast, tn_sub1, tn_add1, List.getElem?_map, gx, reach_i1, reach_i2, reach_s1, reach_si, reach_ss] | simp (maxSteps := 10000000) (disch := (simp only [List.length_append, List.length_map, List.length_take, List.length_drop, List.length_cons, List.length_nil]; omega)) only [str_add, if_pos, if_neg] | simp only [go_sem, Nat.reduceAdd, Nat.reduceSub, Nat.reduceMul, Nat.reduceLT, Nat.reduceLeDiff, Nat.reduceEqDiff, Nat.reduceBEq, Nat.reduceBNe, reduceCtorEq, Int.reduceBNe, Int.reduceBEq, blt0] | ((first | refine WC_split (fun hc => ?_) (fun hc => ?_) | refine WS_split (fun hc => ?_) (fun hc => ?_) | refine WD_split (fun hc => ?_) (fun hc => ?_)) <;> (try simp only [hc]) <;> (try simp only [Bool.and_eq_true, Bool.or_eq_true, Bool.not_eq_true', Bool.not_eq_false', decide_eq_true_eq, decide_eq_false_iff_not, beq_iff_eq, beq_eq_false_iff_ne, bne_iff_ne, bne_eq_false_iff_eq, ne_eq] at hc) <;> (try (have hb : @Eq Bool _ _ := hc; simp only [hb]; clear hb))))
        refine hexit _ _ ?_
        repeat' (first | simp (maxSteps := 10000000) (disch := omega) only [go_sem, Nat.reduceAdd, Nat.reduceSub, Nat.reduceMul, Nat.reduceLT, Nat.reduceLeDiff, Nat.reduceEqDiff, Nat.reduceBEq, Nat.reduceBNe, reduceCtorEq, Int.reduceBNe, Int.reduceBEq, blt0, Int.reduceToNat, Int.toNat_zero, Int.toNat_one, if_pos, if_neg, wrap_i64, decide_eq_true, decide_eq_false, ibeq_t, ibeq_f, ibne_t, ibne_f, Int.toNat_natCast, tn_sub1, tn_add1, List.getElem?_map, gx, reach_i1, reach_i2, reach_s1, reach_si, reach_ss, hj] | simp (maxSteps := 10000000) (disch := (simp only [List.length_append, List.length_map, List.length_take, List.length_drop, List.length_cons, List.length_nil]; omega)) only [str_add, if_pos, if_neg] | simp only [go_sem, Nat.reduceAdd, Nat.reduceSub, Nat.reduceMul, Nat.reduceLT, Nat.reduceLeDiff, Nat.reduceEqDiff, Nat.reduceBEq, Nat.reduceBNe, reduceCtorEq, Int.reduceBNe, Int.reduceBEq, blt0, hj] | ((first | refine WC_split (fun hc => ?_) (fun hc => ?_) | refine WS_split (fun hc => ?_) (fun hc => ?_) | refine WD_split (fun hc => ?_) (fun hc => ?_)) <;> (try simp only [hc]) <;> (try simp only [Bool.and_eq_true, Bool.or_eq_true, Bool.not_eq_true', Bool.not_eq_false', decide_eq_true_eq, decide_eq_false_iff_not, beq_iff_eq, beq_eq_false_iff_ne, bne_iff_ne, bne_eq_false_iff_eq, ne_eq] at hc) <;> (try (have hb : @Eq Bool _ _ := hc; simp only [hb]; clear hb))))
        exact ret2 (fun _ => ex_ret) rfl rfl rfl rfl ⟨rfl, rfl, rfl⟩
end Go.Proofs.Ytknblodiilgogaa
