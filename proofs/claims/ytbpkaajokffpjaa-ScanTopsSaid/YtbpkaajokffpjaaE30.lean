/- The greatest, in order: the program's answer. -/
import Derived.Test.YtbpkaajokffpjaaE29
set_option linter.all false
set_option maxRecDepth 100000
namespace Go.Proofs.Ytbpkaajokffpjaa
open Go Go.Abs

def topL (M : List PR) (n : Int) : List PR := (sortZ 1 M).take n.toNat
theorem flatP_flatZ : ∀ M : List PR, flatP M = flatZ M
  | [] => rfl
  | p :: M => by
    have := flatP_flatZ M
    simp only [flatP, List.map_cons, List.flatten_cons, flatZ, prow, List.cons_append, List.nil_append] at this ⊢
    rw [this]
theorem fn_srt : cfg.fn 140 = none := rfl
theorem cln_srt : cfg.cln 140 = none := rfl
theorem srt_top : cfg.srt 140 141 = some (125, 1) := rfl
theorem flatP_ids (acc : List Nat) (O : List PR) : V.idsl acc (flatP O) = acc := by
  induction O with
  | nil => rfl
  | cons o O ih => exact ih
theorem reach_b1 {b0 : Blk} {t : TypeId} {cs : List V} {k a : Nat} (h : V.idsl [1] cs = [1]) : reach [b0, .cells t [] cs] [.ms 1 0 k k, .fn a []] = [1] := by
  have e : reachGo [b0, .cells t [] cs] 2 [1] = [1] := by
    unfold reachGo
    show (if (V.idsl [1] cs).length = [1].length then [1] else reachGo _ 1 (V.idsl [1] cs)) = [1]
    rw [h]; rfl
  show (List.range 2).filter (fun i => (reachGo [b0, .cells t [] cs] 2 [1]).contains i) = [1]
  rw [e]; rfl
theorem closed_b1 {b0 : Blk} {t : TypeId} {cs : List V} {k a : Nat} (h : V.alll (fun i => [1].contains i) cs = true) : closedIn [b0, .cells t [] cs] [1] [.ms 1 0 k k, .fn a []] = true := by
  show (true && ((true && V.alll (fun i => [1].contains i) cs) && true)) = true
  rw [h]; rfl
theorem sub_b1 {b0 : Blk} {t : TypeId} {cs : List V} (h : V.renl (fun i => [1].idxOf i) cs = cs) : subHp [b0, .cells t [] cs] [1] = [.cells t [] cs] := by
  show [Blk.cells t [] (V.renl (fun i => [1].idxOf i) cs)] = _
  rw [h]
set_option maxHeartbeats 4000000 in
theorem call_61 (l : List PR) (on : List SR) (n : Int) (hlen : l.length ≤ 100000) (hon : on.length ≤ 100000) :
    (Lim cfg).call 61 [.sl true (l.map prow), .sl true (on.map srow), .int .i64 n] [] = some (.sl true ((topL (clip l on) n).map prow), false, []) := by
  have c1 := call_74 l on hlen hon
  obtain ⟨hr, _, hml⟩ := clip_rise l on
  rcases Decidable.em (clip l on = []) with hO | hO
  · rw [hO] at c1
    simp only [clipV, clipB, List.map_nil] at c1
    generalize (!(chk l && setS on)) = own at c1
    rw [hO]
    have e0 : topL [] n = [] := by simp [topL, sortZ]
    have c2 := call_srt0 (d := true) fn_srt cln_srt srt_top
    have e1 : min (((0 : Nat) : Int)) (max n 0) = 0 := by omega
    have s1 : sliceV cfg 43 (.sl true []) none (some (.int .i64 ((0 : Nat) : Int))) none = some (.sl true []) := rfl
    rw [e0]
    cases own with
    | true =>
      refine call_eq fn_61 rfl ?_
      rw [k_start]
      simp only [Try.f61, List.length_cons, List.length_nil, Nat.zero_add, Nat.reduceSub, Nat.reduceAdd, List.replicate, List.cons_append, List.nil_append]
      repeat' (first | simp (maxSteps := 10000000) (disch := omega) only [go_sem, Nat.reduceAdd, Nat.reduceSub, Nat.reduceMul, Nat.reduceLT, Nat.reduceLeDiff, Nat.reduceEqDiff, Nat.reduceBEq, Nat.reduceBNe, reduceCtorEq, Int.reduceBNe, Int.reduceBEq, blt0, Int.reduceToNat, Int.toNat_zero, Int.toNat_one, if_pos, if_neg, wrap_i64, decide_eq_true, decide_eq_false, ibeq_t, ibeq_f, ibne_t, ibne_f, Int.toNat_natCast, tn_sub1, tn_add1, List.getElem?_map, gx, reach_i1, reach_i2, reach_s1, reach_si, reach_ss, c1, c2, fz_cons, freezeT, ite_min, ite_max, e1, s1] | simp (maxSteps := 10000000) (disch := (simp only [List.length_append, List.length_map, List.length_take, List.length_drop, List.length_cons, List.length_nil]; omega)) only [str_add, if_pos, if_neg] | simp only [go_sem, Nat.reduceAdd, Nat.reduceSub, Nat.reduceMul, Nat.reduceLT, Nat.reduceLeDiff, Nat.reduceEqDiff, Nat.reduceBEq, Nat.reduceBNe, reduceCtorEq, Int.reduceBNe, Int.reduceBEq, blt0, c1, c2, fz_cons, freezeT, ite_min, ite_max, e1, s1] | (refine WC_split (fun hc => ?_) (fun hc => ?_) <;> (try simp only [hc]) <;> (try simp only [Bool.and_eq_true, Bool.or_eq_true, Bool.not_eq_true', Bool.not_eq_false', decide_eq_true_eq, decide_eq_false_iff_not, beq_iff_eq, beq_eq_false_iff_ne, bne_iff_ne, bne_eq_false_iff_eq, ne_eq] at hc) <;> (try (have hb : @Eq Bool _ _ := hc; simp only [hb]; clear hb))) | (refine WS_split (fun hc => ?_) (fun hc => ?_) <;> (try simp only [hc]) <;> (try simp only [Bool.and_eq_true, Bool.or_eq_true, Bool.not_eq_true', Bool.not_eq_false', decide_eq_true_eq, decide_eq_false_iff_not, beq_iff_eq, beq_eq_false_iff_ne, bne_iff_ne, bne_eq_false_iff_eq, ne_eq] at hc) <;> (try (have hb : @Eq Bool _ _ := hc; simp only [hb]; clear hb))) | (refine WD_split (fun hc => ?_) (fun hc => ?_) <;> (try simp only [hc]) <;> (try simp only [Bool.and_eq_true, Bool.or_eq_true, Bool.not_eq_true', Bool.not_eq_false', decide_eq_true_eq, decide_eq_false_iff_not, beq_iff_eq, beq_eq_false_iff_ne, bne_iff_ne, bne_eq_false_iff_eq, ne_eq] at hc) <;> (try (have hb : @Eq Bool _ _ := hc; simp only [hb]; clear hb))))
      exact ret1 (fun _ => ex_ret) rfl rfl rfl ⟨rfl, rfl, rfl⟩
    | false =>
      refine call_eq fn_61 rfl ?_
      rw [k_start]
      simp only [Try.f61, List.length_cons, List.length_nil, Nat.zero_add, Nat.reduceSub, Nat.reduceAdd, List.replicate, List.cons_append, List.nil_append]
      repeat' (first | simp (maxSteps := 10000000) (disch := omega) only [go_sem, Nat.reduceAdd, Nat.reduceSub, Nat.reduceMul, Nat.reduceLT, Nat.reduceLeDiff, Nat.reduceEqDiff, Nat.reduceBEq, Nat.reduceBNe, reduceCtorEq, Int.reduceBNe, Int.reduceBEq, blt0, Int.reduceToNat, Int.toNat_zero, Int.toNat_one, if_pos, if_neg, wrap_i64, decide_eq_true, decide_eq_false, ibeq_t, ibeq_f, ibne_t, ibne_f, Int.toNat_natCast, tn_sub1, tn_add1, List.getElem?_map, gx, reach_i1, reach_i2, reach_s1, reach_si, reach_ss, c1, c2, fz_cons, freezeT, ite_min, ite_max, e1, s1] | simp (maxSteps := 10000000) (disch := (simp only [List.length_append, List.length_map, List.length_take, List.length_drop, List.length_cons, List.length_nil]; omega)) only [str_add, if_pos, if_neg] | simp only [go_sem, Nat.reduceAdd, Nat.reduceSub, Nat.reduceMul, Nat.reduceLT, Nat.reduceLeDiff, Nat.reduceEqDiff, Nat.reduceBEq, Nat.reduceBNe, reduceCtorEq, Int.reduceBNe, Int.reduceBEq, blt0, c1, c2, fz_cons, freezeT, ite_min, ite_max, e1, s1] | (refine WC_split (fun hc => ?_) (fun hc => ?_) <;> (try simp only [hc]) <;> (try simp only [Bool.and_eq_true, Bool.or_eq_true, Bool.not_eq_true', Bool.not_eq_false', decide_eq_true_eq, decide_eq_false_iff_not, beq_iff_eq, beq_eq_false_iff_ne, bne_iff_ne, bne_eq_false_iff_eq, ne_eq] at hc) <;> (try (have hb : @Eq Bool _ _ := hc; simp only [hb]; clear hb))) | (refine WS_split (fun hc => ?_) (fun hc => ?_) <;> (try simp only [hc]) <;> (try simp only [Bool.and_eq_true, Bool.or_eq_true, Bool.not_eq_true', Bool.not_eq_false', decide_eq_true_eq, decide_eq_false_iff_not, beq_iff_eq, beq_eq_false_iff_ne, bne_iff_ne, bne_eq_false_iff_eq, ne_eq] at hc) <;> (try (have hb : @Eq Bool _ _ := hc; simp only [hb]; clear hb))) | (refine WD_split (fun hc => ?_) (fun hc => ?_) <;> (try simp only [hc]) <;> (try simp only [Bool.and_eq_true, Bool.or_eq_true, Bool.not_eq_true', Bool.not_eq_false', decide_eq_true_eq, decide_eq_false_iff_not, beq_iff_eq, beq_eq_false_iff_ne, bne_iff_ne, bne_eq_false_iff_eq, ne_eq] at hc) <;> (try (have hb : @Eq Bool _ _ := hc; simp only [hb]; clear hb))))
      exact ret1 (fun _ => ex_ret) rfl rfl rfl ⟨rfl, rfl, rfl⟩
  · generalize clip l on = M at c1 hr hml hO ⊢
    have hsl := sortZ_len 1 M
    have hst := rise_strict 1 hr
    obtain ⟨o, r, rfl⟩ := List.exists_cons_of_ne_nil hO
    have c2 := call_srt (l := o :: r) (cap := (o :: r).length) (r := []) (ow := []) fn_srt cln_srt srt_top (by omega) hst
    rw [List.append_nil, List.append_nil, ← flatP_flatZ, ← flatP_flatZ] at c2
    simp only [clipV, clipB, prow] at c1
    rw [topL]
    generalize sortZ 1 (o :: r) = S at c2 hsl ⊢
    simp only [List.length_cons] at hsl c2
    have f1 : (flatP S).length = (r.length + 1) * 2 := by rw [flatP_len, hsl]
    have f6 : (flatP S).take ((r.length + 1) * 2) = flatP S := by rw [← hsl]; exact flatP_take S
    have f7 : rowsOf 2 (r.length + 1) (flatP S) = S.map prow := by rw [← hsl]; exact flatP_rows S
    have q5 : aloneIn 1 [Blk.cells 125 [] [V.int IntKind.i64 o.fst, V.int IntKind.i64 o.snd], Blk.cells 125 [] (flatP S)] = true := rfl
    have hmn : (min (S.length : Int) (max n 0)) = ((min S.length n.toNat : Nat) : Int) := by omega
    have s1 := slp_to S (k := min S.length n.toNat) (by omega)
    refine call_eq fn_61 rfl ?_
    rw [k_start]
    simp only [Try.f61, List.length_cons, List.length_nil, Nat.zero_add, Nat.reduceSub, Nat.reduceAdd, List.replicate, List.cons_append, List.nil_append]
    repeat' (first | simp (maxSteps := 10000000) (disch := omega) only [go_sem, Nat.reduceAdd, Nat.reduceSub, Nat.reduceMul, Nat.reduceLT, Nat.reduceLeDiff, Nat.reduceEqDiff, Nat.reduceBEq, Nat.reduceBNe, reduceCtorEq, Int.reduceBNe, Int.reduceBEq, blt0, Int.reduceToNat, Int.toNat_zero, Int.toNat_one, if_pos, if_neg, wrap_i64, decide_eq_true, decide_eq_false, ibeq_t, ibeq_f, ibne_t, ibne_f, Int.toNat_natCast, tn_sub1, tn_add1, List.getElem?_map, gx, reach_i1, reach_i2, reach_s1, reach_si, reach_ss, c1, fz_cons, freezeT, flatP_ren] | simp (maxSteps := 10000000) (disch := (simp only [List.length_append, List.length_map, List.length_take, List.length_drop, List.length_cons, List.length_nil]; omega)) only [str_add, if_pos, if_neg] | simp only [go_sem, Nat.reduceAdd, Nat.reduceSub, Nat.reduceMul, Nat.reduceLT, Nat.reduceLeDiff, Nat.reduceEqDiff, Nat.reduceBEq, Nat.reduceBNe, reduceCtorEq, Int.reduceBNe, Int.reduceBEq, blt0, c1, fz_cons, freezeT, flatP_ren] | (refine WC_split (fun hc => ?_) (fun hc => ?_) <;> (try simp only [hc]) <;> (try simp only [Bool.and_eq_true, Bool.or_eq_true, Bool.not_eq_true', Bool.not_eq_false', decide_eq_true_eq, decide_eq_false_iff_not, beq_iff_eq, beq_eq_false_iff_ne, bne_iff_ne, bne_eq_false_iff_eq, ne_eq] at hc) <;> (try (have hb : @Eq Bool _ _ := hc; simp only [hb]; clear hb))) | (refine WS_split (fun hc => ?_) (fun hc => ?_) <;> (try simp only [hc]) <;> (try simp only [Bool.and_eq_true, Bool.or_eq_true, Bool.not_eq_true', Bool.not_eq_false', decide_eq_true_eq, decide_eq_false_iff_not, beq_iff_eq, beq_eq_false_iff_ne, bne_iff_ne, bne_eq_false_iff_eq, ne_eq] at hc) <;> (try (have hb : @Eq Bool _ _ := hc; simp only [hb]; clear hb))) | (refine WD_split (fun hc => ?_) (fun hc => ?_) <;> (try simp only [hc]) <;> (try simp only [Bool.and_eq_true, Bool.or_eq_true, Bool.not_eq_true', Bool.not_eq_false', decide_eq_true_eq, decide_eq_false_iff_not, beq_iff_eq, beq_eq_false_iff_ne, bne_iff_ne, bne_eq_false_iff_eq, ne_eq] at hc) <;> (try (have hb : @Eq Bool _ _ := hc; simp only [hb]; clear hb))))
    rw [callHeap_at (R := [1]) c2 (hR := reach_b1 (flatP_ids _ _)) (hc := closed_b1 (flatP_all _ _)) (hs := sub_b1 (flatP_ren _ _))]
    have hc0 : List.take 2 (flatP S) :: rowsOf 2 r.length (List.drop 2 (flatP S)) = S.map prow := f7
    repeat' (first | simp (maxSteps := 10000000) (disch := omega) only [go_sem, Nat.reduceAdd, Nat.reduceSub, Nat.reduceMul, Nat.reduceLT, Nat.reduceLeDiff, Nat.reduceEqDiff, Nat.reduceBEq, Nat.reduceBNe, reduceCtorEq, Int.reduceBNe, Int.reduceBEq, blt0, Int.reduceToNat, Int.toNat_zero, Int.toNat_one, if_pos, if_neg, wrap_i64, decide_eq_true, decide_eq_false, ibeq_t, ibeq_f, ibne_t, ibne_f, Int.toNat_natCast, tn_sub1, tn_add1, List.getElem?_map, gx, reach_i1, reach_i2, reach_s1, reach_si, reach_ss, fz_cons, freezeT, f1, f6, hc0, flatP_rows, Nat.le_refl, flatP_all, flatP_ren, flatP_lt, q5, St.lose, List.map_nil, List.map_cons (f := V.drop1 _), dl_any, dl_sl, dl_ms, dl_ptr, dl_int, dl_bool, dl_pc, ite_min, ite_max, hmn, s1] | simp (maxSteps := 10000000) (disch := (simp only [List.length_append, List.length_map, List.length_take, List.length_drop, List.length_cons, List.length_nil]; omega)) only [str_add, if_pos, if_neg] | simp only [go_sem, Nat.reduceAdd, Nat.reduceSub, Nat.reduceMul, Nat.reduceLT, Nat.reduceLeDiff, Nat.reduceEqDiff, Nat.reduceBEq, Nat.reduceBNe, reduceCtorEq, Int.reduceBNe, Int.reduceBEq, blt0, fz_cons, freezeT, f1, f6, hc0, flatP_rows, Nat.le_refl, flatP_all, flatP_ren, flatP_lt, q5, St.lose, List.map_nil, List.map_cons (f := V.drop1 _), dl_any, dl_sl, dl_ms, dl_ptr, dl_int, dl_bool, dl_pc, ite_min, ite_max, hmn, s1] | (refine WC_split (fun hc => ?_) (fun hc => ?_) <;> (try simp only [hc]) <;> (try simp only [Bool.and_eq_true, Bool.or_eq_true, Bool.not_eq_true', Bool.not_eq_false', decide_eq_true_eq, decide_eq_false_iff_not, beq_iff_eq, beq_eq_false_iff_ne, bne_iff_ne, bne_eq_false_iff_eq, ne_eq] at hc) <;> (try (have hb : @Eq Bool _ _ := hc; simp only [hb]; clear hb))) | (refine WS_split (fun hc => ?_) (fun hc => ?_) <;> (try simp only [hc]) <;> (try simp only [Bool.and_eq_true, Bool.or_eq_true, Bool.not_eq_true', Bool.not_eq_false', decide_eq_true_eq, decide_eq_false_iff_not, beq_iff_eq, beq_eq_false_iff_ne, bne_iff_ne, bne_eq_false_iff_eq, ne_eq] at hc) <;> (try (have hb : @Eq Bool _ _ := hc; simp only [hb]; clear hb))) | (refine WD_split (fun hc => ?_) (fun hc => ?_) <;> (try simp only [hc]) <;> (try simp only [Bool.and_eq_true, Bool.or_eq_true, Bool.not_eq_true', Bool.not_eq_false', decide_eq_true_eq, decide_eq_false_iff_not, beq_iff_eq, beq_eq_false_iff_ne, bne_iff_ne, bne_eq_false_iff_eq, ne_eq] at hc) <;> (try (have hb : @Eq Bool _ _ := hc; simp only [hb]; clear hb))))
    have et : S.take (min S.length n.toNat) = S.take n.toNat := by rw [List.take_eq_take_iff]; omega
    rw [et]
    exact ret1 (fun _ => ex_ret) rfl rfl rfl ⟨rfl, rfl, rfl⟩
end Go.Proofs.Ytbpkaajokffpjaa
