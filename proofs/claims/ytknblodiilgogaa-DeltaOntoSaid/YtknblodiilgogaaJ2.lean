/- Two tables joined: the program's answer. -/
import Derived.Test.YtknblodiilgogaaJ1
set_option linter.all false
set_option maxRecDepth 100000
namespace Go.Proofs.Ytknblodiilgogaa
open Go Go.Abs

theorem jsrt : cfg.srt 71 79 = some (72, 0) := rfl
theorem jfn : cfg.fn 71 = none := rfl
theorem jcln : cfg.cln 71 = none := rfl
theorem call_Concat0 : (Lim cfg).call 78 [.sl true [[.sl true []], [.sl true []]]] [] = some (.nils, false, []) := lim_of_run (k := 60) (by kernel_rfl)
theorem jflat : ∀ M : List PR, flatP M = flatZ M
  | [] => rfl
  | p :: M => by
    have := jflat M
    simp only [flatP, List.map_cons, List.flatten_cons, flatZ, prow, List.cons_append, List.nil_append] at this ⊢
    rw [this]
theorem jids (acc : List Nat) (O : List PR) : V.idsl acc (flatP O) = acc := by
  induction O with
  | nil => rfl
  | cons o O ih => exact ih
theorem jreach {t : TypeId} {cs : List V} {k c a : Nat} (h : V.idsl [0] cs = [0]) : reach [.cells t [] cs] [.ms 0 0 k c, .fn a []] = [0] := by
  have e : reachGo [.cells t [] cs] 1 [0] = [0] := by
    unfold reachGo
    show (if (V.idsl [0] cs).length = [0].length then [0] else reachGo _ 0 (V.idsl [0] cs)) = [0]
    rw [h]; rfl
  show (List.range 1).filter (fun i => (reachGo [.cells t [] cs] 1 [0]).contains i) = [0]
  rw [e]; rfl
theorem jclosed {t : TypeId} {cs : List V} {k c a : Nat} (h : V.alll (fun i => [0].contains i) cs = true) : closedIn [.cells t [] cs] [0] [.ms 0 0 k c, .fn a []] = true := by
  show (true && ((true && V.alll (fun i => [0].contains i) cs) && true)) = true
  rw [h]; rfl
theorem jsub {t : TypeId} {cs : List V} (h : V.renl (fun i => [0].idxOf i) cs = cs) : subHp [.cells t [] cs] [0] = [.cells t [] cs] := by
  show [Blk.cells t [] (V.renl (fun i => [0].idxOf i) cs)] = _
  rw [h]
/-- What is left to show of Join. -/
def JoinL : Prop := ∀ A B : List PR, A.length ≤ 10000 → B.length ≤ 10000 → chk A = true → chk B = true → strictZ 0 (A ++ B) = true → chk (sortZ 0 (A ++ B)) = true →
  (Lim cfg).call 50 [.sl true (A.map prow), .sl true (B.map prow)] [] = some (.tup [.sl true ((sortZ 0 (A ++ B)).map prow), .int .i64 0], false, [])
set_option maxHeartbeats 4000000 in
theorem joinL : JoinL := by
  intro A B hA hB h1 h2 hst h3
  have c1 := call_49 A (by omega)
  have c2 := call_49 B (by omega)
  rw [h1] at c1
  rw [h2] at c2
  by_cases h0 : A.length + B.length = 0
  · have eA : A = [] := List.length_eq_zero_iff.1 (by omega)
    have eB : B = [] := List.length_eq_zero_iff.1 (by omega)
    subst eA eB
    simp only [List.map_nil] at c1 c2
    have c3 := call_Concat0
    have c4 := call_srtN jfn jcln jsrt
    refine call_eq fn_50 rfl ?_
    rw [k_start]
    simp only [Try.f50, List.length_cons, List.length_nil, Nat.zero_add, Nat.reduceSub, Nat.reduceAdd, List.replicate, List.cons_append, List.nil_append]
    repeat' (first | simp (maxSteps := 10000000) (disch := omega) only [go_sem, Nat.reduceAdd, Nat.reduceSub, Nat.reduceMul, Nat.reduceLT, Nat.reduceLeDiff, Nat.reduceEqDiff, Nat.reduceBEq, Nat.reduceBNe, reduceCtorEq, Int.reduceBNe, Int.reduceBEq, blt0, Int.reduceToNat, Int.toNat_zero, Int.toNat_one, if_pos, if_neg, wrap_i64, decide_eq_true, decide_eq_false, ibeq_t, ibeq_f, ibne_t, ibne_f, Int.toNat_natCast, tn_sub1, tn_add1, List.getElem?_map, gx, reach_i1, reach_i2, reach_s1, reach_si, reach_ss, c1, c2, c3, c4, fz_cons, freezeT] | simp (maxSteps := 10000000) (disch := (simp only [List.length_append, List.length_map, List.length_take, List.length_drop, List.length_cons, List.length_nil]; omega)) only [str_add, if_pos, if_neg] | simp only [go_sem, Nat.reduceAdd, Nat.reduceSub, Nat.reduceMul, Nat.reduceLT, Nat.reduceLeDiff, Nat.reduceEqDiff, Nat.reduceBEq, Nat.reduceBNe, reduceCtorEq, Int.reduceBNe, Int.reduceBEq, blt0, c1, c2, c3, c4, fz_cons, freezeT] | ((first | refine WC_split (fun hc => ?_) (fun hc => ?_) | refine WS_split (fun hc => ?_) (fun hc => ?_) | refine WD_split (fun hc => ?_) (fun hc => ?_)) <;> (try simp only [hc]) <;> (try simp only [Bool.and_eq_true, Bool.or_eq_true, Bool.not_eq_true', Bool.not_eq_false', decide_eq_true_eq, decide_eq_false_iff_not, beq_iff_eq, beq_eq_false_iff_ne, bne_iff_ne, bne_eq_false_iff_eq, ne_eq] at hc) <;> (try (have hb : @Eq Bool _ _ := hc; simp only [hb]; clear hb))))
    exact ret2 (fun _ => ex_ret) rfl rfl rfl rfl ⟨rfl, rfl, rfl⟩
  · have c3 := call_78 A B (by omega) (by omega) (by omega)
    have c4 := call_srt (l := A ++ B) (cap := (A ++ B).length) (r := []) (ow := []) jfn jcln jsrt (by rw [List.length_append]; omega) hst
    have hln := sortZ_len 0 (A ++ B)
    have c5 := call_49 (sortZ 0 (A ++ B)) (by rw [hln, List.length_append]; omega)
    rw [h3] at c5
    rw [List.append_nil, List.append_nil, ← jflat, ← jflat] at c4
    rw [← List.length_append] at c3
    generalize sortZ 0 (A ++ B) = S at c4 c5 hln ⊢
    have hnz : (A ++ B).length ≠ 0 := by rw [List.length_append]; omega
    generalize A ++ B = L at c3 c4 hln hnz
    obtain ⟨o, r, rfl⟩ : ∃ o r, L = o :: r := by
      cases L with
      | nil => exact absurd rfl hnz
      | cons o r => exact ⟨o, r, rfl⟩
    simp only [List.length_cons] at c3 c4 hln
    have f1 : (flatP S).length = (r.length + 1) * 2 := by rw [flatP_len, hln]
    have f6 : (flatP S).take ((r.length + 1) * 2) = flatP S := by rw [← hln]; exact flatP_take S
    have f7 : rowsOf 2 (r.length + 1) (flatP S) = S.map prow := by rw [← hln]; exact flatP_rows S
    have q5 : aloneIn 0 [Blk.cells 72 [] (flatP S)] = true := rfl
    have hc0 : List.take 2 (flatP S) :: rowsOf 2 r.length (List.drop 2 (flatP S)) = S.map prow := f7
    refine call_eq fn_50 rfl ?_
    rw [k_start]
    simp only [Try.f50, List.length_cons, List.length_nil, Nat.zero_add, Nat.reduceSub, Nat.reduceAdd, List.replicate, List.cons_append, List.nil_append]
    repeat' (first | simp (maxSteps := 10000000) (disch := omega) only [go_sem, Nat.reduceAdd, Nat.reduceSub, Nat.reduceMul, Nat.reduceLT, Nat.reduceLeDiff, Nat.reduceEqDiff, Nat.reduceBEq, Nat.reduceBNe, reduceCtorEq, Int.reduceBNe, Int.reduceBEq, blt0, Int.reduceToNat, Int.toNat_zero, Int.toNat_one, if_pos, if_neg, wrap_i64, decide_eq_true, decide_eq_false, ibeq_t, ibeq_f, ibne_t, ibne_f, Int.toNat_natCast, tn_sub1, tn_add1, List.getElem?_map, gx, reach_i1, reach_i2, reach_s1, reach_si, reach_ss, c1, c2, c3, flatP_ren, fz_cons, freezeT] | simp (maxSteps := 10000000) (disch := (simp only [List.length_append, List.length_map, List.length_take, List.length_drop, List.length_cons, List.length_nil]; omega)) only [str_add, if_pos, if_neg] | simp only [go_sem, Nat.reduceAdd, Nat.reduceSub, Nat.reduceMul, Nat.reduceLT, Nat.reduceLeDiff, Nat.reduceEqDiff, Nat.reduceBEq, Nat.reduceBNe, reduceCtorEq, Int.reduceBNe, Int.reduceBEq, blt0, c1, c2, c3, flatP_ren, fz_cons, freezeT] | ((first | refine WC_split (fun hc => ?_) (fun hc => ?_) | refine WS_split (fun hc => ?_) (fun hc => ?_) | refine WD_split (fun hc => ?_) (fun hc => ?_)) <;> (try simp only [hc]) <;> (try simp only [Bool.and_eq_true, Bool.or_eq_true, Bool.not_eq_true', Bool.not_eq_false', decide_eq_true_eq, decide_eq_false_iff_not, beq_iff_eq, beq_eq_false_iff_ne, bne_iff_ne, bne_eq_false_iff_eq, ne_eq] at hc) <;> (try (have hb : @Eq Bool _ _ := hc; simp only [hb]; clear hb))))
    rw [callHeap_at (R := [0]) c4 (hR := jreach (jids _ _)) (hc := jclosed (flatP_all _ _)) (hs := jsub (flatP_ren _ _))]
    repeat' (first | simp (maxSteps := 10000000) (disch := omega) only [go_sem, Nat.reduceAdd, Nat.reduceSub, Nat.reduceMul, Nat.reduceLT, Nat.reduceLeDiff, Nat.reduceEqDiff, Nat.reduceBEq, Nat.reduceBNe, reduceCtorEq, Int.reduceBNe, Int.reduceBEq, blt0, Int.reduceToNat, Int.toNat_zero, Int.toNat_one, if_pos, if_neg, wrap_i64, decide_eq_true, decide_eq_false, ibeq_t, ibeq_f, ibne_t, ibne_f, Int.toNat_natCast, tn_sub1, tn_add1, List.getElem?_map, gx, reach_i1, reach_i2, reach_s1, reach_si, reach_ss, fz_cons, freezeT, f1, f6, hc0, flatP_rows, Nat.le_refl, flatP_all, flatP_ren, flatP_lt, q5, St.lose, List.map_nil, List.map_cons (f := V.drop1 _), dl_any, dl_sl, dl_ms, dl_ptr, dl_int, dl_bool, dl_pc, c5] | simp (maxSteps := 10000000) (disch := (simp only [List.length_append, List.length_map, List.length_take, List.length_drop, List.length_cons, List.length_nil]; omega)) only [str_add, if_pos, if_neg] | simp only [go_sem, Nat.reduceAdd, Nat.reduceSub, Nat.reduceMul, Nat.reduceLT, Nat.reduceLeDiff, Nat.reduceEqDiff, Nat.reduceBEq, Nat.reduceBNe, reduceCtorEq, Int.reduceBNe, Int.reduceBEq, blt0, fz_cons, freezeT, f1, f6, hc0, flatP_rows, Nat.le_refl, flatP_all, flatP_ren, flatP_lt, q5, St.lose, List.map_nil, List.map_cons (f := V.drop1 _), dl_any, dl_sl, dl_ms, dl_ptr, dl_int, dl_bool, dl_pc, c5] | ((first | refine WC_split (fun hc => ?_) (fun hc => ?_) | refine WS_split (fun hc => ?_) (fun hc => ?_) | refine WD_split (fun hc => ?_) (fun hc => ?_)) <;> (try simp only [hc]) <;> (try simp only [Bool.and_eq_true, Bool.or_eq_true, Bool.not_eq_true', Bool.not_eq_false', decide_eq_true_eq, decide_eq_false_iff_not, beq_iff_eq, beq_eq_false_iff_ne, bne_iff_ne, bne_eq_false_iff_eq, ne_eq] at hc) <;> (try (have hb : @Eq Bool _ _ := hc; simp only [hb]; clear hb))))
    exact ret2 (fun _ => ex_ret) rfl rfl rfl rfl ⟨rfl, rfl, rfl⟩
end Go.Proofs.Ytknblodiilgogaa
