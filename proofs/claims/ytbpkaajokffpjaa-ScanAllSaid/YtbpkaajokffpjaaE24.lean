/- The pair of a place; the law ScanPlaces. -/
import Derived.Test.YtbpkaajokffpjaaE23
set_option linter.all false
set_option maxRecDepth 100000
namespace Go.Proofs.Ytbpkaajokffpjaa
open Go Go.Abs

theorem retM {r1 r2 : ResultVar} {rs : List ResultVar} {e : Ex} {s : St} {R : V → Bool → List Blk → Prop} {vs : List V} (he : ∀ i, e ≠ .exit i) (hv : (r1 :: r2 :: rs).mapM (resOf cfg s) = some vs) (hl : V.lt 0 (.tup vs) = true) (h : R (.tup vs) false []) :
    Ret cfg (r1 :: r2 :: rs) 0 R e s := by
  refine ⟨he, .tup vs, false, by simp only [resultsV, hv, Option.map_some], ?_⟩
  simp only [hl, List.take_zero, List.all_nil, Bool.and_self, if_true, Bool.false_and]
  exact h
def nthV (M : List PR) (n : Int) : List V := if h : 0 ≤ n ∧ n < M.length then [.agg (prow M[n.toNat]), .bool true] else [.agg (prow (0, 0)), .bool false]
set_option maxHeartbeats 4000000 in
theorem call_69 (l : List PR) (on : List SR) (n : Int) (hlen : l.length ≤ 100000) (hon : on.length ≤ 100000) :
    (Lim cfg).call 69 [.sl true (l.map prow), .sl true (on.map srow), .int .i64 n] [] = some (.tup (nthV (clip l on) n), false, []) := by
  have c1 := call_74 l on hlen hon
  obtain ⟨hr, _, hml⟩ := clip_rise l on
  cases hO : clip l on with
  | nil =>
    rw [hO] at c1
    simp only [clipV, clipB, List.map_nil] at c1
    generalize (!(chk l && setS on)) = own at c1
    have e0 : nthV [] n = [.agg (prow (0, 0)), .bool false] := by rw [nthV, dif_neg]; simp
    rw [e0]
    cases own with
    | true =>
      refine call_eq fn_69 rfl ?_
      rw [k_start]
      simp only [Try.f69, List.length_cons, List.length_nil, Nat.zero_add, Nat.reduceSub, Nat.reduceAdd, List.replicate, List.cons_append, List.nil_append]
      repeat' (first | simp (maxSteps := 10000000) (disch := omega) only [go_sem, Nat.reduceAdd, Nat.reduceSub, Nat.reduceMul, Nat.reduceLT, Nat.reduceLeDiff, Nat.reduceEqDiff, Nat.reduceBEq, Nat.reduceBNe, reduceCtorEq, Int.reduceBNe, Int.reduceBEq, blt0, Int.reduceToNat, Int.toNat_zero, Int.toNat_one, if_pos, if_neg, wrap_i64, decide_eq_true, decide_eq_false, ibeq_t, ibeq_f, ibne_t, ibne_f, Int.toNat_natCast, tn_sub1, tn_add1, List.getElem?_map, gx, c1, fz_cons, freezeT] | simp only [go_sem, Nat.reduceAdd, Nat.reduceSub, Nat.reduceMul, Nat.reduceLT, Nat.reduceLeDiff, Nat.reduceEqDiff, Nat.reduceBEq, Nat.reduceBNe, reduceCtorEq, Int.reduceBNe, Int.reduceBEq, blt0, c1, fz_cons, freezeT] | (refine WC_split (fun hc => ?_) (fun hc => ?_) <;> (try simp only [hc]) <;> (try simp only [Bool.and_eq_true, Bool.or_eq_true, Bool.not_eq_true', Bool.not_eq_false', decide_eq_true_eq, decide_eq_false_iff_not, beq_iff_eq, beq_eq_false_iff_ne, bne_iff_ne, bne_eq_false_iff_eq, ne_eq] at hc) <;> (try (have hb : @Eq Bool _ _ := hc; simp only [hb]; clear hb))) | (refine WS_split (fun hc => ?_) (fun hc => ?_) <;> (try simp only [hc]) <;> (try simp only [Bool.and_eq_true, Bool.or_eq_true, Bool.not_eq_true', Bool.not_eq_false', decide_eq_true_eq, decide_eq_false_iff_not, beq_iff_eq, beq_eq_false_iff_ne, bne_iff_ne, bne_eq_false_iff_eq, ne_eq] at hc) <;> (try (have hb : @Eq Bool _ _ := hc; simp only [hb]; clear hb))) | (refine WD_split (fun hc => ?_) (fun hc => ?_) <;> (try simp only [hc]) <;> (try simp only [Bool.and_eq_true, Bool.or_eq_true, Bool.not_eq_true', Bool.not_eq_false', decide_eq_true_eq, decide_eq_false_iff_not, beq_iff_eq, beq_eq_false_iff_ne, bne_iff_ne, bne_eq_false_iff_eq, ne_eq] at hc) <;> (try (have hb : @Eq Bool _ _ := hc; simp only [hb]; clear hb))))
      all_goals first
        | exact retM (fun _ => ex_ret) rfl rfl ⟨rfl, rfl, rfl⟩
        | (exfalso; simp at *; omega)
    | false =>
      refine call_eq fn_69 rfl ?_
      rw [k_start]
      simp only [Try.f69, List.length_cons, List.length_nil, Nat.zero_add, Nat.reduceSub, Nat.reduceAdd, List.replicate, List.cons_append, List.nil_append]
      repeat' (first | simp (maxSteps := 10000000) (disch := omega) only [go_sem, Nat.reduceAdd, Nat.reduceSub, Nat.reduceMul, Nat.reduceLT, Nat.reduceLeDiff, Nat.reduceEqDiff, Nat.reduceBEq, Nat.reduceBNe, reduceCtorEq, Int.reduceBNe, Int.reduceBEq, blt0, Int.reduceToNat, Int.toNat_zero, Int.toNat_one, if_pos, if_neg, wrap_i64, decide_eq_true, decide_eq_false, ibeq_t, ibeq_f, ibne_t, ibne_f, Int.toNat_natCast, tn_sub1, tn_add1, List.getElem?_map, gx, c1, fz_cons, freezeT] | simp only [go_sem, Nat.reduceAdd, Nat.reduceSub, Nat.reduceMul, Nat.reduceLT, Nat.reduceLeDiff, Nat.reduceEqDiff, Nat.reduceBEq, Nat.reduceBNe, reduceCtorEq, Int.reduceBNe, Int.reduceBEq, blt0, c1, fz_cons, freezeT] | (refine WC_split (fun hc => ?_) (fun hc => ?_) <;> (try simp only [hc]) <;> (try simp only [Bool.and_eq_true, Bool.or_eq_true, Bool.not_eq_true', Bool.not_eq_false', decide_eq_true_eq, decide_eq_false_iff_not, beq_iff_eq, beq_eq_false_iff_ne, bne_iff_ne, bne_eq_false_iff_eq, ne_eq] at hc) <;> (try (have hb : @Eq Bool _ _ := hc; simp only [hb]; clear hb))) | (refine WS_split (fun hc => ?_) (fun hc => ?_) <;> (try simp only [hc]) <;> (try simp only [Bool.and_eq_true, Bool.or_eq_true, Bool.not_eq_true', Bool.not_eq_false', decide_eq_true_eq, decide_eq_false_iff_not, beq_iff_eq, beq_eq_false_iff_ne, bne_iff_ne, bne_eq_false_iff_eq, ne_eq] at hc) <;> (try (have hb : @Eq Bool _ _ := hc; simp only [hb]; clear hb))) | (refine WD_split (fun hc => ?_) (fun hc => ?_) <;> (try simp only [hc]) <;> (try simp only [Bool.and_eq_true, Bool.or_eq_true, Bool.not_eq_true', Bool.not_eq_false', decide_eq_true_eq, decide_eq_false_iff_not, beq_iff_eq, beq_eq_false_iff_ne, bne_iff_ne, bne_eq_false_iff_eq, ne_eq] at hc) <;> (try (have hb : @Eq Bool _ _ := hc; simp only [hb]; clear hb))))
      all_goals first
        | exact retM (fun _ => ex_ret) rfl rfl ⟨rfl, rfl, rfl⟩
        | (exfalso; simp at *; omega)
  | cons o r =>
    rw [hO] at c1 hml
    simp only [clipV, clipB, prow] at c1
    have f1 : (flatP (o :: r)).length = (r.length + 1) * 2 := flatP_len _
    have f6 : (flatP (o :: r)).take ((r.length + 1) * 2) = flatP (o :: r) := flatP_take (o :: r)
    have q5 : aloneIn 2 [Blk.cells 125 [] [V.int IntKind.i64 0, V.int IntKind.i64 0], Blk.cells 125 [] [V.int IntKind.i64 o.fst, V.int IntKind.i64 o.snd], Blk.cells 125 [] (flatP (o :: r))] = true := rfl
    have hcons : [V.int .i64 o.1, V.int .i64 o.2] :: List.map prow r = List.map prow (o :: r) := rfl
    have hml0 : 0 < (o :: r).length := by simp
    generalize hM : o :: r = M at hcons hml0 hml ⊢
    by_cases hn : 0 ≤ n ∧ n < M.length
    · have h1 : n.toNat < M.length := by omega
      have e0 : nthV M n = [.agg (prow M[n.toNat]), .bool true] := by rw [nthV, dif_pos hn]
      rw [e0]
      refine call_eq fn_69 rfl ?_
      rw [k_start]
      simp only [Try.f69, List.length_cons, List.length_nil, Nat.zero_add, Nat.reduceSub, Nat.reduceAdd, List.replicate, List.cons_append, List.nil_append]
      repeat' (first | simp (maxSteps := 10000000) (disch := omega) only [go_sem, Nat.reduceAdd, Nat.reduceSub, Nat.reduceMul, Nat.reduceLT, Nat.reduceLeDiff, Nat.reduceEqDiff, Nat.reduceBEq, Nat.reduceBNe, reduceCtorEq, Int.reduceBNe, Int.reduceBEq, blt0, Int.reduceToNat, Int.toNat_zero, Int.toNat_one, if_pos, if_neg, wrap_i64, decide_eq_true, decide_eq_false, ibeq_t, ibeq_f, ibne_t, ibne_f, Int.toNat_natCast, tn_sub1, tn_add1, List.getElem?_map, gx, c1, fz_cons, freezeT, f1, f6, flatP_rows, flatP_take2, flatP_drop2, Nat.le_refl, flatP_all, flatP_ren, flatP_lt, q5, St.lose, List.map_nil, List.map_cons (f := V.drop1 _), dl_any, dl_sl, dl_ms, dl_ptr, dl_int, dl_bool, dl_pc, hcons, prow] | simp only [go_sem, Nat.reduceAdd, Nat.reduceSub, Nat.reduceMul, Nat.reduceLT, Nat.reduceLeDiff, Nat.reduceEqDiff, Nat.reduceBEq, Nat.reduceBNe, reduceCtorEq, Int.reduceBNe, Int.reduceBEq, blt0, c1, fz_cons, freezeT, f1, f6, flatP_rows, flatP_take2, flatP_drop2, Nat.le_refl, flatP_all, flatP_ren, flatP_lt, q5, St.lose, List.map_nil, List.map_cons (f := V.drop1 _), dl_any, dl_sl, dl_ms, dl_ptr, dl_int, dl_bool, dl_pc, hcons, prow] | (refine WC_split (fun hc => ?_) (fun hc => ?_) <;> (try simp only [hc]) <;> (try simp only [Bool.and_eq_true, Bool.or_eq_true, Bool.not_eq_true', Bool.not_eq_false', decide_eq_true_eq, decide_eq_false_iff_not, beq_iff_eq, beq_eq_false_iff_ne, bne_iff_ne, bne_eq_false_iff_eq, ne_eq] at hc) <;> (try (have hb : @Eq Bool _ _ := hc; simp only [hb]; clear hb))) | (refine WS_split (fun hc => ?_) (fun hc => ?_) <;> (try simp only [hc]) <;> (try simp only [Bool.and_eq_true, Bool.or_eq_true, Bool.not_eq_true', Bool.not_eq_false', decide_eq_true_eq, decide_eq_false_iff_not, beq_iff_eq, beq_eq_false_iff_ne, bne_iff_ne, bne_eq_false_iff_eq, ne_eq] at hc) <;> (try (have hb : @Eq Bool _ _ := hc; simp only [hb]; clear hb))) | (refine WD_split (fun hc => ?_) (fun hc => ?_) <;> (try simp only [hc]) <;> (try simp only [Bool.and_eq_true, Bool.or_eq_true, Bool.not_eq_true', Bool.not_eq_false', decide_eq_true_eq, decide_eq_false_iff_not, beq_iff_eq, beq_eq_false_iff_ne, bne_iff_ne, bne_eq_false_iff_eq, ne_eq] at hc) <;> (try (have hb : @Eq Bool _ _ := hc; simp only [hb]; clear hb))))
      all_goals exact retM (fun _ => ex_ret) rfl rfl ⟨rfl, rfl, rfl⟩
    · have e0 : nthV M n = [.agg (prow (0, 0)), .bool false] := by rw [nthV, dif_neg hn]
      rw [e0]
      refine call_eq fn_69 rfl ?_
      rw [k_start]
      simp only [Try.f69, List.length_cons, List.length_nil, Nat.zero_add, Nat.reduceSub, Nat.reduceAdd, List.replicate, List.cons_append, List.nil_append]
      repeat' (first | simp (maxSteps := 10000000) (disch := omega) only [go_sem, Nat.reduceAdd, Nat.reduceSub, Nat.reduceMul, Nat.reduceLT, Nat.reduceLeDiff, Nat.reduceEqDiff, Nat.reduceBEq, Nat.reduceBNe, reduceCtorEq, Int.reduceBNe, Int.reduceBEq, blt0, Int.reduceToNat, Int.toNat_zero, Int.toNat_one, if_pos, if_neg, wrap_i64, decide_eq_true, decide_eq_false, ibeq_t, ibeq_f, ibne_t, ibne_f, Int.toNat_natCast, tn_sub1, tn_add1, List.getElem?_map, gx, c1, fz_cons, freezeT, f1, f6, flatP_rows, flatP_take2, flatP_drop2, Nat.le_refl, flatP_all, flatP_ren, flatP_lt, q5, St.lose, List.map_nil, List.map_cons (f := V.drop1 _), dl_any, dl_sl, dl_ms, dl_ptr, dl_int, dl_bool, dl_pc, hcons, prow] | simp only [go_sem, Nat.reduceAdd, Nat.reduceSub, Nat.reduceMul, Nat.reduceLT, Nat.reduceLeDiff, Nat.reduceEqDiff, Nat.reduceBEq, Nat.reduceBNe, reduceCtorEq, Int.reduceBNe, Int.reduceBEq, blt0, c1, fz_cons, freezeT, f1, f6, flatP_rows, flatP_take2, flatP_drop2, Nat.le_refl, flatP_all, flatP_ren, flatP_lt, q5, St.lose, List.map_nil, List.map_cons (f := V.drop1 _), dl_any, dl_sl, dl_ms, dl_ptr, dl_int, dl_bool, dl_pc, hcons, prow] | (refine WC_split (fun hc => ?_) (fun hc => ?_) <;> (try simp only [hc]) <;> (try simp only [Bool.and_eq_true, Bool.or_eq_true, Bool.not_eq_true', Bool.not_eq_false', decide_eq_true_eq, decide_eq_false_iff_not, beq_iff_eq, beq_eq_false_iff_ne, bne_iff_ne, bne_eq_false_iff_eq, ne_eq] at hc) <;> (try (have hb : @Eq Bool _ _ := hc; simp only [hb]; clear hb))) | (refine WS_split (fun hc => ?_) (fun hc => ?_) <;> (try simp only [hc]) <;> (try simp only [Bool.and_eq_true, Bool.or_eq_true, Bool.not_eq_true', Bool.not_eq_false', decide_eq_true_eq, decide_eq_false_iff_not, beq_iff_eq, beq_eq_false_iff_ne, bne_iff_ne, bne_eq_false_iff_eq, ne_eq] at hc) <;> (try (have hb : @Eq Bool _ _ := hc; simp only [hb]; clear hb))) | (refine WD_split (fun hc => ?_) (fun hc => ?_) <;> (try simp only [hc]) <;> (try simp only [Bool.and_eq_true, Bool.or_eq_true, Bool.not_eq_true', Bool.not_eq_false', decide_eq_true_eq, decide_eq_false_iff_not, beq_iff_eq, beq_eq_false_iff_ne, bne_iff_ne, bne_eq_false_iff_eq, ne_eq] at hc) <;> (try (have hb : @Eq Bool _ _ := hc; simp only [hb]; clear hb))))
      all_goals exact retM (fun _ => ex_ret) rfl rfl ⟨rfl, rfl, rfl⟩
theorem cnt_self {M : List PR} (hr : rise M) {i : Nat} (h : i < M.length) : cnt M[i].1 M = i := by
  have h1 := cnt_at (k := M[i].1) hr h
  have h3 := cnt_le M[i].1 M
  by_cases hi : i = 0
  · omega
  · have h2 := cnt_at (k := M[i].1) hr (i := i - 1) (by omega)
    have h4 := List.pairwise_iff_getElem.1 hr (i - 1) i (by omega) h (by omega)
    have := h2.1 h4
    omega
theorem slp_mid1 (M : List PR) {i : Nat} (h : i < M.length) : sliceV cfg 38 (.sl true (M.map prow)) (some (.int .i64 (i : Int))) (some (.int .i64 ((i : Int) + 1))) none = some (.sl true ([M[i]].map prow)) := by
  have e1 : ((0 : Int) ≤ (i : Int) + 1 ∧ (i : Int) + 1 ≤ ((M.map prow).length : Nat)) := by rw [List.length_map]; omega
  have e2 : rowsFit 2 (M.map prow) = true := fit_prow M
  have e3 : ((0 : Int) ≤ (i : Int) ∧ (i : Int) ≤ ((i + 1 : Nat) : Int)) := by omega
  simp only [sliceV, ty_38, ty_185, Option.map_some, e2, bound, if_pos e1, Bool.true_eq_false, if_false, Int.toNat_natCast, tn_add1, if_pos e3]
  rw [show i + 1 - i = 1 by omega, List.drop_eq_getElem_cons (by rw [List.length_map]; exact h)]
  simp
set_option maxHeartbeats 4000000 in
theorem law_ScanPlaces (l : List PR) (on : List SR) (x y : Int) (hx1 : -9223372036854775808 ≤ x) (hx2 : x ≤ 9223372036854775807) (hy1 : -9223372036854775808 ≤ y) (hy2 : y ≤ 9223372036854775807) : (Lim cfg).call 14 [.sl true (l.map prow), .sl true (on.map srow), .agg [.int .i64 x, .int .i64 y]] [] = some (.bool true, false, []) := by
  have c1 := call_54 l on
  have caw := call_55
  by_cases hf : l.length ≤ 100 ∧ on.length ≤ 100
  · rw [decide_eq_true hf] at c1
    have c2 := call_69 l on x (by omega) (by omega)
    have c3 := call_70 l on (by omega) (by omega)
    have c4 := call_35 l (by omega)
    have c5 := call_63 on (by omega)
    have c6 := call_71 l on y (by omega) (by omega)
    have c7 := call_72 l on y (by omega) (by omega)
    obtain ⟨hr, _, hml⟩ := clip_rise l on
    by_cases hn : 0 ≤ x ∧ x < (clip l on).length
    · obtain ⟨i, rfl⟩ : ∃ i : Nat, x = i := ⟨x.toNat, by omega⟩
      have hi : i < (clip l on).length := by omega
      have e0 : nthV (clip l on) i = [.agg (prow (clip l on)[i]), .bool true] := by rw [nthV, dif_pos hn]; simp
      rw [e0] at c2
      have c8 := call_35 [(clip l on)[i]] (by simp)
      have c9 := call_59 [(clip l on)[i]] [(clip l on)[i]] (by simp) (by simp)
      have c10 := call_71 l on (clip l on)[i].1 (by omega) (by omega)
      rw [cnt_self hr hi] at c10
      have s1 := slp_mid1 (clip l on) hi
      rw [decide_eq_true rfl] at c9
      generalize cnt y (clip l on) = N at c6 c7
      generalize hP : (clip l on)[i] = P at c2 c8 c9 c10 s1
      generalize clip l on = M at c3 s1 hi hml hn
      simp only [prow, List.map_cons, List.map_nil] at c2 c8 c9 s1
      refine call_eq fn_14 rfl ?_
      rw [k_start]
      simp only [Try.f14, List.length_cons, List.length_nil, Nat.zero_add, Nat.reduceSub, Nat.reduceAdd, List.replicate, List.cons_append, List.nil_append]
      repeat' (first | simp (maxSteps := 10000000) (disch := omega) only [go_sem, Nat.reduceAdd, Nat.reduceSub, Nat.reduceMul, Nat.reduceLT, Nat.reduceLeDiff, Nat.reduceEqDiff, Nat.reduceBEq, Nat.reduceBNe, reduceCtorEq, Int.reduceBNe, Int.reduceBEq, blt0, Int.reduceToNat, Int.toNat_zero, Int.toNat_one, if_pos, if_neg, wrap_i64, decide_eq_true, decide_eq_false, ibeq_t, ibeq_f, ibne_t, ibne_f, Int.toNat_natCast, tn_sub1, tn_add1, List.getElem?_map, gx, c1, caw, c2, c3, c4, c5, c6, c7, c8, c9, c10, s1] | simp only [go_sem, Nat.reduceAdd, Nat.reduceSub, Nat.reduceMul, Nat.reduceLT, Nat.reduceLeDiff, Nat.reduceEqDiff, Nat.reduceBEq, Nat.reduceBNe, reduceCtorEq, Int.reduceBNe, Int.reduceBEq, blt0, c1, caw, c2, c3, c4, c5, c6, c7, c8, c9, c10, s1] | (refine WC_split (fun hc => ?_) (fun hc => ?_) <;> (try simp only [hc]) <;> (try simp only [Bool.and_eq_true, Bool.or_eq_true, Bool.not_eq_true', Bool.not_eq_false', decide_eq_true_eq, decide_eq_false_iff_not, beq_iff_eq, beq_eq_false_iff_ne, bne_iff_ne, bne_eq_false_iff_eq, ne_eq] at hc) <;> (try (have hb : @Eq Bool _ _ := hc; simp only [hb]; clear hb))) | (refine WS_split (fun hc => ?_) (fun hc => ?_) <;> (try simp only [hc]) <;> (try simp only [Bool.and_eq_true, Bool.or_eq_true, Bool.not_eq_true', Bool.not_eq_false', decide_eq_true_eq, decide_eq_false_iff_not, beq_iff_eq, beq_eq_false_iff_ne, bne_iff_ne, bne_eq_false_iff_eq, ne_eq] at hc) <;> (try (have hb : @Eq Bool _ _ := hc; simp only [hb]; clear hb))) | (refine WD_split (fun hc => ?_) (fun hc => ?_) <;> (try simp only [hc]) <;> (try simp only [Bool.and_eq_true, Bool.or_eq_true, Bool.not_eq_true', Bool.not_eq_false', decide_eq_true_eq, decide_eq_false_iff_not, beq_iff_eq, beq_eq_false_iff_ne, bne_iff_ne, bne_eq_false_iff_eq, ne_eq] at hc) <;> (try (have hb : @Eq Bool _ _ := hc; simp only [hb]; clear hb))))
      all_goals exact ret1n (v := .bool true) (fun _ => ex_ret) rfl rfl rfl ⟨rfl, rfl, rfl⟩
    · have e0 : nthV (clip l on) x = [.agg (prow (0, 0)), .bool false] := by rw [nthV, dif_neg hn]
      rw [e0] at c2
      generalize cnt y (clip l on) = N at c6 c7
      generalize clip l on = M at c3 hml hn
      simp only [prow] at c2
      refine call_eq fn_14 rfl ?_
      rw [k_start]
      simp only [Try.f14, List.length_cons, List.length_nil, Nat.zero_add, Nat.reduceSub, Nat.reduceAdd, List.replicate, List.cons_append, List.nil_append]
      repeat' (first | simp (maxSteps := 10000000) (disch := omega) only [go_sem, Nat.reduceAdd, Nat.reduceSub, Nat.reduceMul, Nat.reduceLT, Nat.reduceLeDiff, Nat.reduceEqDiff, Nat.reduceBEq, Nat.reduceBNe, reduceCtorEq, Int.reduceBNe, Int.reduceBEq, blt0, Int.reduceToNat, Int.toNat_zero, Int.toNat_one, if_pos, if_neg, wrap_i64, decide_eq_true, decide_eq_false, ibeq_t, ibeq_f, ibne_t, ibne_f, Int.toNat_natCast, tn_sub1, tn_add1, List.getElem?_map, gx, c1, caw, c2, c3, c4, c5, c6, c7] | simp only [go_sem, Nat.reduceAdd, Nat.reduceSub, Nat.reduceMul, Nat.reduceLT, Nat.reduceLeDiff, Nat.reduceEqDiff, Nat.reduceBEq, Nat.reduceBNe, reduceCtorEq, Int.reduceBNe, Int.reduceBEq, blt0, c1, caw, c2, c3, c4, c5, c6, c7] | (refine WC_split (fun hc => ?_) (fun hc => ?_) <;> (try simp only [hc]) <;> (try simp only [Bool.and_eq_true, Bool.or_eq_true, Bool.not_eq_true', Bool.not_eq_false', decide_eq_true_eq, decide_eq_false_iff_not, beq_iff_eq, beq_eq_false_iff_ne, bne_iff_ne, bne_eq_false_iff_eq, ne_eq] at hc) <;> (try (have hb : @Eq Bool _ _ := hc; simp only [hb]; clear hb))) | (refine WS_split (fun hc => ?_) (fun hc => ?_) <;> (try simp only [hc]) <;> (try simp only [Bool.and_eq_true, Bool.or_eq_true, Bool.not_eq_true', Bool.not_eq_false', decide_eq_true_eq, decide_eq_false_iff_not, beq_iff_eq, beq_eq_false_iff_ne, bne_iff_ne, bne_eq_false_iff_eq, ne_eq] at hc) <;> (try (have hb : @Eq Bool _ _ := hc; simp only [hb]; clear hb))) | (refine WD_split (fun hc => ?_) (fun hc => ?_) <;> (try simp only [hc]) <;> (try simp only [Bool.and_eq_true, Bool.or_eq_true, Bool.not_eq_true', Bool.not_eq_false', decide_eq_true_eq, decide_eq_false_iff_not, beq_iff_eq, beq_eq_false_iff_ne, bne_iff_ne, bne_eq_false_iff_eq, ne_eq] at hc) <;> (try (have hb : @Eq Bool _ _ := hc; simp only [hb]; clear hb))))
      all_goals exact ret1n (v := .bool true) (fun _ => ex_ret) rfl rfl rfl ⟨rfl, rfl, rfl⟩
  · rw [decide_eq_false hf] at c1
    refine call_eq fn_14 rfl ?_
    rw [k_start]
    simp only [Try.f14, List.length_cons, List.length_nil, Nat.zero_add, Nat.reduceSub, Nat.reduceAdd, List.replicate, List.cons_append, List.nil_append]
    repeat' (first | simp (maxSteps := 10000000) (disch := omega) only [go_sem, Nat.reduceAdd, Nat.reduceSub, Nat.reduceMul, Nat.reduceLT, Nat.reduceLeDiff, Nat.reduceEqDiff, Nat.reduceBEq, Nat.reduceBNe, reduceCtorEq, Int.reduceBNe, Int.reduceBEq, blt0, Int.reduceToNat, Int.toNat_zero, Int.toNat_one, if_pos, if_neg, wrap_i64, decide_eq_true, decide_eq_false, ibeq_t, ibeq_f, ibne_t, ibne_f, Int.toNat_natCast, tn_sub1, tn_add1, List.getElem?_map, gx, c1, caw] | simp only [go_sem, Nat.reduceAdd, Nat.reduceSub, Nat.reduceMul, Nat.reduceLT, Nat.reduceLeDiff, Nat.reduceEqDiff, Nat.reduceBEq, Nat.reduceBNe, reduceCtorEq, Int.reduceBNe, Int.reduceBEq, blt0, c1, caw] | (refine WC_split (fun hc => ?_) (fun hc => ?_) <;> (try simp only [hc]) <;> (try simp only [Bool.and_eq_true, Bool.or_eq_true, Bool.not_eq_true', Bool.not_eq_false', decide_eq_true_eq, decide_eq_false_iff_not, beq_iff_eq, beq_eq_false_iff_ne, bne_iff_ne, bne_eq_false_iff_eq, ne_eq] at hc) <;> (try (have hb : @Eq Bool _ _ := hc; simp only [hb]; clear hb))) | (refine WS_split (fun hc => ?_) (fun hc => ?_) <;> (try simp only [hc]) <;> (try simp only [Bool.and_eq_true, Bool.or_eq_true, Bool.not_eq_true', Bool.not_eq_false', decide_eq_true_eq, decide_eq_false_iff_not, beq_iff_eq, beq_eq_false_iff_ne, bne_iff_ne, bne_eq_false_iff_eq, ne_eq] at hc) <;> (try (have hb : @Eq Bool _ _ := hc; simp only [hb]; clear hb))) | (refine WD_split (fun hc => ?_) (fun hc => ?_) <;> (try simp only [hc]) <;> (try simp only [Bool.and_eq_true, Bool.or_eq_true, Bool.not_eq_true', Bool.not_eq_false', decide_eq_true_eq, decide_eq_false_iff_not, beq_iff_eq, beq_eq_false_iff_ne, bne_iff_ne, bne_eq_false_iff_eq, ne_eq] at hc) <;> (try (have hb : @Eq Bool _ _ := hc; simp only [hb]; clear hb))))
    exact ret1n (v := .bool true) (fun _ => ex_ret) rfl rfl rfl ⟨rfl, rfl, rfl⟩
end Go.Proofs.Ytbpkaajokffpjaa
