/- All pages. -/
import Derived.Test.YtbpkaajokffpjaaE24
set_option linter.all false
set_option maxRecDepth 100000
namespace Go.Proofs.Ytbpkaajokffpjaa
open Go Go.Abs

/-- A list in pages. -/
def pagesOf (n : Nat) : Nat → List PR → List (List PR)
  | 0, R => [R.take n]
  | k + 1, R => if R.length > n then R.take n :: pagesOf n k (R.drop n) else [R.take n]
theorem pages_ne (n : Nat) : ∀ k R, pagesOf n k R ≠ []
  | 0, _ => by simp [pagesOf]
  | k + 1, R => by unfold pagesOf; split <;> simp
theorem pages_flat {n : Nat} (hn : 1 ≤ n) : ∀ k R, R.length ≤ k → (pagesOf n k R).flatten = R
  | 0, R, h => by simp [pagesOf, List.length_eq_zero_iff.1 (Nat.le_zero.1 h)]
  | k + 1, R, h => by
    unfold pagesOf
    split
    · rw [List.flatten_cons, pages_flat hn k _ (by rw [List.length_drop]; omega), List.take_append_drop]
    · rw [List.flatten_cons, List.flatten_nil, List.append_nil, List.take_of_length_le (by omega)]
theorem pages_len {n : Nat} : ∀ k R, ∀ p ∈ pagesOf n k R, p.length ≤ n
  | 0, R, p, h => by simp [pagesOf] at h; subst h; simp; omega
  | k + 1, R, p, h => by
    unfold pagesOf at h
    split at h
    · rcases List.mem_cons.1 h with rfl | h
      · simp; omega
      · exact pages_len k _ p h
    · simp at h; subst h; simp; omega
theorem pages_full {n : Nat} : ∀ k R (i : Nat) (h : i + 1 < (pagesOf n k R).length), ((pagesOf n k R)[i]'(by omega)).length = n
  | 0, R, i, h => by simp [pagesOf] at h
  | k + 1, R, i, h => by
    by_cases hr : R.length > n
    · have e : pagesOf n (k + 1) R = R.take n :: pagesOf n k (R.drop n) := by rw [pagesOf, if_pos hr]
      simp only [e] at h ⊢
      cases i with
      | zero => simp; omega
      | succ i => simpa using pages_full k _ i (by simpa using h)
    · have e : pagesOf n (k + 1) R = [R.take n] := by rw [pagesOf, if_neg hr]
      simp [e] at h
theorem pages_count {n : Nat} (hn : 1 ≤ n) : ∀ k R, (pagesOf n k R).length ≤ R.length + 1
  | 0, R => by simp [pagesOf]
  | k + 1, R => by
    unfold pagesOf
    split
    · have := pages_count hn k (R.drop n)
      rw [List.length_drop] at this
      simp only [List.length_cons]; omega
    · simp
theorem pages_last {n : Nat} {R : List PR} (h : ¬ R.length > n) : ∀ k, pagesOf n k R = [R.take n]
  | 0 => rfl
  | k + 1 => by rw [pagesOf, if_neg h]
theorem pages_fuel {n : Nat} (hn : 1 ≤ n) : ∀ k k' R, R.length ≤ k → R.length ≤ k' → pagesOf n k R = pagesOf n k' R
  | 0, k', R, h, _ => by rw [pages_last (by omega), pages_last (by omega)]
  | k + 1, 0, R, _, h => by rw [pages_last (by omega), pages_last (by omega)]
  | k + 1, k' + 1, R, h, h' => by
    unfold pagesOf
    split
    · rw [pages_fuel hn k k' _ (by rw [List.length_drop]; omega) (by rw [List.length_drop]; omega)]
    · rfl
theorem head_rrow2 (S : List (List PR)) {d : Bool} {x : List (List V)} : headByte (S.map rrow ++ [[.sl d x]]) = false := by cases S <;> rfl
theorem head_rrow0 (S : List (List PR)) : headByte (S.map rrow) = false := by cases S <;> rfl
/-- Behind a page the rest goes on. -/
theorem rest_next {l : List PR} {on : List SR} {a : Int} {n : Nat} (h : (restL l on a).length > n) (hn : 1 ≤ n) :
    restL l on (lastK a ((restL l on a).take n)) = (restL l on a).drop n ∧ -1 < lastK a ((restL l on a).take n) ∧ lastK a ((restL l on a).take n) < 4096 := by
  obtain ⟨hr, hv, _⟩ := clip_rise l on
  unfold restL at h ⊢
  generalize clip l on = M at h hr hv ⊢
  have hc := cnt_le (a + 1) M
  generalize cnt (a + 1) M = c at h hc ⊢
  rw [List.length_drop] at h
  have hl : ((M.drop c).take n).length = n := by rw [List.length_take, List.length_drop]; omega
  have hk : lastK a ((M.drop c).take n) = (M[c + (n - 1)]'(by omega)).1 := by
    rw [lastK_at (by omega)]
    simp only [hl]
    rw [List.getElem_take, List.getElem_drop]
  have hm := hv _ (List.getElem_mem (show c + (n - 1) < M.length by omega))
  have hcnt : cnt (lastK a ((M.drop c).take n) + 1) M = c + n := by
    rw [hk]
    have h1 := cnt_at (k := (M[c + (n - 1)]'(by omega)).1 + 1) hr (i := c + (n - 1)) (by omega)
    have h2 := cnt_at (k := (M[c + (n - 1)]'(by omega)).1 + 1) hr (i := c + n) (by omega)
    have h3 := List.pairwise_iff_getElem.1 hr (c + (n - 1)) (c + n) (by omega) (by omega) (by omega)
    have h4 := h1.1 (by omega)
    have h5 : ¬ c + n < cnt ((M[c + (n - 1)]'(by omega)).1 + 1) M := fun h => by have := h2.2 h; omega
    omega
  rw [hcnt, hk, List.drop_drop]
  exact ⟨rfl, by omega, by omega⟩
def T73 (l : List PR) (on : List SR) (n : Int) (x : List (List PR) × Int) : St := { fr := mkF 30 [(0, .sl true (l.map prow)), (3, .ptr 0 0), (6, .sl true (x.1.map rrow))], own := [6], hp := [.cells 93 [] (curR on x.2 n)], al := [], nb := 0 }
def allV (l : List PR) (on : List SR) (a n : Int) : V := if (chk l && okC on a n) = true then .tup [.sl true ((pagesOf n.toNat (restL l on a).length (restL l on a)).map rrow), .int .i64 0] else .tup [.sl true [], .int .i64 1]
set_option maxHeartbeats 8000000 in
theorem call_73 (l : List PR) (on : List SR) (a n : Int) (hlen : l.length ≤ 100000) (hon : on.length ≤ 100000) :
    (Lim cfg).call 73 [.sl true (l.map prow), .agg (curR on a n)] [] = some (allV l on a n, false, []) := by
  by_cases hg : (chk l && okC on a n) = true
  · rw [allV, if_pos hg]
    have hrl : ∀ a, (restL l on a).length ≤ l.length := fun a => Nat.le_trans (by unfold restL; rw [List.length_drop]; omega) (clip_rise l on).2.2
    refine call_eq fn_73 rfl ?_
    rw [k_start]
    simp only [Try.f73, List.length_cons, List.length_nil, Nat.zero_add, Nat.reduceSub, Nat.reduceAdd, List.replicate, List.cons_append, List.nil_append]
    repeat' (first | simp (maxSteps := 10000000) (disch := omega) only [go_sem, Nat.reduceAdd, Nat.reduceSub, Nat.reduceMul, Nat.reduceLT, Nat.reduceLeDiff, Nat.reduceEqDiff, Nat.reduceBEq, Nat.reduceBNe, reduceCtorEq, Int.reduceBNe, Int.reduceBEq, blt0, Int.reduceToNat, Int.toNat_zero, Int.toNat_one, if_pos, if_neg, wrap_i64, decide_eq_true, decide_eq_false, ibeq_t, ibeq_f, ibne_t, ibne_f, Int.toNat_natCast, tn_sub1, tn_add1, List.getElem?_map, gx, curR] | simp only [go_sem, Nat.reduceAdd, Nat.reduceSub, Nat.reduceMul, Nat.reduceLT, Nat.reduceLeDiff, Nat.reduceEqDiff, Nat.reduceBEq, Nat.reduceBNe, reduceCtorEq, Int.reduceBNe, Int.reduceBEq, blt0, curR] | (refine WC_split (fun hc => ?_) (fun hc => ?_) <;> (try simp only [hc]) <;> (try simp only [Bool.and_eq_true, Bool.or_eq_true, Bool.not_eq_true', Bool.not_eq_false', decide_eq_true_eq, decide_eq_false_iff_not, beq_iff_eq, beq_eq_false_iff_ne, bne_iff_ne, bne_eq_false_iff_eq, ne_eq] at hc) <;> (try (have hb : @Eq Bool _ _ := hc; simp only [hb]; clear hb))) | (refine WS_split (fun hc => ?_) (fun hc => ?_) <;> (try simp only [hc]) <;> (try simp only [Bool.and_eq_true, Bool.or_eq_true, Bool.not_eq_true', Bool.not_eq_false', decide_eq_true_eq, decide_eq_false_iff_not, beq_iff_eq, beq_eq_false_iff_ne, bne_iff_ne, bne_eq_false_iff_eq, ne_eq] at hc) <;> (try (have hb : @Eq Bool _ _ := hc; simp only [hb]; clear hb))) | (refine WD_split (fun hc => ?_) (fun hc => ?_) <;> (try simp only [hc]) <;> (try simp only [Bool.and_eq_true, Bool.or_eq_true, Bool.not_eq_true', Bool.not_eq_false', decide_eq_true_eq, decide_eq_false_iff_not, beq_iff_eq, beq_eq_false_iff_ne, bne_iff_ne, bne_eq_false_iff_eq, ne_eq] at hc) <;> (try (have hb : @Eq Bool _ _ := hc; simp only [hb]; clear hb))))
    refine k_loop (T73 l on n) (fun x => okC on x.2 n = true ∧ x.1.length + (restL l on x.2).length ≤ l.length ∧ x.1 ++ pagesOf n.toNat (restL l on x.2).length (restL l on x.2) = pagesOf n.toNat (restL l on a).length (restL l on a)) (fun x => (restL l on x.2).length) ([], a) (K := cfg.kill 73 2) rfl ⟨by simp_all, by simpa using hrl a, rfl⟩ (by kernel_rfl) ?_
    intro ⟨P, b⟩ ⟨h1, h2, h3⟩ k' Q' hnorm hexit hret
    simp only at h1 h2 h3
    have c2 := call_56 l on b n hlen hon
    have hg2 : (chk l && okC on b n) = true := by rw [h1]; simp only [Bool.and_eq_true] at hg; simp [hg.1]
    rw [pageV, if_pos hg2] at c2
    have h1b := h1
    simp only [okC, Bool.and_eq_true, decide_eq_true_eq] at h1b
    have hP : (P.length + 1) * 24 ≤ strMax := by unfold strMax; omega
    simp only [curR] at c2
    simp only [T73, mkF, List.foldl, List.replicate, List.set, List.cons_append, List.nil_append]
    by_cases hmore : (restL l on b).length > n.toNat
    · have hlen2 : (pageL l on b n).length = n.toNat := by rw [pageL, List.length_take]; omega
      obtain ⟨r1, r2, r3⟩ := rest_next hmore (by omega)
      rw [decide_eq_true (by omega)] at c2
      have hpage : pageL l on b n = (restL l on b).take n.toNat := rfl
      rw [← hpage] at r1 r2 r3
      generalize hlk : lastK b (pageL l on b n) = b2 at c2 r1 r2 r3
      generalize hpg : pageL l on b n = pg at c2 hpage
      repeat' (first | simp (maxSteps := 10000000) (disch := omega) only [go_sem, Nat.reduceAdd, Nat.reduceSub, Nat.reduceMul, Nat.reduceLT, Nat.reduceLeDiff, Nat.reduceEqDiff, Nat.reduceBEq, Nat.reduceBNe, reduceCtorEq, Int.reduceBNe, Int.reduceBEq, blt0, Int.reduceToNat, Int.toNat_zero, Int.toNat_one, if_pos, if_neg, wrap_i64, decide_eq_true, decide_eq_false, ibeq_t, ibeq_f, ibne_t, ibne_f, Int.toNat_natCast, tn_sub1, tn_add1, List.getElem?_map, gx, c2, curR, fit_rrow, head_rrow2, head_rrow0, hP] | simp only [go_sem, Nat.reduceAdd, Nat.reduceSub, Nat.reduceMul, Nat.reduceLT, Nat.reduceLeDiff, Nat.reduceEqDiff, Nat.reduceBEq, Nat.reduceBNe, reduceCtorEq, Int.reduceBNe, Int.reduceBEq, blt0, c2, curR, fit_rrow, head_rrow2, head_rrow0, hP] | (refine WC_split (fun hc => ?_) (fun hc => ?_) <;> (try simp only [hc]) <;> (try simp only [Bool.and_eq_true, Bool.or_eq_true, Bool.not_eq_true', Bool.not_eq_false', decide_eq_true_eq, decide_eq_false_iff_not, beq_iff_eq, beq_eq_false_iff_ne, bne_iff_ne, bne_eq_false_iff_eq, ne_eq] at hc) <;> (try (have hb : @Eq Bool _ _ := hc; simp only [hb]; clear hb))) | (refine WS_split (fun hc => ?_) (fun hc => ?_) <;> (try simp only [hc]) <;> (try simp only [Bool.and_eq_true, Bool.or_eq_true, Bool.not_eq_true', Bool.not_eq_false', decide_eq_true_eq, decide_eq_false_iff_not, beq_iff_eq, beq_eq_false_iff_ne, bne_iff_ne, bne_eq_false_iff_eq, ne_eq] at hc) <;> (try (have hb : @Eq Bool _ _ := hc; simp only [hb]; clear hb))) | (refine WD_split (fun hc => ?_) (fun hc => ?_) <;> (try simp only [hc]) <;> (try simp only [Bool.and_eq_true, Bool.or_eq_true, Bool.not_eq_true', Bool.not_eq_false', decide_eq_true_eq, decide_eq_false_iff_not, beq_iff_eq, beq_eq_false_iff_ne, bne_iff_ne, bne_eq_false_iff_eq, ne_eq] at hc) <;> (try (have hb : @Eq Bool _ _ := hc; simp only [hb]; clear hb))))
      refine hnorm (P ++ [pg], b2) _ ⟨?_, ?_, ?_⟩ ?_ ?_
      · simp only [okC, Bool.and_eq_true, decide_eq_true_eq]; exact ⟨h1b.1, by omega, by omega, h1b.2.2.2⟩
      · simp only [List.length_append, List.length_singleton, r1, List.length_drop]; omega
      · simp only [r1]
        rw [← h3, List.append_assoc]
        congr 1
        obtain ⟨k, hk⟩ : ∃ k, (restL l on b).length = k + 1 := ⟨(restL l on b).length - 1, by omega⟩
        rw [hk, pagesOf, if_pos hmore, hpage, pages_fuel (by omega) k ((restL l on b).drop n.toNat).length _ (by rw [List.length_drop]; omega) (Nat.le_refl _)]
        rfl
      · simp only [r1, List.length_drop]; omega
      · rw [T73, List.map_append]; kernel_rfl
    · have hlen2 : (pageL l on b n).length = (restL l on b).length := by rw [pageL, List.length_take]; omega
      rw [decide_eq_false (by omega)] at c2
      generalize hlk : lastK b (pageL l on b n) = b2 at c2
      generalize hpg : pageL l on b n = pg at c2
      repeat' (first | simp (maxSteps := 10000000) (disch := omega) only [go_sem, Nat.reduceAdd, Nat.reduceSub, Nat.reduceMul, Nat.reduceLT, Nat.reduceLeDiff, Nat.reduceEqDiff, Nat.reduceBEq, Nat.reduceBNe, reduceCtorEq, Int.reduceBNe, Int.reduceBEq, blt0, Int.reduceToNat, Int.toNat_zero, Int.toNat_one, if_pos, if_neg, wrap_i64, decide_eq_true, decide_eq_false, ibeq_t, ibeq_f, ibne_t, ibne_f, Int.toNat_natCast, tn_sub1, tn_add1, List.getElem?_map, gx, c2, curR, fit_rrow, head_rrow2, head_rrow0, hP] | simp only [go_sem, Nat.reduceAdd, Nat.reduceSub, Nat.reduceMul, Nat.reduceLT, Nat.reduceLeDiff, Nat.reduceEqDiff, Nat.reduceBEq, Nat.reduceBNe, reduceCtorEq, Int.reduceBNe, Int.reduceBEq, blt0, c2, curR, fit_rrow, head_rrow2, head_rrow0, hP] | (refine WC_split (fun hc => ?_) (fun hc => ?_) <;> (try simp only [hc]) <;> (try simp only [Bool.and_eq_true, Bool.or_eq_true, Bool.not_eq_true', Bool.not_eq_false', decide_eq_true_eq, decide_eq_false_iff_not, beq_iff_eq, beq_eq_false_iff_ne, bne_iff_ne, bne_eq_false_iff_eq, ne_eq] at hc) <;> (try (have hb : @Eq Bool _ _ := hc; simp only [hb]; clear hb))) | (refine WS_split (fun hc => ?_) (fun hc => ?_) <;> (try simp only [hc]) <;> (try simp only [Bool.and_eq_true, Bool.or_eq_true, Bool.not_eq_true', Bool.not_eq_false', decide_eq_true_eq, decide_eq_false_iff_not, beq_iff_eq, beq_eq_false_iff_ne, bne_iff_ne, bne_eq_false_iff_eq, ne_eq] at hc) <;> (try (have hb : @Eq Bool _ _ := hc; simp only [hb]; clear hb))) | (refine WD_split (fun hc => ?_) (fun hc => ?_) <;> (try simp only [hc]) <;> (try simp only [Bool.and_eq_true, Bool.or_eq_true, Bool.not_eq_true', Bool.not_eq_false', decide_eq_true_eq, decide_eq_false_iff_not, beq_iff_eq, beq_eq_false_iff_ne, bne_iff_ne, bne_eq_false_iff_eq, ne_eq] at hc) <;> (try (have hb : @Eq Bool _ _ := hc; simp only [hb]; clear hb))))
      refine hret _ ?_
      repeat' (first | simp (maxSteps := 10000000) (disch := omega) only [go_sem, Nat.reduceAdd, Nat.reduceSub, Nat.reduceMul, Nat.reduceLT, Nat.reduceLeDiff, Nat.reduceEqDiff, Nat.reduceBEq, Nat.reduceBNe, reduceCtorEq, Int.reduceBNe, Int.reduceBEq, blt0, Int.reduceToNat, Int.toNat_zero, Int.toNat_one, if_pos, if_neg, wrap_i64, decide_eq_true, decide_eq_false, ibeq_t, ibeq_f, ibne_t, ibne_f, Int.toNat_natCast, tn_sub1, tn_add1, List.getElem?_map, gx] | simp only [go_sem, Nat.reduceAdd, Nat.reduceSub, Nat.reduceMul, Nat.reduceLT, Nat.reduceLeDiff, Nat.reduceEqDiff, Nat.reduceBEq, Nat.reduceBNe, reduceCtorEq, Int.reduceBNe, Int.reduceBEq, blt0] | (refine WC_split (fun hc => ?_) (fun hc => ?_) <;> (try simp only [hc]) <;> (try simp only [Bool.and_eq_true, Bool.or_eq_true, Bool.not_eq_true', Bool.not_eq_false', decide_eq_true_eq, decide_eq_false_iff_not, beq_iff_eq, beq_eq_false_iff_ne, bne_iff_ne, bne_eq_false_iff_eq, ne_eq] at hc) <;> (try (have hb : @Eq Bool _ _ := hc; simp only [hb]; clear hb))) | (refine WS_split (fun hc => ?_) (fun hc => ?_) <;> (try simp only [hc]) <;> (try simp only [Bool.and_eq_true, Bool.or_eq_true, Bool.not_eq_true', Bool.not_eq_false', decide_eq_true_eq, decide_eq_false_iff_not, beq_iff_eq, beq_eq_false_iff_ne, bne_iff_ne, bne_eq_false_iff_eq, ne_eq] at hc) <;> (try (have hb : @Eq Bool _ _ := hc; simp only [hb]; clear hb))) | (refine WD_split (fun hc => ?_) (fun hc => ?_) <;> (try simp only [hc]) <;> (try simp only [Bool.and_eq_true, Bool.or_eq_true, Bool.not_eq_true', Bool.not_eq_false', decide_eq_true_eq, decide_eq_false_iff_not, beq_iff_eq, beq_eq_false_iff_ne, bne_iff_ne, bne_eq_false_iff_eq, ne_eq] at hc) <;> (try (have hb : @Eq Bool _ _ := hc; simp only [hb]; clear hb))))
      refine retM (fun _ => ex_ret) rfl rfl ⟨?_, rfl, rfl⟩
      rw [← h3, pages_last hmore, List.map_append, ← hpg]
      rfl
  · have c2 := call_56 l on a n hlen hon
    rw [pageV, if_neg hg] at c2
    rw [allV, if_neg hg]
    simp only [curR] at c2
    refine call_eq fn_73 rfl ?_
    rw [k_start]
    simp only [Try.f73, List.length_cons, List.length_nil, Nat.zero_add, Nat.reduceSub, Nat.reduceAdd, List.replicate, List.cons_append, List.nil_append]
    repeat' (first | simp (maxSteps := 10000000) (disch := omega) only [go_sem, Nat.reduceAdd, Nat.reduceSub, Nat.reduceMul, Nat.reduceLT, Nat.reduceLeDiff, Nat.reduceEqDiff, Nat.reduceBEq, Nat.reduceBNe, reduceCtorEq, Int.reduceBNe, Int.reduceBEq, blt0, Int.reduceToNat, Int.toNat_zero, Int.toNat_one, if_pos, if_neg, wrap_i64, decide_eq_true, decide_eq_false, ibeq_t, ibeq_f, ibne_t, ibne_f, Int.toNat_natCast, tn_sub1, tn_add1, List.getElem?_map, gx, curR] | simp only [go_sem, Nat.reduceAdd, Nat.reduceSub, Nat.reduceMul, Nat.reduceLT, Nat.reduceLeDiff, Nat.reduceEqDiff, Nat.reduceBEq, Nat.reduceBNe, reduceCtorEq, Int.reduceBNe, Int.reduceBEq, blt0, curR] | (refine WC_split (fun hc => ?_) (fun hc => ?_) <;> (try simp only [hc]) <;> (try simp only [Bool.and_eq_true, Bool.or_eq_true, Bool.not_eq_true', Bool.not_eq_false', decide_eq_true_eq, decide_eq_false_iff_not, beq_iff_eq, beq_eq_false_iff_ne, bne_iff_ne, bne_eq_false_iff_eq, ne_eq] at hc) <;> (try (have hb : @Eq Bool _ _ := hc; simp only [hb]; clear hb))) | (refine WS_split (fun hc => ?_) (fun hc => ?_) <;> (try simp only [hc]) <;> (try simp only [Bool.and_eq_true, Bool.or_eq_true, Bool.not_eq_true', Bool.not_eq_false', decide_eq_true_eq, decide_eq_false_iff_not, beq_iff_eq, beq_eq_false_iff_ne, bne_iff_ne, bne_eq_false_iff_eq, ne_eq] at hc) <;> (try (have hb : @Eq Bool _ _ := hc; simp only [hb]; clear hb))) | (refine WD_split (fun hc => ?_) (fun hc => ?_) <;> (try simp only [hc]) <;> (try simp only [Bool.and_eq_true, Bool.or_eq_true, Bool.not_eq_true', Bool.not_eq_false', decide_eq_true_eq, decide_eq_false_iff_not, beq_iff_eq, beq_eq_false_iff_ne, bne_iff_ne, bne_eq_false_iff_eq, ne_eq] at hc) <;> (try (have hb : @Eq Bool _ _ := hc; simp only [hb]; clear hb))))
    refine k_loop (T73 l on n) (fun x => x = ([], a)) (fun _ => 0) ([], a) (K := cfg.kill 73 2) rfl rfl (by kernel_rfl) ?_
    rintro _ rfl k' Q' hnorm hexit hret
    simp only [T73, mkF, List.foldl, List.replicate, List.set, List.cons_append, List.nil_append]
    repeat' (first | simp (maxSteps := 10000000) (disch := omega) only [go_sem, Nat.reduceAdd, Nat.reduceSub, Nat.reduceMul, Nat.reduceLT, Nat.reduceLeDiff, Nat.reduceEqDiff, Nat.reduceBEq, Nat.reduceBNe, reduceCtorEq, Int.reduceBNe, Int.reduceBEq, blt0, Int.reduceToNat, Int.toNat_zero, Int.toNat_one, if_pos, if_neg, wrap_i64, decide_eq_true, decide_eq_false, ibeq_t, ibeq_f, ibne_t, ibne_f, Int.toNat_natCast, tn_sub1, tn_add1, List.getElem?_map, gx, c2, curR] | simp only [go_sem, Nat.reduceAdd, Nat.reduceSub, Nat.reduceMul, Nat.reduceLT, Nat.reduceLeDiff, Nat.reduceEqDiff, Nat.reduceBEq, Nat.reduceBNe, reduceCtorEq, Int.reduceBNe, Int.reduceBEq, blt0, c2, curR] | (refine WC_split (fun hc => ?_) (fun hc => ?_) <;> (try simp only [hc]) <;> (try simp only [Bool.and_eq_true, Bool.or_eq_true, Bool.not_eq_true', Bool.not_eq_false', decide_eq_true_eq, decide_eq_false_iff_not, beq_iff_eq, beq_eq_false_iff_ne, bne_iff_ne, bne_eq_false_iff_eq, ne_eq] at hc) <;> (try (have hb : @Eq Bool _ _ := hc; simp only [hb]; clear hb))) | (refine WS_split (fun hc => ?_) (fun hc => ?_) <;> (try simp only [hc]) <;> (try simp only [Bool.and_eq_true, Bool.or_eq_true, Bool.not_eq_true', Bool.not_eq_false', decide_eq_true_eq, decide_eq_false_iff_not, beq_iff_eq, beq_eq_false_iff_ne, bne_iff_ne, bne_eq_false_iff_eq, ne_eq] at hc) <;> (try (have hb : @Eq Bool _ _ := hc; simp only [hb]; clear hb))) | (refine WD_split (fun hc => ?_) (fun hc => ?_) <;> (try simp only [hc]) <;> (try simp only [Bool.and_eq_true, Bool.or_eq_true, Bool.not_eq_true', Bool.not_eq_false', decide_eq_true_eq, decide_eq_false_iff_not, beq_iff_eq, beq_eq_false_iff_ne, bne_iff_ne, bne_eq_false_iff_eq, ne_eq] at hc) <;> (try (have hb : @Eq Bool _ _ := hc; simp only [hb]; clear hb))))
    refine hret _ ?_
    repeat' (first | simp (maxSteps := 10000000) (disch := omega) only [go_sem, Nat.reduceAdd, Nat.reduceSub, Nat.reduceMul, Nat.reduceLT, Nat.reduceLeDiff, Nat.reduceEqDiff, Nat.reduceBEq, Nat.reduceBNe, reduceCtorEq, Int.reduceBNe, Int.reduceBEq, blt0, Int.reduceToNat, Int.toNat_zero, Int.toNat_one, if_pos, if_neg, wrap_i64, decide_eq_true, decide_eq_false, ibeq_t, ibeq_f, ibne_t, ibne_f, Int.toNat_natCast, tn_sub1, tn_add1, List.getElem?_map, gx] | simp only [go_sem, Nat.reduceAdd, Nat.reduceSub, Nat.reduceMul, Nat.reduceLT, Nat.reduceLeDiff, Nat.reduceEqDiff, Nat.reduceBEq, Nat.reduceBNe, reduceCtorEq, Int.reduceBNe, Int.reduceBEq, blt0] | (refine WC_split (fun hc => ?_) (fun hc => ?_) <;> (try simp only [hc]) <;> (try simp only [Bool.and_eq_true, Bool.or_eq_true, Bool.not_eq_true', Bool.not_eq_false', decide_eq_true_eq, decide_eq_false_iff_not, beq_iff_eq, beq_eq_false_iff_ne, bne_iff_ne, bne_eq_false_iff_eq, ne_eq] at hc) <;> (try (have hb : @Eq Bool _ _ := hc; simp only [hb]; clear hb))) | (refine WS_split (fun hc => ?_) (fun hc => ?_) <;> (try simp only [hc]) <;> (try simp only [Bool.and_eq_true, Bool.or_eq_true, Bool.not_eq_true', Bool.not_eq_false', decide_eq_true_eq, decide_eq_false_iff_not, beq_iff_eq, beq_eq_false_iff_ne, bne_iff_ne, bne_eq_false_iff_eq, ne_eq] at hc) <;> (try (have hb : @Eq Bool _ _ := hc; simp only [hb]; clear hb))) | (refine WD_split (fun hc => ?_) (fun hc => ?_) <;> (try simp only [hc]) <;> (try simp only [Bool.and_eq_true, Bool.or_eq_true, Bool.not_eq_true', Bool.not_eq_false', decide_eq_true_eq, decide_eq_false_iff_not, beq_iff_eq, beq_eq_false_iff_ne, bne_iff_ne, bne_eq_false_iff_eq, ne_eq] at hc) <;> (try (have hb : @Eq Bool _ _ := hc; simp only [hb]; clear hb))))
    exact retM (fun _ => ex_ret) rfl rfl ⟨rfl, rfl, rfl⟩
end Go.Proofs.Ytbpkaajokffpjaa
