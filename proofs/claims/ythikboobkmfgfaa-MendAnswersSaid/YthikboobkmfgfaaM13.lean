/- What a mender hears: the program's answer. -/
import Derived.Test.YthikboobkmfgfaaM12
set_option linter.all false
set_option maxRecDepth 100000
namespace Go.Proofs.Ythikboobkmfgfaa
open Go Go.Abs

theorem hear_nil (lv : Int) (L : List Int) (K : List Nat) (C : List CR) : (Lim cfg).call 26 [.nilp, .agg (toldR lv L K C)] [] = some (.int .i64 1, false, []) := by
  refine call_eq fn_26 rfl ?_
  rw [k_start]
  simp only [Try.f26, st0, Nat.zero_add]
  repeat' (first | simp (maxSteps := 10000000) (disch := omega) only [go_sem, Nat.reduceAdd, Nat.reduceSub, Nat.reduceMul, Nat.reduceLT, Nat.reduceLeDiff, Nat.reduceEqDiff, Nat.reduceBEq, Nat.reduceBNe, reduceCtorEq, Int.reduceBNe, Int.reduceBEq, au, lst, if_pos, if_neg, toldR] | simp (disch := (simp only [lens]; omega)) only [str_add, if_pos, if_neg] | ((with_reducible first | refine WC_split ?_ ?_ | refine WS_split ?_ ?_ | refine WD_split ?_ ?_) <;> intro hc <;> (try simp only [hc]) <;> (try simp only [bools] at hc) <;> (try (have hb : @Eq Bool _ _ := hc; simp only [hb]; clear hb))))
  exact ret1n (fun _ => ex_ret) rfl rfl rfl ⟨rfl, rfl, rfl⟩
/-- Is it what was asked for? -/
def goodH (lv : Int) (L : List Int) (ov : Bool) (lv2 : Int) (L2 : List Int) (K : List Nat) (C : List CR) : Bool := !ov && (decide (lv2 = lv ∧ L2 = L) && wholeT lv2 L2 K C)
/-- What a mender is then. -/
def hearB (T : TV) (lv : Int) (L : List Int) (l : List TR) (K : List Nat) (C : List CR) : Blk :=
  if lv = -1 then menB lv L (turnsT T L C l) true else menB (lv - 1) (nextT L (kidsT T lv L) K) l (nextT L (kidsT T lv L) K).isEmpty
theorem h_reach {T : TV} {b : Blk} {lv : Int} {L : List Int} {l : List TR} {ov : Bool} {xs : List (List V)} : reach [treeB T, menB lv L l ov, b] [.ptr 1 0, .sl true xs] = [0, 1] := by
  have e : reachGo [treeB T, menB lv L l ov, b] 3 [1] = [0, 1] := by
    unfold reachGo
    show reachGo [treeB T, menB lv L l ov, b] 2 [0, 1] = [0, 1]
    unfold reachGo
    show (if (V.idsl (V.idsl [0, 1] (treeC T)) [.ptr 0 0, .int .i64 lv, .sl true (L.map irow), .sl true (l.map trow), .bool ov]).length = [0, 1].length then [0, 1] else _) = [0, 1]
    rw [treeC_ids]; rfl
  show (List.range 3).filter (fun i => (reachGo [treeB T, menB lv L l ov, b] 3 [1]).contains i) = [0, 1]
  rw [e]; rfl
theorem h_closed {T : TV} {b : Blk} {lv : Int} {L : List Int} {l : List TR} {ov : Bool} {xs : List (List V)} : closedIn [treeB T, menB lv L l ov, b] [0, 1] [.ptr 1 0, .sl true xs] = true := by
  show (true && ((true && V.alll (fun i => [0, 1].contains i) (treeC T)) && true)) = true
  rw [treeC_all]; rfl
theorem h_sub {T : TV} {b : Blk} {lv : Int} {L : List Int} {l : List TR} {ov : Bool} : subHp [treeB T, menB lv L l ov, b] [0, 1] = [treeB T, menB lv L l ov] := by
  show [Blk.cells 131 [] (V.renl (fun i => [0, 1].idxOf i) (treeC T)), _] = _
  rw [treeC_ren]; rfl
def S22h (T : TV) (lv : Int) (L : List Int) (l : List TR) (K : List Nat) (i : Nat) : St := { fr := mkF 99 [(0, .ptr 1 0), (5, .sl true ((kidsT T lv L).map urow)), (6, .sl true ((nextF L (kidsT T lv L) K i).map irow)), (52, .sl true (K.map urow)), (53, .int .i64 K.length), (54, .int .i64 i)], own := [6], hp := [treeB T, menB lv L l false], al := [], nb := 2 }
set_option maxHeartbeats 16000000 in
theorem hear_good {T : TV} (h : T.Ok) {lv : Int} {L : List Int} {l : List TR} {K : List Nat} {C : List CR} (hlen : L.length ≤ 5000) (hl : l.length ≤ 10000) (hK : K.length ≤ 100000) (hC : C.length ≤ 100000) (hw : wholeT lv L K C = true) :
    (Lim cfg).call 26 [.ptr 1 0, .agg (toldR lv L K C)] [treeB T, menB lv L l false] = some (.int .i64 0, false, [treeB T, hearB T lv L l K C]) := by
  have c1 := call_63 lv lv L L (by omega) (by omega)
  have c2 := call_56 lv L K C (by omega) hK hC
  rw [hw] at c2
  rw [decide_eq_true ⟨rfl, rfl⟩] at c1
  simp only [askR] at c1
  simp only [toldR] at c2
  have hw' := hw
  simp only [wholeT, Bool.and_eq_true] at hw'
  obtain ⟨k1, k2, k3, k4⟩ := askOk_inv hw'.1
  unfold hearB
  by_cases h1 : lv = -1
  · rw [if_pos h1]
    subst h1
    have h5 := hw'.2.2
    rw [if_pos rfl, decide_eq_true_eq] at h5
    have c3 := call_64 h (lv := -1) (L := L) (l := l) (ov := false) h5.2 (by omega) hl
    generalize turnsT T L C l = l2 at c3 ⊢
    refine call_eq fn_26 rfl ?_
    rw [k_start]
    simp only [Try.f26, st0, Nat.zero_add]
    repeat' (first | simp (maxSteps := 10000000) (disch := omega) only [go_sem, Nat.reduceAdd, Nat.reduceSub, Nat.reduceMul, Nat.reduceLT, Nat.reduceLeDiff, Nat.reduceEqDiff, Nat.reduceBEq, Nat.reduceBNe, reduceCtorEq, Int.reduceBNe, Int.reduceBEq, au, lst, if_pos, if_neg, toldR, c1, c2] | simp (disch := (simp only [lens]; omega)) only [str_add, if_pos, if_neg] | ((with_reducible first | refine WC_split ?_ ?_ | refine WS_split ?_ ?_ | refine WD_split ?_ ?_) <;> intro hc <;> (try simp only [hc]) <;> (try simp only [bools] at hc) <;> (try (have hb : @Eq Bool _ _ := hc; simp only [hb]; clear hb))))
    rw [callHeap_at (R := [0, 1]) c3 (hR := h_reach) (hc := h_closed) (hs := h_sub)]
    repeat' (first | simp (maxSteps := 10000000) (disch := omega) only [go_sem, Nat.reduceAdd, Nat.reduceSub, Nat.reduceMul, Nat.reduceLT, Nat.reduceLeDiff, Nat.reduceEqDiff, Nat.reduceBEq, Nat.reduceBNe, reduceCtorEq, Int.reduceBNe, Int.reduceBEq, au, lst, if_pos, if_neg, treeC_ren] | simp (disch := (simp only [lens]; omega)) only [str_add, if_pos, if_neg] | ((with_reducible first | refine WC_split ?_ ?_ | refine WS_split ?_ ?_ | refine WD_split ?_ ?_) <;> intro hc <;> (try simp only [hc]) <;> (try simp only [bools] at hc) <;> (try (have hb : @Eq Bool _ _ := hc; simp only [hb]; clear hb))))
    exact retK (v := .int .i64 0) (own := false) (fun _ => ex_ret) rfl rfl m_keep ⟨rfl, rfl, rfl⟩
  · rw [if_neg h1]
    have h5 := hw'.2.2
    rw [if_neg h1, decide_eq_true_eq] at h5
    have c3 := call_34 h (lv := lv) (L := L) (by omega) k2 k4 (by omega)
    have hml := kids_len h (lv := lv) (by omega) k2 k4
    have hF : ∀ i, nextF L (kidsT T lv L) K (i + 1) = if K[i]? = (kidsT T lv L)[i]? then nextF L (kidsT T lv L) K i else nextF L (kidsT T lv L) K i ++ [16 * L.getD (i / 16) 0 + ((i % 16 : Nat) : Int)] := fun i => rfl
    have hN : nextT L (kidsT T lv L) K = nextF L (kidsT T lv L) K K.length := rfl
    have hNl := nextF_len L (kidsT T lv L) K
    have eS : ∀ i, S22h T lv L l K i = { fr := mkF 99 [(0, .ptr 1 0), (5, .sl true ((kidsT T lv L).map urow)), (6, .sl true ((nextF L (kidsT T lv L) K i).map irow)), (52, .sl true (K.map urow)), (53, .int .i64 K.length), (54, .int .i64 i)], own := [6], hp := [treeB T, menB lv L l false], al := [], nb := 2 } := fun _ => rfl
    have hN0 : nextF L (kidsT T lv L) K 0 = [] := rfl
    rw [hN]
    generalize hmn : kidsT T lv L = M at c3 hml hF hNl eS hN0 ⊢
    generalize hnx : nextF L M K = N at hF hNl eS hN0 ⊢
    simp only [askR] at c3
    refine call_eq fn_26 rfl ?_
    rw [k_start]
    simp only [Try.f26, st0, Nat.zero_add]
    repeat' (first | simp (maxSteps := 10000000) (disch := omega) only [go_sem, Nat.reduceAdd, Nat.reduceSub, Nat.reduceMul, Nat.reduceLT, Nat.reduceLeDiff, Nat.reduceEqDiff, Nat.reduceBEq, Nat.reduceBNe, reduceCtorEq, Int.reduceBNe, Int.reduceBEq, au, lst, if_pos, if_neg, toldR, c1, c2] | simp (disch := (simp only [lens]; omega)) only [str_add, if_pos, if_neg] | ((with_reducible first | refine WC_split ?_ ?_ | refine WS_split ?_ ?_ | refine WD_split ?_ ?_) <;> intro hc <;> (try simp only [hc]) <;> (try simp only [bools] at hc) <;> (try (have hb : @Eq Bool _ _ := hc; simp only [hb]; clear hb))))
    rw [callHeap_at (R := [0]) c3 (hR := a_reach2) (hc := a_closed2) (hs := a_sub)]
    repeat' (first | simp (maxSteps := 10000000) (disch := omega) only [go_sem, Nat.reduceAdd, Nat.reduceSub, Nat.reduceMul, Nat.reduceLT, Nat.reduceLeDiff, Nat.reduceEqDiff, Nat.reduceBEq, Nat.reduceBNe, reduceCtorEq, Int.reduceBNe, Int.reduceBEq, au, lst, if_pos, if_neg, treeC_ren] | simp (disch := (simp only [lens]; omega)) only [str_add, if_pos, if_neg] | ((with_reducible first | refine WC_split ?_ ?_ | refine WS_split ?_ ?_ | refine WD_split ?_ ?_) <;> intro hc <;> (try simp only [hc]) <;> (try simp only [bools] at hc) <;> (try (have hb : @Eq Bool _ _ := hc; simp only [hb]; clear hb))))
    refine k_loop (S22h T lv L l K) (fun i => i ≤ K.length) (fun i => K.length - i) 0 (K := cfg.kill 26 9) rfl (Nat.zero_le _) ?_ ?_
    · rw [eS, hN0]
      exact head_two rfl rfl (by kernel_rfl) (by kernel_rfl) (by kernel_rfl) (by kernel_rfl)
    intro i hi k' Q' hnorm hexit hret
    rw [eS]
    simp only [eS, mkF, List.foldl, st0, List.set]
    by_cases hlt : i < K.length
    · have hltM : i < M.length := by omega
      have hi16 : i / 16 < L.length := by omega
      have hs := hF i
      rw [List.getElem?_eq_getElem hlt, List.getElem?_eq_getElem hltM] at hs
      have hNi := hNl i
      have hb : ((N i).length + 1) * 8 ≤ strMax := by unfold strMax; omega
      have hrng := k4 L[i / 16] (List.getElem_mem hi16)
      have hsz := sizeZ_le lv
      have q1 : Int.tdiv (i : Int) 16 = ((i / 16 : Nat) : Int) := by rw [Int.tdiv_eq_ediv_of_nonneg (by omega)]; norm_cast
      have q2 : Int.tmod (i : Int) 16 = ((i % 16 : Nat) : Int) := by rw [Int.tmod_eq_emod_of_nonneg (by omega)]; norm_cast
      have hgd : L.getD (i / 16) 0 = L[i / 16] := by rw [List.getD_eq_getElem?_getD, List.getElem?_eq_getElem hi16]; rfl
      rw [hgd] at hs
      by_cases he : K[i] = M[i]
      · rw [if_pos (by rw [he])] at hs
        repeat' (first | simp (maxSteps := 10000000) (disch := omega) only [go_sem, Nat.reduceAdd, Nat.reduceSub, Nat.reduceMul, Nat.reduceLT, Nat.reduceLeDiff, Nat.reduceEqDiff, Nat.reduceBEq, Nat.reduceBNe, reduceCtorEq, Int.reduceBNe, Int.reduceBEq, au, lst, if_pos, if_neg, urow, he] | simp (disch := (simp only [lens]; omega)) only [str_add, if_pos, if_neg] | ((with_reducible first | refine WC_split ?_ ?_ | refine WS_split ?_ ?_ | refine WD_split ?_ ?_) <;> intro hc <;> (try simp only [hc]) <;> (try simp only [bools] at hc) <;> (try (have hb : @Eq Bool _ _ := hc; simp only [hb]; clear hb))))
        refine hnorm (i + 1) _ (by omega) (by omega) ?_
        rw [eS, hs]
        exact head_two rfl rfl (by kernel_rfl) (by kernel_rfl) (by kernel_rfl) (by kernel_rfl)
      · rw [if_neg (fun e => he (Option.some.inj e))] at hs
        have he' : ¬ (K[i] : Int) = (M[i] : Int) := by omega
        have er : (N i).map irow ++ [[.int .i64 (16 * L[i / 16] + ((i % 16 : Nat) : Int))]] = (N (i + 1)).map irow := by rw [hs, List.map_append]; rfl
        repeat' (first | simp (maxSteps := 10000000) (disch := omega) only [go_sem, Nat.reduceAdd, Nat.reduceSub, Nat.reduceMul, Nat.reduceLT, Nat.reduceLeDiff, Nat.reduceEqDiff, Nat.reduceBEq, Nat.reduceBNe, reduceCtorEq, Int.reduceBNe, Int.reduceBEq, au, lst, if_pos, if_neg, urow, irow, q1, q2, hb, fit_irow, head_irow, head_irow', er] | simp (disch := (simp only [lens]; omega)) only [str_add, if_pos, if_neg] | ((with_reducible first | refine WC_split ?_ ?_ | refine WS_split ?_ ?_ | refine WD_split ?_ ?_) <;> intro hc <;> (try simp only [hc]) <;> (try simp only [bools] at hc) <;> (try (have hb : @Eq Bool _ _ := hc; simp only [hb]; clear hb))))
        refine hnorm (i + 1) _ (by omega) (by omega) ?_
        rw [eS]
        exact head_two rfl rfl (by kernel_rfl) (by kernel_rfl) (by kernel_rfl) (by kernel_rfl)
    · have hil : i = K.length := by omega
      subst hil
      clear hnorm hret
      repeat' (first | simp (maxSteps := 10000000) (disch := omega) only [go_sem, Nat.reduceAdd, Nat.reduceSub, Nat.reduceMul, Nat.reduceLT, Nat.reduceLeDiff, Nat.reduceEqDiff, Nat.reduceBEq, Nat.reduceBNe, reduceCtorEq, Int.reduceBNe, Int.reduceBEq, au, lst, if_pos, if_neg] | simp (disch := (simp only [lens]; omega)) only [str_add, if_pos, if_neg] | ((with_reducible first | refine WC_split ?_ ?_ | refine WS_split ?_ ?_ | refine WD_split ?_ ?_) <;> intro hc <;> (try simp only [hc]) <;> (try simp only [bools] at hc) <;> (try (have hb : @Eq Bool _ _ := hc; simp only [hb]; clear hb))))
      refine hexit _ _ ?_
      clear hexit
      generalize N K.length = X
      cases X with
      | nil =>
        repeat' (first | simp (maxSteps := 10000000) (disch := omega) only [go_sem, Nat.reduceAdd, Nat.reduceSub, Nat.reduceMul, Nat.reduceLT, Nat.reduceLeDiff, Nat.reduceEqDiff, Nat.reduceBEq, Nat.reduceBNe, reduceCtorEq, Int.reduceBNe, Int.reduceBEq, au, lst, if_pos, if_neg, List.map_nil] | simp (disch := (simp only [lens]; omega)) only [str_add, if_pos, if_neg] | ((with_reducible first | refine WC_split ?_ ?_ | refine WS_split ?_ ?_ | refine WD_split ?_ ?_) <;> intro hc <;> (try simp only [hc]) <;> (try simp only [bools] at hc) <;> (try (have hb : @Eq Bool _ _ := hc; simp only [hb]; clear hb))))
        exact retK (v := .int .i64 0) (own := false) (fun _ => ex_ret) rfl rfl (m_keep (L := [])) ⟨rfl, rfl, rfl⟩
      | cons x X =>
        repeat' (first | simp (maxSteps := 10000000) (disch := omega) only [go_sem, Nat.reduceAdd, Nat.reduceSub, Nat.reduceMul, Nat.reduceLT, Nat.reduceLeDiff, Nat.reduceEqDiff, Nat.reduceBEq, Nat.reduceBNe, reduceCtorEq, Int.reduceBNe, Int.reduceBEq, au, lst, if_pos, if_neg, List.map_cons] | simp (disch := (simp only [lens]; omega)) only [str_add, if_pos, if_neg] | ((with_reducible first | refine WC_split ?_ ?_ | refine WS_split ?_ ?_ | refine WD_split ?_ ?_) <;> intro hc <;> (try simp only [hc]) <;> (try simp only [bools] at hc) <;> (try (have hb : @Eq Bool _ _ := hc; simp only [hb]; clear hb))))
        exact retK (v := .int .i64 0) (own := false) (fun _ => ex_ret) rfl rfl (m_keep (L := x :: X)) ⟨rfl, rfl, rfl⟩
set_option maxHeartbeats 16000000 in
theorem hear_bad {T : TV} {lv lv2 : Int} {L L2 : List Int} {l : List TR} {ov : Bool} {K : List Nat} {C : List CR} (hlen : L.length ≤ 5000) (hlen2 : L2.length ≤ 5000) (hK : K.length ≤ 100000) (hC : C.length ≤ 100000) (hw : goodH lv L ov lv2 L2 K C = false) :
    (Lim cfg).call 26 [.ptr 1 0, .agg (toldR lv2 L2 K C)] [treeB T, menB lv L l ov] = some (.int .i64 1, false, [treeB T, menB lv L l ov]) := by
  have c1 := call_63 lv2 lv L2 L (by omega) (by omega)
  have c2 := call_56 lv2 L2 K C (by omega) hK hC
  simp only [askR] at c1
  simp only [toldR] at c2
  unfold goodH at hw
  cases ov with
  | true =>
    refine call_eq fn_26 rfl ?_
    rw [k_start]
    simp only [Try.f26, st0, Nat.zero_add]
    repeat' (first | simp (maxSteps := 10000000) (disch := omega) only [go_sem, Nat.reduceAdd, Nat.reduceSub, Nat.reduceMul, Nat.reduceLT, Nat.reduceLeDiff, Nat.reduceEqDiff, Nat.reduceBEq, Nat.reduceBNe, reduceCtorEq, Int.reduceBNe, Int.reduceBEq, au, lst, if_pos, if_neg, toldR] | simp (disch := (simp only [lens]; omega)) only [str_add, if_pos, if_neg] | ((with_reducible first | refine WC_split ?_ ?_ | refine WS_split ?_ ?_ | refine WD_split ?_ ?_) <;> intro hc <;> (try simp only [hc]) <;> (try simp only [bools] at hc) <;> (try (have hb : @Eq Bool _ _ := hc; simp only [hb]; clear hb))))
    exact retK (v := .int .i64 1) (own := false) (fun _ => ex_ret) rfl rfl m_keep ⟨rfl, rfl, rfl⟩
  | false =>
    rw [Bool.not_false, Bool.true_and] at hw
    by_cases h1 : lv2 = lv ∧ L2 = L
    · rw [decide_eq_true h1, Bool.true_and] at hw
      rw [decide_eq_true h1] at c1
      rw [hw] at c2
      refine call_eq fn_26 rfl ?_
      rw [k_start]
      simp only [Try.f26, st0, Nat.zero_add]
      repeat' (first | simp (maxSteps := 10000000) (disch := omega) only [go_sem, Nat.reduceAdd, Nat.reduceSub, Nat.reduceMul, Nat.reduceLT, Nat.reduceLeDiff, Nat.reduceEqDiff, Nat.reduceBEq, Nat.reduceBNe, reduceCtorEq, Int.reduceBNe, Int.reduceBEq, au, lst, if_pos, if_neg, toldR, c1, c2] | simp (disch := (simp only [lens]; omega)) only [str_add, if_pos, if_neg] | ((with_reducible first | refine WC_split ?_ ?_ | refine WS_split ?_ ?_ | refine WD_split ?_ ?_) <;> intro hc <;> (try simp only [hc]) <;> (try simp only [bools] at hc) <;> (try (have hb : @Eq Bool _ _ := hc; simp only [hb]; clear hb))))
      exact retK (v := .int .i64 1) (own := false) (fun _ => ex_ret) rfl rfl m_keep ⟨rfl, rfl, rfl⟩
    · rw [decide_eq_false h1] at c1
      refine call_eq fn_26 rfl ?_
      rw [k_start]
      simp only [Try.f26, st0, Nat.zero_add]
      repeat' (first | simp (maxSteps := 10000000) (disch := omega) only [go_sem, Nat.reduceAdd, Nat.reduceSub, Nat.reduceMul, Nat.reduceLT, Nat.reduceLeDiff, Nat.reduceEqDiff, Nat.reduceBEq, Nat.reduceBNe, reduceCtorEq, Int.reduceBNe, Int.reduceBEq, au, lst, if_pos, if_neg, toldR, c1] | simp (disch := (simp only [lens]; omega)) only [str_add, if_pos, if_neg] | ((with_reducible first | refine WC_split ?_ ?_ | refine WS_split ?_ ?_ | refine WD_split ?_ ?_) <;> intro hc <;> (try simp only [hc]) <;> (try simp only [bools] at hc) <;> (try (have hb : @Eq Bool _ _ := hc; simp only [hb]; clear hb))))
      exact retK (v := .int .i64 1) (own := false) (fun _ => ex_ret) rfl rfl m_keep ⟨rfl, rfl, rfl⟩
end Go.Proofs.Ythikboobkmfgfaa
