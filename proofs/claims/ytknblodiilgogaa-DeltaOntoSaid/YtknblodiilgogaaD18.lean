/- What turns make, one behind the other, and behind others: the program's answers. -/
import Derived.Test.YtknblodiilgogaaD17
set_option linter.all false
set_option maxRecDepth 100000
namespace Go.Proofs.Ytknblodiilgogaa
open Go Go.Abs

theorem retN {r1 r2 : ResultVar} {rs : List ResultVar} {e : Ex} {s : St} {R : V → Bool → List Blk → Prop} {vs : List V} (he : ∀ i, e ≠ .exit i) (hv : (r1 :: r2 :: rs).mapM (resOf cfg s) = some vs) (hl : V.lt 0 (.tup vs) = true) (h : R (.tup vs) false []) :
    Ret cfg (r1 :: r2 :: rs) 0 R e s := by
  refine ⟨he, .tup vs, false, by simp only [resultsV, hv, Option.map_some], ?_⟩
  simp only [hl, List.take_zero, List.all_nil, Bool.and_self, if_true, Bool.false_and]
  exact h

theorem call_60 (A B : List TR) : (Lim cfg).call 60 [.sl true (A.map trow), .sl true (B.map trow), .fn 61 []] [] = some (.fn 83 [.ptr 0 0, .ptr 1 0, .ptr 2 0], false, [tabT A, tabT B, keyT]) := by
  refine call_eq fn_60 rfl ?_
  rw [k_start]
  simp only [Try.f60, List.length_cons, List.length_nil, Nat.zero_add, Nat.reduceSub, Nat.reduceAdd, List.replicate, List.cons_append, List.nil_append]
  simp only [go_sem, Nat.reduceAdd, Nat.reduceSub, Nat.reduceMul, Nat.reduceLT, Nat.reduceLeDiff, Nat.reduceEqDiff, Nat.reduceBEq, Nat.reduceBNe, reduceCtorEq, Int.reduceBNe, Int.reduceBEq, ty_39, ty_125]
  refine ⟨fun _ => ex_ret, .fn 83 [.ptr 0 0, .ptr 1 0, .ptr 2 0], false, rfl, rfl, rfl, rfl⟩

set_option maxHeartbeats 8000000 in
theorem call_31 (l m : List TR) (hl : l.length ≤ 10000) (hm : m.length ≤ 10000) : (Lim cfg).call 31 [.sl true (l.map trow), .sl true (m.map trow)] [] =
    some (.tup [.sl true ((thenR l m).1.map trow), .int .i64 (thenR l m).2], false, []) := by
  have c1 := call_20 l (by omega)
  have c2 := call_20 m (by omega)
  unfold thenR
  refine call_eq fn_31 rfl ?_
  rw [k_start]
  simp only [Try.f31, List.length_cons, List.length_nil, Nat.zero_add, Nat.reduceSub, Nat.reduceAdd, List.replicate, List.cons_append, List.nil_append]
  simp only [go_sem, Nat.reduceAdd, Nat.reduceSub, Nat.reduceMul, Nat.reduceLT, Nat.reduceLeDiff, Nat.reduceEqDiff, Nat.reduceBEq, Nat.reduceBNe, reduceCtorEq, Int.reduceBNe, Int.reduceBEq, ty_39, ty_27, ty_3, ty_4, c1]
  cases h1 : chkT l with
  | false =>
    simp only [go_sem, Nat.reduceAdd, Nat.reduceSub, Nat.reduceMul, Nat.reduceLT, Nat.reduceLeDiff, Nat.reduceEqDiff, Nat.reduceBEq, Nat.reduceBNe, reduceCtorEq, Int.reduceBNe, Int.reduceBEq, h1, ty_39, ty_27]
    refine retN (fun _ => ex_ret) (by simp only [List.mapM_cons, List.mapM_nil, resOf, loadV, ty_39, ty_27]; rfl) rfl ⟨rfl, rfl, rfl⟩
  | true =>
    simp only [go_sem, Nat.reduceAdd, Nat.reduceSub, Nat.reduceMul, Nat.reduceLT, Nat.reduceLeDiff, Nat.reduceEqDiff, Nat.reduceBEq, Nat.reduceBNe, reduceCtorEq, Int.reduceBNe, Int.reduceBEq, h1, c2]
    cases h2 : chkT m with
    | false =>
      simp only [go_sem, Nat.reduceAdd, Nat.reduceSub, Nat.reduceMul, Nat.reduceLT, Nat.reduceLeDiff, Nat.reduceEqDiff, Nat.reduceBEq, Nat.reduceBNe, reduceCtorEq, Int.reduceBNe, Int.reduceBEq, h2, ty_39, ty_27]
      refine retN (fun _ => ex_ret) (by simp only [List.mapM_cons, List.mapM_nil, resOf, loadV, ty_39, ty_27]; rfl) rfl ⟨rfl, rfl, rfl⟩
    | true =>
      simp only [go_sem, Nat.reduceAdd, Nat.reduceSub, Nat.reduceMul, Nat.reduceLT, Nat.reduceLeDiff, Nat.reduceEqDiff, Nat.reduceBEq, Nat.reduceBNe, reduceCtorEq, Int.reduceBNe, Int.reduceBEq, h2, ty_39, ty_27, call_60]
      rw [show Blk.ren (backId [] 3) (tabT l) = (tabT l) from rfl, show Blk.ren (backId [] 3) (tabT m) = (tabT m) from rfl, show Blk.ren (backId [] 3) keyT = keyT from rfl]
      have hc := call_69a l m [] (by simp only [List.length_nil]; omega)
      cases hT : tm l m [] with
      | mk ok r =>
      obtain ⟨A', B', O'⟩ := r
      rw [hT] at hc
      cases ok with
      | true =>
        refine k_range (hp1 := [.cells 39 [0] [.sl true []], .cells 27 [] [.int .i64 0], .cells 39 [0] [.sl true []], tabT l, tabT m, keyT, loop18 true 0]) (args := [.yld 6, .ptr 3 0, .ptr 4 0, .ptr 5 0]) (R := [0, 1, 2, 3, 4, 5, 6]) (hp3 := H18 (true, A', B', O')) rfl (by kernel_rfl) (by kernel_rfl) (by kernel_rfl) (by kernel_rfl) (by kernel_rfl) (by kernel_rfl)
          hc (by kernel_rfl) rfl rfl rfl ?_
        simp only [H18, outB, errB, if_true]
        simp only [go_sem, Nat.reduceAdd, Nat.reduceSub, Nat.reduceMul, Nat.reduceLT, Nat.reduceLeDiff, Nat.reduceEqDiff, Nat.reduceBEq, Nat.reduceBNe, reduceCtorEq, Int.reduceBNe, Int.reduceBEq, ty_39, ty_27]
        refine retN (fun _ => ex_ret) (by simp only [List.mapM_cons, List.mapM_nil, resOf, loadV, ty_39, ty_27]; rfl) rfl ⟨rfl, rfl, rfl⟩
      | false =>
        refine k_range (hp1 := [.cells 39 [0] [.sl true []], .cells 27 [] [.int .i64 0], .cells 39 [0] [.sl true []], tabT l, tabT m, keyT, loop18 true 0]) (args := [.yld 6, .ptr 3 0, .ptr 4 0, .ptr 5 0]) (R := [0, 1, 2, 3, 4, 5, 6]) (hp3 := H18 (false, A', B', O')) rfl (by kernel_rfl) (by kernel_rfl) (by kernel_rfl) (by kernel_rfl) (by kernel_rfl) (by kernel_rfl)
          hc (by kernel_rfl) rfl rfl rfl ?_
        simp only [H18, outB, errB, if_true, Bool.false_eq_true, if_false]
        simp only [go_sem, Nat.reduceAdd, Nat.reduceSub, Nat.reduceMul, Nat.reduceLT, Nat.reduceLeDiff, Nat.reduceEqDiff, Nat.reduceBEq, Nat.reduceBNe, reduceCtorEq, Int.reduceBNe, Int.reduceBEq, ty_39, ty_27]
        refine retN (fun _ => ex_ret) (by simp only [List.mapM_cons, List.mapM_nil, resOf, loadV, ty_39, ty_27]; rfl) rfl ⟨rfl, rfl, rfl⟩

theorem oget {l : List TR} {x : Int} {i : Nat} (h : idxT l x = i) : l.findIdx? (fun t => t.1 == x) = some i := by
  unfold idxT at h
  split at h
  · rename_i j hj; rw [hj]; congr 1; omega
  · omega
theorem oget_none {l : List TR} {x : Int} (h : idxT l x = -1) : l.findIdx? (fun t => t.1 == x) = none := by
  unfold idxT at h
  split at h
  · omega
  · assumption
theorem om_oref {l m : List TR} : ∀ (n i k : Nat) (lo : Int) (X : List TR × List Int), (l.length - i) + (m.length - k) = n → FrontT l i lo → FrontT m k lo → om (l.drop i) (m.drop k) X = oref l (m.drop k) X
  | n, i, k, lo, X, hn, hl, hm => by
    by_cases hi : i < l.length
    · have hgl := hl.get hi
      by_cases hk : k < m.length
      · have hgm := hm.get hk
        rw [List.drop_eq_getElem_cons hi, List.drop_eq_getElem_cons hk, om]
        by_cases hlt : l[i].1 < m[k].1
        · rw [if_pos hlt, ← List.drop_eq_getElem_cons hk]
          exact om_oref _ (i + 1) k l[i].1 X rfl (hl.adv hi) (hm.stay hgl.1 fun _ => hlt)
        · by_cases hgt : m[k].1 < l[i].1
          · rw [if_neg hlt, if_pos hgt, ← List.drop_eq_getElem_cons hi, om_oref _ i (k + 1) m[k].1 _ rfl (hl.stay hgm.1 fun _ => hgt) (hm.adv hk)]
            rw [oref, oref, List.foldl_cons, ostep, oget_none (hl.no hgm.1 fun _ => hgt)]
          · have heq : l[i].1 = m[k].1 := by omega
            rw [if_neg hlt, if_neg hgt, om_oref _ (i + 1) (k + 1) l[i].1 _ rfl (hl.adv hi) (heq ▸ hm.adv hk)]
            rw [oref, oref, List.foldl_cons, ostep, oget (i := i) (heq ▸ hl.idx hi)]
            simp only [List.getElem?_eq_getElem hi, oboth, heq]
      · rw [List.drop_of_length_le (l := m) (by omega), List.drop_eq_getElem_cons hi, om]
        have := om_oref _ (i + 1) k l[i].1 X rfl (hl.adv hi) (hm.stay hgl.1 fun h => absurd h hk)
        rw [List.drop_of_length_le (l := m) (by omega)] at this
        exact this
    · by_cases hk : k < m.length
      · have hgm := hm.get hk
        rw [List.drop_of_length_le (l := l) (by omega), List.drop_eq_getElem_cons hk, om]
        have := om_oref _ i (k + 1) m[k].1 (X.1 ++ [m[k]], X.2) rfl (hl.stay hgm.1 fun h => absurd h hi) (hm.adv hk)
        rw [List.drop_of_length_le (l := l) (by omega)] at this
        rw [this, oref, oref, List.foldl_cons, ostep, oget_none (hl.no hgm.1 fun h => absurd h hi)]
      · rw [List.drop_of_length_le (by omega), List.drop_of_length_le (by omega), om]; rfl
  termination_by n => n
  decreasing_by all_goals omega

set_option maxHeartbeats 8000000 in
theorem call_26 (l m : List TR) (hl : l.length ≤ 10000) (hm : m.length ≤ 10000) : (Lim cfg).call 26 [.sl true (l.map trow), .sl true (m.map trow)] [] =
    some (.tup [.sl true ((ontoR l m).1.1.map trow), .sl true ((ontoR l m).1.2.map irow), .int .i64 (ontoR l m).2], false, []) := by
  have c1 := call_20 l (by omega)
  have c2 := call_20 m (by omega)
  unfold ontoR
  refine call_eq fn_26 rfl ?_
  rw [k_start]
  simp only [Try.f26, List.length_cons, List.length_nil, Nat.zero_add, Nat.reduceSub, Nat.reduceAdd, List.replicate, List.cons_append, List.nil_append]
  simp only [go_sem, Nat.reduceAdd, Nat.reduceSub, Nat.reduceMul, Nat.reduceLT, Nat.reduceLeDiff, Nat.reduceEqDiff, Nat.reduceBEq, Nat.reduceBNe, reduceCtorEq, Int.reduceBNe, Int.reduceBEq, ty_39, ty_56, ty_3, ty_4, c1]
  cases h1 : chkT l with
  | false =>
    simp only [go_sem, Nat.reduceAdd, Nat.reduceSub, Nat.reduceMul, Nat.reduceLT, Nat.reduceLeDiff, Nat.reduceEqDiff, Nat.reduceBEq, Nat.reduceBNe, reduceCtorEq, Int.reduceBNe, Int.reduceBEq, h1, ty_39, ty_56]
    refine retN (fun _ => ex_ret) (by simp only [List.mapM_cons, List.mapM_nil, resOf, loadV, ty_39, ty_56]; rfl) rfl ⟨rfl, rfl, rfl⟩
  | true =>
    simp only [go_sem, Nat.reduceAdd, Nat.reduceSub, Nat.reduceMul, Nat.reduceLT, Nat.reduceLeDiff, Nat.reduceEqDiff, Nat.reduceBEq, Nat.reduceBNe, reduceCtorEq, Int.reduceBNe, Int.reduceBEq, h1, c2]
    cases h2 : chkT m with
    | false =>
      simp only [go_sem, Nat.reduceAdd, Nat.reduceSub, Nat.reduceMul, Nat.reduceLT, Nat.reduceLeDiff, Nat.reduceEqDiff, Nat.reduceBEq, Nat.reduceBNe, reduceCtorEq, Int.reduceBNe, Int.reduceBEq, h2, ty_39, ty_56]
      refine retN (fun _ => ex_ret) (by simp only [List.mapM_cons, List.mapM_nil, resOf, loadV, ty_39, ty_56]; rfl) rfl ⟨rfl, rfl, rfl⟩
    | true =>
      have ho := om_oref (l := l) (m := m) _ 0 0 (-1) ([], []) rfl (.start h1) (.start h2)
      rw [List.drop_zero, List.drop_zero] at ho
      simp only [go_sem, Nat.reduceAdd, Nat.reduceSub, Nat.reduceMul, Nat.reduceLT, Nat.reduceLeDiff, Nat.reduceEqDiff, Nat.reduceBEq, Nat.reduceBNe, reduceCtorEq, Int.reduceBNe, Int.reduceBEq, h2, ty_39, ty_56, call_60]
      rw [show Blk.ren (backId [] 2) (tabT l) = (tabT l) from rfl, show Blk.ren (backId [] 2) (tabT m) = (tabT m) from rfl, show Blk.ren (backId [] 2) keyT = keyT from rfl]
      have hc := call_69b l m ([], []) (by simp only [List.length_nil]; omega) (by simp only [List.length_nil]; omega)
      refine k_range (hp1 := [.cells 39 [0] [.sl true []], .cells 56 [0] [.sl true []], tabT l, tabT m, keyT, loop20]) (args := [.yld 5, .ptr 2 0, .ptr 3 0, .ptr 4 0]) (R := [0, 1, 2, 3, 4, 5]) (hp3 := H20 [] [] (om l m ([], []))) rfl (by kernel_rfl) (by kernel_rfl) (by kernel_rfl) (by kernel_rfl) (by kernel_rfl) (by kernel_rfl)
        hc (by kernel_rfl) rfl rfl rfl ?_
      simp only [H20, outB, clB]
      simp only [go_sem, Nat.reduceAdd, Nat.reduceSub, Nat.reduceMul, Nat.reduceLT, Nat.reduceLeDiff, Nat.reduceEqDiff, Nat.reduceBEq, Nat.reduceBNe, reduceCtorEq, Int.reduceBNe, Int.reduceBEq, ty_39, ty_56, draw_26_13]
      refine retN (fun _ => ex_ret) (by simp only [List.mapM_cons, List.mapM_nil, resOf, loadV, ty_39, ty_56]; rfl) rfl ⟨?_, rfl, rfl⟩
      skip
      rw [← ho]; rfl
end Go.Proofs.Ytknblodiilgogaa
