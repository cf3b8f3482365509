/- The groups' totals are the total. -/
import Derived.Test.YtbpkaajokffpjaaE17
import Derived.Test.YtbpkaajokffpjaaE0
set_option linter.all false
set_option maxRecDepth 100000
namespace Go.Proofs.Ytbpkaajokffpjaa
open Go Go.Abs

theorem vlo_le (m : Int) (l : List PR) : vlo m l ≤ m := by
  induction l generalizing m with
  | nil => exact Int.le_refl _
  | cons p l ih => exact Int.le_trans (ih _) (Int.min_le_left _ _)
theorem vhi_ge (m : Int) (l : List PR) : m ≤ vhi m l := by
  induction l generalizing m with
  | nil => exact Int.le_refl _
  | cons p l ih => exact Int.le_trans (Int.le_max_left _ _) (ih _)
def T13 (w : Int) (tt : List V) (S : List (List PR)) (i : Nat) : St := { fr := mkF 119 [(2, .int .i64 w), (7, .sl true (S.map (growR w))), (9, .ptr 0 0), (10, .int .i64 ((S.take i).flatten.length)), (11, .int .i64 (vsum (S.take i).flatten)), (12, .int .i64 (vlo 1099511627777 (S.take i).flatten)), (13, .int .i64 (vhi (-1099511627777) (S.take i).flatten)), (14, .int .i64 i)], own := [], hp := [.cells 121 [] tt], al := [], nb := 0 }
set_option maxHeartbeats 8000000 in
theorem law_ScanTotals (l : List PR) (on : List SR) (w : Int) (hw1 : -9223372036854775808 ≤ w) (hw2 : w ≤ 9223372036854775807) : (Lim cfg).call 13 [.sl true (l.map prow), .sl true (on.map srow), .int .i64 w] [] = some (.bool true, false, []) := by
  have c1 := call_54 l on
  have caw := call_55
  by_cases hf : l.length ≤ 100 ∧ on.length ≤ 100
  · rw [decide_eq_true hf] at c1
    have c2 := call_64 l on w (by omega) (by omega)
    have c3 := call_68 l on (by omega) (by omega)
    by_cases hg : (chk l && setS on && decide (1 ≤ w ∧ w ≤ 4096)) = true
    · rw [groupsV, if_pos hg] at c2
      have z0 : (((0 : Int)) != 0) = false := rfl
      obtain ⟨hr, hv, hml⟩ := clip_rise l on
      simp only [Bool.and_eq_true, decide_eq_true_eq] at hg
      generalize hM : clip l on = M at c2 c3 hr hv hml
      have hne := rowsG_nonempty w M
      have hmem : ∀ R ∈ rowsG w M, ∀ p ∈ R, p ∈ M := fun R hR => rowsG_mem hR
      have hsort := rowsG_sorted (w := w) (by omega) M hr
      have hflat := rowsG_flat w M
      have hct := rowsG_count w M
      generalize rowsG w M = S at c2 hne hmem hsort hflat hct
      obtain ⟨t1, t2, t3, t4, t5, htt⟩ : ∃ t1 t2 t3 t4 t5 : Int, totalL M = [.int .i64 t1, .int .i64 t2, .int .i64 t3, .int .i64 t4, .int .i64 t5] := by cases M <;> exact ⟨_, _, _, _, _, rfl⟩
      rw [htt] at c3
      refine call_eq fn_13 rfl ?_
      rw [k_start]
      simp only [Try.f13, List.length_cons, List.length_nil, Nat.zero_add, Nat.reduceSub, Nat.reduceAdd, List.replicate, List.cons_append, List.nil_append]
      simp only [go_sem, Nat.reduceAdd, Nat.reduceSub, Nat.reduceMul, Nat.reduceLT, Nat.reduceLeDiff, Nat.reduceEqDiff, Nat.reduceBEq, Nat.reduceBNe, reduceCtorEq, Int.reduceBNe, Int.reduceBEq, blt0, c1, c2, c3, z0]
      refine k_loop (T13 w [.int .i64 t1, .int .i64 t2, .int .i64 t3, .int .i64 t4, .int .i64 t5] S) (fun i => i ≤ S.length) (fun i => S.length - i) 0 (K := cfg.kill 13 10) rfl (Nat.zero_le _) (by kernel_rfl) ?_
      intro i hi k' Q' hnorm hexit hret
      simp only [T13, mkF, List.foldl, List.replicate, List.set, List.cons_append, List.nil_append]
      simp only [go_sem, Nat.reduceAdd, Nat.reduceSub, Nat.reduceMul, Nat.reduceLT, Nat.reduceLeDiff, Nat.reduceEqDiff, Nat.reduceBEq, Nat.reduceBNe, reduceCtorEq, Int.reduceBNe, Int.reduceBEq, blt0]
      by_cases hlt : i < S.length
      · have g1 : (i : Int) < (S.length : Int) := by omega
        have g2 : ¬ ((i : Int) < 0) := by omega
        have hRi := List.getElem_mem hlt
        obtain ⟨p, q, hR⟩ : ∃ p q, S[i] = p :: q := by
          cases h : S[i] with
          | nil => exact absurd h (hne _ hRi)
          | cons p q => exact ⟨p, q, rfl⟩
        have hx : (S.map (growR w))[i]? = some [.int .i64 (p.1 / w * w), .int .i64 (p :: q).length, .int .i64 (vsum (p :: q)), .int .i64 (vlo p.2 (p :: q)), .int .i64 (vhi p.2 (p :: q))] := by simp [hlt, hR, growR, grow]
        generalize hX : p :: q = X at hx
        have hw0 : ¬ w = 0 := by omega
        have e1 : (p.1 / w * w).tmod w = 0 := Int.mul_tmod_left _ _
        have z1 : (((0 : Int)) != 0) = false := rfl
        have hFl : (S.take (i + 1)).flatten = (S.take i).flatten ++ X := by rw [List.take_succ_eq_append_getElem hlt, List.flatten_append, hR, hX]; simp
        have hlen : (S.take (i + 1)).flatten.length ≤ M.length := by
          rw [← hflat]
          conv => rhs; rw [← List.take_append_drop (i + 1) S]
          rw [List.flatten_append, List.length_append]; omega
        have hlen2 := hlen
        rw [hFl, List.length_append] at hlen2
        have hsub : ∀ x ∈ (S.take (i + 1)).flatten, x ∈ M := fun x hx => by
          obtain ⟨R, hR1, hR2⟩ := List.mem_flatten.1 hx
          exact hmem R (List.mem_of_mem_take hR1) x hR2
        have hs := vsum_bound (S.take (i + 1)).flatten fun x hx => ⟨(hv x (hsub x hx)).2.2.1, (hv x (hsub x hx)).2.2.2⟩
        have hs2 := hs
        rw [hFl, vsum_append, List.length_append] at hs2
        push_cast at hs2
        have w1 : IntKind.i64.wrap (((S.take i).flatten.length : Int) + (X.length : Int)) = ((S.take i).flatten.length : Int) + (X.length : Int) := wrap_i64 (by omega) (by omega)
        have w2 : IntKind.i64.wrap (vsum (S.take i).flatten + vsum X) = vsum (S.take i).flatten + vsum X := wrap_i64 (by omega) (by omega)
        have hXl : ¬ ((X.length : Int) < 1) := by rw [← hX]; simp only [List.length_cons]; omega
        have q1 : (((S.take (i + 1)).flatten.length : Nat) : Int) = ((S.take i).flatten.length : Int) + (X.length : Int) := by rw [hFl, List.length_append]; push_cast; rfl
        have q2 : vsum (S.take (i + 1)).flatten = vsum (S.take i).flatten + vsum X := by rw [hFl, vsum_append]
        have q3 : vlo 1099511627777 (S.take (i + 1)).flatten = min (vlo 1099511627777 (S.take i).flatten) (vlo p.2 X) := by rw [hFl, vlo_append, ← hX, vlo_row]
        have q4 : vhi (-1099511627777) (S.take (i + 1)).flatten = max (vhi (-1099511627777) (S.take i).flatten) (vhi p.2 X) := by rw [hFl, vhi_append, ← hX, vhi_row]
        have eT : T13 w [.int .i64 t1, .int .i64 t2, .int .i64 t3, .int .i64 t4, .int .i64 t5] S (i + 1) = { fr := mkF 119 [(2, .int .i64 w), (7, .sl true (S.map (growR w))), (9, .ptr 0 0), (10, .int .i64 (((S.take i).flatten.length : Int) + (X.length : Int))), (11, .int .i64 (vsum (S.take i).flatten + vsum X)), (12, .int .i64 (min (vlo 1099511627777 (S.take i).flatten) (vlo p.2 X))), (13, .int .i64 (max (vhi (-1099511627777) (S.take i).flatten) (vhi p.2 X))), (14, .int .i64 ((i + 1 : Nat) : Int))], own := [], hp := [.cells 121 [] [.int .i64 t1, .int .i64 t2, .int .i64 t3, .int .i64 t4, .int .i64 t5]], al := [], nb := 0 } := by
          rw [T13, q1, q2, q3, q4]
        by_cases hi0 : i = 0
        · have g3 : ¬ ((i : Int) > 0) := by omega
          simp only [go_sem, Nat.reduceAdd, Nat.reduceSub, Nat.reduceMul, Nat.reduceLT, Nat.reduceLeDiff, Nat.reduceEqDiff, Nat.reduceBEq, Nat.reduceBNe, reduceCtorEq, Int.reduceBNe, Int.reduceBEq, blt0, g1, g2, g3, hx, Int.toNat_natCast, ite_min, ite_max, hw0, e1, z1, w1, w2, hXl]
          rw [wrap_i64 (by omega) (by omega)]
          refine hnorm (i + 1) _ (by omega) (by omega) ?_
          exact Eq.trans (by kernel_rfl) eT.symm
        · have g3 : (i : Int) > 0 := by omega
          have g4 : ¬ ((i : Int) - 1 < 0) := by omega
          have g5 : ((i : Int) - 1).toNat = i - 1 := by omega
          have g6 : IntKind.i64.wrap ((i : Int) - 1) = (i : Int) - 1 := wrap_i64 (by omega) (by omega)
          have hl1 : i - 1 < S.length := by omega
          have hlt2 := List.pairwise_iff_getElem.1 hsort (i - 1) i hl1 hlt (by omega)
          obtain ⟨p', q', hR'⟩ : ∃ p q, S[i - 1] = p :: q := by
            cases h : S[i - 1] with
            | nil => exact absurd h (hne _ (List.getElem_mem hl1))
            | cons p q => exact ⟨p, q, rfl⟩
          rw [hR', hR] at hlt2
          simp only [rowN] at hlt2
          have g7 : ¬ (p'.1 / w * w ≥ p.1 / w * w) := by
            have := Int.mul_lt_mul_of_pos_right hlt2 (show 0 < w by omega)
            omega
          have hx1 : (S.map (growR w))[i - 1]? = some [.int .i64 (p'.1 / w * w), .int .i64 (p' :: q').length, .int .i64 (vsum (p' :: q')), .int .i64 (vlo p'.2 (p' :: q')), .int .i64 (vhi p'.2 (p' :: q'))] := by simp [hl1, hR', growR, grow]
          generalize p' :: q' = X' at hx1
          simp only [go_sem, Nat.reduceAdd, Nat.reduceSub, Nat.reduceMul, Nat.reduceLT, Nat.reduceLeDiff, Nat.reduceEqDiff, Nat.reduceBEq, Nat.reduceBNe, reduceCtorEq, Int.reduceBNe, Int.reduceBEq, blt0, g1, g2, g3, g4, g5, g6, g7, hx, hx1, Int.toNat_natCast, ite_min, ite_max, hw0, e1, z1, w1, w2, hXl]
          rw [wrap_i64 (by omega) (by omega)]
          refine hnorm (i + 1) _ (by omega) (by omega) ?_
          exact Eq.trans (by kernel_rfl) eT.symm
      · have g1 : ¬ (i : Int) < (S.length : Int) := by omega
        simp only [go_sem, Nat.reduceAdd, Nat.reduceSub, Nat.reduceMul, Nat.reduceLT, Nat.reduceLeDiff, Nat.reduceEqDiff, Nat.reduceBEq, Nat.reduceBNe, reduceCtorEq, Int.reduceBNe, Int.reduceBEq, blt0, g1]
        refine hexit 0 _ ?_
        rw [List.take_of_length_le (by omega), hflat]
        cases M with
        | nil =>
          simp only [totalL, List.cons.injEq, V.int.injEq, true_and, and_true] at htt
          obtain ⟨rfl, rfl, rfl, rfl, rfl⟩ := htt
          have y0 : ((((0 : Nat) : Int)) == 0) = true := rfl
          simp only [go_sem, Nat.reduceAdd, Nat.reduceSub, Nat.reduceMul, Nat.reduceLT, Nat.reduceLeDiff, Nat.reduceEqDiff, Nat.reduceBEq, Nat.reduceBNe, reduceCtorEq, Int.reduceBNe, Int.reduceBEq, blt0, caw, y0]
          exact ret1n (v := .bool true) (fun _ => ex_ret) rfl rfl rfl ⟨rfl, rfl, rfl⟩
        | cons p q =>
          simp only [totalL, grow, List.cons.injEq, V.int.injEq, true_and, and_true] at htt
          obtain ⟨rfl, rfl, rfl, rfl, rfl⟩ := htt
          have y0 : (((q.length + 1 : Nat) : Int) == 0) = false := beq_eq_false_iff_ne.2 (by omega)
          have hp := hv p (by simp)
          have y1 : vlo 1099511627777 (p :: q) = vlo p.2 (p :: q) := by
            rw [vlo_row]
            have := vlo_le p.2 (p :: q)
            omega
          have y2 : vhi (-1099511627777) (p :: q) = vhi p.2 (p :: q) := by
            rw [vhi_row]
            have := vhi_ge p.2 (p :: q)
            omega
          simp only [go_sem, Nat.reduceAdd, Nat.reduceSub, Nat.reduceMul, Nat.reduceLT, Nat.reduceLeDiff, Nat.reduceEqDiff, Nat.reduceBEq, Nat.reduceBNe, reduceCtorEq, Int.reduceBNe, Int.reduceBEq, blt0, caw, y0, y1, y2]
          exact ret1n (v := .bool true) (fun _ => ex_ret) rfl rfl rfl ⟨rfl, rfl, rfl⟩
    · rw [groupsV, if_neg hg] at c2
      have h5 : (totalL (clip l on)).length = 5 := by cases clip l on <;> rfl
      generalize totalL (clip l on) = tt at c3 h5
      have z1 : (((1 : Int)) != 0) = true := rfl
      refine call_eq fn_13 rfl ?_
      rw [k_start]
      simp only [Try.f13, List.length_cons, List.length_nil, Nat.zero_add, Nat.reduceSub, Nat.reduceAdd, List.replicate, List.cons_append, List.nil_append]
      simp only [go_sem, Nat.reduceAdd, Nat.reduceSub, Nat.reduceMul, Nat.reduceLT, Nat.reduceLeDiff, Nat.reduceEqDiff, Nat.reduceBEq, Nat.reduceBNe, reduceCtorEq, Int.reduceBNe, Int.reduceBEq, blt0, c1, c2, c3, z1, h5, caw]
      exact ret1n (v := .bool true) (fun _ => ex_ret) rfl rfl rfl ⟨rfl, rfl, rfl⟩
  · rw [decide_eq_false hf] at c1
    refine call_eq fn_13 rfl ?_
    rw [k_start]
    simp only [Try.f13, List.length_cons, List.length_nil, Nat.zero_add, Nat.reduceSub, Nat.reduceAdd, List.replicate, List.cons_append, List.nil_append]
    simp only [go_sem, Nat.reduceAdd, Nat.reduceSub, Nat.reduceMul, Nat.reduceLT, Nat.reduceLeDiff, Nat.reduceEqDiff, Nat.reduceBEq, Nat.reduceBNe, reduceCtorEq, Int.reduceBNe, Int.reduceBEq, blt0, c1, caw]
    exact ret1n (v := .bool true) (fun _ => ex_ret) rfl rfl rfl ⟨rfl, rfl, rfl⟩
end Go.Proofs.Ytbpkaajokffpjaa
