/- What is told of a table: the document's answer. -/
import Derived.Test.YthikboobkmfgfaaM44
import Derived.Test.YthikboobkmfgfaaM15
import Derived.Test.YthikboobkmfgfaaM17
import Derived.Test.YthikboobkmfgfaaM11
set_option linter.all false
set_option maxRecDepth 100000
namespace Go.Proofs.Ythikboobkmfgfaa
open Go Go.Abs

def cellF (l : List PR) (a : List CR) : List CR := l.foldl (fun a p => a.set p.1.toNat (p.2, true)) a
theorem cell_puts : ∀ (l : List PR) (T : TV), (putsT T l).cells = cellF l T.cells
  | [], _ => rfl
  | p :: l, T => cell_puts l (putT T p.1.toNat (p.2, true))
theorem cell_old : ∀ (l : List PR) (lo : Int) (a : List CR) (k : Nat), chkFrom lo l = true → -1 ≤ lo → (k : Int) ≤ lo → (cellF l a)[k]? = a[k]?
  | [], _, _, _, _, _, _ => rfl
  | p :: l, lo, a, k, h, hlo, hk => by
    simp only [chkFrom, Bool.and_eq_true, okP, decide_eq_true_eq] at h
    have ih := cell_old l p.1 (a.set p.1.toNat (p.2, true)) k h.2 (by omega) (by omega)
    rw [cellF, List.foldl_cons]
    exact ih.trans (List.getElem?_set_ne (by omega))
theorem cell_new : ∀ (l : List PR) (lo : Int) (a : List CR) (k : Nat), chkFrom lo l = true → -1 ≤ lo → a[k]? = some (0, false) → (cellF l a)[k]? = some (getP l k)
  | [], _, _, _, _, _, hk => hk
  | p :: l, lo, a, k, h, hlo, hk => by
    simp only [chkFrom, Bool.and_eq_true, okP, decide_eq_true_eq] at h
    have hkl := (List.getElem?_eq_some_iff.1 hk).1
    rw [cellF, List.foldl_cons, getP]
    by_cases hp : p.1 = (k : Int)
    · rw [if_pos hp]
      have e : p.1.toNat = k := by omega
      refine (cell_old l p.1 _ k h.2 (by omega) (by omega)).trans ?_
      rw [e, List.getElem?_set_self hkl]
    · rw [if_neg hp]
      exact cell_new l p.1 _ k h.2 (by omega) ((List.getElem?_set_ne (by omega)).trans hk)
theorem getP_none : ∀ (l : List PR) (k : Int), (∀ p ∈ l, p.1 ≠ k) → getP l k = (0, false)
  | [], _, _ => rfl
  | p :: l, k, h => by rw [getP, if_neg (h p (by simp)), getP_none l k fun q hq => h q (by simp [hq])]
theorem get_new {l : List PR} (h : chk l = true) (k : Int) : getT (newT l) k = getP l k := by
  unfold getT
  by_cases hk : 0 ≤ k ∧ k < 4096
  · have h1 := cell_new l (-1) (List.replicate 4096 (0, false)) k.toNat h (Int.le_refl _) (by rw [List.getElem?_replicate, if_pos (by omega)])
    rw [if_pos hk, newT, cell_puts, empty_is.1, List.getD_eq_getElem?_getD, show zeroT.cells = List.replicate 4096 (0, false) from rfl, h1, Int.toNat_of_nonneg hk.1]; rfl
  · rw [if_neg hk, getP_none l k fun p hp => ?_]
    obtain ⟨i, hi, rfl⟩ := List.getElem_of_mem hp
    have := chk_key h i hi
    omega
def LV (T : TV) : List (List V) := [[.sl true (T.leaf.map urow)], [.sl true (T.low.map urow)], [.sl true (T.mid.map urow)], [.sl true ((aboveL T.mid).map urow)]]
theorem LV_get (T : TV) {lv : Int} (h1 : 0 ≤ lv) (h2 : lv ≤ 2) : (LV T)[lv.toNat]? = some [.sl true ((lvlT T lv).map urow)] := by
  have hc : lv = 0 ∨ lv = 1 ∨ lv = 2 := by omega
  rcases hc with rfl | rfl | rfl <;> rfl
def S10c (l : List PR) (lv : Int) (L : List Int) (x : List Nat × Nat × List CR) : St := { fr := mkF 74 [(0, .sl true (l.map prow)), (3, .ptr 0 0), (4, .ptr 1 0), (6, .ptr 2 0), (7, .int .i64 x.2.1)], own := [], hp := [.cells 38 [] (askR lv L), .cells 41 [1, 2, 3] (toldR 0 [] [] []), .cells 41 x.1 (toldR lv L [] x.2.2)], al := [], nb := 0 }
def S10k (T : TV) (lv : Int) (L : List Int) (x : Nat × List Nat) : St := { fr := mkF 74 [(3, .ptr 0 0), (4, .ptr 1 0), (6, .ptr 2 0), (8, .sl true (LV T)), (9, .int .i64 x.1)], own := [], hp := [.cells 38 [] (askR lv L), .cells 41 [1, 2, 3] (toldR 0 [] [] []), .cells 41 [2, 3] (toldR lv L x.2 [])], al := [], nb := 0 }
def S10j (T : TV) (lv : Int) (L : List Int) (i : Nat) (x : Nat × List Nat) : St := { fr := mkF 74 [(3, .ptr 0 0), (4, .ptr 1 0), (6, .ptr 2 0), (8, .sl true (LV T)), (9, .int .i64 i), (10, .int .i64 x.1)], own := [], hp := [.cells 38 [] (askR lv L), .cells 41 [1, 2, 3] (toldR 0 [] [] []), .cells 41 [2, 3] (toldR lv L x.2 [])], al := [], nb := 0 }
set_option maxHeartbeats 32000000 in
theorem call_10 (l : List PR) (lv : Int) (L : List Int) (hl : l.length ≤ 100000) (hlen : L.length ≤ 100000) (hk : chk l = true) : (Lim cfg).call 10 [.sl true (l.map prow), .agg (askR lv L)] [] =
    some (if askOk lv L = true then .tup [.agg (ansR (newT l) lv L), .int .i64 0] else .tup [.agg (toldR 0 [] [] []), .int .i64 1], false, []) := by
  have c1 := call_35 lv L hlen
  simp only [askR] at c1
  cases h1 : askOk lv L with
  | false =>
    rw [h1] at c1
    rw [if_neg (by simp)]
    refine call_eq fn_10 rfl ?_
    rw [k_start]
    simp only [Try.f10, st0, Nat.zero_add]
    repeat' (first | simp (maxSteps := 10000000) (disch := omega) only [go_sem, Nat.reduceAdd, Nat.reduceSub, Nat.reduceMul, Nat.reduceLT, Nat.reduceLeDiff, Nat.reduceEqDiff, Nat.reduceBEq, Nat.reduceBNe, reduceCtorEq, Int.reduceBNe, Int.reduceBEq, au, lst, if_pos, if_neg, askR, c1] | simp (disch := (simp only [lens]; omega)) only [str_add, if_pos, if_neg] | ((with_reducible first | refine WC_split ?_ ?_ | refine WS_split ?_ ?_ | refine WD_split ?_ ?_) <;> intro hc <;> (try simp only [hc]) <;> (try simp only [bools] at hc) <;> (try (have hb : @Eq Bool _ _ := hc; simp only [hb]; clear hb))))
    exact retM (fun _ => ex_ret) rfl rfl ⟨rfl, rfl, rfl⟩
  | true =>
    rw [h1] at c1
    rw [if_pos rfl]
    obtain ⟨k1, k2, k3, k4⟩ := askOk_inv h1
    unfold ansR
    have cl := call_37 l hl hk
    have hg := fun k => get_new hk k
    have hok := new_Ok l
    generalize newT l = T at cl hg hok ⊢
    by_cases h2 : lv = -1
    · rw [if_pos h2]
      subst h2
      refine call_eq fn_10 rfl ?_
      rw [k_start]
      simp only [Try.f10, st0, Nat.zero_add]
      repeat' (first | simp (maxSteps := 10000000) (disch := omega) only [go_sem, Nat.reduceAdd, Nat.reduceSub, Nat.reduceMul, Nat.reduceLT, Nat.reduceLeDiff, Nat.reduceEqDiff, Nat.reduceBEq, Nat.reduceBNe, reduceCtorEq, Int.reduceBNe, Int.reduceBEq, au, lst, if_pos, if_neg, askR, c1] | simp (disch := (simp only [lens]; omega)) only [str_add, if_pos, if_neg] | ((with_reducible first | refine WC_split ?_ ?_ | refine WS_split ?_ ?_ | refine WD_split ?_ ?_) <;> intro hc <;> (try simp only [hc]) <;> (try simp only [bools] at hc) <;> (try (have hb : @Eq Bool _ _ := hc; simp only [hb]; clear hb))))
      refine k_loop (S10c l (-1) L) (fun x => x.2.1 ≤ L.length ∧ (x.1 = [2, 3] ∨ x.1 = [3, 2]) ∧ x.2.2.length = x.2.1 ∧ x.2.2 ++ (L.drop x.2.1).map (getT T) = L.map (getT T)) (fun x => L.length - x.2.1) ([2, 3], 0, []) (K := cfg.kill 10 6) rfl ⟨Nat.zero_le _, .inl rfl, rfl, rfl⟩ (by kernel_rfl) ?_
      intro ⟨ow, i, acc⟩ ⟨hi, how, hac, hO⟩ k' Q' hnorm hexit hret
      simp only at hi how hac hO
      simp only [S10c, mkF, List.foldl, st0, List.set]
      by_cases hlt : i < L.length
      · have cg := call_36 l L[i] hl
        rw [← hg] at cg
        rw [List.drop_eq_getElem_cons hlt, List.map_cons] at hO
        have hap : (acc.length + 1) * 16 ≤ strMax := by unfold strMax; omega
        generalize getT T L[i] = c at cg hO
        simp only [crow] at cg
        clear hexit hret
        rcases how with rfl | rfl
        all_goals
          repeat' (first | simp (maxSteps := 10000000) (disch := omega) only [go_sem, Nat.reduceAdd, Nat.reduceSub, Nat.reduceMul, Nat.reduceLT, Nat.reduceLeDiff, Nat.reduceEqDiff, Nat.reduceBEq, Nat.reduceBNe, reduceCtorEq, Int.reduceBNe, Int.reduceBEq, au, lst, if_pos, if_neg, irow, askR, toldR, cg, hap, fit_crow, head_crow, head_crow'] | simp (disch := (simp only [lens]; omega)) only [str_add, if_pos, if_neg] | ((with_reducible first | refine WC_split ?_ ?_ | refine WS_split ?_ ?_ | refine WD_split ?_ ?_) <;> intro hc <;> (try simp only [hc]) <;> (try simp only [bools] at hc) <;> (try (have hb : @Eq Bool _ _ := hc; simp only [hb]; clear hb))))
          refine hnorm ([3, 2], i + 1, acc ++ [c]) _ ⟨by show i + 1 ≤ _; omega, .inr rfl, by rw [List.length_append, hac]; rfl, by show acc ++ [c] ++ _ = _; rw [← hO, List.append_assoc]; rfl⟩ (by show L.length - (i + 1) < L.length - i; omega) ?_
          rw [S10c]
          simp only [toldR, List.map_append]
          kernel_rfl
      · rw [List.drop_of_length_le (by omega), List.map_nil, List.append_nil] at hO
        subst hO
        clear hnorm hret
        repeat' (first | simp (maxSteps := 10000000) (disch := omega) only [go_sem, Nat.reduceAdd, Nat.reduceSub, Nat.reduceMul, Nat.reduceLT, Nat.reduceLeDiff, Nat.reduceEqDiff, Nat.reduceBEq, Nat.reduceBNe, reduceCtorEq, Int.reduceBNe, Int.reduceBEq, au, lst, if_pos, if_neg, askR] | simp (disch := (simp only [lens]; omega)) only [str_add, if_pos, if_neg] | ((with_reducible first | refine WC_split ?_ ?_ | refine WS_split ?_ ?_ | refine WD_split ?_ ?_) <;> intro hc <;> (try simp only [hc]) <;> (try simp only [bools] at hc) <;> (try (have hb : @Eq Bool _ _ := hc; simp only [hb]; clear hb))))
        refine hexit _ _ ?_
        repeat' (first | simp (maxSteps := 10000000) (disch := omega) only [go_sem, Nat.reduceAdd, Nat.reduceSub, Nat.reduceMul, Nat.reduceLT, Nat.reduceLeDiff, Nat.reduceEqDiff, Nat.reduceBEq, Nat.reduceBNe, reduceCtorEq, Int.reduceBNe, Int.reduceBEq, au, lst, if_pos, if_neg, toldR] | simp (disch := (simp only [lens]; omega)) only [str_add, if_pos, if_neg] | ((with_reducible first | refine WC_split ?_ ?_ | refine WS_split ?_ ?_ | refine WD_split ?_ ?_) <;> intro hc <;> (try simp only [hc]) <;> (try simp only [bools] at hc) <;> (try (have hb : @Eq Bool _ _ := hc; simp only [hb]; clear hb))))
        exact retM (fun _ => ex_ret) rfl rfl ⟨rfl, rfl, rfl⟩
    · rw [if_neg h2]
      have hlv := LV_get T (lv := lv) (by omega) k2
      have hll := lvl_len hok (lv := lv) (by omega) k2
      have cl2 : (Lim cfg).call 37 [.sl true (l.map prow)] [] = some (.sl true (LV T), false, []) := cl
      have hsz := sizeZ_le lv
      clear cl hg
      refine call_eq fn_10 rfl ?_
      rw [k_start]
      simp only [Try.f10, st0, Nat.zero_add]
      repeat' (first | simp (maxSteps := 10000000) (disch := omega) only [go_sem, Nat.reduceAdd, Nat.reduceSub, Nat.reduceMul, Nat.reduceLT, Nat.reduceLeDiff, Nat.reduceEqDiff, Nat.reduceBEq, Nat.reduceBNe, reduceCtorEq, Int.reduceBNe, Int.reduceBEq, au, lst, if_pos, if_neg, askR, c1, cl2] | simp (disch := (simp only [lens]; omega)) only [str_add, if_pos, if_neg] | ((with_reducible first | refine WC_split ?_ ?_ | refine WS_split ?_ ?_ | refine WD_split ?_ ?_) <;> intro hc <;> (try simp only [hc]) <;> (try simp only [bools] at hc) <;> (try (have hb : @Eq Bool _ _ := hc; simp only [hb]; clear hb))))
      refine k_loop (S10k T lv L) (fun x => x.1 ≤ L.length ∧ x.2.length = 16 * x.1 ∧ x.2 ++ kidsT T lv (L.drop x.1) = kidsT T lv L) (fun x => L.length - x.1) (0, []) (K := cfg.kill 10 12) rfl ⟨Nat.zero_le _, rfl, rfl⟩ (by kernel_rfl) ?_
      intro ⟨i, O⟩ ⟨hi, hOl, hO⟩ k' Q' hnorm hexit hret
      simp only at hi hOl hO
      simp only [S10k, mkF, List.foldl, st0, List.set]
      by_cases hlt : i < L.length
      · obtain ⟨hn1, hn2⟩ := k4 L[i] (List.getElem_mem hlt)
        rw [List.drop_eq_getElem_cons hlt] at hO
        have h16 : 16 * L[i].toNat + 16 ≤ (lvlT T lv).length := by omega
        have hr16 : (row16 (lvlT T lv) L[i].toNat).length = 16 := row16_len h16
        have hO2 : O ++ (row16 (lvlT T lv) L[i].toNat ++ kidsT T lv (L.drop (i + 1))) = kidsT T lv L := hO
        clear hexit hret
        repeat' (first | simp (maxSteps := 10000000) (disch := omega) only [go_sem, Nat.reduceAdd, Nat.reduceSub, Nat.reduceMul, Nat.reduceLT, Nat.reduceLeDiff, Nat.reduceEqDiff, Nat.reduceBEq, Nat.reduceBNe, reduceCtorEq, Int.reduceBNe, Int.reduceBEq, au, lst, if_pos, if_neg, askR] | simp (disch := (simp only [lens]; omega)) only [str_add, if_pos, if_neg] | ((with_reducible first | refine WC_split ?_ ?_ | refine WS_split ?_ ?_ | refine WD_split ?_ ?_) <;> intro hc <;> (try simp only [hc]) <;> (try simp only [bools] at hc) <;> (try (have hb : @Eq Bool _ _ := hc; simp only [hb]; clear hb))))
        refine k_loop (S10j T lv L i) (fun x => x.1 ≤ 16 ∧ x.2 = O ++ (row16 (lvlT T lv) L[i].toNat).take x.1) (fun x => 16 - x.1) (0, O) (K := cfg.kill 10 15) rfl ⟨Nat.zero_le _, by simp⟩ (by kernel_rfl) ?_
        rintro ⟨j, O2⟩ ⟨hj, hO3⟩ k2 Q2 hnorm2 hexit2 hret2
        simp only at hj hO3
        have hO2l : O2.length = 16 * i + j := by rw [hO3, List.length_append, List.length_take, hOl, hr16]; omega
        simp only [S10j, mkF, List.foldl, st0, List.set]
        by_cases hj16 : j < 16
        · have hK : (lvlT T lv)[16 * L[i].toNat + j]? = some (row16 (lvlT T lv) L[i].toNat)[j] := row16_get h16 (by omega)
          have e1 : (16 * L[i] + (j : Int)).toNat = 16 * L[i].toNat + j := by omega
          have hst : O ++ (row16 (lvlT T lv) L[i].toNat).take (j + 1) = O2 ++ [(row16 (lvlT T lv) L[i].toNat)[j]] := by rw [List.take_succ_eq_append_getElem (by omega), ← List.append_assoc, ← hO3]
          generalize (row16 (lvlT T lv) L[i].toNat)[j] = n at hst hK
          have hb : (O2.length + 1) * 4 ≤ strMax := by unfold strMax; omega
          clear hexit2 hret2
          repeat' (first | simp (maxSteps := 10000000) (disch := omega) only [go_sem, Nat.reduceAdd, Nat.reduceSub, Nat.reduceMul, Nat.reduceLT, Nat.reduceLeDiff, Nat.reduceEqDiff, Nat.reduceBEq, Nat.reduceBNe, reduceCtorEq, Int.reduceBNe, Int.reduceBEq, au, lst, if_pos, if_neg, irow, urow, askR, toldR, hlv, e1, hK, hb, fit_urow, head_urow, head_urow'] | simp (disch := (simp only [lens]; omega)) only [str_add, if_pos, if_neg] | ((with_reducible first | refine WC_split ?_ ?_ | refine WS_split ?_ ?_ | refine WD_split ?_ ?_) <;> intro hc <;> (try simp only [hc]) <;> (try simp only [bools] at hc) <;> (try (have hb : @Eq Bool _ _ := hc; simp only [hb]; clear hb))))
          refine hnorm2 (j + 1, O2 ++ [n]) _ ⟨by show j + 1 ≤ 16; omega, by show O2 ++ [n] = _; rw [hst]⟩ (by show 16 - (j + 1) < 16 - j; omega) ?_
          rw [S10j]
          simp only [toldR, List.map_append]
          kernel_rfl
        · have htk : (row16 (lvlT T lv) L[i].toNat).take j = row16 (lvlT T lv) L[i].toNat := List.take_of_length_le (by omega)
          rw [htk] at hO3
          clear hnorm2 hret2
          repeat' (first | simp (maxSteps := 10000000) (disch := omega) only [go_sem, Nat.reduceAdd, Nat.reduceSub, Nat.reduceMul, Nat.reduceLT, Nat.reduceLeDiff, Nat.reduceEqDiff, Nat.reduceBEq, Nat.reduceBNe, reduceCtorEq, Int.reduceBNe, Int.reduceBEq, au, lst, if_pos, if_neg] | simp (disch := (simp only [lens]; omega)) only [str_add, if_pos, if_neg] | ((with_reducible first | refine WC_split ?_ ?_ | refine WS_split ?_ ?_ | refine WD_split ?_ ?_) <;> intro hc <;> (try simp only [hc]) <;> (try simp only [bools] at hc) <;> (try (have hb : @Eq Bool _ _ := hc; simp only [hb]; clear hb))))
          refine hexit2 _ _ ?_
          repeat' (first | simp (maxSteps := 10000000) (disch := omega) only [go_sem, Nat.reduceAdd, Nat.reduceSub, Nat.reduceMul, Nat.reduceLT, Nat.reduceLeDiff, Nat.reduceEqDiff, Nat.reduceBEq, Nat.reduceBNe, reduceCtorEq, Int.reduceBNe, Int.reduceBEq, au, lst, if_pos, if_neg] | simp (disch := (simp only [lens]; omega)) only [str_add, if_pos, if_neg] | ((with_reducible first | refine WC_split ?_ ?_ | refine WS_split ?_ ?_ | refine WD_split ?_ ?_) <;> intro hc <;> (try simp only [hc]) <;> (try simp only [bools] at hc) <;> (try (have hb : @Eq Bool _ _ := hc; simp only [hb]; clear hb))))
          refine hnorm (i + 1, O2) _ ⟨by show i + 1 ≤ _; omega, by show O2.length = 16 * (i + 1); omega, by show O2 ++ _ = _; rw [← hO2, hO3, List.append_assoc]⟩ (by show L.length - (i + 1) < L.length - i; omega) (by kernel_rfl)
      · have hO4 : O = kidsT T lv L := by rw [List.drop_of_length_le (by omega)] at hO; rw [← hO]; show O = O ++ []; rw [List.append_nil]
        subst hO4
        clear hnorm hret
        repeat' (first | simp (maxSteps := 10000000) (disch := omega) only [go_sem, Nat.reduceAdd, Nat.reduceSub, Nat.reduceMul, Nat.reduceLT, Nat.reduceLeDiff, Nat.reduceEqDiff, Nat.reduceBEq, Nat.reduceBNe, reduceCtorEq, Int.reduceBNe, Int.reduceBEq, au, lst, if_pos, if_neg, askR] | simp (disch := (simp only [lens]; omega)) only [str_add, if_pos, if_neg] | ((with_reducible first | refine WC_split ?_ ?_ | refine WS_split ?_ ?_ | refine WD_split ?_ ?_) <;> intro hc <;> (try simp only [hc]) <;> (try simp only [bools] at hc) <;> (try (have hb : @Eq Bool _ _ := hc; simp only [hb]; clear hb))))
        refine hexit _ _ ?_
        repeat' (first | simp (maxSteps := 10000000) (disch := omega) only [go_sem, Nat.reduceAdd, Nat.reduceSub, Nat.reduceMul, Nat.reduceLT, Nat.reduceLeDiff, Nat.reduceEqDiff, Nat.reduceBEq, Nat.reduceBNe, reduceCtorEq, Int.reduceBNe, Int.reduceBEq, au, lst, if_pos, if_neg, toldR] | simp (disch := (simp only [lens]; omega)) only [str_add, if_pos, if_neg] | ((with_reducible first | refine WC_split ?_ ?_ | refine WS_split ?_ ?_ | refine WD_split ?_ ?_) <;> intro hc <;> (try simp only [hc]) <;> (try simp only [bools] at hc) <;> (try (have hb : @Eq Bool _ _ := hc; simp only [hb]; clear hb))))
        exact retM (fun _ => ex_ret) rfl rfl ⟨rfl, rfl, rfl⟩
end Go.Proofs.Ythikboobkmfgfaa
