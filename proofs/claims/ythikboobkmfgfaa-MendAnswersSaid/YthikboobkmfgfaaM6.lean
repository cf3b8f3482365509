/- The numbers of a table, all; what is read of them: the program's answers. -/
import Derived.Test.YthikboobkmfgfaaM5
set_option linter.all false
set_option maxRecDepth 100000
namespace Go.Proofs.Ythikboobkmfgfaa
open Go Go.Abs

/-- A table's tree. -/
def putsT (T : TV) (l : List PR) : TV := l.foldl (fun T p => putT T p.1.toNat (p.2, true)) T
def newT (l : List PR) : TV := putsT emptyT l
theorem puts_Ok : ∀ (l : List PR) {T : TV}, T.Ok → (putsT T l).Ok
  | [], _, h => h
  | p :: l, _, h => puts_Ok l (Ok_put h)
theorem putsT_succ {T : TV} {l : List PR} {i : Nat} (h : i < l.length) : putsT T (l.take (i + 1)) = putT (putsT T (l.take i)) l[i].1.toNat (l[i].2, true) := by
  rw [List.take_succ_eq_append_getElem h, putsT, List.foldl_append]; rfl
theorem chk_key {l : List PR} (h : chk l = true) : ∀ i (hi : i < l.length), 0 ≤ l[i].1 ∧ l[i].1 < 4096 := by
  have key : ∀ (l : List PR) (lo : Int), -1 ≤ lo → chkFrom lo l = true → ∀ p ∈ l, 0 ≤ p.1 ∧ p.1 < 4096 := fun l => by
    induction l with
    | nil => intro lo _ _ p hp; cases hp
    | cons q l ih =>
      intro lo hlo h p hp
      simp only [chkFrom, Bool.and_eq_true, okP, decide_eq_true_eq] at h
      rcases List.mem_cons.1 hp with rfl | hp
      · omega
      · exact ih q.1 (by omega) h.2 p hp
  exact fun i hi => key l (-1) (Int.le_refl _) h _ (List.getElem_mem hi)
def S10 (l : List PR) (T : Nat → TV) (i : Nat) : St := { fr := mkF 26 [(4, .ptr 0 0), (11, .sl true (l.map prow)), (12, .int .i64 l.length), (13, .int .i64 i)], own := [], hp := [treeB (T i)], al := [], nb := 0 }
theorem t_reach3 {T : TV} {b : Blk} {x : Int} {cs : List V} (hc : ∀ acc, V.idsl acc cs = acc) : reach [treeB T, b] [.ptr 0 0, .int .i64 x, .agg cs] = [0] := by
  have e : reachGo [treeB T, b] 2 [0] = [0] := by
    unfold reachGo
    show (if (V.idsl [0] (treeC T)).length = [0].length then [0] else reachGo _ 1 (V.idsl [0] (treeC T))) = [0]
    rw [treeC_ids]; rfl
  show (List.range 2).filter (fun i => (reachGo [treeB T, b] 2 (V.idsl [0] cs)).contains i) = [0]
  rw [hc, e]; rfl
theorem t_closed3 {T : TV} {b : Blk} {x : Int} {cs : List V} (hc : ∀ p, V.alll p cs = true) : closedIn [treeB T, b] [0] [.ptr 0 0, .int .i64 x, .agg cs] = true := by
  show (true && (true && (V.alll _ cs && true)) && ((true && V.alll (fun i => [0].contains i) (treeC T)) && true)) = true
  rw [treeC_all, hc]; rfl
set_option maxHeartbeats 4000000 in
theorem new_of (l : List PR) (hlen : l.length ≤ 100000) (E : TV) (hE : E.Ok) (ce : (Lim cfg).call 29 [] [] = some (.ptr 0 0, false, [treeB E])) (h1 : chk l = true) :
    (Lim cfg).call 8 [.sl true (l.map prow)] [] = some (.tup [.ptr 0 0, .int .i64 0], false, [treeB (putsT E l)]) := by
  have c1 := call_28 l hlen
  rw [h1] at c1
  have hT : ∀ i, (putsT E (l.take i)).Ok := fun i => puts_Ok _ hE
  have hs : ∀ i (h : i < l.length), putsT E (l.take (i + 1)) = putT (putsT E (l.take i)) l[i].1.toNat (l[i].2, true) := fun i h => putsT_succ h
  have h0 : putsT E (l.take 0) = E := rfl
  have hl : putsT E (l.take l.length) = putsT E l := by rw [List.take_length]
  generalize hG : (fun i => putsT E (l.take i)) = G at *
  have hG' : ∀ i, putsT E (l.take i) = G i := fun i => by rw [← hG]
  simp only [hG'] at hT hs h0 hl
  clear hG hG'
  rw [← hl]
  rw [← h0] at ce
  have hk := chk_key h1
  refine call_eq fn_8 rfl ?_
  rw [k_start]
  simp only [Try.f8, st0, Nat.zero_add]
  repeat' (first | simp (maxSteps := 10000000) (disch := omega) only [go_sem, Nat.reduceAdd, Nat.reduceSub, Nat.reduceMul, Nat.reduceLT, Nat.reduceLeDiff, Nat.reduceEqDiff, Nat.reduceBEq, Nat.reduceBNe, reduceCtorEq, Int.reduceBNe, Int.reduceBEq, au, lst, if_pos, if_neg, c1, ce, treeC_ren] | simp (disch := (simp only [lens]; omega)) only [str_add, if_pos, if_neg] | ((with_reducible first | refine WC_split ?_ ?_ | refine WS_split ?_ ?_ | refine WD_split ?_ ?_) <;> intro hc <;> (try simp only [hc]) <;> (try simp only [bools] at hc) <;> (try (have hb : @Eq Bool _ _ := hc; simp only [hb]; clear hb))))
  refine k_loop (S10 l G) (fun i => i ≤ l.length) (fun i => l.length - i) 0 (K := cfg.kill 8 5) rfl (Nat.zero_le _) (head_first rfl (fun p => treeC_all p _) rfl (by kernel_rfl) (by kernel_rfl) (by kernel_rfl) (by kernel_rfl)) ?_
  intro i hi k' Q' hnorm hexit hret
  have eS : ∀ i, S10 l G i = { fr := mkF 26 [(4, .ptr 0 0), (11, .sl true (l.map prow)), (12, .int .i64 l.length), (13, .int .i64 i)], own := [], hp := [treeB (G i)], al := [], nb := 0 } := fun _ => rfl
  rw [eS]
  simp only [eS, mkF, List.foldl, st0, List.set]
  by_cases hlt : i < l.length
  · obtain ⟨hk1, hk2⟩ := hk i hlt
    have c2 := call_30 (hT i) (key := l[i].1.toNat) (by omega) (l[i].2, true)
    rw [Int.toNat_of_nonneg hk1, ← hs i hlt] at c2
    simp only [crow] at c2
    repeat' (first | simp (maxSteps := 10000000) (disch := omega) only [go_sem, Nat.reduceAdd, Nat.reduceSub, Nat.reduceMul, Nat.reduceLT, Nat.reduceLeDiff, Nat.reduceEqDiff, Nat.reduceBEq, Nat.reduceBNe, reduceCtorEq, Int.reduceBNe, Int.reduceBEq, au, lst, if_pos, if_neg, prow] | simp (disch := (simp only [lens]; omega)) only [str_add, if_pos, if_neg] | ((with_reducible first | refine WC_split ?_ ?_ | refine WS_split ?_ ?_ | refine WD_split ?_ ?_) <;> intro hc <;> (try simp only [hc]) <;> (try simp only [bools] at hc) <;> (try (have hb : @Eq Bool _ _ := hc; simp only [hb]; clear hb))))
    rw [callHeap_at (R := [0]) c2 (hR := t_reach3 (fun _ => rfl)) (hc := t_closed3 (fun _ => rfl)) (hs := t_sub2)]
    repeat' (first | simp (maxSteps := 10000000) (disch := omega) only [go_sem, Nat.reduceAdd, Nat.reduceSub, Nat.reduceMul, Nat.reduceLT, Nat.reduceLeDiff, Nat.reduceEqDiff, Nat.reduceBEq, Nat.reduceBNe, reduceCtorEq, Int.reduceBNe, Int.reduceBEq, au, lst, if_pos, if_neg, treeC_ren] | simp (disch := (simp only [lens]; omega)) only [str_add, if_pos, if_neg] | ((with_reducible first | refine WC_split ?_ ?_ | refine WS_split ?_ ?_ | refine WD_split ?_ ?_) <;> intro hc <;> (try simp only [hc]) <;> (try simp only [bools] at hc) <;> (try (have hb : @Eq Bool _ _ := hc; simp only [hb]; clear hb))))
    refine hnorm (i + 1) _ (by omega) (by omega) ?_
    rw [eS]
    exact head_first rfl (fun p => treeC_all p _) rfl (by kernel_rfl) (by kernel_rfl) (by kernel_rfl) (by kernel_rfl)
  · have hil : i = l.length := by omega
    subst hil
    clear hnorm hret
    repeat' (first | simp (maxSteps := 10000000) (disch := omega) only [go_sem, Nat.reduceAdd, Nat.reduceSub, Nat.reduceMul, Nat.reduceLT, Nat.reduceLeDiff, Nat.reduceEqDiff, Nat.reduceBEq, Nat.reduceBNe, reduceCtorEq, Int.reduceBNe, Int.reduceBEq, au, lst, if_pos, if_neg] | simp (disch := (simp only [lens]; omega)) only [str_add, if_pos, if_neg] | ((with_reducible first | refine WC_split ?_ ?_ | refine WS_split ?_ ?_ | refine WD_split ?_ ?_) <;> intro hc <;> (try simp only [hc]) <;> (try simp only [bools] at hc) <;> (try (have hb : @Eq Bool _ _ := hc; simp only [hb]; clear hb))))
    refine hexit _ _ ?_
    clear hexit
    repeat' (first | simp (maxSteps := 10000000) (disch := omega) only [go_sem, Nat.reduceAdd, Nat.reduceSub, Nat.reduceMul, Nat.reduceLT, Nat.reduceLeDiff, Nat.reduceEqDiff, Nat.reduceBEq, Nat.reduceBNe, reduceCtorEq, Int.reduceBNe, Int.reduceBEq, au, lst, if_pos, if_neg] | simp (disch := (simp only [lens]; omega)) only [str_add, if_pos, if_neg] | ((with_reducible first | refine WC_split ?_ ?_ | refine WS_split ?_ ?_ | refine WD_split ?_ ?_) <;> intro hc <;> (try simp only [hc]) <;> (try simp only [bools] at hc) <;> (try (have hb : @Eq Bool _ _ := hc; simp only [hb]; clear hb))))
    exact retH (v := .tup [.ptr 0 0, .int .i64 0]) (own := false) (fun _ => ex_ret) rfl rfl ⟨rfl, rfl, rfl⟩
theorem call_8 (l : List PR) (hlen : l.length ≤ 100000) (h1 : chk l = true) : (Lim cfg).call 8 [.sl true (l.map prow)] [] = some (.tup [.ptr 0 0, .int .i64 0], false, [treeB (newT l)]) :=
  new_of l hlen emptyT empty_Ok call_29 h1
theorem new_bad (l : List PR) (hlen : l.length ≤ 100000) (h1 : chk l = false) : (Lim cfg).call 8 [.sl true (l.map prow)] [] = some (.tup [.nilp, .int .i64 1], false, []) := by
  have c1 := call_28 l hlen
  rw [h1] at c1
  refine call_eq fn_8 rfl ?_
  rw [k_start]
  simp only [Try.f8, st0, Nat.zero_add]
  repeat' (first | simp (maxSteps := 10000000) (disch := omega) only [go_sem, Nat.reduceAdd, Nat.reduceSub, Nat.reduceMul, Nat.reduceLT, Nat.reduceLeDiff, Nat.reduceEqDiff, Nat.reduceBEq, Nat.reduceBNe, reduceCtorEq, Int.reduceBNe, Int.reduceBEq, au, lst, if_pos, if_neg, c1] | simp (disch := (simp only [lens]; omega)) only [str_add, if_pos, if_neg] | ((with_reducible first | refine WC_split ?_ ?_ | refine WS_split ?_ ?_ | refine WD_split ?_ ?_) <;> intro hc <;> (try simp only [hc]) <;> (try simp only [bools] at hc) <;> (try (have hb : @Eq Bool _ _ := hc; simp only [hb]; clear hb))))
  exact ret2 (fun _ => ex_ret) rfl rfl rfl rfl ⟨rfl, rfl, rfl⟩
theorem new_Ok (l : List PR) : (newT l).Ok := puts_Ok l empty_Ok
end Go.Proofs.Ythikboobkmfgfaa
