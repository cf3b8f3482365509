/- The numbers of a table: the program's answers. -/
import Derived.Test.YthikboobkmfgfaaM4
set_option linter.all false
set_option maxRecDepth 100000
namespace Go.Proofs.Ythikboobkmfgfaa
open Go Go.Abs

/-- A loop's head: of all blocks but the first nothing is left. -/
theorem head_first {s : St} {K : List Nat} {A : Blk} {r : List Blk} {fr : List V} {own : List Nat} (hh : s.hp = A :: r) (hA : ∀ p, Blk.all p A = true) (hnb : s.nb = 0) (hfr : killAll s.fr K = fr)
    (hown : s.own.filter (fun t => !K.contains t) = own) (hn : topIds fr = 1) (hl : V.ltl 1 fr = true) : s.head K = { fr := fr, own := own, hp := [A], al := [], nb := 0 } := by
  subst hfr hown
  obtain ⟨f, o, h, a, n⟩ := s
  simp only at hh hnb hn hl
  subst hh hnb
  have hu : upTo (A :: r) r.length 1 = 1 := by
    cases r with
    | nil => rfl
    | cons b r => simp [upTo, hA]
  simp only [St.head, St.kill, St.gc, hn, hl, List.length_cons, Nat.zero_max, Nat.add_sub_cancel, hu]
  simp [hA]
theorem retH {rs : List ResultVar} {n : Nat} {e : Ex} {s : St} {R : V → Bool → List Blk → Prop} {v : V} {own : Bool} (he : ∀ i, e ≠ .exit i) (hv : resultsV cfg s rs = some (v, own)) (hl : V.lt n v = false) (h : R v (own && isSl v) s.hp) : Ret cfg rs n R e s := by
  refine ⟨he, v, own, hv, ?_⟩
  simp only [hl, Bool.false_and, Bool.false_eq_true, if_false]
  exact h
/-- A key has a cell. -/
def putT (T : TV) (key : Nat) (c : CR) : TV := upT { T with cells := T.cells.set key c, leaf := T.leaf.set key (numberN c) } key
theorem Ok_up {T : TV} (h : T.Ok) {key : Nat} : (upT T key).Ok := Ok_root (Ok_mid (Ok_low h))
theorem Ok_put {T : TV} (h : T.Ok) {key : Nat} {c : CR} : (putT T key c).Ok := Ok_up (Ok_leaf (Ok_cells h))
theorem st_cell {T : TV} (h : T.Ok) {i : Nat} {v : Int} {s : Bool} (hi : i < 4096) : List.take (i * 2) (treeC T) ++ [V.int .i64 v, V.bool s] ++ List.drop (i * 2 + 2) (treeC T) = treeC { T with cells := T.cells.set i (v, s) } := by
  rw [Nat.mul_comm]; exact set_cell h (c := (v, s)) hi
theorem t_reach2 {T : TV} {b : Blk} {x : Int} : reach [treeB T, b] [.ptr 0 0, .int .i64 x] = [0] := by
  have e : reachGo [treeB T, b] 2 [0] = [0] := by
    unfold reachGo
    show (if (V.idsl [0] (treeC T)).length = [0].length then [0] else reachGo _ 1 (V.idsl [0] (treeC T))) = [0]
    rw [treeC_ids]; rfl
  show (List.range 2).filter (fun i => (reachGo [treeB T, b] 2 [0]).contains i) = [0]
  rw [e]; rfl
theorem t_closed2 {T : TV} {b : Blk} {x : Int} : closedIn [treeB T, b] [0] [.ptr 0 0, .int .i64 x] = true := by
  show (true && ((true && V.alll (fun i => [0].contains i) (treeC T)) && true)) = true
  rw [treeC_all]; rfl
theorem t_sub2 {T : TV} {b : Blk} : subHp [treeB T, b] [0] = [treeB T] := by
  show [Blk.cells 131 [] (V.renl (fun i => [0].idxOf i) (treeC T))] = _
  rw [treeC_ren]
set_option maxHeartbeats 4000000 in
theorem call_30 {T : TV} (h : T.Ok) {key : Nat} (hk : key < 4096) (c : CR) : (Lim cfg).call 30 [.ptr 0 0, .int .i64 key, .agg (crow c)] [treeB T] = some (.tup [], false, [treeB (putT T key c)]) := by
  obtain ⟨v, s⟩ := c
  have l1 := treeC_len h
  have h1 : TV.Ok { T with cells := T.cells.set key (v, s) } := Ok_cells h
  have l2 := treeC_len h1
  have w1 := st_cell h (v := v) (s := s) hk
  have w2 := st_leaf h1 (n := numberN (v, s)) hk
  have h2 : TV.Ok { T with cells := T.cells.set key (v, s), leaf := T.leaf.set key (numberN (v, s)) } := Ok_leaf h1
  have c1 := call_68 (v, s)
  simp only [crow] at c1
  have c2 := call_69 h2 hk
  have hkk : (0 : Int) ≤ (key : Int) := by omega
  refine call_eq fn_30 rfl ?_
  rw [k_start]
  simp only [Try.f30, st0, Nat.zero_add]
  repeat' (first | simp (maxSteps := 10000000) (disch := omega) only [go_sem, Nat.reduceAdd, Nat.reduceSub, Nat.reduceMul, Nat.reduceLT, Nat.reduceLeDiff, Nat.reduceEqDiff, Nat.reduceBEq, Nat.reduceBNe, reduceCtorEq, Int.reduceBNe, Int.reduceBEq, au, lst, if_pos, if_neg, crow, l1, w1, l2, w2, c1] | simp (disch := (simp only [lens]; omega)) only [str_add, if_pos, if_neg] | ((with_reducible first | refine WC_split ?_ ?_ | refine WS_split ?_ ?_ | refine WD_split ?_ ?_) <;> intro hc <;> (try simp only [hc]) <;> (try simp only [bools] at hc) <;> (try (have hb : @Eq Bool _ _ := hc; simp only [hb]; clear hb))))
  rw [callHeap_at (R := [0]) c2 (hR := t_reach2) (hc := t_closed2) (hs := t_sub2)]
  repeat' (first | simp (maxSteps := 10000000) (disch := omega) only [go_sem, Nat.reduceAdd, Nat.reduceSub, Nat.reduceMul, Nat.reduceLT, Nat.reduceLeDiff, Nat.reduceEqDiff, Nat.reduceBEq, Nat.reduceBNe, reduceCtorEq, Int.reduceBNe, Int.reduceBEq, au, lst, if_pos, if_neg, treeC_ren] | simp (disch := (simp only [lens]; omega)) only [str_add, if_pos, if_neg] | ((with_reducible first | refine WC_split ?_ ?_ | refine WS_split ?_ ?_ | refine WD_split ?_ ?_) <;> intro hc <;> (try simp only [hc]) <;> (try simp only [bools] at hc) <;> (try (have hb : @Eq Bool _ _ := hc; simp only [hb]; clear hb))))
  refine ret0 (hp' := [treeB (putT T key (v, s))]) (fun _ => ex_normal) ?_ ⟨rfl, rfl, rfl⟩
  show (if (V.alll (fun i => Nat.blt i 1) (treeC _) && true) = true then _ else _) = _
  rw [treeC_all]; rfl
/-- The numbers of the empty table. -/
def zeroT : TV := ⟨List.replicate 4096 (0, false), List.replicate 4096 0, List.replicate 256 0, List.replicate 16 0, 0⟩
theorem zero_Ok : zeroT.Ok := ⟨by simp [zeroT], by simp [zeroT], by simp [zeroT], by simp [zeroT]⟩
theorem zero_tree : zt_131 = treeC zeroT := by kernel_rfl
def stepL (T : TV) (i : Nat) : TV := { T with low := T.low.set i (overN (row16 T.leaf 0)) }
def stepM (T : TV) (i : Nat) : TV := { T with mid := T.mid.set i (overN (row16 T.low 0)) }
def emL : Nat → TV
  | 0 => zeroT
  | i + 1 => stepL (emL i) i
def emM : Nat → TV
  | 0 => emL 256
  | i + 1 => stepM (emM i) i
def emptyT : TV := upR (emM 16)
theorem emL_Ok : ∀ i, (emL i).Ok
  | 0 => zero_Ok
  | i + 1 => Ok_low (emL_Ok i)
theorem emM_Ok : ∀ i, (emM i).Ok
  | 0 => emL_Ok 256
  | i + 1 => Ok_mid (emM_Ok i)
theorem empty_Ok : emptyT.Ok := Ok_root (emM_Ok 16)
def S33a (E : Nat → TV) (i : Nat) : St := { fr := mkF 43 [(1, .ptr 0 0), (6, .int .i64 i)], own := [], hp := [treeB (E i)], al := [], nb := 0 }
def S33b (E : Nat → TV) (i : Nat) : St := { fr := mkF 43 [(1, .ptr 0 0), (20, .int .i64 i)], own := [], hp := [treeB (E i)], al := [], nb := 0 }
set_option maxHeartbeats 4000000 in
theorem empty_of (E M : Nat → TV) (e0 : E 0 = zeroT) (eE : ∀ i, E (i + 1) = stepL (E i) i) (m0 : M 0 = E 256) (eM : ∀ i, M (i + 1) = stepM (M i) i) (okE : ∀ i, (E i).Ok) (okM : ∀ i, (M i).Ok) : (Lim cfg).call 29 [] [] = some (.ptr 0 0, false, [treeB (upR (M 16))]) := by
  have zero_E : zt_131 = treeC (E 0) := by rw [e0]; exact zero_tree
  clear e0
  refine call_eq fn_29 rfl ?_
  rw [k_start]
  simp only [Try.f29, st0, Nat.zero_add]
  repeat' (first | simp (maxSteps := 10000000) (disch := omega) only [go_sem, Nat.reduceAdd, Nat.reduceSub, Nat.reduceMul, Nat.reduceLT, Nat.reduceLeDiff, Nat.reduceEqDiff, Nat.reduceBEq, Nat.reduceBNe, reduceCtorEq, Int.reduceBNe, Int.reduceBEq, au, lst, if_pos, if_neg, zero_E] | simp (disch := (simp only [lens]; omega)) only [str_add, if_pos, if_neg] | ((with_reducible first | refine WC_split ?_ ?_ | refine WS_split ?_ ?_ | refine WD_split ?_ ?_) <;> intro hc <;> (try simp only [hc]) <;> (try simp only [bools] at hc) <;> (try (have hb : @Eq Bool _ _ := hc; simp only [hb]; clear hb))))
  refine k_loop (S33a E) (fun i => i ≤ 256) (fun i => 256 - i) 0 (K := cfg.kill 29 3) rfl (Nat.zero_le _) (head_first rfl (fun p => treeC_all p _) rfl (by kernel_rfl) (by kernel_rfl) (by kernel_rfl) (by kernel_rfl)) ?_
  intro i hi k' Q' hnorm hexit hret
  have eS : ∀ i, S33a E i = { fr := mkF 43 [(1, .ptr 0 0), (6, .int .i64 i)], own := [], hp := [treeB (E i)], al := [], nb := 0 } := fun _ => rfl
  rw [eS]
  simp only [eS, mkF, List.foldl, st0, List.set]
  by_cases hlt : i < 256
  · have o1 : (Lim cfg).call 67 [.ms 0 8192 16 4096] [treeB (E i)] = _ := over_leaf (okE i) (i := 0) (by omega)
    have s1 : sliceV cfg 127 (.ptr 0 8192) none (some (.int .i64 16)) none = some (.ms 0 8192 16 4096) := slice_arr0 (h := 16) rfl ty_89 (by omega) (by omega) (by omega)
    have l1 := treeC_len (okE i)
    have w1 : List.take (12288 + i * 1) (treeC (E i)) ++ [V.int .u32 (overN (row16 (E i).leaf 0) : Nat)] ++ List.drop (12288 + i * 1 + 1) (treeC (E i)) = treeC (E (i + 1)) := by
      rw [eE]; exact st_low (okE i) (n := overN (row16 (E i).leaf 0)) hlt
    repeat' (first | simp (maxSteps := 10000000) (disch := omega) only [go_sem, Nat.reduceAdd, Nat.reduceSub, Nat.reduceMul, Nat.reduceLT, Nat.reduceLeDiff, Nat.reduceEqDiff, Nat.reduceBEq, Nat.reduceBNe, reduceCtorEq, Int.reduceBNe, Int.reduceBEq, au, lst, if_pos, if_neg, s1] | simp (disch := (simp only [lens]; omega)) only [str_add, if_pos, if_neg] | ((with_reducible first | refine WC_split ?_ ?_ | refine WS_split ?_ ?_ | refine WD_split ?_ ?_) <;> intro hc <;> (try simp only [hc]) <;> (try simp only [bools] at hc) <;> (try (have hb : @Eq Bool _ _ := hc; simp only [hb]; clear hb))))
    rw [callHeap_at (R := [0]) o1 (hR := t_reach) (hc := t_closed) (hs := t_sub)]
    repeat' (first | simp (maxSteps := 10000000) (disch := omega) only [go_sem, Nat.reduceAdd, Nat.reduceSub, Nat.reduceMul, Nat.reduceLT, Nat.reduceLeDiff, Nat.reduceEqDiff, Nat.reduceBEq, Nat.reduceBNe, reduceCtorEq, Int.reduceBNe, Int.reduceBEq, au, lst, if_pos, if_neg, t_reach, treeC_ren, l1, w1] | simp (disch := (simp only [lens]; omega)) only [str_add, if_pos, if_neg] | ((with_reducible first | refine WC_split ?_ ?_ | refine WS_split ?_ ?_ | refine WD_split ?_ ?_) <;> intro hc <;> (try simp only [hc]) <;> (try simp only [bools] at hc) <;> (try (have hb : @Eq Bool _ _ := hc; simp only [hb]; clear hb))))
    refine hnorm (i + 1) _ (by omega) (by omega) ?_
    rw [eS]
    exact head_first rfl (fun p => treeC_all p _) rfl (by kernel_rfl) (by kernel_rfl) (by kernel_rfl) (by kernel_rfl)
  · have hi6 : i = 256 := by omega
    subst hi6
    clear hnorm hret
    repeat' (first | simp (maxSteps := 10000000) (disch := omega) only [go_sem, Nat.reduceAdd, Nat.reduceSub, Nat.reduceMul, Nat.reduceLT, Nat.reduceLeDiff, Nat.reduceEqDiff, Nat.reduceBEq, Nat.reduceBNe, reduceCtorEq, Int.reduceBNe, Int.reduceBEq, au, lst, if_pos, if_neg] | simp (disch := (simp only [lens]; omega)) only [str_add, if_pos, if_neg] | ((with_reducible first | refine WC_split ?_ ?_ | refine WS_split ?_ ?_ | refine WD_split ?_ ?_) <;> intro hc <;> (try simp only [hc]) <;> (try simp only [bools] at hc) <;> (try (have hb : @Eq Bool _ _ := hc; simp only [hb]; clear hb))))
    refine hexit _ _ ?_
    clear hexit
    repeat' (first | simp (maxSteps := 10000000) (disch := omega) only [go_sem, Nat.reduceAdd, Nat.reduceSub, Nat.reduceMul, Nat.reduceLT, Nat.reduceLeDiff, Nat.reduceEqDiff, Nat.reduceBEq, Nat.reduceBNe, reduceCtorEq, Int.reduceBNe, Int.reduceBEq, au, lst, if_pos, if_neg] | simp (disch := (simp only [lens]; omega)) only [str_add, if_pos, if_neg] | ((with_reducible first | refine WC_split ?_ ?_ | refine WS_split ?_ ?_ | refine WD_split ?_ ?_) <;> intro hc <;> (try simp only [hc]) <;> (try simp only [bools] at hc) <;> (try (have hb : @Eq Bool _ _ := hc; simp only [hb]; clear hb))))
    rw [← m0]
    refine k_loop (S33b M) (fun i => i ≤ 16) (fun i => 16 - i) 0 (K := cfg.kill 29 8) rfl (Nat.zero_le _) (head_first rfl (fun p => treeC_all p _) rfl (by kernel_rfl) (by kernel_rfl) (by kernel_rfl) (by kernel_rfl)) ?_
    intro i hi k' Q' hnorm hexit hret
    have eS : ∀ i, S33b M i = { fr := mkF 43 [(1, .ptr 0 0), (20, .int .i64 i)], own := [], hp := [treeB (M i)], al := [], nb := 0 } := fun _ => rfl
    rw [eS]
    simp only [eS, mkF, List.foldl, st0, List.set]
    by_cases hlt : i < 16
    · have o1 : (Lim cfg).call 67 [.ms 0 12288 16 256] [treeB (M i)] = _ := over_low (okM i) (i := 0) (by omega)
      have s1 : sliceV cfg 128 (.ptr 0 12288) none (some (.int .i64 16)) none = some (.ms 0 12288 16 256) := slice_arr0 (h := 16) rfl ty_89 (by omega) (by omega) (by omega)
      have l1 := treeC_len (okM i)
      have w1 : List.take (12544 + i * 1) (treeC (M i)) ++ [V.int .u32 (overN (row16 (M i).low 0) : Nat)] ++ List.drop (12544 + i * 1 + 1) (treeC (M i)) = treeC (M (i + 1)) := by
        rw [eM]; exact st_mid (okM i) (n := overN (row16 (M i).low 0)) hlt
      repeat' (first | simp (maxSteps := 10000000) (disch := omega) only [go_sem, Nat.reduceAdd, Nat.reduceSub, Nat.reduceMul, Nat.reduceLT, Nat.reduceLeDiff, Nat.reduceEqDiff, Nat.reduceBEq, Nat.reduceBNe, reduceCtorEq, Int.reduceBNe, Int.reduceBEq, au, lst, if_pos, if_neg, s1] | simp (disch := (simp only [lens]; omega)) only [str_add, if_pos, if_neg] | ((with_reducible first | refine WC_split ?_ ?_ | refine WS_split ?_ ?_ | refine WD_split ?_ ?_) <;> intro hc <;> (try simp only [hc]) <;> (try simp only [bools] at hc) <;> (try (have hb : @Eq Bool _ _ := hc; simp only [hb]; clear hb))))
      rw [callHeap_at (R := [0]) o1 (hR := t_reach) (hc := t_closed) (hs := t_sub)]
      repeat' (first | simp (maxSteps := 10000000) (disch := omega) only [go_sem, Nat.reduceAdd, Nat.reduceSub, Nat.reduceMul, Nat.reduceLT, Nat.reduceLeDiff, Nat.reduceEqDiff, Nat.reduceBEq, Nat.reduceBNe, reduceCtorEq, Int.reduceBNe, Int.reduceBEq, au, lst, if_pos, if_neg, t_reach, treeC_ren, l1, w1] | simp (disch := (simp only [lens]; omega)) only [str_add, if_pos, if_neg] | ((with_reducible first | refine WC_split ?_ ?_ | refine WS_split ?_ ?_ | refine WD_split ?_ ?_) <;> intro hc <;> (try simp only [hc]) <;> (try simp only [bools] at hc) <;> (try (have hb : @Eq Bool _ _ := hc; simp only [hb]; clear hb))))
      refine hnorm (i + 1) _ (by omega) (by omega) ?_
      rw [eS]
      exact head_first rfl (fun p => treeC_all p _) rfl (by kernel_rfl) (by kernel_rfl) (by kernel_rfl) (by kernel_rfl)
    · have hi6 : i = 16 := by omega
      subst hi6
      clear hnorm hret
      have o1 := over_mid (okM 16) (cap := 16)
      have s1 : sliceV cfg 129 (.ptr 0 12544) none none none = some (.ms 0 12544 16 16) := by rw [slice_all rfl ty_89 (by omega)]; rfl
      have l1 := treeC_len (okM 16)
      have w1 : _ = treeC (upR (M 16)) := st_root (okM 16) (n := overN (M 16).mid)
      repeat' (first | simp (maxSteps := 10000000) (disch := omega) only [go_sem, Nat.reduceAdd, Nat.reduceSub, Nat.reduceMul, Nat.reduceLT, Nat.reduceLeDiff, Nat.reduceEqDiff, Nat.reduceBEq, Nat.reduceBNe, reduceCtorEq, Int.reduceBNe, Int.reduceBEq, au, lst, if_pos, if_neg, s1] | simp (disch := (simp only [lens]; omega)) only [str_add, if_pos, if_neg] | ((with_reducible first | refine WC_split ?_ ?_ | refine WS_split ?_ ?_ | refine WD_split ?_ ?_) <;> intro hc <;> (try simp only [hc]) <;> (try simp only [bools] at hc) <;> (try (have hb : @Eq Bool _ _ := hc; simp only [hb]; clear hb))))
      refine hexit _ _ ?_
      repeat' (first | simp (maxSteps := 10000000) (disch := omega) only [go_sem, Nat.reduceAdd, Nat.reduceSub, Nat.reduceMul, Nat.reduceLT, Nat.reduceLeDiff, Nat.reduceEqDiff, Nat.reduceBEq, Nat.reduceBNe, reduceCtorEq, Int.reduceBNe, Int.reduceBEq, au, lst, if_pos, if_neg, s1] | simp (disch := (simp only [lens]; omega)) only [str_add, if_pos, if_neg] | ((with_reducible first | refine WC_split ?_ ?_ | refine WS_split ?_ ?_ | refine WD_split ?_ ?_) <;> intro hc <;> (try simp only [hc]) <;> (try simp only [bools] at hc) <;> (try (have hb : @Eq Bool _ _ := hc; simp only [hb]; clear hb))))
      rw [callHeap_at (R := [0]) o1 (hR := t_reach) (hc := t_closed) (hs := t_sub)]
      repeat' (first | simp (maxSteps := 10000000) (disch := omega) only [go_sem, Nat.reduceAdd, Nat.reduceSub, Nat.reduceMul, Nat.reduceLT, Nat.reduceLeDiff, Nat.reduceEqDiff, Nat.reduceBEq, Nat.reduceBNe, reduceCtorEq, Int.reduceBNe, Int.reduceBEq, au, lst, if_pos, if_neg, t_reach, treeC_ren, l1, w1] | simp (disch := (simp only [lens]; omega)) only [str_add, if_pos, if_neg] | ((with_reducible first | refine WC_split ?_ ?_ | refine WS_split ?_ ?_ | refine WD_split ?_ ?_) <;> intro hc <;> (try simp only [hc]) <;> (try simp only [bools] at hc) <;> (try (have hb : @Eq Bool _ _ := hc; simp only [hb]; clear hb))))
      exact retH (v := .ptr 0 0) (fun _ => ex_ret) rfl rfl ⟨rfl, by rfl, rfl⟩
theorem call_29 : (Lim cfg).call 29 [] [] = some (.ptr 0 0, false, [treeB emptyT]) := empty_of emL emM rfl (fun _ => rfl) rfl (fun _ => rfl) emL_Ok emM_Ok
end Go.Proofs.Ythikboobkmfgfaa
