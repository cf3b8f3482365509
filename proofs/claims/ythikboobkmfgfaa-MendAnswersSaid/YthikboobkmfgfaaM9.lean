/- What is told: the program's answer. -/
import Derived.Test.YthikboobkmfgfaaM8
set_option linter.all false
set_option maxRecDepth 100000
namespace Go.Proofs.Ythikboobkmfgfaa
open Go Go.Abs

/-- A loop's head where all blocks are named. -/
theorem head_keep2 {s : St} {K : List Nat} {fr : List V} {own : List Nat} {n : Nat} (hlen : s.hp.length = n) (hfr : killAll s.fr K = fr) (hown : s.own.filter (fun t => !K.contains t) = own) (hn : max s.nb (topIds fr) = n) :
    s.head K = { fr := fr, own := own, hp := s.hp, al := [], nb := s.nb } := by
  subst hfr hown
  obtain ⟨f, o, h, a, n⟩ := s
  simp only at hlen hn
  simp only [St.head, St.kill, St.gc, hn, hlen, Nat.sub_self, upTo]
  split
  · rw [List.take_of_length_le (Nat.le_of_eq hlen)]
  · rfl
theorem sizeZ_le (lv : Int) : sizeZ lv ≤ 4096 := by
  unfold sizeZ
  split
  · omega
  · split
    · omega
    · split <;> omega
theorem askFrom_mem {sz : Int} : ∀ {L : List Int} {lo : Int}, askFrom sz lo L = true → ∀ n ∈ L, 0 ≤ n ∧ n < sz
  | [], _, _, n, h => by cases h
  | x :: r, lo, h, n, hn => by
    simp only [askFrom, Bool.and_eq_true, decide_eq_true_eq] at h
    rcases List.mem_cons.1 hn with rfl | hn
    · exact h.1.2
    · exact askFrom_mem h.2 n hn
theorem askOk_inv {lv : Int} {L : List Int} (h : askOk lv L = true) : -1 ≤ lv ∧ lv ≤ 2 ∧ L ≠ [] ∧ ∀ n ∈ L, 0 ≤ n ∧ n < sizeZ lv := by
  simp only [askOk, Bool.and_eq_true, decide_eq_true_eq, Bool.not_eq_true', List.isEmpty_eq_false_iff] at h
  exact ⟨h.1.1, h.1.2, h.2.1, askFrom_mem h.2.2⟩
theorem lvl_len {T : TV} (h : T.Ok) {lv : Int} (h1 : 0 ≤ lv) (h2 : lv ≤ 2) : ((lvlT T lv).length : Int) = 16 * sizeZ lv := by
  have hc : lv = 0 ∨ lv = 1 ∨ lv = 2 := by omega
  rcases hc with rfl | rfl | rfl
  · show (T.leaf.length : Int) = _; rw [h.leaf]; rfl
  · show (T.low.length : Int) = _; rw [h.low]; rfl
  · show (T.mid.length : Int) = _; rw [h.mid]; rfl
def urow (n : Nat) : List V := [.int .u32 n]
theorem fit_urow (l : List Nat) : rowsFit 1 (l.map urow) = true := by cases l <;> rfl
theorem head_urow (l : List Nat) : headByte (l.map urow) = false := by cases l <;> rfl
theorem head_urow' (l : List Nat) (n : Nat) : headByte (l.map urow ++ [[.int .u32 (n : Int)]]) = false := by cases l <;> rfl
theorem fit_crow (l : List CR) : rowsFit 2 (l.map crow) = true := by cases l <;> rfl
theorem head_crow (l : List CR) : headByte (l.map crow) = false := by cases l <;> rfl
theorem head_crow' (l : List CR) (x : Int) (b : Bool) : headByte (l.map crow ++ [[.int .i64 x, .bool b]]) = false := by cases l <;> rfl
theorem call_32 (lv : Int) (L : List Int) (hlen : L.length ≤ 100000) : (Lim cfg).call 32 [.agg (askR lv L)] [] = some (.agg (askR lv L), false, []) := by
  have c1 : (Lim cfg).call 71 [.sl true (L.map irow)] [] = some (.sl ((L.map irow).isEmpty || true) (L.map irow), true, []) :=
    call_cln fn_71 cln_71 (by rw [ty_23]; rfl) ty_3 (by simp) (by unfold strMax; rw [List.length_map]; simp only; omega) (fit_irow L) (.inr (head_irow L))
  rw [Bool.or_true] at c1
  refine call_eq fn_32 rfl ?_
  rw [k_start]
  simp only [Try.f32, st0, Nat.zero_add]
  repeat' (first | simp (maxSteps := 10000000) (disch := omega) only [go_sem, Nat.reduceAdd, Nat.reduceSub, Nat.reduceMul, Nat.reduceLT, Nat.reduceLeDiff, Nat.reduceEqDiff, Nat.reduceBEq, Nat.reduceBNe, reduceCtorEq, Int.reduceBNe, Int.reduceBEq, au, lst, if_pos, if_neg, c1, askR] | simp (disch := (simp only [lens]; omega)) only [str_add, if_pos, if_neg] | ((with_reducible first | refine WC_split ?_ ?_ | refine WS_split ?_ ?_ | refine WD_split ?_ ?_) <;> intro hc <;> (try simp only [hc]) <;> (try simp only [bools] at hc) <;> (try (have hb : @Eq Bool _ _ := hc; simp only [hb]; clear hb))))
  exact retc1 (v := .agg (askR lv L)) (fun _ => ex_ret) rfl rfl ⟨rfl, rfl, rfl⟩
def S37 (T : TV) (L : List Int) (i : Nat) : St := { fr := mkF 22 [(0, .ptr 0 0), (5, .sl true (((L.take i).map (getT T)).map crow)), (8, .sl true (L.map irow)), (9, .int .i64 L.length), (10, .int .i64 i)], own := [5], hp := [treeB T], al := [], nb := 1 }
set_option maxHeartbeats 4000000 in
theorem call_33 {T : TV} (h : T.Ok) (L : List Int) (hlen : L.length ≤ 100000) : (Lim cfg).call 33 [.ptr 0 0, .sl true (L.map irow)] [treeB T] = some (.sl true ((L.map (getT T)).map crow), false, [treeB T]) := by
  refine call_eq fn_33 rfl ?_
  rw [k_start]
  simp only [Try.f33, st0, Nat.zero_add]
  repeat' (first | simp (maxSteps := 10000000) (disch := omega) only [go_sem, Nat.reduceAdd, Nat.reduceSub, Nat.reduceMul, Nat.reduceLT, Nat.reduceLeDiff, Nat.reduceEqDiff, Nat.reduceBEq, Nat.reduceBNe, reduceCtorEq, Int.reduceBNe, Int.reduceBEq, au, lst, if_pos, if_neg] | simp (disch := (simp only [lens]; omega)) only [str_add, if_pos, if_neg] | ((with_reducible first | refine WC_split ?_ ?_ | refine WS_split ?_ ?_ | refine WD_split ?_ ?_) <;> intro hc <;> (try simp only [hc]) <;> (try simp only [bools] at hc) <;> (try (have hb : @Eq Bool _ _ := hc; simp only [hb]; clear hb))))
  refine k_loop (S37 T L) (fun i => i ≤ L.length) (fun i => L.length - i) 0 (K := cfg.kill 33 3) rfl (Nat.zero_le _) (head_keep rfl rfl (by kernel_rfl) (by kernel_rfl) (Nat.le_of_eq (by kernel_rfl))) ?_
  intro i hi k' Q' hnorm hexit hret
  have eS : ∀ i, S37 T L i = { fr := mkF 22 [(0, .ptr 0 0), (5, .sl true (((L.take i).map (getT T)).map crow)), (8, .sl true (L.map irow)), (9, .int .i64 L.length), (10, .int .i64 i)], own := [5], hp := [treeB T], al := [], nb := 1 } := fun _ => rfl
  rw [eS]
  simp only [eS, mkF, List.foldl, st0, List.set]
  by_cases hlt : i < L.length
  · have c1 := call_72 h L[i]
    have hb : (((L.take i).map (getT T)).length + 1) * 16 ≤ strMax := by unfold strMax; rw [List.length_map, List.length_take]; omega
    have ht : (L.take (i + 1)).map (getT T) = (L.take i).map (getT T) ++ [getT T L[i]] := by rw [List.take_succ_eq_append_getElem hlt, List.map_append]; rfl
    generalize hO : (L.take i).map (getT T) = O at hb ht
    have hfin := eS (i + 1)
    rw [ht, List.map_append] at hfin
    generalize getT T L[i] = c at c1 hfin
    have er : headByte (O.map crow ++ [crow c]) = false := head_crow' O c.1 c.2
    have ef : crow c = [.int .i64 c.1, .bool c.2] := rfl
    repeat' (first | simp (maxSteps := 10000000) (disch := omega) only [go_sem, Nat.reduceAdd, Nat.reduceSub, Nat.reduceMul, Nat.reduceLT, Nat.reduceLeDiff, Nat.reduceEqDiff, Nat.reduceBEq, Nat.reduceBNe, reduceCtorEq, Int.reduceBNe, Int.reduceBEq, au, lst, if_pos, if_neg, irow] | simp (disch := (simp only [lens]; omega)) only [str_add, if_pos, if_neg] | ((with_reducible first | refine WC_split ?_ ?_ | refine WS_split ?_ ?_ | refine WD_split ?_ ?_) <;> intro hc <;> (try simp only [hc]) <;> (try simp only [bools] at hc) <;> (try (have hb : @Eq Bool _ _ := hc; simp only [hb]; clear hb))))
    rw [callHeap_at (R := [0]) c1 (hR := t_reach1) (hc := t_closed1) (hs := t_sub)]
    repeat' (first | simp (maxSteps := 10000000) (disch := omega) only [go_sem, Nat.reduceAdd, Nat.reduceSub, Nat.reduceMul, Nat.reduceLT, Nat.reduceLeDiff, Nat.reduceEqDiff, Nat.reduceBEq, Nat.reduceBNe, reduceCtorEq, Int.reduceBNe, Int.reduceBEq, au, lst, if_pos, if_neg, treeC_ren, hb, ef, fit_crow, head_crow, head_crow'] | simp (disch := (simp only [lens]; omega)) only [str_add, if_pos, if_neg] | ((with_reducible first | refine WC_split ?_ ?_ | refine WS_split ?_ ?_ | refine WD_split ?_ ?_) <;> intro hc <;> (try simp only [hc]) <;> (try simp only [bools] at hc) <;> (try (have hb : @Eq Bool _ _ := hc; simp only [hb]; clear hb))))
    refine hnorm (i + 1) _ (by omega) (by omega) ?_
    rw [hfin]
    exact head_keep rfl rfl (by kernel_rfl) (by kernel_rfl) (Nat.le_of_eq (by kernel_rfl))
  · clear hnorm hret
    have e : L.take i = L := List.take_of_length_le (by omega)
    rw [e]
    repeat' (first | simp (maxSteps := 10000000) (disch := omega) only [go_sem, Nat.reduceAdd, Nat.reduceSub, Nat.reduceMul, Nat.reduceLT, Nat.reduceLeDiff, Nat.reduceEqDiff, Nat.reduceBEq, Nat.reduceBNe, reduceCtorEq, Int.reduceBNe, Int.reduceBEq, au, lst, if_pos, if_neg] | simp (disch := (simp only [lens]; omega)) only [str_add, if_pos, if_neg] | ((with_reducible first | refine WC_split ?_ ?_ | refine WS_split ?_ ?_ | refine WD_split ?_ ?_) <;> intro hc <;> (try simp only [hc]) <;> (try simp only [bools] at hc) <;> (try (have hb : @Eq Bool _ _ := hc; simp only [hb]; clear hb))))
    refine hexit _ _ ?_
    repeat' (first | simp (maxSteps := 10000000) (disch := omega) only [go_sem, Nat.reduceAdd, Nat.reduceSub, Nat.reduceMul, Nat.reduceLT, Nat.reduceLeDiff, Nat.reduceEqDiff, Nat.reduceBEq, Nat.reduceBNe, reduceCtorEq, Int.reduceBNe, Int.reduceBEq, au, lst, if_pos, if_neg] | simp (disch := (simp only [lens]; omega)) only [str_add, if_pos, if_neg] | ((with_reducible first | refine WC_split ?_ ?_ | refine WS_split ?_ ?_ | refine WD_split ?_ ?_) <;> intro hc <;> (try simp only [hc]) <;> (try simp only [bools] at hc) <;> (try (have hb : @Eq Bool _ _ := hc; simp only [hb]; clear hb))))
    exact retK (v := .sl true ((L.map (getT T)).map crow)) (own := false) (fun _ => ex_ret) rfl rfl t_keep ⟨rfl, rfl, rfl⟩
/-- The numbers of the kids of nodes. -/
def kidsT (T : TV) (lv : Int) (L : List Int) : List Nat := L.flatMap fun n => row16 (lvlT T lv) n.toNat
theorem t_reach22 {T : TV} {b : Blk} {x y : Int} : reach [treeB T, b] [.ptr 0 0, .int .i64 x, .int .i64 y] = [0] := t_reach2 (T := T) (b := b) (x := x)
theorem t_closed22 {T : TV} {b : Blk} {x y : Int} : closedIn [treeB T, b] [0] [.ptr 0 0, .int .i64 x, .int .i64 y] = true := t_closed2 (T := T) (b := b) (x := x)
def askB (lv : Int) (L : List Int) : Blk := .cells 25 [] (askR lv L)
def S38k (T : TV) (lv : Int) (L : List Int) (x : Nat × List Nat) : St := { fr := mkF 33 [(0, .ptr 0 0), (3, .ptr 1 0), (5, .sl true (x.2.map urow)), (10, .sl true (L.map irow)), (11, .int .i64 L.length), (12, .int .i64 x.1)], own := [5], hp := [treeB T, askB lv L], al := [], nb := 1 }
def S38j (T : TV) (lv : Int) (L : List Int) (i : Nat) (n : Int) (x : Nat × List Nat) : St := { fr := mkF 33 [(0, .ptr 0 0), (3, .ptr 1 0), (5, .sl true (x.2.map urow)), (7, .int .i64 n), (10, .sl true (L.map irow)), (11, .int .i64 L.length), (12, .int .i64 i), (16, .int .i64 x.1)], own := [5], hp := [treeB T, askB lv L], al := [], nb := 1 }
set_option maxHeartbeats 8000000 in
theorem call_34 {T : TV} (h : T.Ok) {lv : Int} {L : List Int} (h1 : 0 ≤ lv) (h2 : lv ≤ 2) (hL : ∀ n ∈ L, 0 ≤ n ∧ n < sizeZ lv) (hlen : L.length ≤ 100000) : (Lim cfg).call 34 [.ptr 0 0, .agg (askR lv L)] [treeB T] = some (.sl true ((kidsT T lv L).map urow), false, [treeB T]) := by
  have hll := lvl_len h h1 h2
  refine call_eq fn_34 rfl ?_
  rw [k_start]
  simp only [Try.f34, st0, Nat.zero_add]
  repeat' (first | simp (maxSteps := 10000000) (disch := omega) only [go_sem, Nat.reduceAdd, Nat.reduceSub, Nat.reduceMul, Nat.reduceLT, Nat.reduceLeDiff, Nat.reduceEqDiff, Nat.reduceBEq, Nat.reduceBNe, reduceCtorEq, Int.reduceBNe, Int.reduceBEq, au, lst, if_pos, if_neg, askR] | simp (disch := (simp only [lens]; omega)) only [str_add, if_pos, if_neg] | ((with_reducible first | refine WC_split ?_ ?_ | refine WS_split ?_ ?_ | refine WD_split ?_ ?_) <;> intro hc <;> (try simp only [hc]) <;> (try simp only [bools] at hc) <;> (try (have hb : @Eq Bool _ _ := hc; simp only [hb]; clear hb))))
  refine k_loop (S38k T lv L) (fun x => x.1 ≤ L.length ∧ x.2.length = 16 * x.1 ∧ x.2 ++ kidsT T lv (L.drop x.1) = kidsT T lv L) (fun x => L.length - x.1) (0, []) (K := cfg.kill 34 3) rfl ⟨Nat.zero_le _, rfl, rfl⟩ (head_keep2 rfl (by kernel_rfl) (by kernel_rfl) (by kernel_rfl)) ?_
  rintro ⟨i, O⟩ ⟨hi, hOl, hO⟩ k' Q' hnorm hexit hret
  simp only at hi hOl hO
  have eS : ∀ i O, S38k T lv L (i, O) = { fr := mkF 33 [(0, .ptr 0 0), (3, .ptr 1 0), (5, .sl true (O.map urow)), (10, .sl true (L.map irow)), (11, .int .i64 L.length), (12, .int .i64 i)], own := [5], hp := [treeB T, askB lv L], al := [], nb := 1 } := fun _ _ => rfl
  rw [eS]
  simp only [eS, mkF, List.foldl, st0, List.set]
  by_cases hlt : i < L.length
  · obtain ⟨hn1, hn2⟩ := hL L[i] (List.getElem_mem hlt)
    rw [List.drop_eq_getElem_cons hlt] at hO
    have hr16 : (row16 (lvlT T lv) L[i].toNat).length = 16 := row16_len (by omega)
    have hO2 : O ++ (row16 (lvlT T lv) L[i].toNat ++ kidsT T lv (L.drop (i + 1))) = kidsT T lv L := hO
    repeat' (first | simp (maxSteps := 10000000) (disch := omega) only [go_sem, Nat.reduceAdd, Nat.reduceSub, Nat.reduceMul, Nat.reduceLT, Nat.reduceLeDiff, Nat.reduceEqDiff, Nat.reduceBEq, Nat.reduceBNe, reduceCtorEq, Int.reduceBNe, Int.reduceBEq, au, lst, if_pos, if_neg, irow, askB] | simp (disch := (simp only [lens]; omega)) only [str_add, if_pos, if_neg] | ((with_reducible first | refine WC_split ?_ ?_ | refine WS_split ?_ ?_ | refine WD_split ?_ ?_) <;> intro hc <;> (try simp only [hc]) <;> (try simp only [bools] at hc) <;> (try (have hb : @Eq Bool _ _ := hc; simp only [hb]; clear hb))))
    refine k_loop (S38j T lv L i L[i]) (fun x => x.1 ≤ 16 ∧ x.2 = O ++ (row16 (lvlT T lv) L[i].toNat).take x.1) (fun x => 16 - x.1) (0, O) (K := cfg.kill 34 6) rfl ⟨Nat.zero_le _, by simp⟩ (head_keep2 rfl (by kernel_rfl) (by kernel_rfl) (by kernel_rfl)) ?_
    rintro ⟨j, O2⟩ ⟨hj, hO3⟩ k2 Q2 hnorm2 hexit2 hret2
    simp only at hj hO3
    have eS2 : ∀ j O2, S38j T lv L i L[i] (j, O2) = { fr := mkF 33 [(0, .ptr 0 0), (3, .ptr 1 0), (5, .sl true (O2.map urow)), (7, .int .i64 L[i]), (10, .sl true (L.map irow)), (11, .int .i64 L.length), (12, .int .i64 i), (16, .int .i64 j)], own := [5], hp := [treeB T, askB lv L], al := [], nb := 1 } := fun _ _ => rfl
    have hO2l : O2.length = 16 * i + j := by rw [hO3, List.length_append, List.length_take, hOl, hr16]; omega
    rw [eS2]
    simp only [eS2, mkF, List.foldl, st0, List.set]
    by_cases hj16 : j < 16
    · have hK : (lvlT T lv)[16 * L[i].toNat + j]? = some (row16 (lvlT T lv) L[i].toNat)[j] := row16_get (by omega) (by omega)
      have c1 := call_73 h h1 h2 hK
      have e1 : ((16 * L[i].toNat + j : Nat) : Int) = 16 * L[i] + (j : Int) := by omega
      rw [e1] at c1
      have hst : O ++ (row16 (lvlT T lv) L[i].toNat).take (j + 1) = O2 ++ [(row16 (lvlT T lv) L[i].toNat)[j]] := by rw [List.take_succ_eq_append_getElem (by omega), ← List.append_assoc, ← hO3]
      generalize (row16 (lvlT T lv) L[i].toNat)[j] = n at c1 hst
      have hb : (O2.length + 1) * 4 ≤ strMax := by unfold strMax; omega
      have hsz : 0 ≤ 16 * L[i] ∧ 16 * L[i] ≤ 1000000 := by
        have := sizeZ_le lv
        omega
      repeat' (first | simp (maxSteps := 10000000) (disch := omega) only [go_sem, Nat.reduceAdd, Nat.reduceSub, Nat.reduceMul, Nat.reduceLT, Nat.reduceLeDiff, Nat.reduceEqDiff, Nat.reduceBEq, Nat.reduceBNe, reduceCtorEq, Int.reduceBNe, Int.reduceBEq, au, lst, if_pos, if_neg, irow, askB, askR] | simp (disch := (simp only [lens]; omega)) only [str_add, if_pos, if_neg] | ((with_reducible first | refine WC_split ?_ ?_ | refine WS_split ?_ ?_ | refine WD_split ?_ ?_) <;> intro hc <;> (try simp only [hc]) <;> (try simp only [bools] at hc) <;> (try (have hb : @Eq Bool _ _ := hc; simp only [hb]; clear hb))))
      rw [callHeap_at (R := [0]) c1 (hR := t_reach22) (hc := t_closed22) (hs := t_sub2)]
      repeat' (first | simp (maxSteps := 10000000) (disch := omega) only [go_sem, Nat.reduceAdd, Nat.reduceSub, Nat.reduceMul, Nat.reduceLT, Nat.reduceLeDiff, Nat.reduceEqDiff, Nat.reduceBEq, Nat.reduceBNe, reduceCtorEq, Int.reduceBNe, Int.reduceBEq, au, lst, if_pos, if_neg, treeC_ren, hb, fit_urow, head_urow, head_urow'] | simp (disch := (simp only [lens]; omega)) only [str_add, if_pos, if_neg] | ((with_reducible first | refine WC_split ?_ ?_ | refine WS_split ?_ ?_ | refine WD_split ?_ ?_) <;> intro hc <;> (try simp only [hc]) <;> (try simp only [bools] at hc) <;> (try (have hb : @Eq Bool _ _ := hc; simp only [hb]; clear hb))))
      refine hnorm2 (j + 1, O2 ++ [n]) _ ⟨by simp only; omega, by simp only; rw [hst]⟩ (by simp only; omega) ?_
      rw [eS2, List.map_append]
      exact head_keep2 rfl (by kernel_rfl) (by kernel_rfl) (by kernel_rfl)
    · have hj' : j = 16 := by omega
      clear hnorm2 hret2
      repeat' (first | simp (maxSteps := 10000000) (disch := omega) only [go_sem, Nat.reduceAdd, Nat.reduceSub, Nat.reduceMul, Nat.reduceLT, Nat.reduceLeDiff, Nat.reduceEqDiff, Nat.reduceBEq, Nat.reduceBNe, reduceCtorEq, Int.reduceBNe, Int.reduceBEq, au, lst, if_pos, if_neg] | simp (disch := (simp only [lens]; omega)) only [str_add, if_pos, if_neg] | ((with_reducible first | refine WC_split ?_ ?_ | refine WS_split ?_ ?_ | refine WD_split ?_ ?_) <;> intro hc <;> (try simp only [hc]) <;> (try simp only [bools] at hc) <;> (try (have hb : @Eq Bool _ _ := hc; simp only [hb]; clear hb))))
      refine hexit2 _ _ ?_
      repeat' (first | simp (maxSteps := 10000000) (disch := omega) only [go_sem, Nat.reduceAdd, Nat.reduceSub, Nat.reduceMul, Nat.reduceLT, Nat.reduceLeDiff, Nat.reduceEqDiff, Nat.reduceBEq, Nat.reduceBNe, reduceCtorEq, Int.reduceBNe, Int.reduceBEq, au, lst, if_pos, if_neg] | simp (disch := (simp only [lens]; omega)) only [str_add, if_pos, if_neg] | ((with_reducible first | refine WC_split ?_ ?_ | refine WS_split ?_ ?_ | refine WD_split ?_ ?_) <;> intro hc <;> (try simp only [hc]) <;> (try simp only [bools] at hc) <;> (try (have hb : @Eq Bool _ _ := hc; simp only [hb]; clear hb))))
      rw [List.take_of_length_le (by omega)] at hO3
      refine hnorm (i + 1, O2) _ ⟨by simp only; omega, by simp only; omega, by simp only; rw [hO3, List.append_assoc]; exact hO2⟩ (by simp only; omega) ?_
      rw [eS]
      exact head_keep2 rfl (by kernel_rfl) (by kernel_rfl) (by kernel_rfl)
  · have hO' : O = kidsT T lv L := by rw [← hO, List.drop_of_length_le (by omega)]; simp [kidsT]
    clear hnorm hret
    repeat' (first | simp (maxSteps := 10000000) (disch := omega) only [go_sem, Nat.reduceAdd, Nat.reduceSub, Nat.reduceMul, Nat.reduceLT, Nat.reduceLeDiff, Nat.reduceEqDiff, Nat.reduceBEq, Nat.reduceBNe, reduceCtorEq, Int.reduceBNe, Int.reduceBEq, au, lst, if_pos, if_neg] | simp (disch := (simp only [lens]; omega)) only [str_add, if_pos, if_neg] | ((with_reducible first | refine WC_split ?_ ?_ | refine WS_split ?_ ?_ | refine WD_split ?_ ?_) <;> intro hc <;> (try simp only [hc]) <;> (try simp only [bools] at hc) <;> (try (have hb : @Eq Bool _ _ := hc; simp only [hb]; clear hb))))
    refine hexit _ _ ?_
    repeat' (first | simp (maxSteps := 10000000) (disch := omega) only [go_sem, Nat.reduceAdd, Nat.reduceSub, Nat.reduceMul, Nat.reduceLT, Nat.reduceLeDiff, Nat.reduceEqDiff, Nat.reduceBEq, Nat.reduceBNe, reduceCtorEq, Int.reduceBNe, Int.reduceBEq, au, lst, if_pos, if_neg] | simp (disch := (simp only [lens]; omega)) only [str_add, if_pos, if_neg] | ((with_reducible first | refine WC_split ?_ ?_ | refine WS_split ?_ ?_ | refine WD_split ?_ ?_) <;> intro hc <;> (try simp only [hc]) <;> (try simp only [bools] at hc) <;> (try (have hb : @Eq Bool _ _ := hc; simp only [hb]; clear hb))))
    refine retK (v := .sl true (O.map urow)) (own := false) (fun _ => ex_ret) rfl rfl t_keep ⟨by rw [hO'], rfl, rfl⟩
end Go.Proofs.Ythikboobkmfgfaa
