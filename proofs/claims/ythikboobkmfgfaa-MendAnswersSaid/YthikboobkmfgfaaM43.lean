/- The numbers of all keys of a table: the document's answer. -/
import Derived.Test.YthikboobkmfgfaaM41
import Derived.Test.YthikboobkmfgfaaM42
set_option linter.all false
set_option maxRecDepth 100000
namespace Go.Proofs.Ythikboobkmfgfaa
open Go Go.Abs

theorem fz_cons {i j : Nat} {t : Tmp} {fz : List (Nat × Tmp)} {st : St} : freezes cfg i ((j, t) :: fz) st = if (j == i) = true then (freezeT cfg t st).bind (freezes cfg i fz) else freezes cfg i fz st := by
  have e : (j == i) = Nat.beq j i := by rw [Bool.eq_iff_iff, beq_iff_eq, Nat.beq_eq]
  rw [e, freezes]
  cases Nat.beq j i
  · rfl
  · simp only [if_true]
    cases freezeT cfg t st <;> rfl
theorem dl_any {id : Nat} : V.drop1 id .any = .any := rfl
theorem dl_sl {id : Nat} {xs : List (List V)} : V.drop1 id (.sl true xs) = .sl true xs := rfl
theorem dl_ms {id k o n c : Nat} : V.drop1 id (.ms k o n c) = if (k == id) = true then .any else .ms k o n c := by
  have e : (k == id) = Nat.beq k id := by rw [Bool.eq_iff_iff, beq_iff_eq, Nat.beq_eq]
  rw [e]; unfold V.drop1; show (if (!Nat.beq k id) = true then _ else _) = _
  cases Nat.beq k id <;> rfl
theorem dl_ptr {id k o : Nat} : V.drop1 id (.ptr k o) = if (k == id) = true then .any else .ptr k o := by
  have e : (k == id) = Nat.beq k id := by rw [Bool.eq_iff_iff, beq_iff_eq, Nat.beq_eq]
  rw [e]; unfold V.drop1; show (if (!Nat.beq k id) = true then _ else _) = _
  cases Nat.beq k id <;> rfl
theorem dl_int {id : Nat} {k : IntKind} {n : Int} : V.drop1 id (.int k n) = .int k n := rfl
theorem dl_bool {id : Nat} {b : Bool} : V.drop1 id (.bool b) = .bool b := rfl
theorem dl_pc {id : Nat} {cs : List V} : V.drop1 id (.pc true cs) = .pc true cs := rfl
theorem dl_agg {id : Nat} {cs : List V} (h : V.alll (fun i => !Nat.beq i id) cs = true) : V.drop1 id (.agg cs) = .agg cs := by unfold V.drop1; show (if V.alll _ cs = true then _ else _) = _; rw [if_pos h]
/-- Numbers, cell by cell. -/
def uC (l : List Nat) : List V := l.map u32
theorem uC_all (p : Nat → Bool) : ∀ l : List Nat, V.alll p (uC l) = true
  | [] => rfl
  | _ :: l => uC_all p l
theorem uC_len (l : List Nat) : (uC l).length = l.length := List.length_map _
theorem uC_rows (l : List Nat) : rowsOf 1 l.length (uC l) = l.map urow := by
  induction l with
  | nil => rfl
  | cons n l ih =>
    show rowsOf 1 (l.length + 1) (u32 n :: uC l) = _
    rw [rowsOf]
    show _ :: rowsOf 1 l.length (uC l) = _
    rw [ih]; rfl
theorem uC_set {l : List Nat} {k n : Nat} (h : k < l.length) : List.take k (uC l) ++ [V.int .u32 (n : Int)] ++ List.drop (k + 1) (uC l) = uC (l.set k n) := by
  rw [put_one (by rw [uC_len]; exact h), uC, uC, List.map_set]; rfl
theorem freeze_uC {st : St} {A : List Nat} {n : Nat} {t : Tmp} (hfr : st.fr.getD t .any = .ms 0 0 n n) (hhp : st.hp = [.cells 89 [] (uC A)]) (hn : A.length = n) (hnb : st.nb = 0) :
    freezeT cfg t st = some ((st.lose 0).put (some t) (.sl true (A.map urow))) := by
  have hul := uC_len A
  rw [hn] at hul
  have f7 := uC_rows A
  rw [hn] at f7
  have f6 : List.take (n * 1) (List.drop 0 (uC A)) = uC A := by rw [List.drop_zero, List.take_of_length_le (by omega)]
  have f5 : V.ltl 0 (uC A) = true := uC_all _ A
  have q5 : aloneIn 0 [Blk.cells 89 [] (uC A)] = true := rfl
  have hg : [Blk.cells 89 [] (uC A)][0]? = some (Blk.cells 89 [] (uC A)) := rfl
  simp only [freezeT, hfr, hhp, hg, ty_89, hnb, f6, f5, q5, uC_all, hul]
  rw [List.drop_zero, f7, if_pos ⟨Nat.le_refl _, by omega, by decide, trivial, trivial⟩]
theorem reach_c1 {hp : List Blk} {v : Int} {b : Bool} : reach hp [.agg [.int .i64 v, .bool b]] = [] := reach_pure rfl
def zerL (n : Nat) : List Nat := List.replicate n 0
theorem zerL_len (n : Nat) : (zerL n).length = n := List.length_replicate
def T75 (l : List PR) (i : Nat) : St := match i with
  | 0 => { fr := mkF 34 [(0, .sl true (l.map prow)), (3, .sl true []), (4, .int .i64 0)], own := [3], hp := [], al := [], nb := 0 }
  | i + 1 => { fr := mkF 34 [(0, .sl true (l.map prow)), (3, .ms 0 0 (i + 1) (i + 1)), (4, .int .i64 ((i + 1 : Nat) : Int))], own := [], hp := [.cells 89 [] (uC (zerL (i + 1)))], al := [], nb := 0 }
def T75b (l : List PR) (i : Nat) : St := { fr := mkF 34 [(0, .sl true (l.map prow)), (3, .ms 0 0 4096 4096), (5, .int .i64 i)], own := [], hp := [.cells 89 [] (uC (leafF (l.take i) (zerL 4096)))], al := [], nb := 0 }
set_option maxHeartbeats 16000000 in
theorem call_75 (l : List PR) (hlen : l.length ≤ 100000) (hk : chk l = true) : (Lim cfg).call 75 [.sl true (l.map prow)] [] = some (.sl true ((leafF l (zerL 4096)).map urow), false, []) := by
  refine call_eq fn_75 rfl ?_
  rw [k_start]
  simp only [Try.f75, st0, Nat.zero_add]
  repeat' (first | simp (maxSteps := 10000000) (disch := omega) only [go_sem, Nat.reduceAdd, Nat.reduceSub, Nat.reduceMul, Nat.reduceLT, Nat.reduceLeDiff, Nat.reduceEqDiff, Nat.reduceBEq, Nat.reduceBNe, reduceCtorEq, Int.reduceBNe, Int.reduceBEq, au, lst, if_pos, if_neg] | simp (disch := (simp only [lens]; omega)) only [str_add, if_pos, if_neg] | ((with_reducible first | refine WC_split ?_ ?_ | refine WS_split ?_ ?_ | refine WD_split ?_ ?_) <;> intro hc <;> (try simp only [hc]) <;> (try simp only [bools] at hc) <;> (try (have hb : @Eq Bool _ _ := hc; simp only [hb]; clear hb))))
  refine k_loop (T75 l) (fun i => i ≤ 4096) (fun i => 4096 - i) 0 (K := cfg.kill 75 3) rfl (Nat.zero_le _) (by kernel_rfl) ?_
  intro i hi k' Q' hnorm hexit hret
  have hnb : (!headByte [[V.int .u32 0]]) = true := rfl
  cases i with
  | zero =>
    simp only [T75, mkF, List.foldl, st0, List.set]
    have hb : 4 ≤ strMax := by decide
    clear hexit hret
    repeat' (first | simp (maxSteps := 10000000) (disch := omega) only [go_sem, Nat.reduceAdd, Nat.reduceSub, Nat.reduceMul, Nat.reduceLT, Nat.reduceLeDiff, Nat.reduceEqDiff, Nat.reduceBEq, Nat.reduceBNe, reduceCtorEq, Int.reduceBNe, Int.reduceBEq, au, lst, if_pos, if_neg, appendM, emptyM, emptyV, appendNilM, zerosM, srcM, birthM, hb, hnb] | simp (disch := (simp only [lens]; omega)) only [str_add, if_pos, if_neg] | ((with_reducible first | refine WC_split ?_ ?_ | refine WS_split ?_ ?_ | refine WD_split ?_ ?_) <;> intro hc <;> (try simp only [hc]) <;> (try simp only [bools] at hc) <;> (try (have hb : @Eq Bool _ _ := hc; simp only [hb]; clear hb))))
    refine hnorm (0 + 1) _ (by omega) (by omega) ?_
    kernel_rfl
  | succ i =>
    simp only [T75, mkF, List.foldl, st0, List.set]
    by_cases hlt : i + 1 < 4096
    · have q1 : (uC (zerL (i + 1))).length = (i + 1) * 1 := by rw [uC_len, zerL_len, Nat.mul_one]
      have q2 : ¬ (i + 1 + 1 ≤ i + 1) := by omega
      have q3 : (i + 1 + 1) * 4 ≤ strMax := by unfold strMax; omega
      have e1 : uC (zerL (i + 1)) ++ [V.int .u32 0] = uC (zerL (i + 1 + 1)) := by
        rw [zerL, zerL, List.replicate_succ' (n := i + 1), uC, uC, List.map_append]; rfl
      have q4 : ∀ p : Nat → Bool, V.alll p (uC (zerL (i + 1)) ++ [V.int .u32 0]) = true := fun p => by rw [e1]; exact uC_all p _
      have q5 : aloneIn 0 [Blk.cells 89 [] (uC (zerL (i + 1)))] = true := rfl
      clear hexit hret
      repeat' (first | simp (maxSteps := 10000000) (disch := omega) only [go_sem, Nat.reduceAdd, Nat.reduceSub, Nat.reduceMul, Nat.reduceLT, Nat.reduceLeDiff, Nat.reduceEqDiff, Nat.reduceBEq, Nat.reduceBNe, reduceCtorEq, Int.reduceBNe, Int.reduceBEq, au, lst, if_pos, if_neg, appendM, srcM, appendAtM, q1, q2, q3, q4, q5, e1, uC_all, hnb, St.lose, List.map_cons (f := V.drop1 _), List.map_nil, dl_any, dl_sl, dl_ms, dl_ptr, dl_int, dl_bool, dl_pc] | simp (disch := (simp only [lens]; omega)) only [str_add, if_pos, if_neg] | ((with_reducible first | refine WC_split ?_ ?_ | refine WS_split ?_ ?_ | refine WD_split ?_ ?_) <;> intro hc <;> (try simp only [hc]) <;> (try simp only [bools] at hc) <;> (try (have hb : @Eq Bool _ _ := hc; simp only [hb]; clear hb))))
      refine hnorm (i + 1 + 1) _ (by omega) (by omega) ?_
      rw [T75]
      exact head_first rfl (fun p => uC_all p _) rfl (by kernel_rfl) (by kernel_rfl) (by kernel_rfl) (by kernel_rfl)
    · have hi6 : i + 1 = 4096 := by omega
      rw [hi6]
      clear hnorm hret
      repeat' (first | simp (maxSteps := 10000000) (disch := omega) only [go_sem, Nat.reduceAdd, Nat.reduceSub, Nat.reduceMul, Nat.reduceLT, Nat.reduceLeDiff, Nat.reduceEqDiff, Nat.reduceBEq, Nat.reduceBNe, reduceCtorEq, Int.reduceBNe, Int.reduceBEq, au, lst, if_pos, if_neg] | simp (disch := (simp only [lens]; omega)) only [str_add, if_pos, if_neg] | ((with_reducible first | refine WC_split ?_ ?_ | refine WS_split ?_ ?_ | refine WD_split ?_ ?_) <;> intro hc <;> (try simp only [hc]) <;> (try simp only [bools] at hc) <;> (try (have hb : @Eq Bool _ _ := hc; simp only [hb]; clear hb))))
      refine hexit _ _ ?_
      repeat' (first | simp (maxSteps := 10000000) (disch := omega) only [go_sem, Nat.reduceAdd, Nat.reduceSub, Nat.reduceMul, Nat.reduceLT, Nat.reduceLeDiff, Nat.reduceEqDiff, Nat.reduceBEq, Nat.reduceBNe, reduceCtorEq, Int.reduceBNe, Int.reduceBEq, au, lst, if_pos, if_neg] | simp (disch := (simp only [lens]; omega)) only [str_add, if_pos, if_neg] | ((with_reducible first | refine WC_split ?_ ?_ | refine WS_split ?_ ?_ | refine WD_split ?_ ?_) <;> intro hc <;> (try simp only [hc]) <;> (try simp only [bools] at hc) <;> (try (have hb : @Eq Bool _ _ := hc; simp only [hb]; clear hb))))
      refine k_loop (T75b l) (fun i => i ≤ l.length) (fun i => l.length - i) 0 (K := cfg.kill 75 7) rfl (Nat.zero_le _) (head_first rfl (fun p => uC_all p _) rfl (by kernel_rfl) (by kernel_rfl) (by kernel_rfl) (by kernel_rfl)) ?_
      intro j hj k2 Q2 hnorm2 hexit2 hret2
      have eS : ∀ j, T75b l j = { fr := mkF 34 [(0, .sl true (l.map prow)), (3, .ms 0 0 4096 4096), (5, .int .i64 j)], own := [], hp := [.cells 89 [] (uC (leafF (l.take j) (zerL 4096)))], al := [], nb := 0 } := fun _ => rfl
      rw [eS]
      simp only [eS, mkF, List.foldl, st0, List.set]
      have hll : (leafF (l.take j) (zerL 4096)).length = 4096 := by rw [leafF_len, zerL_len]
      by_cases hlt2 : j < l.length
      · obtain ⟨k1, k2⟩ := chk_key hk j hlt2
        have c1 := call_93 (l[j].2, true)
        simp only [crow] at c1
        have hst := leafF_succ hlt2 (zerL 4096)
        have hw := uC_set (l := leafF (l.take j) (zerL 4096)) (k := l[j].1.toNat) (n := numberN (l[j].2, true)) (by omega)
        rw [← hst, ← Nat.mul_one l[j].1.toNat] at hw
        have hul := uC_len (leafF (l.take j) (zerL 4096))
        rw [hll] at hul
        generalize leafF (l.take j) (zerL 4096) = A at hw hul
        generalize numberN (l[j].2, true) = n at c1 hw
        clear hexit2 hret2
        repeat' (first | simp (maxSteps := 10000000) (disch := omega) only [go_sem, Nat.reduceAdd, Nat.reduceSub, Nat.reduceMul, Nat.reduceLT, Nat.reduceLeDiff, Nat.reduceEqDiff, Nat.reduceBEq, Nat.reduceBNe, reduceCtorEq, Int.reduceBNe, Int.reduceBEq, au, lst, if_pos, if_neg, prow, c1, hul, hw, reach_c1] | simp (disch := (simp only [lens]; omega)) only [str_add, if_pos, if_neg] | ((with_reducible first | refine WC_split ?_ ?_ | refine WS_split ?_ ?_ | refine WD_split ?_ ?_) <;> intro hc <;> (try simp only [hc]) <;> (try simp only [bools] at hc) <;> (try (have hb : @Eq Bool _ _ := hc; simp only [hb]; clear hb))))
        refine hnorm2 (j + 1) _ (by omega) (by omega) ?_
        rw [eS]
        exact head_first rfl (fun p => uC_all p _) rfl (by kernel_rfl) (by kernel_rfl) (by kernel_rfl) (by kernel_rfl)
      · have hil : l.take j = l := List.take_of_length_le (by omega)
        rw [hil] at hll ⊢
        generalize hA : leafF l (zerL 4096) = A at hll ⊢
        clear hnorm2 hret2
        repeat' (first | simp (maxSteps := 10000000) (disch := omega) only [go_sem, Nat.reduceAdd, Nat.reduceSub, Nat.reduceMul, Nat.reduceLT, Nat.reduceLeDiff, Nat.reduceEqDiff, Nat.reduceBEq, Nat.reduceBNe, reduceCtorEq, Int.reduceBNe, Int.reduceBEq, au, lst, if_pos, if_neg] | simp (disch := (simp only [lens]; omega)) only [str_add, if_pos, if_neg] | ((with_reducible first | refine WC_split ?_ ?_ | refine WS_split ?_ ?_ | refine WD_split ?_ ?_) <;> intro hc <;> (try simp only [hc]) <;> (try simp only [bools] at hc) <;> (try (have hb : @Eq Bool _ _ := hc; simp only [hb]; clear hb))))
        refine hexit2 _ _ ?_
        repeat' (first | simp (maxSteps := 10000000) (disch := omega) only [go_sem, Nat.reduceAdd, Nat.reduceSub, Nat.reduceMul, Nat.reduceLT, Nat.reduceLeDiff, Nat.reduceEqDiff, Nat.reduceBEq, Nat.reduceBNe, reduceCtorEq, Int.reduceBNe, Int.reduceBEq, au, lst, if_pos, if_neg, fz_cons] | simp (disch := (simp only [lens]; omega)) only [str_add, if_pos, if_neg] | ((with_reducible first | refine WC_split ?_ ?_ | refine WS_split ?_ ?_ | refine WD_split ?_ ?_) <;> intro hc <;> (try simp only [hc]) <;> (try simp only [bools] at hc) <;> (try (have hb : @Eq Bool _ _ := hc; simp only [hb]; clear hb))))
        rw [freeze_uC (n := 4096) rfl rfl hll rfl]
        repeat' (first | simp (maxSteps := 10000000) (disch := omega) only [go_sem, Nat.reduceAdd, Nat.reduceSub, Nat.reduceMul, Nat.reduceLT, Nat.reduceLeDiff, Nat.reduceEqDiff, Nat.reduceBEq, Nat.reduceBNe, reduceCtorEq, Int.reduceBNe, Int.reduceBEq, au, lst, if_pos, if_neg, St.lose, List.map_nil, List.map_cons (f := V.drop1 _), dl_any, dl_sl, dl_ms, dl_ptr, dl_int, dl_bool, dl_pc] | simp (disch := (simp only [lens]; omega)) only [str_add, if_pos, if_neg] | ((with_reducible first | refine WC_split ?_ ?_ | refine WS_split ?_ ?_ | refine WD_split ?_ ?_) <;> intro hc <;> (try simp only [hc]) <;> (try simp only [bools] at hc) <;> (try (have hb : @Eq Bool _ _ := hc; simp only [hb]; clear hb))))
        exact ret1 (v := .sl true (A.map urow)) (fun _ => ex_ret) rfl rfl rfl ⟨by rw [hA], rfl, rfl⟩
end Go.Proofs.Ythikboobkmfgfaa
