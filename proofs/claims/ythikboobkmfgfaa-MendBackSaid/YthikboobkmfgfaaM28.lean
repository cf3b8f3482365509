/- The bytes of what is told: the program's answer. -/
import Derived.Test.YthikboobkmfgfaaM22
import Derived.Test.YthikboobkmfgfaaM26
set_option linter.all false
set_option maxRecDepth 100000
namespace Go.Proofs.Ythikboobkmfgfaa
open Go Go.Abs

set_option maxHeartbeats 4000000 in
theorem call_58 (s : List UInt8) (b : UInt8) (hl : s.length ≤ 1000000000) : (Lim cfg).call 58 [.ptr 0 0, .int .u8 (b.toNat : Int)] [bldB true s] = some (.any, false, [bldB true (s ++ [b])]) := by
  have hb : (s.length + 1) * 1 ≤ strMax := by unfold strMax; omega
  have er : s.map byteRow ++ [[.int .u8 (b.toNat : Int)]] = (s ++ [b]).map byteRow := by rw [List.map_append]; rfl
  refine call_eq fn_58 rfl ?_
  rw [k_start]
  simp only [Try.f58, st0, Nat.zero_add]
  repeat' (first | simp (maxSteps := 10000000) (disch := omega) only [go_sem, Nat.reduceAdd, Nat.reduceSub, Nat.reduceMul, Nat.reduceLT, Nat.reduceLeDiff, Nat.reduceEqDiff, Nat.reduceBEq, Nat.reduceBNe, reduceCtorEq, Int.reduceBNe, Int.reduceBEq, au, lst, if_pos, if_neg] | simp (disch := (simp only [lens]; omega)) only [str_add, if_pos, if_neg] | ((with_reducible first | refine WC_split ?_ ?_ | refine WS_split ?_ ?_ | refine WD_split ?_ ?_) <;> intro hc <;> (try simp only [hc]) <;> (try simp only [bools] at hc) <;> (try (have hb : @Eq Bool _ _ := hc; simp only [hb]; clear hb))))
  rw [callHeap_at (R := [0]) (call_81 true s)]
  simp only [bldB, if_true]
  repeat' (first | simp (maxSteps := 10000000) (disch := omega) only [go_sem, Nat.reduceAdd, Nat.reduceSub, Nat.reduceMul, Nat.reduceLT, Nat.reduceLeDiff, Nat.reduceEqDiff, Nat.reduceBEq, Nat.reduceBNe, reduceCtorEq, Int.reduceBNe, Int.reduceBEq, au, lst, if_pos, if_neg, hb, er, fit_byte, Bool.not_or_self] | simp (disch := (simp only [lens]; omega)) only [str_add, if_pos, if_neg] | ((with_reducible first | refine WC_split ?_ ?_ | refine WS_split ?_ ?_ | refine WD_split ?_ ?_) <;> intro hc <;> (try simp only [hc]) <;> (try simp only [bools] at hc) <;> (try (have hb : @Eq Bool _ _ := hc; simp only [hb]; clear hb))))
  refine ⟨fun _ => ex_ret, .any, false, rfl, rfl, rfl, ?_⟩
  kernel_rfl
theorem shr_k (k : Nat) {j : Nat} (h : j < 4) : shiftOp .shr .u32 (k : Int) (8 * (3 - (j : Int))) = some (.int .u32 ((k / 2 ^ (8 * (3 - j)) : Nat) : Int)) := by
  have e : min (8 * (3 - (j : Int))).toNat IntKind.u32.bits = 8 * (3 - j) := by
    rw [show (8 * (3 - (j : Int))).toNat = 8 * (3 - j) by omega]
    exact Nat.min_eq_left (by show 8 * (3 - j) ≤ 32; omega)
  simp only [shiftOp, e]
  rw [if_neg (by omega), Int.fdiv_eq_ediv_of_nonneg _ (by exact_mod_cast Nat.zero_le _)]
  norm_cast
theorem u8_mod (n : Nat) : IntKind.u8.wrap (n : Int) = ((n % 256 : Nat) : Int) := by
  show (n : Int) % 256 = _
  norm_cast
def T22 (lv : Int) (L : List Int) (K : List Nat) (C : List CR) (x : Nat × List UInt8) : St := { fr := mkF 55 [(1, .ptr 0 0), (3, .ptr 1 0), (18, .sl true (K.map urow)), (19, .int .i64 K.length), (20, .int .i64 x.1)], own := [], hp := [.cells 30 [] (toldR lv L K C), bldAt 1 (headT lv L ++ x.2)], al := [], nb := 0 }
def T22k (lv : Int) (L : List Int) (K : List Nat) (C : List CR) (i k : Nat) (O : List UInt8) (j : Nat) : St := { fr := mkF 55 [(1, .ptr 0 0), (3, .ptr 1 0), (5, .int .u32 k), (18, .sl true (K.map urow)), (19, .int .i64 K.length), (20, .int .i64 i), (24, .int .i64 j)], own := [], hp := [.cells 30 [] (toldR lv L K C), bldAt 1 (headT lv L ++ O ++ (kidS k).take j)], al := [], nb := 0 }
def T22c (lv : Int) (L : List Int) (K : List Nat) (C : List CR) (x : Nat × List UInt8) : St := { fr := mkF 55 [(3, .ptr 1 0), (37, .sl true (C.map crow)), (38, .int .i64 C.length), (39, .int .i64 x.1)], own := [], hp := [.cells 30 [] (toldR lv L K C), bldAt 1 (headT lv L ++ kidsS K ++ x.2)], al := [], nb := 0 }
set_option maxHeartbeats 32000000 in
theorem call_22 (lv : Int) (L : List Int) (K : List Nat) (C : List CR) (hL : L.length ≤ 100000) (hK : K.length ≤ 100000) (hC : C.length ≤ 100000) :
    (Lim cfg).call 22 [.agg (toldR lv L K C)] [] = some (.str (toldS lv L K C), false, []) := by
  have c1 := call_56 lv L K C hL hK hC
  simp only [toldR] at c1
  by_cases hok : wholeT lv L K C = true
  · rw [toldS, if_pos hok]
    rw [hok] at c1
    have c2 := call_20 lv L hL
    simp only [askR] at c2
    have la := askS_len (lv := lv) hL
    have c3 := call_57 (askS lv L) (by omega)
    have lh := headT_len (lv := lv) hL
    have hbl := call_50 false [] (headT lv L) (by simp only [List.length_nil]; omega)
    have lk := kidsS_len K
    have lc := cellsS_len C
    refine call_eq fn_22 rfl ?_
    rw [k_start]
    simp only [Try.f22, st0, Nat.zero_add]
    repeat' (first | simp (maxSteps := 10000000) (disch := omega) only [go_sem, Nat.reduceAdd, Nat.reduceSub, Nat.reduceMul, Nat.reduceLT, Nat.reduceLeDiff, Nat.reduceEqDiff, Nat.reduceBEq, Nat.reduceBNe, reduceCtorEq, Int.reduceBNe, Int.reduceBEq, au, lst, if_pos, if_neg, c1, c2, c3, toldR] | simp (disch := (simp only [lens]; omega)) only [str_add, if_pos, if_neg] | ((with_reducible first | refine WC_split ?_ ?_ | refine WS_split ?_ ?_ | refine WD_split ?_ ?_) <;> intro hc <;> (try simp only [hc]) <;> (try simp only [bools] at hc) <;> (try (have hb : @Eq Bool _ _ := hc; simp only [hb]; clear hb))))
    simp only [headT] at hbl
    rw [callHeap_at (R := [1]) hbl]
    repeat' (first | simp (maxSteps := 10000000) (disch := omega) only [go_sem, Nat.reduceAdd, Nat.reduceSub, Nat.reduceMul, Nat.reduceLT, Nat.reduceLeDiff, Nat.reduceEqDiff, Nat.reduceBEq, Nat.reduceBNe, reduceCtorEq, Int.reduceBNe, Int.reduceBEq, au, lst, if_pos, if_neg, bldB] | simp (disch := (simp only [lens]; omega)) only [str_add, if_pos, if_neg] | ((with_reducible first | refine WC_split ?_ ?_ | refine WS_split ?_ ?_ | refine WD_split ?_ ?_) <;> intro hc <;> (try simp only [hc]) <;> (try simp only [bools] at hc) <;> (try (have hb : @Eq Bool _ _ := hc; simp only [hb]; clear hb))))
    refine k_loop (T22 lv L K C) (fun x => x.1 ≤ K.length ∧ x.2 ++ kidsS (K.drop x.1) = kidsS K) (fun x => K.length - x.1) (0, []) (K := cfg.kill 22 6) rfl ⟨Nat.zero_le _, rfl⟩ (by rw [T22, List.append_nil]; kernel_rfl) ?_
    intro ⟨i, O⟩ ⟨hi, hO⟩ k' Q' hnorm hexit hret
    simp only at hi hO
    have lO := congrArg List.length hO
    rw [List.length_append] at lO
    simp only [T22, mkF, List.foldl, st0, List.set]
    by_cases hlt : i < K.length
    · have hst := kids_step hlt
      simp only [bldAt]
      clear hexit hret
      repeat' (first | simp (maxSteps := 10000000) (disch := omega) only [go_sem, Nat.reduceAdd, Nat.reduceSub, Nat.reduceMul, Nat.reduceLT, Nat.reduceLeDiff, Nat.reduceEqDiff, Nat.reduceBEq, Nat.reduceBNe, reduceCtorEq, Int.reduceBNe, Int.reduceBEq, au, lst, if_pos, if_neg, urow] | simp (disch := (simp only [lens]; omega)) only [str_add, if_pos, if_neg] | ((with_reducible first | refine WC_split ?_ ?_ | refine WS_split ?_ ?_ | refine WD_split ?_ ?_) <;> intro hc <;> (try simp only [hc]) <;> (try simp only [bools] at hc) <;> (try (have hb : @Eq Bool _ _ := hc; simp only [hb]; clear hb))))
      generalize K[i] = kk at hst ⊢
      have l4 : (kidS kk).length = 4 := rfl
      refine k_loop (T22k lv L K C i kk O) (fun j => j ≤ 4) (fun j => 4 - j) 0 (K := cfg.kill 22 9) rfl (Nat.zero_le _) (by rw [T22k, List.take_zero, List.append_nil]; kernel_rfl) ?_
      intro j hj k2 Q2 hnorm2 hexit2 hret2
      simp only [T22k, mkF, List.foldl, st0, List.set]
      by_cases hj4 : j < 4
      · have hw := call_58 (headT lv L ++ O ++ (kidS kk).take j) (kidB kk j) (by simp only [List.length_append, List.length_take]; omega)
        have hs := shr_k kk hj4
        have hu := u8_mod (kk / 2 ^ (8 * (3 - j)))
        rw [← kidB_nat kk j] at hu
        simp only [bldAt]
        repeat' (first | simp (maxSteps := 10000000) (disch := omega) only [go_sem, Nat.reduceAdd, Nat.reduceSub, Nat.reduceMul, Nat.reduceLT, Nat.reduceLeDiff, Nat.reduceEqDiff, Nat.reduceBEq, Nat.reduceBNe, reduceCtorEq, Int.reduceBNe, Int.reduceBEq, au, lst, if_pos, if_neg, hs, hu] | simp (disch := (simp only [lens]; omega)) only [str_add, if_pos, if_neg] | ((with_reducible first | refine WC_split ?_ ?_ | refine WS_split ?_ ?_ | refine WD_split ?_ ?_) <;> intro hc <;> (try simp only [hc]) <;> (try simp only [bools] at hc) <;> (try (have hb : @Eq Bool _ _ := hc; simp only [hb]; clear hb))))
        rw [callHeap_at (R := [1]) hw]
        repeat' (first | simp (maxSteps := 10000000) (disch := omega) only [go_sem, Nat.reduceAdd, Nat.reduceSub, Nat.reduceMul, Nat.reduceLT, Nat.reduceLeDiff, Nat.reduceEqDiff, Nat.reduceBEq, Nat.reduceBNe, reduceCtorEq, Int.reduceBNe, Int.reduceBEq, au, lst, if_pos, if_neg, bldB] | simp (disch := (simp only [lens]; omega)) only [str_add, if_pos, if_neg] | ((with_reducible first | refine WC_split ?_ ?_ | refine WS_split ?_ ?_ | refine WD_split ?_ ?_) <;> intro hc <;> (try simp only [hc]) <;> (try simp only [bools] at hc) <;> (try (have hb : @Eq Bool _ _ := hc; simp only [hb]; clear hb))))
        refine hnorm2 (j + 1) _ (by omega) (by omega) ?_
        rw [T22k, kid_take kk hj4, ← List.append_assoc]
        kernel_rfl
      · have e4 : (kidS kk).take j = kidS kk := List.take_of_length_le (by omega)
        rw [e4]
        repeat' (first | simp (maxSteps := 10000000) (disch := omega) only [go_sem, Nat.reduceAdd, Nat.reduceSub, Nat.reduceMul, Nat.reduceLT, Nat.reduceLeDiff, Nat.reduceEqDiff, Nat.reduceBEq, Nat.reduceBNe, reduceCtorEq, Int.reduceBNe, Int.reduceBEq, au, lst, if_pos, if_neg] | simp (disch := (simp only [lens]; omega)) only [str_add, if_pos, if_neg] | ((with_reducible first | refine WC_split ?_ ?_ | refine WS_split ?_ ?_ | refine WD_split ?_ ?_) <;> intro hc <;> (try simp only [hc]) <;> (try simp only [bools] at hc) <;> (try (have hb : @Eq Bool _ _ := hc; simp only [hb]; clear hb))))
        refine hexit2 _ _ ?_
        repeat' (first | simp (maxSteps := 10000000) (disch := omega) only [go_sem, Nat.reduceAdd, Nat.reduceSub, Nat.reduceMul, Nat.reduceLT, Nat.reduceLeDiff, Nat.reduceEqDiff, Nat.reduceBEq, Nat.reduceBNe, reduceCtorEq, Int.reduceBNe, Int.reduceBEq, au, lst, if_pos, if_neg] | simp (disch := (simp only [lens]; omega)) only [str_add, if_pos, if_neg] | ((with_reducible first | refine WC_split ?_ ?_ | refine WS_split ?_ ?_ | refine WD_split ?_ ?_) <;> intro hc <;> (try simp only [hc]) <;> (try simp only [bools] at hc) <;> (try (have hb : @Eq Bool _ _ := hc; simp only [hb]; clear hb))))
        refine hnorm (i + 1, O ++ kidS kk) _ ⟨by show i + 1 ≤ _; omega, ?_⟩ (by show K.length - (i + 1) < K.length - i; omega) ?_
        · show O ++ kidS kk ++ kidsS (K.drop (i + 1)) = _
          rw [← hO, hst, List.append_assoc]
        · rw [T22, ← List.append_assoc]
          kernel_rfl
    · simp only [bldAt]
      rw [List.drop_of_length_le (by omega), kidsS, List.append_nil] at hO
      clear hnorm hret
      subst hO
      repeat' (first | simp (maxSteps := 10000000) (disch := omega) only [go_sem, Nat.reduceAdd, Nat.reduceSub, Nat.reduceMul, Nat.reduceLT, Nat.reduceLeDiff, Nat.reduceEqDiff, Nat.reduceBEq, Nat.reduceBNe, reduceCtorEq, Int.reduceBNe, Int.reduceBEq, au, lst, if_pos, if_neg, toldR] | simp (disch := (simp only [lens]; omega)) only [str_add, if_pos, if_neg] | ((with_reducible first | refine WC_split ?_ ?_ | refine WS_split ?_ ?_ | refine WD_split ?_ ?_) <;> intro hc <;> (try simp only [hc]) <;> (try simp only [bools] at hc) <;> (try (have hb : @Eq Bool _ _ := hc; simp only [hb]; clear hb))))
      refine hexit _ _ ?_
      repeat' (first | simp (maxSteps := 10000000) (disch := omega) only [go_sem, Nat.reduceAdd, Nat.reduceSub, Nat.reduceMul, Nat.reduceLT, Nat.reduceLeDiff, Nat.reduceEqDiff, Nat.reduceBEq, Nat.reduceBNe, reduceCtorEq, Int.reduceBNe, Int.reduceBEq, au, lst, if_pos, if_neg, toldR] | simp (disch := (simp only [lens]; omega)) only [str_add, if_pos, if_neg] | ((with_reducible first | refine WC_split ?_ ?_ | refine WS_split ?_ ?_ | refine WD_split ?_ ?_) <;> intro hc <;> (try simp only [hc]) <;> (try simp only [bools] at hc) <;> (try (have hb : @Eq Bool _ _ := hc; simp only [hb]; clear hb))))
      refine k_loop (T22c lv L K C) (fun x => x.1 ≤ C.length ∧ x.2 ++ cellsS (C.drop x.1) = cellsS C) (fun x => C.length - x.1) (0, []) (K := cfg.kill 22 15) rfl ⟨Nat.zero_le _, rfl⟩ (by rw [T22c, List.append_nil]; kernel_rfl) ?_
      intro ⟨j, O⟩ ⟨hj, hO⟩ k2 Q2 hnorm2 hexit2 hret2
      simp only at hj hO
      have lO2 := congrArg List.length hO
      rw [List.length_append] at lO2
      simp only [T22c, mkF, List.foldl, st0, List.set]
      by_cases hlt2 : j < C.length
      · have hst := cells_step hlt2
        have hw := call_50 true (headT lv L ++ kidsS K ++ O) (flagS C[j].2) (by simp only [List.length_append]; show _ + 1 ≤ _; omega)
        have hf := call_59 C[j].2
        simp only [bldAt]
        repeat' (first | simp (maxSteps := 10000000) (disch := omega) only [go_sem, Nat.reduceAdd, Nat.reduceSub, Nat.reduceMul, Nat.reduceLT, Nat.reduceLeDiff, Nat.reduceEqDiff, Nat.reduceBEq, Nat.reduceBNe, reduceCtorEq, Int.reduceBNe, Int.reduceBEq, au, lst, if_pos, if_neg, crow, hf] | simp (disch := (simp only [lens]; omega)) only [str_add, if_pos, if_neg] | ((with_reducible first | refine WC_split ?_ ?_ | refine WS_split ?_ ?_ | refine WD_split ?_ ?_) <;> intro hc <;> (try simp only [hc]) <;> (try simp only [bools] at hc) <;> (try (have hb : @Eq Bool _ _ := hc; simp only [hb]; clear hb))))
        generalize C[j] = c at hst hw ⊢
        rw [callHeap_at (R := [1]) hw]
        obtain ⟨v, b⟩ := c
        have lw := wholeS_len v
        cases b with
        | false =>
          repeat' (first | simp (maxSteps := 10000000) (disch := omega) only [go_sem, Nat.reduceAdd, Nat.reduceSub, Nat.reduceMul, Nat.reduceLT, Nat.reduceLeDiff, Nat.reduceEqDiff, Nat.reduceBEq, Nat.reduceBNe, reduceCtorEq, Int.reduceBNe, Int.reduceBEq, au, lst, if_pos, if_neg, bldB] | simp (disch := (simp only [lens]; omega)) only [str_add, if_pos, if_neg] | ((with_reducible first | refine WC_split ?_ ?_ | refine WS_split ?_ ?_ | refine WD_split ?_ ?_) <;> intro hc <;> (try simp only [hc]) <;> (try simp only [bools] at hc) <;> (try (have hb : @Eq Bool _ _ := hc; simp only [hb]; clear hb))))
          refine hnorm2 (j + 1, O ++ flagS false) _ ⟨by show j + 1 ≤ _; omega, ?_⟩ (by show C.length - (j + 1) < C.length - j; omega) ?_
          · show O ++ flagS false ++ cellsS (C.drop (j + 1)) = _
            rw [← hO, hst, List.append_assoc]; rfl
          · rw [T22c, ← List.append_assoc]
            kernel_rfl
        | true =>
          have cw := call_51 v
          have hw2 := call_50 true (headT lv L ++ kidsS K ++ O ++ flagS true) (wholeS v) (by simp only [List.length_append]; show _ + 1 + _ ≤ _; omega)
          repeat' (first | simp (maxSteps := 10000000) (disch := omega) only [go_sem, Nat.reduceAdd, Nat.reduceSub, Nat.reduceMul, Nat.reduceLT, Nat.reduceLeDiff, Nat.reduceEqDiff, Nat.reduceBEq, Nat.reduceBNe, reduceCtorEq, Int.reduceBNe, Int.reduceBEq, au, lst, if_pos, if_neg, bldB, cw] | simp (disch := (simp only [lens]; omega)) only [str_add, if_pos, if_neg] | ((with_reducible first | refine WC_split ?_ ?_ | refine WS_split ?_ ?_ | refine WD_split ?_ ?_) <;> intro hc <;> (try simp only [hc]) <;> (try simp only [bools] at hc) <;> (try (have hb : @Eq Bool _ _ := hc; simp only [hb]; clear hb))))
          rw [callHeap_at (R := [1]) hw2]
          repeat' (first | simp (maxSteps := 10000000) (disch := omega) only [go_sem, Nat.reduceAdd, Nat.reduceSub, Nat.reduceMul, Nat.reduceLT, Nat.reduceLeDiff, Nat.reduceEqDiff, Nat.reduceBEq, Nat.reduceBNe, reduceCtorEq, Int.reduceBNe, Int.reduceBEq, au, lst, if_pos, if_neg, bldB] | simp (disch := (simp only [lens]; omega)) only [str_add, if_pos, if_neg] | ((with_reducible first | refine WC_split ?_ ?_ | refine WS_split ?_ ?_ | refine WD_split ?_ ?_) <;> intro hc <;> (try simp only [hc]) <;> (try simp only [bools] at hc) <;> (try (have hb : @Eq Bool _ _ := hc; simp only [hb]; clear hb))))
          refine hnorm2 (j + 1, O ++ (flagS true ++ wholeS v)) _ ⟨by show j + 1 ≤ _; omega, ?_⟩ (by show C.length - (j + 1) < C.length - j; omega) ?_
          · show O ++ (flagS true ++ wholeS v) ++ cellsS (C.drop (j + 1)) = _
            rw [← hO, hst, List.append_assoc]; rfl
          · have e9 : headT lv L ++ kidsS K ++ (j + 1, O ++ (flagS true ++ wholeS v)).2 = headT lv L ++ kidsS K ++ O ++ flagS true ++ wholeS v := by simp only [List.append_assoc]
            rw [T22c, e9]
            show _ = _
            kernel_rfl
      · simp only [bldAt]
        rw [List.drop_of_length_le (by omega), cellsS, List.append_nil] at hO
        clear hnorm2 hret2
        subst hO
        repeat' (first | simp (maxSteps := 10000000) (disch := omega) only [go_sem, Nat.reduceAdd, Nat.reduceSub, Nat.reduceMul, Nat.reduceLT, Nat.reduceLeDiff, Nat.reduceEqDiff, Nat.reduceBEq, Nat.reduceBNe, reduceCtorEq, Int.reduceBNe, Int.reduceBEq, au, lst, if_pos, if_neg] | simp (disch := (simp only [lens]; omega)) only [str_add, if_pos, if_neg] | ((with_reducible first | refine WC_split ?_ ?_ | refine WS_split ?_ ?_ | refine WD_split ?_ ?_) <;> intro hc <;> (try simp only [hc]) <;> (try simp only [bools] at hc) <;> (try (have hb : @Eq Bool _ _ := hc; simp only [hb]; clear hb))))
        refine hexit2 _ _ ?_
        repeat' (first | simp (maxSteps := 10000000) (disch := omega) only [go_sem, Nat.reduceAdd, Nat.reduceSub, Nat.reduceMul, Nat.reduceLT, Nat.reduceLeDiff, Nat.reduceEqDiff, Nat.reduceBEq, Nat.reduceBNe, reduceCtorEq, Int.reduceBNe, Int.reduceBEq, au, lst, if_pos, if_neg] | simp (disch := (simp only [lens]; omega)) only [str_add, if_pos, if_neg] | ((with_reducible first | refine WC_split ?_ ?_ | refine WS_split ?_ ?_ | refine WD_split ?_ ?_) <;> intro hc <;> (try simp only [hc]) <;> (try simp only [bools] at hc) <;> (try (have hb : @Eq Bool _ _ := hc; simp only [hb]; clear hb))))
        rw [callHeap_at (R := [1]) (str_of (headT lv L ++ kidsS K ++ cellsS C) (by intro h; have := congrArg List.length h; simp only [List.length_append, List.length_nil] at this; omega) (by simp only [List.length_append]; omega))]
        repeat' (first | simp (maxSteps := 10000000) (disch := omega) only [go_sem, Nat.reduceAdd, Nat.reduceSub, Nat.reduceMul, Nat.reduceLT, Nat.reduceLeDiff, Nat.reduceEqDiff, Nat.reduceBEq, Nat.reduceBNe, reduceCtorEq, Int.reduceBNe, Int.reduceBEq, au, lst, if_pos, if_neg, bldB] | simp (disch := (simp only [lens]; omega)) only [str_add, if_pos, if_neg] | ((with_reducible first | refine WC_split ?_ ?_ | refine WS_split ?_ ?_ | refine WD_split ?_ ?_) <;> intro hc <;> (try simp only [hc]) <;> (try simp only [bools] at hc) <;> (try (have hb : @Eq Bool _ _ := hc; simp only [hb]; clear hb))))
        exact ret1n (fun _ => ex_ret) rfl rfl rfl ⟨rfl, rfl, rfl⟩
  · rw [toldS, if_neg hok]
    rw [Bool.not_eq_true] at hok
    rw [hok] at c1
    refine call_eq fn_22 rfl ?_
    rw [k_start]
    simp only [Try.f22, st0, Nat.zero_add]
    repeat' (first | simp (maxSteps := 10000000) (disch := omega) only [go_sem, Nat.reduceAdd, Nat.reduceSub, Nat.reduceMul, Nat.reduceLT, Nat.reduceLeDiff, Nat.reduceEqDiff, Nat.reduceBEq, Nat.reduceBNe, reduceCtorEq, Int.reduceBNe, Int.reduceBEq, au, lst, if_pos, if_neg, c1, toldR] | simp (disch := (simp only [lens]; omega)) only [str_add, if_pos, if_neg] | ((with_reducible first | refine WC_split ?_ ?_ | refine WS_split ?_ ?_ | refine WD_split ?_ ?_) <;> intro hc <;> (try simp only [hc]) <;> (try simp only [bools] at hc) <;> (try (have hb : @Eq Bool _ _ := hc; simp only [hb]; clear hb))))
    exact ret1n (fun _ => ex_ret) rfl rfl rfl ⟨rfl, rfl, rfl⟩
end Go.Proofs.Ythikboobkmfgfaa
