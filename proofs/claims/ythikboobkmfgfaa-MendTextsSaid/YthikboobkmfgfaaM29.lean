/- The bytes of what is told: the document's answer. -/
import Derived.Test.YthikboobkmfgfaaM23
import Derived.Test.YthikboobkmfgfaaM28
set_option linter.all false
set_option maxRecDepth 100000
namespace Go.Proofs.Ythikboobkmfgfaa
open Go Go.Abs

theorem byte_app (O : List UInt8) (b : UInt8) : O.map byteRow ++ [[.int .u8 (b.toNat : Int)]] = (O ++ [b]).map byteRow := by rw [List.map_append]; rfl
theorem quo_k (k d : Nat) (hd : d ∣ 16777216) : IntKind.u8.wrap (IntKind.u32.wrap (Int.tdiv (k : Int) (d : Int))) = ((k / d % 256 : Nat) : Int) := by
  have e1 : Int.tdiv (k : Int) (d : Int) = ((k / d : Nat) : Int) := by rw [Int.tdiv_eq_ediv_of_nonneg (by omega)]; norm_cast
  rw [e1]
  show ((k / d : Nat) : Int) % 4294967296 % 256 = _
  omega
def T23 (lv : Int) (L : List Int) (K : List Nat) (C : List CR) (x : Nat × List UInt8) : St := { fr := mkF 86 [(1, .ptr 0 0), (3, .str (headT lv L)), (4, .sl true (x.2.map byteRow)), (5, .int .i64 x.1)], own := [4], hp := [.cells 41 [] (toldR lv L K C)], al := [], nb := 0 }
def T23c (lv : Int) (L : List Int) (K : List Nat) (C : List CR) (x : Nat × List UInt8) : St := { fr := mkF 86 [(1, .ptr 0 0), (3, .str (headT lv L ++ kidsS K ++ x.2)), (7, .int .i64 x.1)], own := [], hp := [.cells 41 [] (toldR lv L K C)], al := [], nb := 0 }
set_option maxHeartbeats 32000000 in
theorem call_23 (lv : Int) (L : List Int) (K : List Nat) (C : List CR) (hL : L.length ≤ 100000) (hK : K.length ≤ 100000) (hC : C.length ≤ 100000) :
    (Lim cfg).call 23 [.agg (toldR lv L K C)] [] = some (.str (toldS lv L K C), false, []) := by
  have c1 := call_60 lv L K C hL hK hC
  simp only [toldR] at c1
  by_cases hok : wholeT lv L K C = true
  · rw [toldS, if_pos hok]
    rw [hok] at c1
    have c2 := call_21 lv L hL
    simp only [askR] at c2
    have la := askS_len (lv := lv) hL
    have c3 := call_61 (askS lv L) (by omega)
    have lh := headT_len (lv := lv) hL
    have lk := kidsS_len K
    have lc := cellsS_len C
    refine call_eq fn_23 rfl ?_
    rw [k_start]
    simp only [Try.f23, st0, Nat.zero_add]
    repeat' (first | simp (maxSteps := 10000000) (disch := omega) only [go_sem, Nat.reduceAdd, Nat.reduceSub, Nat.reduceMul, Nat.reduceLT, Nat.reduceLeDiff, Nat.reduceEqDiff, Nat.reduceBEq, Nat.reduceBNe, reduceCtorEq, Int.reduceBNe, Int.reduceBEq, au, lst, if_pos, if_neg, c1, c2, c3, toldR] | simp (disch := (simp only [lens]; omega)) only [str_add, if_pos, if_neg] | ((with_reducible first | refine WC_split ?_ ?_ | refine WS_split ?_ ?_ | refine WD_split ?_ ?_) <;> intro hc <;> (try simp only [hc]) <;> (try simp only [bools] at hc) <;> (try (have hb : @Eq Bool _ _ := hc; simp only [hb]; clear hb))))
    refine k_loop (T23 lv L K C) (fun x => x.1 ≤ K.length ∧ x.2 ++ kidsS (K.drop x.1) = kidsS K) (fun x => K.length - x.1) (0, []) (K := cfg.kill 23 6) rfl ⟨Nat.zero_le _, rfl⟩ (by kernel_rfl) ?_
    intro ⟨i, O⟩ ⟨hi, hO⟩ k' Q' hnorm hexit hret
    simp only at hi hO
    have lO := congrArg List.length hO
    rw [List.length_append] at lO
    simp only [T23, mkF, List.foldl, st0, List.set]
    by_cases hlt : i < K.length
    · have hst := kids_step hlt
      clear hexit hret
      have hb0 : (O.length + 1) * 1 ≤ strMax := by unfold strMax; omega
      have hb1 : (O.length + 1 + 1) * 1 ≤ strMax := by unfold strMax; omega
      have hb2 : (O.length + 1 + 1 + 1) * 1 ≤ strMax := by unfold strMax; omega
      have hb3 : (O.length + 1 + 1 + 1 + 1) * 1 ≤ strMax := by unfold strMax; omega
      have q0 : IntKind.u8.wrap (IntKind.u32.wrap (Int.tdiv (K[i] : Int) 16777216)) = ((kidB K[i] 0).toNat : Int) := by rw [kidB_nat]; exact quo_k _ 16777216 (by decide)
      have q1 : IntKind.u8.wrap (IntKind.u32.wrap (Int.tdiv (K[i] : Int) 65536)) = ((kidB K[i] 1).toNat : Int) := by rw [kidB_nat]; exact quo_k _ 65536 (by decide)
      have q2 : IntKind.u8.wrap (IntKind.u32.wrap (Int.tdiv (K[i] : Int) 256)) = ((kidB K[i] 2).toNat : Int) := by rw [kidB_nat]; exact quo_k _ 256 (by decide)
      have q3 : IntKind.u8.wrap (K[i] : Int) = ((kidB K[i] 3).toNat : Int) := by rw [kidB_nat, u8_mod]; show _ = ((K[i] / 1 % 256 : Nat) : Int); rw [Nat.div_one]
      have z1 : ¬ (16777216 : Int) = 0 := by decide
      have z2 : ¬ (65536 : Int) = 0 := by decide
      have z3 : ¬ (256 : Int) = 0 := by decide
      repeat' (first | simp (maxSteps := 10000000) (disch := omega) only [go_sem, Nat.reduceAdd, Nat.reduceSub, Nat.reduceMul, Nat.reduceLT, Nat.reduceLeDiff, Nat.reduceEqDiff, Nat.reduceBEq, Nat.reduceBNe, reduceCtorEq, Int.reduceBNe, Int.reduceBEq, au, lst, if_pos, if_neg, urow, toldR, q0, q1, q2, q3, z1, z2, z3, byte_app, hb0, hb1, hb2, hb3, fit_byte, Bool.not_or_self] | simp (disch := (simp only [lens]; omega)) only [str_add, if_pos, if_neg] | ((with_reducible first | refine WC_split ?_ ?_ | refine WS_split ?_ ?_ | refine WD_split ?_ ?_) <;> intro hc <;> (try simp only [hc]) <;> (try simp only [bools] at hc) <;> (try (have hb : @Eq Bool _ _ := hc; simp only [hb]; clear hb))))
      refine hnorm (i + 1, O ++ kidS K[i]) _ ⟨by show i + 1 ≤ _; omega, ?_⟩ (by show K.length - (i + 1) < K.length - i; omega) ?_
      · show O ++ kidS K[i] ++ kidsS (K.drop (i + 1)) = _
        rw [← hO, hst, List.append_assoc]
      · have e9 : O ++ kidS K[i] = O ++ [kidB K[i] 0] ++ [kidB K[i] 1] ++ [kidB K[i] 2] ++ [kidB K[i] 3] := by simp [kidS]
        rw [T23, e9]
        show _ = _
        kernel_rfl
    · rw [List.drop_of_length_le (by omega), kidsS, List.append_nil] at hO
      clear hnorm hret
      subst hO
      repeat' (first | simp (maxSteps := 10000000) (disch := omega) only [go_sem, Nat.reduceAdd, Nat.reduceSub, Nat.reduceMul, Nat.reduceLT, Nat.reduceLeDiff, Nat.reduceEqDiff, Nat.reduceBEq, Nat.reduceBNe, reduceCtorEq, Int.reduceBNe, Int.reduceBEq, au, lst, if_pos, if_neg, toldR] | simp (disch := (simp only [lens]; omega)) only [str_add, if_pos, if_neg] | ((with_reducible first | refine WC_split ?_ ?_ | refine WS_split ?_ ?_ | refine WD_split ?_ ?_) <;> intro hc <;> (try simp only [hc]) <;> (try simp only [bools] at hc) <;> (try (have hb : @Eq Bool _ _ := hc; simp only [hb]; clear hb))))
      refine hexit _ _ ?_
      repeat' (first | simp (maxSteps := 10000000) (disch := omega) only [go_sem, Nat.reduceAdd, Nat.reduceSub, Nat.reduceMul, Nat.reduceLT, Nat.reduceLeDiff, Nat.reduceEqDiff, Nat.reduceBEq, Nat.reduceBNe, reduceCtorEq, Int.reduceBNe, Int.reduceBEq, au, lst, if_pos, if_neg, toldR, mapM_byte, str_add] | simp (disch := (simp only [lens]; omega)) only [str_add, if_pos, if_neg] | ((with_reducible first | refine WC_split ?_ ?_ | refine WS_split ?_ ?_ | refine WD_split ?_ ?_) <;> intro hc <;> (try simp only [hc]) <;> (try simp only [bools] at hc) <;> (try (have hb : @Eq Bool _ _ := hc; simp only [hb]; clear hb))))
      refine k_loop (T23c lv L K C) (fun x => x.1 ≤ C.length ∧ x.2 ++ cellsS (C.drop x.1) = cellsS C) (fun x => C.length - x.1) (0, []) (K := cfg.kill 23 15) rfl ⟨Nat.zero_le _, rfl⟩ (by rw [T23c, List.append_nil]; kernel_rfl) ?_
      intro ⟨j, O⟩ ⟨hj, hO⟩ k2 Q2 hnorm2 hexit2 hret2
      simp only at hj hO
      have lO2 := congrArg List.length hO
      rw [List.length_append] at lO2
      simp only [T23c, mkF, List.foldl, st0, List.set]
      by_cases hlt2 : j < C.length
      · have hst := cells_step hlt2
        have hf := call_62 C[j].2
        have lf : (flagS C[j].2).length = 1 := rfl
        have lw := wholeS_len C[j].1
        have cw := call_54 C[j].1
        clear hexit2 hret2
        have lX : (headT lv L ++ kidsS K ++ O).length ≤ 3000000 := by simp only [lens]; omega
        cases hb : C[j].2 with
        | false =>
          rw [hb] at hf lf
          repeat' (first | simp (maxSteps := 10000000) (disch := omega) only [go_sem, Nat.reduceAdd, Nat.reduceSub, Nat.reduceMul, Nat.reduceLT, Nat.reduceLeDiff, Nat.reduceEqDiff, Nat.reduceBEq, Nat.reduceBNe, reduceCtorEq, Int.reduceBNe, Int.reduceBEq, au, lst, if_pos, if_neg, crow, toldR, hf, cw, hb, str_add] | simp (disch := (simp only [lens]; omega)) only [str_add, if_pos, if_neg] | ((with_reducible first | refine WC_split ?_ ?_ | refine WS_split ?_ ?_ | refine WD_split ?_ ?_) <;> intro hc <;> (try simp only [hc]) <;> (try simp only [bools] at hc) <;> (try (have hb : @Eq Bool _ _ := hc; simp only [hb]; clear hb))))
          refine hnorm2 (j + 1, O ++ flagS false) _ ⟨by show j + 1 ≤ _; omega, ?_⟩ (by show C.length - (j + 1) < C.length - j; omega) ?_
          · show O ++ flagS false ++ cellsS (C.drop (j + 1)) = _
            rw [← hO, hst, cellS, hb, List.append_assoc]; rfl
          · rw [T23c, ← List.append_assoc]
            kernel_rfl
        | true =>
          rw [hb] at hf lf
          repeat' (first | simp (maxSteps := 10000000) (disch := omega) only [go_sem, Nat.reduceAdd, Nat.reduceSub, Nat.reduceMul, Nat.reduceLT, Nat.reduceLeDiff, Nat.reduceEqDiff, Nat.reduceBEq, Nat.reduceBNe, reduceCtorEq, Int.reduceBNe, Int.reduceBEq, au, lst, if_pos, if_neg, crow, toldR, hf, cw, hb, str_add] | simp (disch := (simp only [lens]; omega)) only [str_add, if_pos, if_neg] | ((with_reducible first | refine WC_split ?_ ?_ | refine WS_split ?_ ?_ | refine WD_split ?_ ?_) <;> intro hc <;> (try simp only [hc]) <;> (try simp only [bools] at hc) <;> (try (have hb : @Eq Bool _ _ := hc; simp only [hb]; clear hb))))
          refine hnorm2 (j + 1, O ++ (flagS true ++ wholeS C[j].1)) _ ⟨by show j + 1 ≤ _; omega, ?_⟩ (by show C.length - (j + 1) < C.length - j; omega) ?_
          · show O ++ (flagS true ++ wholeS C[j].1) ++ cellsS (C.drop (j + 1)) = _
            rw [← hO, hst, cellS, hb, List.append_assoc]; rfl
          · have e9 : headT lv L ++ kidsS K ++ (j + 1, O ++ (flagS true ++ wholeS C[j].1)).2 = headT lv L ++ kidsS K ++ O ++ flagS true ++ wholeS C[j].1 := by simp only [List.append_assoc]
            rw [T23c, e9]
            show _ = _
            kernel_rfl
      · rw [List.drop_of_length_le (by omega), cellsS, List.append_nil] at hO
        clear hnorm2 hret2
        subst hO
        repeat' (first | simp (maxSteps := 10000000) (disch := omega) only [go_sem, Nat.reduceAdd, Nat.reduceSub, Nat.reduceMul, Nat.reduceLT, Nat.reduceLeDiff, Nat.reduceEqDiff, Nat.reduceBEq, Nat.reduceBNe, reduceCtorEq, Int.reduceBNe, Int.reduceBEq, au, lst, if_pos, if_neg, toldR] | simp (disch := (simp only [lens]; omega)) only [str_add, if_pos, if_neg] | ((with_reducible first | refine WC_split ?_ ?_ | refine WS_split ?_ ?_ | refine WD_split ?_ ?_) <;> intro hc <;> (try simp only [hc]) <;> (try simp only [bools] at hc) <;> (try (have hb : @Eq Bool _ _ := hc; simp only [hb]; clear hb))))
        refine hexit2 _ _ ?_
        repeat' (first | simp (maxSteps := 10000000) (disch := omega) only [go_sem, Nat.reduceAdd, Nat.reduceSub, Nat.reduceMul, Nat.reduceLT, Nat.reduceLeDiff, Nat.reduceEqDiff, Nat.reduceBEq, Nat.reduceBNe, reduceCtorEq, Int.reduceBNe, Int.reduceBEq, au, lst, if_pos, if_neg, toldR] | simp (disch := (simp only [lens]; omega)) only [str_add, if_pos, if_neg] | ((with_reducible first | refine WC_split ?_ ?_ | refine WS_split ?_ ?_ | refine WD_split ?_ ?_) <;> intro hc <;> (try simp only [hc]) <;> (try simp only [bools] at hc) <;> (try (have hb : @Eq Bool _ _ := hc; simp only [hb]; clear hb))))
        exact ret1n (fun _ => ex_ret) rfl rfl rfl ⟨rfl, rfl, rfl⟩
  · rw [toldS, if_neg hok]
    rw [Bool.not_eq_true] at hok
    rw [hok] at c1
    refine call_eq fn_23 rfl ?_
    rw [k_start]
    simp only [Try.f23, st0, Nat.zero_add]
    repeat' (first | simp (maxSteps := 10000000) (disch := omega) only [go_sem, Nat.reduceAdd, Nat.reduceSub, Nat.reduceMul, Nat.reduceLT, Nat.reduceLeDiff, Nat.reduceEqDiff, Nat.reduceBEq, Nat.reduceBNe, reduceCtorEq, Int.reduceBNe, Int.reduceBEq, au, lst, if_pos, if_neg, c1, toldR] | simp (disch := (simp only [lens]; omega)) only [str_add, if_pos, if_neg] | ((with_reducible first | refine WC_split ?_ ?_ | refine WS_split ?_ ?_ | refine WD_split ?_ ?_) <;> intro hc <;> (try simp only [hc]) <;> (try simp only [bools] at hc) <;> (try (have hb : @Eq Bool _ _ := hc; simp only [hb]; clear hb))))
    exact ret1n (fun _ => ex_ret) rfl rfl rfl ⟨rfl, rfl, rfl⟩
end Go.Proofs.Ythikboobkmfgfaa
