/- The numbers of leaves and nodes: the document's answers. -/
import Derived.Test.YthikboobkmfgfaaM40
import Derived.Test.YthikboobkmfgfaaM9
set_option linter.all false
set_option maxRecDepth 100000
namespace Go.Proofs.Ythikboobkmfgfaa
open Go Go.Abs

theorem byte_snoc (O : List UInt8) (n : Nat) : O.map byteRow ++ [[.int .u8 ((n % 256 : Nat) : Int)]] = (O ++ [UInt8.ofNat n]).map byteRow := by
  rw [List.map_append, List.map_cons, List.map_nil, row_of]
theorem quo_u32 (k d : Nat) (hd : d ∣ 16777216) : IntKind.u8.wrap (IntKind.u32.wrap (Int.tdiv (k : Int) (d : Int))) = ((k / d % 256 : Nat) : Int) := by
  have e1 : Int.tdiv (k : Int) (d : Int) = ((k / d : Nat) : Int) := by rw [Int.tdiv_eq_ediv_of_nonneg (by omega)]; norm_cast
  rw [e1]
  show ((k / d : Nat) : Int) % 4294967296 % 256 = _
  omega
def S94 (K : List Nat) (x : Nat × List UInt8) : St := { fr := mkF 49 [(0, .sl true (K.map urow)), (3, .sl true (x.2.map byteRow)), (4, .int .i64 x.1)], own := [3], hp := [], al := [], nb := 0 }
set_option maxHeartbeats 8000000 in
theorem call_94 (K : List Nat) (hlen : K.length ≤ 100000) : (Lim cfg).call 94 [.sl true (K.map urow)] [] = some (.int .u32 (overN K : Nat), false, []) := by
  refine call_eq fn_94 rfl ?_
  rw [k_start]
  simp only [Try.f94, st0, Nat.zero_add]
  repeat' (first | simp (maxSteps := 10000000) (disch := omega) only [go_sem, Nat.reduceAdd, Nat.reduceSub, Nat.reduceMul, Nat.reduceLT, Nat.reduceLeDiff, Nat.reduceEqDiff, Nat.reduceBEq, Nat.reduceBNe, reduceCtorEq, Int.reduceBNe, Int.reduceBEq, au, lst, if_pos, if_neg] | simp (disch := (simp only [lens]; omega)) only [str_add, if_pos, if_neg] | ((with_reducible first | refine WC_split ?_ ?_ | refine WS_split ?_ ?_ | refine WD_split ?_ ?_) <;> intro hc <;> (try simp only [hc]) <;> (try simp only [bools] at hc) <;> (try (have hb : @Eq Bool _ _ := hc; simp only [hb]; clear hb))))
  refine k_loop (S94 K) (fun x => x.1 ≤ K.length ∧ x.2 = (K.take x.1).flatMap be4) (fun x => K.length - x.1) (0, []) (K := cfg.kill 94 3) rfl ⟨Nat.zero_le _, rfl⟩ (by kernel_rfl) ?_
  rintro ⟨i, O⟩ ⟨hi, hO⟩ k' Q' hnorm hexit hret
  simp only at hi hO
  have hOl : O.length = 4 * i := by rw [hO, be4_len, List.length_take]; omega
  simp only [S94, mkF, List.foldl, st0, List.set]
  by_cases hlt : i < K.length
  · have hb0 : (O.length + 1) * 1 ≤ strMax := by unfold strMax; omega
    have hb1 : (O.length + 1 + 1) * 1 ≤ strMax := by unfold strMax; omega
    have hb2 : (O.length + 1 + 1 + 1) * 1 ≤ strMax := by unfold strMax; omega
    have hb3 : (O.length + 1 + 1 + 1 + 1) * 1 ≤ strMax := by unfold strMax; omega
    have q0 : IntKind.u8.wrap (IntKind.u32.wrap (Int.tdiv (K[i] : Int) 16777216)) = ((K[i] / 16777216 % 256 : Nat) : Int) := quo_u32 _ 16777216 (by decide)
    have q1 : IntKind.u8.wrap (IntKind.u32.wrap (Int.tdiv (K[i] : Int) 65536)) = ((K[i] / 65536 % 256 : Nat) : Int) := quo_u32 _ 65536 (by decide)
    have q2 : IntKind.u8.wrap (IntKind.u32.wrap (Int.tdiv (K[i] : Int) 256)) = ((K[i] / 256 % 256 : Nat) : Int) := quo_u32 _ 256 (by decide)
    have z1 : ¬ (16777216 : Int) = 0 := by decide
    have z2 : ¬ (65536 : Int) = 0 := by decide
    have z3 : ¬ (256 : Int) = 0 := by decide
    clear hexit hret
    have e9 : O ++ be4 K[i] = O ++ [UInt8.ofNat (K[i] / 16777216)] ++ [UInt8.ofNat (K[i] / 65536)] ++ [UInt8.ofNat (K[i] / 256)] ++ [UInt8.ofNat K[i]] := by simp [be4]
    repeat' (first | simp (maxSteps := 10000000) (disch := omega) only [go_sem, Nat.reduceAdd, Nat.reduceSub, Nat.reduceMul, Nat.reduceLT, Nat.reduceLeDiff, Nat.reduceEqDiff, Nat.reduceBEq, Nat.reduceBNe, reduceCtorEq, Int.reduceBNe, Int.reduceBEq, au, lst, if_pos, if_neg, urow, q0, q1, q2, wrap8, z1, z2, z3, byte_snoc, hb0, hb1, hb2, hb3, fit_byte, Bool.not_or_self] | simp (disch := (simp only [lens]; omega)) only [str_add, if_pos, if_neg] | ((with_reducible first | refine WC_split ?_ ?_ | refine WS_split ?_ ?_ | refine WD_split ?_ ?_) <;> intro hc <;> (try simp only [hc]) <;> (try simp only [bools] at hc) <;> (try (have hb : @Eq Bool _ _ := hc; simp only [hb]; clear hb))))
    refine hnorm (i + 1, O ++ be4 K[i]) _ ⟨by show i + 1 ≤ _; omega, by show O ++ be4 K[i] = _; rw [be4_step hlt, hO]⟩ (by show K.length - (i + 1) < K.length - i; omega) ?_
    rw [S94, e9]
    show _ = _
    kernel_rfl
  · have c1 := call_99 O (by omega)
    clear hnorm hret
    repeat' (first | simp (maxSteps := 10000000) (disch := omega) only [go_sem, Nat.reduceAdd, Nat.reduceSub, Nat.reduceMul, Nat.reduceLT, Nat.reduceLeDiff, Nat.reduceEqDiff, Nat.reduceBEq, Nat.reduceBNe, reduceCtorEq, Int.reduceBNe, Int.reduceBEq, au, lst, if_pos, if_neg] | simp (disch := (simp only [lens]; omega)) only [str_add, if_pos, if_neg] | ((with_reducible first | refine WC_split ?_ ?_ | refine WS_split ?_ ?_ | refine WD_split ?_ ?_) <;> intro hc <;> (try simp only [hc]) <;> (try simp only [bools] at hc) <;> (try (have hb : @Eq Bool _ _ := hc; simp only [hb]; clear hb))))
    refine hexit _ _ ?_
    repeat' (first | simp (maxSteps := 10000000) (disch := omega) only [go_sem, Nat.reduceAdd, Nat.reduceSub, Nat.reduceMul, Nat.reduceLT, Nat.reduceLeDiff, Nat.reduceEqDiff, Nat.reduceBEq, Nat.reduceBNe, reduceCtorEq, Int.reduceBNe, Int.reduceBEq, au, lst, if_pos, if_neg, mapM_byte, c1] | simp (disch := (simp only [lens]; omega)) only [str_add, if_pos, if_neg] | ((with_reducible first | refine WC_split ?_ ?_ | refine WS_split ?_ ?_ | refine WD_split ?_ ?_) <;> intro hc <;> (try simp only [hc]) <;> (try simp only [bools] at hc) <;> (try (have hb : @Eq Bool _ _ := hc; simp only [hb]; clear hb))))
    refine ret1n (fun _ => ex_ret) rfl rfl rfl ⟨?_, rfl, rfl⟩
    rw [hO, List.take_of_length_le (by omega)]
    rfl
def S93 (v : Int) (x : Nat × List UInt8) : St := { fr := mkF 29 [(3, .int .u64 (valU v : Nat)), (4, .sl true (x.2.map byteRow)), (5, .int .i64 (7 - (x.1 : Int)))], own := [4], hp := [], al := [], nb := 0 }
set_option maxHeartbeats 4000000 in
theorem call_93 (c : CR) : (Lim cfg).call 93 [.agg (crow c)] [] = some (.int .u32 (numberN c : Nat), false, []) := by
  obtain ⟨v, s⟩ := c
  cases s with
  | false =>
    refine call_eq fn_93 rfl ?_
    rw [k_start]
    simp only [Try.f93, st0, Nat.zero_add]
    repeat' (first | simp (maxSteps := 10000000) (disch := omega) only [go_sem, Nat.reduceAdd, Nat.reduceSub, Nat.reduceMul, Nat.reduceLT, Nat.reduceLeDiff, Nat.reduceEqDiff, Nat.reduceBEq, Nat.reduceBNe, reduceCtorEq, Int.reduceBNe, Int.reduceBEq, au, lst, if_pos, if_neg, crow] | simp (disch := (simp only [lens]; omega)) only [str_add, if_pos, if_neg] | ((with_reducible first | refine WC_split ?_ ?_ | refine WS_split ?_ ?_ | refine WD_split ?_ ?_) <;> intro hc <;> (try simp only [hc]) <;> (try simp only [bools] at hc) <;> (try (have hb : @Eq Bool _ _ := hc; simp only [hb]; clear hb))))
    exact ret1n (fun _ => ex_ret) rfl rfl rfl ⟨rfl, rfl, rfl⟩
  | true =>
    have e1 : [V.int .u8 1] = byteRow 1 := rfl
    refine call_eq fn_93 rfl ?_
    rw [k_start]
    simp only [Try.f93, st0, Nat.zero_add]
    repeat' (first | simp (maxSteps := 10000000) (disch := omega) only [go_sem, Nat.reduceAdd, Nat.reduceSub, Nat.reduceMul, Nat.reduceLT, Nat.reduceLeDiff, Nat.reduceEqDiff, Nat.reduceBEq, Nat.reduceBNe, reduceCtorEq, Int.reduceBNe, Int.reduceBEq, au, lst, if_pos, if_neg, crow, wrap_u64] | simp (disch := (simp only [lens]; omega)) only [str_add, if_pos, if_neg] | ((with_reducible first | refine WC_split ?_ ?_ | refine WS_split ?_ ?_ | refine WD_split ?_ ?_) <;> intro hc <;> (try simp only [hc]) <;> (try simp only [bools] at hc) <;> (try (have hb : @Eq Bool _ _ := hc; simp only [hb]; clear hb))))
    refine k_loop (S93 v) (fun x => x.1 ≤ 8 ∧ x.2 = 1 :: (List.range x.1).map fun i => UInt8.ofNat (valU v / 2 ^ (8 * (7 - i)))) (fun x => 8 - x.1) (0, [1]) (K := cfg.kill 93 6) rfl ⟨Nat.zero_le _, rfl⟩ (by kernel_rfl) ?_
    rintro ⟨i, O⟩ ⟨hi, hO⟩ k' Q' hnorm hexit hret
    simp only at hi hO
    have hOl : O.length = i + 1 := by rw [hO]; simp
    simp only [S93, mkF, List.foldl, st0, List.set]
    by_cases hlt : i < 8
    · have hb : (O.length + 1) * 1 ≤ strMax := by unfold strMax; omega
      have h0 : IntKind.u64.wrap (8 * (7 - (i : Int))) = 8 * (7 - (i : Int)) := by
        show (8 * (7 - (i : Int))) % 18446744073709551616 = _
        omega
      have h1 := shr_u64 (u := valU v) (show i ≤ 7 by omega)
      have h2 : (7 - (i : Int) - 1) = 7 - ((i + 1 : Nat) : Int) := by omega
      have he : emptyV (.sl true (O.map byteRow)) = false := by rw [hO]; rfl
      clear hexit hret
      repeat' (first | simp (maxSteps := 10000000) (disch := omega) only [go_sem, Nat.reduceAdd, Nat.reduceSub, Nat.reduceMul, Nat.reduceLT, Nat.reduceLeDiff, Nat.reduceEqDiff, Nat.reduceBEq, Nat.reduceBNe, reduceCtorEq, Int.reduceBNe, Int.reduceBEq, au, lst, if_pos, if_neg, h0, h1, h2, wrap8, appendM, emptyM, he, hb, fit_byte, Bool.not_or_self, byte_snoc] | simp (disch := (simp only [lens]; omega)) only [str_add, if_pos, if_neg] | ((with_reducible first | refine WC_split ?_ ?_ | refine WS_split ?_ ?_ | refine WD_split ?_ ?_) <;> intro hc <;> (try simp only [hc]) <;> (try simp only [bools] at hc) <;> (try (have hb : @Eq Bool _ _ := hc; simp only [hb]; clear hb))))
      refine hnorm (i + 1, O ++ [UInt8.ofNat (valU v / 2 ^ (8 * (7 - i)))]) _ ⟨by show i + 1 ≤ 8; omega, by simp only; rw [hO, List.range_succ, List.map_append]; rfl⟩ (by show 8 - (i + 1) < 8 - i; omega) ?_
      rw [S93]
      kernel_rfl
    · have c1 := call_99 O (by omega)
      clear hnorm hret
      repeat' (first | simp (maxSteps := 10000000) (disch := omega) only [go_sem, Nat.reduceAdd, Nat.reduceSub, Nat.reduceMul, Nat.reduceLT, Nat.reduceLeDiff, Nat.reduceEqDiff, Nat.reduceBEq, Nat.reduceBNe, reduceCtorEq, Int.reduceBNe, Int.reduceBEq, au, lst, if_pos, if_neg] | simp (disch := (simp only [lens]; omega)) only [str_add, if_pos, if_neg] | ((with_reducible first | refine WC_split ?_ ?_ | refine WS_split ?_ ?_ | refine WD_split ?_ ?_) <;> intro hc <;> (try simp only [hc]) <;> (try simp only [bools] at hc) <;> (try (have hb : @Eq Bool _ _ := hc; simp only [hb]; clear hb))))
      refine hexit _ _ ?_
      repeat' (first | simp (maxSteps := 10000000) (disch := omega) only [go_sem, Nat.reduceAdd, Nat.reduceSub, Nat.reduceMul, Nat.reduceLT, Nat.reduceLeDiff, Nat.reduceEqDiff, Nat.reduceBEq, Nat.reduceBNe, reduceCtorEq, Int.reduceBNe, Int.reduceBEq, au, lst, if_pos, if_neg, mapM_byte, c1] | simp (disch := (simp only [lens]; omega)) only [str_add, if_pos, if_neg] | ((with_reducible first | refine WC_split ?_ ?_ | refine WS_split ?_ ?_ | refine WD_split ?_ ?_) <;> intro hc <;> (try simp only [hc]) <;> (try simp only [bools] at hc) <;> (try (have hb : @Eq Bool _ _ := hc; simp only [hb]; clear hb))))
      refine ret1n (fun _ => ex_ret) rfl rfl rfl ⟨?_, rfl, rfl⟩
      rw [hO, show i = 8 by omega]
      rfl
end Go.Proofs.Ythikboobkmfgfaa
