/- The sum of bytes: the program's answer. -/
import Derived.Test.YthikboobkmfgfaaM0
import Derived.Test.YthikboobkmfgfaaA0
set_option linter.all false
set_option maxRecDepth 100000
namespace Go.Proofs.Ythikboobkmfgfaa
open Go Go.Abs

theorem and1_u32 {n : Nat} (h : n < 4294967296) : Abs.bits .u32 (· &&& ·) (n : Int) 1 = .int .u32 ((n % 2 : Nat) : Int) := by
  have := and_u32 h (show 1 < 4294967296 by omega)
  rw [Nat.and_one_is_mod] at this
  exact this
theorem neg_u32 {n : Nat} (h : n ≤ 1) : IntKind.u32.wrap (0 - (n : Int)) = (((4294967296 - n) % 4294967296 : Nat) : Int) := by
  show (0 - (n : Int)) % 4294967296 = _
  omega
theorem poly_u32 {n : Nat} (h : n < 4294967296) : Abs.bits .u32 (· &&& ·) 3988292384 (n : Int) = .int .u32 ((3988292384 &&& n : Nat) : Int) := and_u32 (a := 3988292384) (by omega) h
theorem not_u32 {n : Nat} (h : n < 4294967296) : Abs.bits .u32 (· ^^^ ·) (if IntKind.u32.signed then -1 else IntKind.u32.max) (n : Int) = .int .u32 ((4294967295 - n : Nat) : Int) := by
  have e : (if IntKind.u32.signed then (-1 : Int) else IntKind.u32.max) = ((4294967295 : Nat) : Int) := by decide
  rw [e, xor_u32 (by omega) h]
  have : 4294967295 ^^^ n = 4294967295 - n := by
    have h1 : ((BitVec.allOnes 32) ^^^ (BitVec.ofNat 32 n)).toNat = (~~~ (BitVec.ofNat 32 n)).toNat := by rw [BitVec.allOnes_xor]
    rw [BitVec.toNat_xor, BitVec.toNat_not, BitVec.toNat_ofNat, Nat.mod_eq_of_lt (by omega)] at h1
    exact h1
  rw [this]
def S92 (s : List UInt8) (x : Nat × Nat) : St := { fr := mkF 29 [(0, .str s), (3, .int .u32 x.2), (6, .int .i64 s.length), (7, .int .i64 x.1)], own := [], hp := [], al := [], nb := 0 }
def S92b (s : List UInt8) (i : Nat) (x : Nat × Nat) : St := { fr := mkF 29 [(0, .str s), (3, .int .u32 x.2), (6, .int .i64 s.length), (7, .int .i64 i), (16, .int .i64 x.1)], own := [], hp := [], al := [], nb := 0 }
set_option maxHeartbeats 4000000 in
theorem call_89 (s : List UInt8) (hlen : s.length ≤ 1000000000) : (Lim cfg).call 89 [.str s] [] = some (.int .u32 (sumN s : Nat), false, []) := by
  refine call_eq fn_89 rfl ?_
  rw [k_start]
  simp only [Try.f89, st0, Nat.zero_add]
  repeat' (first | simp (maxSteps := 10000000) (disch := omega) only [go_sem, Nat.reduceAdd, Nat.reduceSub, Nat.reduceMul, Nat.reduceLT, Nat.reduceLeDiff, Nat.reduceEqDiff, Nat.reduceBEq, Nat.reduceBNe, reduceCtorEq, Int.reduceBNe, Int.reduceBEq, au, lst, if_pos, if_neg] | simp (disch := (simp only [lens]; omega)) only [str_add, if_pos, if_neg] | ((with_reducible first | refine WC_split ?_ ?_ | refine WS_split ?_ ?_ | refine WD_split ?_ ?_) <;> intro hc <;> (try simp only [hc]) <;> (try simp only [bools] at hc) <;> (try (have hb : @Eq Bool _ _ := hc; simp only [hb]; clear hb))))
  refine k_loop (S92 s) (fun x => x.1 ≤ s.length ∧ x.2 = restN (s.take x.1) 4294967295) (fun x => s.length - x.1) (0, 4294967295) (K := cfg.kill 89 3) rfl ⟨Nat.zero_le _, rfl⟩ (by kernel_rfl) ?_
  rintro ⟨i, c⟩ ⟨hi, hc⟩ k' Q' hnorm hexit hret
  simp only at hi hc
  have hc32 : c < 4294967296 := by rw [hc]; exact restN_lt _ (by omega)
  have eS : ∀ i c, S92 s (i, c) = { fr := mkF 29 [(0, .str s), (3, .int .u32 c), (6, .int .i64 s.length), (7, .int .i64 i)], own := [], hp := [], al := [], nb := 0 } := fun _ _ => rfl
  rw [eS]
  simp only [eS, mkF, List.foldl, st0, List.set]
  by_cases hlt : i < s.length
  · have hb := s[i].toNat_lt
    have hx := xor_u32 hc32 (show s[i].toNat < 4294967296 by omega)
    have hx32 : c ^^^ s[i].toNat < 4294967296 := xor_lt32 hc32 (by omega)
    have hst := restN_step hlt 4294967295
    rw [← hc] at hst
    have h0 : ¬ ((i : Int) < 0) := by omega
    have hsi : s[((i : Int)).toNat]? = some s[i] := by rw [Int.toNat_natCast]; exact List.getElem?_eq_getElem hlt
    have hw : IntKind.u32.wrap (s[i].toNat : Int) = (s[i].toNat : Int) := wrap_u32 (by omega) (by omega)
    repeat' (first | simp (maxSteps := 10000000) (disch := omega) only [go_sem, Nat.reduceAdd, Nat.reduceSub, Nat.reduceMul, Nat.reduceLT, Nat.reduceLeDiff, Nat.reduceEqDiff, Nat.reduceBEq, Nat.reduceBNe, reduceCtorEq, Int.reduceBNe, Int.reduceBEq, au, lst, if_pos, if_neg, h0, hsi, hw, hx] | simp (disch := (simp only [lens]; omega)) only [str_add, if_pos, if_neg] | ((with_reducible first | refine WC_split ?_ ?_ | refine WS_split ?_ ?_ | refine WD_split ?_ ?_) <;> intro hc <;> (try simp only [hc]) <;> (try simp only [bools] at hc) <;> (try (have hb : @Eq Bool _ _ := hc; simp only [hb]; clear hb))))
    refine k_loop (S92b s i) (fun x => x.1 ≤ 8 ∧ x.2 < 4294967296 ∧ stepsN (8 - x.1) x.2 = byteN c s[i]) (fun x => 8 - x.1) (0, c ^^^ s[i].toNat) (K := cfg.kill 89 7) rfl ⟨Nat.zero_le _, hx32, rfl⟩ (by kernel_rfl) ?_
    rintro ⟨j, d⟩ ⟨hj, hd, hs⟩ k2 Q2 hnorm2 hexit2 hret2
    simp only at hj hd hs
    have eS2 : ∀ j d, S92b s i (j, d) = { fr := mkF 29 [(0, .str s), (3, .int .u32 d), (6, .int .i64 s.length), (7, .int .i64 i), (16, .int .i64 j)], own := [], hp := [], al := [], nb := 0 } := fun _ _ => rfl
    rw [eS2]
    simp only [eS2, mkF, List.foldl, st0, List.set]
    by_cases hj8 : j < 8
    · have e1 := and1_u32 hd
      have e2 := neg_u32 (show d % 2 ≤ 1 by omega)
      have e3 := poly_u32 (show (4294967296 - d % 2) % 4294967296 < 4294967296 by omega)
      have h4 : (3988292384 &&& ((4294967296 - d % 2) % 4294967296)) < 4294967296 := by
        have : 3988292384 &&& ((4294967296 - d % 2) % 4294967296) ≤ 3988292384 := Nat.and_le_left
        omega
      have e4 := xor_u32 (show d / 2 < 4294967296 by omega) h4
      rw [step_u32 hd] at e4
      have e5 := shr_u32 d
      repeat' (first | simp (maxSteps := 10000000) (disch := omega) only [go_sem, Nat.reduceAdd, Nat.reduceSub, Nat.reduceMul, Nat.reduceLT, Nat.reduceLeDiff, Nat.reduceEqDiff, Nat.reduceBEq, Nat.reduceBNe, reduceCtorEq, Int.reduceBNe, Int.reduceBEq, au, lst, if_pos, if_neg, e1, e2, e3, e5, e4] | simp (disch := (simp only [lens]; omega)) only [str_add, if_pos, if_neg] | ((with_reducible first | refine WC_split ?_ ?_ | refine WS_split ?_ ?_ | refine WD_split ?_ ?_) <;> intro hc <;> (try simp only [hc]) <;> (try simp only [bools] at hc) <;> (try (have hb : @Eq Bool _ _ := hc; simp only [hb]; clear hb))))
      refine hnorm2 (j + 1, stepN d) _ ⟨by simp only; omega, stepN_lt hd, ?_⟩ (by simp only; omega) ?_
      · rw [← hs, show 8 - j = (8 - (j + 1)) + 1 by omega, stepsN]
      · rw [eS2]; kernel_rfl
    · repeat' (first | simp (maxSteps := 10000000) (disch := omega) only [go_sem, Nat.reduceAdd, Nat.reduceSub, Nat.reduceMul, Nat.reduceLT, Nat.reduceLeDiff, Nat.reduceEqDiff, Nat.reduceBEq, Nat.reduceBNe, reduceCtorEq, Int.reduceBNe, Int.reduceBEq, au, lst, if_pos, if_neg] | simp (disch := (simp only [lens]; omega)) only [str_add, if_pos, if_neg] | ((with_reducible first | refine WC_split ?_ ?_ | refine WS_split ?_ ?_ | refine WD_split ?_ ?_) <;> intro hc <;> (try simp only [hc]) <;> (try simp only [bools] at hc) <;> (try (have hb : @Eq Bool _ _ := hc; simp only [hb]; clear hb))))
      refine hexit2 _ _ ?_
      repeat' (first | simp (maxSteps := 10000000) (disch := omega) only [go_sem, Nat.reduceAdd, Nat.reduceSub, Nat.reduceMul, Nat.reduceLT, Nat.reduceLeDiff, Nat.reduceEqDiff, Nat.reduceBEq, Nat.reduceBNe, reduceCtorEq, Int.reduceBNe, Int.reduceBEq, au, lst, if_pos, if_neg] | simp (disch := (simp only [lens]; omega)) only [str_add, if_pos, if_neg] | ((with_reducible first | refine WC_split ?_ ?_ | refine WS_split ?_ ?_ | refine WD_split ?_ ?_) <;> intro hc <;> (try simp only [hc]) <;> (try simp only [bools] at hc) <;> (try (have hb : @Eq Bool _ _ := hc; simp only [hb]; clear hb))))
      have e8 : d = byteN c s[i] := by rw [← hs, show 8 - j = 0 by omega]; rfl
      refine hnorm (i + 1, d) _ ⟨by simp only; omega, by simp only; rw [hst, e8]⟩ (by simp only; omega) ?_
      rw [eS]; kernel_rfl
  · have e1 := not_u32 hc32
    clear hnorm hret
    repeat' (first | simp (maxSteps := 10000000) (disch := omega) only [go_sem, Nat.reduceAdd, Nat.reduceSub, Nat.reduceMul, Nat.reduceLT, Nat.reduceLeDiff, Nat.reduceEqDiff, Nat.reduceBEq, Nat.reduceBNe, reduceCtorEq, Int.reduceBNe, Int.reduceBEq, au, lst, if_pos, if_neg, e1] | simp (disch := (simp only [lens]; omega)) only [str_add, if_pos, if_neg] | ((with_reducible first | refine WC_split ?_ ?_ | refine WS_split ?_ ?_ | refine WD_split ?_ ?_) <;> intro hc <;> (try simp only [hc]) <;> (try simp only [bools] at hc) <;> (try (have hb : @Eq Bool _ _ := hc; simp only [hb]; clear hb))))
    refine hexit _ _ ?_
    repeat' (first | simp (maxSteps := 10000000) (disch := omega) only [go_sem, Nat.reduceAdd, Nat.reduceSub, Nat.reduceMul, Nat.reduceLT, Nat.reduceLeDiff, Nat.reduceEqDiff, Nat.reduceBEq, Nat.reduceBNe, reduceCtorEq, Int.reduceBNe, Int.reduceBEq, au, lst, if_pos, if_neg, e1] | simp (disch := (simp only [lens]; omega)) only [str_add, if_pos, if_neg] | ((with_reducible first | refine WC_split ?_ ?_ | refine WS_split ?_ ?_ | refine WD_split ?_ ?_) <;> intro hc <;> (try simp only [hc]) <;> (try simp only [bools] at hc) <;> (try (have hb : @Eq Bool _ _ := hc; simp only [hb]; clear hb))))
    refine ret1n (fun _ => ex_ret) rfl rfl rfl ⟨?_, rfl, rfl⟩
    rw [hc, List.take_of_length_le (by omega)]
    rfl
end Go.Proofs.Ythikboobkmfgfaa
