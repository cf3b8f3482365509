/- The sum of bytes: the document's answer, bit by bit. -/
import Derived.Test.YthikboobkmfgfaaM1
set_option linter.all false
set_option maxRecDepth 100000
namespace Go.Proofs.Ythikboobkmfgfaa
open Go Go.Abs

/-- A bit that comes. -/
def bitN (c b : Nat) : Nat := if c % 2 = b % 2 then c / 2 else (c / 2) ^^^ 3988292384
theorem bitN_lt {c b : Nat} (h : c < 4294967296) : bitN c b < 4294967296 := by
  unfold bitN; split
  · omega
  · exact xor_lt32 (by omega) (by omega)
theorem bitN_step (c b : Nat) : bitN c b ^^^ (b / 2) = stepN (c ^^^ b) := by
  have h1 : (c ^^^ b) / 2 = (c / 2) ^^^ (b / 2) := Nat.xor_div_two
  have h2 : (c ^^^ b) % 2 = 1 ↔ ¬ (c % 2 = 1 ↔ b % 2 = 1) := Nat.xor_mod_two_eq_one
  unfold bitN stepN
  by_cases h : c % 2 = b % 2
  · rw [if_pos h, if_neg (by rw [h2]; omega), h1]
  · rw [if_neg h, if_pos (by rw [h2]; omega), h1, Nat.xor_assoc, Nat.xor_comm 3988292384, ← Nat.xor_assoc]
theorem shr_u8 {n j : Nat} (hj : j ≤ 8) : shiftOp .shr .u8 (n : Int) (j : Int) = some (.int .u8 ((n / 2 ^ j : Nat) : Int)) := by
  have e : min (Int.toNat (j : Int)) IntKind.u8.bits = j := by rw [Int.toNat_natCast]; show min j 8 = j; omega
  have e2 : (2 : Int) ^ j = ((2 ^ j : Nat) : Int) := by norm_cast
  simp only [shiftOp, e, e2]
  rw [if_neg (by omega), Int.fdiv_eq_ediv_of_nonneg _ (Int.natCast_nonneg _), Int.natCast_ediv]
def S99 (s : List UInt8) (x : Nat × Nat) : St := { fr := mkF 37 [(0, .str s), (3, .int .u32 x.2), (4, .int .i64 x.1)], own := [], hp := [], al := [], nb := 0 }
def S99b (s : List UInt8) (i : Nat) (x : Nat × Nat) : St := { fr := mkF 37 [(0, .str s), (3, .int .u32 x.2), (4, .int .i64 i), (5, .int .i64 x.1)], own := [], hp := [], al := [], nb := 0 }
set_option maxHeartbeats 8000000 in
theorem call_99 (s : List UInt8) (hlen : s.length ≤ 1000000000) : (Lim cfg).call 99 [.str s] [] = some (.int .u32 (sumN s : Nat), false, []) := by
  refine call_eq fn_99 rfl ?_
  rw [k_start]
  simp only [Try.f99, st0, Nat.zero_add]
  repeat' (first | simp (maxSteps := 10000000) (disch := omega) only [go_sem, Nat.reduceAdd, Nat.reduceSub, Nat.reduceMul, Nat.reduceLT, Nat.reduceLeDiff, Nat.reduceEqDiff, Nat.reduceBEq, Nat.reduceBNe, reduceCtorEq, Int.reduceBNe, Int.reduceBEq, au, lst, if_pos, if_neg] | simp (disch := (simp only [lens]; omega)) only [str_add, if_pos, if_neg] | ((with_reducible first | refine WC_split ?_ ?_ | refine WS_split ?_ ?_ | refine WD_split ?_ ?_) <;> intro hc <;> (try simp only [hc]) <;> (try simp only [bools] at hc) <;> (try (have hb : @Eq Bool _ _ := hc; simp only [hb]; clear hb))))
  refine k_loop (S99 s) (fun x => x.1 ≤ s.length ∧ x.2 = restN (s.take x.1) 4294967295) (fun x => s.length - x.1) (0, 4294967295) (K := cfg.kill 99 3) rfl ⟨Nat.zero_le _, rfl⟩ (by kernel_rfl) ?_
  rintro ⟨i, c⟩ ⟨hi, hc⟩ k' Q' hnorm hexit hret
  simp only at hi hc
  have hc32 : c < 4294967296 := by rw [hc]; exact restN_lt _ (by omega)
  simp only [S99, mkF, List.foldl, st0, List.set]
  by_cases hlt : i < s.length
  · have hb := s[i].toNat_lt
    have hst := restN_step hlt 4294967295
    rw [← hc] at hst
    have hx : s[i]? = some s[i] := List.getElem?_eq_getElem hlt
    clear hexit hret
    repeat' (first | simp (maxSteps := 10000000) (disch := omega) only [go_sem, Nat.reduceAdd, Nat.reduceSub, Nat.reduceMul, Nat.reduceLT, Nat.reduceLeDiff, Nat.reduceEqDiff, Nat.reduceBEq, Nat.reduceBNe, reduceCtorEq, Int.reduceBNe, Int.reduceBEq, au, lst, if_pos, if_neg] | simp (disch := (simp only [lens]; omega)) only [str_add, if_pos, if_neg] | ((with_reducible first | refine WC_split ?_ ?_ | refine WS_split ?_ ?_ | refine WD_split ?_ ?_) <;> intro hc <;> (try simp only [hc]) <;> (try simp only [bools] at hc) <;> (try (have hb : @Eq Bool _ _ := hc; simp only [hb]; clear hb))))
    refine k_loop (S99b s i) (fun x => x.1 ≤ 8 ∧ x.2 < 4294967296 ∧ stepsN (8 - x.1) (x.2 ^^^ (s[i].toNat / 2 ^ x.1)) = byteN c s[i]) (fun x => 8 - x.1) (0, c) (K := cfg.kill 99 6) rfl ⟨Nat.zero_le _, hc32, by show stepsN 8 (c ^^^ (s[i].toNat / 1)) = _; rw [Nat.div_one]; rfl⟩ (by kernel_rfl) ?_
    rintro ⟨j, d⟩ ⟨hj, hd, hs⟩ k2 Q2 hnorm2 hexit2 hret2
    simp only at hj hd hs
    simp only [S99b, mkF, List.foldl, st0, List.set]
    by_cases hj8 : j < 8
    · have e0 : IntKind.u64.wrap (j : Int) = (j : Int) := by
        show (j : Int) % 18446744073709551616 = _
        omega
      have e1 := shr_u8 (n := s[i].toNat) (j := j) (by omega)
      have hq : s[i].toNat / 2 ^ j < 256 := Nat.lt_of_le_of_lt (Nat.div_le_self _ _) hb
      have hq2 : s[i].toNat / 2 ^ j / 2 = s[i].toNat / 2 ^ (j + 1) := by rw [Nat.div_div_eq_div_mul, ← Nat.pow_succ]
      have hst2 : stepsN (8 - (j + 1)) (bitN d (s[i].toNat / 2 ^ j) ^^^ (s[i].toNat / 2 ^ (j + 1))) = byteN c s[i] := by
        rw [← hq2, bitN_step, ← hs, show 8 - j = (8 - (j + 1)) + 1 by omega, stepsN]
      clear hq2
      generalize s[i].toNat / 2 ^ j = q at e1 hq hst2
      have e2 : IntKind.u32.wrap (q : Int) = (q : Int) := wrap_u32 (by omega) (by omega)
      have e3 : Int.tmod (q : Int) 2 = ((q % 2 : Nat) : Int) := by rw [Int.tmod_eq_emod_of_nonneg (by omega)]; norm_cast
      have e4 : Int.tmod (d : Int) 2 = ((d % 2 : Nat) : Int) := by rw [Int.tmod_eq_emod_of_nonneg (by omega)]; norm_cast
      have e5 : IntKind.u32.wrap (Int.tdiv (d : Int) 2) = ((d / 2 : Nat) : Int) := by rw [Int.tdiv_eq_ediv_of_nonneg (by omega), wrap_u32 (by omega) (by omega)]; norm_cast
      have e6 : Abs.bits .u32 (· ^^^ ·) ((d / 2 : Nat) : Int) 3988292384 = .int .u32 ((d / 2 ^^^ 3988292384 : Nat) : Int) := xor_u32 (a := d / 2) (b := 3988292384) (by omega) (by omega)
      have z : ¬ (2 : Int) = 0 := by decide
      by_cases hbit : d % 2 = q % 2
      · have hB : bitN d q = d / 2 := if_pos hbit
        have hn : (((d % 2 : Nat) : Int) != ((q % 2 : Nat) : Int)) = false := by rw [hbit]; simp
        repeat' (first | simp (maxSteps := 10000000) (disch := omega) only [go_sem, Nat.reduceAdd, Nat.reduceSub, Nat.reduceMul, Nat.reduceLT, Nat.reduceLeDiff, Nat.reduceEqDiff, Nat.reduceBEq, Nat.reduceBNe, reduceCtorEq, Int.reduceBNe, Int.reduceBEq, au, lst, if_pos, if_neg, hx, e0, e1, e2, e3, e4, e5, e6, z, hn] | simp (disch := (simp only [lens]; omega)) only [str_add, if_pos, if_neg] | ((with_reducible first | refine WC_split ?_ ?_ | refine WS_split ?_ ?_ | refine WD_split ?_ ?_) <;> intro hc <;> (try simp only [hc]) <;> (try simp only [bools] at hc) <;> (try (have hb : @Eq Bool _ _ := hc; simp only [hb]; clear hb))))
        refine hnorm2 (j + 1, d / 2) _ ⟨by show j + 1 ≤ 8; omega, by show d / 2 < _; omega, by rw [hB] at hst2; exact hst2⟩ (by show 8 - (j + 1) < 8 - j; omega) (by kernel_rfl)
      · have hB : bitN d q = (d / 2) ^^^ 3988292384 := if_neg hbit
        have hlt2 := bitN_lt (b := q) hd
        rw [hB] at hlt2
        have hn : (((d % 2 : Nat) : Int) != ((q % 2 : Nat) : Int)) = true := by rw [bne_iff_ne]; omega
        repeat' (first | simp (maxSteps := 10000000) (disch := omega) only [go_sem, Nat.reduceAdd, Nat.reduceSub, Nat.reduceMul, Nat.reduceLT, Nat.reduceLeDiff, Nat.reduceEqDiff, Nat.reduceBEq, Nat.reduceBNe, reduceCtorEq, Int.reduceBNe, Int.reduceBEq, au, lst, if_pos, if_neg, hx, e0, e1, e2, e3, e4, e5, e6, z, hn] | simp (disch := (simp only [lens]; omega)) only [str_add, if_pos, if_neg] | ((with_reducible first | refine WC_split ?_ ?_ | refine WS_split ?_ ?_ | refine WD_split ?_ ?_) <;> intro hc <;> (try simp only [hc]) <;> (try simp only [bools] at hc) <;> (try (have hb : @Eq Bool _ _ := hc; simp only [hb]; clear hb))))
        refine hnorm2 (j + 1, (d / 2) ^^^ 3988292384) _ ⟨by show j + 1 ≤ 8; omega, hlt2, by rw [hB] at hst2; exact hst2⟩ (by show 8 - (j + 1) < 8 - j; omega) (by kernel_rfl)
    · have e8 : d = byteN c s[i] := by
        have hz : s[i].toNat / 2 ^ j = 0 := by
          have : j = 8 := by omega
          subst this
          show s[i].toNat / 256 = 0
          omega
        rw [hz, Nat.xor_zero, show 8 - j = 0 by omega] at hs
        exact hs
      repeat' (first | simp (maxSteps := 10000000) (disch := omega) only [go_sem, Nat.reduceAdd, Nat.reduceSub, Nat.reduceMul, Nat.reduceLT, Nat.reduceLeDiff, Nat.reduceEqDiff, Nat.reduceBEq, Nat.reduceBNe, reduceCtorEq, Int.reduceBNe, Int.reduceBEq, au, lst, if_pos, if_neg] | simp (disch := (simp only [lens]; omega)) only [str_add, if_pos, if_neg] | ((with_reducible first | refine WC_split ?_ ?_ | refine WS_split ?_ ?_ | refine WD_split ?_ ?_) <;> intro hc <;> (try simp only [hc]) <;> (try simp only [bools] at hc) <;> (try (have hb : @Eq Bool _ _ := hc; simp only [hb]; clear hb))))
      refine hexit2 _ _ ?_
      repeat' (first | simp (maxSteps := 10000000) (disch := omega) only [go_sem, Nat.reduceAdd, Nat.reduceSub, Nat.reduceMul, Nat.reduceLT, Nat.reduceLeDiff, Nat.reduceEqDiff, Nat.reduceBEq, Nat.reduceBNe, reduceCtorEq, Int.reduceBNe, Int.reduceBEq, au, lst, if_pos, if_neg] | simp (disch := (simp only [lens]; omega)) only [str_add, if_pos, if_neg] | ((with_reducible first | refine WC_split ?_ ?_ | refine WS_split ?_ ?_ | refine WD_split ?_ ?_) <;> intro hc <;> (try simp only [hc]) <;> (try simp only [bools] at hc) <;> (try (have hb : @Eq Bool _ _ := hc; simp only [hb]; clear hb))))
      refine hnorm (i + 1, d) _ ⟨by show i + 1 ≤ _; omega, by show d = _; rw [hst, e8]⟩ (by show s.length - (i + 1) < s.length - i; omega) (by kernel_rfl)
  · have e1 : IntKind.u32.wrap (4294967295 - (c : Int)) = ((4294967295 - c : Nat) : Int) := by rw [wrap_u32 (by omega) (by omega)]; omega
    clear hnorm hret
    repeat' (first | simp (maxSteps := 10000000) (disch := omega) only [go_sem, Nat.reduceAdd, Nat.reduceSub, Nat.reduceMul, Nat.reduceLT, Nat.reduceLeDiff, Nat.reduceEqDiff, Nat.reduceBEq, Nat.reduceBNe, reduceCtorEq, Int.reduceBNe, Int.reduceBEq, au, lst, if_pos, if_neg] | simp (disch := (simp only [lens]; omega)) only [str_add, if_pos, if_neg] | ((with_reducible first | refine WC_split ?_ ?_ | refine WS_split ?_ ?_ | refine WD_split ?_ ?_) <;> intro hc <;> (try simp only [hc]) <;> (try simp only [bools] at hc) <;> (try (have hb : @Eq Bool _ _ := hc; simp only [hb]; clear hb))))
    refine hexit _ _ ?_
    repeat' (first | simp (maxSteps := 10000000) (disch := omega) only [go_sem, Nat.reduceAdd, Nat.reduceSub, Nat.reduceMul, Nat.reduceLT, Nat.reduceLeDiff, Nat.reduceEqDiff, Nat.reduceBEq, Nat.reduceBNe, reduceCtorEq, Int.reduceBNe, Int.reduceBEq, au, lst, if_pos, if_neg, e1] | simp (disch := (simp only [lens]; omega)) only [str_add, if_pos, if_neg] | ((with_reducible first | refine WC_split ?_ ?_ | refine WS_split ?_ ?_ | refine WD_split ?_ ?_) <;> intro hc <;> (try simp only [hc]) <;> (try simp only [bools] at hc) <;> (try (have hb : @Eq Bool _ _ := hc; simp only [hb]; clear hb))))
    refine ret1n (fun _ => ex_ret) rfl rfl rfl ⟨?_, rfl, rfl⟩
    rw [hc, List.take_of_length_le (by omega)]
    rfl
end Go.Proofs.Ythikboobkmfgfaa
