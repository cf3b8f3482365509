/- Readers of bytes: the program's Whole, End. -/
import Derived.Test.YthikboobkmfgfaaD32
set_option linter.all false
set_option maxRecDepth 100000
namespace Go.Proofs.Ythikboobkmfgfaa
open Go Go.Abs

theorem and_1 {n : Nat} (h : n < 9223372036854775808) : Abs.bits .i64 (· &&& ·) (n : Int) 1 = .int .i64 ((n % 2 : Nat) : Int) := by
  have e : (BitVec.ofInt 64 (n : Int) &&& BitVec.ofInt 64 1).toNat = n % 2 := by
    have h1 : (BitVec.ofInt 64 (n : Int)).toNat = n := by
      rw [BitVec.ofInt_natCast, BitVec.toNat_ofNat, Nat.mod_eq_of_lt (by omega)]
    have h2 : (BitVec.ofInt 64 1).toNat = 2 ^ 1 - 1 := by decide
    rw [BitVec.toNat_and, h1, h2, Nat.and_two_pow_sub_one_eq_mod]
  show V.int .i64 (IntKind.i64.wrap ((BitVec.ofInt 64 (n : Int) &&& BitVec.ofInt 64 1).toNat : Nat)) = _
  rw [e, wrap_i64 (by omega) (by omega)]
theorem land_two (n : Nat) : n &&& 2 ^ 1 = n / 2 % 2 * 2 := by
  apply Nat.eq_of_testBit_eq
  intro i
  rw [Nat.testBit_and]
  match i with
  | 0 => simp [Nat.testBit_eq_decide_div_mod_eq]
  | 1 =>
    simp only [Nat.testBit_eq_decide_div_mod_eq]
    have := Nat.mod_two_eq_zero_or_one (n / 2)
    rcases this with h0 | h0 <;> simp [h0]
  | i + 2 =>
    have e1 : (2 ^ 1 : Nat).testBit (i + 2) = false := by
      rw [Nat.testBit_two_pow]; simp
    have e2 : (n / 2 % 2 * 2).testBit (i + 2) = false := by
      apply Nat.testBit_lt_two_pow
      have : 2 ^ 2 ≤ 2 ^ (i + 2) := Nat.pow_le_pow_right (by omega) (by omega)
      omega
    rw [e1, e2, Bool.and_false]
theorem and_2 {n : Nat} (h : n < 9223372036854775808) : Abs.bits .i64 (· &&& ·) (n : Int) 2 = .int .i64 ((n / 2 % 2 * 2 : Nat) : Int) := by
  have e : (BitVec.ofInt 64 (n : Int) &&& BitVec.ofInt 64 2).toNat = n / 2 % 2 * 2 := by
    have h1 : (BitVec.ofInt 64 (n : Int)).toNat = n := by
      rw [BitVec.ofInt_natCast, BitVec.toNat_ofNat, Nat.mod_eq_of_lt (by omega)]
    have h2 : (BitVec.ofInt 64 2).toNat = 2 ^ 1 := by decide
    rw [BitVec.toNat_and, h1, h2]
    exact land_two n
  show V.int .i64 (IntKind.i64.wrap ((BitVec.ofInt 64 (n : Int) &&& BitVec.ofInt 64 2).toNat : Nat)) = _
  rw [e, wrap_i64 (by omega) (by omega)]
theorem shr_1 (n : Nat) : shiftOp .shr .i64 (n : Int) 1 = some (.int .i64 ((n / 2 : Nat) : Int)) := by
  have e : (2 : Int) ^ (min (1 : Int).toNat IntKind.i64.bits) = 2 := by decide
  simp only [shiftOp, e]
  rw [if_neg (by omega), Int.fdiv_eq_ediv_of_nonneg _ (by omega)]; norm_cast

def zag (n : Nat) : Int := if n % 2 = 1 then -((n / 2 : Nat) : Int) - 1 else ((n / 2 : Nat) : Int)
def numN (s : List UInt8) (e : Int) : Nat := if e = 0 ∧ (numG 0 s).1 = 0 then (numG 0 s).2.1 else 0
def wholeR (s : List UInt8) (e : Int) : Int := zag (numN s e)
theorem numR_fst (s : List UInt8) (e : Int) : (numR s e).1 = (numN s e : Nat) := by
  unfold numR numN
  by_cases h : e = 0
  · by_cases h2 : (numG 0 s).1 = 0
    · rw [if_pos h, if_pos h2, if_pos ⟨h, h2⟩]
    · rw [if_pos h, if_neg h2, if_neg fun q => h2 q.2]; rfl
  · rw [if_neg h, if_neg fun q => h q.1]; rfl
theorem numG_lt : ∀ (l : List UInt8) (i : Nat), i ≤ 9 → (numG i l).1 = 0 → (numG i l).2.1 < 2 ^ (7 * (9 - i))
  | [], i, _, h => by simp [numG] at h
  | b :: r, i, hi, h => by
    unfold numG at h ⊢
    split at h
    · simp at h
    · rename_i hno
      rw [if_neg hno]
      have hi9 : i < 9 := by
        rcases Nat.lt_or_ge i 9 with q | q
        · exact q
        · exact absurd (.inl (by omega)) hno
      have e1 : 9 - i = (9 - (i + 1)) + 1 := by omega
      have hb : b.toNat < 256 := b.toNat_lt
      split at h
      · rename_i h7
        rw [if_pos h7]
        have : (2 : Nat) ^ 7 ≤ 2 ^ (7 * (9 - i)) := Nat.pow_le_pow_right (by omega) (by omega)
        show b.toNat < _
        omega
      · rename_i h7
        rw [if_neg h7]
        have ih := numG_lt r (i + 1) (by omega) h
        rw [e1, Nat.mul_add, Nat.pow_add]
        show b.toNat - 128 + 128 * (numG (i + 1) r).2.1 < 2 ^ (7 * (9 - (i + 1))) * 2 ^ (7 * 1)
        have : (numG (i + 1) r).2.1 + 1 ≤ 2 ^ (7 * (9 - (i + 1))) := ih
        have := Nat.mul_le_mul_right (2 ^ (7 * 1)) this
        omega
theorem numN_lt (s : List UInt8) (e : Int) : numN s e < 9223372036854775808 := by
  unfold numN
  split
  · rename_i h
    have := numG_lt s 0 (by omega) h.2
    exact this
  · decide
theorem numG_len : ∀ (l : List UInt8) (i : Nat), (numG i l).2.2.length ≤ l.length
  | [], i => by simp [numG]
  | b :: r, i => by
    unfold numG
    split
    · simp
    · split
      · simp
      · have := numG_len r (i + 1)
        simp only [List.length_cons]; omega
theorem numR_len (s : List UInt8) (e : Int) : (numR s e).2.1.length ≤ s.length := by
  unfold numR
  split
  · split
    · exact numG_len s 0
    · simp
  · exact Nat.le_refl _
theorem zag_bound {n : Nat} (h : n < 9223372036854775808) : -4611686018427387904 ≤ zag n ∧ zag n ≤ 4611686018427387903 := by
  unfold zag; split <;> omega

theorem call_45 (s : List UInt8) (e : Int) (hlen : s.length ≤ 1000000000) : (Lim cfg).call 45 [.ptr 0 0] [rdB s e] = some (.int .i64 (wholeR s e), false, [rdB (numR s e).2.1 (numR s e).2.2]) := by
  have hn := numN_lt s e
  refine call_eq fn_45 rfl ?_
  rw [k_start]
  simp only [Try.f45, List.length_cons, List.length_nil, Nat.zero_add, Nat.reduceSub, Nat.reduceAdd, List.replicate, List.cons_append, List.nil_append]
  simp only [go_sem, Nat.reduceAdd, Nat.reduceSub, Nat.reduceMul, Nat.reduceLT, Nat.reduceLeDiff, Nat.reduceEqDiff, Nat.reduceBEq, Nat.reduceBNe, reduceCtorEq, Int.reduceBNe, Int.reduceBEq, blt_zero]
  rw [callHeap_at (R := [0]) (call_77 s e hlen)]
  simp only [rdB, numR_fst, and_1 hn]
  have ha := and_1 hn
  by_cases h1 : numN s e % 2 = 1
  · have h2 : (((numN s e % 2 : Nat) : Int) == 1) = true := by simp; omega
    have w1 : IntKind.i64.wrap (0 - ((numN s e / 2 : Nat) : Int)) = 0 - ((numN s e / 2 : Nat) : Int) := wrap_i64 (by omega) (by omega)
    have w2 : IntKind.i64.wrap (0 - ((numN s e / 2 : Nat) : Int) - 1) = 0 - ((numN s e / 2 : Nat) : Int) - 1 := wrap_i64 (by omega) (by omega)
    simp only [go_sem, Nat.reduceAdd, Nat.reduceSub, Nat.reduceMul, Nat.reduceLT, Nat.reduceLeDiff, Nat.reduceEqDiff, Nat.reduceBEq, Nat.reduceBNe, reduceCtorEq, Int.reduceBNe, Int.reduceBEq, ha, shr_1, h2, w1, w2]
    refine ⟨fun _ => ex_ret, .int .i64 (wholeR s e), false, ?_, rfl, rfl, ?_⟩
    · rw [wholeR, zag, if_pos h1]
      simp only [resultsV, resOf, resOwn]
      rw [← Int.zero_sub]; rfl
    · kernel_rfl
  · have h2 : (((numN s e % 2 : Nat) : Int) == 1) = false := by simp; omega
    simp only [go_sem, Nat.reduceAdd, Nat.reduceSub, Nat.reduceMul, Nat.reduceLT, Nat.reduceLeDiff, Nat.reduceEqDiff, Nat.reduceBEq, Nat.reduceBNe, reduceCtorEq, Int.reduceBNe, Int.reduceBEq, ha, shr_1, h2]
    refine ⟨fun _ => ex_ret, .int .i64 (wholeR s e), false, ?_, rfl, rfl, ?_⟩
    · rw [wholeR, zag, if_neg h1]; rfl
    · kernel_rfl

def endR (s : List UInt8) (e : Int) : Int := if e = 0 ∧ s ≠ [] then 2 else e
def stR (s : List UInt8) (e : Int) : List UInt8 × Int := (numR s e).2
end Go.Proofs.Ythikboobkmfgfaa
