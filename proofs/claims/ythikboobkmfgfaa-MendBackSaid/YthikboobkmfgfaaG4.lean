/- Readers of bytes: the document's Whole, End. -/
import Derived.Test.YthikboobkmfgfaaD36
set_option linter.all false
set_option maxRecDepth 100000
namespace Go.Proofs.Ythikboobkmfgfaa
open Go Go.Abs

theorem reach_int {hp : List Blk} {k : IntKind} {x : Int} : reach hp [.int k x] = [] := reach_pure rfl
theorem tmod_nat (n m : Nat) : Int.tmod (n : Int) (m : Int) = ((n % m : Nat) : Int) := by rw [Int.tmod_eq_emod_of_nonneg (by omega)]; norm_cast
theorem tdiv_nat (n m : Nat) : Int.tdiv (n : Int) (m : Int) = ((n / m : Nat) : Int) := by rw [Int.tdiv_eq_ediv_of_nonneg (by omega)]; norm_cast

set_option maxHeartbeats 4000000 in
theorem call_39 (s : List UInt8) (e : Int) (hlen : s.length ≤ 1000000000) :
    (Lim cfg).call 39 [.agg [.str s, .int .i64 e]] [] = some (.tup [.agg [.str (stR s e).1, .int .i64 (stR s e).2], .int .i64 (wholeR s e)], false, []) := by
  have hn := numN_lt s e
  have cN := call_40 s e hlen
  have m2 : Int.tmod (numN s e : Int) 2 = ((numN s e % 2 : Nat) : Int) := tmod_nat (numN s e) 2
  have d2 : Int.tdiv (numN s e : Int) 2 = ((numN s e / 2 : Nat) : Int) := tdiv_nat (numN s e) 2
  have n0 : ¬ ((2 : Int) = 0) := by decide
  have w0 : IntKind.i64.wrap ((numN s e / 2 : Nat) : Int) = ((numN s e / 2 : Nat) : Int) := wrap_i64 (by omega) (by omega)
  by_cases h1 : numN s e % 2 = 1
  · have h2 : (((numN s e % 2 : Nat) : Int) == 1) = true := by simp; omega
    have w1 : IntKind.i64.wrap (0 - ((numN s e / 2 : Nat) : Int)) = 0 - ((numN s e / 2 : Nat) : Int) := wrap_i64 (by omega) (by omega)
    have w2 : IntKind.i64.wrap (0 - ((numN s e / 2 : Nat) : Int) - 1) = 0 - ((numN s e / 2 : Nat) : Int) - 1 := wrap_i64 (by omega) (by omega)
    refine call_eq fn_39 rfl ?_
    rw [k_start]
    simp only [Try.f39, st0, Nat.zero_add]
    simp only [go_sem, Nat.reduceAdd, Nat.reduceSub, Nat.reduceMul, Nat.reduceLT, Nat.reduceLeDiff, Nat.reduceEqDiff, Nat.reduceBEq, Nat.reduceBNe, reduceCtorEq, Int.reduceBNe, Int.reduceBEq, cN, m2, d2, n0, h2, w0, w1, w2, blt0]
    refine ⟨fun _ => ex_ret, .tup [.agg [.str (stR s e).1, .int .i64 (stR s e).2], .int .i64 (wholeR s e)], false, ?_, by kernel_rfl, by kernel_rfl, by kernel_rfl⟩
    rw [wholeR, zag, if_pos h1, ← Int.zero_sub]
    kernel_rfl
  · have h2 : (((numN s e % 2 : Nat) : Int) == 1) = false := by simp; omega
    refine call_eq fn_39 rfl ?_
    rw [k_start]
    simp only [Try.f39, st0, Nat.zero_add]
    simp only [go_sem, Nat.reduceAdd, Nat.reduceSub, Nat.reduceMul, Nat.reduceLT, Nat.reduceLeDiff, Nat.reduceEqDiff, Nat.reduceBEq, Nat.reduceBNe, reduceCtorEq, Int.reduceBNe, Int.reduceBEq, cN, m2, d2, n0, h2, w0, blt0]
    refine ⟨fun _ => ex_ret, .tup [.agg [.str (stR s e).1, .int .i64 (stR s e).2], .int .i64 (wholeR s e)], false, ?_, by kernel_rfl, by kernel_rfl, by kernel_rfl⟩
    rw [wholeR, zag, if_neg h1]
    kernel_rfl

end Go.Proofs.Ythikboobkmfgfaa
set_option linter.all false
set_option maxRecDepth 100000
namespace Go.Proofs.Ythikboobkmfgfaa
open Go Go.Abs

theorem ofNat_toNat {n : Nat} (h : n < 256) : (UInt8.ofNat n).toNat = n := UInt8.toNat_ofNat_of_lt' (by exact h)
theorem numG_numB (r : List UInt8) : ∀ (n i : Nat), i < 9 → n < 2 ^ (7 * (9 - i)) → (i = 0 ∨ n ≠ 0) → numG i (numB n ++ r) = (0, n, r) := by
  intro n
  induction n using Nat.strongRecOn with
  | _ n ih =>
    intro i hi hn h0
    rw [numB]
    split
    · rename_i h7
      rw [List.cons_append, List.nil_append, numG, ofNat_toNat (by omega), if_neg, if_pos h7]
      rintro (h | ⟨h1, h2⟩)
      · omega
      · have := congrArg UInt8.toNat h2
        rw [ofNat_toNat (by omega)] at this
        have : n = 0 := this
        omega
    · rename_i h7
      have hi8 : i < 8 := by
        rcases Nat.lt_or_ge i 8 with h | h
        · exact h
        · have : 9 - i = 1 := by omega
          rw [this] at hn; omega
      have e1 : 9 - i = (9 - (i + 1)) + 1 := by omega
      rw [e1, Nat.mul_add, Nat.pow_add] at hn
      have hn2 : n / 128 < 2 ^ (7 * (9 - (i + 1))) := by
        rw [Nat.div_lt_iff_lt_mul (by omega)]; exact hn
      rw [List.cons_append, numG, ofNat_toNat (by omega), if_neg, if_neg (by omega), ih (n / 128) (by omega) (i + 1) (by omega) hn2 (.inr (by omega))]
      · show ((0 : Int), n % 128 + 128 - 128 + 128 * (n / 128), r) = _
        rw [show n % 128 + 128 - 128 + 128 * (n / 128) = n by omega]
      · rintro (h | ⟨h1, h2⟩)
        · omega
        · have := congrArg UInt8.toNat h2
          rw [ofNat_toNat (by omega)] at this
          have : n % 128 + 128 = 0 := this
          omega
theorem read_numS {z : Int} (h1 : 0 ≤ z) (h2 : z < 9223372036854775808) (r : List UInt8) : numN (numS z ++ r) 0 = z.toNat ∧ stR (numS z ++ r) 0 = (r, 0) := by
  have hg : numG 0 (numS z ++ r) = (0, z.toNat, r) := by
    rw [numS, if_neg (by omega)]
    exact numG_numB r _ 0 (by omega) (by show z.toNat < 9223372036854775808; omega) (.inl rfl)
  exact ⟨by rw [numN, hg, if_pos ⟨rfl, rfl⟩], by rw [stR, numR, hg, if_pos rfl, if_pos rfl]⟩
theorem zag_zig {z : Int} : zag (zig z).toNat = z := by unfold zag zig; split <;> split <;> omega
theorem read_wholeS {z : Int} (h : mayZ z = true) (r : List UInt8) : wholeR (wholeS z ++ r) 0 = z ∧ stR (wholeS z ++ r) 0 = (r, 0) := by
  have hm := h
  simp only [mayZ, decide_eq_true_eq] at hm
  have hz : 0 ≤ zig z ∧ zig z < 9223372036854775808 := by unfold zig; split <;> omega
  obtain ⟨q1, q2⟩ := read_numS hz.1 hz.2 r
  rw [wholeS, if_pos h]
  exact ⟨by rw [wholeR, q1, zag_zig], q2⟩
theorem may_small {z : Int} (h1 : -4398046511104 ≤ z) (h2 : z ≤ 4398046511104) : mayZ z = true := by
  simp only [mayZ, decide_eq_true_eq]; omega
end Go.Proofs.Ythikboobkmfgfaa
set_option linter.all false
set_option maxRecDepth 100000
namespace Go.Proofs.Ythikboobkmfgfaa
open Go Go.Abs

theorem numG_inv : ∀ (l : List UInt8) (i : Nat), (numG i l).1 = 0 → (i = 0 ∨ (numG i l).2.1 ≠ 0) ∧ l = numB (numG i l).2.1 ++ (numG i l).2.2
  | [], i, h => by simp [numG] at h
  | b :: r, i, h => by
    rw [numG] at h ⊢
    split at h
    · simp at h
    · rename_i h1
      rw [if_neg h1]
      split at h
      · rename_i h2
        rw [if_pos h2]
        refine ⟨?_, ?_⟩
        · rcases Nat.eq_zero_or_pos i with h0 | h0
          · exact .inl h0
          · refine .inr fun hb => h1 (.inr ⟨h0, ?_⟩)
            exact UInt8.toNat_inj.1 (by simpa using hb)
        · show b :: r = numB b.toNat ++ r
          rw [numB, if_pos h2, UInt8.ofNat_toNat]; rfl
      · rename_i h2
        rw [if_neg h2]
        simp only at h ⊢
        obtain ⟨h3, h4⟩ := numG_inv r (i + 1) h
        have h5 : (numG (i + 1) r).2.1 ≠ 0 := by rcases h3 with h3 | h3 <;> first | omega | exact h3
        have hb := b.toNat_lt
        refine ⟨.inr (by omega), ?_⟩
        generalize (numG (i + 1) r).2.1 = n at h4 h5 ⊢
        generalize (numG (i + 1) r).2.2 = q at h4 ⊢
        rw [numB, if_neg (by omega), show (b.toNat - 128 + 128 * n) % 128 + 128 = b.toNat by omega, show (b.toNat - 128 + 128 * n) / 128 = n by omega, UInt8.ofNat_toNat, List.cons_append, ← h4]
theorem stR_stay {s : List UInt8} {e : Int} (h : e ≠ 0) : stR s e = (s, e) := by rw [stR, numR, if_neg h]
theorem stR_ok {s : List UInt8} {e : Int} (h : (stR s e).2 = 0) : e = 0 ∧ (numG 0 s).1 = 0 ∧ stR s e = ((numG 0 s).2.2, 0) := by
  by_cases he : e = 0
  · subst he
    by_cases hg : (numG 0 s).1 = 0
    · exact ⟨rfl, hg, by rw [stR, numR, if_pos rfl, if_pos hg]⟩
    · rw [stR, numR, if_pos rfl, if_neg hg] at h
      exact absurd h hg
  · rw [stR_stay he] at h
    exact absurd h he
theorem numS_inv {s : List UInt8} {e : Int} (h : (stR s e).2 = 0) : e = 0 ∧ s = numS (numN s e) ++ (stR s e).1 := by
  obtain ⟨h1, h2, h3⟩ := stR_ok h
  refine ⟨h1, ?_⟩
  have h4 := (numG_inv s 0 h2).2
  rw [h3, numN, if_pos ⟨h1, h2⟩, numS, if_neg (by omega), Int.toNat_natCast]
  exact h4
theorem zig_zag (n : Nat) : zig (zag n) = n := by unfold zig zag; split <;> split <;> omega
theorem wholeS_inv {s : List UInt8} {e : Int} (h : (stR s e).2 = 0) : e = 0 ∧ s = wholeS (wholeR s e) ++ (stR s e).1 := by
  obtain ⟨h1, h2⟩ := numS_inv h
  refine ⟨h1, ?_⟩
  have hb := zag_bound (numN_lt s e)
  rw [wholeS, if_pos (show mayZ (wholeR s e) = true from decide_eq_true hb), wholeR, zig_zag]
  exact h2
theorem stR_len (s : List UInt8) (e : Int) : (stR s e).1.length ≤ s.length := numR_len s e
theorem rd_num (s : List UInt8) (e : Int) (hlen : s.length ≤ 1000000000) : (Lim cfg).call 77 [.ptr 0 0] [rdB s e] = some (.int .i64 (numN s e : Nat), false, [rdB (stR s e).1 (stR s e).2]) := by
  rw [← numR_fst]; exact call_77 s e hlen
theorem rd_whole (s : List UInt8) (e : Int) (hlen : s.length ≤ 1000000000) : (Lim cfg).call 45 [.ptr 0 0] [rdB s e] = some (.int .i64 (wholeR s e), false, [rdB (stR s e).1 (stR s e).2]) := call_45 s e hlen
end Go.Proofs.Ythikboobkmfgfaa
