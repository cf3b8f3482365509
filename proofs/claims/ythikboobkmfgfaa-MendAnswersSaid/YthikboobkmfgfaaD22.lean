/- Numbers as bytes: the program's answer, and the document's. -/
import Derived.Test.YthikboobkmfgfaaD4
set_option linter.all false
set_option maxRecDepth 100000
namespace Go.Proofs.Ythikboobkmfgfaa
open Go Go.Abs

theorem wrap_u8 {n : Int} (h1 : 0 ≤ n) (h2 : n ≤ 255) : IntKind.u8.wrap n = n := by
  show n % 256 = n
  omega
theorem and_127 {n : Nat} (h : n < 9223372036854775808) : Abs.bits .i64 (· &&& ·) (n : Int) 127 = .int .i64 ((n % 128 : Nat) : Int) := by
  have e : (BitVec.ofInt 64 (n : Int) &&& BitVec.ofInt 64 127).toNat = n % 128 := by
    have h1 : (BitVec.ofInt 64 (n : Int)).toNat = n := by
      rw [BitVec.ofInt_natCast, BitVec.toNat_ofNat, Nat.mod_eq_of_lt (by omega)]
    have h2 : (BitVec.ofInt 64 127).toNat = 2 ^ 7 - 1 := by decide
    rw [BitVec.toNat_and, h1, h2, Nat.and_two_pow_sub_one_eq_mod]
  show V.int .i64 (IntKind.i64.wrap ((BitVec.ofInt 64 (n : Int) &&& BitVec.ofInt 64 127).toNat : Nat)) = _
  rw [e, wrap_i64 (by omega) (by omega)]
theorem or_128 {n : Nat} (h : n < 128) : Abs.bits .u8 (· ||| ·) (n : Int) 128 = .int .u8 ((n + 128 : Nat) : Int) := by
  have e : (BitVec.ofInt 8 (n : Int) ||| BitVec.ofInt 8 128).toNat = n + 128 := by
    have h1 : (BitVec.ofInt 8 (n : Int)).toNat = n := by
      rw [BitVec.ofInt_natCast, BitVec.toNat_ofNat, Nat.mod_eq_of_lt (by omega)]
    have h2 : (BitVec.ofInt 8 128).toNat = 2 ^ 7 * 1 := by decide
    rw [BitVec.toNat_or, h1, h2, Nat.or_comm, ← Nat.two_pow_add_eq_or_of_lt (i := 7) (by omega) 1]
    omega
  show V.int .u8 (IntKind.u8.wrap ((BitVec.ofInt 8 (n : Int) ||| BitVec.ofInt 8 128).toNat : Nat)) = _
  rw [e, wrap_u8 (by omega) (by omega)]
theorem shr_7 (n : Nat) : shiftOp .shr .i64 (n : Int) 7 = some (.int .i64 ((n / 128 : Nat) : Int)) := by
  have e : (2 : Int) ^ (min (7 : Int).toNat IntKind.i64.bits) = 128 := by decide
  simp only [shiftOp, e]
  rw [if_neg (by omega), Int.fdiv_eq_ediv_of_nonneg _ (by omega)]; norm_cast

def numB (n : Nat) : List UInt8 := if n < 128 then [UInt8.ofNat n] else UInt8.ofNat (n % 128 + 128) :: numB (n / 128)
termination_by n
decreasing_by omega
def numS (z : Int) : List UInt8 := if z < 0 then [] else numB z.toNat
theorem numB_len : ∀ (k n : Nat), n < 128 ^ (k + 1) → (numB n).length ≤ k + 1
  | k, n, h => by
    rw [numB]
    split
    · simp
    · cases k with
      | zero => omega
      | succ k =>
        have := numB_len k (n / 128) (by rw [Nat.div_lt_iff_lt_mul (by omega)]; rw [Nat.pow_succ] at h; exact h)
        simp only [List.length_cons]; omega
theorem byteRow_ofNat {n : Nat} (h : n < 256) : byteRow (UInt8.ofNat n) = [.int .u8 (n : Int)] := by
  have : (UInt8.ofNat n).toNat = n := UInt8.toNat_ofNat_of_lt' (by exact h)
  rw [byteRow, this]
theorem fit_byte (l : List UInt8) : rowsFit 1 (l.map byteRow) = true := by cases l <;> rfl
theorem mapM_byte : ∀ l : List UInt8, (l.map byteRow).mapM rowByte = some l
  | [] => rfl
  | b :: l => by
    have hb : rowByte (byteRow b) = some b := by simp [byteRow, rowByte]
    rw [List.map_cons, List.mapM_cons, hb, mapM_byte l]; rfl

def S57 (x : Nat × List UInt8) : St := { fr := mkF 23 [(0, .int .i64 x.1), (3, .sl true (x.2.map byteRow))], own := [3], hp := [], al := [], nb := 0 }
set_option maxHeartbeats 4000000 in
theorem call_52 (z : Int) (hz : z ≤ 9223372036854775807) : (Lim cfg).call 52 [.int .i64 z] [] = some (.str (numS z), false, []) := by
  by_cases h : z < 0
  · rw [numS, if_pos h]
    refine call_eq fn_52 rfl ?_
    rw [k_start]
    simp only [Try.f52, st0, Nat.zero_add]
    simp only [go_sem, Nat.reduceAdd, Nat.reduceSub, Nat.reduceMul, Nat.reduceLT, Nat.reduceLeDiff, Nat.reduceEqDiff, Nat.reduceBEq, Nat.reduceBNe, reduceCtorEq, Int.reduceBNe, Int.reduceBEq, ty_3, ty_5, ty_9, ty_108, ty_146, h]
    exact ret1n (fun _ => ex_ret) rfl rfl rfl ⟨rfl, rfl, rfl⟩
  · obtain ⟨n, rfl⟩ : ∃ n : Nat, z = n := ⟨z.toNat, by omega⟩
    rw [numS, if_neg h, Int.toNat_natCast]
    have hl := numB_len 8 n (by have : (128 : Nat) ^ 9 = 9223372036854775808 := by decide
                                omega)
    refine call_eq fn_52 rfl ?_
    rw [k_start]
    simp only [Try.f52, st0, Nat.zero_add]
    simp only [go_sem, Nat.reduceAdd, Nat.reduceSub, Nat.reduceMul, Nat.reduceLT, Nat.reduceLeDiff, Nat.reduceEqDiff, Nat.reduceBEq, Nat.reduceBNe, reduceCtorEq, Int.reduceBNe, Int.reduceBEq, ty_3, ty_5, ty_9, ty_108, ty_146, h]
    refine k_loop S57 (fun x => x.1 ≤ n ∧ x.2 ++ numB x.1 = numB n) (fun x => x.1) (n, []) (K := cfg.kill 52 4) rfl ⟨Nat.le_refl _, rfl⟩ (by kernel_rfl) ?_
    intro ⟨i, O⟩ ⟨hi, hO⟩ k' Q' hnorm hexit hret
    simp only at hi hO
    have hol : O.length ≤ 9 := by have := congrArg List.length hO; rw [List.length_append] at this; omega
    have hb : (O.length + 1) * 1 ≤ strMax := by unfold strMax; omega
    simp only [S57, mkF, List.foldl, st0, List.set]
    by_cases hg : (i : Int) ≥ 128
    · have ha : Abs.bits .i64 (· &&& ·) (i : Int) 127 = .int .i64 ((i % 128 : Nat) : Int) := and_127 (by omega)
      have hw : IntKind.u8.wrap ((i % 128 : Nat) : Int) = ((i % 128 : Nat) : Int) := wrap_u8 (by omega) (by omega)
      have ho : Abs.bits .u8 (· ||| ·) ((i % 128 : Nat) : Int) 128 = .int .u8 ((i % 128 + 128 : Nat) : Int) := or_128 (by omega)
      have er : O.map byteRow ++ [[.int .u8 ((i % 128 + 128 : Nat) : Int)]] = (O ++ [UInt8.ofNat (i % 128 + 128)]).map byteRow := by
        rw [List.map_append, List.map_cons, List.map_nil, byteRow_ofNat (by omega)]
      simp only [go_sem, Nat.reduceAdd, Nat.reduceSub, Nat.reduceMul, Nat.reduceLT, Nat.reduceLeDiff, Nat.reduceEqDiff, Nat.reduceBEq, Nat.reduceBNe, reduceCtorEq, Int.reduceBNe, Int.reduceBEq, ty_3, ty_5, ty_9, ty_108, ty_146, hg, hb, shr_7, ha, hw, ho, fit_byte, Bool.not_or_self, er]
      refine hnorm (i / 128, O ++ [UInt8.ofNat (i % 128 + 128)]) _ ⟨by show i / 128 ≤ n; omega, ?_⟩ (by show i / 128 < i; omega) (by kernel_rfl)
      show O ++ [UInt8.ofNat (i % 128 + 128)] ++ numB (i / 128) = numB n
      rw [← hO, List.append_assoc, numB.eq_def i, if_neg (by omega)]; rfl
    · have hw : IntKind.u8.wrap (i : Int) = (i : Int) := wrap_u8 (by omega) (by omega)
      have er : O.map byteRow ++ [[.int .u8 (i : Int)]] = (numB n).map byteRow := by
        rw [← hO, numB, if_pos (by omega), List.map_append, List.map_cons, List.map_nil, byteRow_ofNat (by omega)]
      simp only [go_sem, Nat.reduceAdd, Nat.reduceSub, Nat.reduceMul, Nat.reduceLT, Nat.reduceLeDiff, Nat.reduceEqDiff, Nat.reduceBEq, Nat.reduceBNe, reduceCtorEq, Int.reduceBNe, Int.reduceBEq, ty_3, ty_5, ty_9, ty_108, ty_146, hg]
      refine hexit 0 _ ?_
      simp only [go_sem, Nat.reduceAdd, Nat.reduceSub, Nat.reduceMul, Nat.reduceLT, Nat.reduceLeDiff, Nat.reduceEqDiff, Nat.reduceBEq, Nat.reduceBNe, reduceCtorEq, Int.reduceBNe, Int.reduceBEq, ty_3, ty_5, ty_9, ty_108, ty_146, hb, hw, fit_byte, Bool.not_or_self, er, mapM_byte]
      exact ret1n (fun _ => ex_ret) rfl rfl rfl ⟨rfl, rfl, rfl⟩

def S60 (x : Nat × List UInt8) : St := { fr := mkF 24 [(0, .int .i64 x.1), (3, .sl true (x.2.map byteRow))], own := [3], hp := [], al := [], nb := 0 }
set_option maxHeartbeats 4000000 in
theorem call_55 (z : Int) (hz : z ≤ 9223372036854775807) : (Lim cfg).call 55 [.int .i64 z] [] = some (.str (numS z), false, []) := by
  by_cases h : z < 0
  · rw [numS, if_pos h]
    refine call_eq fn_55 rfl ?_
    rw [k_start]
    simp only [Try.f55, st0, Nat.zero_add]
    simp only [go_sem, Nat.reduceAdd, Nat.reduceSub, Nat.reduceMul, Nat.reduceLT, Nat.reduceLeDiff, Nat.reduceEqDiff, Nat.reduceBEq, Nat.reduceBNe, reduceCtorEq, Int.reduceBNe, Int.reduceBEq, ty_3, ty_5, ty_9, ty_108, ty_146, h]
    exact ret1n (fun _ => ex_ret) rfl rfl rfl ⟨rfl, rfl, rfl⟩
  · obtain ⟨n, rfl⟩ : ∃ n : Nat, z = n := ⟨z.toNat, by omega⟩
    rw [numS, if_neg h, Int.toNat_natCast]
    have hl := numB_len 8 n (by have : (128 : Nat) ^ 9 = 9223372036854775808 := by decide
                                omega)
    refine call_eq fn_55 rfl ?_
    rw [k_start]
    simp only [Try.f55, st0, Nat.zero_add]
    simp only [go_sem, Nat.reduceAdd, Nat.reduceSub, Nat.reduceMul, Nat.reduceLT, Nat.reduceLeDiff, Nat.reduceEqDiff, Nat.reduceBEq, Nat.reduceBNe, reduceCtorEq, Int.reduceBNe, Int.reduceBEq, ty_3, ty_5, ty_9, ty_108, ty_146, h]
    refine k_loop S60 (fun x => x.1 ≤ n ∧ x.2 ++ numB x.1 = numB n) (fun x => x.1) (n, []) (K := cfg.kill 55 4) rfl ⟨Nat.le_refl _, rfl⟩ (by kernel_rfl) ?_
    intro ⟨i, O⟩ ⟨hi, hO⟩ k' Q' hnorm hexit hret
    simp only at hi hO
    have hol : O.length ≤ 9 := by have := congrArg List.length hO; rw [List.length_append] at this; omega
    have hb : (O.length + 1) * 1 ≤ strMax := by unfold strMax; omega
    simp only [S60, mkF, List.foldl, st0, List.set]
    by_cases hg : (i : Int) > 127
    · have h0 : ¬ (128 : Int) = 0 := by omega
      have ha : Int.tmod (i : Int) 128 = ((i % 128 : Nat) : Int) := by rw [Int.tmod_eq_emod_of_nonneg (by omega)]; norm_cast
      have hq : IntKind.i64.wrap (Int.tdiv (i : Int) 128) = ((i / 128 : Nat) : Int) := by rw [Int.tdiv_eq_ediv_of_nonneg (by omega), wrap_i64 (by omega) (by omega)]; norm_cast
      have hs : IntKind.i64.wrap (128 + ((i % 128 : Nat) : Int)) = ((i % 128 + 128 : Nat) : Int) := by rw [wrap_i64 (by omega) (by omega)]; omega
      have hw : IntKind.u8.wrap ((i % 128 + 128 : Nat) : Int) = ((i % 128 + 128 : Nat) : Int) := wrap_u8 (by omega) (by omega)
      have er : O.map byteRow ++ [[.int .u8 ((i % 128 + 128 : Nat) : Int)]] = (O ++ [UInt8.ofNat (i % 128 + 128)]).map byteRow := by
        rw [List.map_append, List.map_cons, List.map_nil, byteRow_ofNat (by omega)]
      simp only [go_sem, Nat.reduceAdd, Nat.reduceSub, Nat.reduceMul, Nat.reduceLT, Nat.reduceLeDiff, Nat.reduceEqDiff, Nat.reduceBEq, Nat.reduceBNe, reduceCtorEq, Int.reduceBNe, Int.reduceBEq, ty_3, ty_5, ty_9, ty_108, ty_146, hg, hb, h0, ha, hq, hs, hw, fit_byte, Bool.not_or_self, er]
      refine hnorm (i / 128, O ++ [UInt8.ofNat (i % 128 + 128)]) _ ⟨by show i / 128 ≤ n; omega, ?_⟩ (by show i / 128 < i; omega) (by kernel_rfl)
      show O ++ [UInt8.ofNat (i % 128 + 128)] ++ numB (i / 128) = numB n
      rw [← hO, List.append_assoc, numB.eq_def i, if_neg (by omega)]; rfl
    · have hw : IntKind.u8.wrap (i : Int) = (i : Int) := wrap_u8 (by omega) (by omega)
      have er : O.map byteRow ++ [[.int .u8 (i : Int)]] = (numB n).map byteRow := by
        rw [← hO, numB, if_pos (by omega), List.map_append, List.map_cons, List.map_nil, byteRow_ofNat (by omega)]
      simp only [go_sem, Nat.reduceAdd, Nat.reduceSub, Nat.reduceMul, Nat.reduceLT, Nat.reduceLeDiff, Nat.reduceEqDiff, Nat.reduceBEq, Nat.reduceBNe, reduceCtorEq, Int.reduceBNe, Int.reduceBEq, ty_3, ty_5, ty_9, ty_108, ty_146, hg]
      refine hexit 0 _ ?_
      simp only [go_sem, Nat.reduceAdd, Nat.reduceSub, Nat.reduceMul, Nat.reduceLT, Nat.reduceLeDiff, Nat.reduceEqDiff, Nat.reduceBEq, Nat.reduceBNe, reduceCtorEq, Int.reduceBNe, Int.reduceBEq, ty_3, ty_5, ty_9, ty_108, ty_146, hb, hw, fit_byte, Bool.not_or_self, er, mapM_byte]
      exact ret1n (fun _ => ex_ret) rfl rfl rfl ⟨rfl, rfl, rfl⟩
end Go.Proofs.Ythikboobkmfgfaa
