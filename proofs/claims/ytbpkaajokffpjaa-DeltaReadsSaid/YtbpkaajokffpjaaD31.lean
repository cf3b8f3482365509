/- Readers of bytes: Abs.bits put together. -/
import Derived.Test.YtbpkaajokffpjaaD30
set_option linter.all false
set_option maxRecDepth 100000
namespace Go.Proofs.Ytbpkaajokffpjaa
open Go Go.Abs

theorem pow7_le {i : Nat} (hi : i ≤ 8) : 2 ^ (7 * i) ≤ 72057594037927936 := by
  have := Nat.pow_le_pow_right (n := 2) (by omega) (show 7 * i ≤ 56 by omega)
  have e : (2 : Nat) ^ 56 = 72057594037927936 := by decide
  omega
theorem mul7_lt {b i : Nat} (hi : i ≤ 8) (hb : b < 128) : b * 2 ^ (7 * i) < 9223372036854775808 := by
  have h1 := pow7_le hi
  have h2 : b * 2 ^ (7 * i) ≤ 127 * 2 ^ (7 * i) := Nat.mul_le_mul_right _ (by omega)
  omega
theorem or_shl {n b i : Nat} (hi : i ≤ 8) (hn : n < 2 ^ (7 * i)) (hb : b < 128) : Abs.bits .i64 (· ||| ·) (n : Int) ((b * 2 ^ (7 * i) : Nat) : Int) = .int .i64 ((n + b * 2 ^ (7 * i) : Nat) : Int) := by
  have h1 := pow7_le hi
  have h3 : b * 2 ^ (7 * i) ≤ 127 * 2 ^ (7 * i) := Nat.mul_le_mul_right _ (by omega)
  have e : (BitVec.ofInt 64 (n : Int) ||| BitVec.ofInt 64 ((b * 2 ^ (7 * i) : Nat) : Int)).toNat = n + b * 2 ^ (7 * i) := by
    have e1 : (BitVec.ofInt 64 (n : Int)).toNat = n := by
      rw [BitVec.ofInt_natCast, BitVec.toNat_ofNat, Nat.mod_eq_of_lt (by omega)]
    have e2 : (BitVec.ofInt 64 ((b * 2 ^ (7 * i) : Nat) : Int)).toNat = 2 ^ (7 * i) * b := by
      rw [BitVec.ofInt_natCast, BitVec.toNat_ofNat, Nat.mod_eq_of_lt (by omega), Nat.mul_comm]
    rw [BitVec.toNat_or, e1, e2, Nat.or_comm, ← Nat.two_pow_add_eq_or_of_lt hn b, Nat.mul_comm, Nat.add_comm]
  show V.int .i64 (IntKind.i64.wrap ((BitVec.ofInt 64 (n : Int) ||| BitVec.ofInt 64 ((b * 2 ^ (7 * i) : Nat) : Int)).toNat : Nat)) = _
  rw [e, wrap_i64 (by omega) (by omega)]
theorem shl_7 {b i : Nat} (hi : i ≤ 8) (hb : b < 128) : shiftOp .shl .i64 (b : Int) (7 * (i : Int)) = some (.int .i64 ((b * 2 ^ (7 * i) : Nat) : Int)) := by
  have e : min (7 * (i : Int)).toNat IntKind.i64.bits = 7 * i := by
    rw [show (7 * (i : Int)).toNat = 7 * i by omega]
    exact Nat.min_eq_left (by show 7 * i ≤ 64; omega)
  have h := mul7_lt hi hb
  simp only [shiftOp, e]
  rw [if_neg (by omega), show (b : Int) * 2 ^ (7 * i) = ((b * 2 ^ (7 * i) : Nat) : Int) by push_cast; rfl, wrap_i64 (by omega) (by omega)]
theorem and_127u {n : Nat} (h : n < 256) : Abs.bits .u8 (· &&& ·) (n : Int) 127 = .int .u8 ((n % 128 : Nat) : Int) := by
  have e : (BitVec.ofInt 8 (n : Int) &&& BitVec.ofInt 8 127).toNat = n % 128 := by
    have h1 : (BitVec.ofInt 8 (n : Int)).toNat = n := by
      rw [BitVec.ofInt_natCast, BitVec.toNat_ofNat, Nat.mod_eq_of_lt (by omega)]
    have h2 : (BitVec.ofInt 8 127).toNat = 2 ^ 7 - 1 := by decide
    rw [BitVec.toNat_and, h1, h2, Nat.and_two_pow_sub_one_eq_mod]
  show V.int .u8 (IntKind.u8.wrap ((BitVec.ofInt 8 (n : Int) &&& BitVec.ofInt 8 127).toNat : Nat)) = _
  rw [e, wrap_u8 (by omega) (by omega)]
end Go.Proofs.Ytbpkaajokffpjaa
