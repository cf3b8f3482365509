/- Numbers as bytes: the program's answer, and the document's. -/
import Derived.Test.YtliohdlkocnfbaaD4
set_option linter.all false
set_option maxRecDepth 100000
namespace Go.Proofs.Ytliohdlkocnfbaa
open Go Go.Abs

theorem wrap_u8 {n : Int} (h1 : 0 ≤ n) (h2 : n ≤ 255) : IntKind.u8.wrap n = n := by
  show n % 256 = n
  omega
theorem and_127 {n : Nat} (h : n < 9223372036854775808) : Abs.bits .i64 (· &&& ·) (n : Int) 127 = .int .i64 ((n % 128 : Nat) : Int) := by
  have e : (BitVec.ofInt 64 (n : Int) &&& BitVec.ofInt 64 127).toNat = n % 128 := by
    have h1 : (BitVec.ofInt 64 (n : Int)).toNat = n := by
      rw [BitVec.ofInt_natCast, BitVec.toNat_ofNat, Nat.mod_eq_of_lt (by omega)]
    have h2 : (BitVec.ofInt 64 127).toNat = 2 ^ 7 - 1 := by decide
    rw [BitVec.toNat_and, h1, h2, Nat.and_two_pow_sub_one_eq_mod]
  show V.int .i64 (IntKind.i64.wrap ((BitVec.ofInt 64 (n : Int) &&& BitVec.ofInt 64 127).toNat : Nat)) = _
  rw [e, wrap_i64 (by omega) (by omega)]
theorem or_128 {n : Nat} (h : n < 128) : Abs.bits .u8 (· ||| ·) (n : Int) 128 = .int .u8 ((n + 128 : Nat) : Int) := by
  have e : (BitVec.ofInt 8 (n : Int) ||| BitVec.ofInt 8 128).toNat = n + 128 := by
    have h1 : (BitVec.ofInt 8 (n : Int)).toNat = n := by
      rw [BitVec.ofInt_natCast, BitVec.toNat_ofNat, Nat.mod_eq_of_lt (by omega)]
    have h2 : (BitVec.ofInt 8 128).toNat = 2 ^ 7 * 1 := by decide
    rw [BitVec.toNat_or, h1, h2, Nat.or_comm, ← Nat.two_pow_add_eq_or_of_lt (i := 7) (by omega) 1]
    omega
  show V.int .u8 (IntKind.u8.wrap ((BitVec.ofInt 8 (n : Int) ||| BitVec.ofInt 8 128).toNat : Nat)) = _
  rw [e, wrap_u8 (by omega) (by omega)]
theorem shr_7 (n : Nat) : shiftOp .shr .i64 (n : Int) 7 = some (.int .i64 ((n / 128 : Nat) : Int)) := by
  have e : (2 : Int) ^ (min (7 : Int).toNat IntKind.i64.bits) = 128 := by decide
  simp only [shiftOp, e]
  rw [if_neg (by omega), Int.fdiv_eq_ediv_of_nonneg _ (by omega)]; norm_cast

def numB (n : Nat) : List UInt8 := if n < 128 then [UInt8.ofNat n] else UInt8.ofNat (n % 128 + 128) :: numB (n / 128)
termination_by n
decreasing_by omega
def numS (z : Int) : List UInt8 := if z < 0 then [] else numB z.toNat
theorem numB_len : ∀ (k n : Nat), n < 128 ^ (k + 1) → (numB n).length ≤ k + 1
  | k, n, h => by
    rw [numB]
    split
    · simp
    · cases k with
      | zero => omega
      | succ k =>
        have := numB_len k (n / 128) (by rw [Nat.div_lt_iff_lt_mul (by omega)]; rw [Nat.pow_succ] at h; exact h)
        simp only [List.length_cons]; omega
theorem byteRow_ofNat {n : Nat} (h : n < 256) : byteRow (UInt8.ofNat n) = [.int .u8 (n : Int)] := by
  have : (UInt8.ofNat n).toNat = n := UInt8.toNat_ofNat_of_lt' (by exact h)
  rw [byteRow, this]
theorem fit_byte (l : List UInt8) : rowsFit 1 (l.map byteRow) = true := by cases l <;> rfl
theorem mapM_byte : ∀ l : List UInt8, (l.map byteRow).mapM rowByte = some l
  | [] => rfl
  | b :: l => by
    have hb : rowByte (byteRow b) = some b := by simp [byteRow, rowByte]
    rw [List.map_cons, List.mapM_cons, hb, mapM_byte l]; rfl

end Go.Proofs.Ytliohdlkocnfbaa
