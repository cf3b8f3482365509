/- The sum of bytes: plain. -/
import Derived.Test.YthikboobkmfgfaaD22
set_option linter.all false
set_option maxRecDepth 100000
namespace Go.Proofs.Ythikboobkmfgfaa
open Go Go.Abs

/-- One step of the sum; a byte's eight; all bytes'. -/
def stepN (c : Nat) : Nat := if c % 2 = 1 then (c / 2) ^^^ 3988292384 else c / 2
def stepsN : Nat → Nat → Nat
  | 0, c => c
  | k + 1, c => stepsN k (stepN c)
def byteN (c : Nat) (b : UInt8) : Nat := stepsN 8 (c ^^^ b.toNat)
def restN (s : List UInt8) (c : Nat) : Nat := s.foldl byteN c
def sumN (s : List UInt8) : Nat := 4294967295 - restN s 4294967295
theorem xor_lt32 {a b : Nat} (ha : a < 4294967296) (hb : b < 4294967296) : a ^^^ b < 4294967296 := Nat.xor_lt_two_pow (n := 32) ha hb
theorem stepN_lt {c : Nat} (h : c < 4294967296) : stepN c < 4294967296 := by
  unfold stepN; split
  · exact xor_lt32 (by omega) (by omega)
  · omega
theorem stepsN_lt : ∀ (k : Nat) {c : Nat}, c < 4294967296 → stepsN k c < 4294967296
  | 0, _, h => h
  | k + 1, _, h => stepsN_lt k (stepN_lt h)
theorem stepsN_succ : ∀ (k c : Nat), stepsN (k + 1) c = stepN (stepsN k c)
  | 0, _ => rfl
  | k + 1, c => by rw [stepsN, stepsN_succ k (stepN c)]; rfl
theorem byteN_lt {c : Nat} (b : UInt8) (h : c < 4294967296) : byteN c b < 4294967296 := stepsN_lt 8 (xor_lt32 h (by have := b.toNat_lt; omega))
theorem restN_lt : ∀ (s : List UInt8) {c : Nat}, c < 4294967296 → restN s c < 4294967296
  | [], _, h => h
  | b :: s, _, h => restN_lt s (byteN_lt b h)
theorem sumN_lt (s : List UInt8) : sumN s < 4294967296 := by unfold sumN; omega
theorem restN_step {s : List UInt8} {i : Nat} (h : i < s.length) (c : Nat) : restN (s.take (i + 1)) c = byteN (restN (s.take i) c) s[i] := by
  rw [List.take_succ_eq_append_getElem h, restN, List.foldl_append]; rfl
theorem wrap_u32 {n : Int} (h1 : 0 ≤ n) (h2 : n ≤ 4294967295) : IntKind.u32.wrap n = n := by
  show n % 4294967296 = n
  omega
theorem ofInt32 {n : Nat} (h : n < 4294967296) : (BitVec.ofInt 32 (n : Int)).toNat = n := by
  rw [BitVec.toNat_ofInt]; simp; omega
theorem xor_u32 {a b : Nat} (ha : a < 4294967296) (hb : b < 4294967296) : Abs.bits .u32 (· ^^^ ·) (a : Int) (b : Int) = .int .u32 ((a ^^^ b : Nat) : Int) := by
  have hx := xor_lt32 ha hb
  unfold Abs.bits
  have e : ((BitVec.ofInt 32 (a : Int)) ^^^ (BitVec.ofInt 32 (b : Int))).toNat = a ^^^ b := by rw [BitVec.toNat_xor, ofInt32 ha, ofInt32 hb]
  show V.int .u32 (IntKind.u32.wrap (((BitVec.ofInt 32 (a : Int)) ^^^ (BitVec.ofInt 32 (b : Int))).toNat : Nat)) = _
  rw [e, wrap_u32 (by omega) (by omega)]
theorem and_u32 {a b : Nat} (ha : a < 4294967296) (hb : b < 4294967296) : Abs.bits .u32 (· &&& ·) (a : Int) (b : Int) = .int .u32 ((a &&& b : Nat) : Int) := by
  have hx : a &&& b ≤ a := Nat.and_le_left
  unfold Abs.bits
  have e : ((BitVec.ofInt 32 (a : Int)) &&& (BitVec.ofInt 32 (b : Int))).toNat = a &&& b := by rw [BitVec.toNat_and, ofInt32 ha, ofInt32 hb]
  show V.int .u32 (IntKind.u32.wrap (((BitVec.ofInt 32 (a : Int)) &&& (BitVec.ofInt 32 (b : Int))).toNat : Nat)) = _
  rw [e, wrap_u32 (by omega) (by omega)]
theorem shr_u32 (n : Nat) : shiftOp .shr .u32 (n : Int) 1 = some (.int .u32 ((n / 2 : Nat) : Int)) := by
  show (if (1 : Int) < 0 then none else some (V.int .u32 (Int.fdiv (n : Int) (2 ^ (min (Int.toNat 1) 32))))) = _
  rw [if_neg (by omega)]
  show some (V.int .u32 (Int.fdiv (n : Int) 2)) = _
  rw [Int.fdiv_eq_ediv_of_nonneg _ (by omega)]
  norm_cast
/-- A step, as the program takes it. -/
theorem step_u32 {n : Nat} (h : n < 4294967296) : (n / 2) ^^^ (3988292384 &&& ((4294967296 - n % 2) % 4294967296)) = stepN n := by
  unfold stepN
  rcases Nat.mod_two_eq_zero_or_one n with h2 | h2
  · rw [h2]; simp
  · rw [h2, if_pos rfl]; rfl
end Go.Proofs.Ythikboobkmfgfaa
