/- A number of four bytes: the program's answer. -/
import Derived.Test.YthikboobkmfgfaaM28
set_option linter.all false
set_option maxRecDepth 100000
namespace Go.Proofs.Ythikboobkmfgfaa
open Go Go.Abs

def numI (s : List UInt8) : Nat → Nat
  | 0 => 0
  | i + 1 => numI s i * 256 + (s.getD i 0).toNat
theorem readK_step {s : List UInt8} (h : 4 ≤ s.length) : readK s = numI s 4 :: readK (s.drop 4) := by
  match s, h with
  | a :: b :: c :: d :: r, _ =>
    rw [readK]
    congr 1
    simp [numI, numK]
theorem numI_lt (s : List UInt8) : ∀ i, numI s i < 256 ^ i
  | 0 => by simp [numI]
  | i + 1 => by
    have h1 := numI_lt s i
    have h2 := (s.getD i 0).toNat_lt
    rw [numI, Nat.pow_succ]
    omega
theorem or_256 {n b : Nat} (hn : n < 16777216) (hb : b < 256) : Abs.bits .u32 (· ||| ·) ((n * 256 : Nat) : Int) (b : Int) = .int .u32 ((n * 256 + b : Nat) : Int) := by
  have e : (BitVec.ofInt 32 ((n * 256 : Nat) : Int) ||| BitVec.ofInt 32 (b : Int)).toNat = n * 256 + b := by
    have e1 : (BitVec.ofInt 32 ((n * 256 : Nat) : Int)).toNat = 2 ^ 8 * n := by
      rw [BitVec.ofInt_natCast, BitVec.toNat_ofNat, Nat.mod_eq_of_lt (by omega), Nat.mul_comm]
    have e2 : (BitVec.ofInt 32 (b : Int)).toNat = b := by
      rw [BitVec.ofInt_natCast, BitVec.toNat_ofNat, Nat.mod_eq_of_lt (by omega)]
    rw [BitVec.toNat_or, e1, e2, ← Nat.two_pow_add_eq_or_of_lt (i := 8) hb n]
    omega
  show V.int .u32 (IntKind.u32.wrap ((BitVec.ofInt 32 ((n * 256 : Nat) : Int) ||| BitVec.ofInt 32 (b : Int)).toNat : Nat)) = _
  rw [e]
  show V.int .u32 (((n * 256 + b : Nat) : Int) % 4294967296) = _
  rw [Int.emod_eq_of_lt (by omega) (by omega)]
theorem shl_8 {n : Nat} (hn : n < 16777216) : shiftOp .shl .u32 (n : Int) 8 = some (.int .u32 ((n * 256 : Nat) : Int)) := by
  have e : (2 : Int) ^ (min (8 : Int).toNat IntKind.u32.bits) = 256 := by decide
  simp only [shiftOp, e]
  rw [if_neg (by omega)]
  show some (V.int .u32 ((n : Int) * 256 % 4294967296)) = _
  rw [Int.emod_eq_of_lt (by omega) (by omega)]; norm_cast
theorem u32_byte (b : UInt8) : IntKind.u32.wrap (b.toNat : Int) = (b.toNat : Int) := by
  have := b.toNat_lt
  show (b.toNat : Int) % 4294967296 = _
  omega
def T46 (s : List UInt8) (i : Nat) : St := { fr := mkF 17 [(0, .str s), (3, .int .u32 (numI s i)), (5, .int .i64 i)], own := [], hp := [], al := [], nb := 0 }
set_option maxHeartbeats 4000000 in
theorem call_46 (s : List UInt8) (h : 4 ≤ s.length) (hlen : s.length ≤ 1000000000) : (Lim cfg).call 46 [.str s] [] = some (.int .u32 (numI s 4), false, []) := by
  refine call_eq fn_46 rfl ?_
  rw [k_start]
  simp only [Try.f46, st0, Nat.zero_add]
  repeat' (first | simp (maxSteps := 10000000) (disch := omega) only [go_sem, Nat.reduceAdd, Nat.reduceSub, Nat.reduceMul, Nat.reduceLT, Nat.reduceLeDiff, Nat.reduceEqDiff, Nat.reduceBEq, Nat.reduceBNe, reduceCtorEq, Int.reduceBNe, Int.reduceBEq, au, lst, if_pos, if_neg] | simp (disch := (simp only [lens]; omega)) only [str_add, if_pos, if_neg] | ((with_reducible first | refine WC_split ?_ ?_ | refine WS_split ?_ ?_ | refine WD_split ?_ ?_) <;> intro hc <;> (try simp only [hc]) <;> (try simp only [bools] at hc) <;> (try (have hb : @Eq Bool _ _ := hc; simp only [hb]; clear hb))))
  refine k_loop (T46 s) (fun i => i ≤ 4) (fun i => 4 - i) 0 (K := cfg.kill 46 3) rfl (Nat.zero_le _) (by kernel_rfl) ?_
  intro i hi k' Q' hnorm hexit hret
  simp only [T46, mkF, List.foldl, st0, List.set]
  by_cases hlt : i < 4
  · have h1 := numI_lt s i
    have h2 : 256 ^ i ≤ 16777216 := by
      have hc : i = 0 ∨ i = 1 ∨ i = 2 ∨ i = 3 := by omega
      rcases hc with rfl | rfl | rfl | rfl <;> decide
    have hx : s[i]? = some s[i] := List.getElem?_eq_getElem (by omega)
    have e1 : numI s (i + 1) = numI s i * 256 + s[i].toNat := by rw [numI, List.getD_eq_getElem?_getD, hx]; rfl
    have ho := or_256 (n := numI s i) (b := s[i].toNat) (by omega) s[i].toNat_lt
    have hs := shl_8 (n := numI s i) (by omega)
    repeat' (first | simp (maxSteps := 10000000) (disch := omega) only [go_sem, Nat.reduceAdd, Nat.reduceSub, Nat.reduceMul, Nat.reduceLT, Nat.reduceLeDiff, Nat.reduceEqDiff, Nat.reduceBEq, Nat.reduceBNe, reduceCtorEq, Int.reduceBNe, Int.reduceBEq, au, lst, if_pos, if_neg, hx, hs, ho, u32_byte] | simp (disch := (simp only [lens]; omega)) only [str_add, if_pos, if_neg] | ((with_reducible first | refine WC_split ?_ ?_ | refine WS_split ?_ ?_ | refine WD_split ?_ ?_) <;> intro hc <;> (try simp only [hc]) <;> (try simp only [bools] at hc) <;> (try (have hb : @Eq Bool _ _ := hc; simp only [hb]; clear hb))))
    refine hnorm (i + 1) _ (by omega) (by omega) ?_
    rw [T46, e1]
    kernel_rfl
  · have e : i = 4 := by omega
    subst e
    repeat' (first | simp (maxSteps := 10000000) (disch := omega) only [go_sem, Nat.reduceAdd, Nat.reduceSub, Nat.reduceMul, Nat.reduceLT, Nat.reduceLeDiff, Nat.reduceEqDiff, Nat.reduceBEq, Nat.reduceBNe, reduceCtorEq, Int.reduceBNe, Int.reduceBEq, au, lst, if_pos, if_neg] | simp (disch := (simp only [lens]; omega)) only [str_add, if_pos, if_neg] | ((with_reducible first | refine WC_split ?_ ?_ | refine WS_split ?_ ?_ | refine WD_split ?_ ?_) <;> intro hc <;> (try simp only [hc]) <;> (try simp only [bools] at hc) <;> (try (have hb : @Eq Bool _ _ := hc; simp only [hb]; clear hb))))
    refine hexit _ _ ?_
    repeat' (first | simp (maxSteps := 10000000) (disch := omega) only [go_sem, Nat.reduceAdd, Nat.reduceSub, Nat.reduceMul, Nat.reduceLT, Nat.reduceLeDiff, Nat.reduceEqDiff, Nat.reduceBEq, Nat.reduceBNe, reduceCtorEq, Int.reduceBNe, Int.reduceBEq, au, lst, if_pos, if_neg] | simp (disch := (simp only [lens]; omega)) only [str_add, if_pos, if_neg] | ((with_reducible first | refine WC_split ?_ ?_ | refine WS_split ?_ ?_ | refine WD_split ?_ ?_) <;> intro hc <;> (try simp only [hc]) <;> (try simp only [bools] at hc) <;> (try (have hb : @Eq Bool _ _ := hc; simp only [hb]; clear hb))))
    exact ret1n (fun _ => ex_ret) rfl rfl rfl ⟨rfl, rfl, rfl⟩
end Go.Proofs.Ythikboobkmfgfaa
