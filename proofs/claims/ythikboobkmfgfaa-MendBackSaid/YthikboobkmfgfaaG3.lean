/- Readers of bytes: what a number's bytes say. -/
import Derived.Test.YthikboobkmfgfaaG2
set_option linter.all false
set_option maxRecDepth 100000
namespace Go.Proofs.Ythikboobkmfgfaa
open Go Go.Abs

/-- What stands at place i on: the error, the value, what is left. -/
def numG : Nat → List UInt8 → Int × Nat × List UInt8
  | _, [] => (5, 0, [])
  | i, b :: r => if i = 9 ∨ (0 < i ∧ b = 0) then (3, 0, []) else if b.toNat < 128 then (0, b.toNat, r) else ((numG (i + 1) r).1, b.toNat - 128 + 128 * (numG (i + 1) r).2.1, (numG (i + 1) r).2.2)
def numR (s : List UInt8) (e : Int) : Int × List UInt8 × Int := if e = 0 then (if (numG 0 s).1 = 0 then ((numG 0 s).2.1, (numG 0 s).2.2, 0) else (0, [], (numG 0 s).1)) else (0, s, e)
def rdB (s : List UInt8) (e : Int) : Blk := .cells 144 [] [.str s, .int .i64 e]
theorem call_78 (s : List UInt8) (e : Int) : (Lim cfg).call 78 [.ptr 0 0] [rdB s e] = some (.int .i64 e, false, [rdB s e]) := by
  refine call_eq fn_78 rfl ?_
  rw [k_start]
  simp only [Try.f78, rdB, List.length_cons, List.length_nil, Nat.zero_add, Nat.reduceSub, Nat.reduceAdd, List.replicate, List.cons_append, List.nil_append]
  simp only [go_sem, Nat.reduceAdd, Nat.reduceSub, Nat.reduceMul, Nat.reduceLT, Nat.reduceLeDiff, Nat.reduceEqDiff, Nat.reduceBEq, Nat.reduceBNe, reduceCtorEq, Int.reduceBNe, Int.reduceBEq, ty_96, ty_144, ty_9, ty_33]
  refine ⟨fun _ => ex_ret, .int .i64 e, false, rfl, rfl, rfl, ?_⟩
  kernel_rfl
theorem call_80 (s : List UInt8) (e c : Int) : (Lim cfg).call 80 [.ptr 0 0, .int .i64 c] [rdB s e] = some (.tup [], false, [if e = 0 then rdB [] c else rdB s e]) := by
  by_cases h : e = 0
  · have h' : (e == 0) = true := by simp [h]
    rw [if_pos h]
    refine call_eq fn_80 rfl ?_
    rw [k_start]
    simp only [Try.f80, rdB, List.length_cons, List.length_nil, Nat.zero_add, Nat.reduceSub, Nat.reduceAdd, List.replicate, List.cons_append, List.nil_append]
    simp only [go_sem, Nat.reduceAdd, Nat.reduceSub, Nat.reduceMul, Nat.reduceLT, Nat.reduceLeDiff, Nat.reduceEqDiff, Nat.reduceBEq, Nat.reduceBNe, reduceCtorEq, Int.reduceBNe, Int.reduceBEq, ty_96, ty_144, ty_9, ty_33, h']
    exact ret0 (hp' := [rdB [] c]) (fun _ => ex_normal) (by kernel_rfl) ⟨rfl, rfl, rfl⟩
  · have h' : (e == 0) = false := by simp [h]
    rw [if_neg h]
    refine call_eq fn_80 rfl ?_
    rw [k_start]
    simp only [Try.f80, rdB, List.length_cons, List.length_nil, Nat.zero_add, Nat.reduceSub, Nat.reduceAdd, List.replicate, List.cons_append, List.nil_append]
    simp only [go_sem, Nat.reduceAdd, Nat.reduceSub, Nat.reduceMul, Nat.reduceLT, Nat.reduceLeDiff, Nat.reduceEqDiff, Nat.reduceBEq, Nat.reduceBNe, reduceCtorEq, Int.reduceBNe, Int.reduceBEq, ty_96, ty_144, ty_9, ty_33, h']
    exact ret0 (hp' := [rdB s e]) (fun _ => ex_normal) (by kernel_rfl) ⟨rfl, rfl, rfl⟩
theorem call_41 (s : List UInt8) : (Lim cfg).call 41 [.str s] [] = some (.ptr 0 0, false, [rdB s 0]) := by
  refine call_eq fn_41 rfl ?_
  rw [k_start]
  simp only [Try.f41, st0, Nat.zero_add]
  simp only [go_sem, Nat.reduceAdd, Nat.reduceSub, Nat.reduceMul, Nat.reduceLT, Nat.reduceLeDiff, Nat.reduceEqDiff, Nat.reduceBEq, Nat.reduceBNe, reduceCtorEq, Int.reduceBNe, Int.reduceBEq, ty_9, ty_33, ty_144]
  refine ⟨fun _ => ex_ret, .ptr 0 0, false, rfl, rfl, rfl, ?_⟩
  kernel_rfl
end Go.Proofs.Ythikboobkmfgfaa
set_option linter.all false
set_option maxRecDepth 100000
namespace Go.Proofs.Ythikboobkmfgfaa
open Go Go.Abs

def wholeG : Nat → List UInt8 → Bool
  | _, [] => false
  | i, b :: r => if i = 9 ∨ b.toNat < 128 then true else wholeG (i + 1) r
def S70 (s : List UInt8) (i : Nat) : St := { fr := mkF 18 [(0, .str s), (5, .int .i64 s.length), (6, .int .i64 i)], own := [], hp := [], al := [], nb := 0 }
set_option maxHeartbeats 4000000 in
theorem call_95 (s : List UInt8) (hlen : s.length ≤ 1000000000) : (Lim cfg).call 95 [.str s] [] = some (.bool (wholeG 0 s), false, []) := by
  refine call_eq fn_95 rfl ?_
  rw [k_start]
  simp only [Try.f95, st0, Nat.zero_add]
  simp only [go_sem, Nat.reduceAdd, Nat.reduceSub, Nat.reduceMul, Nat.reduceLT, Nat.reduceLeDiff, Nat.reduceEqDiff, Nat.reduceBEq, Nat.reduceBNe, reduceCtorEq, Int.reduceBNe, Int.reduceBEq, ty_9, ty_3, ty_5]
  refine k_loop (S70 s) (fun i => i ≤ s.length ∧ wholeG 0 s = wholeG i (s.drop i)) (fun i => s.length - i) 0 (K := cfg.kill 95 2) rfl ⟨Nat.zero_le _, rfl⟩ (by kernel_rfl) ?_
  intro i ⟨hi, hc⟩ k' Q' hnorm hexit hret
  simp only [S70, mkF, List.foldl, st0, List.set]
  by_cases hlt : i < s.length
  · have h1 : (i : Int) < (s.length : Int) := by omega
    have h2 : ¬ ((i : Int) < 0) := by omega
    have hx : s[i]? = some s[i] := List.getElem?_eq_getElem hlt
    have hd := List.drop_eq_getElem_cons hlt
    have done : ∀ s1 : St, s1.fr.getD 2 .any = .bool true → (i = 9 ∨ s[i].toNat < 128) → WK cfg 95 none k' Q' .ret s1 := fun s1 e1 e2 => by
      refine hret _ ?_
      simp only [k_blk_ret, k_code_ret, k_nil]
      refine ret1n (fun _ => ex_ret) e1 rfl rfl ⟨?_, rfl, rfl⟩
      rw [hc, hd, wholeG, if_pos e2]
    by_cases h9 : i = 9
    · have h9' : ((i : Int) == 9) = true := by simp [h9]
      simp only [go_sem, Nat.reduceAdd, Nat.reduceSub, Nat.reduceMul, Nat.reduceLT, Nat.reduceLeDiff, Nat.reduceEqDiff, Nat.reduceBEq, Nat.reduceBNe, reduceCtorEq, Int.reduceBNe, Int.reduceBEq, ty_9, ty_3, ty_5, h1, h2, hx, h9', Int.toNat_natCast]
      exact done _ rfl (.inl h9)
    · have h9' : ((i : Int) == 9) = false := by simp; omega
      by_cases hb : s[i].toNat < 128
      · have hb' : ((s[i].toNat : Nat) : Int) < 128 := by omega
        simp only [go_sem, Nat.reduceAdd, Nat.reduceSub, Nat.reduceMul, Nat.reduceLT, Nat.reduceLeDiff, Nat.reduceEqDiff, Nat.reduceBEq, Nat.reduceBNe, reduceCtorEq, Int.reduceBNe, Int.reduceBEq, ty_9, ty_3, ty_5, h1, h2, hx, h9', hb', Int.toNat_natCast]
        exact done _ rfl (.inr hb)
      · have hb' : ¬ ((s[i].toNat : Nat) : Int) < 128 := by omega
        simp only [go_sem, Nat.reduceAdd, Nat.reduceSub, Nat.reduceMul, Nat.reduceLT, Nat.reduceLeDiff, Nat.reduceEqDiff, Nat.reduceBEq, Nat.reduceBNe, reduceCtorEq, Int.reduceBNe, Int.reduceBEq, ty_9, ty_3, ty_5, h1, h2, hx, h9', hb', Int.toNat_natCast]
        rw [wrap_i64 (by omega) (by omega)]
        refine hnorm (i + 1) _ ⟨by omega, ?_⟩ (by omega) (by kernel_rfl)
        rw [hc, hd, wholeG, if_neg (by omega)]
  · have h1 : ¬ (i : Int) < (s.length : Int) := by omega
    simp only [go_sem, Nat.reduceAdd, Nat.reduceSub, Nat.reduceMul, Nat.reduceLT, Nat.reduceLeDiff, Nat.reduceEqDiff, Nat.reduceBEq, Nat.reduceBNe, reduceCtorEq, Int.reduceBNe, Int.reduceBEq, ty_9, ty_3, ty_5, h1]
    refine hexit 0 _ ?_
    simp only [go_sem, Nat.reduceAdd, Nat.reduceSub, Nat.reduceMul, Nat.reduceLT, Nat.reduceLeDiff, Nat.reduceEqDiff, Nat.reduceBEq, Nat.reduceBNe, reduceCtorEq, Int.reduceBNe, Int.reduceBEq]
    refine ret1n (fun _ => ex_ret) rfl rfl rfl ⟨?_, rfl, rfl⟩
    rw [hc, List.drop_of_length_le (by omega)]; rfl
end Go.Proofs.Ythikboobkmfgfaa
set_option linter.all false
set_option maxRecDepth 100000
namespace Go.Proofs.Ythikboobkmfgfaa
open Go Go.Abs

theorem pow7_le {i : Nat} (hi : i ≤ 8) : 2 ^ (7 * i) ≤ 72057594037927936 := by
  have := Nat.pow_le_pow_right (n := 2) (by omega) (show 7 * i ≤ 56 by omega)
  have e : (2 : Nat) ^ 56 = 72057594037927936 := by decide
  omega
theorem mul7_lt {b i : Nat} (hi : i ≤ 8) (hb : b < 128) : b * 2 ^ (7 * i) < 9223372036854775808 := by
  have h1 := pow7_le hi
  have h2 : b * 2 ^ (7 * i) ≤ 127 * 2 ^ (7 * i) := Nat.mul_le_mul_right _ (by omega)
  omega
theorem or_shl {n b i : Nat} (hi : i ≤ 8) (hn : n < 2 ^ (7 * i)) (hb : b < 128) : Abs.bits .i64 (· ||| ·) (n : Int) ((b * 2 ^ (7 * i) : Nat) : Int) = .int .i64 ((n + b * 2 ^ (7 * i) : Nat) : Int) := by
  have h1 := pow7_le hi
  have h3 : b * 2 ^ (7 * i) ≤ 127 * 2 ^ (7 * i) := Nat.mul_le_mul_right _ (by omega)
  have e : (BitVec.ofInt 64 (n : Int) ||| BitVec.ofInt 64 ((b * 2 ^ (7 * i) : Nat) : Int)).toNat = n + b * 2 ^ (7 * i) := by
    have e1 : (BitVec.ofInt 64 (n : Int)).toNat = n := by
      rw [BitVec.ofInt_natCast, BitVec.toNat_ofNat, Nat.mod_eq_of_lt (by omega)]
    have e2 : (BitVec.ofInt 64 ((b * 2 ^ (7 * i) : Nat) : Int)).toNat = 2 ^ (7 * i) * b := by
      rw [BitVec.ofInt_natCast, BitVec.toNat_ofNat, Nat.mod_eq_of_lt (by omega), Nat.mul_comm]
    rw [BitVec.toNat_or, e1, e2, Nat.or_comm, ← Nat.two_pow_add_eq_or_of_lt hn b, Nat.mul_comm, Nat.add_comm]
  show V.int .i64 (IntKind.i64.wrap ((BitVec.ofInt 64 (n : Int) ||| BitVec.ofInt 64 ((b * 2 ^ (7 * i) : Nat) : Int)).toNat : Nat)) = _
  rw [e, wrap_i64 (by omega) (by omega)]
theorem shl_7 {b i : Nat} (hi : i ≤ 8) (hb : b < 128) : shiftOp .shl .i64 (b : Int) (7 * (i : Int)) = some (.int .i64 ((b * 2 ^ (7 * i) : Nat) : Int)) := by
  have e : min (7 * (i : Int)).toNat IntKind.i64.bits = 7 * i := by
    rw [show (7 * (i : Int)).toNat = 7 * i by omega]
    exact Nat.min_eq_left (by show 7 * i ≤ 64; omega)
  have h := mul7_lt hi hb
  simp only [shiftOp, e]
  rw [if_neg (by omega), show (b : Int) * 2 ^ (7 * i) = ((b * 2 ^ (7 * i) : Nat) : Int) by push_cast; rfl, wrap_i64 (by omega) (by omega)]
theorem and_127u {n : Nat} (h : n < 256) : Abs.bits .u8 (· &&& ·) (n : Int) 127 = .int .u8 ((n % 128 : Nat) : Int) := by
  have e : (BitVec.ofInt 8 (n : Int) &&& BitVec.ofInt 8 127).toNat = n % 128 := by
    have h1 : (BitVec.ofInt 8 (n : Int)).toNat = n := by
      rw [BitVec.ofInt_natCast, BitVec.toNat_ofNat, Nat.mod_eq_of_lt (by omega)]
    have h2 : (BitVec.ofInt 8 127).toNat = 2 ^ 7 - 1 := by decide
    rw [BitVec.toNat_and, h1, h2, Nat.and_two_pow_sub_one_eq_mod]
  show V.int .u8 (IntKind.u8.wrap ((BitVec.ofInt 8 (n : Int) &&& BitVec.ofInt 8 127).toNat : Nat)) = _
  rw [e, wrap_u8 (by omega) (by omega)]
end Go.Proofs.Ythikboobkmfgfaa
