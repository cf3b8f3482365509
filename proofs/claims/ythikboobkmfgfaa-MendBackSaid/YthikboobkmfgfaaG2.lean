/- Numbers as bytes: the program's answer, and the document's. -/
import Derived.Test.YthikboobkmfgfaaG1
set_option linter.all false
set_option maxRecDepth 100000
namespace Go.Proofs.Ythikboobkmfgfaa
open Go Go.Abs

theorem wrap_u8 {n : Int} (h1 : 0 ≤ n) (h2 : n ≤ 255) : IntKind.u8.wrap n = n := by
  show n % 256 = n
  omega
theorem and_127 {n : Nat} (h : n < 9223372036854775808) : Abs.bits .i64 (· &&& ·) (n : Int) 127 = .int .i64 ((n % 128 : Nat) : Int) := by
  have e : (BitVec.ofInt 64 (n : Int) &&& BitVec.ofInt 64 127).toNat = n % 128 := by
    have h1 : (BitVec.ofInt 64 (n : Int)).toNat = n := by
      rw [BitVec.ofInt_natCast, BitVec.toNat_ofNat, Nat.mod_eq_of_lt (by omega)]
    have h2 : (BitVec.ofInt 64 127).toNat = 2 ^ 7 - 1 := by decide
    rw [BitVec.toNat_and, h1, h2, Nat.and_two_pow_sub_one_eq_mod]
  show V.int .i64 (IntKind.i64.wrap ((BitVec.ofInt 64 (n : Int) &&& BitVec.ofInt 64 127).toNat : Nat)) = _
  rw [e, wrap_i64 (by omega) (by omega)]
theorem or_128 {n : Nat} (h : n < 128) : Abs.bits .u8 (· ||| ·) (n : Int) 128 = .int .u8 ((n + 128 : Nat) : Int) := by
  have e : (BitVec.ofInt 8 (n : Int) ||| BitVec.ofInt 8 128).toNat = n + 128 := by
    have h1 : (BitVec.ofInt 8 (n : Int)).toNat = n := by
      rw [BitVec.ofInt_natCast, BitVec.toNat_ofNat, Nat.mod_eq_of_lt (by omega)]
    have h2 : (BitVec.ofInt 8 128).toNat = 2 ^ 7 * 1 := by decide
    rw [BitVec.toNat_or, h1, h2, Nat.or_comm, ← Nat.two_pow_add_eq_or_of_lt (i := 7) (by omega) 1]
    omega
  show V.int .u8 (IntKind.u8.wrap ((BitVec.ofInt 8 (n : Int) ||| BitVec.ofInt 8 128).toNat : Nat)) = _
  rw [e, wrap_u8 (by omega) (by omega)]
theorem shr_7 (n : Nat) : shiftOp .shr .i64 (n : Int) 7 = some (.int .i64 ((n / 128 : Nat) : Int)) := by
  have e : (2 : Int) ^ (min (7 : Int).toNat IntKind.i64.bits) = 128 := by decide
  simp only [shiftOp, e]
  rw [if_neg (by omega), Int.fdiv_eq_ediv_of_nonneg _ (by omega)]; norm_cast

def numB (n : Nat) : List UInt8 := if n < 128 then [UInt8.ofNat n] else UInt8.ofNat (n % 128 + 128) :: numB (n / 128)
termination_by n
decreasing_by omega
def numS (z : Int) : List UInt8 := if z < 0 then [] else numB z.toNat
theorem numB_len : ∀ (k n : Nat), n < 128 ^ (k + 1) → (numB n).length ≤ k + 1
  | k, n, h => by
    rw [numB]
    split
    · simp
    · cases k with
      | zero => omega
      | succ k =>
        have := numB_len k (n / 128) (by rw [Nat.div_lt_iff_lt_mul (by omega)]; rw [Nat.pow_succ] at h; exact h)
        simp only [List.length_cons]; omega
theorem byteRow_ofNat {n : Nat} (h : n < 256) : byteRow (UInt8.ofNat n) = [.int .u8 (n : Int)] := by
  have : (UInt8.ofNat n).toNat = n := UInt8.toNat_ofNat_of_lt' (by exact h)
  rw [byteRow, this]
theorem fit_byte (l : List UInt8) : rowsFit 1 (l.map byteRow) = true := by cases l <;> rfl
theorem mapM_byte : ∀ l : List UInt8, (l.map byteRow).mapM rowByte = some l
  | [] => rfl
  | b :: l => by
    have hb : rowByte (byteRow b) = some b := by simp [byteRow, rowByte]
    rw [List.map_cons, List.mapM_cons, hb, mapM_byte l]; rfl

def S57 (x : Nat × List UInt8) : St := { fr := mkF 23 [(0, .int .i64 x.1), (3, .sl true (x.2.map byteRow))], own := [3], hp := [], al := [], nb := 0 }
set_option maxHeartbeats 4000000 in
theorem call_52 (z : Int) (hz : z ≤ 9223372036854775807) : (Lim cfg).call 52 [.int .i64 z] [] = some (.str (numS z), false, []) := by
  by_cases h : z < 0
  · rw [numS, if_pos h]
    refine call_eq fn_52 rfl ?_
    rw [k_start]
    simp only [Try.f52, st0, Nat.zero_add]
    simp only [go_sem, Nat.reduceAdd, Nat.reduceSub, Nat.reduceMul, Nat.reduceLT, Nat.reduceLeDiff, Nat.reduceEqDiff, Nat.reduceBEq, Nat.reduceBNe, reduceCtorEq, Int.reduceBNe, Int.reduceBEq, ty_3, ty_5, ty_9, ty_108, ty_146, h]
    exact ret1n (fun _ => ex_ret) rfl rfl rfl ⟨rfl, rfl, rfl⟩
  · obtain ⟨n, rfl⟩ : ∃ n : Nat, z = n := ⟨z.toNat, by omega⟩
    rw [numS, if_neg h, Int.toNat_natCast]
    have hl := numB_len 8 n (by have : (128 : Nat) ^ 9 = 9223372036854775808 := by decide
                                omega)
    refine call_eq fn_52 rfl ?_
    rw [k_start]
    simp only [Try.f52, st0, Nat.zero_add]
    simp only [go_sem, Nat.reduceAdd, Nat.reduceSub, Nat.reduceMul, Nat.reduceLT, Nat.reduceLeDiff, Nat.reduceEqDiff, Nat.reduceBEq, Nat.reduceBNe, reduceCtorEq, Int.reduceBNe, Int.reduceBEq, ty_3, ty_5, ty_9, ty_108, ty_146, h]
    refine k_loop S57 (fun x => x.1 ≤ n ∧ x.2 ++ numB x.1 = numB n) (fun x => x.1) (n, []) (K := cfg.kill 52 4) rfl ⟨Nat.le_refl _, rfl⟩ (by kernel_rfl) ?_
    intro ⟨i, O⟩ ⟨hi, hO⟩ k' Q' hnorm hexit hret
    simp only at hi hO
    have hol : O.length ≤ 9 := by have := congrArg List.length hO; rw [List.length_append] at this; omega
    have hb : (O.length + 1) * 1 ≤ strMax := by unfold strMax; omega
    simp only [S57, mkF, List.foldl, st0, List.set]
    by_cases hg : (i : Int) ≥ 128
    · have ha : Abs.bits .i64 (· &&& ·) (i : Int) 127 = .int .i64 ((i % 128 : Nat) : Int) := and_127 (by omega)
      have hw : IntKind.u8.wrap ((i % 128 : Nat) : Int) = ((i % 128 : Nat) : Int) := wrap_u8 (by omega) (by omega)
      have ho : Abs.bits .u8 (· ||| ·) ((i % 128 : Nat) : Int) 128 = .int .u8 ((i % 128 + 128 : Nat) : Int) := or_128 (by omega)
      have er : O.map byteRow ++ [[.int .u8 ((i % 128 + 128 : Nat) : Int)]] = (O ++ [UInt8.ofNat (i % 128 + 128)]).map byteRow := by
        rw [List.map_append, List.map_cons, List.map_nil, byteRow_ofNat (by omega)]
      simp only [go_sem, Nat.reduceAdd, Nat.reduceSub, Nat.reduceMul, Nat.reduceLT, Nat.reduceLeDiff, Nat.reduceEqDiff, Nat.reduceBEq, Nat.reduceBNe, reduceCtorEq, Int.reduceBNe, Int.reduceBEq, ty_3, ty_5, ty_9, ty_108, ty_146, hg, hb, shr_7, ha, hw, ho, fit_byte, Bool.not_or_self, er]
      refine hnorm (i / 128, O ++ [UInt8.ofNat (i % 128 + 128)]) _ ⟨by show i / 128 ≤ n; omega, ?_⟩ (by show i / 128 < i; omega) (by kernel_rfl)
      show O ++ [UInt8.ofNat (i % 128 + 128)] ++ numB (i / 128) = numB n
      rw [← hO, List.append_assoc, numB.eq_def i, if_neg (by omega)]; rfl
    · have hw : IntKind.u8.wrap (i : Int) = (i : Int) := wrap_u8 (by omega) (by omega)
      have er : O.map byteRow ++ [[.int .u8 (i : Int)]] = (numB n).map byteRow := by
        rw [← hO, numB, if_pos (by omega), List.map_append, List.map_cons, List.map_nil, byteRow_ofNat (by omega)]
      simp only [go_sem, Nat.reduceAdd, Nat.reduceSub, Nat.reduceMul, Nat.reduceLT, Nat.reduceLeDiff, Nat.reduceEqDiff, Nat.reduceBEq, Nat.reduceBNe, reduceCtorEq, Int.reduceBNe, Int.reduceBEq, ty_3, ty_5, ty_9, ty_108, ty_146, hg]
      refine hexit 0 _ ?_
      simp only [go_sem, Nat.reduceAdd, Nat.reduceSub, Nat.reduceMul, Nat.reduceLT, Nat.reduceLeDiff, Nat.reduceEqDiff, Nat.reduceBEq, Nat.reduceBNe, reduceCtorEq, Int.reduceBNe, Int.reduceBEq, ty_3, ty_5, ty_9, ty_108, ty_146, hb, hw, fit_byte, Bool.not_or_self, er, mapM_byte]
      exact ret1n (fun _ => ex_ret) rfl rfl rfl ⟨rfl, rfl, rfl⟩

def S60 (x : Nat × List UInt8) : St := { fr := mkF 24 [(0, .int .i64 x.1), (3, .sl true (x.2.map byteRow))], own := [3], hp := [], al := [], nb := 0 }
set_option maxHeartbeats 4000000 in
theorem call_55 (z : Int) (hz : z ≤ 9223372036854775807) : (Lim cfg).call 55 [.int .i64 z] [] = some (.str (numS z), false, []) := by
  by_cases h : z < 0
  · rw [numS, if_pos h]
    refine call_eq fn_55 rfl ?_
    rw [k_start]
    simp only [Try.f55, st0, Nat.zero_add]
    simp only [go_sem, Nat.reduceAdd, Nat.reduceSub, Nat.reduceMul, Nat.reduceLT, Nat.reduceLeDiff, Nat.reduceEqDiff, Nat.reduceBEq, Nat.reduceBNe, reduceCtorEq, Int.reduceBNe, Int.reduceBEq, ty_3, ty_5, ty_9, ty_108, ty_146, h]
    exact ret1n (fun _ => ex_ret) rfl rfl rfl ⟨rfl, rfl, rfl⟩
  · obtain ⟨n, rfl⟩ : ∃ n : Nat, z = n := ⟨z.toNat, by omega⟩
    rw [numS, if_neg h, Int.toNat_natCast]
    have hl := numB_len 8 n (by have : (128 : Nat) ^ 9 = 9223372036854775808 := by decide
                                omega)
    refine call_eq fn_55 rfl ?_
    rw [k_start]
    simp only [Try.f55, st0, Nat.zero_add]
    simp only [go_sem, Nat.reduceAdd, Nat.reduceSub, Nat.reduceMul, Nat.reduceLT, Nat.reduceLeDiff, Nat.reduceEqDiff, Nat.reduceBEq, Nat.reduceBNe, reduceCtorEq, Int.reduceBNe, Int.reduceBEq, ty_3, ty_5, ty_9, ty_108, ty_146, h]
    refine k_loop S60 (fun x => x.1 ≤ n ∧ x.2 ++ numB x.1 = numB n) (fun x => x.1) (n, []) (K := cfg.kill 55 4) rfl ⟨Nat.le_refl _, rfl⟩ (by kernel_rfl) ?_
    intro ⟨i, O⟩ ⟨hi, hO⟩ k' Q' hnorm hexit hret
    simp only at hi hO
    have hol : O.length ≤ 9 := by have := congrArg List.length hO; rw [List.length_append] at this; omega
    have hb : (O.length + 1) * 1 ≤ strMax := by unfold strMax; omega
    simp only [S60, mkF, List.foldl, st0, List.set]
    by_cases hg : (i : Int) > 127
    · have h0 : ¬ (128 : Int) = 0 := by omega
      have ha : Int.tmod (i : Int) 128 = ((i % 128 : Nat) : Int) := by rw [Int.tmod_eq_emod_of_nonneg (by omega)]; norm_cast
      have hq : IntKind.i64.wrap (Int.tdiv (i : Int) 128) = ((i / 128 : Nat) : Int) := by rw [Int.tdiv_eq_ediv_of_nonneg (by omega), wrap_i64 (by omega) (by omega)]; norm_cast
      have hs : IntKind.i64.wrap (128 + ((i % 128 : Nat) : Int)) = ((i % 128 + 128 : Nat) : Int) := by rw [wrap_i64 (by omega) (by omega)]; omega
      have hw : IntKind.u8.wrap ((i % 128 + 128 : Nat) : Int) = ((i % 128 + 128 : Nat) : Int) := wrap_u8 (by omega) (by omega)
      have er : O.map byteRow ++ [[.int .u8 ((i % 128 + 128 : Nat) : Int)]] = (O ++ [UInt8.ofNat (i % 128 + 128)]).map byteRow := by
        rw [List.map_append, List.map_cons, List.map_nil, byteRow_ofNat (by omega)]
      simp only [go_sem, Nat.reduceAdd, Nat.reduceSub, Nat.reduceMul, Nat.reduceLT, Nat.reduceLeDiff, Nat.reduceEqDiff, Nat.reduceBEq, Nat.reduceBNe, reduceCtorEq, Int.reduceBNe, Int.reduceBEq, ty_3, ty_5, ty_9, ty_108, ty_146, hg, hb, h0, ha, hq, hs, hw, fit_byte, Bool.not_or_self, er]
      refine hnorm (i / 128, O ++ [UInt8.ofNat (i % 128 + 128)]) _ ⟨by show i / 128 ≤ n; omega, ?_⟩ (by show i / 128 < i; omega) (by kernel_rfl)
      show O ++ [UInt8.ofNat (i % 128 + 128)] ++ numB (i / 128) = numB n
      rw [← hO, List.append_assoc, numB.eq_def i, if_neg (by omega)]; rfl
    · have hw : IntKind.u8.wrap (i : Int) = (i : Int) := wrap_u8 (by omega) (by omega)
      have er : O.map byteRow ++ [[.int .u8 (i : Int)]] = (numB n).map byteRow := by
        rw [← hO, numB, if_pos (by omega), List.map_append, List.map_cons, List.map_nil, byteRow_ofNat (by omega)]
      simp only [go_sem, Nat.reduceAdd, Nat.reduceSub, Nat.reduceMul, Nat.reduceLT, Nat.reduceLeDiff, Nat.reduceEqDiff, Nat.reduceBEq, Nat.reduceBNe, reduceCtorEq, Int.reduceBNe, Int.reduceBEq, ty_3, ty_5, ty_9, ty_108, ty_146, hg]
      refine hexit 0 _ ?_
      simp only [go_sem, Nat.reduceAdd, Nat.reduceSub, Nat.reduceMul, Nat.reduceLT, Nat.reduceLeDiff, Nat.reduceEqDiff, Nat.reduceBEq, Nat.reduceBNe, reduceCtorEq, Int.reduceBNe, Int.reduceBEq, ty_3, ty_5, ty_9, ty_108, ty_146, hb, hw, fit_byte, Bool.not_or_self, er, mapM_byte]
      exact ret1n (fun _ => ex_ret) rfl rfl rfl ⟨rfl, rfl, rfl⟩
end Go.Proofs.Ythikboobkmfgfaa
set_option linter.all false
set_option maxRecDepth 100000
namespace Go.Proofs.Ythikboobkmfgfaa
open Go Go.Abs

def mayZ (z : Int) : Bool := decide (-4611686018427387904 ≤ z ∧ z ≤ 4611686018427387903)
theorem call_82 (z : Int) : (Lim cfg).call 82 [.int .i64 z] [] = some (.bool (mayZ z), false, []) := by
  by_cases h1 : z ≥ -4611686018427387904
  · by_cases h2 : z ≤ 4611686018427387903
    · rw [mayZ, decide_eq_true ⟨h1, h2⟩]
      refine call_eq fn_82 rfl ?_
      rw [k_start]
      simp only [Try.f82, st0, Nat.zero_add]
      simp only [go_sem, Nat.reduceAdd, Nat.reduceSub, Nat.reduceMul, Nat.reduceLT, Nat.reduceLeDiff, Nat.reduceEqDiff, Nat.reduceBEq, Nat.reduceBNe, reduceCtorEq, Int.reduceBNe, Int.reduceBEq, ty_3, ty_4, h1, h2]
      exact ret1n (fun _ => ex_ret) rfl rfl rfl ⟨rfl, rfl, rfl⟩
    · rw [mayZ, decide_eq_false fun h => h2 h.2]
      refine call_eq fn_82 rfl ?_
      rw [k_start]
      simp only [Try.f82, st0, Nat.zero_add]
      simp only [go_sem, Nat.reduceAdd, Nat.reduceSub, Nat.reduceMul, Nat.reduceLT, Nat.reduceLeDiff, Nat.reduceEqDiff, Nat.reduceBEq, Nat.reduceBNe, reduceCtorEq, Int.reduceBNe, Int.reduceBEq, ty_3, ty_4, h1, h2]
      exact ret1n (fun _ => ex_ret) rfl rfl rfl ⟨rfl, rfl, rfl⟩
  · rw [mayZ, decide_eq_false fun h => h1 h.1]
    refine call_eq fn_82 rfl ?_
    rw [k_start]
    simp only [Try.f82, st0, Nat.zero_add]
    simp only [go_sem, Nat.reduceAdd, Nat.reduceSub, Nat.reduceMul, Nat.reduceLT, Nat.reduceLeDiff, Nat.reduceEqDiff, Nat.reduceBEq, Nat.reduceBNe, reduceCtorEq, Int.reduceBNe, Int.reduceBEq, ty_3, ty_4, h1]
    exact ret1n (fun _ => ex_ret) rfl rfl rfl ⟨rfl, rfl, rfl⟩
theorem call_83 (z : Int) : (Lim cfg).call 83 [.int .i64 z] [] = some (.bool (mayZ z), false, []) := by
  by_cases h1 : z ≥ -4611686018427387904
  · by_cases h2 : z ≤ 4611686018427387903
    · rw [mayZ, decide_eq_true ⟨h1, h2⟩]
      refine call_eq fn_83 rfl ?_
      rw [k_start]
      simp only [Try.f83, st0, Nat.zero_add]
      simp only [go_sem, Nat.reduceAdd, Nat.reduceSub, Nat.reduceMul, Nat.reduceLT, Nat.reduceLeDiff, Nat.reduceEqDiff, Nat.reduceBEq, Nat.reduceBNe, reduceCtorEq, Int.reduceBNe, Int.reduceBEq, ty_3, ty_4, h1, h2]
      exact ret1n (fun _ => ex_ret) rfl rfl rfl ⟨rfl, rfl, rfl⟩
    · rw [mayZ, decide_eq_false fun h => h2 h.2]
      refine call_eq fn_83 rfl ?_
      rw [k_start]
      simp only [Try.f83, st0, Nat.zero_add]
      simp only [go_sem, Nat.reduceAdd, Nat.reduceSub, Nat.reduceMul, Nat.reduceLT, Nat.reduceLeDiff, Nat.reduceEqDiff, Nat.reduceBEq, Nat.reduceBNe, reduceCtorEq, Int.reduceBNe, Int.reduceBEq, ty_3, ty_4, h1, h2]
      exact ret1n (fun _ => ex_ret) rfl rfl rfl ⟨rfl, rfl, rfl⟩
  · rw [mayZ, decide_eq_false fun h => h1 h.1]
    refine call_eq fn_83 rfl ?_
    rw [k_start]
    simp only [Try.f83, st0, Nat.zero_add]
    simp only [go_sem, Nat.reduceAdd, Nat.reduceSub, Nat.reduceMul, Nat.reduceLT, Nat.reduceLeDiff, Nat.reduceEqDiff, Nat.reduceBEq, Nat.reduceBNe, reduceCtorEq, Int.reduceBNe, Int.reduceBEq, ty_3, ty_4, h1]
    exact ret1n (fun _ => ex_ret) rfl rfl rfl ⟨rfl, rfl, rfl⟩

def zig (z : Int) : Int := if z < 0 then -2 * z - 1 else 2 * z
def wholeS (z : Int) : List UInt8 := if mayZ z then numS (zig z) else []
theorem call_51 (z : Int) : (Lim cfg).call 51 [.int .i64 z] [] = some (.str (wholeS z), false, []) := by
  cases h : mayZ z with
  | false =>
    rw [wholeS, h]
    refine call_eq fn_51 rfl ?_
    rw [k_start]
    simp only [Try.f51, st0, Nat.zero_add]
    simp only [go_sem, Nat.reduceAdd, Nat.reduceSub, Nat.reduceMul, Nat.reduceLT, Nat.reduceLeDiff, Nat.reduceEqDiff, Nat.reduceBEq, Nat.reduceBNe, reduceCtorEq, Int.reduceBNe, Int.reduceBEq, ty_3, ty_4, ty_9, call_82, h]
    exact ret1n (fun _ => ex_ret) rfl rfl rfl ⟨rfl, rfl, rfl⟩
  | true =>
    rw [wholeS, h, if_pos rfl]
    simp only [mayZ, decide_eq_true_eq] at h
    have hm : mayZ z = true := decide_eq_true h
    by_cases hz : z < 0
    · have w2 : IntKind.i64.wrap (IntKind.i64.wrap (-2 * z) - 1) = -2 * z - 1 := by
        by_cases he : z = -4611686018427387904
        · subst he; decide
        · rw [wrap_i64 (n := -2 * z) (by omega) (by omega), wrap_i64 (by omega) (by omega)]
      have c := call_52 (-2 * z - 1) (by omega)
      rw [zig, if_pos hz]
      refine call_eq fn_51 rfl ?_
      rw [k_start]
      simp only [Try.f51, st0, Nat.zero_add]
      simp only [go_sem, Nat.reduceAdd, Nat.reduceSub, Nat.reduceMul, Nat.reduceLT, Nat.reduceLeDiff, Nat.reduceEqDiff, Nat.reduceBEq, Nat.reduceBNe, reduceCtorEq, Int.reduceBNe, Int.reduceBEq, ty_3, ty_4, ty_9, call_82, hm, hz, w2, c]
      exact ret1n (fun _ => ex_ret) rfl rfl rfl ⟨rfl, rfl, rfl⟩
    · have w1 : IntKind.i64.wrap (2 * z) = 2 * z := wrap_i64 (by omega) (by omega)
      have c := call_52 (2 * z) (by omega)
      rw [zig, if_neg hz]
      refine call_eq fn_51 rfl ?_
      rw [k_start]
      simp only [Try.f51, st0, Nat.zero_add]
      simp only [go_sem, Nat.reduceAdd, Nat.reduceSub, Nat.reduceMul, Nat.reduceLT, Nat.reduceLeDiff, Nat.reduceEqDiff, Nat.reduceBEq, Nat.reduceBNe, reduceCtorEq, Int.reduceBNe, Int.reduceBEq, ty_3, ty_4, ty_9, call_82, hm, hz, w1, c]
      exact ret1n (fun _ => ex_ret) rfl rfl rfl ⟨rfl, rfl, rfl⟩
theorem call_54 (z : Int) : (Lim cfg).call 54 [.int .i64 z] [] = some (.str (wholeS z), false, []) := by
  cases h : mayZ z with
  | false =>
    rw [wholeS, h]
    refine call_eq fn_54 rfl ?_
    rw [k_start]
    simp only [Try.f54, st0, Nat.zero_add]
    simp only [go_sem, Nat.reduceAdd, Nat.reduceSub, Nat.reduceMul, Nat.reduceLT, Nat.reduceLeDiff, Nat.reduceEqDiff, Nat.reduceBEq, Nat.reduceBNe, reduceCtorEq, Int.reduceBNe, Int.reduceBEq, ty_3, ty_4, ty_9, call_83, h]
    exact ret1n (fun _ => ex_ret) rfl rfl rfl ⟨rfl, rfl, rfl⟩
  | true =>
    rw [wholeS, h, if_pos rfl]
    simp only [mayZ, decide_eq_true_eq] at h
    have hm : mayZ z = true := decide_eq_true h
    by_cases hz : z < 0
    · have hz' : ¬ z ≥ 0 := by omega
      have w0 : IntKind.i64.wrap (0 - z) = -z := by rw [wrap_i64 (by omega) (by omega)]; omega
      have w2 : IntKind.i64.wrap (IntKind.i64.wrap (-z - z) - 1) = -2 * z - 1 := by
        by_cases he : z = -4611686018427387904
        · subst he; decide
        · rw [wrap_i64 (n := -z - z) (by omega) (by omega), wrap_i64 (by omega) (by omega)]; omega
      have c := call_55 (-2 * z - 1) (by omega)
      rw [zig, if_pos hz]
      refine call_eq fn_54 rfl ?_
      rw [k_start]
      simp only [Try.f54, st0, Nat.zero_add]
      simp only [go_sem, Nat.reduceAdd, Nat.reduceSub, Nat.reduceMul, Nat.reduceLT, Nat.reduceLeDiff, Nat.reduceEqDiff, Nat.reduceBEq, Nat.reduceBNe, reduceCtorEq, Int.reduceBNe, Int.reduceBEq, ty_3, ty_4, ty_9, call_83, hm, hz', w0, w2, c]
      exact ret1n (fun _ => ex_ret) rfl rfl rfl ⟨rfl, rfl, rfl⟩
    · have hz' : z ≥ 0 := by omega
      have w1 : IntKind.i64.wrap (z + z) = 2 * z := by rw [wrap_i64 (by omega) (by omega)]; omega
      have c := call_55 (2 * z) (by omega)
      rw [zig, if_neg hz]
      refine call_eq fn_54 rfl ?_
      rw [k_start]
      simp only [Try.f54, st0, Nat.zero_add]
      simp only [go_sem, Nat.reduceAdd, Nat.reduceSub, Nat.reduceMul, Nat.reduceLT, Nat.reduceLeDiff, Nat.reduceEqDiff, Nat.reduceBEq, Nat.reduceBNe, reduceCtorEq, Int.reduceBNe, Int.reduceBEq, ty_3, ty_4, ty_9, call_83, hm, hz', w1, c]
      exact ret1n (fun _ => ex_ret) rfl rfl rfl ⟨rfl, rfl, rfl⟩
theorem numS_len {z : Int} (h : z ≤ 9223372036854775807) : (numS z).length ≤ 9 := by
  unfold numS
  split
  · simp
  · exact numB_len 8 _ (by have : (128 : Nat) ^ 9 = 9223372036854775808 := by decide
                           omega)
theorem wholeS_len (z : Int) : (wholeS z).length ≤ 9 := by
  unfold wholeS
  split
  · rename_i h
    simp only [mayZ, decide_eq_true_eq] at h
    exact numS_len (by unfold zig; split <;> omega)
  · simp
theorem numS_pos {z : Int} (h : 0 ≤ z) : 0 < (numS z).length := by
  unfold numS
  rw [if_neg (by omega), numB]
  split <;> simp
end Go.Proofs.Ythikboobkmfgfaa
set_option linter.all false
set_option maxRecDepth 100000
namespace Go.Proofs.Ythikboobkmfgfaa
open Go Go.Abs

theorem blt_zero (n : Nat) : Nat.blt n 0 = false := rfl
def bldB (w : Bool) (s : List UInt8) : Blk := .cells 110 [1] [if w then .ptr 0 0 else .nilp, .sl true (s.map byteRow)]
theorem call_81 (w : Bool) (s : List UInt8) : (Lim cfg).call 81 [.ptr 0 0] [bldB w s] = some (.tup [], false, [bldB true s]) := by
  cases w with
  | false =>
    refine call_eq fn_81 rfl ?_
    rw [k_start]
    simp only [Try.f81, bldB, List.length_cons, List.length_nil, Nat.zero_add, Nat.reduceSub, Nat.reduceAdd, List.replicate, List.cons_append, List.nil_append, Bool.false_eq_true, if_false]
    simp only [go_sem, Nat.reduceAdd, Nat.reduceSub, Nat.reduceMul, Nat.reduceLT, Nat.reduceLeDiff, Nat.reduceEqDiff, Nat.reduceBEq, Nat.reduceBNe, reduceCtorEq, Int.reduceBNe, Int.reduceBEq, ty_107, ty_110, ty_108, ty_157, convPV]
    exact ret0 (hp' := [bldB true s]) (fun _ => ex_normal) (by kernel_rfl) ⟨rfl, rfl, rfl⟩
  | true =>
    refine call_eq fn_81 rfl ?_
    rw [k_start]
    simp only [Try.f81, bldB, List.length_cons, List.length_nil, Nat.zero_add, Nat.reduceSub, Nat.reduceAdd, List.replicate, List.cons_append, List.nil_append, if_true]
    simp only [go_sem, Nat.reduceAdd, Nat.reduceSub, Nat.reduceMul, Nat.reduceLT, Nat.reduceLeDiff, Nat.reduceEqDiff, Nat.reduceBEq, Nat.reduceBNe, reduceCtorEq, Int.reduceBNe, Int.reduceBEq, ty_107, ty_110, ty_108, ty_157, convPV]
    exact ret0 (hp' := [bldB true s]) (fun _ => ex_normal) (by kernel_rfl) ⟨rfl, rfl, rfl⟩

set_option maxHeartbeats 4000000 in
theorem call_50 (w : Bool) (s t : List UInt8) (hl : s.length + t.length ≤ 1000000000) : (Lim cfg).call 50 [.ptr 0 0, .str t] [bldB w s] = some (.tup [.int .i64 t.length, .any], false, [bldB true (s ++ t)]) := by
  have hb : (s.length + t.length) * 1 ≤ strMax := by unfold strMax; omega
  have er : s.map byteRow ++ t.map byteRow = (s ++ t).map byteRow := by rw [List.map_append]
  cases w
  · refine call_eq fn_50 rfl ?_
    rw [k_start]
    simp only [Try.f50, List.length_cons, List.length_nil, Nat.zero_add, Nat.reduceSub, Nat.reduceAdd, List.replicate, List.cons_append, List.nil_append]
    simp only [go_sem, Nat.reduceAdd, Nat.reduceSub, Nat.reduceMul, Nat.reduceLT, Nat.reduceLeDiff, Nat.reduceEqDiff, Nat.reduceBEq, Nat.reduceBNe, reduceCtorEq, Int.reduceBNe, Int.reduceBEq, ty_107, ty_110, ty_108, ty_9, ty_3, blt_zero]
    rw [callHeap_eq (R := [0]) (v' := .tup []) (own' := false) (hp3 := [bldB true s]) (by kernel_rfl) (by kernel_rfl) (by kernel_rfl) (by kernel_rfl) (call_81 false s) (by kernel_rfl) rfl rfl]
    simp only [bldB, if_true]
    simp only [go_sem, Nat.reduceAdd, Nat.reduceSub, Nat.reduceMul, Nat.reduceLT, Nat.reduceLeDiff, Nat.reduceEqDiff, Nat.reduceBEq, Nat.reduceBNe, reduceCtorEq, Int.reduceBNe, Int.reduceBEq, ty_107, ty_110, ty_108, ty_9, ty_5, ty_3, hb, er, fit_byte, Bool.not_or_self]
    refine ⟨fun _ => ex_ret, .tup [.int .i64 t.length, .any], false, rfl, rfl, rfl, ?_⟩
    kernel_rfl
  · refine call_eq fn_50 rfl ?_
    rw [k_start]
    simp only [Try.f50, List.length_cons, List.length_nil, Nat.zero_add, Nat.reduceSub, Nat.reduceAdd, List.replicate, List.cons_append, List.nil_append]
    simp only [go_sem, Nat.reduceAdd, Nat.reduceSub, Nat.reduceMul, Nat.reduceLT, Nat.reduceLeDiff, Nat.reduceEqDiff, Nat.reduceBEq, Nat.reduceBNe, reduceCtorEq, Int.reduceBNe, Int.reduceBEq, ty_107, ty_110, ty_108, ty_9, ty_3, blt_zero]
    rw [callHeap_eq (R := [0]) (v' := .tup []) (own' := false) (hp3 := [bldB true s]) (by kernel_rfl) (by kernel_rfl) (by kernel_rfl) (by kernel_rfl) (call_81 true s) (by kernel_rfl) rfl rfl]
    simp only [bldB, if_true]
    simp only [go_sem, Nat.reduceAdd, Nat.reduceSub, Nat.reduceMul, Nat.reduceLT, Nat.reduceLeDiff, Nat.reduceEqDiff, Nat.reduceBEq, Nat.reduceBNe, reduceCtorEq, Int.reduceBNe, Int.reduceBEq, ty_107, ty_110, ty_108, ty_9, ty_5, ty_3, hb, er, fit_byte, Bool.not_or_self]
    refine ⟨fun _ => ex_ret, .tup [.int .i64 t.length, .any], false, rfl, rfl, rfl, ?_⟩
    kernel_rfl
end Go.Proofs.Ythikboobkmfgfaa
set_option linter.all false
set_option maxRecDepth 100000
namespace Go.Proofs.Ythikboobkmfgfaa
open Go Go.Abs

theorem mapM_byteS : ∀ l : List UInt8, (l.map byteRow).mapM rowByteS = some l
  | [] => rfl
  | b :: l => by
    have hb : rowByteS (byteRow b) = some b := by simp [byteRow, rowByteS]
    rw [List.map_cons, List.mapM_cons, hb, mapM_byteS l]; rfl
theorem mapM_byteS1 (b : UInt8) (l : List UInt8) : (byteRow b :: l.map byteRow).mapM rowByteS = some (b :: l) := mapM_byteS (b :: l)

set_option maxHeartbeats 4000000 in
theorem call_53 (b : UInt8) (s : List UInt8) (hl : s.length ≤ 1000000000) : (Lim cfg).call 53 [.ptr 0 0] [bldB true (b :: s)] = some (.str (b :: s), false, [bldB true (b :: s)]) := by
  refine call_eq fn_53 rfl ?_
  rw [k_start]
  simp only [Try.f53, bldB, List.length_cons, List.length_nil, Nat.zero_add, Nat.reduceSub, Nat.reduceAdd, List.replicate, List.cons_append, List.nil_append, if_true]
  have hb : s.length + 1 ≤ strMax := by unfold strMax; omega
  have hbl : Nat.blt 7 14 = true := rfl
  simp only [go_sem, Nat.reduceAdd, Nat.reduceSub, Nat.reduceMul, Nat.reduceLT, Nat.reduceLeDiff, Nat.reduceEqDiff, Nat.reduceBEq, Nat.reduceBNe, reduceCtorEq, Int.reduceBNe, Int.reduceBEq, ty_107, ty_110, ty_108, ty_9, ty_5, ty_3, ty_148, draw_53_1, dataOp, textOp, heldSome, isSl, mapM_byteS1, hb, hbl, List.map_cons]
  refine ⟨fun _ => ex_ret, .str (b :: s), false, rfl, rfl, rfl, ?_⟩
  kernel_rfl
end Go.Proofs.Ythikboobkmfgfaa
