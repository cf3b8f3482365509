/- Readers of bytes: the document's Whole, End; turns, read. -/
import Derived.Test.YtbpkaajokffpjaaD36
set_option linter.all false
set_option maxRecDepth 100000
namespace Go.Proofs.Ytbpkaajokffpjaa
open Go Go.Abs

theorem reach_int {hp : List Blk} {k : IntKind} {x : Int} : reach hp [.int k x] = [] := reach_pure rfl
theorem tmod_nat (n m : Nat) : Int.tmod (n : Int) (m : Int) = ((n % m : Nat) : Int) := by rw [Int.tmod_eq_emod_of_nonneg (by omega)]; norm_cast
theorem tdiv_nat (n m : Nat) : Int.tdiv (n : Int) (m : Int) = ((n / m : Nat) : Int) := by rw [Int.tdiv_eq_ediv_of_nonneg (by omega)]; norm_cast

set_option maxHeartbeats 4000000 in
theorem call_96 (s : List UInt8) (e : Int) (hlen : s.length ≤ 1000000000) :
    (Lim cfg).call 96 [.agg [.str s, .int .i64 e]] [] = some (.tup [.agg [.str (stR s e).1, .int .i64 (stR s e).2], .int .i64 (wholeR s e)], false, []) := by
  have hn := numN_lt s e
  have cN := call_95 s e hlen
  have m2 : Int.tmod (numN s e : Int) 2 = ((numN s e % 2 : Nat) : Int) := tmod_nat (numN s e) 2
  have d2 : Int.tdiv (numN s e : Int) 2 = ((numN s e / 2 : Nat) : Int) := tdiv_nat (numN s e) 2
  have n0 : ¬ ((2 : Int) = 0) := by decide
  have w0 : IntKind.i64.wrap ((numN s e / 2 : Nat) : Int) = ((numN s e / 2 : Nat) : Int) := wrap_i64 (by omega) (by omega)
  by_cases h1 : numN s e % 2 = 1
  · have h2 : (((numN s e % 2 : Nat) : Int) == 1) = true := by simp; omega
    have w1 : IntKind.i64.wrap (0 - ((numN s e / 2 : Nat) : Int)) = 0 - ((numN s e / 2 : Nat) : Int) := wrap_i64 (by omega) (by omega)
    have w2 : IntKind.i64.wrap (0 - ((numN s e / 2 : Nat) : Int) - 1) = 0 - ((numN s e / 2 : Nat) : Int) - 1 := wrap_i64 (by omega) (by omega)
    refine call_eq fn_96 rfl ?_
    rw [k_start]
    simp only [Try.f96, List.length_cons, List.length_nil, Nat.zero_add, Nat.reduceSub, Nat.reduceAdd, List.replicate, List.cons_append, List.nil_append]
    simp only [go_sem, Nat.reduceAdd, Nat.reduceSub, Nat.reduceMul, Nat.reduceLT, Nat.reduceLeDiff, Nat.reduceEqDiff, Nat.reduceBEq, Nat.reduceBNe, reduceCtorEq, Int.reduceBNe, Int.reduceBEq, cN, m2, d2, n0, h2, w0, w1, w2, blt0]
    refine ⟨fun _ => ex_ret, .tup [.agg [.str (stR s e).1, .int .i64 (stR s e).2], .int .i64 (wholeR s e)], false, ?_, by kernel_rfl, by kernel_rfl, by kernel_rfl⟩
    rw [wholeR, zag, if_pos h1, ← Int.zero_sub]
    kernel_rfl
  · have h2 : (((numN s e % 2 : Nat) : Int) == 1) = false := by simp; omega
    refine call_eq fn_96 rfl ?_
    rw [k_start]
    simp only [Try.f96, List.length_cons, List.length_nil, Nat.zero_add, Nat.reduceSub, Nat.reduceAdd, List.replicate, List.cons_append, List.nil_append]
    simp only [go_sem, Nat.reduceAdd, Nat.reduceSub, Nat.reduceMul, Nat.reduceLT, Nat.reduceLeDiff, Nat.reduceEqDiff, Nat.reduceBEq, Nat.reduceBNe, reduceCtorEq, Int.reduceBNe, Int.reduceBEq, cN, m2, d2, n0, h2, w0, blt0]
    refine ⟨fun _ => ex_ret, .tup [.agg [.str (stR s e).1, .int .i64 (stR s e).2], .int .i64 (wholeR s e)], false, ?_, by kernel_rfl, by kernel_rfl, by kernel_rfl⟩
    rw [wholeR, zag, if_neg h1]
    kernel_rfl

theorem call_98 (s : List UInt8) (e : Int) : (Lim cfg).call 98 [.agg [.str s, .int .i64 e]] [] = some (.int .i64 (endR s e), false, []) := by
  by_cases h0 : e = 0
  · subst h0
    cases s with
    | nil =>
      refine call_eq fn_98 rfl ?_
      rw [k_start]
      simp only [Try.f98, List.length_cons, List.length_nil, Nat.zero_add, Nat.reduceSub, Nat.reduceAdd, List.replicate, List.cons_append, List.nil_append]
      simp only [go_sem, Nat.reduceAdd, Nat.reduceSub, Nat.reduceMul, Nat.reduceLT, Nat.reduceLeDiff, Nat.reduceEqDiff, Nat.reduceBEq, Nat.reduceBNe, reduceCtorEq, Int.reduceBNe, Int.reduceBEq, strOp]
      exact ret1n (fun _ => ex_ret) rfl rfl rfl ⟨rfl, rfl, rfl⟩
    | cons b s =>
      refine call_eq fn_98 rfl ?_
      rw [k_start]
      simp only [Try.f98, List.length_cons, List.length_nil, Nat.zero_add, Nat.reduceSub, Nat.reduceAdd, List.replicate, List.cons_append, List.nil_append]
      simp only [go_sem, Nat.reduceAdd, Nat.reduceSub, Nat.reduceMul, Nat.reduceLT, Nat.reduceLeDiff, Nat.reduceEqDiff, Nat.reduceBEq, Nat.reduceBNe, reduceCtorEq, Int.reduceBNe, Int.reduceBEq, strOp]
      exact ret1n (fun _ => ex_ret) rfl rfl rfl ⟨rfl, rfl, rfl⟩
  · have h2 : (e == 0) = false := by simp [h0]
    refine call_eq fn_98 rfl ?_
    rw [k_start]
    simp only [Try.f98, List.length_cons, List.length_nil, Nat.zero_add, Nat.reduceSub, Nat.reduceAdd, List.replicate, List.cons_append, List.nil_append]
    simp only [go_sem, Nat.reduceAdd, Nat.reduceSub, Nat.reduceMul, Nat.reduceLT, Nat.reduceLeDiff, Nat.reduceEqDiff, Nat.reduceBEq, Nat.reduceBNe, reduceCtorEq, Int.reduceBNe, Int.reduceBEq, strOp, h2]
    refine ret1n (v := .int .i64 e) (fun _ => ex_ret) rfl rfl rfl ⟨?_, rfl, rfl⟩
    rw [endR, if_neg fun q => h0 q.1]

theorem call_97 (v : Int) : (Lim cfg).call 97 [.int .i64 v] [] = some (.int .i64 (clampV v), false, []) := by
  by_cases h1 : v > 4398046511104
  · rw [show clampV v = 4398046511104 by unfold clampV; omega]
    refine call_eq fn_97 rfl ?_
    rw [k_start]
    simp only [Try.f97, List.length_cons, List.length_nil, Nat.zero_add, Nat.reduceSub, Nat.reduceAdd, List.replicate, List.cons_append, List.nil_append]
    simp only [go_sem, Nat.reduceAdd, Nat.reduceSub, Nat.reduceMul, Nat.reduceLT, Nat.reduceLeDiff, Nat.reduceEqDiff, Nat.reduceBEq, Nat.reduceBNe, reduceCtorEq, Int.reduceBNe, Int.reduceBEq, h1]
    exact ret1n (fun _ => ex_ret) rfl rfl rfl ⟨rfl, rfl, rfl⟩
  · by_cases h2 : v < -4398046511104
    · rw [show clampV v = -4398046511104 by unfold clampV; omega]
      refine call_eq fn_97 rfl ?_
      rw [k_start]
      simp only [Try.f97, List.length_cons, List.length_nil, Nat.zero_add, Nat.reduceSub, Nat.reduceAdd, List.replicate, List.cons_append, List.nil_append]
      simp only [go_sem, Nat.reduceAdd, Nat.reduceSub, Nat.reduceMul, Nat.reduceLT, Nat.reduceLeDiff, Nat.reduceEqDiff, Nat.reduceBEq, Nat.reduceBNe, reduceCtorEq, Int.reduceBNe, Int.reduceBEq, h1, h2]
      exact ret1n (fun _ => ex_ret) rfl rfl rfl ⟨rfl, rfl, rfl⟩
    · rw [show clampV v = v by unfold clampV; omega]
      refine call_eq fn_97 rfl ?_
      rw [k_start]
      simp only [Try.f97, List.length_cons, List.length_nil, Nat.zero_add, Nat.reduceSub, Nat.reduceAdd, List.replicate, List.cons_append, List.nil_append]
      simp only [go_sem, Nat.reduceAdd, Nat.reduceSub, Nat.reduceMul, Nat.reduceLT, Nat.reduceLeDiff, Nat.reduceEqDiff, Nat.reduceBEq, Nat.reduceBNe, reduceCtorEq, Int.reduceBNe, Int.reduceBEq, h1, h2]
      exact ret1n (fun _ => ex_ret) rfl rfl rfl ⟨rfl, rfl, rfl⟩

def SrR (s : List UInt8) (n : Nat) (x : Nat × (List UInt8 × Int) × Int × List TR) : St := { fr := mkF 104 [(0, .str s), (4, .ptr 0 0), (5, .int .i64 n), (6, .sl true (x.2.2.2.map trow)), (7, .int .i64 x.2.2.1), (8, .int .i64 x.1)], own := [6], hp := [.cells 168 [] [.str x.2.1.1, .int .i64 x.2.1.2]], al := [], nb := 0 }
set_option maxHeartbeats 8000000 in
theorem call_23 (s : List UInt8) (hlen : s.length ≤ 1000000000) :
    (Lim cfg).call 23 [.str s] [] = some (.tup [.sl true ((readD s).1.map trow), .int .i64 (readD s).2], false, []) := by
  have hn := numN_lt s 0
  have hl1 := stR_len s 0
  have cN := call_95 s 0 hlen
  refine call_eq fn_23 rfl ?_
  rw [k_start]
  simp only [Try.f23, List.length_cons, List.length_nil, Nat.zero_add, Nat.reduceSub, Nat.reduceAdd, List.replicate, List.cons_append, List.nil_append]
  simp only [go_sem, Nat.reduceAdd, Nat.reduceSub, Nat.reduceMul, Nat.reduceLT, Nat.reduceLeDiff, Nat.reduceEqDiff, Nat.reduceBEq, Nat.reduceBNe, reduceCtorEq, Int.reduceBNe, Int.reduceBEq, cN, blt0]
  refine k_loop (SrR s (numN s 0)) (fun x => x.1 ≤ min (numN s 0) 4097 ∧ x.2.2.2.length = x.1 ∧ -1 ≤ x.2.2.1 ∧ x.2.2.1 ≤ 4096 ∧ x.2.1.1.length ≤ s.length ∧ readL (min (numN s 0) 4097) (stR s 0).1 (stR s 0).2 (-1) [] = readL (min (numN s 0) 4097 - x.1) x.2.1.1 x.2.1.2 x.2.2.1 x.2.2.2)
    (fun x => 5000 - x.1) (0, stR s 0, -1, []) (K := cfg.kill 23 5) rfl ⟨Nat.zero_le _, rfl, by show (-1 : Int) ≤ -1; omega, by show (-1 : Int) ≤ 4096; omega, hl1, rfl⟩ (by kernel_rfl) ?_
  intro ⟨i, ⟨s1, e1⟩, a, l⟩ ⟨hi, hll, ha1, ha2, hsl, hinv⟩ k' Q' hnorm hexit hret
  simp only at hi hll ha1 ha2 hsl hinv
  simp only [SrR, mkF, List.foldl, List.replicate, List.set, List.cons_append, List.nil_append]
  have fin : i = min (numN s 0) 4097 ∨ e1 ≠ 0 → readD s = if endR s1 e1 = 0 ∧ textT l = s then (l, 0) else ([], 3) := fun h => by
    have : readL (min (numN s 0) 4097 - i) s1 e1 a l = (l, s1, e1) := by
      rcases h with h | h
      · rw [h, Nat.sub_self]; rfl
      · cases min (numN s 0) 4097 - i with
        | zero => rfl
        | succ k => rw [readL, if_neg h]
    rw [readD, hinv, this]
  by_cases h1 : (i : Int) < (numN s 0 : Int)
  · by_cases h2 : (i : Int) ≤ 4096
    · by_cases h3 : e1 = 0
      · have h3' : (e1 == 0) = true := by simp [h3]
        have c1 := call_95 s1 e1 (by omega)
        have q1 := stR_len s1 e1
        have c2 := call_95 (stR s1 e1).1 (stR s1 e1).2 (by omega)
        have q2 := stR_len (stR s1 e1).1 (stR s1 e1).2
        have hkk := readT_key s1 e1 a
        have hnn := numN_lt s1 e1
        have hlen2 := readT_len s1 e1 a
        have hb : (l.length + 1) * 40 ≤ strMax := by unfold strMax; omega
        have w4 : IntKind.i64.wrap ((i : Int) + 1) = (i : Int) + 1 := wrap_i64 (by omega) (by omega)
        have w1 : IntKind.i64.wrap (a + 1) = a + 1 := wrap_i64 (by omega) (by omega)
        have n0 : ¬ ((2 : Int) = 0) := by decide
        have hTT : ∀ (w : CR) (s4 : List UInt8) (e4 : Int), (if numN (stR s1 e1).1 (stR s1 e1).2 % 2 = 1 then (wholeR (stR (stR s1 e1).1 (stR s1 e1).2).1 (stR (stR s1 e1).1 (stR s1 e1).2).2, true) else ((0, false) : CR)) = w → (if numN (stR s1 e1).1 (stR s1 e1).2 % 2 = 1 then stR (stR (stR s1 e1).1 (stR s1 e1).2).1 (stR (stR s1 e1).1 (stR s1 e1).2).2 else stR (stR s1 e1).1 (stR s1 e1).2) = (s4, e4) →
            readT s1 e1 a = ((a + 1 + min (numN s1 e1 : Int) 4096, w, if numN (stR s1 e1).1 (stR s1 e1).2 / 2 % 2 = 1 then (clampV (wholeR s4 e4) + clampV w.1, true) else (0, false)), if numN (stR s1 e1).1 (stR s1 e1).2 / 2 % 2 = 1 then stR s4 e4 else (s4, e4)) := fun w s4 e4 q1 q2 => by
          simp only [readT, q1, q2]
        simp only [go_sem, Nat.reduceAdd, Nat.reduceSub, Nat.reduceMul, Nat.reduceLT, Nat.reduceLeDiff, Nat.reduceEqDiff, Nat.reduceBEq, Nat.reduceBNe, reduceCtorEq, Int.reduceBNe, Int.reduceBEq, blt0, h1, h2, h3', c1, c2]
        generalize stR s1 e1 = p2 at *
        obtain ⟨s2, e2⟩ := p2
        simp only at q1 q2 c2 hTT ⊢
        generalize stR s2 e2 = p3 at *
        obtain ⟨s3, e3⟩ := p3
        simp only at q2 hTT ⊢
        have cW := call_96 s3 e3 (by omega)
        have q3 := stR_len s3 e3
        have cW2 := call_96 (stR s3 e3).1 (stR s3 e3).2 (by omega)
        have hn2 := numN_lt s2 e2
        have t1 : Int.tmod (numN s2 e2 : Int) 2 = ((numN s2 e2 % 2 : Nat) : Int) := tmod_nat (numN s2 e2) 2
        have t2 : Int.tdiv (numN s2 e2 : Int) 2 = ((numN s2 e2 / 2 : Nat) : Int) := tdiv_nat (numN s2 e2) 2
        have t3 : IntKind.i64.wrap ((numN s2 e2 / 2 : Nat) : Int) = ((numN s2 e2 / 2 : Nat) : Int) := wrap_i64 (by omega) (by omega)
        have t4 : Int.tmod ((numN s2 e2 / 2 : Nat) : Int) 2 = ((numN s2 e2 / 2 % 2 : Nat) : Int) := tmod_nat (numN s2 e2 / 2) 2
        by_cases cA : (numN s1 e1 : Int) > 4096
        · have hmin : min (numN s1 e1 : Int) 4096 = 4096 := by omega
          simp only [hmin] at hTT
          have w2 : IntKind.i64.wrap (a + 1 + 4096) = a + 1 + 4096 := wrap_i64 (by omega) (by omega)
          by_cases cM : a + 1 + 4096 > 4096
          · have hq : min (a + 1 + 4096) 4096 = 4096 := by omega
            by_cases b1 : numN s2 e2 % 2 = 1
            · have d1 : (((numN s2 e2 % 2 : Nat) : Int) == 1) = true := by simp; omega
              by_cases b2 : numN s2 e2 / 2 % 2 = 1
              · have d2 : (((numN s2 e2 / 2 % 2 : Nat) : Int) == 1) = true := by simp; omega
                have hT := hTT (wholeR s3 e3, true) (stR s3 e3).1 (stR s3 e3).2 (if_pos b1) (if_pos b1)
                rw [if_pos b2, if_pos b2] at hT
                have w5 : IntKind.i64.wrap (clampV (wholeR (stR s3 e3).1 (stR s3 e3).2) + clampV (wholeR s3 e3)) = clampV (wholeR (stR s3 e3).1 (stR s3 e3).2) + clampV (wholeR s3 e3) := by
                  have := clampV_bound (wholeR (stR s3 e3).1 (stR s3 e3).2)
                  have := clampV_bound (wholeR s3 e3)
                  exact wrap_i64 (by omega) (by omega)
                simp only [go_sem, Nat.reduceAdd, Nat.reduceSub, Nat.reduceMul, Nat.reduceLT, Nat.reduceLeDiff, Nat.reduceEqDiff, Nat.reduceBEq, Nat.reduceBNe, reduceCtorEq, Int.reduceBNe, Int.reduceBEq, blt0, cA, cM, t1, t2, t3, t4, d1, d2, n0, w1, w2, w4, w5, cW, cW2, call_97, reach_int, hb, fit_trow, head_trow, head_trow']
                refine hnorm (i + 1, (readT s1 e1 a).2, min (readT s1 e1 a).1.1 4096, l ++ [(readT s1 e1 a).1]) _ ⟨by show i + 1 ≤ _; omega, by show (l ++ [_]).length = _; simp only [List.length_append, List.length_cons, List.length_nil]; omega, by show -1 ≤ min (readT s1 e1 a).1.1 4096; omega, by show min (readT s1 e1 a).1.1 4096 ≤ 4096; omega, by show (readT s1 e1 a).2.1.length ≤ _; omega, ?_⟩
                  (by show 5000 - (i + 1) < 5000 - i; omega) (by simp only [SrR, List.map_append, List.map_cons, List.map_nil, trow, hT, hq]; kernel_rfl)
                show _ = readL (min (numN s 0) 4097 - (i + 1)) (readT s1 e1 a).2.1 (readT s1 e1 a).2.2 (min (readT s1 e1 a).1.1 4096) (l ++ [(readT s1 e1 a).1])
                obtain ⟨k, hk⟩ : ∃ k, min (numN s 0) 4097 - i = k + 1 := ⟨min (numN s 0) 4097 - i - 1, by omega⟩
                rw [hinv, hk, readL, if_pos h3, show min (numN s 0) 4097 - (i + 1) = k by omega]
              · have d2 : (((numN s2 e2 / 2 % 2 : Nat) : Int) == 1) = false := by simp; omega
                have hT := hTT (wholeR s3 e3, true) (stR s3 e3).1 (stR s3 e3).2 (if_pos b1) (if_pos b1)
                rw [if_neg b2, if_neg b2] at hT
                simp only [go_sem, Nat.reduceAdd, Nat.reduceSub, Nat.reduceMul, Nat.reduceLT, Nat.reduceLeDiff, Nat.reduceEqDiff, Nat.reduceBEq, Nat.reduceBNe, reduceCtorEq, Int.reduceBNe, Int.reduceBEq, blt0, cA, cM, t1, t2, t3, t4, d1, d2, n0, w1, w2, w4, cW, hb, fit_trow, head_trow, head_trow']
                refine hnorm (i + 1, (readT s1 e1 a).2, min (readT s1 e1 a).1.1 4096, l ++ [(readT s1 e1 a).1]) _ ⟨by show i + 1 ≤ _; omega, by show (l ++ [_]).length = _; simp only [List.length_append, List.length_cons, List.length_nil]; omega, by show -1 ≤ min (readT s1 e1 a).1.1 4096; omega, by show min (readT s1 e1 a).1.1 4096 ≤ 4096; omega, by show (readT s1 e1 a).2.1.length ≤ _; omega, ?_⟩
                  (by show 5000 - (i + 1) < 5000 - i; omega) (by simp only [SrR, List.map_append, List.map_cons, List.map_nil, trow, hT, hq]; kernel_rfl)
                show _ = readL (min (numN s 0) 4097 - (i + 1)) (readT s1 e1 a).2.1 (readT s1 e1 a).2.2 (min (readT s1 e1 a).1.1 4096) (l ++ [(readT s1 e1 a).1])
                obtain ⟨k, hk⟩ : ∃ k, min (numN s 0) 4097 - i = k + 1 := ⟨min (numN s 0) 4097 - i - 1, by omega⟩
                rw [hinv, hk, readL, if_pos h3, show min (numN s 0) 4097 - (i + 1) = k by omega]
            · have d1 : (((numN s2 e2 % 2 : Nat) : Int) == 1) = false := by simp; omega
              by_cases b2 : numN s2 e2 / 2 % 2 = 1
              · have d2 : (((numN s2 e2 / 2 % 2 : Nat) : Int) == 1) = true := by simp; omega
                have hT := hTT (0, false) s3 e3 (if_neg b1) (if_neg b1)
                rw [if_pos b2, if_pos b2] at hT
                have w5 : IntKind.i64.wrap (clampV (wholeR s3 e3) + clampV 0) = clampV (wholeR s3 e3) + clampV 0 := by
                  have := clampV_bound (wholeR s3 e3)
                  have := clampV_bound 0
                  exact wrap_i64 (by omega) (by omega)
                simp only [go_sem, Nat.reduceAdd, Nat.reduceSub, Nat.reduceMul, Nat.reduceLT, Nat.reduceLeDiff, Nat.reduceEqDiff, Nat.reduceBEq, Nat.reduceBNe, reduceCtorEq, Int.reduceBNe, Int.reduceBEq, blt0, cA, cM, t1, t2, t3, t4, d1, d2, n0, w1, w2, w4, w5, cW, call_97, reach_int, hb, fit_trow, head_trow, head_trow']
                refine hnorm (i + 1, (readT s1 e1 a).2, min (readT s1 e1 a).1.1 4096, l ++ [(readT s1 e1 a).1]) _ ⟨by show i + 1 ≤ _; omega, by show (l ++ [_]).length = _; simp only [List.length_append, List.length_cons, List.length_nil]; omega, by show -1 ≤ min (readT s1 e1 a).1.1 4096; omega, by show min (readT s1 e1 a).1.1 4096 ≤ 4096; omega, by show (readT s1 e1 a).2.1.length ≤ _; omega, ?_⟩
                  (by show 5000 - (i + 1) < 5000 - i; omega) (by simp only [SrR, List.map_append, List.map_cons, List.map_nil, trow, hT, hq]; kernel_rfl)
                show _ = readL (min (numN s 0) 4097 - (i + 1)) (readT s1 e1 a).2.1 (readT s1 e1 a).2.2 (min (readT s1 e1 a).1.1 4096) (l ++ [(readT s1 e1 a).1])
                obtain ⟨k, hk⟩ : ∃ k, min (numN s 0) 4097 - i = k + 1 := ⟨min (numN s 0) 4097 - i - 1, by omega⟩
                rw [hinv, hk, readL, if_pos h3, show min (numN s 0) 4097 - (i + 1) = k by omega]
              · have d2 : (((numN s2 e2 / 2 % 2 : Nat) : Int) == 1) = false := by simp; omega
                have hT := hTT (0, false) s3 e3 (if_neg b1) (if_neg b1)
                rw [if_neg b2, if_neg b2] at hT
                simp only [go_sem, Nat.reduceAdd, Nat.reduceSub, Nat.reduceMul, Nat.reduceLT, Nat.reduceLeDiff, Nat.reduceEqDiff, Nat.reduceBEq, Nat.reduceBNe, reduceCtorEq, Int.reduceBNe, Int.reduceBEq, blt0, cA, cM, t1, t2, t3, t4, d1, d2, n0, w1, w2, w4, hb, fit_trow, head_trow, head_trow']
                refine hnorm (i + 1, (readT s1 e1 a).2, min (readT s1 e1 a).1.1 4096, l ++ [(readT s1 e1 a).1]) _ ⟨by show i + 1 ≤ _; omega, by show (l ++ [_]).length = _; simp only [List.length_append, List.length_cons, List.length_nil]; omega, by show -1 ≤ min (readT s1 e1 a).1.1 4096; omega, by show min (readT s1 e1 a).1.1 4096 ≤ 4096; omega, by show (readT s1 e1 a).2.1.length ≤ _; omega, ?_⟩
                  (by show 5000 - (i + 1) < 5000 - i; omega) (by simp only [SrR, List.map_append, List.map_cons, List.map_nil, trow, hT, hq]; kernel_rfl)
                show _ = readL (min (numN s 0) 4097 - (i + 1)) (readT s1 e1 a).2.1 (readT s1 e1 a).2.2 (min (readT s1 e1 a).1.1 4096) (l ++ [(readT s1 e1 a).1])
                obtain ⟨k, hk⟩ : ∃ k, min (numN s 0) 4097 - i = k + 1 := ⟨min (numN s 0) 4097 - i - 1, by omega⟩
                rw [hinv, hk, readL, if_pos h3, show min (numN s 0) 4097 - (i + 1) = k by omega]
          · have hq : min (a + 1 + 4096) 4096 = a + 1 + 4096 := by omega
            by_cases b1 : numN s2 e2 % 2 = 1
            · have d1 : (((numN s2 e2 % 2 : Nat) : Int) == 1) = true := by simp; omega
              by_cases b2 : numN s2 e2 / 2 % 2 = 1
              · have d2 : (((numN s2 e2 / 2 % 2 : Nat) : Int) == 1) = true := by simp; omega
                have hT := hTT (wholeR s3 e3, true) (stR s3 e3).1 (stR s3 e3).2 (if_pos b1) (if_pos b1)
                rw [if_pos b2, if_pos b2] at hT
                have w5 : IntKind.i64.wrap (clampV (wholeR (stR s3 e3).1 (stR s3 e3).2) + clampV (wholeR s3 e3)) = clampV (wholeR (stR s3 e3).1 (stR s3 e3).2) + clampV (wholeR s3 e3) := by
                  have := clampV_bound (wholeR (stR s3 e3).1 (stR s3 e3).2)
                  have := clampV_bound (wholeR s3 e3)
                  exact wrap_i64 (by omega) (by omega)
                simp only [go_sem, Nat.reduceAdd, Nat.reduceSub, Nat.reduceMul, Nat.reduceLT, Nat.reduceLeDiff, Nat.reduceEqDiff, Nat.reduceBEq, Nat.reduceBNe, reduceCtorEq, Int.reduceBNe, Int.reduceBEq, blt0, cA, cM, t1, t2, t3, t4, d1, d2, n0, w1, w2, w4, w5, cW, cW2, call_97, reach_int, hb, fit_trow, head_trow, head_trow']
                refine hnorm (i + 1, (readT s1 e1 a).2, min (readT s1 e1 a).1.1 4096, l ++ [(readT s1 e1 a).1]) _ ⟨by show i + 1 ≤ _; omega, by show (l ++ [_]).length = _; simp only [List.length_append, List.length_cons, List.length_nil]; omega, by show -1 ≤ min (readT s1 e1 a).1.1 4096; omega, by show min (readT s1 e1 a).1.1 4096 ≤ 4096; omega, by show (readT s1 e1 a).2.1.length ≤ _; omega, ?_⟩
                  (by show 5000 - (i + 1) < 5000 - i; omega) (by simp only [SrR, List.map_append, List.map_cons, List.map_nil, trow, hT, hq]; kernel_rfl)
                show _ = readL (min (numN s 0) 4097 - (i + 1)) (readT s1 e1 a).2.1 (readT s1 e1 a).2.2 (min (readT s1 e1 a).1.1 4096) (l ++ [(readT s1 e1 a).1])
                obtain ⟨k, hk⟩ : ∃ k, min (numN s 0) 4097 - i = k + 1 := ⟨min (numN s 0) 4097 - i - 1, by omega⟩
                rw [hinv, hk, readL, if_pos h3, show min (numN s 0) 4097 - (i + 1) = k by omega]
              · have d2 : (((numN s2 e2 / 2 % 2 : Nat) : Int) == 1) = false := by simp; omega
                have hT := hTT (wholeR s3 e3, true) (stR s3 e3).1 (stR s3 e3).2 (if_pos b1) (if_pos b1)
                rw [if_neg b2, if_neg b2] at hT
                simp only [go_sem, Nat.reduceAdd, Nat.reduceSub, Nat.reduceMul, Nat.reduceLT, Nat.reduceLeDiff, Nat.reduceEqDiff, Nat.reduceBEq, Nat.reduceBNe, reduceCtorEq, Int.reduceBNe, Int.reduceBEq, blt0, cA, cM, t1, t2, t3, t4, d1, d2, n0, w1, w2, w4, cW, hb, fit_trow, head_trow, head_trow']
                refine hnorm (i + 1, (readT s1 e1 a).2, min (readT s1 e1 a).1.1 4096, l ++ [(readT s1 e1 a).1]) _ ⟨by show i + 1 ≤ _; omega, by show (l ++ [_]).length = _; simp only [List.length_append, List.length_cons, List.length_nil]; omega, by show -1 ≤ min (readT s1 e1 a).1.1 4096; omega, by show min (readT s1 e1 a).1.1 4096 ≤ 4096; omega, by show (readT s1 e1 a).2.1.length ≤ _; omega, ?_⟩
                  (by show 5000 - (i + 1) < 5000 - i; omega) (by simp only [SrR, List.map_append, List.map_cons, List.map_nil, trow, hT, hq]; kernel_rfl)
                show _ = readL (min (numN s 0) 4097 - (i + 1)) (readT s1 e1 a).2.1 (readT s1 e1 a).2.2 (min (readT s1 e1 a).1.1 4096) (l ++ [(readT s1 e1 a).1])
                obtain ⟨k, hk⟩ : ∃ k, min (numN s 0) 4097 - i = k + 1 := ⟨min (numN s 0) 4097 - i - 1, by omega⟩
                rw [hinv, hk, readL, if_pos h3, show min (numN s 0) 4097 - (i + 1) = k by omega]
            · have d1 : (((numN s2 e2 % 2 : Nat) : Int) == 1) = false := by simp; omega
              by_cases b2 : numN s2 e2 / 2 % 2 = 1
              · have d2 : (((numN s2 e2 / 2 % 2 : Nat) : Int) == 1) = true := by simp; omega
                have hT := hTT (0, false) s3 e3 (if_neg b1) (if_neg b1)
                rw [if_pos b2, if_pos b2] at hT
                have w5 : IntKind.i64.wrap (clampV (wholeR s3 e3) + clampV 0) = clampV (wholeR s3 e3) + clampV 0 := by
                  have := clampV_bound (wholeR s3 e3)
                  have := clampV_bound 0
                  exact wrap_i64 (by omega) (by omega)
                simp only [go_sem, Nat.reduceAdd, Nat.reduceSub, Nat.reduceMul, Nat.reduceLT, Nat.reduceLeDiff, Nat.reduceEqDiff, Nat.reduceBEq, Nat.reduceBNe, reduceCtorEq, Int.reduceBNe, Int.reduceBEq, blt0, cA, cM, t1, t2, t3, t4, d1, d2, n0, w1, w2, w4, w5, cW, call_97, reach_int, hb, fit_trow, head_trow, head_trow']
                refine hnorm (i + 1, (readT s1 e1 a).2, min (readT s1 e1 a).1.1 4096, l ++ [(readT s1 e1 a).1]) _ ⟨by show i + 1 ≤ _; omega, by show (l ++ [_]).length = _; simp only [List.length_append, List.length_cons, List.length_nil]; omega, by show -1 ≤ min (readT s1 e1 a).1.1 4096; omega, by show min (readT s1 e1 a).1.1 4096 ≤ 4096; omega, by show (readT s1 e1 a).2.1.length ≤ _; omega, ?_⟩
                  (by show 5000 - (i + 1) < 5000 - i; omega) (by simp only [SrR, List.map_append, List.map_cons, List.map_nil, trow, hT, hq]; kernel_rfl)
                show _ = readL (min (numN s 0) 4097 - (i + 1)) (readT s1 e1 a).2.1 (readT s1 e1 a).2.2 (min (readT s1 e1 a).1.1 4096) (l ++ [(readT s1 e1 a).1])
                obtain ⟨k, hk⟩ : ∃ k, min (numN s 0) 4097 - i = k + 1 := ⟨min (numN s 0) 4097 - i - 1, by omega⟩
                rw [hinv, hk, readL, if_pos h3, show min (numN s 0) 4097 - (i + 1) = k by omega]
              · have d2 : (((numN s2 e2 / 2 % 2 : Nat) : Int) == 1) = false := by simp; omega
                have hT := hTT (0, false) s3 e3 (if_neg b1) (if_neg b1)
                rw [if_neg b2, if_neg b2] at hT
                simp only [go_sem, Nat.reduceAdd, Nat.reduceSub, Nat.reduceMul, Nat.reduceLT, Nat.reduceLeDiff, Nat.reduceEqDiff, Nat.reduceBEq, Nat.reduceBNe, reduceCtorEq, Int.reduceBNe, Int.reduceBEq, blt0, cA, cM, t1, t2, t3, t4, d1, d2, n0, w1, w2, w4, hb, fit_trow, head_trow, head_trow']
                refine hnorm (i + 1, (readT s1 e1 a).2, min (readT s1 e1 a).1.1 4096, l ++ [(readT s1 e1 a).1]) _ ⟨by show i + 1 ≤ _; omega, by show (l ++ [_]).length = _; simp only [List.length_append, List.length_cons, List.length_nil]; omega, by show -1 ≤ min (readT s1 e1 a).1.1 4096; omega, by show min (readT s1 e1 a).1.1 4096 ≤ 4096; omega, by show (readT s1 e1 a).2.1.length ≤ _; omega, ?_⟩
                  (by show 5000 - (i + 1) < 5000 - i; omega) (by simp only [SrR, List.map_append, List.map_cons, List.map_nil, trow, hT, hq]; kernel_rfl)
                show _ = readL (min (numN s 0) 4097 - (i + 1)) (readT s1 e1 a).2.1 (readT s1 e1 a).2.2 (min (readT s1 e1 a).1.1 4096) (l ++ [(readT s1 e1 a).1])
                obtain ⟨k, hk⟩ : ∃ k, min (numN s 0) 4097 - i = k + 1 := ⟨min (numN s 0) 4097 - i - 1, by omega⟩
                rw [hinv, hk, readL, if_pos h3, show min (numN s 0) 4097 - (i + 1) = k by omega]
        · have hmin : min (numN s1 e1 : Int) 4096 = (numN s1 e1 : Int) := by omega
          simp only [hmin] at hTT
          have w2 : IntKind.i64.wrap (a + 1 + (numN s1 e1 : Int)) = a + 1 + (numN s1 e1 : Int) := wrap_i64 (by omega) (by omega)
          by_cases cM : a + 1 + (numN s1 e1 : Int) > 4096
          · have hq : min (a + 1 + (numN s1 e1 : Int)) 4096 = 4096 := by omega
            by_cases b1 : numN s2 e2 % 2 = 1
            · have d1 : (((numN s2 e2 % 2 : Nat) : Int) == 1) = true := by simp; omega
              by_cases b2 : numN s2 e2 / 2 % 2 = 1
              · have d2 : (((numN s2 e2 / 2 % 2 : Nat) : Int) == 1) = true := by simp; omega
                have hT := hTT (wholeR s3 e3, true) (stR s3 e3).1 (stR s3 e3).2 (if_pos b1) (if_pos b1)
                rw [if_pos b2, if_pos b2] at hT
                have w5 : IntKind.i64.wrap (clampV (wholeR (stR s3 e3).1 (stR s3 e3).2) + clampV (wholeR s3 e3)) = clampV (wholeR (stR s3 e3).1 (stR s3 e3).2) + clampV (wholeR s3 e3) := by
                  have := clampV_bound (wholeR (stR s3 e3).1 (stR s3 e3).2)
                  have := clampV_bound (wholeR s3 e3)
                  exact wrap_i64 (by omega) (by omega)
                simp only [go_sem, Nat.reduceAdd, Nat.reduceSub, Nat.reduceMul, Nat.reduceLT, Nat.reduceLeDiff, Nat.reduceEqDiff, Nat.reduceBEq, Nat.reduceBNe, reduceCtorEq, Int.reduceBNe, Int.reduceBEq, blt0, cA, cM, t1, t2, t3, t4, d1, d2, n0, w1, w2, w4, w5, cW, cW2, call_97, reach_int, hb, fit_trow, head_trow, head_trow']
                refine hnorm (i + 1, (readT s1 e1 a).2, min (readT s1 e1 a).1.1 4096, l ++ [(readT s1 e1 a).1]) _ ⟨by show i + 1 ≤ _; omega, by show (l ++ [_]).length = _; simp only [List.length_append, List.length_cons, List.length_nil]; omega, by show -1 ≤ min (readT s1 e1 a).1.1 4096; omega, by show min (readT s1 e1 a).1.1 4096 ≤ 4096; omega, by show (readT s1 e1 a).2.1.length ≤ _; omega, ?_⟩
                  (by show 5000 - (i + 1) < 5000 - i; omega) (by simp only [SrR, List.map_append, List.map_cons, List.map_nil, trow, hT, hq]; kernel_rfl)
                show _ = readL (min (numN s 0) 4097 - (i + 1)) (readT s1 e1 a).2.1 (readT s1 e1 a).2.2 (min (readT s1 e1 a).1.1 4096) (l ++ [(readT s1 e1 a).1])
                obtain ⟨k, hk⟩ : ∃ k, min (numN s 0) 4097 - i = k + 1 := ⟨min (numN s 0) 4097 - i - 1, by omega⟩
                rw [hinv, hk, readL, if_pos h3, show min (numN s 0) 4097 - (i + 1) = k by omega]
              · have d2 : (((numN s2 e2 / 2 % 2 : Nat) : Int) == 1) = false := by simp; omega
                have hT := hTT (wholeR s3 e3, true) (stR s3 e3).1 (stR s3 e3).2 (if_pos b1) (if_pos b1)
                rw [if_neg b2, if_neg b2] at hT
                simp only [go_sem, Nat.reduceAdd, Nat.reduceSub, Nat.reduceMul, Nat.reduceLT, Nat.reduceLeDiff, Nat.reduceEqDiff, Nat.reduceBEq, Nat.reduceBNe, reduceCtorEq, Int.reduceBNe, Int.reduceBEq, blt0, cA, cM, t1, t2, t3, t4, d1, d2, n0, w1, w2, w4, cW, hb, fit_trow, head_trow, head_trow']
                refine hnorm (i + 1, (readT s1 e1 a).2, min (readT s1 e1 a).1.1 4096, l ++ [(readT s1 e1 a).1]) _ ⟨by show i + 1 ≤ _; omega, by show (l ++ [_]).length = _; simp only [List.length_append, List.length_cons, List.length_nil]; omega, by show -1 ≤ min (readT s1 e1 a).1.1 4096; omega, by show min (readT s1 e1 a).1.1 4096 ≤ 4096; omega, by show (readT s1 e1 a).2.1.length ≤ _; omega, ?_⟩
                  (by show 5000 - (i + 1) < 5000 - i; omega) (by simp only [SrR, List.map_append, List.map_cons, List.map_nil, trow, hT, hq]; kernel_rfl)
                show _ = readL (min (numN s 0) 4097 - (i + 1)) (readT s1 e1 a).2.1 (readT s1 e1 a).2.2 (min (readT s1 e1 a).1.1 4096) (l ++ [(readT s1 e1 a).1])
                obtain ⟨k, hk⟩ : ∃ k, min (numN s 0) 4097 - i = k + 1 := ⟨min (numN s 0) 4097 - i - 1, by omega⟩
                rw [hinv, hk, readL, if_pos h3, show min (numN s 0) 4097 - (i + 1) = k by omega]
            · have d1 : (((numN s2 e2 % 2 : Nat) : Int) == 1) = false := by simp; omega
              by_cases b2 : numN s2 e2 / 2 % 2 = 1
              · have d2 : (((numN s2 e2 / 2 % 2 : Nat) : Int) == 1) = true := by simp; omega
                have hT := hTT (0, false) s3 e3 (if_neg b1) (if_neg b1)
                rw [if_pos b2, if_pos b2] at hT
                have w5 : IntKind.i64.wrap (clampV (wholeR s3 e3) + clampV 0) = clampV (wholeR s3 e3) + clampV 0 := by
                  have := clampV_bound (wholeR s3 e3)
                  have := clampV_bound 0
                  exact wrap_i64 (by omega) (by omega)
                simp only [go_sem, Nat.reduceAdd, Nat.reduceSub, Nat.reduceMul, Nat.reduceLT, Nat.reduceLeDiff, Nat.reduceEqDiff, Nat.reduceBEq, Nat.reduceBNe, reduceCtorEq, Int.reduceBNe, Int.reduceBEq, blt0, cA, cM, t1, t2, t3, t4, d1, d2, n0, w1, w2, w4, w5, cW, call_97, reach_int, hb, fit_trow, head_trow, head_trow']
                refine hnorm (i + 1, (readT s1 e1 a).2, min (readT s1 e1 a).1.1 4096, l ++ [(readT s1 e1 a).1]) _ ⟨by show i + 1 ≤ _; omega, by show (l ++ [_]).length = _; simp only [List.length_append, List.length_cons, List.length_nil]; omega, by show -1 ≤ min (readT s1 e1 a).1.1 4096; omega, by show min (readT s1 e1 a).1.1 4096 ≤ 4096; omega, by show (readT s1 e1 a).2.1.length ≤ _; omega, ?_⟩
                  (by show 5000 - (i + 1) < 5000 - i; omega) (by simp only [SrR, List.map_append, List.map_cons, List.map_nil, trow, hT, hq]; kernel_rfl)
                show _ = readL (min (numN s 0) 4097 - (i + 1)) (readT s1 e1 a).2.1 (readT s1 e1 a).2.2 (min (readT s1 e1 a).1.1 4096) (l ++ [(readT s1 e1 a).1])
                obtain ⟨k, hk⟩ : ∃ k, min (numN s 0) 4097 - i = k + 1 := ⟨min (numN s 0) 4097 - i - 1, by omega⟩
                rw [hinv, hk, readL, if_pos h3, show min (numN s 0) 4097 - (i + 1) = k by omega]
              · have d2 : (((numN s2 e2 / 2 % 2 : Nat) : Int) == 1) = false := by simp; omega
                have hT := hTT (0, false) s3 e3 (if_neg b1) (if_neg b1)
                rw [if_neg b2, if_neg b2] at hT
                simp only [go_sem, Nat.reduceAdd, Nat.reduceSub, Nat.reduceMul, Nat.reduceLT, Nat.reduceLeDiff, Nat.reduceEqDiff, Nat.reduceBEq, Nat.reduceBNe, reduceCtorEq, Int.reduceBNe, Int.reduceBEq, blt0, cA, cM, t1, t2, t3, t4, d1, d2, n0, w1, w2, w4, hb, fit_trow, head_trow, head_trow']
                refine hnorm (i + 1, (readT s1 e1 a).2, min (readT s1 e1 a).1.1 4096, l ++ [(readT s1 e1 a).1]) _ ⟨by show i + 1 ≤ _; omega, by show (l ++ [_]).length = _; simp only [List.length_append, List.length_cons, List.length_nil]; omega, by show -1 ≤ min (readT s1 e1 a).1.1 4096; omega, by show min (readT s1 e1 a).1.1 4096 ≤ 4096; omega, by show (readT s1 e1 a).2.1.length ≤ _; omega, ?_⟩
                  (by show 5000 - (i + 1) < 5000 - i; omega) (by simp only [SrR, List.map_append, List.map_cons, List.map_nil, trow, hT, hq]; kernel_rfl)
                show _ = readL (min (numN s 0) 4097 - (i + 1)) (readT s1 e1 a).2.1 (readT s1 e1 a).2.2 (min (readT s1 e1 a).1.1 4096) (l ++ [(readT s1 e1 a).1])
                obtain ⟨k, hk⟩ : ∃ k, min (numN s 0) 4097 - i = k + 1 := ⟨min (numN s 0) 4097 - i - 1, by omega⟩
                rw [hinv, hk, readL, if_pos h3, show min (numN s 0) 4097 - (i + 1) = k by omega]
          · have hq : min (a + 1 + (numN s1 e1 : Int)) 4096 = a + 1 + (numN s1 e1 : Int) := by omega
            by_cases b1 : numN s2 e2 % 2 = 1
            · have d1 : (((numN s2 e2 % 2 : Nat) : Int) == 1) = true := by simp; omega
              by_cases b2 : numN s2 e2 / 2 % 2 = 1
              · have d2 : (((numN s2 e2 / 2 % 2 : Nat) : Int) == 1) = true := by simp; omega
                have hT := hTT (wholeR s3 e3, true) (stR s3 e3).1 (stR s3 e3).2 (if_pos b1) (if_pos b1)
                rw [if_pos b2, if_pos b2] at hT
                have w5 : IntKind.i64.wrap (clampV (wholeR (stR s3 e3).1 (stR s3 e3).2) + clampV (wholeR s3 e3)) = clampV (wholeR (stR s3 e3).1 (stR s3 e3).2) + clampV (wholeR s3 e3) := by
                  have := clampV_bound (wholeR (stR s3 e3).1 (stR s3 e3).2)
                  have := clampV_bound (wholeR s3 e3)
                  exact wrap_i64 (by omega) (by omega)
                simp only [go_sem, Nat.reduceAdd, Nat.reduceSub, Nat.reduceMul, Nat.reduceLT, Nat.reduceLeDiff, Nat.reduceEqDiff, Nat.reduceBEq, Nat.reduceBNe, reduceCtorEq, Int.reduceBNe, Int.reduceBEq, blt0, cA, cM, t1, t2, t3, t4, d1, d2, n0, w1, w2, w4, w5, cW, cW2, call_97, reach_int, hb, fit_trow, head_trow, head_trow']
                refine hnorm (i + 1, (readT s1 e1 a).2, min (readT s1 e1 a).1.1 4096, l ++ [(readT s1 e1 a).1]) _ ⟨by show i + 1 ≤ _; omega, by show (l ++ [_]).length = _; simp only [List.length_append, List.length_cons, List.length_nil]; omega, by show -1 ≤ min (readT s1 e1 a).1.1 4096; omega, by show min (readT s1 e1 a).1.1 4096 ≤ 4096; omega, by show (readT s1 e1 a).2.1.length ≤ _; omega, ?_⟩
                  (by show 5000 - (i + 1) < 5000 - i; omega) (by simp only [SrR, List.map_append, List.map_cons, List.map_nil, trow, hT, hq]; kernel_rfl)
                show _ = readL (min (numN s 0) 4097 - (i + 1)) (readT s1 e1 a).2.1 (readT s1 e1 a).2.2 (min (readT s1 e1 a).1.1 4096) (l ++ [(readT s1 e1 a).1])
                obtain ⟨k, hk⟩ : ∃ k, min (numN s 0) 4097 - i = k + 1 := ⟨min (numN s 0) 4097 - i - 1, by omega⟩
                rw [hinv, hk, readL, if_pos h3, show min (numN s 0) 4097 - (i + 1) = k by omega]
              · have d2 : (((numN s2 e2 / 2 % 2 : Nat) : Int) == 1) = false := by simp; omega
                have hT := hTT (wholeR s3 e3, true) (stR s3 e3).1 (stR s3 e3).2 (if_pos b1) (if_pos b1)
                rw [if_neg b2, if_neg b2] at hT
                simp only [go_sem, Nat.reduceAdd, Nat.reduceSub, Nat.reduceMul, Nat.reduceLT, Nat.reduceLeDiff, Nat.reduceEqDiff, Nat.reduceBEq, Nat.reduceBNe, reduceCtorEq, Int.reduceBNe, Int.reduceBEq, blt0, cA, cM, t1, t2, t3, t4, d1, d2, n0, w1, w2, w4, cW, hb, fit_trow, head_trow, head_trow']
                refine hnorm (i + 1, (readT s1 e1 a).2, min (readT s1 e1 a).1.1 4096, l ++ [(readT s1 e1 a).1]) _ ⟨by show i + 1 ≤ _; omega, by show (l ++ [_]).length = _; simp only [List.length_append, List.length_cons, List.length_nil]; omega, by show -1 ≤ min (readT s1 e1 a).1.1 4096; omega, by show min (readT s1 e1 a).1.1 4096 ≤ 4096; omega, by show (readT s1 e1 a).2.1.length ≤ _; omega, ?_⟩
                  (by show 5000 - (i + 1) < 5000 - i; omega) (by simp only [SrR, List.map_append, List.map_cons, List.map_nil, trow, hT, hq]; kernel_rfl)
                show _ = readL (min (numN s 0) 4097 - (i + 1)) (readT s1 e1 a).2.1 (readT s1 e1 a).2.2 (min (readT s1 e1 a).1.1 4096) (l ++ [(readT s1 e1 a).1])
                obtain ⟨k, hk⟩ : ∃ k, min (numN s 0) 4097 - i = k + 1 := ⟨min (numN s 0) 4097 - i - 1, by omega⟩
                rw [hinv, hk, readL, if_pos h3, show min (numN s 0) 4097 - (i + 1) = k by omega]
            · have d1 : (((numN s2 e2 % 2 : Nat) : Int) == 1) = false := by simp; omega
              by_cases b2 : numN s2 e2 / 2 % 2 = 1
              · have d2 : (((numN s2 e2 / 2 % 2 : Nat) : Int) == 1) = true := by simp; omega
                have hT := hTT (0, false) s3 e3 (if_neg b1) (if_neg b1)
                rw [if_pos b2, if_pos b2] at hT
                have w5 : IntKind.i64.wrap (clampV (wholeR s3 e3) + clampV 0) = clampV (wholeR s3 e3) + clampV 0 := by
                  have := clampV_bound (wholeR s3 e3)
                  have := clampV_bound 0
                  exact wrap_i64 (by omega) (by omega)
                simp only [go_sem, Nat.reduceAdd, Nat.reduceSub, Nat.reduceMul, Nat.reduceLT, Nat.reduceLeDiff, Nat.reduceEqDiff, Nat.reduceBEq, Nat.reduceBNe, reduceCtorEq, Int.reduceBNe, Int.reduceBEq, blt0, cA, cM, t1, t2, t3, t4, d1, d2, n0, w1, w2, w4, w5, cW, call_97, reach_int, hb, fit_trow, head_trow, head_trow']
                refine hnorm (i + 1, (readT s1 e1 a).2, min (readT s1 e1 a).1.1 4096, l ++ [(readT s1 e1 a).1]) _ ⟨by show i + 1 ≤ _; omega, by show (l ++ [_]).length = _; simp only [List.length_append, List.length_cons, List.length_nil]; omega, by show -1 ≤ min (readT s1 e1 a).1.1 4096; omega, by show min (readT s1 e1 a).1.1 4096 ≤ 4096; omega, by show (readT s1 e1 a).2.1.length ≤ _; omega, ?_⟩
                  (by show 5000 - (i + 1) < 5000 - i; omega) (by simp only [SrR, List.map_append, List.map_cons, List.map_nil, trow, hT, hq]; kernel_rfl)
                show _ = readL (min (numN s 0) 4097 - (i + 1)) (readT s1 e1 a).2.1 (readT s1 e1 a).2.2 (min (readT s1 e1 a).1.1 4096) (l ++ [(readT s1 e1 a).1])
                obtain ⟨k, hk⟩ : ∃ k, min (numN s 0) 4097 - i = k + 1 := ⟨min (numN s 0) 4097 - i - 1, by omega⟩
                rw [hinv, hk, readL, if_pos h3, show min (numN s 0) 4097 - (i + 1) = k by omega]
              · have d2 : (((numN s2 e2 / 2 % 2 : Nat) : Int) == 1) = false := by simp; omega
                have hT := hTT (0, false) s3 e3 (if_neg b1) (if_neg b1)
                rw [if_neg b2, if_neg b2] at hT
                simp only [go_sem, Nat.reduceAdd, Nat.reduceSub, Nat.reduceMul, Nat.reduceLT, Nat.reduceLeDiff, Nat.reduceEqDiff, Nat.reduceBEq, Nat.reduceBNe, reduceCtorEq, Int.reduceBNe, Int.reduceBEq, blt0, cA, cM, t1, t2, t3, t4, d1, d2, n0, w1, w2, w4, hb, fit_trow, head_trow, head_trow']
                refine hnorm (i + 1, (readT s1 e1 a).2, min (readT s1 e1 a).1.1 4096, l ++ [(readT s1 e1 a).1]) _ ⟨by show i + 1 ≤ _; omega, by show (l ++ [_]).length = _; simp only [List.length_append, List.length_cons, List.length_nil]; omega, by show -1 ≤ min (readT s1 e1 a).1.1 4096; omega, by show min (readT s1 e1 a).1.1 4096 ≤ 4096; omega, by show (readT s1 e1 a).2.1.length ≤ _; omega, ?_⟩
                  (by show 5000 - (i + 1) < 5000 - i; omega) (by simp only [SrR, List.map_append, List.map_cons, List.map_nil, trow, hT, hq]; kernel_rfl)
                show _ = readL (min (numN s 0) 4097 - (i + 1)) (readT s1 e1 a).2.1 (readT s1 e1 a).2.2 (min (readT s1 e1 a).1.1 4096) (l ++ [(readT s1 e1 a).1])
                obtain ⟨k, hk⟩ : ∃ k, min (numN s 0) 4097 - i = k + 1 := ⟨min (numN s 0) 4097 - i - 1, by omega⟩
                rw [hinv, hk, readL, if_pos h3, show min (numN s 0) 4097 - (i + 1) = k by omega]
      · have h3' : (e1 == 0) = false := by simp [h3]
        simp only [go_sem, Nat.reduceAdd, Nat.reduceSub, Nat.reduceMul, Nat.reduceLT, Nat.reduceLeDiff, Nat.reduceEqDiff, Nat.reduceBEq, Nat.reduceBNe, reduceCtorEq, Int.reduceBNe, Int.reduceBEq, blt0, h1, h2, h3']
        have hF := fin (.inr h3)
        refine hexit _ _ ?_
        have cE := call_98 s1 e1
        have ct := call_25 l (by omega)
        by_cases c1 : endR s1 e1 = 0
        · have c1' : (endR s1 e1 != 0) = false := by simp [c1]
          by_cases c2 : textT l = s
          · have c2' : (textT l == s) = true := by simp [c2]
            simp only [go_sem, Nat.reduceAdd, Nat.reduceSub, Nat.reduceMul, Nat.reduceLT, Nat.reduceLeDiff, Nat.reduceEqDiff, Nat.reduceBEq, Nat.reduceBNe, reduceCtorEq, Int.reduceBNe, Int.reduceBEq, blt0, cE, c1', strOp, ct, c2']
            rw [hF, if_pos ⟨c1, c2⟩]
            exact ret2 (fun _ => ex_ret) rfl rfl rfl rfl ⟨rfl, rfl, rfl⟩
          · have c2' : (textT l == s) = false := by simp [c2]
            simp only [go_sem, Nat.reduceAdd, Nat.reduceSub, Nat.reduceMul, Nat.reduceLT, Nat.reduceLeDiff, Nat.reduceEqDiff, Nat.reduceBEq, Nat.reduceBNe, reduceCtorEq, Int.reduceBNe, Int.reduceBEq, blt0, cE, c1', strOp, ct, c2']
            rw [hF, if_neg fun q => c2 q.2]
            exact ret2 (fun _ => ex_ret) rfl rfl rfl rfl ⟨rfl, rfl, rfl⟩
        · have c1' : (endR s1 e1 != 0) = true := by simp [c1]
          simp only [go_sem, Nat.reduceAdd, Nat.reduceSub, Nat.reduceMul, Nat.reduceLT, Nat.reduceLeDiff, Nat.reduceEqDiff, Nat.reduceBEq, Nat.reduceBNe, reduceCtorEq, Int.reduceBNe, Int.reduceBEq, blt0, cE, c1']
          rw [hF, if_neg fun q => c1 q.1]
          exact ret2 (fun _ => ex_ret) rfl rfl rfl rfl ⟨rfl, rfl, rfl⟩
    · simp only [go_sem, Nat.reduceAdd, Nat.reduceSub, Nat.reduceMul, Nat.reduceLT, Nat.reduceLeDiff, Nat.reduceEqDiff, Nat.reduceBEq, Nat.reduceBNe, reduceCtorEq, Int.reduceBNe, Int.reduceBEq, blt0, h1, h2]
      have hF := fin (.inl (by omega))
      refine hexit _ _ ?_
      have cE := call_98 s1 e1
      have ct := call_25 l (by omega)
      by_cases c1 : endR s1 e1 = 0
      · have c1' : (endR s1 e1 != 0) = false := by simp [c1]
        by_cases c2 : textT l = s
        · have c2' : (textT l == s) = true := by simp [c2]
          simp only [go_sem, Nat.reduceAdd, Nat.reduceSub, Nat.reduceMul, Nat.reduceLT, Nat.reduceLeDiff, Nat.reduceEqDiff, Nat.reduceBEq, Nat.reduceBNe, reduceCtorEq, Int.reduceBNe, Int.reduceBEq, blt0, cE, c1', strOp, ct, c2']
          rw [hF, if_pos ⟨c1, c2⟩]
          exact ret2 (fun _ => ex_ret) rfl rfl rfl rfl ⟨rfl, rfl, rfl⟩
        · have c2' : (textT l == s) = false := by simp [c2]
          simp only [go_sem, Nat.reduceAdd, Nat.reduceSub, Nat.reduceMul, Nat.reduceLT, Nat.reduceLeDiff, Nat.reduceEqDiff, Nat.reduceBEq, Nat.reduceBNe, reduceCtorEq, Int.reduceBNe, Int.reduceBEq, blt0, cE, c1', strOp, ct, c2']
          rw [hF, if_neg fun q => c2 q.2]
          exact ret2 (fun _ => ex_ret) rfl rfl rfl rfl ⟨rfl, rfl, rfl⟩
      · have c1' : (endR s1 e1 != 0) = true := by simp [c1]
        simp only [go_sem, Nat.reduceAdd, Nat.reduceSub, Nat.reduceMul, Nat.reduceLT, Nat.reduceLeDiff, Nat.reduceEqDiff, Nat.reduceBEq, Nat.reduceBNe, reduceCtorEq, Int.reduceBNe, Int.reduceBEq, blt0, cE, c1']
        rw [hF, if_neg fun q => c1 q.1]
        exact ret2 (fun _ => ex_ret) rfl rfl rfl rfl ⟨rfl, rfl, rfl⟩
  · simp only [go_sem, Nat.reduceAdd, Nat.reduceSub, Nat.reduceMul, Nat.reduceLT, Nat.reduceLeDiff, Nat.reduceEqDiff, Nat.reduceBEq, Nat.reduceBNe, reduceCtorEq, Int.reduceBNe, Int.reduceBEq, blt0, h1]
    have hF := fin (.inl (by omega))
    refine hexit _ _ ?_
    have cE := call_98 s1 e1
    have ct := call_25 l (by omega)
    by_cases c1 : endR s1 e1 = 0
    · have c1' : (endR s1 e1 != 0) = false := by simp [c1]
      by_cases c2 : textT l = s
      · have c2' : (textT l == s) = true := by simp [c2]
        simp only [go_sem, Nat.reduceAdd, Nat.reduceSub, Nat.reduceMul, Nat.reduceLT, Nat.reduceLeDiff, Nat.reduceEqDiff, Nat.reduceBEq, Nat.reduceBNe, reduceCtorEq, Int.reduceBNe, Int.reduceBEq, blt0, cE, c1', strOp, ct, c2']
        rw [hF, if_pos ⟨c1, c2⟩]
        exact ret2 (fun _ => ex_ret) rfl rfl rfl rfl ⟨rfl, rfl, rfl⟩
      · have c2' : (textT l == s) = false := by simp [c2]
        simp only [go_sem, Nat.reduceAdd, Nat.reduceSub, Nat.reduceMul, Nat.reduceLT, Nat.reduceLeDiff, Nat.reduceEqDiff, Nat.reduceBEq, Nat.reduceBNe, reduceCtorEq, Int.reduceBNe, Int.reduceBEq, blt0, cE, c1', strOp, ct, c2']
        rw [hF, if_neg fun q => c2 q.2]
        exact ret2 (fun _ => ex_ret) rfl rfl rfl rfl ⟨rfl, rfl, rfl⟩
    · have c1' : (endR s1 e1 != 0) = true := by simp [c1]
      simp only [go_sem, Nat.reduceAdd, Nat.reduceSub, Nat.reduceMul, Nat.reduceLT, Nat.reduceLeDiff, Nat.reduceEqDiff, Nat.reduceBEq, Nat.reduceBNe, reduceCtorEq, Int.reduceBNe, Int.reduceBEq, blt0, cE, c1']
      rw [hF, if_neg fun q => c1 q.1]
      exact ret2 (fun _ => ex_ret) rfl rfl rfl rfl ⟨rfl, rfl, rfl⟩
end Go.Proofs.Ytbpkaajokffpjaa
