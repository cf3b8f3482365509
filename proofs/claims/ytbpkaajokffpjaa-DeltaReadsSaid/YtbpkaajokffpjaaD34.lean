/- Readers of bytes: the program's turn, read. -/
import Derived.Test.YtbpkaajokffpjaaD33
set_option linter.all false
set_option maxRecDepth 100000
namespace Go.Proofs.Ytbpkaajokffpjaa
open Go Go.Abs

def stR (s : List UInt8) (e : Int) : List UInt8 × Int := (numR s e).2
def clampV (v : Int) : Int := min (max v (-4398046511104)) 4398046511104
/-- A turn that is read behind a key: the turn, and where the reader stands. -/
def readT (s : List UInt8) (e : Int) (a : Int) : TR × List UInt8 × Int :=
  let k := min (numN s e : Int) 4096
  let p1 := stR s e
  let kind := numN p1.1 p1.2
  let p2 := stR p1.1 p1.2
  let w : CR := if kind % 2 = 1 then (wholeR p2.1 p2.2, true) else (0, false)
  let p3 := if kind % 2 = 1 then stR p2.1 p2.2 else p2
  let i : CR := if kind / 2 % 2 = 1 then (clampV (wholeR p3.1 p3.2) + clampV w.1, true) else (0, false)
  let p4 := if kind / 2 % 2 = 1 then stR p3.1 p3.2 else p3
  ((a + 1 + k, w, i), p4)
theorem filter_range0 (n : Nat) : (List.range (n + 1)).filter (fun i => [0].contains i) = [0] := by
  induction n with
  | zero => rfl
  | succ n ih => rw [List.range_succ, List.filter_append, ih]; rfl
theorem reach_0 {t : TypeId} {ow : List Nat} {cs : List V} {l : List Blk} {o : Nat} (h : V.idsl [0] cs = [0]) : reach (.cells t ow cs :: l) [.ptr 0 o] = [0] := by
  have e : V.idsl [] [V.ptr 0 o] = [0] := rfl
  simp only [reach, e, List.length_cons, reachGo, List.foldl, List.getElem?_cons_zero, Blk.ids, h, if_true]
  exact filter_range0 _
theorem reach_rd {s : List UInt8} {e : Int} {l : List Blk} : reach (.cells 254 [] [.str s, .int .i64 e] :: l) [.ptr 0 0] = [0] := reach_0 rfl
theorem clampV_bound (v : Int) : -4398046511104 ≤ clampV v ∧ clampV v ≤ 4398046511104 := by unfold clampV; omega
theorem stR_len (s : List UInt8) (e : Int) : (stR s e).1.length ≤ s.length := numR_len s e

set_option maxHeartbeats 4000000 in
theorem call_93 (s : List UInt8) (e a : Int) (hlen : s.length ≤ 1000000000) (ha : -1 ≤ a) (ha2 : a ≤ 4096) :
    (Lim cfg).call 93 [.ptr 0 0, .int .i64 a] [rdB s e] = some (.agg (trow (readT s e a).1), false, [rdB (readT s e a).2.1 (readT s e a).2.2]) := by
  have hn := numN_lt s e
  have hl1 := stR_len s e
  have w1 : IntKind.i64.wrap (a + 1) = a + 1 := wrap_i64 (by omega) (by omega)
  have w2 : IntKind.i64.wrap (a + 1 + min (numN s e : Int) 4096) = a + 1 + min (numN s e : Int) 4096 := wrap_i64 (by omega) (by omega)
  refine call_eq fn_93 rfl ?_
  rw [k_start]
  simp only [Try.f93, List.length_cons, List.length_nil, Nat.zero_add, Nat.reduceSub, Nat.reduceAdd, List.replicate, List.cons_append, List.nil_append, rdB]
  simp only [go_sem, Nat.reduceAdd, Nat.reduceSub, Nat.reduceMul, Nat.reduceLT, Nat.reduceLeDiff, Nat.reduceEqDiff, Nat.reduceBEq, Nat.reduceBNe, reduceCtorEq, Int.reduceBNe, Int.reduceBEq, blt_zero]
  rw [callHeap_at (R := [0]) (call_91 s e hlen)]
  simp only [rdB, numR_fst]
  rw [show (numR s e).2 = stR s e from rfl] at *
  generalize hp1 : stR s e = p1 at *
  obtain ⟨s1, e1⟩ := p1
  have hn1 := numN_lt s1 e1
  have hl2 := stR_len s1 e1
  simp only at hl1
  simp only [go_sem, Nat.reduceAdd, Nat.reduceSub, Nat.reduceMul, Nat.reduceLT, Nat.reduceLeDiff, Nat.reduceEqDiff, Nat.reduceBEq, Nat.reduceBNe, reduceCtorEq, Int.reduceBNe, Int.reduceBEq, blt_zero, ite_min, w1, w2]
  rw [callHeap_at (R := [0]) (call_91 s1 e1 (by omega))]
  simp only [rdB, numR_fst]
  rw [show (numR s1 e1).2 = stR s1 e1 from rfl]
  generalize hp2 : stR s1 e1 = p2 at *
  obtain ⟨s2, e2⟩ := p2
  simp only at hl2
  have a1 := and_1 hn1
  have a2 := and_2 hn1
  have hT : ∀ (w : CR) (s3 : List UInt8) (e3 : Int), (if numN s1 e1 % 2 = 1 then (wholeR s2 e2, true) else ((0, false) : CR)) = w → (if numN s1 e1 % 2 = 1 then stR s2 e2 else (s2, e2)) = (s3, e3) →
      readT s e a = ((a + 1 + min (numN s e : Int) 4096, w, if numN s1 e1 / 2 % 2 = 1 then (clampV (wholeR s3 e3) + clampV w.1, true) else (0, false)), if numN s1 e1 / 2 % 2 = 1 then stR s3 e3 else (s3, e3)) := fun w s3 e3 q1 q2 => by
    simp only [readT, hp1, hp2, q1, q2]
  by_cases b1 : numN s1 e1 % 2 = 1
  · have h1 : (((numN s1 e1 % 2 : Nat) : Int) == 1) = true := by simp; omega
    have hz := zag_bound (numN_lt s2 e2)
    have hl3 := stR_len s2 e2
    simp only [go_sem, Nat.reduceAdd, Nat.reduceSub, Nat.reduceMul, Nat.reduceLT, Nat.reduceLeDiff, Nat.reduceEqDiff, Nat.reduceBEq, Nat.reduceBNe, reduceCtorEq, Int.reduceBNe, Int.reduceBEq, a1, h1, blt_zero]
    rw [callHeap_at (R := [0]) (call_123 s2 e2 (by omega))]
    simp only [rdB]
    rw [show (numR s2 e2).2 = stR s2 e2 from rfl]
    have hT := hT (wholeR s2 e2, true) (stR s2 e2).1 (stR s2 e2).2 (if_pos b1) (if_pos b1)
    generalize hp3 : stR s2 e2 = p3 at *
    obtain ⟨s3, e3⟩ := p3
    simp only at hl3 hT
    by_cases b2 : numN s1 e1 / 2 % 2 = 1
    · have h2 : (((numN s1 e1 / 2 % 2 * 2 : Nat) : Int) == 2) = true := by simp; omega
      simp only [go_sem, Nat.reduceAdd, Nat.reduceSub, Nat.reduceMul, Nat.reduceLT, Nat.reduceLeDiff, Nat.reduceEqDiff, Nat.reduceBEq, Nat.reduceBNe, reduceCtorEq, Int.reduceBNe, Int.reduceBEq, a2, h2, blt_zero]
      rw [callHeap_at (R := [0]) (call_123 s3 e3 (by omega))]
      simp only [rdB]
      rw [show (numR s3 e3).2 = stR s3 e3 from rfl]
      rw [if_pos b2, if_pos b2] at hT
      generalize stR s3 e3 = p4 at *
      obtain ⟨s4, e4⟩ := p4
      have w3 : IntKind.i64.wrap (min (max (wholeR s3 e3) (-4398046511104)) 4398046511104 + min (max (wholeR s2 e2) (-4398046511104)) 4398046511104) = clampV (wholeR s3 e3) + clampV (wholeR s2 e2) := wrap_i64 (by omega) (by omega)
      simp only [go_sem, Nat.reduceAdd, Nat.reduceSub, Nat.reduceMul, Nat.reduceLT, Nat.reduceLeDiff, Nat.reduceEqDiff, Nat.reduceBEq, Nat.reduceBNe, reduceCtorEq, Int.reduceBNe, Int.reduceBEq, ite_min, ite_max, w3, blt_zero, reach_rd]
      refine ⟨fun _ => ex_ret, .agg (trow (readT s e a).1), false, ?_, rfl, rfl, ?_⟩
      · rw [hT]; kernel_rfl
      · rw [hT]; kernel_rfl
    · have h2 : (((numN s1 e1 / 2 % 2 * 2 : Nat) : Int) == 2) = false := by simp; omega
      simp only [go_sem, Nat.reduceAdd, Nat.reduceSub, Nat.reduceMul, Nat.reduceLT, Nat.reduceLeDiff, Nat.reduceEqDiff, Nat.reduceBEq, Nat.reduceBNe, reduceCtorEq, Int.reduceBNe, Int.reduceBEq, a2, h2, blt_zero]
      rw [if_neg b2, if_neg b2] at hT
      refine ⟨fun _ => ex_ret, .agg (trow (readT s e a).1), false, ?_, rfl, rfl, ?_⟩
      · rw [hT]; kernel_rfl
      · rw [hT]; kernel_rfl
  · have h1 : (((numN s1 e1 % 2 : Nat) : Int) == 1) = false := by simp; omega
    have hT := hT (0, false) s2 e2 (if_neg b1) (if_neg b1)
    have hl3 := hl2
    obtain ⟨s3, q3⟩ : ∃ s3, s3 = s2 := ⟨_, rfl⟩
    obtain ⟨e3, q4⟩ : ∃ e3, e3 = e2 := ⟨_, rfl⟩
    rw [← q3, ← q4] at hT ⊢
    rw [← q3] at hl3
    by_cases b2 : numN s1 e1 / 2 % 2 = 1
    · have h2 : (((numN s1 e1 / 2 % 2 * 2 : Nat) : Int) == 2) = true := by simp; omega
      simp only [go_sem, Nat.reduceAdd, Nat.reduceSub, Nat.reduceMul, Nat.reduceLT, Nat.reduceLeDiff, Nat.reduceEqDiff, Nat.reduceBEq, Nat.reduceBNe, reduceCtorEq, Int.reduceBNe, Int.reduceBEq, a1, h1, blt_zero]
      simp only [go_sem, Nat.reduceAdd, Nat.reduceSub, Nat.reduceMul, Nat.reduceLT, Nat.reduceLeDiff, Nat.reduceEqDiff, Nat.reduceBEq, Nat.reduceBNe, reduceCtorEq, Int.reduceBNe, Int.reduceBEq, a2, h2, blt_zero]
      rw [callHeap_at (R := [0]) (call_123 s3 e3 (by omega))]
      simp only [rdB]
      rw [show (numR s3 e3).2 = stR s3 e3 from rfl]
      rw [if_pos b2, if_pos b2] at hT
      generalize stR s3 e3 = p4 at *
      obtain ⟨s4, e4⟩ := p4
      have w3 : IntKind.i64.wrap (min (max (wholeR s3 e3) (-4398046511104)) 4398046511104 + min (max 0 (-4398046511104)) 4398046511104) = clampV (wholeR s3 e3) + clampV 0 := wrap_i64 (by omega) (by omega)
      simp only [go_sem, Nat.reduceAdd, Nat.reduceSub, Nat.reduceMul, Nat.reduceLT, Nat.reduceLeDiff, Nat.reduceEqDiff, Nat.reduceBEq, Nat.reduceBNe, reduceCtorEq, Int.reduceBNe, Int.reduceBEq, ite_min, ite_max, w3, blt_zero, reach_rd]
      refine ⟨fun _ => ex_ret, .agg (trow (readT s e a).1), false, ?_, rfl, rfl, ?_⟩
      · rw [hT]; kernel_rfl
      · rw [hT]; kernel_rfl
    · have h2 : (((numN s1 e1 / 2 % 2 * 2 : Nat) : Int) == 2) = false := by simp; omega
      simp only [go_sem, Nat.reduceAdd, Nat.reduceSub, Nat.reduceMul, Nat.reduceLT, Nat.reduceLeDiff, Nat.reduceEqDiff, Nat.reduceBEq, Nat.reduceBNe, reduceCtorEq, Int.reduceBNe, Int.reduceBEq, a1, h1, a2, h2, blt_zero]
      rw [if_neg b2, if_neg b2] at hT
      refine ⟨fun _ => ex_ret, .agg (trow (readT s e a).1), false, ?_, rfl, rfl, ?_⟩
      · rw [hT]; kernel_rfl
      · rw [hT]; kernel_rfl
end Go.Proofs.Ytbpkaajokffpjaa
