/- Readers of bytes: the program's turns, read. -/
import Derived.Test.YtbpkaajokffpjaaD34
set_option linter.all false
set_option maxRecDepth 100000
namespace Go.Proofs.Ytbpkaajokffpjaa
open Go Go.Abs

/-- Turns that are read one behind the other. -/
def readL : Nat → List UInt8 → Int → Int → List TR → List TR × List UInt8 × Int
  | 0, s, e, _, l => (l, s, e)
  | k + 1, s, e, a, l => if e = 0 then readL k (readT s e a).2.1 (readT s e a).2.2 (min (readT s e a).1.1 4096) (l ++ [(readT s e a).1]) else (l, s, e)
def readD (s : List UInt8) : List TR × Int :=
  let q := readL (min (numN s 0) 4097) (stR s 0).1 (stR s 0).2 (-1) []
  if endR q.2.1 q.2.2 = 0 ∧ textT q.1 = s then (q.1, 0) else ([], 3)

def SdR (s : List UInt8) (n : Nat) (x : Nat × (List UInt8 × Int) × Int × List TR) : St := { fr := mkF 48 [(0, .str s), (4, .ptr 0 0), (5, .sl true (x.2.2.2.map trow)), (6, .int .i64 x.2.2.1), (7, .int .i64 x.1), (8, .int .i64 n)], own := [5], hp := [rdB x.2.1.1 x.2.1.2], al := [], nb := 0 }
theorem readT_key (s : List UInt8) (e a : Int) : (readT s e a).1.1 = a + 1 + min (numN s e : Int) 4096 := rfl
theorem readT_len (s : List UInt8) (e a : Int) : (readT s e a).2.1.length ≤ s.length := by
  have h1 := stR_len s e
  have h2 := stR_len (stR s e).1 (stR s e).2
  simp only [readT]
  generalize stR (stR s e).1 (stR s e).2 = p2 at *
  have h3 := stR_len p2.1 p2.2
  split <;> split
  · have := stR_len (stR p2.1 p2.2).1 (stR p2.1 p2.2).2; omega
  · omega
  · omega
  · omega
set_option maxHeartbeats 4000000 in
theorem call_22 (s : List UInt8) (hlen : s.length ≤ 1000000000) :
    (Lim cfg).call 22 [.str s] [] = some (.tup [.sl true ((readD s).1.map trow), .int .i64 (readD s).2], false, []) := by
  have hn := numN_lt s 0
  have hl1 := stR_len s 0
  refine call_eq fn_22 rfl ?_
  rw [k_start]
  simp only [Try.f22, List.length_cons, List.length_nil, Nat.zero_add, Nat.reduceSub, Nat.reduceAdd, List.replicate, List.cons_append, List.nil_append]
  simp only [go_sem, Nat.reduceAdd, Nat.reduceSub, Nat.reduceMul, Nat.reduceLT, Nat.reduceLeDiff, Nat.reduceEqDiff, Nat.reduceBEq, Nat.reduceBNe, reduceCtorEq, Int.reduceBNe, Int.reduceBEq, blt0, call_90]
  simp only [rdB]
  simp only [go_sem, Nat.reduceAdd, Nat.reduceSub, Nat.reduceMul, Nat.reduceLT, Nat.reduceLeDiff, Nat.reduceEqDiff, Nat.reduceBEq, Nat.reduceBNe, reduceCtorEq, Int.reduceBNe, Int.reduceBEq, blt0]
  rw [callHeap_at (R := [0]) (call_91 s 0 hlen)]
  simp only [rdB, numR_fst]
  rw [show (numR s 0).2 = stR s 0 from rfl]
  simp only [go_sem, Nat.reduceAdd, Nat.reduceSub, Nat.reduceMul, Nat.reduceLT, Nat.reduceLeDiff, Nat.reduceEqDiff, Nat.reduceBEq, Nat.reduceBNe, reduceCtorEq, Int.reduceBNe, Int.reduceBEq, blt0]
  have hM : ((min (numN s 0) 4097 : Nat) : Int) = min (numN s 0 : Int) 4097 := by omega
  refine k_loop (SdR s (numN s 0)) (fun x => x.1 ≤ min (numN s 0) 4097 ∧ x.2.2.2.length = x.1 ∧ -1 ≤ x.2.2.1 ∧ x.2.2.1 ≤ 4096 ∧ x.2.1.1.length ≤ s.length ∧ readL (min (numN s 0) 4097) (stR s 0).1 (stR s 0).2 (-1) [] = readL (min (numN s 0) 4097 - x.1) x.2.1.1 x.2.1.2 x.2.2.1 x.2.2.2)
    (fun x => 5000 - x.1) (0, stR s 0, -1, []) (K := cfg.kill 22 5) rfl ⟨Nat.zero_le _, rfl, by show (-1 : Int) ≤ -1; omega, by show (-1 : Int) ≤ 4096; omega, hl1, rfl⟩ (by kernel_rfl) ?_
  intro ⟨i, ⟨s1, e1⟩, a, l⟩ ⟨hi, hll, ha1, ha2, hsl, hinv⟩ k' Q' hnorm hexit hret
  simp only at hi hll ha1 ha2 hsl hinv
  simp only [SdR, mkF, List.foldl, List.replicate, List.set, List.cons_append, List.nil_append]
  simp only [rdB]
  have fin : i = min (numN s 0) 4097 ∨ e1 ≠ 0 → readD s = if endR s1 e1 = 0 ∧ textT l = s then (l, 0) else ([], 3) := fun h => by
    have : readL (min (numN s 0) 4097 - i) s1 e1 a l = (l, s1, e1) := by
      rcases h with h | h
      · rw [h, Nat.sub_self]; rfl
      · cases min (numN s 0) 4097 - i with
        | zero => rfl
        | succ k => rw [readL, if_neg h]
    rw [readD, hinv, this]
  by_cases h1 : (i : Int) < (numN s 0 : Int)
  · by_cases h2 : (i : Int) ≤ 4096
    · simp only [go_sem, Nat.reduceAdd, Nat.reduceSub, Nat.reduceMul, Nat.reduceLT, Nat.reduceLeDiff, Nat.reduceEqDiff, Nat.reduceBEq, Nat.reduceBNe, reduceCtorEq, Int.reduceBNe, Int.reduceBEq, blt0, h1, h2]
      rw [callHeap_at (R := [0]) (call_92 s1 e1)]
      simp only [rdB]
      by_cases h3 : e1 = 0
      · have h3' : (e1 == 0) = true := by simp [h3]
        simp only [go_sem, Nat.reduceAdd, Nat.reduceSub, Nat.reduceMul, Nat.reduceLT, Nat.reduceLeDiff, Nat.reduceEqDiff, Nat.reduceBEq, Nat.reduceBNe, reduceCtorEq, Int.reduceBNe, Int.reduceBEq, blt0, h3']
        rw [callHeap_at (R := [0]) (call_93 s1 e1 a (by omega) ha1 ha2)]
        simp only [rdB]
        have hb : (l.length + 1) * 40 ≤ strMax := by unfold strMax; omega
        have hkk := readT_key s1 e1 a
        have hnn := numN_lt s1 e1
        have wi : IntKind.i64.wrap ((i : Int) + 1) = (i : Int) + 1 := wrap_i64 (by omega) (by omega)
        have hlen2 := readT_len s1 e1 a
        generalize hT : readT s1 e1 a = T at *
        obtain ⟨t, s2, e2⟩ := T
        simp only at hkk hlen2
        simp only [go_sem, Nat.reduceAdd, Nat.reduceSub, Nat.reduceMul, Nat.reduceLT, Nat.reduceLeDiff, Nat.reduceEqDiff, Nat.reduceBEq, Nat.reduceBNe, reduceCtorEq, Int.reduceBNe, Int.reduceBEq, blt0, ite_min, hb, wi, fit_trow, head_trow, head_trow', trow]
        refine hnorm (i + 1, (s2, e2), min t.1 4096, l ++ [t]) _ ⟨by show i + 1 ≤ _; omega, by show (l ++ [t]).length = _; simp only [List.length_append, List.length_cons, List.length_nil]; omega, by show -1 ≤ min t.1 4096; omega, by show min t.1 4096 ≤ 4096; omega, by show s2.length ≤ _; omega, ?_⟩
          (by show 5000 - (i + 1) < 5000 - i; omega) (by simp only [SdR, List.map_append, List.map_cons, List.map_nil, trow]; kernel_rfl)
        show _ = readL (min (numN s 0) 4097 - (i + 1)) s2 e2 (min t.1 4096) (l ++ [t])
        obtain ⟨k, hk⟩ : ∃ k, min (numN s 0) 4097 - i = k + 1 := ⟨min (numN s 0) 4097 - i - 1, by omega⟩
        rw [hinv, hk, readL, if_pos h3, hT, show min (numN s 0) 4097 - (i + 1) = k by omega]
      · have h3' : (e1 == 0) = false := by simp [h3]
        simp only [go_sem, Nat.reduceAdd, Nat.reduceSub, Nat.reduceMul, Nat.reduceLT, Nat.reduceLeDiff, Nat.reduceEqDiff, Nat.reduceBEq, Nat.reduceBNe, reduceCtorEq, Int.reduceBNe, Int.reduceBEq, blt0, h3']
        have hF := fin (.inr h3)
        refine hexit _ _ ?_
        simp only [go_sem, Nat.reduceAdd, Nat.reduceSub, Nat.reduceMul, Nat.reduceLT, Nat.reduceLeDiff, Nat.reduceEqDiff, Nat.reduceBEq, Nat.reduceBNe, reduceCtorEq, Int.reduceBNe, Int.reduceBEq, blt0]
        rw [callHeap_at (R := [0]) (call_94 s1 e1)]
        simp only [rdB]
        by_cases c1 : endR s1 e1 = 0
        · have c1' : (endR s1 e1 != 0) = false := by simp [c1]
          have ct := call_24 l (by omega)
          by_cases c2 : textT l = s
          · have c2' : (textT l == s) = true := by simp [c2]
            simp only [go_sem, Nat.reduceAdd, Nat.reduceSub, Nat.reduceMul, Nat.reduceLT, Nat.reduceLeDiff, Nat.reduceEqDiff, Nat.reduceBEq, Nat.reduceBNe, reduceCtorEq, Int.reduceBNe, Int.reduceBEq, blt0, c1', strOp, ct, c2']
            rw [hF, if_pos ⟨c1, c2⟩]
            exact ret2 (fun _ => ex_ret) rfl rfl rfl rfl ⟨rfl, rfl, rfl⟩
          · have c2' : (textT l == s) = false := by simp [c2]
            simp only [go_sem, Nat.reduceAdd, Nat.reduceSub, Nat.reduceMul, Nat.reduceLT, Nat.reduceLeDiff, Nat.reduceEqDiff, Nat.reduceBEq, Nat.reduceBNe, reduceCtorEq, Int.reduceBNe, Int.reduceBEq, blt0, c1', strOp, ct, c2']
            rw [hF, if_neg fun q => c2 q.2]
            exact ret2 (fun _ => ex_ret) rfl rfl rfl rfl ⟨rfl, rfl, rfl⟩
        · have c1' : (endR s1 e1 != 0) = true := by simp [c1]
          simp only [go_sem, Nat.reduceAdd, Nat.reduceSub, Nat.reduceMul, Nat.reduceLT, Nat.reduceLeDiff, Nat.reduceEqDiff, Nat.reduceBEq, Nat.reduceBNe, reduceCtorEq, Int.reduceBNe, Int.reduceBEq, blt0, c1']
          rw [hF, if_neg fun q => c1 q.1]
          exact ret2 (fun _ => ex_ret) rfl rfl rfl rfl ⟨rfl, rfl, rfl⟩
    · simp only [go_sem, Nat.reduceAdd, Nat.reduceSub, Nat.reduceMul, Nat.reduceLT, Nat.reduceLeDiff, Nat.reduceEqDiff, Nat.reduceBEq, Nat.reduceBNe, reduceCtorEq, Int.reduceBNe, Int.reduceBEq, blt0, h1, h2]
      have hF := fin (.inl (by omega))
      refine hexit _ _ ?_
      simp only [go_sem, Nat.reduceAdd, Nat.reduceSub, Nat.reduceMul, Nat.reduceLT, Nat.reduceLeDiff, Nat.reduceEqDiff, Nat.reduceBEq, Nat.reduceBNe, reduceCtorEq, Int.reduceBNe, Int.reduceBEq, blt0]
      rw [callHeap_at (R := [0]) (call_94 s1 e1)]
      simp only [rdB]
      by_cases c1 : endR s1 e1 = 0
      · have c1' : (endR s1 e1 != 0) = false := by simp [c1]
        have ct := call_24 l (by omega)
        by_cases c2 : textT l = s
        · have c2' : (textT l == s) = true := by simp [c2]
          simp only [go_sem, Nat.reduceAdd, Nat.reduceSub, Nat.reduceMul, Nat.reduceLT, Nat.reduceLeDiff, Nat.reduceEqDiff, Nat.reduceBEq, Nat.reduceBNe, reduceCtorEq, Int.reduceBNe, Int.reduceBEq, blt0, c1', strOp, ct, c2']
          rw [hF, if_pos ⟨c1, c2⟩]
          exact ret2 (fun _ => ex_ret) rfl rfl rfl rfl ⟨rfl, rfl, rfl⟩
        · have c2' : (textT l == s) = false := by simp [c2]
          simp only [go_sem, Nat.reduceAdd, Nat.reduceSub, Nat.reduceMul, Nat.reduceLT, Nat.reduceLeDiff, Nat.reduceEqDiff, Nat.reduceBEq, Nat.reduceBNe, reduceCtorEq, Int.reduceBNe, Int.reduceBEq, blt0, c1', strOp, ct, c2']
          rw [hF, if_neg fun q => c2 q.2]
          exact ret2 (fun _ => ex_ret) rfl rfl rfl rfl ⟨rfl, rfl, rfl⟩
      · have c1' : (endR s1 e1 != 0) = true := by simp [c1]
        simp only [go_sem, Nat.reduceAdd, Nat.reduceSub, Nat.reduceMul, Nat.reduceLT, Nat.reduceLeDiff, Nat.reduceEqDiff, Nat.reduceBEq, Nat.reduceBNe, reduceCtorEq, Int.reduceBNe, Int.reduceBEq, blt0, c1']
        rw [hF, if_neg fun q => c1 q.1]
        exact ret2 (fun _ => ex_ret) rfl rfl rfl rfl ⟨rfl, rfl, rfl⟩
  · simp only [go_sem, Nat.reduceAdd, Nat.reduceSub, Nat.reduceMul, Nat.reduceLT, Nat.reduceLeDiff, Nat.reduceEqDiff, Nat.reduceBEq, Nat.reduceBNe, reduceCtorEq, Int.reduceBNe, Int.reduceBEq, blt0, h1]
    have hF := fin (.inl (by omega))
    refine hexit _ _ ?_
    simp only [go_sem, Nat.reduceAdd, Nat.reduceSub, Nat.reduceMul, Nat.reduceLT, Nat.reduceLeDiff, Nat.reduceEqDiff, Nat.reduceBEq, Nat.reduceBNe, reduceCtorEq, Int.reduceBNe, Int.reduceBEq, blt0]
    rw [callHeap_at (R := [0]) (call_94 s1 e1)]
    simp only [rdB]
    by_cases c1 : endR s1 e1 = 0
    · have c1' : (endR s1 e1 != 0) = false := by simp [c1]
      have ct := call_24 l (by omega)
      by_cases c2 : textT l = s
      · have c2' : (textT l == s) = true := by simp [c2]
        simp only [go_sem, Nat.reduceAdd, Nat.reduceSub, Nat.reduceMul, Nat.reduceLT, Nat.reduceLeDiff, Nat.reduceEqDiff, Nat.reduceBEq, Nat.reduceBNe, reduceCtorEq, Int.reduceBNe, Int.reduceBEq, blt0, c1', strOp, ct, c2']
        rw [hF, if_pos ⟨c1, c2⟩]
        exact ret2 (fun _ => ex_ret) rfl rfl rfl rfl ⟨rfl, rfl, rfl⟩
      · have c2' : (textT l == s) = false := by simp [c2]
        simp only [go_sem, Nat.reduceAdd, Nat.reduceSub, Nat.reduceMul, Nat.reduceLT, Nat.reduceLeDiff, Nat.reduceEqDiff, Nat.reduceBEq, Nat.reduceBNe, reduceCtorEq, Int.reduceBNe, Int.reduceBEq, blt0, c1', strOp, ct, c2']
        rw [hF, if_neg fun q => c2 q.2]
        exact ret2 (fun _ => ex_ret) rfl rfl rfl rfl ⟨rfl, rfl, rfl⟩
    · have c1' : (endR s1 e1 != 0) = true := by simp [c1]
      simp only [go_sem, Nat.reduceAdd, Nat.reduceSub, Nat.reduceMul, Nat.reduceLT, Nat.reduceLeDiff, Nat.reduceEqDiff, Nat.reduceBEq, Nat.reduceBNe, reduceCtorEq, Int.reduceBNe, Int.reduceBEq, blt0, c1']
      rw [hF, if_neg fun q => c1 q.1]
      exact ret2 (fun _ => ex_ret) rfl rfl rfl rfl ⟨rfl, rfl, rfl⟩
end Go.Proofs.Ytbpkaajokffpjaa
