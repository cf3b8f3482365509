/- Places: the pair of a place, and a key's rank. -/
import Derived.Test.YtbpkaajokffpjaaE8
set_option linter.all false
set_option maxRecDepth 100000
namespace Go.Proofs.Ytbpkaajokffpjaa
open Go Go.Abs

theorem cnt_append (k : Int) (a b : List PR) : cnt k (a ++ b) = cnt k a + cnt k b := by
  induction a with
  | nil => simp [cnt]
  | cons p a ih => simp only [List.cons_append, cnt, ih]; split <;> omega

def T72 (k : Int) (m : List PR) (i : Nat) : St := { fr := mkF 29 [(2, .int .i64 k), (7, .sl true (m.map prow)), (8, .int .i64 (cnt k (m.take i))), (9, .int .i64 i)], own := [], hp := [], al := [], nb := 0 }
set_option maxHeartbeats 4000000 in
theorem call_72 (l : List PR) (on : List SR) (k : Int) (hlen : l.length ≤ 100000) (hon : on.length ≤ 100000) :
    (Lim cfg).call 72 [.sl true (l.map prow), .sl true (on.map srow), .int .i64 k] [] = some (.int .i64 (cnt k (clip l on)), false, []) := by
  have c1 := call_70 l on hlen hon
  have hml := (clip_rise l on).2.2
  generalize clip l on = m at c1 hml ⊢
  refine call_eq fn_72 rfl ?_
  rw [k_start]
  simp only [Try.f72, List.length_cons, List.length_nil, Nat.zero_add, Nat.reduceSub, Nat.reduceAdd, List.replicate, List.cons_append, List.nil_append]
  simp only [go_sem, Nat.reduceAdd, Nat.reduceSub, Nat.reduceMul, Nat.reduceLT, Nat.reduceLeDiff, Nat.reduceEqDiff, Nat.reduceBEq, Nat.reduceBNe, reduceCtorEq, Int.reduceBNe, Int.reduceBEq, blt0, c1]
  refine k_loop (T72 k m) (fun i => i ≤ m.length) (fun i => m.length - i) 0 (K := cfg.kill 72 4) rfl (Nat.zero_le _) (by kernel_rfl) ?_
  intro i hi k' Q' hnorm hexit hret
  simp only [T72, mkF, List.foldl, List.replicate, List.set, List.cons_append, List.nil_append]
  simp only [go_sem, Nat.reduceAdd, Nat.reduceSub, Nat.reduceMul, Nat.reduceLT, Nat.reduceLeDiff, Nat.reduceEqDiff, Nat.reduceBEq, Nat.reduceBNe, reduceCtorEq, Int.reduceBNe, Int.reduceBEq, blt0]
  by_cases hlt : i < m.length
  · have h1 : (i : Int) < (m.length : Int) := by omega
    have h2 : ¬ ((i : Int) < 0) := by omega
    have hx : (m.map prow)[i]? = some (prow m[i]) := by simp [hlt]
    have hc := cnt_le k (m.take i)
    rw [List.length_take] at hc
    have ht : cnt k (m.take (i + 1)) = cnt k (m.take i) + (if m[i].1 < k then 1 else 0) := by
      rw [List.take_succ_eq_append_getElem hlt, cnt_append]; simp only [cnt]
    have w1 : IntKind.i64.wrap (((cnt k (m.take i) : Nat) : Int) + 1) = ((cnt k (m.take i) + 1 : Nat) : Int) := by rw [wrap_i64 (by omega) (by omega)]; push_cast; rfl
    by_cases hb : m[i].1 < k
    · rw [if_pos hb] at ht
      simp only [go_sem, Nat.reduceAdd, Nat.reduceSub, Nat.reduceMul, Nat.reduceLT, Nat.reduceLeDiff, Nat.reduceEqDiff, Nat.reduceBEq, Nat.reduceBNe, reduceCtorEq, Int.reduceBNe, Int.reduceBEq, blt0, h1, h2, hx, prow, Int.toNat_natCast, hb, w1]
      rw [wrap_i64 (by omega) (by omega)]
      refine hnorm (i + 1) _ (by omega) (by omega) ?_
      have eT : T72 k m (i + 1) = { fr := mkF 29 [(2, .int .i64 k), (7, .sl true (m.map prow)), (8, .int .i64 ((cnt k (m.take i) + 1 : Nat) : Int)), (9, .int .i64 ((i + 1 : Nat) : Int))], own := [], hp := [], al := [], nb := 0 } := by rw [← ht]; rfl
      exact Eq.trans (by kernel_rfl) eT.symm
    · rw [if_neg hb] at ht
      have ht : cnt k (m.take (i + 1)) = cnt k (m.take i) := ht
      simp only [go_sem, Nat.reduceAdd, Nat.reduceSub, Nat.reduceMul, Nat.reduceLT, Nat.reduceLeDiff, Nat.reduceEqDiff, Nat.reduceBEq, Nat.reduceBNe, reduceCtorEq, Int.reduceBNe, Int.reduceBEq, blt0, h1, h2, hx, prow, Int.toNat_natCast, hb]
      rw [wrap_i64 (by omega) (by omega)]
      refine hnorm (i + 1) _ (by omega) (by omega) ?_
      have eT : T72 k m (i + 1) = { fr := mkF 29 [(2, .int .i64 k), (7, .sl true (m.map prow)), (8, .int .i64 ((cnt k (m.take i) : Nat) : Int)), (9, .int .i64 ((i + 1 : Nat) : Int))], own := [], hp := [], al := [], nb := 0 } := by rw [← ht]; rfl
      exact Eq.trans (by kernel_rfl) eT.symm
  · have h1 : ¬ (i : Int) < (m.length : Int) := by omega
    simp only [go_sem, Nat.reduceAdd, Nat.reduceSub, Nat.reduceMul, Nat.reduceLT, Nat.reduceLeDiff, Nat.reduceEqDiff, Nat.reduceBEq, Nat.reduceBNe, reduceCtorEq, Int.reduceBNe, Int.reduceBEq, blt0, h1]
    refine hexit 0 _ ?_
    simp only [go_sem, Nat.reduceAdd, Nat.reduceSub, Nat.reduceMul, Nat.reduceLT, Nat.reduceLeDiff, Nat.reduceEqDiff, Nat.reduceBEq, Nat.reduceBNe, reduceCtorEq, Int.reduceBNe, Int.reduceBEq, blt0]
    refine ret1n (fun _ => ex_ret) rfl rfl rfl ⟨?_, rfl, rfl⟩
    show V.int _ _ = _
    rw [List.take_of_length_le (by omega)]

set_option maxHeartbeats 4000000 in
theorem call_71 (l : List PR) (on : List SR) (k : Int) (hlen : l.length ≤ 100000) (hon : on.length ≤ 100000) :
    (Lim cfg).call 71 [.sl true (l.map prow), .sl true (on.map srow), .int .i64 k] [] = some (.int .i64 (cnt k (clip l on)), false, []) := by
  have c1 := call_74 l on hlen hon
  obtain ⟨hr, _, hml⟩ := clip_rise l on
  have c2 := search_rank (clip l on) k (by omega) hr
  cases hO : clip l on with
  | nil =>
    rw [hO] at c1 c2
    simp only [clipV, clipB, List.map_nil] at c1 c2
    generalize (!(chk l && setS on)) = own at c1
    cases own with
    | true =>
      refine call_eq fn_71 rfl ?_
      rw [k_start]
      simp only [Try.f71, List.length_cons, List.length_nil, Nat.zero_add, Nat.reduceSub, Nat.reduceAdd, List.replicate, List.cons_append, List.nil_append]
      simp only [go_sem, Nat.reduceAdd, Nat.reduceSub, Nat.reduceMul, Nat.reduceLT, Nat.reduceLeDiff, Nat.reduceEqDiff, Nat.reduceBEq, Nat.reduceBNe, reduceCtorEq, Int.reduceBNe, Int.reduceBEq, blt0, c1, fz_cons, freezeT, c2]
      exact ret1n (v := .int .i64 (cnt k [])) (fun _ => ex_ret) rfl rfl rfl ⟨rfl, rfl, rfl⟩
    | false =>
      refine call_eq fn_71 rfl ?_
      rw [k_start]
      simp only [Try.f71, List.length_cons, List.length_nil, Nat.zero_add, Nat.reduceSub, Nat.reduceAdd, List.replicate, List.cons_append, List.nil_append]
      simp only [go_sem, Nat.reduceAdd, Nat.reduceSub, Nat.reduceMul, Nat.reduceLT, Nat.reduceLeDiff, Nat.reduceEqDiff, Nat.reduceBEq, Nat.reduceBNe, reduceCtorEq, Int.reduceBNe, Int.reduceBEq, blt0, c1, fz_cons, freezeT, c2]
      exact ret1n (v := .int .i64 (cnt k [])) (fun _ => ex_ret) rfl rfl rfl ⟨rfl, rfl, rfl⟩
  | cons o r =>
    rw [hO] at c1 c2
    simp only [clipV, clipB, prow, List.map_cons] at c1 c2
    have f1 : (flatP (o :: r)).length = (r.length + 1) * 2 := flatP_len _
    have f6 : (flatP (o :: r)).take ((r.length + 1) * 2) = flatP (o :: r) := flatP_take (o :: r)
    have q5 : aloneIn 1 [Blk.cells 125 [] [V.int IntKind.i64 o.fst, V.int IntKind.i64 o.snd], Blk.cells 125 [] (flatP (o :: r))] = true := rfl
    refine call_eq fn_71 rfl ?_
    rw [k_start]
    simp only [Try.f71, List.length_cons, List.length_nil, Nat.zero_add, Nat.reduceSub, Nat.reduceAdd, List.replicate, List.cons_append, List.nil_append]
    simp only [go_sem, Nat.reduceAdd, Nat.reduceSub, Nat.reduceMul, Nat.reduceLT, Nat.reduceLeDiff, Nat.reduceEqDiff, Nat.reduceBEq, Nat.reduceBNe, reduceCtorEq, Int.reduceBNe, Int.reduceBEq, blt0, c1, fz_cons, freezeT, f1, f6, flatP_rows, flatP_take2, flatP_drop2, Nat.le_refl, flatP_all, flatP_ren, flatP_lt, q5, St.lose, List.map_cons, List.map_nil, dl_any, dl_sl, dl_ms, dl_ptr, dl_int, dl_bool, dl_pc, c2]
    exact ret1n (v := .int .i64 (cnt k (o :: r))) (fun _ => ex_ret) rfl rfl rfl ⟨rfl, rfl, rfl⟩
end Go.Proofs.Ytbpkaajokffpjaa
