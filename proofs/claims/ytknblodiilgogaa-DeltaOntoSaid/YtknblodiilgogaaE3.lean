/- Which keys spans have, by a closure that is asked of each. -/
import Derived.Test.YtknblodiilgogaaE2
set_option linter.all false
set_option maxRecDepth 100000
namespace Go.Proofs.Ytknblodiilgogaa
open Go Go.Abs

theorem ret1h {t : Tmp} {n : Nat} {e : Ex} {s : St} {R : V → Bool → List Blk → Prop} {v : V} (he : ∀ i, e ≠ .exit i) (hv : s.fr.getD t .any = v) (hl : V.lt n v = true) (hs : isSl v = false)
    (ha : (s.hp.take n).all (Blk.all fun i => Nat.blt i n) = true) (h : R v false (s.hp.take n)) : Ret cfg [.tmp t] n R e s := by
  refine ⟨he, v, s.own.contains t, by simp only [resultsV, resOf, resOwn, hv, Option.map_some], ?_⟩
  rw [hs, Bool.and_false]
  simp only [hl, ha, Bool.and_self, if_true]
  exact h

def keyC (k : Int) : Blk := .cells 3 [] [.int .i64 k]
def hit (s : SR) (k : Int) : Bool := oneS s && (decide (s.1 ≤ k) && decide (k < s.2))
def idxFrom : Nat → List SR → Int → Int
  | _, [], _ => -1
  | i, s :: r, k => if hit s k = true then (i : Int) else idxFrom (i + 1) r k
theorem idx_has : ∀ (l : List SR) (i : Nat) (k : Int), decide (idxFrom i l k ≥ 0) = hasS l k
  | [], i, k => by simp [idxFrom, hasS]
  | s :: r, i, k => by
    rw [idxFrom, hasS, List.any_cons]
    by_cases h : hit s k = true
    · rw [if_pos h, show (oneS s && (decide (s.1 ≤ k) && decide (k < s.2))) = true from h]
      simp
    · rw [if_neg h, show (oneS s && (decide (s.1 ≤ k) && decide (k < s.2))) = false from by simpa [hit] using h, Bool.false_or]
      exact idx_has r (i + 1) k
theorem idx_le : ∀ (l : List SR) (i : Nat) (k : Int), idxFrom i l k ≤ i + l.length
  | [], i, k => by rw [idxFrom]; simp only [List.length_nil]; omega
  | s :: r, i, k => by
    rw [idxFrom]
    have := idx_le r (i + 1) k
    split
    · simp; omega
    · simp only [List.length_cons]; push_cast at this ⊢; omega

theorem call_94 (s : SR) (k : Int) : (Lim cfg).call 94 [.agg (srow s), .ptr 0 0] [keyC k] = some (.bool (hit s k), false, [keyC k]) := by
  have c1 := call_87 s
  simp only [srow] at c1
  by_cases ho : oneS s = true
  · rw [ho] at c1
    by_cases h3 : s.1 ≤ k
    · have h3' : k ≥ s.1 := h3
      by_cases h4 : k < s.2
      · rw [show hit s k = true by simp [hit, ho, h3, h4]]
        refine call_eq fn_94 rfl ?_
        rw [k_start]
        simp only [Try.f94, List.length_cons, List.length_nil, Nat.zero_add, Nat.reduceSub, Nat.reduceAdd, List.replicate, List.cons_append, List.nil_append]
        simp only [go_sem, Nat.reduceAdd, Nat.reduceSub, Nat.reduceMul, Nat.reduceLT, Nat.reduceLeDiff, Nat.reduceEqDiff, Nat.reduceBEq, Nat.reduceBNe, reduceCtorEq, Int.reduceBNe, Int.reduceBEq, srow, keyC, c1, h3', h4, blt0]
        exact ret1h (fun _ => ex_ret) rfl rfl rfl rfl ⟨rfl, rfl, rfl⟩
      · rw [show hit s k = false by simp [hit, h4]]
        refine call_eq fn_94 rfl ?_
        rw [k_start]
        simp only [Try.f94, List.length_cons, List.length_nil, Nat.zero_add, Nat.reduceSub, Nat.reduceAdd, List.replicate, List.cons_append, List.nil_append]
        simp only [go_sem, Nat.reduceAdd, Nat.reduceSub, Nat.reduceMul, Nat.reduceLT, Nat.reduceLeDiff, Nat.reduceEqDiff, Nat.reduceBEq, Nat.reduceBNe, reduceCtorEq, Int.reduceBNe, Int.reduceBEq, srow, keyC, c1, h3', h4, blt0]
        exact ret1h (fun _ => ex_ret) rfl rfl rfl rfl ⟨rfl, rfl, rfl⟩
    · have h3' : ¬ k ≥ s.1 := h3
      rw [show hit s k = false by simp [hit, h3]]
      refine call_eq fn_94 rfl ?_
      rw [k_start]
      simp only [Try.f94, List.length_cons, List.length_nil, Nat.zero_add, Nat.reduceSub, Nat.reduceAdd, List.replicate, List.cons_append, List.nil_append]
      simp only [go_sem, Nat.reduceAdd, Nat.reduceSub, Nat.reduceMul, Nat.reduceLT, Nat.reduceLeDiff, Nat.reduceEqDiff, Nat.reduceBEq, Nat.reduceBNe, reduceCtorEq, Int.reduceBNe, Int.reduceBEq, srow, keyC, c1, h3', blt0]
      exact ret1h (fun _ => ex_ret) rfl rfl rfl rfl ⟨rfl, rfl, rfl⟩
  · rw [Bool.not_eq_true] at ho
    rw [ho] at c1
    rw [show hit s k = false by simp [hit, ho]]
    refine call_eq fn_94 rfl ?_
    rw [k_start]
    simp only [Try.f94, List.length_cons, List.length_nil, Nat.zero_add, Nat.reduceSub, Nat.reduceAdd, List.replicate, List.cons_append, List.nil_append]
    simp only [go_sem, Nat.reduceAdd, Nat.reduceSub, Nat.reduceMul, Nat.reduceLT, Nat.reduceLeDiff, Nat.reduceEqDiff, Nat.reduceBEq, Nat.reduceBNe, reduceCtorEq, Int.reduceBNe, Int.reduceBEq, srow, keyC, c1, blt0]
    exact ret1h (fun _ => ex_ret) rfl rfl rfl rfl ⟨rfl, rfl, rfl⟩

def T212 (l : List SR) (k : Int) (i : Nat) : St := { fr := mkF 19 [(0, .sl true (l.map srow)), (1, .fn 94 [.ptr 0 0]), (7, .int .i64 l.length), (8, .int .i64 i)], own := [], hp := [keyC k], al := [], nb := 1 }
set_option maxHeartbeats 4000000 in
theorem call_106 (l : List SR) (k : Int) (hlen : l.length ≤ 100000) :
    (Lim cfg).call 106 [.sl true (l.map srow), .fn 94 [.ptr 0 0]] [keyC k] = some (.int .i64 (idxFrom 0 l k), false, [keyC k]) := by
  refine call_eq fn_106 rfl ?_
  rw [k_start]
  simp only [Try.f106, List.length_cons, List.length_nil, Nat.zero_add, Nat.reduceSub, Nat.reduceAdd, List.replicate, List.cons_append, List.nil_append]
  simp only [go_sem, Nat.reduceAdd, Nat.reduceSub, Nat.reduceMul, Nat.reduceLT, Nat.reduceLeDiff, Nat.reduceEqDiff, Nat.reduceBEq, Nat.reduceBNe, reduceCtorEq, Int.reduceBNe, Int.reduceBEq, blt0]
  refine k_loop (T212 l k) (fun i => i ≤ l.length ∧ idxFrom 0 l k = idxFrom i (l.drop i) k) (fun i => l.length - i) 0 (K := cfg.kill 106 2) rfl ⟨Nat.zero_le _, rfl⟩ (by kernel_rfl) ?_
  intro i ⟨hi, hc⟩ k' Q' hnorm hexit hret
  simp only [T212, mkF, List.foldl, List.replicate, List.set, List.cons_append, List.nil_append]
  simp only [go_sem, Nat.reduceAdd, Nat.reduceSub, Nat.reduceMul, Nat.reduceLT, Nat.reduceLeDiff, Nat.reduceEqDiff, Nat.reduceBEq, Nat.reduceBNe, reduceCtorEq, Int.reduceBNe, Int.reduceBEq, blt0]
  by_cases hlt : i < l.length
  · have h1 : (i : Int) < (l.length : Int) := by omega
    have h2 : ¬ ((i : Int) < 0) := by omega
    have hx : (l.map srow)[i]? = some (srow l[i]) := by simp [hlt]
    have hs : idxFrom i (l.drop i) k = if hit l[i] k = true then (i : Int) else idxFrom (i + 1) (l.drop (i + 1)) k := by rw [List.drop_eq_getElem_cons hlt, idxFrom]
    simp only [go_sem, Nat.reduceAdd, Nat.reduceSub, Nat.reduceMul, Nat.reduceLT, Nat.reduceLeDiff, Nat.reduceEqDiff, Nat.reduceBEq, Nat.reduceBNe, reduceCtorEq, Int.reduceBNe, Int.reduceBEq, blt0, h1, h2, hx, srow, Int.toNat_natCast]
    rw [callHeap_at (R := [0]) (call_94 l[i] k)]
    simp only [keyC]
    simp only [go_sem, Nat.reduceAdd, Nat.reduceSub, Nat.reduceMul, Nat.reduceLT, Nat.reduceLeDiff, Nat.reduceEqDiff, Nat.reduceBEq, Nat.reduceBNe, reduceCtorEq, Int.reduceBNe, Int.reduceBEq, blt0]
    by_cases hh : hit l[i] k = true
    · simp only [go_sem, Nat.reduceAdd, Nat.reduceSub, Nat.reduceMul, Nat.reduceLT, Nat.reduceLeDiff, Nat.reduceEqDiff, Nat.reduceBEq, Nat.reduceBNe, reduceCtorEq, Int.reduceBNe, Int.reduceBEq, blt0, hh]
      refine hret _ ?_
      simp only [go_sem, Nat.reduceAdd, Nat.reduceSub, Nat.reduceMul, Nat.reduceLT, Nat.reduceLeDiff, Nat.reduceEqDiff, Nat.reduceBEq, Nat.reduceBNe, reduceCtorEq, Int.reduceBNe, Int.reduceBEq, blt0]
      refine ret1h (fun _ => ex_ret) rfl rfl rfl rfl ⟨?_, rfl, rfl⟩
      rw [hc, hs, if_pos hh]; rfl
    · rw [Bool.not_eq_true] at hh
      simp only [go_sem, Nat.reduceAdd, Nat.reduceSub, Nat.reduceMul, Nat.reduceLT, Nat.reduceLeDiff, Nat.reduceEqDiff, Nat.reduceBEq, Nat.reduceBNe, reduceCtorEq, Int.reduceBNe, Int.reduceBEq, blt0, hh]
      try rw [wrap_i64 (by omega) (by omega)]
      exact hnorm (i + 1) _ ⟨by omega, by rw [hc, hs, hh]; rfl⟩ (by omega) (by kernel_rfl)
  · have h1 : ¬ (i : Int) < (l.length : Int) := by omega
    simp only [go_sem, Nat.reduceAdd, Nat.reduceSub, Nat.reduceMul, Nat.reduceLT, Nat.reduceLeDiff, Nat.reduceEqDiff, Nat.reduceBEq, Nat.reduceBNe, reduceCtorEq, Int.reduceBNe, Int.reduceBEq, blt0, h1]
    refine hexit 0 _ ?_
    simp only [go_sem, Nat.reduceAdd, Nat.reduceSub, Nat.reduceMul, Nat.reduceLT, Nat.reduceLeDiff, Nat.reduceEqDiff, Nat.reduceBEq, Nat.reduceBNe, reduceCtorEq, Int.reduceBNe, Int.reduceBEq, blt0]
    refine ret1h (fun _ => ex_ret) rfl rfl rfl rfl ⟨?_, rfl, rfl⟩
    rw [hc, List.drop_of_length_le (by omega)]; rfl

theorem call_93 (l : List SR) (k : Int) (hlen : l.length ≤ 100000) :
    (Lim cfg).call 93 [.sl true (l.map srow), .fn 94 [.ptr 0 0]] [keyC k] = some (.bool (hasS l k), false, [keyC k]) := by
  refine call_eq fn_93 rfl ?_
  rw [k_start]
  simp only [Try.f93, List.length_cons, List.length_nil, Nat.zero_add, Nat.reduceSub, Nat.reduceAdd, List.replicate, List.cons_append, List.nil_append]
  simp only [go_sem, Nat.reduceAdd, Nat.reduceSub, Nat.reduceMul, Nat.reduceLT, Nat.reduceLeDiff, Nat.reduceEqDiff, Nat.reduceBEq, Nat.reduceBNe, reduceCtorEq, Int.reduceBNe, Int.reduceBEq, blt0]
  rw [callHeap_at (R := [0]) (call_106 l k hlen)]
  simp only [keyC]
  simp only [go_sem, Nat.reduceAdd, Nat.reduceSub, Nat.reduceMul, Nat.reduceLT, Nat.reduceLeDiff, Nat.reduceEqDiff, Nat.reduceBEq, Nat.reduceBNe, reduceCtorEq, Int.reduceBNe, Int.reduceBEq, blt0]
  refine ret1h (fun _ => ex_ret) rfl rfl rfl rfl ⟨?_, rfl, rfl⟩
  show V.bool _ = _
  rw [idx_has]

theorem call_84 (l : List SR) (k : Int) (hlen : l.length ≤ 100000) : (Lim cfg).call 84 [.sl true (l.map srow), .int .i64 k] [] = some (.bool (hasS l k), false, []) := by
  refine call_eq fn_84 rfl ?_
  rw [k_start]
  simp only [Try.f84, List.length_cons, List.length_nil, Nat.zero_add, Nat.reduceSub, Nat.reduceAdd, List.replicate, List.cons_append, List.nil_append]
  simp only [go_sem, Nat.reduceAdd, Nat.reduceSub, Nat.reduceMul, Nat.reduceLT, Nat.reduceLeDiff, Nat.reduceEqDiff, Nat.reduceBEq, Nat.reduceBNe, reduceCtorEq, Int.reduceBNe, Int.reduceBEq, blt0]
  rw [callHeap_at (R := [0]) (call_93 l k hlen)]
  simp only [keyC]
  simp only [go_sem, Nat.reduceAdd, Nat.reduceSub, Nat.reduceMul, Nat.reduceLT, Nat.reduceLeDiff, Nat.reduceEqDiff, Nat.reduceBEq, Nat.reduceBNe, reduceCtorEq, Int.reduceBNe, Int.reduceBEq, blt0]
  exact ret1n (fun _ => ex_ret) rfl rfl rfl ⟨rfl, rfl, rfl⟩
end Go.Proofs.Ytknblodiilgogaa
