/- A key's place, by halving. -/
import Derived.Test.YtknblodiilgogaaE6
set_option linter.all false
set_option maxRecDepth 100000
namespace Go.Proofs.Ytknblodiilgogaa
open Go Go.Abs

def cmpI (a b : Int) : Int := if a < b then -1 else if b < a then 1 else 0
theorem call_65 (a b : Int) : (Lim cfg).call 65 [.int .i64 a, .int .i64 b] [] = some (.int .i64 (cmpI a b), false, []) := by
  have c1 : ∀ x : Int, (Lim cfg).call 85 [.int .i64 x] [] = some (.bool false, false, []) := fun x => by
    refine call_eq fn_85 rfl ?_
    rw [k_start]
    simp only [Try.f85, List.length_cons, List.length_nil, Nat.zero_add, Nat.reduceSub, Nat.reduceAdd, List.replicate, List.cons_append, List.nil_append]
    simp only [go_sem, Nat.reduceAdd, Nat.reduceSub, Nat.reduceMul, Nat.reduceLT, Nat.reduceLeDiff, Nat.reduceEqDiff, Nat.reduceBEq, Nat.reduceBNe, reduceCtorEq, Int.reduceBNe, Int.reduceBEq, blt0, bne_self_eq_false]
    exact ret1n (fun _ => ex_ret) rfl rfl rfl ⟨rfl, rfl, rfl⟩
  by_cases h1 : a < b
  · rw [show cmpI a b = -1 by simp [cmpI, h1]]
    refine call_eq fn_65 rfl ?_
    rw [k_start]
    simp only [Try.f65, List.length_cons, List.length_nil, Nat.zero_add, Nat.reduceSub, Nat.reduceAdd, List.replicate, List.cons_append, List.nil_append]
    simp only [go_sem, Nat.reduceAdd, Nat.reduceSub, Nat.reduceMul, Nat.reduceLT, Nat.reduceLeDiff, Nat.reduceEqDiff, Nat.reduceBEq, Nat.reduceBNe, reduceCtorEq, Int.reduceBNe, Int.reduceBEq, blt0, c1, h1]
    exact ret1n (fun _ => ex_ret) rfl rfl rfl ⟨rfl, rfl, rfl⟩
  · by_cases h2 : a > b
    · rw [show cmpI a b = 1 by simp [cmpI, h1, show b < a from h2]]
      refine call_eq fn_65 rfl ?_
      rw [k_start]
      simp only [Try.f65, List.length_cons, List.length_nil, Nat.zero_add, Nat.reduceSub, Nat.reduceAdd, List.replicate, List.cons_append, List.nil_append]
      simp only [go_sem, Nat.reduceAdd, Nat.reduceSub, Nat.reduceMul, Nat.reduceLT, Nat.reduceLeDiff, Nat.reduceEqDiff, Nat.reduceBEq, Nat.reduceBNe, reduceCtorEq, Int.reduceBNe, Int.reduceBEq, blt0, c1, h1, h2]
      exact ret1n (fun _ => ex_ret) rfl rfl rfl ⟨rfl, rfl, rfl⟩
    · rw [show cmpI a b = 0 by simp [cmpI, h1, show ¬ b < a from h2]]
      refine call_eq fn_65 rfl ?_
      rw [k_start]
      simp only [Try.f65, List.length_cons, List.length_nil, Nat.zero_add, Nat.reduceSub, Nat.reduceAdd, List.replicate, List.cons_append, List.nil_append]
      simp only [go_sem, Nat.reduceAdd, Nat.reduceSub, Nat.reduceMul, Nat.reduceLT, Nat.reduceLeDiff, Nat.reduceEqDiff, Nat.reduceBEq, Nat.reduceBNe, reduceCtorEq, Int.reduceBNe, Int.reduceBEq, blt0, c1, h1, h2]
      exact ret1n (fun _ => ex_ret) rfl rfl rfl ⟨rfl, rfl, rfl⟩
theorem call_64 (p : PR) (k : Int) : (Lim cfg).call 64 [.agg (prow p), .int .i64 k] [] = some (.int .i64 (cmpI p.1 k), false, []) := by
  have c1 := call_65 p.1 k
  refine call_eq fn_64 rfl ?_
  rw [k_start]
  simp only [Try.f64, List.length_cons, List.length_nil, Nat.zero_add, Nat.reduceSub, Nat.reduceAdd, List.replicate, List.cons_append, List.nil_append]
  simp only [go_sem, Nat.reduceAdd, Nat.reduceSub, Nat.reduceMul, Nat.reduceLT, Nat.reduceLeDiff, Nat.reduceEqDiff, Nat.reduceBEq, Nat.reduceBNe, reduceCtorEq, Int.reduceBNe, Int.reduceBEq, blt0, c1, prow]
  exact ret1n (fun _ => ex_ret) rfl rfl rfl ⟨rfl, rfl, rfl⟩

/-- Keys that rise. -/
def rise (l : List PR) : Prop := l.Pairwise fun a b => a.1 < b.1
theorem chkFrom_rise : ∀ (l : List PR) (lo : Int), chkFrom lo l = true → rise l ∧ ∀ p ∈ l, lo < p.1 ∧ p.1 < 4096 ∧ -1099511627776 ≤ p.2 ∧ p.2 ≤ 1099511627776
  | [], lo, _ => ⟨List.Pairwise.nil, by simp⟩
  | p :: r, lo, h => by
    simp only [chkFrom, Bool.and_eq_true, okP, decide_eq_true_eq] at h
    obtain ⟨h1, h2⟩ := chkFrom_rise r p.1 h.2
    refine ⟨List.Pairwise.cons (fun q hq => (h2 q hq).1) h1, fun q hq => ?_⟩
    rcases List.mem_cons.1 hq with rfl | hq
    · exact h.1
    · have := h2 q hq
      exact ⟨by omega, this.2⟩
theorem clip_rise (l : List PR) (on : List SR) : rise (clip l on) ∧ (∀ p ∈ clip l on, -1 < p.1 ∧ p.1 < 4096 ∧ -1099511627776 ≤ p.2 ∧ p.2 ≤ 1099511627776) ∧ (clip l on).length ≤ l.length := by
  unfold clip
  split
  · rename_i h
    simp only [Bool.and_eq_true] at h
    obtain ⟨h1, h2⟩ := chkFrom_rise l (-1) h.1
    exact ⟨h1.filter _, fun p hp => h2 p (List.mem_filter.1 hp).1, List.length_filter_le _ _⟩
  · exact ⟨List.Pairwise.nil, by simp, by simp⟩
/-- How many keys are below one. -/
def cnt (k : Int) : List PR → Nat
  | [] => 0
  | p :: r => if p.1 < k then cnt k r + 1 else cnt k r
theorem cnt_le (k : Int) : ∀ l : List PR, cnt k l ≤ l.length
  | [] => Nat.le_refl _
  | p :: r => by have := cnt_le k r; simp only [cnt, List.length_cons]; split <;> omega
theorem cnt_zero {k : Int} : ∀ {l : List PR}, (∀ p ∈ l, k ≤ p.1) → cnt k l = 0
  | [], _ => rfl
  | p :: r, h => by rw [cnt, if_neg (by have := h p (by simp); omega)]; exact cnt_zero fun q hq => h q (by simp [hq])
theorem cnt_at {k : Int} : ∀ {l : List PR}, rise l → ∀ {i : Nat} (h : i < l.length), l[i].1 < k ↔ i < cnt k l
  | [], _, i, h => by simp at h
  | p :: r, hr, 0, h => by
    cases hr with
    | cons h1 h2 =>
      simp only [List.getElem_cons_zero, cnt]
      split
      · rename_i hp; exact ⟨fun _ => by omega, fun _ => hp⟩
      · rename_i hp
        rw [cnt_zero fun q hq => by have := h1 q hq; omega]
        exact ⟨fun h => absurd h hp, fun h => by omega⟩
  | p :: r, hr, i + 1, h => by
    cases hr with
    | cons h1 h2 =>
      simp only [List.getElem_cons_succ, cnt]
      have hi : i < r.length := by simpa using h
      have := cnt_at (k := k) h2 hi
      split
      · rw [this]; omega
      · rename_i hp
        have h3 := h1 r[i] (List.getElem_mem hi)
        rw [cnt_zero fun q hq => by have := h1 q hq; omega]
        exact ⟨fun h => by omega, fun h => by omega⟩
end Go.Proofs.Ytknblodiilgogaa
