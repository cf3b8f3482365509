/- The turns between two tables: all rounds. -/
import Derived.Test.YtknblodiilgogaaD5
set_option linter.all false
set_option maxRecDepth 100000
namespace Go.Proofs.Ytknblodiilgogaa
open Go Go.Abs

def merge : List PR → List PR → List TR → List TR
  | [], [], O => O
  | p :: A, [], O => merge A [] (emit p.1 (some p) none O)
  | [], q :: B, O => merge [] B (emit q.1 none (some q) O)
  | p :: A, q :: B, O =>
    if p.1 < q.1 then merge A (q :: B) (emit p.1 (some p) none O)
    else if q.1 < p.1 then merge (p :: A) B (emit q.1 none (some q) O)
    else merge A B (emit p.1 (some p) (some q) O)
  termination_by A B => A.length + B.length

theorem emit_len (k : Int) (a b : Option PR) (O : List TR) : (emit k a b O).length ≤ O.length + 1 := by
  unfold emit; split <;> simp

theorem h40 (p : PR) : (Lim cfg).call 58 [.agg [.int .i64 p.1, .int .i64 p.2]] [] = some (.int .i64 p.1, false, []) := call_58 p
theorem hra {hp : List Blk} {x y : Int} : reach hp [.agg [.int .i64 x, .int .i64 y]] = [] := reach_pure rfl
theorem h22 {d : Bool} {a b : V} {xs : List (List V)} : sliceV cfg 38 (.sl d ([a, b] :: xs)) (some (.int .i64 1)) none none = some (.sl d xs) := slice_tail ty_38 ty_72 rfl

def tabB (l : List PR) : Blk := .cells 38 [] [.sl true (l.map prow)]
def keyB : Blk := .cells 117 [] [.fn 58 []]
noncomputable def H68 (A B : List PR) (O : List TR) : List Blk := [outB O, tabB A, tabB B, keyB, loopB 0]

noncomputable def S68 (x : List PR × List PR × List TR) : St := { fr := mkF 91 [(0, .yld 4), (1, .ptr 1 0), (2, .ptr 2 0), (3, .ptr 3 0)], own := [], hp := H68 x.1 x.2.1 x.2.2, al := [], nb := 5 }

set_option maxHeartbeats 8000000 in
theorem call_82 (A B : List PR) (O : List TR) (hlen : A.length + B.length + O.length ≤ 100000) :
    (Lim cfg).call 82 [.yld 4, .ptr 1 0, .ptr 2 0, .ptr 3 0] (H68 A B O) = some (.tup [], false, H68 [] [] (merge A B O)) := by
  refine call_eq fn_82 rfl ?_
  rw [k_start]
  simp only [Try.f82, List.length_cons, List.length_nil, Nat.zero_add, Nat.reduceSub, Nat.reduceAdd, List.replicate, List.cons_append, List.nil_append]
  simp only [go_sem, Nat.reduceAdd, Nat.reduceSub, Nat.reduceMul, Nat.reduceLT, Nat.reduceLeDiff, Nat.reduceEqDiff, Nat.reduceBEq, Nat.reduceBNe, reduceCtorEq, Int.reduceBNe, Int.reduceBEq]
  refine k_loop S68 (fun x => x.1.length + x.2.1.length + x.2.2.length ≤ 100000 ∧ merge x.1 x.2.1 x.2.2 = merge A B O) (fun x => x.1.length + x.2.1.length) (A, B, O) (K := cfg.kill 82 0) rfl ⟨hlen, rfl⟩ (by kernel_rfl) ?_
  intro ⟨A', B', O'⟩ ⟨hl, hm⟩ k' Q' hnorm hexit hret
  simp only at hl hm
  have hO : O'.length ≤ 100000 := by omega
  simp only [S68, mkF, List.foldl, List.replicate, List.set, List.cons_append, List.nil_append]
  simp only [H68, outB, tabB, keyB]
  rcases A' with _ | ⟨p, A'⟩
  · rcases B' with _ | ⟨q, B'⟩
    · have h0 : ¬ (((0 : Nat) : Int) > 0) := by omega
      simp only [go_sem, Nat.reduceAdd, Nat.reduceSub, Nat.reduceMul, Nat.reduceLT, Nat.reduceLeDiff, Nat.reduceEqDiff, Nat.reduceBEq, Nat.reduceBNe, reduceCtorEq, Int.reduceBNe, Int.reduceBEq, ty_38, ty_72, ty_120, ty_117, ty_3, ty_118, List.map_nil, h0]
      refine hexit 0 _ ?_
      simp only [go_sem, Nat.reduceAdd, Nat.reduceSub, Nat.reduceMul, Nat.reduceLT, Nat.reduceLeDiff, Nat.reduceEqDiff, Nat.reduceBEq, Nat.reduceBNe, reduceCtorEq, Int.reduceBNe, Int.reduceBEq]
      refine ret0 (hp' := H68 [] [] O') (fun _ => ex_normal) (by kernel_rfl) ⟨rfl, rfl, ?_⟩
      rw [← hm, merge]
    · have h0 : ¬ (((0 : Nat) : Int) > 0) := by omega
      have h1 : ((B'.length + 1 : Nat) : Int) > 0 := by omega
      have h2 : (((B'.length + 1 : Nat) : Int) == 0) = false := by simp; omega
      have h3 : (((0 : Nat) : Int) == 0) = true := rfl
      have h4 : ¬ ((0 : Int) < 0) := by omega
      simp only [go_sem, Nat.reduceAdd, Nat.reduceSub, Nat.reduceMul, Nat.reduceLT, Nat.reduceLeDiff, Nat.reduceEqDiff, Nat.reduceBEq, Nat.reduceBNe, reduceCtorEq, Int.reduceBNe, Int.reduceBEq, ty_38, ty_72, ty_120, ty_117, ty_3, ty_118, List.map_nil, List.map_cons, draw_82_3, draw_82_4, draw_82_5, draw_82_6, draw_82_2, Int.toNat_zero, prow, h40, h22, hra, h0, h1, h2, h3, h4]
      rw [callYield_eq (R := [0, 4]) (n := 1) (hp3 := [outB (emit q.1 none (some q) O'), tabB [], tabB B', keyB, loopB 0, .cells 120 [] [.int .i64 q.1, pv none, pv (some q)]]) (by kernel_rfl) (by kernel_rfl) (by kernel_rfl) (by kernel_rfl) (by kernel_rfl) (round_25 q.1 none (some q) O' hO) (by kernel_rfl)]
      simp only [go_sem, Nat.reduceAdd, Nat.reduceSub, Nat.reduceMul, Nat.reduceLT, Nat.reduceLeDiff, Nat.reduceEqDiff, Nat.reduceBEq, Nat.reduceBNe, reduceCtorEq, Int.reduceBNe, Int.reduceBEq]
      have he := emit_len q.1 none (some q) O'
      refine hnorm ([], B', emit q.1 none (some q) O') _ ⟨?_, ?_⟩ ?_ (by kernel_rfl)
      · simp only [List.length_cons, List.length_nil] at hl ⊢; omega
      · rw [← hm]; simp only [merge]
      · simp only [List.length_cons, List.length_nil]; omega

  · rcases B' with _ | ⟨q, B'⟩
    · have h0 : ¬ (((0 : Nat) : Int) > 0) := by omega
      have h1 : ((A'.length + 1 : Nat) : Int) > 0 := by omega
      have h2 : (((A'.length + 1 : Nat) : Int) == 0) = false := by simp; omega
      have h3 : (((0 : Nat) : Int) == 0) = true := rfl
      have h4 : ¬ ((0 : Int) < 0) := by omega
      simp only [go_sem, Nat.reduceAdd, Nat.reduceSub, Nat.reduceMul, Nat.reduceLT, Nat.reduceLeDiff, Nat.reduceEqDiff, Nat.reduceBEq, Nat.reduceBNe, reduceCtorEq, Int.reduceBNe, Int.reduceBEq, ty_38, ty_72, ty_120, ty_117, ty_3, ty_118, List.map_nil, List.map_cons, draw_82_3, draw_82_4, draw_82_5, draw_82_6, draw_82_2, Int.toNat_zero, prow, h40, h22, hra, h0, h1, h2, h3, h4]
      rw [callYield_eq (R := [0, 4]) (n := 1) (hp3 := [outB (emit p.1 (some p) none O'), tabB A', tabB [], keyB, loopB 0, .cells 120 [] [.int .i64 p.1, pv (some p), pv none]]) (by kernel_rfl) (by kernel_rfl) (by kernel_rfl) (by kernel_rfl) (by kernel_rfl) (round_25 p.1 (some p) none O' hO) (by kernel_rfl)]
      simp only [go_sem, Nat.reduceAdd, Nat.reduceSub, Nat.reduceMul, Nat.reduceLT, Nat.reduceLeDiff, Nat.reduceEqDiff, Nat.reduceBEq, Nat.reduceBNe, reduceCtorEq, Int.reduceBNe, Int.reduceBEq]
      have he := emit_len p.1 (some p) none O'
      refine hnorm (A', [], emit p.1 (some p) none O') _ ⟨?_, ?_⟩ ?_ (by kernel_rfl)
      · simp only [List.length_cons, List.length_nil] at hl ⊢; omega
      · rw [← hm]; simp only [merge]
      · simp only [List.length_cons, List.length_nil]; omega

    · have h1 : ((A'.length + 1 : Nat) : Int) > 0 := by omega
      have h1' : ((B'.length + 1 : Nat) : Int) > 0 := by omega
      have h2 : (((A'.length + 1 : Nat) : Int) == 0) = false := by simp; omega
      have h2' : (((B'.length + 1 : Nat) : Int) == 0) = false := by simp; omega
      have h4 : ¬ ((0 : Int) < 0) := by omega
      by_cases hlt : p.1 < q.1
      · simp only [go_sem, Nat.reduceAdd, Nat.reduceSub, Nat.reduceMul, Nat.reduceLT, Nat.reduceLeDiff, Nat.reduceEqDiff, Nat.reduceBEq, Nat.reduceBNe, reduceCtorEq, Int.reduceBNe, Int.reduceBEq, ty_38, ty_72, ty_120, ty_117, ty_3, ty_118, List.map_nil, List.map_cons, draw_82_3, draw_82_4, draw_82_5, draw_82_6, draw_82_2, Int.toNat_zero, prow, h40, h22, hra, h1, h1', h2, h2', h4, hlt]
        rw [callYield_eq (R := [0, 4]) (n := 1) (hp3 := [outB (emit p.1 (some p) none O'), tabB A', tabB (q :: B'), keyB, loopB 0, .cells 120 [] [.int .i64 p.1, pv (some p), pv none]]) (by kernel_rfl) (by kernel_rfl) (by kernel_rfl) (by kernel_rfl) (by kernel_rfl) (round_25 p.1 (some p) none O' hO) (by kernel_rfl)]
        simp only [go_sem, Nat.reduceAdd, Nat.reduceSub, Nat.reduceMul, Nat.reduceLT, Nat.reduceLeDiff, Nat.reduceEqDiff, Nat.reduceBEq, Nat.reduceBNe, reduceCtorEq, Int.reduceBNe, Int.reduceBEq]
        have he := emit_len p.1 (some p) none O'
        refine hnorm (A', (q :: B'), emit p.1 (some p) none O') _ ⟨?_, ?_⟩ ?_ (by kernel_rfl)
        · simp only [List.length_cons, List.length_nil] at hl ⊢; omega
        · rw [← hm]; simp only [merge, if_pos hlt]
        · simp only [List.length_cons, List.length_nil]; omega

      · by_cases hgt : q.1 < p.1
        · simp only [go_sem, Nat.reduceAdd, Nat.reduceSub, Nat.reduceMul, Nat.reduceLT, Nat.reduceLeDiff, Nat.reduceEqDiff, Nat.reduceBEq, Nat.reduceBNe, reduceCtorEq, Int.reduceBNe, Int.reduceBEq, ty_38, ty_72, ty_120, ty_117, ty_3, ty_118, List.map_nil, List.map_cons, draw_82_3, draw_82_4, draw_82_5, draw_82_6, draw_82_2, Int.toNat_zero, prow, h40, h22, hra, h1, h1', h2, h2', h4, hlt, hgt]
          rw [callYield_eq (R := [0, 4]) (n := 1) (hp3 := [outB (emit q.1 none (some q) O'), tabB (p :: A'), tabB B', keyB, loopB 0, .cells 120 [] [.int .i64 q.1, pv none, pv (some q)]]) (by kernel_rfl) (by kernel_rfl) (by kernel_rfl) (by kernel_rfl) (by kernel_rfl) (round_25 q.1 none (some q) O' hO) (by kernel_rfl)]
          simp only [go_sem, Nat.reduceAdd, Nat.reduceSub, Nat.reduceMul, Nat.reduceLT, Nat.reduceLeDiff, Nat.reduceEqDiff, Nat.reduceBEq, Nat.reduceBNe, reduceCtorEq, Int.reduceBNe, Int.reduceBEq]
          have he := emit_len q.1 none (some q) O'
          refine hnorm ((p :: A'), B', emit q.1 none (some q) O') _ ⟨?_, ?_⟩ ?_ (by kernel_rfl)
          · simp only [List.length_cons, List.length_nil] at hl ⊢; omega
          · rw [← hm]; simp only [merge, if_neg hlt, if_pos hgt]
          · simp only [List.length_cons, List.length_nil]; omega

        · simp only [go_sem, Nat.reduceAdd, Nat.reduceSub, Nat.reduceMul, Nat.reduceLT, Nat.reduceLeDiff, Nat.reduceEqDiff, Nat.reduceBEq, Nat.reduceBNe, reduceCtorEq, Int.reduceBNe, Int.reduceBEq, ty_38, ty_72, ty_120, ty_117, ty_3, ty_118, List.map_nil, List.map_cons, draw_82_3, draw_82_4, draw_82_5, draw_82_6, draw_82_2, Int.toNat_zero, prow, h40, h22, hra, h1, h1', h2, h2', h4, hlt, hgt]
          rw [callYield_eq (R := [0, 4]) (n := 1) (hp3 := [outB (emit p.1 (some p) (some q) O'), tabB A', tabB B', keyB, loopB 0, .cells 120 [] [.int .i64 p.1, pv (some p), pv (some q)]]) (by kernel_rfl) (by kernel_rfl) (by kernel_rfl) (by kernel_rfl) (by kernel_rfl) (round_25 p.1 (some p) (some q) O' hO) (by kernel_rfl)]
          simp only [go_sem, Nat.reduceAdd, Nat.reduceSub, Nat.reduceMul, Nat.reduceLT, Nat.reduceLeDiff, Nat.reduceEqDiff, Nat.reduceBEq, Nat.reduceBNe, reduceCtorEq, Int.reduceBNe, Int.reduceBEq]
          have he := emit_len p.1 (some p) (some q) O'
          refine hnorm (A', B', emit p.1 (some p) (some q) O') _ ⟨?_, ?_⟩ ?_ (by kernel_rfl)
          · simp only [List.length_cons, List.length_nil] at hl ⊢; omega
          · rw [← hm]; simp only [merge, if_neg hlt, if_neg hgt]
          · simp only [List.length_cons, List.length_nil]; omega

end Go.Proofs.Ytknblodiilgogaa
