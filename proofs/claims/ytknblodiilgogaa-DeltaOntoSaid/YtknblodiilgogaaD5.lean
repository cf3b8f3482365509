/- The turns between two tables: one round. -/
import Derived.Test.YtknblodiilgogaaD4
set_option linter.all false
set_option maxRecDepth 100000
namespace Go.Proofs.Ytknblodiilgogaa
open Go Go.Abs

def cellOf : Option PR → CR
  | none => (0, false)
  | some p => (p.2, true)
def pv : Option PR → V
  | none => .nilp
  | some p => .pc true (prow p)
def emit (k : Int) (a b : Option PR) (O : List TR) : List TR := if cellOf a = cellOf b then O else O ++ [(k, cellOf a, cellOf b)]

theorem call_41o (p : Option PR) : (Lim cfg).call 59 [pv p] [] = some (.agg [.int .i64 (cellOf p).1, .bool (cellOf p).2], false, []) := by
  cases p with
  | none => exact call_41n
  | some p => exact call_59 p

noncomputable def A13 : Code := rngA Try.f25 0
noncomputable def B13 : Code := rngB Try.f25 0
def outB (O : List TR) : Blk := .cells 39 [0] [.sl true (O.map trow)]
noncomputable def loopB (i : Nat) : Blk := .loop .ready none 25 (mkF 40 [(6, .ptr i 0)]) [21] A13 B13

theorem eq_cell {x y : CR} : (x.1 == y.1 && x.2 == y.2) = decide (x = y) := by
  obtain ⟨a, b⟩ := x
  obtain ⟨c, d⟩ := y
  rw [Bool.eq_iff_iff]
  simp

theorem pv_lt {a : Option PR} : V.all (fun i => Nat.blt i 0) (pv a) = true := by cases a <;> rfl

set_option maxHeartbeats 4000000 in
theorem round_25 (k : Int) (a b : Option PR) (O : List TR) (hO : O.length ≤ 100000) :
    (Lim cfg).round 1 [.agg [.int .i64 k, pv a, pv b]] [outB O, loopB 0] = some (true, [outB (emit k a b O), loopB 0]) := by
  refine round_eq rfl rfl ?_
  rw [k_start]
  simp only [A13, B13, rngA, rngB, Try.f25, rngs, Option.getD_some, List.nil_append, List.append_nil, List.cons_append, List.getElem?_cons_zero, loopB, outB, mkF, List.foldl, List.zip_cons_cons, List.zip_nil_left, List.replicate, List.set, List.length_cons, List.length_nil, Nat.zero_add, Nat.reduceAdd]
  simp only [go_sem, Nat.reduceAdd, Nat.reduceSub, Nat.reduceMul, Nat.reduceLT, Nat.reduceLeDiff, Nat.reduceEqDiff, Nat.reduceBEq, Nat.reduceBNe, reduceCtorEq, Int.reduceBNe, Int.reduceBEq, ty_120, ty_3, ty_118]
  refine ⟨rfl, _, _, _, _, _, _, rfl, ?_⟩
  rw [k_start]
  have hra : ∀ hp : List Blk, reach hp [pv a] = [] := fun hp => reach_pure (by cases a <;> rfl)
  have hrb : ∀ hp : List Blk, reach hp [pv b] = [] := fun hp => reach_pure (by cases b <;> rfl)
  simp only [go_sem, Nat.reduceAdd, Nat.reduceSub, Nat.reduceMul, Nat.reduceLT, Nat.reduceLeDiff, Nat.reduceEqDiff, Nat.reduceBEq, Nat.reduceBNe, reduceCtorEq, Int.reduceBNe, Int.reduceBEq, ty_120, ty_3, ty_118, ty_63, ty_4, ty_39, ty_65, draw_25_6, call_41o, pv_lt, hra, hrb]
  rw [eq_cell]
  have hb : (O.length + 1) * 40 ≤ strMax := by unfold strMax; omega
  refine WC_split (fun he => ?_) (fun he => ?_) <;> simp only [go_sem, Nat.reduceAdd, Nat.reduceSub, Nat.reduceMul, Nat.reduceLT, Nat.reduceLeDiff, Nat.reduceEqDiff, Nat.reduceBEq, Nat.reduceBNe, reduceCtorEq, Int.reduceBNe, Int.reduceBEq, ty_120, ty_3, ty_118, ty_63, ty_4, ty_39, ty_65, fit_trow, head_trow, hb, head_trow']
  · simp only [Bool.not_eq_true', decide_eq_false_iff_not] at he
    rw [emit, if_neg he, List.map_append]
    refine ⟨_, _, _, _, _, _, _, rfl, rfl, ?_⟩
    kernel_rfl
  · simp only [Bool.not_eq_false', decide_eq_true_eq] at he
    rw [emit, if_pos he]
    refine ⟨_, _, _, _, _, _, _, rfl, rfl, ?_⟩
    kernel_rfl
end Go.Proofs.Ytknblodiilgogaa
