/- What turns make, one behind the other, and behind others: one round of the program's. -/
import Derived.Test.YtknblodiilgogaaD15
set_option linter.all false
set_option maxRecDepth 100000
namespace Go.Proofs.Ytknblodiilgogaa
open Go Go.Abs

noncomputable def A18 : Code := rngA Try.f31 0
noncomputable def B18 : Code := rngB Try.f31 0
noncomputable def A20 : Code := rngA Try.f26 0
noncomputable def B20 : Code := rngB Try.f26 0
def pvT : Option TR → V
  | none => .nilp
  | some p => .pc true (trow p)
def errB (e : Int) : Blk := .cells 27 [] [.int .i64 e]
def clB (C : List Int) : Blk := .cells 56 [0] [.sl true (C.map irow)]
noncomputable def loop18 (ok : Bool) (i : Nat) : Blk := .loop (if ok then .ready else .done) (if ok then none else some .ret) 31 (mkF 72 [(4, .ptr i 0), (5, .ptr (i + 1) 0), (6, .ptr (i + 2) 0)]) [20] A18 B18
noncomputable def loop20 : Blk := .loop .ready none 26 (mkF 85 [(4, .ptr 0 0), (5, .ptr 1 0)]) [19] A20 B20
noncomputable def R18 (ok : Bool) (e : Int) (O : List TR) : List Blk := [outB [], errB e, outB O, loop18 ok 0]
noncomputable def R20 (O : List TR) (C : List Int) : List Blk := [outB O, clB C, loop20]

theorem pvT_lt {a : Option TR} : V.all (fun i => Nat.blt i 0) (pvT a) = true := by cases a <;> rfl

set_option maxHeartbeats 8000000 in
theorem round_18a (k : Int) (p : TR) (O : List TR) (hO : O.length ≤ 100000) : (Lim cfg).round 3 [.agg [.int .i64 k, pvT (some p), pvT none]] (R18 true 0 O) = some (true, R18 true 0 (tadd O p)) := by
  refine round_eq rfl rfl ?_
  rw [k_start]
  simp only [A18, B18, R18, rngA, rngB, Try.f31, rngs, Option.getD_some, List.nil_append, List.append_nil, List.cons_append, List.getElem?_cons_zero, loop18, outB, errB, mkF, List.foldl, List.zip_cons_cons, List.zip_nil_left, List.replicate, List.set, List.length_cons, List.length_nil, Nat.zero_add, Nat.reduceAdd, if_true]
  simp only [go_sem, Nat.reduceAdd, Nat.reduceSub, Nat.reduceMul, Nat.reduceLT, Nat.reduceLeDiff, Nat.reduceEqDiff, Nat.reduceBEq, Nat.reduceBNe, reduceCtorEq, Int.reduceBNe, Int.reduceBEq, ty_39, ty_27, ty_56, ty_63, ty_65, ty_3, ty_4, ty_126, ty_128, List.map_nil]
  refine ⟨rfl, _, _, _, _, _, _, rfl, ?_⟩
  rw [k_start]
  simp only [pvT, trow]
  have hb : (O.length + 1) * 40 ≤ strMax := by unfold strMax; omega
  simp only [go_sem, Nat.reduceAdd, Nat.reduceSub, Nat.reduceMul, Nat.reduceLT, Nat.reduceLeDiff, Nat.reduceEqDiff, Nat.reduceBEq, Nat.reduceBNe, reduceCtorEq, Int.reduceBNe, Int.reduceBEq, ty_39, ty_27, ty_56, ty_63, ty_65, ty_3, ty_4, ty_126, ty_128, draw_31_7, draw_31_12]
  rw [eq_cell]
  refine WC_split (fun he => ?_) (fun he => ?_) <;> simp only [go_sem, Nat.reduceAdd, Nat.reduceSub, Nat.reduceMul, Nat.reduceLT, Nat.reduceLeDiff, Nat.reduceEqDiff, Nat.reduceBEq, Nat.reduceBNe, reduceCtorEq, Int.reduceBNe, Int.reduceBEq, ty_39, ty_27, ty_56, ty_63, ty_65, ty_3, ty_4, ty_126, ty_128, fit_trow, head_trow, hb, head_trow']
  · simp only [Bool.not_eq_true', decide_eq_false_iff_not] at he
    rw [tadd, if_neg he, List.map_append]
    refine ⟨_, _, _, _, _, _, _, rfl, rfl, ?_⟩
    kernel_rfl
  · simp only [Bool.not_eq_false', decide_eq_true_eq] at he
    rw [tadd, if_pos he]
    refine ⟨_, _, _, _, _, _, _, rfl, rfl, ?_⟩
    kernel_rfl
set_option maxHeartbeats 8000000 in
theorem round_18b (k : Int) (q : TR) (O : List TR) (hO : O.length ≤ 100000) : (Lim cfg).round 3 [.agg [.int .i64 k, pvT none, pvT (some q)]] (R18 true 0 O) = some (true, R18 true 0 (tadd O q)) := by
  refine round_eq rfl rfl ?_
  rw [k_start]
  simp only [A18, B18, R18, rngA, rngB, Try.f31, rngs, Option.getD_some, List.nil_append, List.append_nil, List.cons_append, List.getElem?_cons_zero, loop18, outB, errB, mkF, List.foldl, List.zip_cons_cons, List.zip_nil_left, List.replicate, List.set, List.length_cons, List.length_nil, Nat.zero_add, Nat.reduceAdd, if_true]
  simp only [go_sem, Nat.reduceAdd, Nat.reduceSub, Nat.reduceMul, Nat.reduceLT, Nat.reduceLeDiff, Nat.reduceEqDiff, Nat.reduceBEq, Nat.reduceBNe, reduceCtorEq, Int.reduceBNe, Int.reduceBEq, ty_39, ty_27, ty_56, ty_63, ty_65, ty_3, ty_4, ty_126, ty_128, List.map_nil]
  refine ⟨rfl, _, _, _, _, _, _, rfl, ?_⟩
  rw [k_start]
  simp only [pvT, trow]
  have hb : (O.length + 1) * 40 ≤ strMax := by unfold strMax; omega
  simp only [go_sem, Nat.reduceAdd, Nat.reduceSub, Nat.reduceMul, Nat.reduceLT, Nat.reduceLeDiff, Nat.reduceEqDiff, Nat.reduceBEq, Nat.reduceBNe, reduceCtorEq, Int.reduceBNe, Int.reduceBEq, ty_39, ty_27, ty_56, ty_63, ty_65, ty_3, ty_4, ty_126, ty_128, draw_31_7, draw_31_12]
  rw [eq_cell]
  refine WC_split (fun he => ?_) (fun he => ?_) <;> simp only [go_sem, Nat.reduceAdd, Nat.reduceSub, Nat.reduceMul, Nat.reduceLT, Nat.reduceLeDiff, Nat.reduceEqDiff, Nat.reduceBEq, Nat.reduceBNe, reduceCtorEq, Int.reduceBNe, Int.reduceBEq, ty_39, ty_27, ty_56, ty_63, ty_65, ty_3, ty_4, ty_126, ty_128, fit_trow, head_trow, hb, head_trow']
  · simp only [Bool.not_eq_true', decide_eq_false_iff_not] at he
    rw [tadd, if_neg he, List.map_append]
    refine ⟨_, _, _, _, _, _, _, rfl, rfl, ?_⟩
    kernel_rfl
  · simp only [Bool.not_eq_false', decide_eq_true_eq] at he
    rw [tadd, if_pos he]
    refine ⟨_, _, _, _, _, _, _, rfl, rfl, ?_⟩
    kernel_rfl
set_option maxHeartbeats 8000000 in
theorem round_18c (k : Int) (p q : TR) (O : List TR) (hO : O.length ≤ 100000) (h : p.2.2 = q.2.1) : (Lim cfg).round 3 [.agg [.int .i64 k, pvT (some p), pvT (some q)]] (R18 true 0 O) = some (true, R18 true 0 (tadd O (k, p.2.1, q.2.2))) := by
  refine round_eq rfl rfl ?_
  rw [k_start]
  simp only [A18, B18, R18, rngA, rngB, Try.f31, rngs, Option.getD_some, List.nil_append, List.append_nil, List.cons_append, List.getElem?_cons_zero, loop18, outB, errB, mkF, List.foldl, List.zip_cons_cons, List.zip_nil_left, List.replicate, List.set, List.length_cons, List.length_nil, Nat.zero_add, Nat.reduceAdd, if_true]
  simp only [go_sem, Nat.reduceAdd, Nat.reduceSub, Nat.reduceMul, Nat.reduceLT, Nat.reduceLeDiff, Nat.reduceEqDiff, Nat.reduceBEq, Nat.reduceBNe, reduceCtorEq, Int.reduceBNe, Int.reduceBEq, ty_39, ty_27, ty_56, ty_63, ty_65, ty_3, ty_4, ty_126, ty_128, List.map_nil]
  refine ⟨rfl, _, _, _, _, _, _, rfl, ?_⟩
  rw [k_start]
  simp only [pvT, trow]
  simp only [go_sem, Nat.reduceAdd, Nat.reduceSub, Nat.reduceMul, Nat.reduceLT, Nat.reduceLeDiff, Nat.reduceEqDiff, Nat.reduceBEq, Nat.reduceBNe, reduceCtorEq, Int.reduceBNe, Int.reduceBEq, ty_39, ty_27, ty_56, ty_63, ty_65, ty_3, ty_4, ty_126, ty_128, draw_31_7, draw_31_12]
  rw [eq_cell, decide_eq_true h]
  have hb : (O.length + 1) * 40 ≤ strMax := by unfold strMax; omega
  simp only [go_sem, Nat.reduceAdd, Nat.reduceSub, Nat.reduceMul, Nat.reduceLT, Nat.reduceLeDiff, Nat.reduceEqDiff, Nat.reduceBEq, Nat.reduceBNe, reduceCtorEq, Int.reduceBNe, Int.reduceBEq, ty_39, ty_27, ty_56, ty_63, ty_65, ty_3, ty_4, ty_126, ty_128, draw_31_7, draw_31_12]
  rw [eq_cell]
  refine WC_split (fun he => ?_) (fun he => ?_) <;> simp only [go_sem, Nat.reduceAdd, Nat.reduceSub, Nat.reduceMul, Nat.reduceLT, Nat.reduceLeDiff, Nat.reduceEqDiff, Nat.reduceBEq, Nat.reduceBNe, reduceCtorEq, Int.reduceBNe, Int.reduceBEq, ty_39, ty_27, ty_56, ty_63, ty_65, ty_3, ty_4, ty_126, ty_128, fit_trow, head_trow, hb, head_trow']
  · simp only [Bool.not_eq_true', decide_eq_false_iff_not] at he
    rw [tadd, if_neg he, List.map_append]
    refine ⟨_, _, _, _, _, _, _, rfl, rfl, ?_⟩
    kernel_rfl
  · simp only [Bool.not_eq_false', decide_eq_true_eq] at he
    rw [tadd, if_pos he]
    refine ⟨_, _, _, _, _, _, _, rfl, rfl, ?_⟩
    kernel_rfl
set_option maxHeartbeats 8000000 in
theorem round_18d (k : Int) (p q : TR) (O : List TR) (h : ¬ p.2.2 = q.2.1) : (Lim cfg).round 3 [.agg [.int .i64 k, pvT (some p), pvT (some q)]] (R18 true 0 O) = some (false, R18 false 7 O) := by
  refine round_eq rfl rfl ?_
  rw [k_start]
  simp only [A18, B18, R18, rngA, rngB, Try.f31, rngs, Option.getD_some, List.nil_append, List.append_nil, List.cons_append, List.getElem?_cons_zero, loop18, outB, errB, mkF, List.foldl, List.zip_cons_cons, List.zip_nil_left, List.replicate, List.set, List.length_cons, List.length_nil, Nat.zero_add, Nat.reduceAdd, if_true]
  simp only [go_sem, Nat.reduceAdd, Nat.reduceSub, Nat.reduceMul, Nat.reduceLT, Nat.reduceLeDiff, Nat.reduceEqDiff, Nat.reduceBEq, Nat.reduceBNe, reduceCtorEq, Int.reduceBNe, Int.reduceBEq, ty_39, ty_27, ty_56, ty_63, ty_65, ty_3, ty_4, ty_126, ty_128, List.map_nil]
  refine ⟨rfl, _, _, _, _, _, _, rfl, ?_⟩
  rw [k_start]
  simp only [pvT, trow]
  simp only [go_sem, Nat.reduceAdd, Nat.reduceSub, Nat.reduceMul, Nat.reduceLT, Nat.reduceLeDiff, Nat.reduceEqDiff, Nat.reduceBEq, Nat.reduceBNe, reduceCtorEq, Int.reduceBNe, Int.reduceBEq, ty_39, ty_27, ty_56, ty_63, ty_65, ty_3, ty_4, ty_126, ty_128, draw_31_7, draw_31_12]
  rw [eq_cell, decide_eq_false h]
  simp only [go_sem, Nat.reduceAdd, Nat.reduceSub, Nat.reduceMul, Nat.reduceLT, Nat.reduceLeDiff, Nat.reduceEqDiff, Nat.reduceBEq, Nat.reduceBNe, reduceCtorEq, Int.reduceBNe, Int.reduceBEq, ty_39, ty_27, ty_56, ty_63, ty_65, ty_3, ty_4, ty_126, ty_128]
  refine ⟨_, _, _, _, _, _, _, rfl, rfl, ?_⟩
  kernel_rfl
set_option maxHeartbeats 8000000 in
theorem round_20a (k : Int) (p : TR) (O : List TR) (C : List Int) : (Lim cfg).round 2 [.agg [.int .i64 k, pvT (some p), pvT none]] (R20 O C) = some (true, R20 O C) := by
  refine round_eq rfl rfl ?_
  rw [k_start]
  simp only [A20, B20, R20, rngA, rngB, Try.f26, rngs, Option.getD_some, List.nil_append, List.append_nil, List.cons_append, List.getElem?_cons_zero, loop20, outB, clB, mkF, List.foldl, List.zip_cons_cons, List.zip_nil_left, List.replicate, List.set, List.length_cons, List.length_nil, Nat.zero_add, Nat.reduceAdd, if_true]
  simp only [go_sem, Nat.reduceAdd, Nat.reduceSub, Nat.reduceMul, Nat.reduceLT, Nat.reduceLeDiff, Nat.reduceEqDiff, Nat.reduceBEq, Nat.reduceBNe, reduceCtorEq, Int.reduceBNe, Int.reduceBEq, ty_39, ty_27, ty_56, ty_63, ty_65, ty_3, ty_4, ty_126, ty_128, List.map_nil]
  refine ⟨rfl, _, _, _, _, _, _, rfl, ?_⟩
  rw [k_start]
  simp only [pvT, trow]
  simp only [go_sem, Nat.reduceAdd, Nat.reduceSub, Nat.reduceMul, Nat.reduceLT, Nat.reduceLeDiff, Nat.reduceEqDiff, Nat.reduceBEq, Nat.reduceBNe, reduceCtorEq, Int.reduceBNe, Int.reduceBEq, ty_39, ty_27, ty_56, ty_63, ty_65, ty_3, ty_4, ty_126, ty_128]
  refine ⟨_, _, _, _, _, _, _, rfl, rfl, ?_⟩
  kernel_rfl
set_option maxHeartbeats 8000000 in
theorem round_20b (k : Int) (q : TR) (O : List TR) (C : List Int) (hO : O.length ≤ 100000) : (Lim cfg).round 2 [.agg [.int .i64 k, pvT none, pvT (some q)]] (R20 O C) = some (true, R20 (O ++ [q]) C) := by
  refine round_eq rfl rfl ?_
  rw [k_start]
  simp only [A20, B20, R20, rngA, rngB, Try.f26, rngs, Option.getD_some, List.nil_append, List.append_nil, List.cons_append, List.getElem?_cons_zero, loop20, outB, clB, mkF, List.foldl, List.zip_cons_cons, List.zip_nil_left, List.replicate, List.set, List.length_cons, List.length_nil, Nat.zero_add, Nat.reduceAdd, if_true]
  simp only [go_sem, Nat.reduceAdd, Nat.reduceSub, Nat.reduceMul, Nat.reduceLT, Nat.reduceLeDiff, Nat.reduceEqDiff, Nat.reduceBEq, Nat.reduceBNe, reduceCtorEq, Int.reduceBNe, Int.reduceBEq, ty_39, ty_27, ty_56, ty_63, ty_65, ty_3, ty_4, ty_126, ty_128, List.map_nil]
  refine ⟨rfl, _, _, _, _, _, _, rfl, ?_⟩
  rw [k_start]
  simp only [pvT, trow]
  have hb : (O.length + 1) * 40 ≤ strMax := by unfold strMax; omega
  simp only [go_sem, Nat.reduceAdd, Nat.reduceSub, Nat.reduceMul, Nat.reduceLT, Nat.reduceLeDiff, Nat.reduceEqDiff, Nat.reduceBEq, Nat.reduceBNe, reduceCtorEq, Int.reduceBNe, Int.reduceBEq, ty_39, ty_27, ty_56, ty_63, ty_65, ty_3, ty_4, ty_126, ty_128, draw_26_5, draw_26_6, draw_26_8, draw_26_12, draw_26_13, fit_trow, head_trow, hb, head_trow']
  rw [List.map_append]
  refine ⟨_, _, _, _, _, _, _, rfl, rfl, ?_⟩
  kernel_rfl
def oboth (k : Int) (p q : TR) (O : List TR) (C : List Int) : List TR × List Int := if p.2.2 = q.2.2 then (if p.2.1 = q.2.1 then (O, C) else (O, C ++ [k])) else (O ++ [(k, p.2.2, q.2.2)], C ++ [k])
set_option maxHeartbeats 8000000 in
theorem round_20c (k : Int) (p q : TR) (O : List TR) (C : List Int) (hO : O.length ≤ 100000) (hC : C.length ≤ 100000) : (Lim cfg).round 2 [.agg [.int .i64 k, pvT (some p), pvT (some q)]] (R20 O C) = some (true, R20 (oboth k p q O C).1 (oboth k p q O C).2) := by
  refine round_eq rfl rfl ?_
  rw [k_start]
  simp only [A20, B20, R20, rngA, rngB, Try.f26, rngs, Option.getD_some, List.nil_append, List.append_nil, List.cons_append, List.getElem?_cons_zero, loop20, outB, clB, mkF, List.foldl, List.zip_cons_cons, List.zip_nil_left, List.replicate, List.set, List.length_cons, List.length_nil, Nat.zero_add, Nat.reduceAdd, if_true]
  simp only [go_sem, Nat.reduceAdd, Nat.reduceSub, Nat.reduceMul, Nat.reduceLT, Nat.reduceLeDiff, Nat.reduceEqDiff, Nat.reduceBEq, Nat.reduceBNe, reduceCtorEq, Int.reduceBNe, Int.reduceBEq, ty_39, ty_27, ty_56, ty_63, ty_65, ty_3, ty_4, ty_126, ty_128, List.map_nil]
  refine ⟨rfl, _, _, _, _, _, _, rfl, ?_⟩
  rw [k_start]
  simp only [pvT, trow]
  have hb : (O.length + 1) * 40 ≤ strMax := by unfold strMax; omega
  have hbC : (C.length + 1) * 8 ≤ strMax := by unfold strMax; omega
  simp only [go_sem, Nat.reduceAdd, Nat.reduceSub, Nat.reduceMul, Nat.reduceLT, Nat.reduceLeDiff, Nat.reduceEqDiff, Nat.reduceBEq, Nat.reduceBNe, reduceCtorEq, Int.reduceBNe, Int.reduceBEq, ty_39, ty_27, ty_56, ty_63, ty_65, ty_3, ty_4, ty_126, ty_128, draw_26_5, draw_26_6, draw_26_8, draw_26_12, draw_26_13]
  rw [eq_cell]
  refine WC_split (fun he => ?_) (fun he => ?_) <;> simp only [go_sem, Nat.reduceAdd, Nat.reduceSub, Nat.reduceMul, Nat.reduceLT, Nat.reduceLeDiff, Nat.reduceEqDiff, Nat.reduceBEq, Nat.reduceBNe, reduceCtorEq, Int.reduceBNe, Int.reduceBEq, ty_39, ty_27, ty_56, ty_63, ty_65, ty_3, ty_4, ty_126, ty_128, draw_26_5, draw_26_6, draw_26_8, draw_26_12, draw_26_13, fit_trow, head_trow, hb, head_trow', fit_irow, head_irow, hbC, head_irow']
  · simp only [Bool.not_eq_true', decide_eq_false_iff_not] at he
    rw [oboth, if_neg he, List.map_append, List.map_append]
    refine ⟨_, _, _, _, _, _, _, rfl, rfl, ?_⟩
    kernel_rfl
  · simp only [Bool.not_eq_false', decide_eq_true_eq] at he
    rw [eq_cell]
    refine WC_split (fun he2 => ?_) (fun he2 => ?_) <;> simp only [go_sem, Nat.reduceAdd, Nat.reduceSub, Nat.reduceMul, Nat.reduceLT, Nat.reduceLeDiff, Nat.reduceEqDiff, Nat.reduceBEq, Nat.reduceBNe, reduceCtorEq, Int.reduceBNe, Int.reduceBEq, ty_39, ty_27, ty_56, ty_63, ty_65, ty_3, ty_4, ty_126, ty_128, fit_irow, head_irow, hbC, head_irow']
    · simp only [Bool.not_eq_true', decide_eq_false_iff_not] at he2
      rw [oboth, if_pos he, if_neg he2, List.map_append]
      refine ⟨_, _, _, _, _, _, _, rfl, rfl, ?_⟩
      kernel_rfl
    · simp only [Bool.not_eq_false', decide_eq_true_eq] at he2
      rw [oboth, if_pos he, if_pos he2]
      refine ⟨_, _, _, _, _, _, _, rfl, rfl, ?_⟩
      kernel_rfl
end Go.Proofs.Ytknblodiilgogaa
