/- Turns behind others: the document's answer. -/
import Derived.Test.YtpjolollnhfciaaD14
set_option linter.all false
set_option maxRecDepth 100000
namespace Go.Proofs.Ytpjolollnhfciaa
open Go Go.Abs

def ostep (l : List TR) (q : TR) (X : List TR × List Int) : List TR × List Int :=
  match l.findIdx? (fun t => t.1 == q.1) with
  | none => (X.1 ++ [q], X.2)
  | some i => match l[i]? with
    | none => X
    | some p => if p.2.2 = q.2.2 then (if p.2.1 = q.2.1 then X else (X.1, X.2 ++ [q.1])) else (X.1 ++ [(q.1, p.2.2, q.2.2)], X.2 ++ [q.1])
def oref (l m : List TR) (X : List TR × List Int) : List TR × List Int := m.foldl (fun X q => ostep l q X) X
theorem oref_succ {l m : List TR} {k : Nat} (h : k < m.length) {X : List TR × List Int} : oref l (m.take (k + 1)) X = ostep l m[k] (oref l (m.take k) X) := by
  rw [List.take_succ_eq_append_getElem h, oref, List.foldl_append]; rfl
theorem ostep_len (l : List TR) (q : TR) (X : List TR × List Int) : (ostep l q X).1.length ≤ X.1.length + 1 ∧ (ostep l q X).2.length ≤ X.2.length + 1 := by
  unfold ostep
  split
  · simp
  · split
    · simp
    · split
      · split <;> simp
      · simp
def ontoR (l m : List TR) : (List TR × List Int) × Int := if chkT l && chkT m then (oref l m ([], []), 0) else (([], []), 1)

def laidB (w : Bool) (X : List TR × List Int) : Blk := .cells 44 (if w then [1, 0] else [0, 1]) [.sl true (X.1.map trow), .sl true (X.2.map irow), .int .i64 0]
def S21 (l m : List TR) (x : Nat × Bool × List TR × List Int) : St := { fr := mkF 105 [(0, .sl true (l.map trow)), (1, .sl true (m.map trow)), (4, .ptr 0 0), (5, .ptr 1 0), (6, .int .i64 x.1)], own := [], hp := [.cells 44 [0, 1] [.sl true [], .sl true [], .int .i64 0], laidB x.2.1 (x.2.2.1, x.2.2.2)], al := [], nb := 0 }

set_option maxHeartbeats 32000000 in
theorem call_21 (l m : List TR) (hl : l.length ≤ 10000) (hm' : m.length ≤ 10000) : (Lim cfg).call 21 [.sl true (l.map trow), .sl true (m.map trow)] [] = some (.agg [.sl true ((ontoR l m).1.1.map trow), .sl true ((ontoR l m).1.2.map irow), .int .i64 (ontoR l m).2], false, []) := by
  have c1 := call_31 l (by omega)
  have c2 := call_31 m (by omega)
  have hcl := fun key => call_46 l key (by omega)
  unfold ontoR
  refine call_eq fn_21 rfl ?_
  rw [k_start]
  simp only [Try.f21, List.length_cons, List.length_nil, Nat.zero_add, Nat.reduceSub, Nat.reduceAdd, List.replicate, List.cons_append, List.nil_append]
  simp only [go_sem, Nat.reduceAdd, Nat.reduceSub, Nat.reduceMul, Nat.reduceLT, Nat.reduceLeDiff, Nat.reduceEqDiff, Nat.reduceBEq, Nat.reduceBNe, reduceCtorEq, Nat.reduceLT, ty_29, ty_88, ty_68, ty_3, ty_4, ty_40, ty_44, ext_46, ext_31, c1]
  cases h1 : chkT l with
  | false =>
    simp only [go_sem, Nat.reduceAdd, Nat.reduceSub, Nat.reduceMul, Nat.reduceLT, Nat.reduceLeDiff, Nat.reduceEqDiff, Nat.reduceBEq, Nat.reduceBNe, reduceCtorEq, Nat.reduceLT, h1, ty_29, ty_88, ty_68, ty_3, ty_4, ty_40, ty_44, ext_46]
    refine retc1 (fun _ => ex_ret) (by simp only [loadV, ty_44]; rfl) rfl ⟨rfl, rfl, rfl⟩
  | true =>
    simp only [go_sem, Nat.reduceAdd, Nat.reduceSub, Nat.reduceMul, Nat.reduceLT, Nat.reduceLeDiff, Nat.reduceEqDiff, Nat.reduceBEq, Nat.reduceBNe, reduceCtorEq, Nat.reduceLT, h1, ext_31, c2]
    cases h2 : chkT m with
    | false =>
      simp only [go_sem, Nat.reduceAdd, Nat.reduceSub, Nat.reduceMul, Nat.reduceLT, Nat.reduceLeDiff, Nat.reduceEqDiff, Nat.reduceBEq, Nat.reduceBNe, reduceCtorEq, Nat.reduceLT, h2, ty_29, ty_88, ty_68, ty_3, ty_4, ty_40, ty_44, ext_46]
      refine retc1 (fun _ => ex_ret) (by simp only [loadV, ty_44]; rfl) rfl ⟨rfl, rfl, rfl⟩
    | true =>
    simp only [go_sem, Nat.reduceAdd, Nat.reduceSub, Nat.reduceMul, Nat.reduceLT, Nat.reduceLeDiff, Nat.reduceEqDiff, Nat.reduceBEq, Nat.reduceBNe, reduceCtorEq, Nat.reduceLT, h2, ty_29, ty_88, ty_68, ty_3, ty_4, ty_40, ty_44, ext_46]
    refine k_loop (S21 l m) (fun x => x.1 ≤ m.length ∧ (x.2.2.1.length ≤ x.1 ∧ x.2.2.2.length ≤ x.1) ∧ (x.2.2.1, x.2.2.2) = oref l (m.take x.1) ([], [])) (fun x => m.length - x.1) (0, false, [], []) (K := cfg.kill 21 5) rfl
      ⟨Nat.zero_le _, ⟨Nat.le_refl _, Nat.le_refl _⟩, rfl⟩ (by kernel_rfl) ?_
    intro ⟨k, w, O, C⟩ ⟨hkb, ⟨hol, hcl2⟩, hX⟩ k' Q' hnorm hexit hret
    simp only at hkb hol hcl2 hX
    have hbO : (O.length + 1) * 40 ≤ strMax := by unfold strMax; omega
    have hbC : (C.length + 1) * 8 ≤ strMax := by unfold strMax; omega
    simp only [S21, mkF, List.foldl, List.replicate, List.set, List.cons_append, List.nil_append]
    cases w
    · simp only [laidB, Bool.false_eq_true, if_false]
      by_cases hk : k < m.length
      · have hk1 : (k : Int) < (m.length : Int) := by omega
        have hk2 : ¬ ((k : Int) < 0) := by omega
        have hy : (m.map trow)[k]? = some [.int .i64 m[k].1, .int .i64 m[k].2.1.1, .bool m[k].2.1.2, .int .i64 m[k].2.2.1, .bool m[k].2.2.2] := by simp [hk, trow]
        cases hf : l.findIdx? (fun t => t.1 == m[k].1) with
        | none =>
          have hil : idxT l m[k].1 = -1 := by rw [idxT, hf]
          have hz : (-1 : Int) < 0 := by omega
          have hst : ostep l m[k] (O, C) = (O ++ [m[k]], C) := by rw [ostep, hf]
          simp only [go_sem, Nat.reduceAdd, Nat.reduceSub, Nat.reduceMul, Nat.reduceLT, Nat.reduceLeDiff, Nat.reduceEqDiff, Nat.reduceBEq, Nat.reduceBNe, reduceCtorEq, Nat.reduceLT, ty_29, ty_88, ty_68, ty_3, ty_4, ty_40, ty_44, ext_46, draw_21_9, hil, hz, Int.toNat_natCast, fit_trow, head_trow, hbO, head_trow', fit_irow, head_irow, hbC, head_irow', hcl, hy, hk1, hk2]
          rw [wrap_i64 (n := (k : Int) + 1) (by omega) (by omega)]
          refine hnorm (k + 1, false, O ++ [m[k]], C) _ ⟨by show k + 1 ≤ _; omega, ⟨by simp only [List.length_append, List.length_singleton]; omega, by show List.length C ≤ k + 1; omega⟩, by show (O ++ [m[k]], C) = _; rw [oref_succ hk, ← hX, hst]⟩ (by show m.length - (k + 1) < m.length - k; omega) (by rw [S21, laidB, List.map_append]; kernel_rfl)
        | some i =>
          have hi : i < l.length := (List.findIdx?_eq_some_iff_getElem.1 hf).1
          have hil : idxT l m[k].1 = i := by rw [idxT, hf]
          have hi2 : ¬ ((i : Int) < 0) := by omega
          have hx : (l.map trow)[i]? = some [.int .i64 l[i].1, .int .i64 l[i].2.1.1, .bool l[i].2.1.2, .int .i64 l[i].2.2.1, .bool l[i].2.2.2] := by simp [hi, trow]
          have hli : l[i]? = some l[i] := List.getElem?_eq_getElem hi
          simp only [go_sem, Nat.reduceAdd, Nat.reduceSub, Nat.reduceMul, Nat.reduceLT, Nat.reduceLeDiff, Nat.reduceEqDiff, Nat.reduceBEq, Nat.reduceBNe, reduceCtorEq, Nat.reduceLT, ty_29, ty_88, ty_68, ty_3, ty_4, ty_40, ty_44, ext_46, draw_21_10, hil, hi2, hx, Int.toNat_natCast, fit_trow, head_trow, hbO, head_trow', fit_irow, head_irow, hbC, head_irow', hcl, hy, hk1, hk2]
          rw [eq_cell]
          refine WC_split (fun he => ?_) (fun he => ?_) <;> simp only [go_sem, Nat.reduceAdd, Nat.reduceSub, Nat.reduceMul, Nat.reduceLT, Nat.reduceLeDiff, Nat.reduceEqDiff, Nat.reduceBEq, Nat.reduceBNe, reduceCtorEq, Nat.reduceLT, ty_29, ty_88, ty_68, ty_3, ty_4, ty_40, ty_44, ext_46]
          · simp only [Bool.not_eq_true', decide_eq_false_iff_not] at he
            have hst : ostep l m[k] (O, C) = (O ++ [(m[k].1, l[i].2.2, m[k].2.2)], C ++ [m[k].1]) := by
              rw [ostep, hf]; simp only [hli]; rw [if_neg he]
            simp only [go_sem, Nat.reduceAdd, Nat.reduceSub, Nat.reduceMul, Nat.reduceLT, Nat.reduceLeDiff, Nat.reduceEqDiff, Nat.reduceBEq, Nat.reduceBNe, reduceCtorEq, Nat.reduceLT, ty_29, ty_88, ty_68, ty_3, ty_4, ty_40, ty_44, ext_46, draw_21_11, draw_21_12, hil, hi2, hx, Int.toNat_natCast, fit_trow, head_trow, hbO, head_trow', fit_irow, head_irow, hbC, head_irow', hcl, hy, hk1, hk2]
            rw [wrap_i64 (n := (k : Int) + 1) (by omega) (by omega)]
            refine hnorm (k + 1, true, O ++ [(m[k].1, l[i].2.2, m[k].2.2)], C ++ [m[k].1]) _ ⟨by show k + 1 ≤ _; omega, ⟨by simp only [List.length_append, List.length_singleton]; omega, by simp only [List.length_append, List.length_singleton]; omega⟩, by show (O ++ [(m[k].1, l[i].2.2, m[k].2.2)], C ++ [m[k].1]) = _; rw [oref_succ hk, ← hX, hst]⟩ (by show m.length - (k + 1) < m.length - k; omega) (by rw [S21, laidB, List.map_append, List.map_append]; kernel_rfl)
          · simp only [Bool.not_eq_false', decide_eq_true_eq] at he
            simp only [go_sem, Nat.reduceAdd, Nat.reduceSub, Nat.reduceMul, Nat.reduceLT, Nat.reduceLeDiff, Nat.reduceEqDiff, Nat.reduceBEq, Nat.reduceBNe, reduceCtorEq, Nat.reduceLT, ty_29, ty_88, ty_68, ty_3, ty_4, ty_40, ty_44, ext_46, draw_21_13, hil, hi2, hx, Int.toNat_natCast, fit_trow, head_trow, hbO, head_trow', fit_irow, head_irow, hbC, head_irow', hcl, hy, hk1, hk2]
            rw [eq_cell]
            refine WC_split (fun he2 => ?_) (fun he2 => ?_) <;> simp only [go_sem, Nat.reduceAdd, Nat.reduceSub, Nat.reduceMul, Nat.reduceLT, Nat.reduceLeDiff, Nat.reduceEqDiff, Nat.reduceBEq, Nat.reduceBNe, reduceCtorEq, Nat.reduceLT, ty_29, ty_88, ty_68, ty_3, ty_4, ty_40, ty_44, ext_46]
            · simp only [Bool.not_eq_true', decide_eq_false_iff_not] at he2
              have hst : ostep l m[k] (O, C) = (O, C ++ [m[k].1]) := by
                rw [ostep, hf]; simp only [hli]; rw [if_pos he, if_neg he2]
              simp only [go_sem, Nat.reduceAdd, Nat.reduceSub, Nat.reduceMul, Nat.reduceLT, Nat.reduceLeDiff, Nat.reduceEqDiff, Nat.reduceBEq, Nat.reduceBNe, reduceCtorEq, Nat.reduceLT, ty_29, ty_88, ty_68, ty_3, ty_4, ty_40, ty_44, ext_46, draw_21_14, hil, hi2, hx, Int.toNat_natCast, fit_trow, head_trow, hbO, head_trow', fit_irow, head_irow, hbC, head_irow', hcl, hy, hk1, hk2]
              rw [wrap_i64 (n := (k : Int) + 1) (by omega) (by omega)]
              refine hnorm (k + 1, true, O, C ++ [m[k].1]) _ ⟨by show k + 1 ≤ _; omega, ⟨by show List.length O ≤ k + 1; omega, by simp only [List.length_append, List.length_singleton]; omega⟩, by show (O, C ++ [m[k].1]) = _; rw [oref_succ hk, ← hX, hst]⟩ (by show m.length - (k + 1) < m.length - k; omega) (by rw [S21, laidB, List.map_append]; kernel_rfl)
            · simp only [Bool.not_eq_false', decide_eq_true_eq] at he2
              have hst : ostep l m[k] (O, C) = (O, C) := by
                rw [ostep, hf]; simp only [hli]; rw [if_pos he, if_pos he2]
              rw [wrap_i64 (n := (k : Int) + 1) (by omega) (by omega)]
              refine hnorm (k + 1, false, O, C) _ ⟨by show k + 1 ≤ _; omega, ⟨by show List.length O ≤ k + 1; omega, by show List.length C ≤ k + 1; omega⟩, by show (O, C) = _; rw [oref_succ hk, ← hX, hst]⟩ (by show m.length - (k + 1) < m.length - k; omega) (by rw [S21]; kernel_rfl)
      · have hk1 : ¬ (k : Int) < (m.length : Int) := by omega
        simp only [go_sem, Nat.reduceAdd, Nat.reduceSub, Nat.reduceMul, Nat.reduceLT, Nat.reduceLeDiff, Nat.reduceEqDiff, Nat.reduceBEq, Nat.reduceBNe, reduceCtorEq, Nat.reduceLT, ty_29, ty_88, ty_68, ty_3, ty_4, ty_40, ty_44, ext_46, hk1]
        refine hexit 0 _ ?_
        simp only [go_sem, Nat.reduceAdd, Nat.reduceSub, Nat.reduceMul, Nat.reduceLT, Nat.reduceLeDiff, Nat.reduceEqDiff, Nat.reduceBEq, Nat.reduceBNe, reduceCtorEq, Nat.reduceLT, ty_29, ty_88, ty_68, ty_3, ty_4, ty_40, ty_44, ext_46]
        rw [List.take_of_length_le (by omega)] at hX
        refine retc1 (fun _ => ex_ret) (by simp only [loadV, ty_44]; rfl) rfl ⟨?_, rfl, rfl⟩
        simp only [Bool.and_self, if_true, ← hX]
        rfl
    · simp only [laidB, if_true]
      by_cases hk : k < m.length
      · have hk1 : (k : Int) < (m.length : Int) := by omega
        have hk2 : ¬ ((k : Int) < 0) := by omega
        have hy : (m.map trow)[k]? = some [.int .i64 m[k].1, .int .i64 m[k].2.1.1, .bool m[k].2.1.2, .int .i64 m[k].2.2.1, .bool m[k].2.2.2] := by simp [hk, trow]
        cases hf : l.findIdx? (fun t => t.1 == m[k].1) with
        | none =>
          have hil : idxT l m[k].1 = -1 := by rw [idxT, hf]
          have hz : (-1 : Int) < 0 := by omega
          have hst : ostep l m[k] (O, C) = (O ++ [m[k]], C) := by rw [ostep, hf]
          simp only [go_sem, Nat.reduceAdd, Nat.reduceSub, Nat.reduceMul, Nat.reduceLT, Nat.reduceLeDiff, Nat.reduceEqDiff, Nat.reduceBEq, Nat.reduceBNe, reduceCtorEq, Nat.reduceLT, ty_29, ty_88, ty_68, ty_3, ty_4, ty_40, ty_44, ext_46, draw_21_9, hil, hz, Int.toNat_natCast, fit_trow, head_trow, hbO, head_trow', fit_irow, head_irow, hbC, head_irow', hcl, hy, hk1, hk2]
          rw [wrap_i64 (n := (k : Int) + 1) (by omega) (by omega)]
          refine hnorm (k + 1, false, O ++ [m[k]], C) _ ⟨by show k + 1 ≤ _; omega, ⟨by simp only [List.length_append, List.length_singleton]; omega, by show List.length C ≤ k + 1; omega⟩, by show (O ++ [m[k]], C) = _; rw [oref_succ hk, ← hX, hst]⟩ (by show m.length - (k + 1) < m.length - k; omega) (by rw [S21, laidB, List.map_append]; kernel_rfl)
        | some i =>
          have hi : i < l.length := (List.findIdx?_eq_some_iff_getElem.1 hf).1
          have hil : idxT l m[k].1 = i := by rw [idxT, hf]
          have hi2 : ¬ ((i : Int) < 0) := by omega
          have hx : (l.map trow)[i]? = some [.int .i64 l[i].1, .int .i64 l[i].2.1.1, .bool l[i].2.1.2, .int .i64 l[i].2.2.1, .bool l[i].2.2.2] := by simp [hi, trow]
          have hli : l[i]? = some l[i] := List.getElem?_eq_getElem hi
          simp only [go_sem, Nat.reduceAdd, Nat.reduceSub, Nat.reduceMul, Nat.reduceLT, Nat.reduceLeDiff, Nat.reduceEqDiff, Nat.reduceBEq, Nat.reduceBNe, reduceCtorEq, Nat.reduceLT, ty_29, ty_88, ty_68, ty_3, ty_4, ty_40, ty_44, ext_46, draw_21_10, hil, hi2, hx, Int.toNat_natCast, fit_trow, head_trow, hbO, head_trow', fit_irow, head_irow, hbC, head_irow', hcl, hy, hk1, hk2]
          rw [eq_cell]
          refine WC_split (fun he => ?_) (fun he => ?_) <;> simp only [go_sem, Nat.reduceAdd, Nat.reduceSub, Nat.reduceMul, Nat.reduceLT, Nat.reduceLeDiff, Nat.reduceEqDiff, Nat.reduceBEq, Nat.reduceBNe, reduceCtorEq, Nat.reduceLT, ty_29, ty_88, ty_68, ty_3, ty_4, ty_40, ty_44, ext_46]
          · simp only [Bool.not_eq_true', decide_eq_false_iff_not] at he
            have hst : ostep l m[k] (O, C) = (O ++ [(m[k].1, l[i].2.2, m[k].2.2)], C ++ [m[k].1]) := by
              rw [ostep, hf]; simp only [hli]; rw [if_neg he]
            simp only [go_sem, Nat.reduceAdd, Nat.reduceSub, Nat.reduceMul, Nat.reduceLT, Nat.reduceLeDiff, Nat.reduceEqDiff, Nat.reduceBEq, Nat.reduceBNe, reduceCtorEq, Nat.reduceLT, ty_29, ty_88, ty_68, ty_3, ty_4, ty_40, ty_44, ext_46, draw_21_11, draw_21_12, hil, hi2, hx, Int.toNat_natCast, fit_trow, head_trow, hbO, head_trow', fit_irow, head_irow, hbC, head_irow', hcl, hy, hk1, hk2]
            rw [wrap_i64 (n := (k : Int) + 1) (by omega) (by omega)]
            refine hnorm (k + 1, true, O ++ [(m[k].1, l[i].2.2, m[k].2.2)], C ++ [m[k].1]) _ ⟨by show k + 1 ≤ _; omega, ⟨by simp only [List.length_append, List.length_singleton]; omega, by simp only [List.length_append, List.length_singleton]; omega⟩, by show (O ++ [(m[k].1, l[i].2.2, m[k].2.2)], C ++ [m[k].1]) = _; rw [oref_succ hk, ← hX, hst]⟩ (by show m.length - (k + 1) < m.length - k; omega) (by rw [S21, laidB, List.map_append, List.map_append]; kernel_rfl)
          · simp only [Bool.not_eq_false', decide_eq_true_eq] at he
            simp only [go_sem, Nat.reduceAdd, Nat.reduceSub, Nat.reduceMul, Nat.reduceLT, Nat.reduceLeDiff, Nat.reduceEqDiff, Nat.reduceBEq, Nat.reduceBNe, reduceCtorEq, Nat.reduceLT, ty_29, ty_88, ty_68, ty_3, ty_4, ty_40, ty_44, ext_46, draw_21_13, hil, hi2, hx, Int.toNat_natCast, fit_trow, head_trow, hbO, head_trow', fit_irow, head_irow, hbC, head_irow', hcl, hy, hk1, hk2]
            rw [eq_cell]
            refine WC_split (fun he2 => ?_) (fun he2 => ?_) <;> simp only [go_sem, Nat.reduceAdd, Nat.reduceSub, Nat.reduceMul, Nat.reduceLT, Nat.reduceLeDiff, Nat.reduceEqDiff, Nat.reduceBEq, Nat.reduceBNe, reduceCtorEq, Nat.reduceLT, ty_29, ty_88, ty_68, ty_3, ty_4, ty_40, ty_44, ext_46]
            · simp only [Bool.not_eq_true', decide_eq_false_iff_not] at he2
              have hst : ostep l m[k] (O, C) = (O, C ++ [m[k].1]) := by
                rw [ostep, hf]; simp only [hli]; rw [if_pos he, if_neg he2]
              simp only [go_sem, Nat.reduceAdd, Nat.reduceSub, Nat.reduceMul, Nat.reduceLT, Nat.reduceLeDiff, Nat.reduceEqDiff, Nat.reduceBEq, Nat.reduceBNe, reduceCtorEq, Nat.reduceLT, ty_29, ty_88, ty_68, ty_3, ty_4, ty_40, ty_44, ext_46, draw_21_14, hil, hi2, hx, Int.toNat_natCast, fit_trow, head_trow, hbO, head_trow', fit_irow, head_irow, hbC, head_irow', hcl, hy, hk1, hk2]
              rw [wrap_i64 (n := (k : Int) + 1) (by omega) (by omega)]
              refine hnorm (k + 1, true, O, C ++ [m[k].1]) _ ⟨by show k + 1 ≤ _; omega, ⟨by show List.length O ≤ k + 1; omega, by simp only [List.length_append, List.length_singleton]; omega⟩, by show (O, C ++ [m[k].1]) = _; rw [oref_succ hk, ← hX, hst]⟩ (by show m.length - (k + 1) < m.length - k; omega) (by rw [S21, laidB, List.map_append]; kernel_rfl)
            · simp only [Bool.not_eq_false', decide_eq_true_eq] at he2
              have hst : ostep l m[k] (O, C) = (O, C) := by
                rw [ostep, hf]; simp only [hli]; rw [if_pos he, if_pos he2]
              rw [wrap_i64 (n := (k : Int) + 1) (by omega) (by omega)]
              refine hnorm (k + 1, true, O, C) _ ⟨by show k + 1 ≤ _; omega, ⟨by show List.length O ≤ k + 1; omega, by show List.length C ≤ k + 1; omega⟩, by show (O, C) = _; rw [oref_succ hk, ← hX, hst]⟩ (by show m.length - (k + 1) < m.length - k; omega) (by rw [S21]; kernel_rfl)
      · have hk1 : ¬ (k : Int) < (m.length : Int) := by omega
        simp only [go_sem, Nat.reduceAdd, Nat.reduceSub, Nat.reduceMul, Nat.reduceLT, Nat.reduceLeDiff, Nat.reduceEqDiff, Nat.reduceBEq, Nat.reduceBNe, reduceCtorEq, Nat.reduceLT, ty_29, ty_88, ty_68, ty_3, ty_4, ty_40, ty_44, ext_46, hk1]
        refine hexit 0 _ ?_
        simp only [go_sem, Nat.reduceAdd, Nat.reduceSub, Nat.reduceMul, Nat.reduceLT, Nat.reduceLeDiff, Nat.reduceEqDiff, Nat.reduceBEq, Nat.reduceBNe, reduceCtorEq, Nat.reduceLT, ty_29, ty_88, ty_68, ty_3, ty_4, ty_40, ty_44, ext_46]
        rw [List.take_of_length_le (by omega)] at hX
        refine retc1 (fun _ => ex_ret) (by simp only [loadV, ty_44]; rfl) rfl ⟨?_, rfl, rfl⟩
        simp only [Bool.and_self, if_true, ← hX]
        rfl
end Go.Proofs.Ytpjolollnhfciaa
