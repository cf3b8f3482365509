/- The law DeltaThen: the program's answers and the document's agree. -/
import Derived.Test.YtpjolollnhfciaaD18
set_option linter.all false
set_option maxRecDepth 100000
namespace Go.Proofs.Ytpjolollnhfciaa
open Go Go.Abs

theorem tm_len : ∀ (A B O : List TR), (tm A B O).2.2.2.length ≤ A.length + B.length + O.length
  | [], [], O => by simp [tm]
  | p :: A, [], O => by
    have := tm_len A [] (tadd O p); have := tadd_len O p
    simp only [tm, List.length_cons, List.length_nil] at *; omega
  | [], q :: B, O => by
    have := tm_len [] B (tadd O q); have := tadd_len O q
    simp only [tm, List.length_cons, List.length_nil] at *; omega
  | p :: A, q :: B, O => by
    have h1 := tm_len A (q :: B) (tadd O p); have := tadd_len O p
    have h2 := tm_len (p :: A) B (tadd O q); have := tadd_len O q
    have h3 := tm_len A B (tadd O (p.1, p.2.1, q.2.2)); have := tadd_len O (p.1, p.2.1, q.2.2)
    rw [tm]
    simp only [List.length_cons] at *
    split
    · omega
    · split
      · omega
      · split
        · omega
        · simp only; omega
termination_by A B => A.length + B.length
theorem thenR_len (l m : List TR) : (thenR l m).1.length ≤ l.length + m.length := by
  have := tm_len l m []
  unfold thenR
  split
  · split
    · simpa using this
    · simp
  · simp
theorem oref_len (l : List TR) : ∀ (m : List TR) (X : List TR × List Int), (oref l m X).1.length ≤ X.1.length + m.length ∧ (oref l m X).2.length ≤ X.2.length + m.length
  | [], X => by simp [oref]
  | q :: m, X => by
    have h := ostep_len l q X
    have := oref_len l m (ostep l q X)
    simp only [oref, List.foldl_cons, List.length_cons] at *
    omega
theorem ontoR_len (l m : List TR) : (ontoR l m).1.1.length ≤ m.length ∧ (ontoR l m).1.2.length ≤ m.length := by
  have := oref_len l m ([], [])
  unfold ontoR
  split
  · simpa using this
  · simp

set_option maxHeartbeats 8000000 in
theorem law_DeltaThen (l m : List TR) : (Lim cfg).call 5 [.sl true (l.map trow), .sl true (m.map trow)] [] = some (.bool true, false, []) := by
  have c11 := call_11 [] [] l m
  simp only [List.map_nil, List.length_nil] at c11
  by_cases h : l.length ≤ 100 ∧ m.length ≤ 100
  · rw [decide_eq_true ⟨Nat.zero_le _, Nat.zero_le _, h.1, h.2⟩] at c11
    have c18 := call_18 l m (by omega) (by omega)
    have c19 := call_19 l m (by omega) (by omega)
    have c20 := call_20 l m (by omega) (by omega)
    have c21 := call_21 l m (by omega) (by omega)
    have c17l := call_17 l (by omega)
    have c17m := call_17 m (by omega)
    have h1 := thenR_len l m
    have h2 := ontoR_len l m
    have c17t := call_17 (thenR l m).1 (by omega)
    have c17o := call_17 (ontoR l m).1.1 (by omega)
    have c16t := call_16 (thenR l m).1 (thenR l m).1 (by omega) (by omega)
    have c16o := call_16 (ontoR l m).1.1 (ontoR l m).1.1 (by omega) (by omega)
    have c22 := call_22 (ontoR l m).1.2 (ontoR l m).1.2 (by omega) (by omega)
    rw [decide_eq_true rfl] at c16t c16o c22
    refine call_eq fn_5 rfl ?_
    rw [k_start]
    simp only [Try.f5, List.length_cons, List.length_nil, Nat.zero_add, Nat.reduceSub, Nat.reduceAdd, List.replicate, List.cons_append, List.nil_append]
    simp only [go_sem, Nat.reduceAdd, Nat.reduceSub, Nat.reduceMul, Nat.reduceLT, Nat.reduceLeDiff, Nat.reduceEqDiff, Nat.reduceBEq, Nat.reduceBNe, reduceCtorEq, Nat.reduceLT, ty_22, ty_25, ty_3, ty_4, ty_29, ty_40, ty_2, ty_44, ty_68, ty_88, draw_5_7, ext_11, ext_12, ext_16, ext_17, ext_18, ext_19, ext_20, ext_21, ext_22, c11, call_12, c18, c19, c20, c21, c17l, c17m, c17t, c17o, c16t, c16o, c22]
    exact ret1n (fun _ => ex_ret) rfl rfl rfl ⟨rfl, rfl, rfl⟩
  · rw [decide_eq_false fun h' => h ⟨h'.2.2.1, h'.2.2.2⟩] at c11
    refine call_eq fn_5 rfl ?_
    rw [k_start]
    simp only [Try.f5, List.length_cons, List.length_nil, Nat.zero_add, Nat.reduceSub, Nat.reduceAdd, List.replicate, List.cons_append, List.nil_append]
    simp only [go_sem, Nat.reduceAdd, Nat.reduceSub, Nat.reduceMul, Nat.reduceLT, Nat.reduceLeDiff, Nat.reduceEqDiff, Nat.reduceBEq, Nat.reduceBNe, reduceCtorEq, Nat.reduceLT, ty_22, ty_25, ty_3, ty_4, ty_29, ty_40, ext_11, ext_12, c11, call_12]
    exact ret1n (fun _ => ex_ret) rfl rfl rfl ⟨rfl, rfl, rfl⟩
end Go.Proofs.Ytpjolollnhfciaa
