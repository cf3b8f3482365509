/- The bytes of turns: the program's answer, by the walk. -/
import Derived.Test.YtbpkaajokffpjaaD26
set_option linter.all false
set_option maxRecDepth 100000
namespace Go.Proofs.Ytbpkaajokffpjaa
open Go Go.Abs

def S25 (l : List TR) (x : Nat × List UInt8) : St := { fr := mkF 68 [(3, .ptr 0 0), (4, .int .i64 (pkT l x.1)), (16, .sl true (l.map trow)), (17, .int .i64 l.length), (18, .int .i64 x.1)], own := [], hp := [bldB true x.2], al := [], nb := 0 }
theorem okC_bound {c : CR} (h : okC c = true) : -1099511627776 ≤ c.1 ∧ c.1 ≤ 1099511627776 := by
  unfold okC at h
  split at h
  · simpa using h
  · simp at h; omega
theorem numS_pos {z : Int} (h : 0 ≤ z) : 0 < (numS z).length := by
  unfold numS
  rw [if_neg (by omega), numB]
  split <;> simp
set_option maxHeartbeats 16000000 in
theorem call_24 (l : List TR) (hlen : l.length ≤ 100000) : (Lim cfg).call 24 [.sl true (l.map trow)] [] = some (.str (textT l), false, []) := by
  have c1 := call_28 l (by omega)
  unfold textT
  refine call_eq fn_24 rfl ?_
  rw [k_start]
  simp only [Try.f24, List.length_cons, List.length_nil, Nat.zero_add, Nat.reduceSub, Nat.reduceAdd, List.replicate, List.cons_append, List.nil_append]
  simp only [go_sem, Nat.reduceAdd, Nat.reduceSub, Nat.reduceMul, Nat.reduceLT, Nat.reduceLeDiff, Nat.reduceEqDiff, Nat.reduceBEq, Nat.reduceBNe, reduceCtorEq, Int.reduceBNe, Int.reduceBEq, ty_174, ty_177, ty_175, ty_9, ty_5, ty_3, ty_4, ty_22, ty_152, ty_150, c1]
  cases hc : chkT l with
  | false =>
    simp only [go_sem, Nat.reduceAdd, Nat.reduceSub, Nat.reduceMul, Nat.reduceLT, Nat.reduceLeDiff, Nat.reduceEqDiff, Nat.reduceBEq, Nat.reduceBNe, reduceCtorEq, Int.reduceBNe, Int.reduceBEq, hc]
    exact ret1n (fun _ => ex_ret) rfl rfl rfl ⟨rfl, rfl, rfl⟩
  | true =>
    have c57l := call_100 l.length (by omega)
    have ql := numS_len (z := l.length) (by omega)
    simp only [go_sem, Nat.reduceAdd, Nat.reduceSub, Nat.reduceMul, Nat.reduceLT, Nat.reduceLeDiff, Nat.reduceEqDiff, Nat.reduceBEq, Nat.reduceBNe, reduceCtorEq, Int.reduceBNe, Int.reduceBEq, hc, ty_174, ty_177, ty_175, ty_9, ty_5, ty_3, ty_4, ty_22, ty_152, ty_150, blt_zero, c57l]
    rw [callHeap_eq (R := [0]) (v' := .tup [.int .i64 (numS l.length).length, .any]) (own' := false) (hp3 := [bldB true (numS l.length)]) (by kernel_rfl) (by kernel_rfl) (by kernel_rfl) (by kernel_rfl) (call_99 false [] (numS l.length) (by simp only [List.length_nil]; omega)) (by kernel_rfl) rfl rfl]
    simp only [bldB, if_true]
    simp only [go_sem, Nat.reduceAdd, Nat.reduceSub, Nat.reduceMul, Nat.reduceLT, Nat.reduceLeDiff, Nat.reduceEqDiff, Nat.reduceBEq, Nat.reduceBNe, reduceCtorEq, Int.reduceBNe, Int.reduceBEq, ty_174, ty_177, ty_175, ty_9, ty_5, ty_3, ty_4, ty_22, ty_152, ty_150]
    refine k_loop (S25 l) (fun x => x.1 ≤ l.length ∧ numS l.length ++ textFrom (-1) l = x.2 ++ textFrom (pkT l x.1) (l.drop x.1) ∧ x.2.length ≤ 9 + 36 * x.1 ∧ -1 ≤ pkT l x.1 ∧ chkTFrom (pkT l x.1) (l.drop x.1) = true) (fun x => l.length - x.1) (0, numS l.length) (K := cfg.kill 24 7) rfl
      ⟨Nat.zero_le _, rfl, by show (numS l.length).length ≤ 9 + 36 * 0; omega, Int.le_refl _, hc⟩ (by kernel_rfl) ?_
    intro ⟨i, s⟩ ⟨hi, hs, hsl, hpk, hch⟩ k' Q' hnorm hexit hret
    simp only at hi hs hsl hpk hch
    simp only [S25, mkF, List.foldl, List.replicate, List.set, List.cons_append, List.nil_append]
    simp only [bldB, if_true]
    by_cases hlt : i < l.length
    · have h1 : (i : Int) < (l.length : Int) := by omega
      have h2 : ¬ ((i : Int) < 0) := by omega
      rw [List.drop_eq_getElem_cons hlt, chkTFrom_cons] at hch
      rcases ht : l[i] with ⟨k, ⟨wv, ws⟩, iv, ii⟩
      rw [ht] at hch
      obtain ⟨⟨g1, g2, g3, g4, g5⟩, hch2⟩ := hch
      simp only at g1 g2 g3 g4 g5
      have b1 := okC_bound g3
      have b2 := okC_bound g4
      simp only at b1 b2
      have ha : IntKind.i64.wrap (k - pkT l i) = k - pkT l i := wrap_i64 (by omega) (by omega)
      have hb : IntKind.i64.wrap (k - pkT l i - 1) = k - pkT l i - 1 := wrap_i64 (by omega) (by omega)
      have hw : IntKind.i64.wrap (iv - wv) = iv - wv := wrap_i64 (by omega) (by omega)
      have hw2 : IntKind.i64.wrap (0 + 2) = 2 := rfl
      have hw3 : IntKind.i64.wrap (1 + 2) = 3 := rfl
      have c57k := call_100 (k - pkT l i - 1) (by omega)
      cases ws with
      | false =>
        cases ii with
        | false =>
          simp only [okC, Bool.false_eq_true, if_false, decide_eq_true_eq] at g3 g4
          subst g3; subst g4
          exact absurd rfl g5
        | true =>
          have hx : (l.map trow)[i]? = some [.int .i64 k, .int .i64 wv, .bool false, .int .i64 iv, .bool true] := by simp [hlt, trow, ht]
          have c57 := call_100 2 (by omega)
          have q0 : (numS (k - pkT l i - 1)).length ≤ 9 := numS_len (by omega)
          have q1 : (numS 2).length ≤ 9 := numS_len (by omega)
          have q2 := wholeS_len wv
          have q3 := wholeS_len (iv)
          simp only [go_sem, Nat.reduceAdd, Nat.reduceSub, Nat.reduceMul, Nat.reduceLT, Nat.reduceLeDiff, Nat.reduceEqDiff, Nat.reduceBEq, Nat.reduceBNe, reduceCtorEq, Int.reduceBNe, Int.reduceBEq, ty_174, ty_177, ty_175, ty_9, ty_5, ty_3, ty_4, ty_22, ty_152, ty_150, draw_24_10, draw_24_12, blt_zero, c57, call_101, h1, h2, hx, ha, hb, hw, hw2, hw3, Int.toNat_natCast, c57k]
          rw [callHeap_eq (R := [0]) (v' := .tup [.int .i64 (numS (k - pkT l i - 1)).length, .any]) (own' := false) (hp3 := [bldB true (s ++ numS (k - pkT l i - 1)), .cells 152 [] [.int .i64 k, .int .i64 wv, .bool false, .int .i64 iv, .bool true]]) (by kernel_rfl) (by kernel_rfl) (by kernel_rfl) (by kernel_rfl) (call_99 true (s) (numS (k - pkT l i - 1)) (by (try simp only [List.length_append]); omega)) (by kernel_rfl) rfl rfl]
          simp only [bldB, if_true]
          simp only [go_sem, Nat.reduceAdd, Nat.reduceSub, Nat.reduceMul, Nat.reduceLT, Nat.reduceLeDiff, Nat.reduceEqDiff, Nat.reduceBEq, Nat.reduceBNe, reduceCtorEq, Int.reduceBNe, Int.reduceBEq, ty_174, ty_177, ty_175, ty_9, ty_5, ty_3, ty_4, ty_22, ty_152, ty_150, draw_24_10, draw_24_12, blt_zero, c57, call_101, h1, h2, hx, ha, hb, hw, hw2, hw3, Int.toNat_natCast]
          rw [callHeap_eq (R := [0]) (v' := .tup [.int .i64 (numS 2).length, .any]) (own' := false) (hp3 := [bldB true ((s ++ numS (k - pkT l i - 1)) ++ numS 2), .cells 152 [] [.int .i64 k, .int .i64 wv, .bool false, .int .i64 iv, .bool true]]) (by kernel_rfl) (by kernel_rfl) (by kernel_rfl) (by kernel_rfl) (call_99 true ((s ++ numS (k - pkT l i - 1))) (numS 2) (by (try simp only [List.length_append]); omega)) (by kernel_rfl) rfl rfl]
          simp only [bldB, if_true]
          simp only [go_sem, Nat.reduceAdd, Nat.reduceSub, Nat.reduceMul, Nat.reduceLT, Nat.reduceLeDiff, Nat.reduceEqDiff, Nat.reduceBEq, Nat.reduceBNe, reduceCtorEq, Int.reduceBNe, Int.reduceBEq, ty_174, ty_177, ty_175, ty_9, ty_5, ty_3, ty_4, ty_22, ty_152, ty_150, draw_24_10, draw_24_12, blt_zero, c57, call_101, h1, h2, hx, ha, hb, hw, hw2, hw3, Int.toNat_natCast]
          rw [callHeap_eq (R := [0]) (v' := .tup [.int .i64 (wholeS (iv)).length, .any]) (own' := false) (hp3 := [bldB true (((s ++ numS (k - pkT l i - 1)) ++ numS 2) ++ wholeS (iv)), .cells 152 [] [.int .i64 k, .int .i64 wv, .bool false, .int .i64 iv, .bool true]]) (by kernel_rfl) (by kernel_rfl) (by kernel_rfl) (by kernel_rfl) (call_99 true (((s ++ numS (k - pkT l i - 1)) ++ numS 2)) (wholeS (iv)) (by (try simp only [List.length_append]); omega)) (by kernel_rfl) rfl rfl]
          simp only [bldB, if_true]
          simp only [go_sem, Nat.reduceAdd, Nat.reduceSub, Nat.reduceMul, Nat.reduceLT, Nat.reduceLeDiff, Nat.reduceEqDiff, Nat.reduceBEq, Nat.reduceBNe, reduceCtorEq, Int.reduceBNe, Int.reduceBEq, ty_174, ty_177, ty_175, ty_9, ty_5, ty_3, ty_4, ty_22, ty_152, ty_150, draw_24_10, draw_24_12, blt_zero, c57, call_101, h1, h2, hx, ha, hb, hw, hw2, hw3, Int.toNat_natCast]
          rw [wrap_i64 (by omega) (by omega)]
          refine hnorm (i + 1, (((s ++ numS (k - pkT l i - 1)) ++ numS 2) ++ wholeS (iv))) _ ⟨by show i + 1 ≤ _; omega, ?_, by show List.length ((((s ++ numS (k - pkT l i - 1)) ++ numS 2) ++ wholeS (iv))) ≤ _; simp only [List.length_append]; omega, ?_, ?_⟩ (by show l.length - (i + 1) < l.length - i; omega) (by rw [S25, pkT_succ hlt, ht]; kernel_rfl)
          · rw [hs, List.drop_eq_getElem_cons hlt, textFrom, pkT_succ hlt, ht]
            simp only [turnS, kindT, byT, if_true, if_false, Bool.false_eq_true, List.append_assoc, List.append_nil, List.nil_append, Int.reduceAdd]
          · show -1 ≤ pkT l (i + 1)
            rw [pkT_succ hlt, ht]; show -1 ≤ k; omega
          · show chkTFrom (pkT l (i + 1)) (l.drop (i + 1)) = true
            rw [pkT_succ hlt, ht]; exact hch2
      | true =>
        cases ii with
        | false =>
          have hx : (l.map trow)[i]? = some [.int .i64 k, .int .i64 wv, .bool true, .int .i64 iv, .bool false] := by simp [hlt, trow, ht]
          have c57 := call_100 1 (by omega)
          have q0 : (numS (k - pkT l i - 1)).length ≤ 9 := numS_len (by omega)
          have q1 : (numS 1).length ≤ 9 := numS_len (by omega)
          have q2 := wholeS_len wv
          have q3 := wholeS_len (iv - wv)
          simp only [go_sem, Nat.reduceAdd, Nat.reduceSub, Nat.reduceMul, Nat.reduceLT, Nat.reduceLeDiff, Nat.reduceEqDiff, Nat.reduceBEq, Nat.reduceBNe, reduceCtorEq, Int.reduceBNe, Int.reduceBEq, ty_174, ty_177, ty_175, ty_9, ty_5, ty_3, ty_4, ty_22, ty_152, ty_150, draw_24_10, draw_24_12, blt_zero, c57, call_101, h1, h2, hx, ha, hb, hw, hw2, hw3, Int.toNat_natCast, c57k]
          rw [callHeap_eq (R := [0]) (v' := .tup [.int .i64 (numS (k - pkT l i - 1)).length, .any]) (own' := false) (hp3 := [bldB true (s ++ numS (k - pkT l i - 1)), .cells 152 [] [.int .i64 k, .int .i64 wv, .bool true, .int .i64 iv, .bool false]]) (by kernel_rfl) (by kernel_rfl) (by kernel_rfl) (by kernel_rfl) (call_99 true (s) (numS (k - pkT l i - 1)) (by (try simp only [List.length_append]); omega)) (by kernel_rfl) rfl rfl]
          simp only [bldB, if_true]
          simp only [go_sem, Nat.reduceAdd, Nat.reduceSub, Nat.reduceMul, Nat.reduceLT, Nat.reduceLeDiff, Nat.reduceEqDiff, Nat.reduceBEq, Nat.reduceBNe, reduceCtorEq, Int.reduceBNe, Int.reduceBEq, ty_174, ty_177, ty_175, ty_9, ty_5, ty_3, ty_4, ty_22, ty_152, ty_150, draw_24_10, draw_24_12, blt_zero, c57, call_101, h1, h2, hx, ha, hb, hw, hw2, hw3, Int.toNat_natCast]
          rw [callHeap_eq (R := [0]) (v' := .tup [.int .i64 (numS 1).length, .any]) (own' := false) (hp3 := [bldB true ((s ++ numS (k - pkT l i - 1)) ++ numS 1), .cells 152 [] [.int .i64 k, .int .i64 wv, .bool true, .int .i64 iv, .bool false]]) (by kernel_rfl) (by kernel_rfl) (by kernel_rfl) (by kernel_rfl) (call_99 true ((s ++ numS (k - pkT l i - 1))) (numS 1) (by (try simp only [List.length_append]); omega)) (by kernel_rfl) rfl rfl]
          simp only [bldB, if_true]
          simp only [go_sem, Nat.reduceAdd, Nat.reduceSub, Nat.reduceMul, Nat.reduceLT, Nat.reduceLeDiff, Nat.reduceEqDiff, Nat.reduceBEq, Nat.reduceBNe, reduceCtorEq, Int.reduceBNe, Int.reduceBEq, ty_174, ty_177, ty_175, ty_9, ty_5, ty_3, ty_4, ty_22, ty_152, ty_150, draw_24_10, draw_24_12, blt_zero, c57, call_101, h1, h2, hx, ha, hb, hw, hw2, hw3, Int.toNat_natCast]
          rw [callHeap_eq (R := [0]) (v' := .tup [.int .i64 (wholeS wv).length, .any]) (own' := false) (hp3 := [bldB true (((s ++ numS (k - pkT l i - 1)) ++ numS 1) ++ wholeS wv), .cells 152 [] [.int .i64 k, .int .i64 wv, .bool true, .int .i64 iv, .bool false]]) (by kernel_rfl) (by kernel_rfl) (by kernel_rfl) (by kernel_rfl) (call_99 true (((s ++ numS (k - pkT l i - 1)) ++ numS 1)) (wholeS wv) (by (try simp only [List.length_append]); omega)) (by kernel_rfl) rfl rfl]
          simp only [bldB, if_true]
          simp only [go_sem, Nat.reduceAdd, Nat.reduceSub, Nat.reduceMul, Nat.reduceLT, Nat.reduceLeDiff, Nat.reduceEqDiff, Nat.reduceBEq, Nat.reduceBNe, reduceCtorEq, Int.reduceBNe, Int.reduceBEq, ty_174, ty_177, ty_175, ty_9, ty_5, ty_3, ty_4, ty_22, ty_152, ty_150, draw_24_10, draw_24_12, blt_zero, c57, call_101, h1, h2, hx, ha, hb, hw, hw2, hw3, Int.toNat_natCast]
          rw [wrap_i64 (by omega) (by omega)]
          refine hnorm (i + 1, (((s ++ numS (k - pkT l i - 1)) ++ numS 1) ++ wholeS wv)) _ ⟨by show i + 1 ≤ _; omega, ?_, by show List.length ((((s ++ numS (k - pkT l i - 1)) ++ numS 1) ++ wholeS wv)) ≤ _; simp only [List.length_append]; omega, ?_, ?_⟩ (by show l.length - (i + 1) < l.length - i; omega) (by rw [S25, pkT_succ hlt, ht]; kernel_rfl)
          · rw [hs, List.drop_eq_getElem_cons hlt, textFrom, pkT_succ hlt, ht]
            simp only [turnS, kindT, byT, if_true, if_false, Bool.false_eq_true, List.append_assoc, List.append_nil, List.nil_append, Int.reduceAdd]
          · show -1 ≤ pkT l (i + 1)
            rw [pkT_succ hlt, ht]; show -1 ≤ k; omega
          · show chkTFrom (pkT l (i + 1)) (l.drop (i + 1)) = true
            rw [pkT_succ hlt, ht]; exact hch2
        | true =>
          have hx : (l.map trow)[i]? = some [.int .i64 k, .int .i64 wv, .bool true, .int .i64 iv, .bool true] := by simp [hlt, trow, ht]
          have c57 := call_100 3 (by omega)
          have q0 : (numS (k - pkT l i - 1)).length ≤ 9 := numS_len (by omega)
          have q1 : (numS 3).length ≤ 9 := numS_len (by omega)
          have q2 := wholeS_len wv
          have q3 := wholeS_len (iv - wv)
          simp only [go_sem, Nat.reduceAdd, Nat.reduceSub, Nat.reduceMul, Nat.reduceLT, Nat.reduceLeDiff, Nat.reduceEqDiff, Nat.reduceBEq, Nat.reduceBNe, reduceCtorEq, Int.reduceBNe, Int.reduceBEq, ty_174, ty_177, ty_175, ty_9, ty_5, ty_3, ty_4, ty_22, ty_152, ty_150, draw_24_10, draw_24_12, blt_zero, c57, call_101, h1, h2, hx, ha, hb, hw, hw2, hw3, Int.toNat_natCast, c57k]
          rw [callHeap_eq (R := [0]) (v' := .tup [.int .i64 (numS (k - pkT l i - 1)).length, .any]) (own' := false) (hp3 := [bldB true (s ++ numS (k - pkT l i - 1)), .cells 152 [] [.int .i64 k, .int .i64 wv, .bool true, .int .i64 iv, .bool true]]) (by kernel_rfl) (by kernel_rfl) (by kernel_rfl) (by kernel_rfl) (call_99 true (s) (numS (k - pkT l i - 1)) (by (try simp only [List.length_append]); omega)) (by kernel_rfl) rfl rfl]
          simp only [bldB, if_true]
          simp only [go_sem, Nat.reduceAdd, Nat.reduceSub, Nat.reduceMul, Nat.reduceLT, Nat.reduceLeDiff, Nat.reduceEqDiff, Nat.reduceBEq, Nat.reduceBNe, reduceCtorEq, Int.reduceBNe, Int.reduceBEq, ty_174, ty_177, ty_175, ty_9, ty_5, ty_3, ty_4, ty_22, ty_152, ty_150, draw_24_10, draw_24_12, blt_zero, c57, call_101, h1, h2, hx, ha, hb, hw, hw2, hw3, Int.toNat_natCast]
          rw [callHeap_eq (R := [0]) (v' := .tup [.int .i64 (numS 3).length, .any]) (own' := false) (hp3 := [bldB true ((s ++ numS (k - pkT l i - 1)) ++ numS 3), .cells 152 [] [.int .i64 k, .int .i64 wv, .bool true, .int .i64 iv, .bool true]]) (by kernel_rfl) (by kernel_rfl) (by kernel_rfl) (by kernel_rfl) (call_99 true ((s ++ numS (k - pkT l i - 1))) (numS 3) (by (try simp only [List.length_append]); omega)) (by kernel_rfl) rfl rfl]
          simp only [bldB, if_true]
          simp only [go_sem, Nat.reduceAdd, Nat.reduceSub, Nat.reduceMul, Nat.reduceLT, Nat.reduceLeDiff, Nat.reduceEqDiff, Nat.reduceBEq, Nat.reduceBNe, reduceCtorEq, Int.reduceBNe, Int.reduceBEq, ty_174, ty_177, ty_175, ty_9, ty_5, ty_3, ty_4, ty_22, ty_152, ty_150, draw_24_10, draw_24_12, blt_zero, c57, call_101, h1, h2, hx, ha, hb, hw, hw2, hw3, Int.toNat_natCast]
          rw [callHeap_eq (R := [0]) (v' := .tup [.int .i64 (wholeS wv).length, .any]) (own' := false) (hp3 := [bldB true (((s ++ numS (k - pkT l i - 1)) ++ numS 3) ++ wholeS wv), .cells 152 [] [.int .i64 k, .int .i64 wv, .bool true, .int .i64 iv, .bool true]]) (by kernel_rfl) (by kernel_rfl) (by kernel_rfl) (by kernel_rfl) (call_99 true (((s ++ numS (k - pkT l i - 1)) ++ numS 3)) (wholeS wv) (by (try simp only [List.length_append]); omega)) (by kernel_rfl) rfl rfl]
          simp only [bldB, if_true]
          simp only [go_sem, Nat.reduceAdd, Nat.reduceSub, Nat.reduceMul, Nat.reduceLT, Nat.reduceLeDiff, Nat.reduceEqDiff, Nat.reduceBEq, Nat.reduceBNe, reduceCtorEq, Int.reduceBNe, Int.reduceBEq, ty_174, ty_177, ty_175, ty_9, ty_5, ty_3, ty_4, ty_22, ty_152, ty_150, draw_24_10, draw_24_12, blt_zero, c57, call_101, h1, h2, hx, ha, hb, hw, hw2, hw3, Int.toNat_natCast]
          rw [callHeap_eq (R := [0]) (v' := .tup [.int .i64 (wholeS (iv - wv)).length, .any]) (own' := false) (hp3 := [bldB true ((((s ++ numS (k - pkT l i - 1)) ++ numS 3) ++ wholeS wv) ++ wholeS (iv - wv)), .cells 152 [] [.int .i64 k, .int .i64 wv, .bool true, .int .i64 iv, .bool true]]) (by kernel_rfl) (by kernel_rfl) (by kernel_rfl) (by kernel_rfl) (call_99 true ((((s ++ numS (k - pkT l i - 1)) ++ numS 3) ++ wholeS wv)) (wholeS (iv - wv)) (by (try simp only [List.length_append]); omega)) (by kernel_rfl) rfl rfl]
          simp only [bldB, if_true]
          simp only [go_sem, Nat.reduceAdd, Nat.reduceSub, Nat.reduceMul, Nat.reduceLT, Nat.reduceLeDiff, Nat.reduceEqDiff, Nat.reduceBEq, Nat.reduceBNe, reduceCtorEq, Int.reduceBNe, Int.reduceBEq, ty_174, ty_177, ty_175, ty_9, ty_5, ty_3, ty_4, ty_22, ty_152, ty_150, draw_24_10, draw_24_12, blt_zero, c57, call_101, h1, h2, hx, ha, hb, hw, hw2, hw3, Int.toNat_natCast]
          rw [wrap_i64 (by omega) (by omega)]
          refine hnorm (i + 1, ((((s ++ numS (k - pkT l i - 1)) ++ numS 3) ++ wholeS wv) ++ wholeS (iv - wv))) _ ⟨by show i + 1 ≤ _; omega, ?_, by show List.length (((((s ++ numS (k - pkT l i - 1)) ++ numS 3) ++ wholeS wv) ++ wholeS (iv - wv))) ≤ _; simp only [List.length_append]; omega, ?_, ?_⟩ (by show l.length - (i + 1) < l.length - i; omega) (by rw [S25, pkT_succ hlt, ht]; kernel_rfl)
          · rw [hs, List.drop_eq_getElem_cons hlt, textFrom, pkT_succ hlt, ht]
            simp only [turnS, kindT, byT, if_true, if_false, Bool.false_eq_true, List.append_assoc, List.append_nil, List.nil_append, Int.reduceAdd]
          · show -1 ≤ pkT l (i + 1)
            rw [pkT_succ hlt, ht]; show -1 ≤ k; omega
          · show chkTFrom (pkT l (i + 1)) (l.drop (i + 1)) = true
            rw [pkT_succ hlt, ht]; exact hch2
    · have h1 : ¬ (i : Int) < (l.length : Int) := by omega
      simp only [go_sem, Nat.reduceAdd, Nat.reduceSub, Nat.reduceMul, Nat.reduceLT, Nat.reduceLeDiff, Nat.reduceEqDiff, Nat.reduceBEq, Nat.reduceBNe, reduceCtorEq, Int.reduceBNe, Int.reduceBEq, ty_174, ty_177, ty_175, ty_9, ty_5, ty_3, ty_4, ty_22, ty_152, ty_150, h1]
      refine hexit 0 _ ?_
      simp only [go_sem, Nat.reduceAdd, Nat.reduceSub, Nat.reduceMul, Nat.reduceLT, Nat.reduceLeDiff, Nat.reduceEqDiff, Nat.reduceBEq, Nat.reduceBNe, reduceCtorEq, Int.reduceBNe, Int.reduceBEq, ty_174, ty_177, ty_175, ty_9, ty_5, ty_3, ty_4, ty_22, ty_152, ty_150, blt_zero]
      rw [List.drop_of_length_le (by omega), textFrom, List.append_nil] at hs
      rw [hs]
      obtain ⟨b, s', rfl⟩ : ∃ b s', s = b :: s' := by
        cases s with
        | nil =>
          have := congrArg List.length hs
          have hp := numS_pos (z := l.length) (by omega)
          simp only [List.length_append, List.length_nil] at this
          omega
        | cons b s' => exact ⟨b, s', rfl⟩
      rw [callHeap_eq (R := [0]) (v' := .str (b :: s')) (own' := false) (hp3 := [bldB true (b :: s')]) (by kernel_rfl) (by kernel_rfl) (by kernel_rfl) (by kernel_rfl) (call_102 b s' (by simp only [List.length_cons] at hsl; omega)) (by kernel_rfl) rfl rfl]
      simp only [go_sem, Nat.reduceAdd, Nat.reduceSub, Nat.reduceMul, Nat.reduceLT, Nat.reduceLeDiff, Nat.reduceEqDiff, Nat.reduceBEq, Nat.reduceBNe, reduceCtorEq, Int.reduceBNe, Int.reduceBEq, ty_174, ty_177, ty_175, ty_9, ty_5, ty_3, ty_4, ty_22, ty_152, ty_150]
      exact ret1n (fun _ => ex_ret) rfl rfl rfl ⟨rfl, rfl, rfl⟩
end Go.Proofs.Ytbpkaajokffpjaa
