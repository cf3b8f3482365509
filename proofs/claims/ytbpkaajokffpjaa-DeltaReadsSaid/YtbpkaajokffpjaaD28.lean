/- The bytes of turns: the document's answer. -/
import Derived.Test.YtbpkaajokffpjaaD27
set_option linter.all false
set_option maxRecDepth 100000
namespace Go.Proofs.Ytbpkaajokffpjaa
open Go Go.Abs

theorem hrI {hp : List Blk} {x : Int} : reach hp [.int .i64 x] = [] := reach_pure rfl
theorem numS_small1 : numS 1 = [1] := by rw [numS, if_neg (by decide), numB, if_pos (by decide)]; rfl
theorem numS_small2 : numS 2 = [2] := by rw [numS, if_neg (by decide), numB, if_pos (by decide)]; rfl
theorem numS_small3 : numS 3 = [3] := by rw [numS, if_neg (by decide), numB, if_pos (by decide)]; rfl
def S26 (l : List TR) (x : Nat × List UInt8) : St := { fr := mkF 84 [(0, .sl true (l.map trow)), (3, .str x.2), (4, .int .i64 x.1)], own := [], hp := [], al := [], nb := 0 }
set_option maxHeartbeats 16000000 in
theorem call_25 (l : List TR) (hlen : l.length ≤ 100000) : (Lim cfg).call 25 [.sl true (l.map trow)] [] = some (.str (textT l), false, []) := by
  have c1 := call_77 l (by omega)
  unfold textT
  refine call_eq fn_25 rfl ?_
  rw [k_start]
  simp only [Try.f25, List.length_cons, List.length_nil, Nat.zero_add, Nat.reduceSub, Nat.reduceAdd, List.replicate, List.cons_append, List.nil_append]
  simp only [go_sem, Nat.reduceAdd, Nat.reduceSub, Nat.reduceMul, Nat.reduceLT, Nat.reduceLeDiff, Nat.reduceEqDiff, Nat.reduceBEq, Nat.reduceBNe, reduceCtorEq, Int.reduceBNe, Int.reduceBEq, ty_28, ty_172, ty_148, ty_9, ty_3, ty_4, c1]
  cases hc : chkT l with
  | false =>
    simp only [go_sem, Nat.reduceAdd, Nat.reduceSub, Nat.reduceMul, Nat.reduceLT, Nat.reduceLeDiff, Nat.reduceEqDiff, Nat.reduceBEq, Nat.reduceBNe, reduceCtorEq, Int.reduceBNe, Int.reduceBEq, hc]
    exact ret1n (fun _ => ex_ret) rfl rfl rfl ⟨rfl, rfl, rfl⟩
  | true =>
    have c60l := call_103 l.length (by omega)
    have ql := numS_len (z := l.length) (by omega)
    simp only [go_sem, Nat.reduceAdd, Nat.reduceSub, Nat.reduceMul, Nat.reduceLT, Nat.reduceLeDiff, Nat.reduceEqDiff, Nat.reduceBEq, Nat.reduceBNe, reduceCtorEq, Int.reduceBNe, Int.reduceBEq, hc, ty_28, ty_172, ty_148, ty_9, ty_3, ty_4, c60l]
    refine k_loop (S26 l) (fun x => x.1 ≤ l.length ∧ numS l.length ++ textFrom (-1) l = x.2 ++ textFrom (pkT l x.1) (l.drop x.1) ∧ x.2.length ≤ 9 + 36 * x.1 ∧ -1 ≤ pkT l x.1 ∧ chkTFrom (pkT l x.1) (l.drop x.1) = true) (fun x => l.length - x.1) (0, numS l.length) (K := cfg.kill 25 5) rfl
      ⟨Nat.zero_le _, rfl, by show (numS l.length).length ≤ 9 + 36 * 0; omega, Int.le_refl _, hc⟩ (by kernel_rfl) ?_
    intro ⟨i, s⟩ ⟨hi, hs, hsl, hpk, hch⟩ k' Q' hnorm hexit hret
    simp only at hi hs hsl hpk hch
    simp only [S26, mkF, List.foldl, List.replicate, List.set, List.cons_append, List.nil_append]
    by_cases hlt : i < l.length
    · have h1 : (i : Int) < (l.length : Int) := by omega
      have h2 : ¬ ((i : Int) < 0) := by omega
      rw [List.drop_eq_getElem_cons hlt, chkTFrom_cons] at hch
      rcases ht : l[i] with ⟨k, ⟨wv, ws⟩, iv, ii⟩
      rw [ht] at hch
      obtain ⟨⟨g1, g2, g3, g4, g5⟩, hch2⟩ := hch
      simp only at g1 g2 g3 g4 g5
      have b1 := okC_bound g3
      have b2 := okC_bound g4
      simp only at b1 b2
      have ha : IntKind.i64.wrap (k - pkT l i) = k - pkT l i := wrap_i64 (by omega) (by omega)
      have hb : IntKind.i64.wrap (k - pkT l i - 1) = k - pkT l i - 1 := wrap_i64 (by omega) (by omega)
      have hw : IntKind.i64.wrap (iv - wv) = iv - wv := wrap_i64 (by omega) (by omega)
      by_cases hi0 : i = 0
      · have h0 : ((i : Int) == 0) = true := by simp [hi0]
        have hp : pkT l i = -1 := by simp [pkT, hi0]
        have c60k : (Lim cfg).call 103 [.int .i64 k] [] = some (.str (numS (k - pkT l i - 1)), false, []) := by
          rw [hp, show k - -1 - 1 = k by omega]; exact call_103 k (by omega)
        cases ws with
        | false =>
          cases ii with
          | false =>
            simp only [okC, Bool.false_eq_true, if_false, decide_eq_true_eq] at g3 g4
            subst g3; subst g4
            exact absurd rfl g5
          | true =>
            have hx : (l.map trow)[i]? = some [.int .i64 k, .int .i64 wv, .bool false, .int .i64 iv, .bool true] := by simp [hlt, trow, ht]
            have q0 : (numS (k - pkT l i - 1)).length ≤ 9 := numS_len (by omega)
            have q2 := wholeS_len wv
            have q3 := wholeS_len (iv)
            have st0 : strOp .add (s) (numS (k - pkT l i - 1)) = some (.str (s ++ numS (k - pkT l i - 1))) := if_pos (by (try simp only [List.length_append, List.length_cons, List.length_nil]); unfold strMax; omega)
            have st1 : strOp .add ((s ++ numS (k - pkT l i - 1))) ([2]) = some (.str ((s ++ numS (k - pkT l i - 1)) ++ [2])) := if_pos (by (try simp only [List.length_append, List.length_cons, List.length_nil]); unfold strMax; omega)
            have st2 : strOp .add (((s ++ numS (k - pkT l i - 1)) ++ [2])) (wholeS (iv)) = some (.str (((s ++ numS (k - pkT l i - 1)) ++ [2]) ++ wholeS (iv))) := if_pos (by (try simp only [List.length_append, List.length_cons, List.length_nil]); unfold strMax; omega)
            simp only [go_sem, Nat.reduceAdd, Nat.reduceSub, Nat.reduceMul, Nat.reduceLT, Nat.reduceLeDiff, Nat.reduceEqDiff, Nat.reduceBEq, Nat.reduceBNe, reduceCtorEq, Int.reduceBNe, Int.reduceBEq, ty_28, ty_172, ty_148, ty_9, ty_3, ty_4, draw_25_10, draw_25_12, hrI, c60k, call_104, h1, h2, hx, ha, hb, hw, Int.toNat_natCast, h0, st0, st1, st2]
            rw [wrap_i64 (by omega) (by omega)]
            refine hnorm (i + 1, (((s ++ numS (k - pkT l i - 1)) ++ [2]) ++ wholeS (iv))) _ ⟨by show i + 1 ≤ _; omega, ?_, by show List.length ((((s ++ numS (k - pkT l i - 1)) ++ [2]) ++ wholeS (iv))) ≤ _; simp only [List.length_append, List.length_cons, List.length_nil]; omega, ?_, ?_⟩ (by show l.length - (i + 1) < l.length - i; omega) (by rw [S26]; kernel_rfl)
            · rw [hs, List.drop_eq_getElem_cons hlt, textFrom, pkT_succ hlt, ht]
              simp only [turnS, kindT, byT, if_true, if_false, Bool.false_eq_true, List.append_assoc, List.append_nil, List.nil_append, Int.reduceAdd, numS_small2]
            · show -1 ≤ pkT l (i + 1)
              rw [pkT_succ hlt, ht]; show -1 ≤ k; omega
            · show chkTFrom (pkT l (i + 1)) (l.drop (i + 1)) = true
              rw [pkT_succ hlt, ht]; exact hch2
        | true =>
          cases ii with
          | false =>
            have hx : (l.map trow)[i]? = some [.int .i64 k, .int .i64 wv, .bool true, .int .i64 iv, .bool false] := by simp [hlt, trow, ht]
            have q0 : (numS (k - pkT l i - 1)).length ≤ 9 := numS_len (by omega)
            have q2 := wholeS_len wv
            have q3 := wholeS_len (iv - wv)
            have st0 : strOp .add (s) (numS (k - pkT l i - 1)) = some (.str (s ++ numS (k - pkT l i - 1))) := if_pos (by (try simp only [List.length_append, List.length_cons, List.length_nil]); unfold strMax; omega)
            have st1 : strOp .add ((s ++ numS (k - pkT l i - 1))) ([1]) = some (.str ((s ++ numS (k - pkT l i - 1)) ++ [1])) := if_pos (by (try simp only [List.length_append, List.length_cons, List.length_nil]); unfold strMax; omega)
            have st2 : strOp .add (((s ++ numS (k - pkT l i - 1)) ++ [1])) (wholeS wv) = some (.str (((s ++ numS (k - pkT l i - 1)) ++ [1]) ++ wholeS wv)) := if_pos (by (try simp only [List.length_append, List.length_cons, List.length_nil]); unfold strMax; omega)
            simp only [go_sem, Nat.reduceAdd, Nat.reduceSub, Nat.reduceMul, Nat.reduceLT, Nat.reduceLeDiff, Nat.reduceEqDiff, Nat.reduceBEq, Nat.reduceBNe, reduceCtorEq, Int.reduceBNe, Int.reduceBEq, ty_28, ty_172, ty_148, ty_9, ty_3, ty_4, draw_25_10, draw_25_12, hrI, c60k, call_104, h1, h2, hx, ha, hb, hw, Int.toNat_natCast, h0, st0, st1, st2]
            rw [wrap_i64 (by omega) (by omega)]
            refine hnorm (i + 1, (((s ++ numS (k - pkT l i - 1)) ++ [1]) ++ wholeS wv)) _ ⟨by show i + 1 ≤ _; omega, ?_, by show List.length ((((s ++ numS (k - pkT l i - 1)) ++ [1]) ++ wholeS wv)) ≤ _; simp only [List.length_append, List.length_cons, List.length_nil]; omega, ?_, ?_⟩ (by show l.length - (i + 1) < l.length - i; omega) (by rw [S26]; kernel_rfl)
            · rw [hs, List.drop_eq_getElem_cons hlt, textFrom, pkT_succ hlt, ht]
              simp only [turnS, kindT, byT, if_true, if_false, Bool.false_eq_true, List.append_assoc, List.append_nil, List.nil_append, Int.reduceAdd, numS_small1]
            · show -1 ≤ pkT l (i + 1)
              rw [pkT_succ hlt, ht]; show -1 ≤ k; omega
            · show chkTFrom (pkT l (i + 1)) (l.drop (i + 1)) = true
              rw [pkT_succ hlt, ht]; exact hch2
          | true =>
            have hx : (l.map trow)[i]? = some [.int .i64 k, .int .i64 wv, .bool true, .int .i64 iv, .bool true] := by simp [hlt, trow, ht]
            have q0 : (numS (k - pkT l i - 1)).length ≤ 9 := numS_len (by omega)
            have q2 := wholeS_len wv
            have q3 := wholeS_len (iv - wv)
            have st0 : strOp .add (s) (numS (k - pkT l i - 1)) = some (.str (s ++ numS (k - pkT l i - 1))) := if_pos (by (try simp only [List.length_append, List.length_cons, List.length_nil]); unfold strMax; omega)
            have st1 : strOp .add ((s ++ numS (k - pkT l i - 1))) ([3]) = some (.str ((s ++ numS (k - pkT l i - 1)) ++ [3])) := if_pos (by (try simp only [List.length_append, List.length_cons, List.length_nil]); unfold strMax; omega)
            have st2 : strOp .add (((s ++ numS (k - pkT l i - 1)) ++ [3])) (wholeS wv) = some (.str (((s ++ numS (k - pkT l i - 1)) ++ [3]) ++ wholeS wv)) := if_pos (by (try simp only [List.length_append, List.length_cons, List.length_nil]); unfold strMax; omega)
            have st3 : strOp .add ((((s ++ numS (k - pkT l i - 1)) ++ [3]) ++ wholeS wv)) (wholeS (iv - wv)) = some (.str ((((s ++ numS (k - pkT l i - 1)) ++ [3]) ++ wholeS wv) ++ wholeS (iv - wv))) := if_pos (by (try simp only [List.length_append, List.length_cons, List.length_nil]); unfold strMax; omega)
            simp only [go_sem, Nat.reduceAdd, Nat.reduceSub, Nat.reduceMul, Nat.reduceLT, Nat.reduceLeDiff, Nat.reduceEqDiff, Nat.reduceBEq, Nat.reduceBNe, reduceCtorEq, Int.reduceBNe, Int.reduceBEq, ty_28, ty_172, ty_148, ty_9, ty_3, ty_4, draw_25_10, draw_25_12, hrI, c60k, call_104, h1, h2, hx, ha, hb, hw, Int.toNat_natCast, h0, st0, st1, st2, st3]
            rw [wrap_i64 (by omega) (by omega)]
            refine hnorm (i + 1, ((((s ++ numS (k - pkT l i - 1)) ++ [3]) ++ wholeS wv) ++ wholeS (iv - wv))) _ ⟨by show i + 1 ≤ _; omega, ?_, by show List.length (((((s ++ numS (k - pkT l i - 1)) ++ [3]) ++ wholeS wv) ++ wholeS (iv - wv))) ≤ _; simp only [List.length_append, List.length_cons, List.length_nil]; omega, ?_, ?_⟩ (by show l.length - (i + 1) < l.length - i; omega) (by rw [S26]; kernel_rfl)
            · rw [hs, List.drop_eq_getElem_cons hlt, textFrom, pkT_succ hlt, ht]
              simp only [turnS, kindT, byT, if_true, if_false, Bool.false_eq_true, List.append_assoc, List.append_nil, List.nil_append, Int.reduceAdd, numS_small3]
            · show -1 ≤ pkT l (i + 1)
              rw [pkT_succ hlt, ht]; show -1 ≤ k; omega
            · show chkTFrom (pkT l (i + 1)) (l.drop (i + 1)) = true
              rw [pkT_succ hlt, ht]; exact hch2
      · have h0 : ((i : Int) == 0) = false := by simp [hi0]
        have hm : i - 1 < l.length := by omega
        have hp : pkT l i = l[i - 1].1 := by simp [pkT, hi0, hm]
        have w1 : IntKind.i64.wrap ((i : Int) - 1) = (i : Int) - 1 := wrap_i64 (by omega) (by omega)
        have w2 : ((i : Int) - 1).toNat = i - 1 := by omega
        have h3 : ¬ ((i : Int) - 1 < 0) := by omega
        have h4 : True := trivial
        have hx2 : (l.map trow)[i - 1]? = some [.int .i64 (pkT l i), .int .i64 l[i - 1].2.1.1, .bool l[i - 1].2.1.2, .int .i64 l[i - 1].2.2.1, .bool l[i - 1].2.2.2] := by rw [hp]; simp [hm, trow]
        have c60k := call_103 (k - pkT l i - 1) (by omega)
        cases ws with
        | false =>
          cases ii with
          | false =>
            simp only [okC, Bool.false_eq_true, if_false, decide_eq_true_eq] at g3 g4
            subst g3; subst g4
            exact absurd rfl g5
          | true =>
            have hx : (l.map trow)[i]? = some [.int .i64 k, .int .i64 wv, .bool false, .int .i64 iv, .bool true] := by simp [hlt, trow, ht]
            have q0 : (numS (k - pkT l i - 1)).length ≤ 9 := numS_len (by omega)
            have q2 := wholeS_len wv
            have q3 := wholeS_len (iv)
            have st0 : strOp .add (s) (numS (k - pkT l i - 1)) = some (.str (s ++ numS (k - pkT l i - 1))) := if_pos (by (try simp only [List.length_append, List.length_cons, List.length_nil]); unfold strMax; omega)
            have st1 : strOp .add ((s ++ numS (k - pkT l i - 1))) ([2]) = some (.str ((s ++ numS (k - pkT l i - 1)) ++ [2])) := if_pos (by (try simp only [List.length_append, List.length_cons, List.length_nil]); unfold strMax; omega)
            have st2 : strOp .add (((s ++ numS (k - pkT l i - 1)) ++ [2])) (wholeS (iv)) = some (.str (((s ++ numS (k - pkT l i - 1)) ++ [2]) ++ wholeS (iv))) := if_pos (by (try simp only [List.length_append, List.length_cons, List.length_nil]); unfold strMax; omega)
            simp only [go_sem, Nat.reduceAdd, Nat.reduceSub, Nat.reduceMul, Nat.reduceLT, Nat.reduceLeDiff, Nat.reduceEqDiff, Nat.reduceBEq, Nat.reduceBNe, reduceCtorEq, Int.reduceBNe, Int.reduceBEq, ty_28, ty_172, ty_148, ty_9, ty_3, ty_4, draw_25_10, draw_25_12, hrI, c60k, call_104, h1, h2, hx, ha, hb, hw, Int.toNat_natCast, h0, hx2, w1, w2, h3, h4, Int.toNat_natCast, st0, st1, st2]
            rw [wrap_i64 (by omega) (by omega)]
            refine hnorm (i + 1, (((s ++ numS (k - pkT l i - 1)) ++ [2]) ++ wholeS (iv))) _ ⟨by show i + 1 ≤ _; omega, ?_, by show List.length ((((s ++ numS (k - pkT l i - 1)) ++ [2]) ++ wholeS (iv))) ≤ _; simp only [List.length_append, List.length_cons, List.length_nil]; omega, ?_, ?_⟩ (by show l.length - (i + 1) < l.length - i; omega) (by rw [S26]; kernel_rfl)
            · rw [hs, List.drop_eq_getElem_cons hlt, textFrom, pkT_succ hlt, ht]
              simp only [turnS, kindT, byT, if_true, if_false, Bool.false_eq_true, List.append_assoc, List.append_nil, List.nil_append, Int.reduceAdd, numS_small2]
            · show -1 ≤ pkT l (i + 1)
              rw [pkT_succ hlt, ht]; show -1 ≤ k; omega
            · show chkTFrom (pkT l (i + 1)) (l.drop (i + 1)) = true
              rw [pkT_succ hlt, ht]; exact hch2
        | true =>
          cases ii with
          | false =>
            have hx : (l.map trow)[i]? = some [.int .i64 k, .int .i64 wv, .bool true, .int .i64 iv, .bool false] := by simp [hlt, trow, ht]
            have q0 : (numS (k - pkT l i - 1)).length ≤ 9 := numS_len (by omega)
            have q2 := wholeS_len wv
            have q3 := wholeS_len (iv - wv)
            have st0 : strOp .add (s) (numS (k - pkT l i - 1)) = some (.str (s ++ numS (k - pkT l i - 1))) := if_pos (by (try simp only [List.length_append, List.length_cons, List.length_nil]); unfold strMax; omega)
            have st1 : strOp .add ((s ++ numS (k - pkT l i - 1))) ([1]) = some (.str ((s ++ numS (k - pkT l i - 1)) ++ [1])) := if_pos (by (try simp only [List.length_append, List.length_cons, List.length_nil]); unfold strMax; omega)
            have st2 : strOp .add (((s ++ numS (k - pkT l i - 1)) ++ [1])) (wholeS wv) = some (.str (((s ++ numS (k - pkT l i - 1)) ++ [1]) ++ wholeS wv)) := if_pos (by (try simp only [List.length_append, List.length_cons, List.length_nil]); unfold strMax; omega)
            simp only [go_sem, Nat.reduceAdd, Nat.reduceSub, Nat.reduceMul, Nat.reduceLT, Nat.reduceLeDiff, Nat.reduceEqDiff, Nat.reduceBEq, Nat.reduceBNe, reduceCtorEq, Int.reduceBNe, Int.reduceBEq, ty_28, ty_172, ty_148, ty_9, ty_3, ty_4, draw_25_10, draw_25_12, hrI, c60k, call_104, h1, h2, hx, ha, hb, hw, Int.toNat_natCast, h0, hx2, w1, w2, h3, h4, Int.toNat_natCast, st0, st1, st2]
            rw [wrap_i64 (by omega) (by omega)]
            refine hnorm (i + 1, (((s ++ numS (k - pkT l i - 1)) ++ [1]) ++ wholeS wv)) _ ⟨by show i + 1 ≤ _; omega, ?_, by show List.length ((((s ++ numS (k - pkT l i - 1)) ++ [1]) ++ wholeS wv)) ≤ _; simp only [List.length_append, List.length_cons, List.length_nil]; omega, ?_, ?_⟩ (by show l.length - (i + 1) < l.length - i; omega) (by rw [S26]; kernel_rfl)
            · rw [hs, List.drop_eq_getElem_cons hlt, textFrom, pkT_succ hlt, ht]
              simp only [turnS, kindT, byT, if_true, if_false, Bool.false_eq_true, List.append_assoc, List.append_nil, List.nil_append, Int.reduceAdd, numS_small1]
            · show -1 ≤ pkT l (i + 1)
              rw [pkT_succ hlt, ht]; show -1 ≤ k; omega
            · show chkTFrom (pkT l (i + 1)) (l.drop (i + 1)) = true
              rw [pkT_succ hlt, ht]; exact hch2
          | true =>
            have hx : (l.map trow)[i]? = some [.int .i64 k, .int .i64 wv, .bool true, .int .i64 iv, .bool true] := by simp [hlt, trow, ht]
            have q0 : (numS (k - pkT l i - 1)).length ≤ 9 := numS_len (by omega)
            have q2 := wholeS_len wv
            have q3 := wholeS_len (iv - wv)
            have st0 : strOp .add (s) (numS (k - pkT l i - 1)) = some (.str (s ++ numS (k - pkT l i - 1))) := if_pos (by (try simp only [List.length_append, List.length_cons, List.length_nil]); unfold strMax; omega)
            have st1 : strOp .add ((s ++ numS (k - pkT l i - 1))) ([3]) = some (.str ((s ++ numS (k - pkT l i - 1)) ++ [3])) := if_pos (by (try simp only [List.length_append, List.length_cons, List.length_nil]); unfold strMax; omega)
            have st2 : strOp .add (((s ++ numS (k - pkT l i - 1)) ++ [3])) (wholeS wv) = some (.str (((s ++ numS (k - pkT l i - 1)) ++ [3]) ++ wholeS wv)) := if_pos (by (try simp only [List.length_append, List.length_cons, List.length_nil]); unfold strMax; omega)
            have st3 : strOp .add ((((s ++ numS (k - pkT l i - 1)) ++ [3]) ++ wholeS wv)) (wholeS (iv - wv)) = some (.str ((((s ++ numS (k - pkT l i - 1)) ++ [3]) ++ wholeS wv) ++ wholeS (iv - wv))) := if_pos (by (try simp only [List.length_append, List.length_cons, List.length_nil]); unfold strMax; omega)
            simp only [go_sem, Nat.reduceAdd, Nat.reduceSub, Nat.reduceMul, Nat.reduceLT, Nat.reduceLeDiff, Nat.reduceEqDiff, Nat.reduceBEq, Nat.reduceBNe, reduceCtorEq, Int.reduceBNe, Int.reduceBEq, ty_28, ty_172, ty_148, ty_9, ty_3, ty_4, draw_25_10, draw_25_12, hrI, c60k, call_104, h1, h2, hx, ha, hb, hw, Int.toNat_natCast, h0, hx2, w1, w2, h3, h4, Int.toNat_natCast, st0, st1, st2, st3]
            rw [wrap_i64 (by omega) (by omega)]
            refine hnorm (i + 1, ((((s ++ numS (k - pkT l i - 1)) ++ [3]) ++ wholeS wv) ++ wholeS (iv - wv))) _ ⟨by show i + 1 ≤ _; omega, ?_, by show List.length (((((s ++ numS (k - pkT l i - 1)) ++ [3]) ++ wholeS wv) ++ wholeS (iv - wv))) ≤ _; simp only [List.length_append, List.length_cons, List.length_nil]; omega, ?_, ?_⟩ (by show l.length - (i + 1) < l.length - i; omega) (by rw [S26]; kernel_rfl)
            · rw [hs, List.drop_eq_getElem_cons hlt, textFrom, pkT_succ hlt, ht]
              simp only [turnS, kindT, byT, if_true, if_false, Bool.false_eq_true, List.append_assoc, List.append_nil, List.nil_append, Int.reduceAdd, numS_small3]
            · show -1 ≤ pkT l (i + 1)
              rw [pkT_succ hlt, ht]; show -1 ≤ k; omega
            · show chkTFrom (pkT l (i + 1)) (l.drop (i + 1)) = true
              rw [pkT_succ hlt, ht]; exact hch2
    · have h1 : ¬ (i : Int) < (l.length : Int) := by omega
      simp only [go_sem, Nat.reduceAdd, Nat.reduceSub, Nat.reduceMul, Nat.reduceLT, Nat.reduceLeDiff, Nat.reduceEqDiff, Nat.reduceBEq, Nat.reduceBNe, reduceCtorEq, Int.reduceBNe, Int.reduceBEq, ty_28, ty_172, ty_148, ty_9, ty_3, ty_4, h1]
      refine hexit 0 _ ?_
      simp only [go_sem, Nat.reduceAdd, Nat.reduceSub, Nat.reduceMul, Nat.reduceLT, Nat.reduceLeDiff, Nat.reduceEqDiff, Nat.reduceBEq, Nat.reduceBNe, reduceCtorEq, Int.reduceBNe, Int.reduceBEq, ty_28, ty_172, ty_148, ty_9, ty_3, ty_4]
      rw [List.drop_of_length_le (by omega), textFrom, List.append_nil] at hs
      rw [hs]
      exact ret1n (fun _ => ex_ret) rfl rfl rfl ⟨rfl, rfl, rfl⟩
end Go.Proofs.Ytbpkaajokffpjaa
