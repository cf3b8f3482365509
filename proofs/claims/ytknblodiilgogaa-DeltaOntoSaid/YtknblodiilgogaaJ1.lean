/- Two tables joined: the program's answer. -/
import Derived.Test.YtknblodiilgogaaE6
import Derived.Test.YtknblodiilgogaaA0
set_option linter.all false
set_option maxRecDepth 100000
namespace Go.Proofs.Ytknblodiilgogaa
open Go Go.Abs

set_option maxHeartbeats 4000000 in
theorem call_91 (n : Nat) (hn : n ≤ 200000) (h0 : 0 < n) : (Lim cfg).call 91 [.nils, .int .i64 n] [] =
    some (.ms 0 0 0 n, false, [.cells 72 [] (reps n [.int .i64 0, .int .i64 0])]) := by
  have hb : n * 16 ≤ strMax := by unfold strMax; omega
  have b1 : bound none 0 0 = some 0 := rfl
  have b2 : bound (some (.int .i64 0)) 0 0 = some 0 := rfl
  have b3 : (cfg.ty 72).isSome = true := rfl
  have b4 : sliceV cfg 38 (.ms 0 0 n n) none (some (.int .i64 0)) none = some (.ms 0 0 0 n) := by
    have h1 : bound (some (.int .i64 0)) 0 n = some 0 := by simp [bound]
    have h2 : bound none 0 0 = some 0 := rfl
    simp only [sliceV, ty_38, ty_72, Option.map_some, h1, h2]
    simp [bound]
    try omega
  refine call_eq fn_91 rfl ?_
  rw [k_start]
  simp only [Try.f91, List.length_cons, List.length_nil, Nat.zero_add, Nat.reduceSub, Nat.reduceAdd, List.replicate, List.cons_append, List.nil_append]
  repeat' (first | simp (maxSteps := 10000000) (disch := omega) only [go_sem, Nat.reduceAdd, Nat.reduceSub, Nat.reduceMul, Nat.reduceLT, Nat.reduceLeDiff, Nat.reduceEqDiff, Nat.reduceBEq, Nat.reduceBNe, reduceCtorEq, Int.reduceBNe, Int.reduceBEq, blt0, Int.reduceToNat, Int.toNat_zero, Int.toNat_one, if_pos, if_neg, wrap_i64, decide_eq_true, decide_eq_false, ibeq_t, ibeq_f, ibne_t, ibne_f, Int.toNat_natCast, tn_sub1, tn_add1, List.getElem?_map, gx, reach_i1, reach_i2, reach_s1, reach_si, reach_ss, b4, appendM, appendNilM, zerosM, srcM, birthM, hb, b1, b2, b3, Int.sub_self, Int.sub_zero] | simp (maxSteps := 10000000) (disch := (simp only [List.length_append, List.length_map, List.length_take, List.length_drop, List.length_cons, List.length_nil]; omega)) only [str_add, if_pos, if_neg] | simp only [go_sem, Nat.reduceAdd, Nat.reduceSub, Nat.reduceMul, Nat.reduceLT, Nat.reduceLeDiff, Nat.reduceEqDiff, Nat.reduceBEq, Nat.reduceBNe, reduceCtorEq, Int.reduceBNe, Int.reduceBEq, blt0, b4, appendM, appendNilM, zerosM, srcM, birthM, hb, b1, b2, b3, Int.sub_self, Int.sub_zero] | ((first | refine WC_split (fun hc => ?_) (fun hc => ?_) | refine WS_split (fun hc => ?_) (fun hc => ?_) | refine WD_split (fun hc => ?_) (fun hc => ?_)) <;> (try simp only [hc]) <;> (try simp only [Bool.and_eq_true, Bool.or_eq_true, Bool.not_eq_true', Bool.not_eq_false', decide_eq_true_eq, decide_eq_false_iff_not, beq_iff_eq, beq_eq_false_iff_ne, bne_iff_ne, bne_eq_false_iff_eq, ne_eq] at hc) <;> (try (have hb : @Eq Bool _ _ := hc; simp only [hb]; clear hb))))
  exact ret1b (fun _ => ex_ret) rfl rfl rfl ⟨rfl, rfl, rfl⟩
theorem appendAt_ok {ti : TI} {dst : Option Tmp} {len cap k : Nat} {cs new : List V} {fr : List V} {own : List Nat} {nb : Nat} {e : TypeId} (h1 : len + k ≤ cap) (h2 : (len + k) * ti.size ≤ cs.length) (h3 : new.length = k * ti.size) :
    appendAtM cfg e ti dst 0 len cap k new { fr := fr, own := own, hp := [.cells e [] cs], al := [], nb := nb } = some (St.put { fr := fr, own := own, hp := [.cells e [] (writeM cs new (len * ti.size))], al := [], nb := nb } dst (.ms 0 0 (len + k) cap)) := by
  simp only [appendAtM, List.getElem?_cons_zero, if_true]
  by_cases hk : k = 0
  · subst hk
    have hn : new = [] := List.length_eq_zero_iff.1 (by simpa using h3)
    subst hn
    simp only [if_true, writeM, List.append_nil, List.length_nil, Nat.add_zero, List.take_append_drop]
  · rw [if_neg hk, if_pos h1, if_pos ⟨h2, h3⟩]
    rfl
def zer (n : Nat) : List V := (List.replicate n [V.int IntKind.i64 0, V.int IntKind.i64 0]).flatten
theorem zer_len (n : Nat) : (zer n).length = n * 2 := by
  induction n with
  | zero => rfl
  | succ n ih => simp only [zer, List.replicate_succ, List.flatten_cons, List.length_append, List.length_cons, List.length_nil] at ih ⊢; omega
theorem zer_ren (f : Nat → Nat) (n : Nat) : V.renl f (List.replicate n [V.int IntKind.i64 0, V.int IntKind.i64 0]).flatten = zer n := by
  induction n with
  | zero => rfl
  | succ n ih => simp only [zer, List.replicate_succ, List.flatten_cons] at ih ⊢; exact congrArg (fun l => V.int .i64 0 :: V.int .i64 0 :: l) ih
theorem zer_all (p : Nat → Bool) (n : Nat) : V.alll p (zer n) = true := by
  induction n with
  | zero => rfl
  | succ n ih => simp only [zer, List.replicate_succ, List.flatten_cons] at ih ⊢; exact ih
theorem alll_app (p : Nat → Bool) : ∀ a b : List V, V.alll p a = true → V.alll p b = true → V.alll p (a ++ b) = true
  | [], b, _, h => h
  | x :: a, b, h, h2 => by
    simp only [List.cons_append, V.alll, Bool.and_eq_true] at h ⊢
    exact ⟨h.1, alll_app p a b h.2 h2⟩
theorem zer_drop (n k : Nat) : (zer (n + k)).drop (n * 2) = zer k := by
  induction n with
  | zero => simp
  | succ n ih =>
    rw [show n + 1 + k = (n + k) + 1 by omega, zer, List.replicate_succ, List.flatten_cons, show (n + 1) * 2 = n * 2 + 2 by omega]
    exact ih
theorem head_one {s : St} {K : List Nat} {A : Blk} {fr : List V} {own : List Nat} (hh : s.hp = [A]) (hA : ∀ p, Blk.all p A = true) (hnb : s.nb = 0) (hfr : killAll s.fr K = fr)
    (hown : s.own.filter (fun t => !K.contains t) = own) (hn : topIds fr = 1) (hl : V.ltl 1 fr = true) : s.head K = { fr := fr, own := own, hp := [A], al := [], nb := 0 } := by
  subst hfr hown
  obtain ⟨f, o, h, a, n⟩ := s
  simp only at hh hnb hn hl
  subst hh hnb
  simp only [St.head, St.kill, St.gc, hn, hl, List.length_cons, List.length_nil]
  simp [upTo, hA, hl]
def yOf (A B : List PR) (i : Nat) : List V := if i = 0 then zer (A.length + B.length) else if i = 1 then flatP A ++ zer B.length else flatP (A ++ B)
theorem yOf_all (p : Nat → Bool) (A B : List PR) (i : Nat) : V.alll p (yOf A B i) = true := by
  unfold yOf
  split
  · exact zer_all p _
  · split
    · exact alll_app p _ _ (flatP_all p A) (zer_all p _)
    · exact flatP_all p _
theorem y_one (A B : List PR) : writeM (zer (A.length + B.length)) (A.map prow).flatten (0 * 2) = flatP A ++ zer B.length := by
  have := flatP_len A
  have h := zer_drop A.length B.length
  rw [writeM, show (A.map prow).flatten = flatP A from rfl, Nat.zero_mul, List.take_zero, List.nil_append, Nat.zero_add, this, h]
theorem y_two (A B : List PR) : writeM (flatP A ++ zer B.length) (B.map prow).flatten (A.length * 2) = flatP (A ++ B) := by
  have h1 := flatP_len A
  have h2 := flatP_len B
  have h3 := zer_len B.length
  rw [writeM, show (B.map prow).flatten = flatP B from rfl, List.take_left' h1, List.drop_eq_nil_of_le (by rw [List.length_append]; omega), List.append_nil]
  simp [flatP]
def kOf (A B : List PR) (i : Nat) : Nat := if i = 0 then 0 else if i = 1 then A.length else A.length + B.length
def T188b (A B : List PR) (i : Nat) : St := { fr := mkF 36 [(6, .ms 0 0 (kOf A B i) (A.length + B.length)), (25, .sl true [[.sl true (A.map prow)], [.sl true (B.map prow)]]), (26, .int .i64 ((2 : Nat) : Int)), (27, .int .i64 i)], own := [], hp := [.cells 72 [] (yOf A B i)], al := [], nb := 0 }
def T188 (A B : List PR) (i : Nat) : St := { fr := mkF 36 [(0, .sl true [[.sl true (A.map prow)], [.sl true (B.map prow)]]), (3, .int .i64 (kOf A B i)), (9, .sl true [[.sl true (A.map prow)], [.sl true (B.map prow)]]), (10, .int .i64 ((2 : Nat) : Int)), (11, .int .i64 i)], own := [], hp := [], al := [], nb := 0 }
set_option maxHeartbeats 4000000 in
theorem call_78 (A B : List PR) (hA : A.length ≤ 100000) (hB : B.length ≤ 100000) (h0 : 0 < A.length + B.length) : (Lim cfg).call 78 [.sl true [[.sl true (A.map prow)], [.sl true (B.map prow)]]] [] =
    some (.ms 0 0 (A.length + B.length) (A.length + B.length), false, [.cells 72 [] (flatP (A ++ B))]) := by
  have cg := call_91 (A.length + B.length) (by omega) h0
  rw [Int.natCast_add] at cg
  refine call_eq fn_78 rfl ?_
  rw [k_start]
  simp only [Try.f78, List.length_cons, List.length_nil, Nat.zero_add, Nat.reduceSub, Nat.reduceAdd, List.replicate, List.cons_append, List.nil_append]
  repeat' (first | simp (maxSteps := 10000000) (disch := omega) only [go_sem, Nat.reduceAdd, Nat.reduceSub, Nat.reduceMul, Nat.reduceLT, Nat.reduceLeDiff, Nat.reduceEqDiff, Nat.reduceBEq, Nat.reduceBNe, reduceCtorEq, Int.reduceBNe, Int.reduceBEq, blt0, Int.reduceToNat, Int.toNat_zero, Int.toNat_one, if_pos, if_neg, wrap_i64, decide_eq_true, decide_eq_false, ibeq_t, ibeq_f, ibne_t, ibne_f, Int.toNat_natCast, tn_sub1, tn_add1, List.getElem?_map, gx, reach_i1, reach_i2, reach_s1, reach_si, reach_ss] | simp (maxSteps := 10000000) (disch := (simp only [List.length_append, List.length_map, List.length_take, List.length_drop, List.length_cons, List.length_nil]; omega)) only [str_add, if_pos, if_neg] | simp only [go_sem, Nat.reduceAdd, Nat.reduceSub, Nat.reduceMul, Nat.reduceLT, Nat.reduceLeDiff, Nat.reduceEqDiff, Nat.reduceBEq, Nat.reduceBNe, reduceCtorEq, Int.reduceBNe, Int.reduceBEq, blt0] | ((first | refine WC_split (fun hc => ?_) (fun hc => ?_) | refine WS_split (fun hc => ?_) (fun hc => ?_) | refine WD_split (fun hc => ?_) (fun hc => ?_)) <;> (try simp only [hc]) <;> (try simp only [Bool.and_eq_true, Bool.or_eq_true, Bool.not_eq_true', Bool.not_eq_false', decide_eq_true_eq, decide_eq_false_iff_not, beq_iff_eq, beq_eq_false_iff_ne, bne_iff_ne, bne_eq_false_iff_eq, ne_eq] at hc) <;> (try (have hb : @Eq Bool _ _ := hc; simp only [hb]; clear hb))))
  refine k_loop (T188 A B) (fun i => i ≤ 2) (fun i => 2 - i) 0 (K := cfg.kill 78 3) rfl (Nat.zero_le _) (by kernel_rfl) ?_
  intro i hi k' Q' hnorm hexit hret
  have hc : i = 0 ∨ i = 1 ∨ i = 2 := by omega
  rcases hc with rfl | rfl | rfl
  · have e : T188 A B 0 = { fr := mkF 36 [(0, .sl true [[.sl true (A.map prow)], [.sl true (B.map prow)]]), (3, .int .i64 0), (9, .sl true [[.sl true (A.map prow)], [.sl true (B.map prow)]]), (10, .int .i64 2), (11, .int .i64 0)], own := [], hp := [], al := [], nb := 0 } := rfl
    rw [e]
    simp only [e, mkF, List.foldl, List.replicate, List.set, List.cons_append, List.nil_append]
    repeat' (first | simp (maxSteps := 10000000) (disch := omega) only [go_sem, Nat.reduceAdd, Nat.reduceSub, Nat.reduceMul, Nat.reduceLT, Nat.reduceLeDiff, Nat.reduceEqDiff, Nat.reduceBEq, Nat.reduceBNe, reduceCtorEq, Int.reduceBNe, Int.reduceBEq, blt0, Int.reduceToNat, Int.toNat_zero, Int.toNat_one, if_pos, if_neg, wrap_i64, decide_eq_true, decide_eq_false, ibeq_t, ibeq_f, ibne_t, ibne_f, Int.toNat_natCast, tn_sub1, tn_add1, List.getElem?_map, gx, reach_i1, reach_i2, reach_s1, reach_si, reach_ss, List.getElem?_cons_zero, Int.zero_add] | simp (maxSteps := 10000000) (disch := (simp only [List.length_append, List.length_map, List.length_take, List.length_drop, List.length_cons, List.length_nil]; omega)) only [str_add, if_pos, if_neg] | simp only [go_sem, Nat.reduceAdd, Nat.reduceSub, Nat.reduceMul, Nat.reduceLT, Nat.reduceLeDiff, Nat.reduceEqDiff, Nat.reduceBEq, Nat.reduceBNe, reduceCtorEq, Int.reduceBNe, Int.reduceBEq, blt0, List.getElem?_cons_zero, Int.zero_add] | ((first | refine WC_split (fun hc => ?_) (fun hc => ?_) | refine WS_split (fun hc => ?_) (fun hc => ?_) | refine WD_split (fun hc => ?_) (fun hc => ?_)) <;> (try simp only [hc]) <;> (try simp only [Bool.and_eq_true, Bool.or_eq_true, Bool.not_eq_true', Bool.not_eq_false', decide_eq_true_eq, decide_eq_false_iff_not, beq_iff_eq, beq_eq_false_iff_ne, bne_iff_ne, bne_eq_false_iff_eq, ne_eq] at hc) <;> (try (have hb : @Eq Bool _ _ := hc; simp only [hb]; clear hb))))
    refine hnorm 1 _ (by omega) (by omega) ?_
    rw [show T188 A B 1 = { fr := mkF 36 [(0, .sl true [[.sl true (A.map prow)], [.sl true (B.map prow)]]), (3, .int .i64 A.length), (9, .sl true [[.sl true (A.map prow)], [.sl true (B.map prow)]]), (10, .int .i64 2), (11, .int .i64 1)], own := [], hp := [], al := [], nb := 0 } from rfl]
    kernel_rfl
  · have e : T188 A B 1 = { fr := mkF 36 [(0, .sl true [[.sl true (A.map prow)], [.sl true (B.map prow)]]), (3, .int .i64 A.length), (9, .sl true [[.sl true (A.map prow)], [.sl true (B.map prow)]]), (10, .int .i64 2), (11, .int .i64 1)], own := [], hp := [], al := [], nb := 0 } := rfl
    rw [e]
    simp only [e, mkF, List.foldl, List.replicate, List.set, List.cons_append, List.nil_append]
    repeat' (first | simp (maxSteps := 10000000) (disch := omega) only [go_sem, Nat.reduceAdd, Nat.reduceSub, Nat.reduceMul, Nat.reduceLT, Nat.reduceLeDiff, Nat.reduceEqDiff, Nat.reduceBEq, Nat.reduceBNe, reduceCtorEq, Int.reduceBNe, Int.reduceBEq, blt0, Int.reduceToNat, Int.toNat_zero, Int.toNat_one, if_pos, if_neg, wrap_i64, decide_eq_true, decide_eq_false, ibeq_t, ibeq_f, ibne_t, ibne_f, Int.toNat_natCast, tn_sub1, tn_add1, List.getElem?_map, gx, reach_i1, reach_i2, reach_s1, reach_si, reach_ss, List.getElem?_cons_zero, List.getElem?_cons_succ] | simp (maxSteps := 10000000) (disch := (simp only [List.length_append, List.length_map, List.length_take, List.length_drop, List.length_cons, List.length_nil]; omega)) only [str_add, if_pos, if_neg] | simp only [go_sem, Nat.reduceAdd, Nat.reduceSub, Nat.reduceMul, Nat.reduceLT, Nat.reduceLeDiff, Nat.reduceEqDiff, Nat.reduceBEq, Nat.reduceBNe, reduceCtorEq, Int.reduceBNe, Int.reduceBEq, blt0, List.getElem?_cons_zero, List.getElem?_cons_succ] | ((first | refine WC_split (fun hc => ?_) (fun hc => ?_) | refine WS_split (fun hc => ?_) (fun hc => ?_) | refine WD_split (fun hc => ?_) (fun hc => ?_)) <;> (try simp only [hc]) <;> (try simp only [Bool.and_eq_true, Bool.or_eq_true, Bool.not_eq_true', Bool.not_eq_false', decide_eq_true_eq, decide_eq_false_iff_not, beq_iff_eq, beq_eq_false_iff_ne, bne_iff_ne, bne_eq_false_iff_eq, ne_eq] at hc) <;> (try (have hb : @Eq Bool _ _ := hc; simp only [hb]; clear hb))))
    refine hnorm 2 _ (by omega) (by omega) ?_
    rw [show T188 A B 2 = { fr := mkF 36 [(0, .sl true [[.sl true (A.map prow)], [.sl true (B.map prow)]]), (3, .int .i64 ((A.length : Int) + B.length)), (9, .sl true [[.sl true (A.map prow)], [.sl true (B.map prow)]]), (10, .int .i64 2), (11, .int .i64 2)], own := [], hp := [], al := [], nb := 0 } from rfl]
    kernel_rfl
  · have e : T188 A B 2 = { fr := mkF 36 [(0, .sl true [[.sl true (A.map prow)], [.sl true (B.map prow)]]), (3, .int .i64 ((A.length : Int) + B.length)), (9, .sl true [[.sl true (A.map prow)], [.sl true (B.map prow)]]), (10, .int .i64 2), (11, .int .i64 2)], own := [], hp := [], al := [], nb := 0 } := rfl
    rw [e]
    simp only [e, mkF, List.foldl, List.replicate, List.set, List.cons_append, List.nil_append]
    clear hnorm hret
    repeat' (first | simp (maxSteps := 10000000) (disch := omega) only [go_sem, Nat.reduceAdd, Nat.reduceSub, Nat.reduceMul, Nat.reduceLT, Nat.reduceLeDiff, Nat.reduceEqDiff, Nat.reduceBEq, Nat.reduceBNe, reduceCtorEq, Int.reduceBNe, Int.reduceBEq, blt0, Int.reduceToNat, Int.toNat_zero, Int.toNat_one, if_pos, if_neg, wrap_i64, decide_eq_true, decide_eq_false, ibeq_t, ibeq_f, ibne_t, ibne_f, Int.toNat_natCast, tn_sub1, tn_add1, List.getElem?_map, gx, reach_i1, reach_i2, reach_s1, reach_si, reach_ss] | simp (maxSteps := 10000000) (disch := (simp only [List.length_append, List.length_map, List.length_take, List.length_drop, List.length_cons, List.length_nil]; omega)) only [str_add, if_pos, if_neg] | simp only [go_sem, Nat.reduceAdd, Nat.reduceSub, Nat.reduceMul, Nat.reduceLT, Nat.reduceLeDiff, Nat.reduceEqDiff, Nat.reduceBEq, Nat.reduceBNe, reduceCtorEq, Int.reduceBNe, Int.reduceBEq, blt0] | ((first | refine WC_split (fun hc => ?_) (fun hc => ?_) | refine WS_split (fun hc => ?_) (fun hc => ?_) | refine WD_split (fun hc => ?_) (fun hc => ?_)) <;> (try simp only [hc]) <;> (try simp only [Bool.and_eq_true, Bool.or_eq_true, Bool.not_eq_true', Bool.not_eq_false', decide_eq_true_eq, decide_eq_false_iff_not, beq_iff_eq, beq_eq_false_iff_ne, bne_iff_ne, bne_eq_false_iff_eq, ne_eq] at hc) <;> (try (have hb : @Eq Bool _ _ := hc; simp only [hb]; clear hb))))
    refine hexit _ _ ?_
    repeat' (first | simp (maxSteps := 10000000) (disch := omega) only [go_sem, Nat.reduceAdd, Nat.reduceSub, Nat.reduceMul, Nat.reduceLT, Nat.reduceLeDiff, Nat.reduceEqDiff, Nat.reduceBEq, Nat.reduceBNe, reduceCtorEq, Int.reduceBNe, Int.reduceBEq, blt0, Int.reduceToNat, Int.toNat_zero, Int.toNat_one, if_pos, if_neg, wrap_i64, decide_eq_true, decide_eq_false, ibeq_t, ibeq_f, ibne_t, ibne_f, Int.toNat_natCast, tn_sub1, tn_add1, List.getElem?_map, gx, reach_i1, reach_i2, reach_s1, reach_si, reach_ss, cg, zer_ren] | simp (maxSteps := 10000000) (disch := (simp only [List.length_append, List.length_map, List.length_take, List.length_drop, List.length_cons, List.length_nil]; omega)) only [str_add, if_pos, if_neg] | simp only [go_sem, Nat.reduceAdd, Nat.reduceSub, Nat.reduceMul, Nat.reduceLT, Nat.reduceLeDiff, Nat.reduceEqDiff, Nat.reduceBEq, Nat.reduceBNe, reduceCtorEq, Int.reduceBNe, Int.reduceBEq, blt0, cg, zer_ren] | ((first | refine WC_split (fun hc => ?_) (fun hc => ?_) | refine WS_split (fun hc => ?_) (fun hc => ?_) | refine WD_split (fun hc => ?_) (fun hc => ?_)) <;> (try simp only [hc]) <;> (try simp only [Bool.and_eq_true, Bool.or_eq_true, Bool.not_eq_true', Bool.not_eq_false', decide_eq_true_eq, decide_eq_false_iff_not, beq_iff_eq, beq_eq_false_iff_ne, bne_iff_ne, bne_eq_false_iff_eq, ne_eq] at hc) <;> (try (have hb : @Eq Bool _ _ := hc; simp only [hb]; clear hb))))
    refine k_loop (T188b A B) (fun i => i ≤ 2) (fun i => 2 - i) 0 (K := cfg.kill 78 11) rfl (Nat.zero_le _) (head_one rfl (fun p => zer_all p _) rfl (by kernel_rfl) (by kernel_rfl) (by kernel_rfl) (by kernel_rfl)) ?_
    clear hexit
    intro i hi k' Q' hnorm hexit hret
    have hc : i = 0 ∨ i = 1 ∨ i = 2 := by omega
    have hzl := zer_len (A.length + B.length)
    have hzb := zer_len B.length
    have hfA := flatP_len A
    have hfB := flatP_len B
    have y1 := y_one A B
    have y2 := y_two A B
    rcases hc with rfl | rfl | rfl
    · have e : T188b A B 0 = { fr := mkF 36 [(6, .ms 0 0 0 (A.length + B.length)), (25, .sl true [[.sl true (A.map prow)], [.sl true (B.map prow)]]), (26, .int .i64 2), (27, .int .i64 0)], own := [], hp := [.cells 72 [] (zer (A.length + B.length))], al := [], nb := 0 } := rfl
      rw [e]
      simp only [e, mkF, List.foldl, List.replicate, List.set, List.cons_append, List.nil_append]
      have w1 : ∀ fr own nb, appendAtM cfg 72 { k := .struct true [(0, 3), (1, 3)], size := 2, bytes := 16, zero := [.int .i64 0, .int .i64 0] } (some 33) 0 0 (A.length + B.length) A.length (A.map prow).flatten { fr := fr, own := own, hp := [.cells 72 [] (zer (A.length + B.length))], al := [], nb := nb } = some (St.put { fr := fr, own := own, hp := [.cells 72 [] (flatP A ++ zer B.length)], al := [], nb := nb } (some 33) (.ms 0 0 (0 + A.length) (A.length + B.length))) := fun fr own nb => by
        rw [← y1]
        exact appendAt_ok (by omega) (by simp only [List.length_append]; omega) (by simp only; assumption)
      repeat' (first | simp (maxSteps := 10000000) (disch := omega) only [go_sem, Nat.reduceAdd, Nat.reduceSub, Nat.reduceMul, Nat.reduceLT, Nat.reduceLeDiff, Nat.reduceEqDiff, Nat.reduceBEq, Nat.reduceBNe, reduceCtorEq, Int.reduceBNe, Int.reduceBEq, blt0, Int.reduceToNat, Int.toNat_zero, Int.toNat_one, if_pos, if_neg, wrap_i64, decide_eq_true, decide_eq_false, ibeq_t, ibeq_f, ibne_t, ibne_f, Int.toNat_natCast, tn_sub1, tn_add1, List.getElem?_map, gx, reach_i1, reach_i2, reach_s1, reach_si, reach_ss, List.getElem?_cons_zero, appendM, srcM, fit_prow, List.length_map, w1] | simp (maxSteps := 10000000) (disch := (simp only [List.length_append, List.length_map, List.length_take, List.length_drop, List.length_cons, List.length_nil]; omega)) only [str_add, if_pos, if_neg] | simp only [go_sem, Nat.reduceAdd, Nat.reduceSub, Nat.reduceMul, Nat.reduceLT, Nat.reduceLeDiff, Nat.reduceEqDiff, Nat.reduceBEq, Nat.reduceBNe, reduceCtorEq, Int.reduceBNe, Int.reduceBEq, blt0, List.getElem?_cons_zero, appendM, srcM, fit_prow, List.length_map, w1] | ((first | refine WC_split (fun hc => ?_) (fun hc => ?_) | refine WS_split (fun hc => ?_) (fun hc => ?_) | refine WD_split (fun hc => ?_) (fun hc => ?_)) <;> (try simp only [hc]) <;> (try simp only [Bool.and_eq_true, Bool.or_eq_true, Bool.not_eq_true', Bool.not_eq_false', decide_eq_true_eq, decide_eq_false_iff_not, beq_iff_eq, beq_eq_false_iff_ne, bne_iff_ne, bne_eq_false_iff_eq, ne_eq] at hc) <;> (try (have hb : @Eq Bool _ _ := hc; simp only [hb]; clear hb))))
      refine hnorm 1 _ (by omega) (by omega) ?_
      rw [show T188b A B 1 = { fr := mkF 36 [(6, .ms 0 0 A.length (A.length + B.length)), (25, .sl true [[.sl true (A.map prow)], [.sl true (B.map prow)]]), (26, .int .i64 2), (27, .int .i64 1)], own := [], hp := [.cells 72 [] (flatP A ++ zer B.length)], al := [], nb := 0 } from rfl]
      try rw [Nat.zero_add]
      exact head_one rfl (fun p => yOf_all p A B 1) rfl (by kernel_rfl) (by kernel_rfl) (by kernel_rfl) (by kernel_rfl)
    · have e : T188b A B 1 = { fr := mkF 36 [(6, .ms 0 0 A.length (A.length + B.length)), (25, .sl true [[.sl true (A.map prow)], [.sl true (B.map prow)]]), (26, .int .i64 2), (27, .int .i64 1)], own := [], hp := [.cells 72 [] (flatP A ++ zer B.length)], al := [], nb := 0 } := rfl
      rw [e]
      simp only [e, mkF, List.foldl, List.replicate, List.set, List.cons_append, List.nil_append]
      have w2 : ∀ fr own nb, appendAtM cfg 72 { k := .struct true [(0, 3), (1, 3)], size := 2, bytes := 16, zero := [.int .i64 0, .int .i64 0] } (some 33) 0 A.length (A.length + B.length) B.length (B.map prow).flatten { fr := fr, own := own, hp := [.cells 72 [] (flatP A ++ zer B.length)], al := [], nb := nb } = some (St.put { fr := fr, own := own, hp := [.cells 72 [] (flatP (A ++ B))], al := [], nb := nb } (some 33) (.ms 0 0 (A.length + B.length) (A.length + B.length))) := fun fr own nb => by
        rw [← y2]
        exact appendAt_ok (by omega) (by simp only [List.length_append]; omega) (by simp only; assumption)
      repeat' (first | simp (maxSteps := 10000000) (disch := omega) only [go_sem, Nat.reduceAdd, Nat.reduceSub, Nat.reduceMul, Nat.reduceLT, Nat.reduceLeDiff, Nat.reduceEqDiff, Nat.reduceBEq, Nat.reduceBNe, reduceCtorEq, Int.reduceBNe, Int.reduceBEq, blt0, Int.reduceToNat, Int.toNat_zero, Int.toNat_one, if_pos, if_neg, wrap_i64, decide_eq_true, decide_eq_false, ibeq_t, ibeq_f, ibne_t, ibne_f, Int.toNat_natCast, tn_sub1, tn_add1, List.getElem?_map, gx, reach_i1, reach_i2, reach_s1, reach_si, reach_ss, List.getElem?_cons_zero, List.getElem?_cons_succ, appendM, srcM, fit_prow, List.length_map, w2] | simp (maxSteps := 10000000) (disch := (simp only [List.length_append, List.length_map, List.length_take, List.length_drop, List.length_cons, List.length_nil]; omega)) only [str_add, if_pos, if_neg] | simp only [go_sem, Nat.reduceAdd, Nat.reduceSub, Nat.reduceMul, Nat.reduceLT, Nat.reduceLeDiff, Nat.reduceEqDiff, Nat.reduceBEq, Nat.reduceBNe, reduceCtorEq, Int.reduceBNe, Int.reduceBEq, blt0, List.getElem?_cons_zero, List.getElem?_cons_succ, appendM, srcM, fit_prow, List.length_map, w2] | ((first | refine WC_split (fun hc => ?_) (fun hc => ?_) | refine WS_split (fun hc => ?_) (fun hc => ?_) | refine WD_split (fun hc => ?_) (fun hc => ?_)) <;> (try simp only [hc]) <;> (try simp only [Bool.and_eq_true, Bool.or_eq_true, Bool.not_eq_true', Bool.not_eq_false', decide_eq_true_eq, decide_eq_false_iff_not, beq_iff_eq, beq_eq_false_iff_ne, bne_iff_ne, bne_eq_false_iff_eq, ne_eq] at hc) <;> (try (have hb : @Eq Bool _ _ := hc; simp only [hb]; clear hb))))
      refine hnorm 2 _ (by omega) (by omega) ?_
      rw [show T188b A B 2 = { fr := mkF 36 [(6, .ms 0 0 (A.length + B.length) (A.length + B.length)), (25, .sl true [[.sl true (A.map prow)], [.sl true (B.map prow)]]), (26, .int .i64 2), (27, .int .i64 2)], own := [], hp := [.cells 72 [] (flatP (A ++ B))], al := [], nb := 0 } from rfl]
      exact head_one rfl (fun p => yOf_all p A B 2) rfl (by kernel_rfl) (by kernel_rfl) (by kernel_rfl) (by kernel_rfl)
    · have e : T188b A B 2 = { fr := mkF 36 [(6, .ms 0 0 (A.length + B.length) (A.length + B.length)), (25, .sl true [[.sl true (A.map prow)], [.sl true (B.map prow)]]), (26, .int .i64 2), (27, .int .i64 2)], own := [], hp := [.cells 72 [] (flatP (A ++ B))], al := [], nb := 0 } := rfl
      rw [e]
      simp only [e, mkF, List.foldl, List.replicate, List.set, List.cons_append, List.nil_append]
      repeat' (first | simp (maxSteps := 10000000) (disch := omega) only [go_sem, Nat.reduceAdd, Nat.reduceSub, Nat.reduceMul, Nat.reduceLT, Nat.reduceLeDiff, Nat.reduceEqDiff, Nat.reduceBEq, Nat.reduceBNe, reduceCtorEq, Int.reduceBNe, Int.reduceBEq, blt0, Int.reduceToNat, Int.toNat_zero, Int.toNat_one, if_pos, if_neg, wrap_i64, decide_eq_true, decide_eq_false, ibeq_t, ibeq_f, ibne_t, ibne_f, Int.toNat_natCast, tn_sub1, tn_add1, List.getElem?_map, gx, reach_i1, reach_i2, reach_s1, reach_si, reach_ss] | simp (maxSteps := 10000000) (disch := (simp only [List.length_append, List.length_map, List.length_take, List.length_drop, List.length_cons, List.length_nil]; omega)) only [str_add, if_pos, if_neg] | simp only [go_sem, Nat.reduceAdd, Nat.reduceSub, Nat.reduceMul, Nat.reduceLT, Nat.reduceLeDiff, Nat.reduceEqDiff, Nat.reduceBEq, Nat.reduceBNe, reduceCtorEq, Int.reduceBNe, Int.reduceBEq, blt0] | ((first | refine WC_split (fun hc => ?_) (fun hc => ?_) | refine WS_split (fun hc => ?_) (fun hc => ?_) | refine WD_split (fun hc => ?_) (fun hc => ?_)) <;> (try simp only [hc]) <;> (try simp only [Bool.and_eq_true, Bool.or_eq_true, Bool.not_eq_true', Bool.not_eq_false', decide_eq_true_eq, decide_eq_false_iff_not, beq_iff_eq, beq_eq_false_iff_ne, bne_iff_ne, bne_eq_false_iff_eq, ne_eq] at hc) <;> (try (have hb : @Eq Bool _ _ := hc; simp only [hb]; clear hb))))
      refine hexit _ _ ?_
      repeat' (first | simp (maxSteps := 10000000) (disch := omega) only [go_sem, Nat.reduceAdd, Nat.reduceSub, Nat.reduceMul, Nat.reduceLT, Nat.reduceLeDiff, Nat.reduceEqDiff, Nat.reduceBEq, Nat.reduceBNe, reduceCtorEq, Int.reduceBNe, Int.reduceBEq, blt0, Int.reduceToNat, Int.toNat_zero, Int.toNat_one, if_pos, if_neg, wrap_i64, decide_eq_true, decide_eq_false, ibeq_t, ibeq_f, ibne_t, ibne_f, Int.toNat_natCast, tn_sub1, tn_add1, List.getElem?_map, gx, reach_i1, reach_i2, reach_s1, reach_si, reach_ss] | simp (maxSteps := 10000000) (disch := (simp only [List.length_append, List.length_map, List.length_take, List.length_drop, List.length_cons, List.length_nil]; omega)) only [str_add, if_pos, if_neg] | simp only [go_sem, Nat.reduceAdd, Nat.reduceSub, Nat.reduceMul, Nat.reduceLT, Nat.reduceLeDiff, Nat.reduceEqDiff, Nat.reduceBEq, Nat.reduceBNe, reduceCtorEq, Int.reduceBNe, Int.reduceBEq, blt0] | ((first | refine WC_split (fun hc => ?_) (fun hc => ?_) | refine WS_split (fun hc => ?_) (fun hc => ?_) | refine WD_split (fun hc => ?_) (fun hc => ?_)) <;> (try simp only [hc]) <;> (try simp only [Bool.and_eq_true, Bool.or_eq_true, Bool.not_eq_true', Bool.not_eq_false', decide_eq_true_eq, decide_eq_false_iff_not, beq_iff_eq, beq_eq_false_iff_ne, bne_iff_ne, bne_eq_false_iff_eq, ne_eq] at hc) <;> (try (have hb : @Eq Bool _ _ := hc; simp only [hb]; clear hb))))
      exact ret1b (fun _ => ex_ret) rfl rfl rfl ⟨rfl, rfl, rfl⟩
end Go.Proofs.Ytknblodiilgogaa
