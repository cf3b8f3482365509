/- The pairs whose keys are in a set: the program's answer, a block of its own. -/
import Derived.Test.YtknblodiilgogaaE4
set_option linter.all false
set_option maxRecDepth 100000
namespace Go.Proofs.Ytknblodiilgogaa
open Go Go.Abs

def flatP (O : List PR) : List V := (O.map prow).flatten
theorem flatP_len (O : List PR) : (flatP O).length = O.length * 2 := by
  induction O with
  | nil => rfl
  | cons o O ih => simp only [flatP, List.map_cons, List.flatten_cons, List.length_append, List.length_cons] at ih ⊢; rw [ih]; simp [prow]; omega
theorem flatP_all (p : Nat → Bool) (O : List PR) : V.alll p (flatP O) = true := by
  induction O with
  | nil => rfl
  | cons o O ih => exact ih
def clipB (O : List PR) : List Blk := match O with
  | [] => []
  | o :: _ => [.cells 72 [] (prow o), .cells 72 [] (flatP O)]
def clipV (O : List PR) : V := match O with
  | [] => .sl true []
  | _ :: r => .ms 1 0 (r.length + 1) (r.length + 1)
def T74 (l : List PR) (on : List SR) (x : Nat × List PR) : St := match x.2 with
  | [] => { fr := mkF 32 [(1, .sl true (on.map srow)), (5, .sl true []), (16, .sl true (l.map prow)), (17, .int .i64 l.length), (18, .int .i64 x.1)], own := [5], hp := [], al := [], nb := 0 }
  | o :: r => { fr := mkF 32 [(1, .sl true (on.map srow)), (5, .ms 1 0 (r.length + 1) (r.length + 1)), (16, .sl true (l.map prow)), (17, .int .i64 l.length), (18, .int .i64 x.1)], own := [], hp := [.cells 72 [] (prow o), .cells 72 [] (flatP (o :: r))], al := [], nb := 0 }
theorem ret1b {t : Tmp} {n : Nat} {e : Ex} {s : St} {R : V → Bool → List Blk → Prop} {v : V} (he : ∀ i, e ≠ .exit i) (hv : s.fr.getD t .any = v) (hl : V.lt n v = false) (hs : isSl v = false)
    (h : R v false s.hp) : Ret cfg [.tmp t] n R e s := by
  refine ⟨he, v, s.own.contains t, by simp only [resultsV, resOf, resOwn, hv, Option.map_some], ?_⟩
  rw [hs, Bool.and_false]
  simp only [hl, Bool.false_and, Bool.false_eq_true, if_false]
  exact h
theorem dr_any : V.drop1 1 .any = .any := rfl
theorem dr_sl {xs : List (List V)} : V.drop1 1 (.sl true xs) = .sl true xs := rfl
theorem dr_ms {o n c : Nat} : V.drop1 1 (.ms 1 o n c) = .any := rfl
theorem dr_ptr {o : Nat} : V.drop1 1 (.ptr 2 o) = .ptr 2 o := rfl
theorem dr_int {k : IntKind} {n : Int} : V.drop1 1 (.int k n) = .int k n := rfl
theorem dr_bool {b : Bool} : V.drop1 1 (.bool b) = .bool b := rfl
theorem dr_pc {cs : List V} : V.drop1 1 (.pc true cs) = .pc true cs := rfl
theorem dr_agg {k k' : IntKind} {a b : Int} : V.drop1 1 (.agg [.int k a, .int k' b]) = .agg [.int k a, .int k' b] := rfl
/-- Two blocks are kept at a head, and a third one goes. -/
theorem head_two {s : St} {K : List Nat} {A B C : Blk} {fr : List V} {own : List Nat} (hh : s.hp = [A, B, C]) (hA : ∀ p, Blk.all p A = true) (hB : ∀ p, Blk.all p B = true) (hnb : s.nb = 0) (hfr : killAll s.fr K = fr)
    (hown : s.own.filter (fun t => !K.contains t) = own) (hn : topIds fr = 2) (hl : V.ltl 2 fr = true) : s.head K = { fr := fr, own := own, hp := [A, B], al := [], nb := 0 } := by
  subst hfr hown
  obtain ⟨f, o, h, a, n⟩ := s
  simp only at hh hnb hn hl
  subst hh hnb
  simp only [St.head, St.kill, St.gc, hn, hl, List.length_cons, List.length_nil]
  simp [upTo, hA, hB, hl]
set_option maxHeartbeats 4000000 in
theorem call_62 (l : List PR) (on : List SR) (hlen : l.length ≤ 100000) (hon : on.length ≤ 100000) :
    (Lim cfg).call 62 [.sl true (l.map prow), .sl true (on.map srow)] [] = some (clipV (clip l on), !(chk l && setS on), clipB (clip l on)) := by
  have c1 := call_49 l hlen
  have c2 := call_67 on hon
  by_cases hc : chk l = true
  · rw [hc] at c1
    by_cases hs : setS on = true
    · rw [hs] at c2
      refine call_eq fn_62 rfl ?_
      rw [k_start]
      simp only [Try.f62, List.length_cons, List.length_nil, Nat.zero_add, Nat.reduceSub, Nat.reduceAdd, List.replicate, List.cons_append, List.nil_append]
      simp only [go_sem, Nat.reduceAdd, Nat.reduceSub, Nat.reduceMul, Nat.reduceLT, Nat.reduceLeDiff, Nat.reduceEqDiff, Nat.reduceBEq, Nat.reduceBNe, reduceCtorEq, Int.reduceBNe, Int.reduceBEq, blt0, c1, c2]
      refine k_loop (T74 l on) (fun x => x.1 ≤ l.length ∧ x.2 = (l.take x.1).filter (onP on)) (fun x => l.length - x.1) (0, []) (K := cfg.kill 62 5) rfl ⟨Nat.zero_le _, rfl⟩ (by kernel_rfl) ?_
      intro ⟨i, O⟩ ⟨hi, hO⟩ k' Q' hnorm hexit hret
      simp only at hi hO
      by_cases hlt : i < l.length
      · have h1 : (i : Int) < (l.length : Int) := by omega
        have h2 : ¬ ((i : Int) < 0) := by omega
        have hx : (l.map prow)[i]? = some (prow l[i]) := by simp [hlt]
        have c3 := call_84 on l[i].1 hon
        by_cases hh : hasS on l[i].1 = true
        · rw [hh] at c3
          have ei := filter_step (on := on) hlt
          rw [if_pos hh, ← hO] at ei
          match O, hO with
          | [], hO =>
            simp only [T74, mkF, List.foldl, List.replicate, List.set, List.cons_append, List.nil_append]
            have hb : 16 ≤ strMax := by decide
            simp only [go_sem, Nat.reduceAdd, Nat.reduceSub, Nat.reduceMul, Nat.reduceLT, Nat.reduceLeDiff, Nat.reduceEqDiff, Nat.reduceBEq, Nat.reduceBNe, reduceCtorEq, Int.reduceBNe, Int.reduceBEq, blt0, h1, h2, hx, prow, Int.toNat_natCast, c3, appendM, emptyM, emptyV, appendNilM, zerosM, srcM, birthM, hb]
            try rw [wrap_i64 (by omega) (by omega)]
            refine hnorm (i + 1, _) _ ⟨by omega, ei.symm⟩ (by simp only; omega) ?_
            kernel_rfl
          | o :: r, hO =>
            simp only [T74, mkF, List.foldl, List.replicate, List.set, List.cons_append, List.nil_append]
            have q1 : (flatP (o :: r)).length = (r.length + 1) * 2 := flatP_len _
            have hr : r.length + 1 ≤ l.length := by have := congrArg List.length hO; have := List.length_filter_le (onP on) (l.take i); rw [List.length_take] at this; simp only [List.length_cons] at *; omega
            have q2 : ¬ (r.length + 1 + 1 ≤ r.length + 1) := by omega
            have q3 : (r.length + 1 + 1) * 16 ≤ strMax := by unfold strMax; omega
            have q4 : ∀ p : Nat → Bool, V.alll p (flatP (o :: r) ++ [.int .i64 l[i].1, .int .i64 l[i].2]) = true := fun p => by
              have := flatP_all p (o :: r ++ [l[i]])
              simpa [flatP, prow] using this
            have q5 : aloneIn 1 [Blk.cells 72 [] [V.int IntKind.i64 o.fst, V.int IntKind.i64 o.snd], Blk.cells 72 [] (flatP (o :: r)), Blk.cells 72 [] [V.int IntKind.i64 l[i].fst, V.int IntKind.i64 l[i].snd]] = true := rfl
            simp only [go_sem, Nat.reduceAdd, Nat.reduceSub, Nat.reduceMul, Nat.reduceLT, Nat.reduceLeDiff, Nat.reduceEqDiff, Nat.reduceBEq, Nat.reduceBNe, reduceCtorEq, Int.reduceBNe, Int.reduceBEq, blt0, h1, h2, hx, prow, Int.toNat_natCast, c3, appendM, srcM, appendAtM, q1, q2, q3, q4, q5, St.lose, List.map_cons, List.map_nil, dr_any, dr_sl, dr_ms, dr_ptr, dr_int, dr_bool, dr_pc, dr_agg]
            try rw [wrap_i64 (by omega) (by omega)]
            refine hnorm (i + 1, _) _ ⟨by omega, ei.symm⟩ (by simp only; omega) ?_
            have eT : T74 l on (i + 1, o :: r ++ [l[i]]) = { fr := mkF 32 [(1, .sl true (on.map srow)), (5, .ms 1 0 (r.length + 1 + 1) (r.length + 1 + 1)), (16, .sl true (l.map prow)), (17, .int .i64 l.length), (18, .int .i64 ((i + 1 : Nat) : Int))], own := [], hp := [.cells 72 [] (prow o), .cells 72 [] (flatP (o :: r) ++ prow l[i])], al := [], nb := 0 } := by
              have e1 : flatP (o :: r) ++ prow l[i] = flatP (o :: (r ++ [l[i]])) := by simp [flatP]
              rw [e1]
              simp only [T74, List.cons_append, List.length_append, List.length_cons, List.length_nil]
            rw [eT]
            exact head_two (A := .cells 72 [] (prow o)) (B := .cells 72 [] (flatP (o :: r) ++ prow l[i])) (C := .cells 72 [] (prow l[i])) (by kernel_rfl) (fun p => rfl) q4 rfl (by kernel_rfl) (by kernel_rfl) (by kernel_rfl) (by kernel_rfl)
        · rw [Bool.not_eq_true] at hh
          rw [hh] at c3
          have ei := filter_step (on := on) hlt
          rw [if_neg (by rw [hh]; simp), List.append_nil, ← hO] at ei
          match O, hO with
          | [], hO =>
            simp only [T74, mkF, List.foldl, List.replicate, List.set, List.cons_append, List.nil_append]
            simp only [go_sem, Nat.reduceAdd, Nat.reduceSub, Nat.reduceMul, Nat.reduceLT, Nat.reduceLeDiff, Nat.reduceEqDiff, Nat.reduceBEq, Nat.reduceBNe, reduceCtorEq, Int.reduceBNe, Int.reduceBEq, blt0, h1, h2, hx, prow, Int.toNat_natCast, c3]
            try rw [wrap_i64 (by omega) (by omega)]
            refine hnorm (i + 1, _) _ ⟨by omega, ei.symm⟩ (by simp only; omega) ?_
            kernel_rfl
          | o :: r, hO =>
            simp only [T74, mkF, List.foldl, List.replicate, List.set, List.cons_append, List.nil_append]
            simp only [go_sem, Nat.reduceAdd, Nat.reduceSub, Nat.reduceMul, Nat.reduceLT, Nat.reduceLeDiff, Nat.reduceEqDiff, Nat.reduceBEq, Nat.reduceBNe, reduceCtorEq, Int.reduceBNe, Int.reduceBEq, blt0, h1, h2, hx, prow, Int.toNat_natCast, c3]
            try rw [wrap_i64 (by omega) (by omega)]
            refine hnorm (i + 1, _) _ ⟨by omega, ei.symm⟩ (by simp only; omega) ?_
            exact head_two rfl (fun p => rfl) (fun p => flatP_all p _) rfl (by kernel_rfl) (by kernel_rfl) (by kernel_rfl) (by kernel_rfl)
      · have h1 : ¬ (i : Int) < (l.length : Int) := by omega
        have eO : clip l on = O := by rw [clip, if_pos (by rw [hc, hs]; rfl), hO, List.take_of_length_le (by omega)]
        rw [eO] at hexit hret
        match O, hO with
        | [], hO =>
          simp only [T74, mkF, List.foldl, List.replicate, List.set, List.cons_append, List.nil_append]
          simp only [go_sem, Nat.reduceAdd, Nat.reduceSub, Nat.reduceMul, Nat.reduceLT, Nat.reduceLeDiff, Nat.reduceEqDiff, Nat.reduceBEq, Nat.reduceBNe, reduceCtorEq, Int.reduceBNe, Int.reduceBEq, blt0, h1]
          refine hexit 0 _ ?_
          simp only [go_sem, Nat.reduceAdd, Nat.reduceSub, Nat.reduceMul, Nat.reduceLT, Nat.reduceLeDiff, Nat.reduceEqDiff, Nat.reduceBEq, Nat.reduceBNe, reduceCtorEq, Int.reduceBNe, Int.reduceBEq, blt0]
          exact ret1 (fun _ => ex_ret) rfl rfl rfl ⟨rfl, by rw [hc, hs]; rfl, rfl⟩
        | o :: r, hO =>
          simp only [T74, mkF, List.foldl, List.replicate, List.set, List.cons_append, List.nil_append]
          simp only [go_sem, Nat.reduceAdd, Nat.reduceSub, Nat.reduceMul, Nat.reduceLT, Nat.reduceLeDiff, Nat.reduceEqDiff, Nat.reduceBEq, Nat.reduceBNe, reduceCtorEq, Int.reduceBNe, Int.reduceBEq, blt0, h1]
          refine hexit 0 _ ?_
          simp only [go_sem, Nat.reduceAdd, Nat.reduceSub, Nat.reduceMul, Nat.reduceLT, Nat.reduceLeDiff, Nat.reduceEqDiff, Nat.reduceBEq, Nat.reduceBNe, reduceCtorEq, Int.reduceBNe, Int.reduceBEq, blt0]
          exact ret1b (fun _ => ex_ret) rfl rfl rfl ⟨rfl, by rw [hc, hs]; rfl, rfl⟩
    · rw [Bool.not_eq_true] at hs
      rw [hs] at c2
      rw [show clip l on = [] by rw [clip, if_neg (by simp [hs])]]
      refine call_eq fn_62 rfl ?_
      rw [k_start]
      simp only [Try.f62, List.length_cons, List.length_nil, Nat.zero_add, Nat.reduceSub, Nat.reduceAdd, List.replicate, List.cons_append, List.nil_append]
      simp only [go_sem, Nat.reduceAdd, Nat.reduceSub, Nat.reduceMul, Nat.reduceLT, Nat.reduceLeDiff, Nat.reduceEqDiff, Nat.reduceBEq, Nat.reduceBNe, reduceCtorEq, Int.reduceBNe, Int.reduceBEq, blt0, c1, c2]
      exact ret1 (fun _ => ex_ret) rfl rfl rfl ⟨rfl, by rw [hs, Bool.and_false]; rfl, rfl⟩
  · rw [Bool.not_eq_true] at hc
    rw [hc] at c1
    rw [show clip l on = [] by rw [clip, if_neg (by simp [hc])]]
    refine call_eq fn_62 rfl ?_
    rw [k_start]
    simp only [Try.f62, List.length_cons, List.length_nil, Nat.zero_add, Nat.reduceSub, Nat.reduceAdd, List.replicate, List.cons_append, List.nil_append]
    simp only [go_sem, Nat.reduceAdd, Nat.reduceSub, Nat.reduceMul, Nat.reduceLT, Nat.reduceLeDiff, Nat.reduceEqDiff, Nat.reduceBEq, Nat.reduceBNe, reduceCtorEq, Int.reduceBNe, Int.reduceBEq, blt0, c1]
    exact ret1 (fun _ => ex_ret) rfl rfl rfl ⟨rfl, by rw [hc, Bool.false_and]; rfl, rfl⟩
end Go.Proofs.Ytknblodiilgogaa
