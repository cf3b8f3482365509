/- Rows of neighbours: the program's answer. -/
import Derived.Test.YtbpkaajokffpjaaE14
set_option linter.all false
set_option maxRecDepth 100000
namespace Go.Proofs.Ytbpkaajokffpjaa
open Go Go.Abs

def rrow (R : List PR) : List V := [.sl true (R.map prow)]
theorem fit_rrow (l : List (List PR)) : rowsFit 1 (l.map rrow) = true := by cases l <;> rfl
theorem head_rrow (l : List (List PR)) : headByte (l.map rrow) = false := by cases l <;> rfl
theorem head_rrow' (l : List (List PR)) (r : List (List V)) (h : headByte r = false) : headByte (l.map rrow ++ r) = false := by cases l <;> first | exact h | rfl
theorem slp_mid (M : List PR) {f k : Nat} (h1 : f ≤ k) (h : k ≤ M.length) : sliceV cfg 43 (.sl true (M.map prow)) (some (.int .i64 (f : Int))) (some (.int .i64 (k : Int))) none = some (.sl true (((M.drop f).take (k - f)).map prow)) := by
  have e1 : ((0 : Int) ≤ (k : Int) ∧ (k : Int) ≤ ((M.map prow).length : Nat)) := by rw [List.length_map]; omega
  have e3 : ((0 : Int) ≤ (f : Int) ∧ (f : Int) ≤ ((k : Nat) : Int)) := by omega
  have e2 : rowsFit 2 (M.map prow) = true := fit_prow M
  simp only [sliceV, ty_43, ty_125, Option.map_some, e2, bound, if_pos e1, if_pos e3, Bool.true_eq_false, if_false, Int.toNat_natCast]
  rw [List.map_take, List.map_drop]
theorem run_drop {w : Int} {L : List PR} {f i : Nat} (hf : f < i) (hi : i ≤ L.length) (ht : ∀ j (h : j < L.length), f < j → j < i → tog w L[j - 1] L[j] = true) (hc : ∀ h : i < L.length, tog w L[i - 1] L[i] = false) :
    rowsG w (L.drop f) = (L.drop f).take (i - f) :: rowsG w (L.drop i) := by
  obtain ⟨A, p, hA⟩ : ∃ A p, (L.drop f).take (i - f) = p :: A := by
    cases h : (L.drop f).take (i - f) with
    | nil => have := congrArg List.length h; rw [List.length_take, List.length_drop] at this; simp at this; omega
    | cons p A => exact ⟨A, p, rfl⟩
  have hs : L.drop f = (L.drop f).take (i - f) ++ L.drop i := by
    conv => lhs; rw [← List.take_append_drop (i - f) (L.drop f)]
    rw [List.drop_drop, show f + (i - f) = i by omega]
  have hlen : (p :: A).length = i - f := by rw [← hA, List.length_take, List.length_drop]; omega
  have hget : ∀ j (h : j < (p :: A).length), (p :: A)[j] = L[f + j]'(by omega) := fun j h => by
    have : (p :: A)[j]? = some (L[f + j]'(by omega)) := by
      rw [← hA, List.getElem?_take_of_lt (by omega), List.getElem?_drop, List.getElem?_eq_getElem]
    rw [List.getElem?_eq_getElem h] at this
    exact Option.some.inj this
  rw [hs, hA]
  rw [List.take_left' (by rw [hlen])]
  refine rowsG_run A p (L.drop i) (fun j h => ?_) fun q hq => ?_
  · rw [hget j (by omega), hget (j + 1) h]
    have := ht (f + j + 1) (by omega) (by omega) (by omega)
    simp only [Nat.add_sub_cancel] at this
    exact this
  · rw [List.head?_drop] at hq
    have hil : i < L.length := by
      by_cases h : i < L.length
      · exact h
      · rw [List.getElem?_eq_none (by omega)] at hq; simp at hq
    rw [List.getElem?_eq_getElem hil] at hq
    simp at hq
    subst hq
    rw [List.getLast_eq_getElem]
    have e : (p :: A)[(p :: A).length - 1]'(by simp) = L[i - 1]'(by omega) := by
      rw [hget _ (by simp)]
      congr 1
      omega
    rw [e]
    exact hc hil

theorem ret1hs {t : Tmp} {n : Nat} {e : Ex} {s : St} {R : V → Bool → List Blk → Prop} {v : V} {own : Bool} (he : ∀ i, e ≠ .exit i) (hv : s.fr.getD t .any = v) (hl : V.lt n v = true) (ho : (s.own.contains t && isSl v) = own)
    (ha : (s.hp.take n).all (Blk.all fun i => Nat.blt i n) = true) (h : R v own (s.hp.take n)) : Ret cfg [.tmp t] n R e s := by
  refine ⟨he, v, s.own.contains t, by simp only [resultsV, resOf, resOwn, hv, Option.map_some], ?_⟩
  rw [ho]
  simp only [hl, ha, Bool.and_self, if_true]
  exact h
def T144 (w : Int) (L : List PR) (x : Nat × Nat × List (List PR)) : St := { fr := mkF 41 [(0, .sl true (L.map prow)), (1, .fn 145 [.ptr 0 0]), (5, .sl true (x.2.2.map rrow)), (6, .int .i64 x.1), (7, .int .i64 x.2.1)], own := [5], hp := [widC w], al := [], nb := 1 }
set_option maxHeartbeats 4000000 in
theorem call_144 (w : Int) (L : List PR) (hlen : L.length ≤ 100000) (hw : 1 ≤ w) (hw2 : w ≤ 4096) (hv : ∀ p ∈ L, 0 ≤ p.1 ∧ p.1 < 4096) :
    (Lim cfg).call 144 [.sl true (L.map prow), .fn 145 [.ptr 0 0]] [widC w] = some (.sl true ((rowsG w L).map rrow), false, [widC w]) := by
  refine call_eq fn_144 rfl ?_
  rw [k_start]
  simp only [Try.f144, List.length_cons, List.length_nil, Nat.zero_add, Nat.reduceSub, Nat.reduceAdd, List.replicate, List.cons_append, List.nil_append]
  simp only [go_sem, Nat.reduceAdd, Nat.reduceSub, Nat.reduceMul, Nat.reduceLT, Nat.reduceLeDiff, Nat.reduceEqDiff, Nat.reduceBEq, Nat.reduceBNe, reduceCtorEq, Int.reduceBNe, Int.reduceBEq, blt0]
  refine k_loop (T144 w L) (fun x => x.1 < x.2.1 ∧ x.2.1 ≤ L.length + 1 ∧ x.1 ≤ L.length ∧ (x.2.1 = L.length + 1 → x.1 = L.length) ∧ x.2.2.length ≤ x.1 ∧ rowsG w L = x.2.2 ++ rowsG w (L.drop x.1) ∧ ∀ j (h : j < L.length), x.1 < j → j < x.2.1 → tog w L[j - 1] L[j] = true)
    (fun x => L.length + 1 - x.2.1) (0, 1, []) (K := cfg.kill 144 4) rfl ⟨Nat.zero_lt_one, Nat.succ_le_succ (Nat.zero_le _), Nat.zero_le _, (fun h => by simp only at h ⊢; omega), Nat.le_refl _, rfl, fun j _ h1 h2 => by simp only at h1 h2; omega⟩ (by kernel_rfl) ?_
  intro ⟨f, i, O⟩ ⟨hfi, hi, hf, hlast, hO, hrow, ht⟩ k' Q' hnorm hexit hret
  simp only at hfi hi hf hlast hO hrow ht
  simp only [T144, mkF, List.foldl, List.replicate, List.set, List.cons_append, List.nil_append]
  simp only [go_sem, Nat.reduceAdd, Nat.reduceSub, Nat.reduceMul, Nat.reduceLT, Nat.reduceLeDiff, Nat.reduceEqDiff, Nat.reduceBEq, Nat.reduceBNe, reduceCtorEq, Int.reduceBNe, Int.reduceBEq, blt0]
  by_cases hle : i ≤ L.length
  · have h1 : (i : Int) ≤ (L.length : Int) := by omega
    by_cases hn : i = L.length
    · have h2 : ((i : Int) == (L.length : Int)) = true := by rw [beq_iff_eq]; omega
      have s1 := slp_mid L (f := f) (k := i) (by omega) (by omega)
      have hb : (O.length + 1) * 24 ≤ strMax := by unfold strMax; omega
      have hh : headByte (O.map rrow ++ [[V.sl true (((L.drop f).take (i - f)).map prow)]]) = false := head_rrow' O _ rfl
      have hrun := run_drop (w := w) (L := L) hfi hle (fun j h a b => ht j h a b) (fun h => by omega)
      simp only [go_sem, Nat.reduceAdd, Nat.reduceSub, Nat.reduceMul, Nat.reduceLT, Nat.reduceLeDiff, Nat.reduceEqDiff, Nat.reduceBEq, Nat.reduceBNe, reduceCtorEq, Int.reduceBNe, Int.reduceBEq, blt0, h1, h2, s1, hb, hh, fit_rrow, head_rrow]
      rw [wrap_i64 (by omega) (by omega)]
      refine hnorm (i, i + 1, O ++ [(L.drop f).take (i - f)]) _ ⟨by simp only; omega, by simp only; omega, by simp only; omega, fun _ => by simp only; omega, by simp only [List.length_append, List.length_cons, List.length_nil]; omega, ?_, fun j h a b => by simp only at a b; omega⟩ (by simp only; omega) ?_
      · rw [hrow, hrun, List.append_assoc]; rfl
      · have eT : T144 w L (i, i + 1, O ++ [(L.drop f).take (i - f)]) = { fr := mkF 41 [(0, .sl true (L.map prow)), (1, .fn 145 [.ptr 0 0]), (5, .sl true (O.map rrow ++ [[V.sl true (((L.drop f).take (i - f)).map prow)]])), (6, .int .i64 i), (7, .int .i64 ((i + 1 : Nat) : Int))], own := [5], hp := [widC w], al := [], nb := 1 } := by
          simp only [T144, List.map_append, List.map_cons, List.map_nil, rrow]
        exact Eq.trans (by kernel_rfl) eT.symm
    · have h2 : ((i : Int) == (L.length : Int)) = false := beq_eq_false_iff_ne.2 (by omega)
      have hil : i < L.length := by omega
      have h3 : ¬ ((i : Int) < 0) := by omega
      have h4 : ¬ ((i : Int) - 1 < 0) := by omega
      have h5 : ((i : Int) - 1).toNat = i - 1 := by omega
      have h6 : IntKind.i64.wrap ((i : Int) - 1) = (i : Int) - 1 := wrap_i64 (by omega) (by omega)
      have hx : (L.map prow)[i]? = some (prow L[i]) := by simp [hil]
      have hx1 : (L.map prow)[i - 1]? = some (prow L[i - 1]) := by simp [show i - 1 < L.length by omega]
      have c1 := call_145 L[i - 1] L[i] w hw hw2 (hv _ (List.getElem_mem _)) (hv _ (List.getElem_mem _))
      simp only [go_sem, Nat.reduceAdd, Nat.reduceSub, Nat.reduceMul, Nat.reduceLT, Nat.reduceLeDiff, Nat.reduceEqDiff, Nat.reduceBEq, Nat.reduceBNe, reduceCtorEq, Int.reduceBNe, Int.reduceBEq, blt0, h1, h2, h3, h4, h5, h6, hx, hx1, Int.toNat_natCast, prow]
      rw [callHeap_at (R := [0]) c1]
      simp only [widC]
      by_cases htg : tog w L[i - 1] L[i] = true
      · simp only [go_sem, Nat.reduceAdd, Nat.reduceSub, Nat.reduceMul, Nat.reduceLT, Nat.reduceLeDiff, Nat.reduceEqDiff, Nat.reduceBEq, Nat.reduceBNe, reduceCtorEq, Int.reduceBNe, Int.reduceBEq, blt0, htg]
        rw [wrap_i64 (by omega) (by omega)]
        refine hnorm (f, i + 1, O) _ ⟨by simp only; omega, by simp only; omega, hf, (fun h => by simp only at h ⊢; omega), hO, hrow, fun j h a b => ?_⟩ (by simp only; omega) (by kernel_rfl)
        simp only at a b
        by_cases hji : j = i
        · subst hji; exact htg
        · exact ht j h a (by omega)
      · rw [Bool.not_eq_true] at htg
        have s1 := slp_mid L (f := f) (k := i) (by omega) (by omega)
        have hb : (O.length + 1) * 24 ≤ strMax := by unfold strMax; omega
        have hh : headByte (O.map rrow ++ [[V.sl true (((L.drop f).take (i - f)).map prow)]]) = false := head_rrow' O _ rfl
        have hrun := run_drop (w := w) (L := L) hfi hle (fun j h a b => ht j h a b) (fun h => htg)
        simp only [go_sem, Nat.reduceAdd, Nat.reduceSub, Nat.reduceMul, Nat.reduceLT, Nat.reduceLeDiff, Nat.reduceEqDiff, Nat.reduceBEq, Nat.reduceBNe, reduceCtorEq, Int.reduceBNe, Int.reduceBEq, blt0, htg, s1, hb, hh, fit_rrow, head_rrow]
        rw [wrap_i64 (by omega) (by omega)]
        refine hnorm (i, i + 1, O ++ [(L.drop f).take (i - f)]) _ ⟨by simp only; omega, by simp only; omega, by simp only; omega, (fun h => by simp only at h ⊢; omega), by simp only [List.length_append, List.length_cons, List.length_nil]; omega, ?_, fun j h a b => by simp only at a b; omega⟩ (by simp only; omega) ?_
        · rw [hrow, hrun, List.append_assoc]; rfl
        · have eT : T144 w L (i, i + 1, O ++ [(L.drop f).take (i - f)]) = { fr := mkF 41 [(0, .sl true (L.map prow)), (1, .fn 145 [.ptr 0 0]), (5, .sl true (O.map rrow ++ [[V.sl true (((L.drop f).take (i - f)).map prow)]])), (6, .int .i64 i), (7, .int .i64 ((i + 1 : Nat) : Int))], own := [5], hp := [widC w], al := [], nb := 1 } := by
            simp only [T144, List.map_append, List.map_cons, List.map_nil, rrow]
          exact Eq.trans (by kernel_rfl) eT.symm
  · have h1 : ¬ (i : Int) ≤ (L.length : Int) := by omega
    have hfn := hlast (by omega)
    simp only [go_sem, Nat.reduceAdd, Nat.reduceSub, Nat.reduceMul, Nat.reduceLT, Nat.reduceLeDiff, Nat.reduceEqDiff, Nat.reduceBEq, Nat.reduceBNe, reduceCtorEq, Int.reduceBNe, Int.reduceBEq, blt0, h1]
    refine hexit 0 _ ?_
    simp only [go_sem, Nat.reduceAdd, Nat.reduceSub, Nat.reduceMul, Nat.reduceLT, Nat.reduceLeDiff, Nat.reduceEqDiff, Nat.reduceBEq, Nat.reduceBNe, reduceCtorEq, Int.reduceBNe, Int.reduceBEq, blt0]
    have e : rowsG w L = O := by rw [hrow, hfn, List.drop_length]; exact List.append_nil _
    rw [e]
    exact ret1hs (own := false) (fun _ => ex_ret) rfl rfl rfl rfl ⟨rfl, rfl, rfl⟩
end Go.Proofs.Ytbpkaajokffpjaa
