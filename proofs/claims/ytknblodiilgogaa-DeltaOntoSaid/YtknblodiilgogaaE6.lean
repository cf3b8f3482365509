/- Totals of the pairs in a set. -/
import Derived.Test.YtknblodiilgogaaE5
set_option linter.all false
set_option maxRecDepth 100000
namespace Go.Proofs.Ytknblodiilgogaa
open Go Go.Abs

theorem fz_cons {i j : Nat} {t : Tmp} {fz : List (Nat × Tmp)} {st : St} : freezes cfg i ((j, t) :: fz) st = if (j == i) = true then (freezeT cfg t st).bind (freezes cfg i fz) else freezes cfg i fz st := by
  have e : (j == i) = Nat.beq j i := by rw [Bool.eq_iff_iff, beq_iff_eq, Nat.beq_eq]
  rw [e, freezes]
  cases Nat.beq j i
  · rfl
  · simp only [if_true]
    cases freezeT cfg t st <;> rfl
theorem dl_any {id : Nat} : V.drop1 id .any = .any := rfl
theorem dl_sl {id : Nat} {xs : List (List V)} : V.drop1 id (.sl true xs) = .sl true xs := rfl
theorem dl_ms {id k o n c : Nat} : V.drop1 id (.ms k o n c) = if (k == id) = true then .any else .ms k o n c := by
  have e : (k == id) = Nat.beq k id := by rw [Bool.eq_iff_iff, beq_iff_eq, Nat.beq_eq]
  rw [e]; unfold V.drop1; show (if (!Nat.beq k id) = true then _ else _) = _
  cases Nat.beq k id <;> rfl
theorem dl_ptr {id k o : Nat} : V.drop1 id (.ptr k o) = if (k == id) = true then .any else .ptr k o := by
  have e : (k == id) = Nat.beq k id := by rw [Bool.eq_iff_iff, beq_iff_eq, Nat.beq_eq]
  rw [e]; unfold V.drop1; show (if (!Nat.beq k id) = true then _ else _) = _
  cases Nat.beq k id <;> rfl
theorem dl_int {id : Nat} {k : IntKind} {n : Int} : V.drop1 id (.int k n) = .int k n := rfl
theorem dl_bool {id : Nat} {b : Bool} : V.drop1 id (.bool b) = .bool b := rfl
theorem dl_pc {id : Nat} {cs : List V} : V.drop1 id (.pc true cs) = .pc true cs := rfl
theorem dl_agg {id : Nat} {cs : List V} (h : V.alll (fun i => !Nat.beq i id) cs = true) : V.drop1 id (.agg cs) = .agg cs := by unfold V.drop1; show (if V.alll _ cs = true then _ else _) = _; rw [if_pos h]
theorem flatP_ren (f : Nat → Nat) (O : List PR) : V.renl f (flatP O) = flatP O := by
  induction O with
  | nil => rfl
  | cons o O ih =>
    show V.renl f (.int .i64 o.1 :: .int .i64 o.2 :: flatP O) = .int .i64 o.1 :: .int .i64 o.2 :: flatP O
    show V.int .i64 o.1 :: V.int .i64 o.2 :: V.renl f (flatP O) = _
    rw [ih]
theorem flatP_lt (n : Nat) (O : List PR) : V.ltl n (flatP O) = true := flatP_all _ O
theorem flatP_rows (O : List PR) : rowsOf 2 O.length (flatP O) = O.map prow := by
  induction O with
  | nil => rfl
  | cons o O ih =>
    show rowsOf 2 (O.length + 1) (.int .i64 o.1 :: .int .i64 o.2 :: flatP O) = _
    rw [rowsOf]
    show _ :: rowsOf 2 O.length (flatP O) = _
    rw [ih]; rfl
theorem flatP_take (O : List PR) : (flatP O).take (O.length * 2) = flatP O := List.take_of_length_le (by rw [flatP_len]; omega)

theorem flatP_take2 (o : PR) (r : List PR) : List.take 2 (flatP (o :: r)) = [.int .i64 o.1, .int .i64 o.2] := rfl
theorem flatP_drop2 (o : PR) (r : List PR) : List.drop 2 (flatP (o :: r)) = flatP r := rfl

/-- The sum, the least and the greatest of the values. -/
def vsum : List PR → Int
  | [] => 0
  | p :: r => p.2 + vsum r
theorem vsum_append (a b : List PR) : vsum (a ++ b) = vsum a + vsum b := by
  induction a with
  | nil => simp [vsum]
  | cons p a ih => simp only [List.cons_append, vsum, ih]; omega
def vlo (m : Int) (l : List PR) : Int := l.foldl (fun m p => min m p.2) m
def vhi (m : Int) (l : List PR) : Int := l.foldl (fun m p => max m p.2) m
theorem vsum_bound (l : List PR) (h : ∀ p ∈ l, -1099511627776 ≤ p.2 ∧ p.2 ≤ 1099511627776) : -(1099511627776 * (l.length : Int)) ≤ vsum l ∧ vsum l ≤ 1099511627776 * (l.length : Int) := by
  induction l with
  | nil => simp [vsum]
  | cons p l ih =>
    have h1 := h p (by simp)
    have h2 := ih fun q hq => h q (by simp [hq])
    simp only [vsum, List.length_cons]
    push_cast
    omega
def grow (k : Int) (l : List PR) (m : Int) : List V := [.int .i64 k, .int .i64 l.length, .int .i64 (vsum l), .int .i64 (vlo m l), .int .i64 (vhi m l)]

def T146 (k : Int) (l : List PR) (m : Int) (i : Nat) : St := { fr := mkF 46 [(4, .ptr 0 0), (5, .ptr 1 0), (20, .sl true (l.map prow)), (21, .int .i64 l.length), (22, .int .i64 i)], own := [], hp := [.cells 82 [] [.int .i64 0, .int .i64 0, .int .i64 0, .int .i64 0, .int .i64 0], .cells 82 [] [.int .i64 k, .int .i64 l.length, .int .i64 (vsum (l.take i)), .int .i64 (vlo m (l.take i)), .int .i64 (vhi m (l.take i))]], al := [], nb := 0 }
set_option maxHeartbeats 4000000 in
theorem call_70 (k : Int) (o : PR) (r : List PR) (hlen : (o :: r).length ≤ 100000) (hv : ∀ p ∈ o :: r, -1099511627776 ≤ p.2 ∧ p.2 ≤ 1099511627776) :
    (Lim cfg).call 70 [.int .i64 k, .sl true ((o :: r).map prow)] [] = some (.agg (grow k (o :: r) o.2), false, []) := by
  have hx0 : ((o :: r).map prow)[0]? = some (prow o) := rfl
  generalize hl : o :: r = l at hlen hv hx0 ⊢
  simp only [prow] at hx0
  have hz : ¬ ((0 : Int) < 0) := by omega
  refine call_eq fn_70 rfl ?_
  rw [k_start]
  simp only [Try.f70, List.length_cons, List.length_nil, Nat.zero_add, Nat.reduceSub, Nat.reduceAdd, List.replicate, List.cons_append, List.nil_append]
  simp only [go_sem, Nat.reduceAdd, Nat.reduceSub, Nat.reduceMul, Nat.reduceLT, Nat.reduceLeDiff, Nat.reduceEqDiff, Nat.reduceBEq, Nat.reduceBNe, reduceCtorEq, Int.reduceBNe, Int.reduceBEq, blt0, hx0, hz, Int.toNat_zero]
  refine k_loop (T146 k l o.2) (fun i => i ≤ l.length) (fun i => l.length - i) 0 (K := cfg.kill 70 3) rfl (Nat.zero_le _) (by kernel_rfl) ?_
  intro i hi k' Q' hnorm hexit hret
  simp only [T146, mkF, List.foldl, List.replicate, List.set, List.cons_append, List.nil_append]
  simp only [go_sem, Nat.reduceAdd, Nat.reduceSub, Nat.reduceMul, Nat.reduceLT, Nat.reduceLeDiff, Nat.reduceEqDiff, Nat.reduceBEq, Nat.reduceBNe, reduceCtorEq, Int.reduceBNe, Int.reduceBEq, blt0]
  by_cases hlt : i < l.length
  · have h1 : (i : Int) < (l.length : Int) := by omega
    have h2 : ¬ ((i : Int) < 0) := by omega
    have hx : (l.map prow)[i]? = some (prow l[i]) := by simp [hlt]
    have ht := List.take_succ_eq_append_getElem hlt
    have hb := vsum_bound (l.take i) fun p hp => hv p (List.mem_of_mem_take hp)
    have hb2 := hv l[i] (List.getElem_mem hlt)
    rw [List.length_take] at hb
    have hw : IntKind.i64.wrap (vsum (l.take i) + l[i].2) = vsum (l.take i) + l[i].2 := wrap_i64 (by omega) (by omega)
    simp only [go_sem, Nat.reduceAdd, Nat.reduceSub, Nat.reduceMul, Nat.reduceLT, Nat.reduceLeDiff, Nat.reduceEqDiff, Nat.reduceBEq, Nat.reduceBNe, reduceCtorEq, Int.reduceBNe, Int.reduceBEq, blt0, h1, h2, hx, prow, Int.toNat_natCast, hw, ite_min, ite_max]
    rw [wrap_i64 (by omega) (by omega)]
    refine hnorm (i + 1) _ (by omega) (by omega) ?_
    have e1 : vsum (l.take (i + 1)) = vsum (l.take i) + l[i].2 := by rw [ht, vsum_append]; simp [vsum]
    have e2 : vlo o.2 (l.take (i + 1)) = min (vlo o.2 (l.take i)) l[i].2 := by rw [ht, vlo, List.foldl_append]; rfl
    have e3 : vhi o.2 (l.take (i + 1)) = max (vhi o.2 (l.take i)) l[i].2 := by rw [ht, vhi, List.foldl_append]; rfl
    have eT : T146 k l o.2 (i + 1) = { fr := mkF 46 [(4, .ptr 0 0), (5, .ptr 1 0), (20, .sl true (l.map prow)), (21, .int .i64 l.length), (22, .int .i64 ((i + 1 : Nat) : Int))], own := [], hp := [.cells 82 [] [.int .i64 0, .int .i64 0, .int .i64 0, .int .i64 0, .int .i64 0], .cells 82 [] [.int .i64 k, .int .i64 l.length, .int .i64 (vsum (l.take i) + l[i].2), .int .i64 (min (vlo o.2 (l.take i)) l[i].2), .int .i64 (max (vhi o.2 (l.take i)) l[i].2)]], al := [], nb := 0 } := by
      rw [← e1, ← e2, ← e3]; rfl
    exact Eq.trans (by kernel_rfl) eT.symm
  · have h1 : ¬ (i : Int) < (l.length : Int) := by omega
    simp only [go_sem, Nat.reduceAdd, Nat.reduceSub, Nat.reduceMul, Nat.reduceLT, Nat.reduceLeDiff, Nat.reduceEqDiff, Nat.reduceBEq, Nat.reduceBNe, reduceCtorEq, Int.reduceBNe, Int.reduceBEq, blt0, h1]
    refine hexit 0 _ ?_
    simp only [go_sem, Nat.reduceAdd, Nat.reduceSub, Nat.reduceMul, Nat.reduceLT, Nat.reduceLeDiff, Nat.reduceEqDiff, Nat.reduceBEq, Nat.reduceBNe, reduceCtorEq, Int.reduceBNe, Int.reduceBEq, blt0]
    rw [List.take_of_length_le (by omega)]
    exact retc1 (fun _ => ex_ret) rfl rfl ⟨rfl, rfl, rfl⟩
end Go.Proofs.Ytknblodiilgogaa
