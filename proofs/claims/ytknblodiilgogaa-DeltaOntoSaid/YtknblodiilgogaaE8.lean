/- A key's place, by halving: the library's search. -/
import Derived.Test.YtknblodiilgogaaE7
set_option linter.all false
set_option maxRecDepth 100000
namespace Go.Proofs.Ytknblodiilgogaa
open Go Go.Abs

theorem shr_1u (n : Nat) : shiftOp .shr .u64 (n : Int) 1 = some (.int .u64 ((n / 2 : Nat) : Int)) := by
  have e : (2 : Int) ^ (min (1 : Int).toNat IntKind.u64.bits) = 2 := by decide
  simp only [shiftOp, e]
  rw [if_neg (by omega), Int.fdiv_eq_ediv_of_nonneg _ (by omega)]; norm_cast
theorem wrap_u64 {n : Int} (h1 : 0 ≤ n) (h2 : n < 18446744073709551616) : IntKind.u64.wrap n = n := by
  show n % 18446744073709551616 = n
  omega
def foundK (k : Int) (l : List PR) : Bool := decide (∃ p, l[cnt k l]? = some p ∧ p.1 = k)
def T133 (g : FuncId) (l : List PR) (k : Int) (x : Nat × Nat) : St := { fr := mkF 49 [(0, .sl true (l.map prow)), (1, .int .i64 k), (2, .fn g []), (8, .int .i64 l.length), (9, .int .i64 x.1), (10, .int .i64 x.2)], own := [], hp := [], al := [], nb := 0 }
set_option maxHeartbeats 4000000 in
theorem search_page (l : List PR) (k : Int) (hlen : l.length ≤ 100000) (hr : rise l) : (Lim cfg).call 63 [.sl true (l.map prow), .int .i64 k, .fn 64 []] [] =
    some (.tup [.int .i64 (cnt k l), .bool (foundK k l)], false, []) := by
  have call_G := call_64
  have fin : ∀ i : Nat, i = cnt k l → foundK k l = (if h : i < l.length then decide (l[i].1 = k) else false) := fun i hi => by
    subst hi
    unfold foundK
    split
    · rename_i h
      exact decide_eq_decide.2 ⟨fun ⟨p, h1, h2⟩ => by rw [List.getElem?_eq_getElem h] at h1; cases h1; exact h2, fun h2 => ⟨_, List.getElem?_eq_getElem h, h2⟩⟩
    · rename_i h
      exact decide_eq_false fun ⟨p, h1, _⟩ => by rw [List.getElem?_eq_none (by omega)] at h1; cases h1
  have hcl := cnt_le k l
  refine call_eq fn_63 rfl ?_
  rw [k_start]
  simp only [Try.f63, List.length_cons, List.length_nil, Nat.zero_add, Nat.reduceSub, Nat.reduceAdd, List.replicate, List.cons_append, List.nil_append]
  simp only [go_sem, Nat.reduceAdd, Nat.reduceSub, Nat.reduceMul, Nat.reduceLT, Nat.reduceLeDiff, Nat.reduceEqDiff, Nat.reduceBEq, Nat.reduceBNe, reduceCtorEq, Int.reduceBNe, Int.reduceBEq, blt0]
  refine k_loop (T133 64 l k) (fun x => x.1 ≤ cnt k l ∧ cnt k l ≤ x.2 ∧ x.2 ≤ l.length) (fun x => x.2 - x.1) (0, l.length) (K := cfg.kill 63 3) rfl ⟨Nat.zero_le _, hcl, Nat.le_refl _⟩ (by kernel_rfl) ?_
  intro ⟨i, j⟩ ⟨hi, hj, hjl⟩ k' Q' hnorm hexit hret
  simp only at hi hj hjl
  simp only [T133, mkF, List.foldl, List.replicate, List.set, List.cons_append, List.nil_append]
  simp only [go_sem, Nat.reduceAdd, Nat.reduceSub, Nat.reduceMul, Nat.reduceLT, Nat.reduceLeDiff, Nat.reduceEqDiff, Nat.reduceBEq, Nat.reduceBNe, reduceCtorEq, Int.reduceBNe, Int.reduceBEq, blt0]
  by_cases hlt : i < j
  · have h1 : (i : Int) < (j : Int) := by omega
    have w1 : IntKind.i64.wrap ((i : Int) + (j : Int)) = ((i + j : Nat) : Int) := by rw [wrap_i64 (by omega) (by omega)]; push_cast; rfl
    have w2 : IntKind.u64.wrap ((i + j : Nat) : Int) = ((i + j : Nat) : Int) := wrap_u64 (by omega) (by omega)
    have w3 : IntKind.i64.wrap (((i + j) / 2 : Nat) : Int) = (((i + j) / 2 : Nat) : Int) := wrap_i64 (by omega) (by omega)
    have hh : (i + j) / 2 < l.length := by omega
    have h2 : ¬ ((((i + j) / 2 : Nat) : Int) < 0) := by omega
    have hx : (l.map prow)[(i + j) / 2]? = some (prow l[(i + j) / 2]) := by simp [hh]
    have c1 := call_G l[(i + j) / 2] k
    have hc := cnt_at (k := k) hr hh
    simp only [go_sem, Nat.reduceAdd, Nat.reduceSub, Nat.reduceMul, Nat.reduceLT, Nat.reduceLeDiff, Nat.reduceEqDiff, Nat.reduceBEq, Nat.reduceBNe, reduceCtorEq, Int.reduceBNe, Int.reduceBEq, blt0, h1, w1, w2, w3, shr_1u, h2, hx, Int.toNat_natCast, prow]
    simp only [prow] at c1
    by_cases hb : l[(i + j) / 2].1 < k
    · have h3 : cmpI l[(i + j) / 2].1 k < 0 := by simp [cmpI, hb]
      simp only [go_sem, Nat.reduceAdd, Nat.reduceSub, Nat.reduceMul, Nat.reduceLT, Nat.reduceLeDiff, Nat.reduceEqDiff, Nat.reduceBEq, Nat.reduceBNe, reduceCtorEq, Int.reduceBNe, Int.reduceBEq, blt0, c1, h3]
      rw [wrap_i64 (by omega) (by omega)]
      exact hnorm ((i + j) / 2 + 1, j) _ ⟨hc.1 hb, hj, hjl⟩ (by simp only; omega) (by kernel_rfl)
    · have h3 : ¬ cmpI l[(i + j) / 2].1 k < 0 := by unfold cmpI; rw [if_neg hb]; split <;> omega
      simp only [go_sem, Nat.reduceAdd, Nat.reduceSub, Nat.reduceMul, Nat.reduceLT, Nat.reduceLeDiff, Nat.reduceEqDiff, Nat.reduceBEq, Nat.reduceBNe, reduceCtorEq, Int.reduceBNe, Int.reduceBEq, blt0, c1, h3]
      exact hnorm (i, (i + j) / 2) _ ⟨hi, by have := mt hc.2 hb; simp only; omega, by simp only; omega⟩ (by simp only; omega) (by kernel_rfl)
  · have h1 : ¬ (i : Int) < (j : Int) := by omega
    have hic : i = cnt k l := by omega
    simp only [go_sem, Nat.reduceAdd, Nat.reduceSub, Nat.reduceMul, Nat.reduceLT, Nat.reduceLeDiff, Nat.reduceEqDiff, Nat.reduceBEq, Nat.reduceBNe, reduceCtorEq, Int.reduceBNe, Int.reduceBEq, blt0, h1]
    refine hexit 0 _ ?_
    rw [fin i hic, ← hic]
    by_cases hil : i < l.length
    · have h2 : (i : Int) < (l.length : Int) := by omega
      have h3 : ¬ ((i : Int) < 0) := by omega
      have hx : (l.map prow)[i]? = some (prow l[i]) := by simp [hil]
      have c1 := call_G l[i] k
      simp only [prow] at c1
      have e1 : (cmpI l[i].1 k == 0) = decide (l[i].1 = k) := by
        unfold cmpI
        rw [Bool.eq_iff_iff, beq_iff_eq, decide_eq_true_eq]
        split
        · constructor <;> intro <;> omega
        · split <;> constructor <;> intro <;> omega
      rw [dif_pos hil]
      simp only [go_sem, Nat.reduceAdd, Nat.reduceSub, Nat.reduceMul, Nat.reduceLT, Nat.reduceLeDiff, Nat.reduceEqDiff, Nat.reduceBEq, Nat.reduceBNe, reduceCtorEq, Int.reduceBNe, Int.reduceBEq, blt0, h2, h3, hx, Int.toNat_natCast, prow, c1, e1]
      exact ret2 (fun _ => ex_ret) rfl rfl rfl rfl ⟨rfl, rfl, rfl⟩
    · have h2 : ¬ (i : Int) < (l.length : Int) := by omega
      rw [dif_neg hil]
      simp only [go_sem, Nat.reduceAdd, Nat.reduceSub, Nat.reduceMul, Nat.reduceLT, Nat.reduceLeDiff, Nat.reduceEqDiff, Nat.reduceBEq, Nat.reduceBNe, reduceCtorEq, Int.reduceBNe, Int.reduceBEq, blt0, h2]
      exact ret2 (fun _ => ex_ret) rfl rfl rfl rfl ⟨rfl, rfl, rfl⟩
end Go.Proofs.Ytknblodiilgogaa
